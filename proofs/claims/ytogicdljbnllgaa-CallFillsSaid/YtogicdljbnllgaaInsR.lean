/- The walks of gavelref13.better, gavelref13.order. -/
import Derived.Test.YtogicdljbnllgaaInsP
import Derived.Test.YtogicdljbnllgaaClear
import Derived.Test.YtogicdljbnllgaaSmall
namespace Go.Proofs.Ytogicdljbnllgaa
open Go.Shelf Go.RowKit Go.Lib Go.Sort Go.Proofs

def κOf : Bool → Int × Int → Int
  | true => κB
  | false => κS
theorem keyK_at {κ : Int × Int → Int} {l : List (Int × Int)} {i : Nat} {x : Int × Int} (h : l[i]? = some x) : keyK κ l (i : Int) = κ x := by unfold keyK wantAt; rw [Int.toNat_natCast, h]; rfl
set_option maxRecDepth 100000 in
set_option maxHeartbeats 4000000 in
theorem better_any (A : Option Addr) (c : Nat) (l : List (Int × Int)) (bu : Bool) (i j : Nat) (w : World) (h : Wants w w.heap.size A l) (hi : i < l.length) (hji : j < i) :
    Calls Try.prog 48 #[.slice A l.length c, .int .i64 (i : Int), .int .i64 (j : Int), .bool bu] w (ValPost (.bool (decide (keyK (κOf bu) l (i : Int) < keyK (κOf bu) l (j : Int)))) w) := by
  obtain ⟨⟨x, xn⟩, hx⟩ : ∃ x, l[i]? = some x := ⟨l[i], List.getElem?_eq_getElem hi⟩
  obtain ⟨⟨y, yn⟩, hy⟩ : ∃ y, l[j]? = some y := ⟨l[j]'(by omega), List.getElem?_eq_getElem _⟩
  rw [keyK_at hx, keyK_at hy]
  obtain ⟨b, o, rfl, hbB, hcl⟩ := Wants.at_ h (by omega)
  have u0 := (hcl i _ hx).1
  have u1 := (hcl j _ hy).1
  simp only at u0 u1
  have hil : (i : Int) < (l.length : Int) := by omega
  have hjl : (j : Int) < (l.length : Int) := by omega
  have hjn : j < l.length := by omega
  clear hcl hx hy h hbB
  by_cases hxy : x = y
  · have h1 : decide (κOf bu (x, xn) < κOf bu (y, yn)) = false := decide_eq_false (by subst hxy; cases bu <;> simp [κOf, κB, κS])
    have h2 : (x != y) = false := by simpa using hxy
    have h3 : decide (i < j) = false := decide_eq_false (by omega)
    have h4 : ¬ ((i : Int) < (j : Int)) := by omega
    rw [h1]
    clear h1
    go_enter Try.func48, Try.ntmps48
    go_wp2_with fail
    go_quiet (fail)
    go_wp2_with fail
    go_ret
    exact ⟨rfl, below_drewN (Below.refl _ _) _⟩
  · have h2 : (x != y) = true := by simpa using hxy
    by_cases hlt : y < x
    · have h5 : decide (y < x) = true := decide_eq_true hlt
      have h1 : decide (κOf bu (x, xn) < κOf bu (y, yn)) = bu := by
        cases bu
        · exact decide_eq_false (by simp only [κOf, κS]; omega)
        · exact decide_eq_true (by simp only [κOf, κB]; omega)
      rw [h1]
      clear h1
      go_enter Try.func48, Try.ntmps48
      go_wp2_with fail
      go_quiet (fail)
      go_wp2_with fail
      go_quiet (fail)
      go_wp2_with fail
      go_ret
      exact ⟨rfl, below_drewN (below_drewN (Below.refl _ _) _) _⟩
    · have h5 : decide (y < x) = false := decide_eq_false hlt
      have h1 : decide (κOf bu (x, xn) < κOf bu (y, yn)) = !bu := by
        cases bu
        · exact decide_eq_true (by simp only [κOf, κS]; omega)
        · exact decide_eq_false (by simp only [κOf, κB]; omega)
      rw [h1]
      clear h1
      go_enter Try.func48, Try.ntmps48
      go_wp2_with fail
      go_quiet (fail)
      go_wp2_with fail
      go_quiet (fail)
      go_wp2_with fail
      go_ret
      exact ⟨rfl, below_drewN (below_drewN (Below.refl _ _) _) _⟩

/-- The row while its places from p on are carried up. -/
structure Shv (out : List Int) (k p : Nat) (ys : List Int) : Prop where
  len : ys.length = k + 1
  lo : ∀ t, t ≤ p → t < k → ys[t]? = out[t]?
  hi : ∀ t, p < t → t ≤ k → ys[t]? = out[t - 1]?
theorem Shv.start {out : List Int} {k : Nat} (h : out.length = k) (x : Int) : Shv out k k (out ++ [x]) :=
  ⟨by simp [h], fun t _ ht => by rw [List.getElem?_append_left (by omega)], fun t h1 h2 => by omega⟩
theorem Shv.step {out ys : List Int} {k p : Nat} (h : Shv out k p ys) (hp : 0 < p) (hpk : p ≤ k) {y : Int} (hy : out[p - 1]? = some y) : Shv out k (p - 1) (ys.set p y) := by
  refine ⟨by simpa using h.len, fun t ht hk => ?_, fun t ht hk => ?_⟩
  · rw [List.getElem?_set_ne (by omega)]; exact h.lo t (by omega) hk
  · by_cases e : t = p
    · subst e
      rw [List.getElem?_set_self (by have := h.len; omega), hy]
    · rw [List.getElem?_set_ne (by omega)]; exact h.hi t (by omega) hk
theorem Shv.done {out ys : List Int} {k a : Nat} (h : Shv out k a ys) (ho : out.length = k) (ha : a ≤ k) (x : Int) : ys.set a x = out.take a ++ x :: out.drop a := by
  apply List.ext_getElem?
  intro t
  have hta : (out.take a).length = a := by simp; omega
  rcases Nat.lt_trichotomy t a with e | e | e
  · rw [List.getElem?_set_ne (by omega), List.getElem?_append_left (by omega), List.getElem?_take_of_lt e]
    exact h.lo t (by omega) (by omega)
  · subst e
    rw [List.getElem?_set_self (by have := h.len; omega), List.getElem?_append_right (by omega), hta]
    simp
  · rw [List.getElem?_set_ne (by omega), List.getElem?_append_right (by omega), hta]
    obtain ⟨s, hs⟩ : ∃ s, t - a = s + 1 := ⟨t - a - 1, by omega⟩
    rw [hs, List.getElem?_cons_succ, List.getElem?_drop]
    by_cases htk : t ≤ k
    · rw [h.hi t e htk]
      congr 1
      omega
    · rw [List.getElem?_eq_none (by have := h.len; omega), List.getElem?_eq_none (by omega)]

/-- A row of numbers of the call's own. -/
def OrdRP (o : List Int) (w : World) (e : Ending) (w' : World) : Prop := ∃ v, e = .returned v ∧ w'.ownsRow w.heap.size 3 1 v o.length (o.map (Value.int .i64)) ∧ Below w.heap.size w w'
set_option maxRecDepth 100000 in
set_option maxHeartbeats 16000000 in
theorem reforder_any (A : Option Addr) (c : Nat) (l : List (Int × Int)) (bu : Bool) (w : World) (h : Wants w w.heap.size A l) (hl : l.length ≤ 1000000) :
    Calls Try.prog 41 #[.slice A l.length c, .bool bu] w (OrdRP (ordK (κOf bu) l) w) := by
  have HW := hide h
  clear h
  go_enter Try.func41, Try.ntmps41
  go_wp2_with fail
  go_loopw [5, 6] (fun v i wr => ∃ (k : Nat) (out : List Int), k ≤ l.length ∧ i = .int .i64 k ∧ wr.ownsRow w.heap.size 3 1 v k (out.map (Value.int .i64)) ∧ InsK (κOf bu) l k out ∧ Below w.heap.size w wr) (fun _ i _ => l.length - (intOf i).toNat)
  case atStart => exact ⟨0, [], Nat.zero_le _, rfl, World.ownsRow_nil _ _ _ _, ⟨List.Perm.refl _, List.Pairwise.nil⟩, Below.refl _ _⟩
  case round =>
    obtain ⟨k, out, hk, rfl, hown, hord, hb⟩ := hrel
    obtain ⟨A1, c1, rfl, _⟩ := own_sh hown
    have HO := hide hown
    have HD := hide hord
    have HB := hide hb
    have HLN := hide hord.len
    clear hown hord hb
    by_cases hlt : k < l.length
    · go_wp2_with fail
      obtain ⟨wo, rfl⟩ : ∃ wo : World, wo = wr := ⟨_, rfl⟩
      go_loopw [7] (fun at_ wr2 => ∃ a : Nat, a ≤ k ∧ at_ = .int .i64 a ∧ Below wo.heap.size wo wr2 ∧ Hid (∀ t y, a ≤ t → out[t]? = some y → keyK (κOf bu) l (k : Int) < keyK (κOf bu) l y)) (fun at_ _ => (intOf at_).toNat)
      case atStart => exact ⟨k, Nat.le_refl _, rfl, Below.refl _ _, hide (fun t y ht hy => by have := (List.getElem?_eq_some_iff.1 hy).1; have := HLN.out; omega)⟩
      case round =>
        rename World => ws
        obtain ⟨a, hak, rfl, hb2, HV⟩ := hrel
        have HB2 := hide hb2
        have HBW : Hid (Below w.heap.size w ws) := hide (HB.out.trans (hb2.mono HB.out.size))
        have HOW := hide (own_below HO.out hb2 (Nat.le_refl _))
        clear hb2
        have hkl : (k : Int) < (l.length : Int) := by omega
        by_cases ha0 : a = 0
        · have hgt : decide ((a : Int) > 0) = false := decide_eq_false (by omega)
          have hgt2 : ¬ (0 : Int) < (a : Int) := by omega
          have HST := hide (InsK.step HD.out (.inl ha0) HV.out)
          clear ha0
          have HOS := hide HOW.out
          have G1 : Hid (∀ u ∈ [Value.int .i64 (k : Int)], u.oneCell' = true) := hide (by intro u hu; simp at hu; subst hu; rfl)
          have G2 : Hid (k + 1 ≤ maxLen) := hide (by unfold maxLen; omega)
          have G3 : Hid ((k + 1) * 8 ≤ 140737488355328) := hide (by omega)
          have G4 := hide HBW.out.size
          clear HOW
          go_wp2_with (at_builtin; refine wpList_app rfl (.tmp 32) (.tmp 34) 26 rfl w.heap.size (.int .i64 0) 1 8 infoI Try.underlying26 rfl (by decide) _ _ _ rfl HOS.out 1 1 rfl rfl G1.out G2.out G3.out G4.out ?_; intro v' w2 hown2 hg2 _ _; obtain ⟨g2, c2, rfl, _⟩ := hown2.form (Nat.succ_pos k); have HO2 := hide hown2; have HB3 : Hid (Below w.heap.size w w2) := hide (HBW.out.grown hg2 G4.out (fun j hj => (HOS.out.lt j hj).1)); clear hown2 hg2)
          obtain ⟨wq, rfl⟩ : ∃ wq : World, wq = w2 := ⟨_, rfl⟩
          go_loopw [8] (fun p_ wr3 => ∃ (p : Nat) (ys : List Int), a ≤ p ∧ p ≤ k ∧ p_ = .int .i64 p ∧ Shv out k p ys ∧ wr3.ownsRow w.heap.size 3 1 (.slice (some ⟨g2, 0, none⟩) (k + 1) c2) (k + 1) (ys.map (Value.int .i64)) ∧ Below w.heap.size w wr3) (fun p_ _ => (intOf p_).toNat)
          case atStart => exact ⟨k, out ++ [(k : Int)], hak, Nat.le_refl _, by first | rfl | go_num | (congr 1; omega), Shv.start HLN.out _, by have h5 := HO2.out; rw [List.map_append]; exact h5, HB3.out⟩
          case round =>
            obtain ⟨p, ys, hap, hpk, rfl, hsv, hown3, hb3⟩ := hrel
            have HSV := hide hsv
            have HO3 := hide hown3
            have HB4 := hide hb3
            have hf3 := fun j => hown3.frozenAt j
            have hcel := fun j (hj : j < k + 1) => hown3.cellAt j (by omega)
            clear hsv hown3 hb3
            by_cases hpa : a < p
            · obtain ⟨q, rfl⟩ : ∃ q, p = q + 1 := ⟨p - 1, by omega⟩
              obtain ⟨y, hy⟩ : ∃ y, out[q]? = some y := ⟨out[q]'(by have := HLN.out; omega), List.getElem?_eq_getElem _⟩
              have cq : wr.cell? ⟨g2, q, none⟩ = some (.int .i64 y) := by
                rw [hcel q (by omega), List.getElem?_map, HSV.out.lo q (by omega) (by omega), hy]; rfl
              obtain ⟨z, hz⟩ : ∃ z, ys[q + 1]? = some z := ⟨ys[q + 1]'(by have := HSV.out.len; omega), List.getElem?_eq_getElem _⟩
              have cq1 : wr.cell? ⟨g2, q + 1, none⟩ = some (.int .i64 z) := by
                rw [hcel (q + 1) (by omega), List.getElem?_map, hz]; rfl
              have fq1 := hf3 (q + 1)
              have HY := hide hy
              have hcq : ((q + 1 : Nat) : Int) = (q : Int) + 1 := by omega
              have hlp : (q : Int) + 1 < ((k + 1 : Nat) : Int) := by omega
              have hlq : (q : Int) < ((k + 1 : Nat) : Int) := by omega
              have hpa1 : (a : Int) < (q : Int) + 1 := by omega
              have hpa2 : decide ((q : Int) + 1 > (a : Int)) = true := decide_eq_true hpa1
              clear hcel hf3 hy hz
              go_wp2_with fail
              go_roundw
              case rel =>
                refine ⟨q, ys.set (q + 1) y, by omega, by omega, by first | rfl | go_num | (congr 1; omega), by have h5 := HSV.out.step (by omega) hpk (y := y) (by simpa using HY.out); simpa using h5, ?_, ?_⟩
                · have h5 := (HO3.out.stored (q + 1) (.int .i64 y)).1
                  rw [← List.map_set] at h5
                  exact h5
                · exact HB4.out.setCell (HO3.out.lt g2 rfl).1 _
              case measure => (simp [intOf] <;> omega)
            · obtain rfl : p = a := by omega
              obtain ⟨z, hz⟩ : ∃ z, ys[p]? = some z := ⟨ys[p]'(by have := HSV.out.len; omega), List.getElem?_eq_getElem _⟩
              have cq1 : wr.cell? ⟨g2, p, none⟩ = some (.int .i64 z) := by
                rw [hcel (p) (by omega), List.getElem?_map, hz]; rfl
              have fq1 := hf3 (p)
              have hpa1 : ¬ ((p : Int) < (p : Int)) := by omega
              have hlp : (p : Int) < ((k + 1 : Nat) : Int) := by omega
              clear hcel hf3 hz
              go_wp2_with fail
              go_roundw
              case rel =>
                refine ⟨k + 1, out.take (p) ++ (k : Int) :: out.drop (p), by omega, by go_num, ?_, HST.out, HB4.out.setCell (HO3.out.lt g2 rfl).1 _⟩
                have h5 := (HO3.out.stored (p) (.int .i64 (k : Int))).1
                rw [← List.map_set, HSV.out.done HLN.out hak] at h5
                exact h5
              case measure => (simp [intOf] <;> omega)
        · obtain ⟨ap, rfl⟩ : ∃ q, a = q + 1 := ⟨a - 1, by omega⟩
          obtain ⟨y, hy⟩ : ∃ y, out[ap]? = some y := ⟨out[ap]'(by have := HLN.out; omega), List.getElem?_eq_getElem _⟩
          have hyb := HD.out.bd (List.mem_of_getElem? hy)
          obtain ⟨j, rfl⟩ : ∃ j : Nat, y = j := ⟨y.toNat, by omega⟩
          obtain ⟨g, cg, hgv, _⟩ := HOW.out.form (by omega : 0 < k)
          injection hgv with e1 _ e3
          subst e1 e3
          have ca : ws.cell? ⟨g, ap, none⟩ = some (.int .i64 (j : Int)) := by
            rw [HOW.out.cellAt ap (by omega), List.getElem?_map, hy]; rfl
          have HY := hide hy
          have hca : ((ap + 1 : Nat) : Int) = (ap : Int) + 1 := by omega
          have hapk : (ap : Int) < (k : Int) := by omega
          have hgt2 : (0 : Int) < (ap : Int) + 1 := by omega
          have hw1 : IntKind.i64.wrap (ap : Int) = (ap : Int) := by rw [IntKind.wrap_i64]; omega
          have HBT := hide (better_any A c l bu k j ws ((HW.out.below HBW.out).more HBW.out.size) hlt (by omega))
          have HT1 := hide hak
          by_cases hlx : keyK (κOf bu) l (k : Int) < keyK (κOf bu) l (j : Int)
          · have hlb : decide (keyK (κOf bu) l (k : Int) < keyK (κOf bu) l (j : Int)) = true := decide_eq_true hlx
            rw [hlb] at HBT
            have HV2 : Hid (∀ t y, ap ≤ t → out[t]? = some y → keyK (κOf bu) l (k : Int) < keyK (κOf bu) l y) := hide (fun t y ht hyt => by
              by_cases e : t = ap
              · subst e
                rw [HY.out] at hyt
                injection hyt with hyt
                subst hyt
                exact hlx
              · exact HV.out t y (by omega) hyt)
            clear hy hlb hlx
            go_wp2_with (go_at_call 48; refine (HBT.out).mono ?_; rintro e w1 ⟨rfl, hb1⟩; have HB1 := hide (HB2.out.trans (hb1.mono HB2.out.size)); clear hb1)
            go_roundw
            case rel => exact ⟨ap, by have := HT1.out; omega, by first | rfl | go_num, HB1.out, HV2⟩
            case measure => simp [intOf]
          · have hlb : decide (keyK (κOf bu) l (k : Int) < keyK (κOf bu) l (j : Int)) = false := decide_eq_false hlx
            rw [hlb] at HBT
            have HST := hide (InsK.step HD.out (.inr ⟨(j : Int), by simpa using HY.out, hlx⟩) HV.out)
            clear hy hlb hlx
            go_upto_if 29 with (go_at_call 48; refine (HBT.out).mono ?_; rintro e w1 ⟨rfl, hb1⟩; have HB1 := hide hb1; clear hb1)
            have HBW1 := hide (HBW.out.trans (HB1.out.mono HBW.out.size))
            have HOW1 := hide (own_below HOW.out HB1.out (Nat.le_refl _))
            clear HBW HOW ca HBT HB1 HB2
            have HBW := HBW1
            have HOW := HOW1
            clear HBW1 HOW1
            have HOS := hide HOW.out
            have G1 : Hid (∀ u ∈ [Value.int .i64 (k : Int)], u.oneCell' = true) := hide (by intro u hu; simp at hu; subst hu; rfl)
            have G2 : Hid (k + 1 ≤ maxLen) := hide (by unfold maxLen; omega)
            have G3 : Hid ((k + 1) * 8 ≤ 140737488355328) := hide (by omega)
            have G4 := hide HBW.out.size
            clear HOW
            go_wp2_with (at_builtin; refine wpList_app rfl (.tmp 32) (.tmp 34) 26 rfl w.heap.size (.int .i64 0) 1 8 infoI Try.underlying26 rfl (by decide) _ _ _ rfl HOS.out 1 1 rfl rfl G1.out G2.out G3.out G4.out ?_; intro v' w2 hown2 hg2 _ _; obtain ⟨g2, c2, rfl, _⟩ := hown2.form (Nat.succ_pos k); have HO2 := hide hown2; have HB3 : Hid (Below w.heap.size w w2) := hide (HBW.out.grown hg2 G4.out (fun j hj => (HOS.out.lt j hj).1)); clear hown2 hg2)
            obtain ⟨wq, rfl⟩ : ∃ wq : World, wq = w2 := ⟨_, rfl⟩
            go_loopw [8] (fun p_ wr3 => ∃ (p : Nat) (ys : List Int), ap + 1 ≤ p ∧ p ≤ k ∧ p_ = .int .i64 p ∧ Shv out k p ys ∧ wr3.ownsRow w.heap.size 3 1 (.slice (some ⟨g2, 0, none⟩) (k + 1) c2) (k + 1) (ys.map (Value.int .i64)) ∧ Below w.heap.size w wr3) (fun p_ _ => (intOf p_).toNat)
            case atStart => exact ⟨k, out ++ [(k : Int)], hak, Nat.le_refl _, by first | rfl | go_num | (congr 1; omega), Shv.start HLN.out _, by have h5 := HO2.out; rw [List.map_append]; exact h5, HB3.out⟩
            case round =>
              obtain ⟨p, ys, hap, hpk, rfl, hsv, hown3, hb3⟩ := hrel
              have HSV := hide hsv
              have HO3 := hide hown3
              have HB4 := hide hb3
              have hf3 := fun j => hown3.frozenAt j
              have hcel := fun j (hj : j < k + 1) => hown3.cellAt j (by omega)
              clear hsv hown3 hb3
              by_cases hpa : ap + 1 < p
              · obtain ⟨q, rfl⟩ : ∃ q, p = q + 1 := ⟨p - 1, by omega⟩
                obtain ⟨y, hy⟩ : ∃ y, out[q]? = some y := ⟨out[q]'(by have := HLN.out; omega), List.getElem?_eq_getElem _⟩
                have cq : wr.cell? ⟨g2, q, none⟩ = some (.int .i64 y) := by
                  rw [hcel q (by omega), List.getElem?_map, HSV.out.lo q (by omega) (by omega), hy]; rfl
                obtain ⟨z, hz⟩ : ∃ z, ys[q + 1]? = some z := ⟨ys[q + 1]'(by have := HSV.out.len; omega), List.getElem?_eq_getElem _⟩
                have cq1 : wr.cell? ⟨g2, q + 1, none⟩ = some (.int .i64 z) := by
                  rw [hcel (q + 1) (by omega), List.getElem?_map, hz]; rfl
                have fq1 := hf3 (q + 1)
                have HY := hide hy
                have hcq : ((q + 1 : Nat) : Int) = (q : Int) + 1 := by omega
                have hlp : (q : Int) + 1 < ((k + 1 : Nat) : Int) := by omega
                have hlq : (q : Int) < ((k + 1 : Nat) : Int) := by omega
                have hpa1 : ((ap : Int) + 1) < (q : Int) + 1 := by omega
                have hpa2 : decide ((q : Int) + 1 > ((ap : Int) + 1)) = true := decide_eq_true hpa1
                clear hcel hf3 hy hz
                go_wp2_with fail
                go_roundw
                case rel =>
                  refine ⟨q, ys.set (q + 1) y, by omega, by omega, by first | rfl | go_num | (congr 1; omega), by have h5 := HSV.out.step (by omega) hpk (y := y) (by simpa using HY.out); simpa using h5, ?_, ?_⟩
                  · have h5 := (HO3.out.stored (q + 1) (.int .i64 y)).1
                    rw [← List.map_set] at h5
                    exact h5
                  · exact HB4.out.setCell (HO3.out.lt g2 rfl).1 _
                case measure => (simp [intOf] <;> omega)
              · obtain rfl : p = ap + 1 := by omega
                obtain ⟨z, hz⟩ : ∃ z, ys[ap + 1]? = some z := ⟨ys[ap + 1]'(by have := HSV.out.len; omega), List.getElem?_eq_getElem _⟩
                have cq1 : wr.cell? ⟨g2, ap + 1, none⟩ = some (.int .i64 z) := by
                  rw [hcel (ap + 1) (by omega), List.getElem?_map, hz]; rfl
                have fq1 := hf3 (ap + 1)
                have hpa1 : ¬ (((ap : Int) + 1) < ((ap : Int) + 1)) := by omega
                have hlp : ((ap : Int) + 1) < ((k + 1 : Nat) : Int) := by omega
                clear hcel hf3 hz
                go_wp2_with fail
                go_roundw
                case rel =>
                  refine ⟨k + 1, out.take (ap + 1) ++ (k : Int) :: out.drop (ap + 1), by omega, by go_num, ?_, HST.out, HB4.out.setCell (HO3.out.lt g2 rfl).1 _⟩
                  have h5 := (HO3.out.stored (ap + 1) (.int .i64 (k : Int))).1
                  rw [← List.map_set, HSV.out.done HLN.out hak] at h5
                  exact h5
                case measure => (simp [intOf] <;> omega)
    · obtain rfl : k = l.length := by omega
      have HE := hide HD.out.all
      clear HW
      go_wp2_with fail
      go_ret
      refine ⟨_, rfl, ?_, HB.out⟩
      have h5 := HO.out
      rw [HE.out] at h5
      rw [ordK_len]
      exact h5
end Go.Proofs.Ytogicdljbnllgaa
