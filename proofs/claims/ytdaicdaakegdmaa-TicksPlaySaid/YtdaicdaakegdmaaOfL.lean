/- The walks of ticks.fresh, Of, New. -/
import Derived.Test.YtdaicdaakegdmaaUpl
namespace Go.Proofs.Ytdaicdaakegdmaa
open Go.RowKit Go.Maps Go.Shelf
open Go.ChangeMaps Go.WideMaps

/-- A calendar in memory of its own, made since w. -/
def NewP (now : Int) (S : List Du) (w : World) (p : Nat) (w' : World) : Prop := ∃ r x m v l, Cal w' w.heap.size p r x m v now l ∧ RelD l S ∧ Below w.heap.size w w'
theorem foot_below {w w' : World} {B p r x m : Nat} {v : Value} {now : Int} {l : List Du} (h : Cal w B p r x m v now l) (ho : Only (Foot p r m v) w w') (hB : B ≤ w.heap.size) : Below B w w' := ho.below hB (CalF.own_foot h)
def FreshP (now : Int) (w : World) (e : Ending) (w' : World) : Prop := ∃ p, e = .returned (.pointer (some ⟨p, 0, none⟩)) ∧ NewP now [] w p w'
theorem fresh_cal (now : Int) (w : World) : NewP now [] w (w.heap.size + 1) ((((w.alloc (.map #[] 0)).alloc (.cells #[.int .i64 now, .pointer (some ⟨w.heap.size + 1 + 1 + 1, 0, none⟩), .map (some w.heap.size)] 68)).alloc (.cells #[.pointer (some ⟨w.heap.size + 1, 0, none⟩)] 24)).alloc (.cells #[.slice none 0 0, .func (.func 45) #[] #[.pointer (some ⟨w.heap.size + 1 + 1, 0, none⟩)]] 75)) := by
  refine ⟨w.heap.size + 1 + 1 + 1, w.heap.size + 1 + 1, w.heap.size, .slice none 0 0, [], ⟨?_, ?_, ?_, World.ownsRow_nil _ _ _ _, ?_, ⟨by omega, by omega, by omega, by omega⟩, List.nodup_nil, by simp, fun d hd => by cases hd⟩, relD_nil, ?_⟩
  · rw [Below.heap_alloc _ _ _ (by simp <;> omega), Below.heap_alloc _ _ _ (by simp)]
    have := heap_alloc_new (w.alloc (.map #[] 0)) (.cells #[.int .i64 now, .pointer (some ⟨w.heap.size + 1 + 1 + 1, 0, none⟩), .map (some w.heap.size)] 68)
    simpa using this
  · have := heap_alloc_new (((w.alloc (.map #[] 0)).alloc (.cells #[.int .i64 now, .pointer (some ⟨w.heap.size + 1 + 1 + 1, 0, none⟩), .map (some w.heap.size)] 68)).alloc (.cells #[.pointer (some ⟨w.heap.size + 1, 0, none⟩)] 24)) (.cells #[.slice none 0 0, .func (.func 45) #[] #[.pointer (some ⟨w.heap.size + 1 + 1, 0, none⟩)]] 75)
    simpa using this
  · rw [Below.heap_alloc _ _ _ (by simp)]
    have := heap_alloc_new ((w.alloc (.map #[] 0)).alloc (.cells #[.int .i64 now, .pointer (some ⟨w.heap.size + 1 + 1 + 1, 0, none⟩), .map (some w.heap.size)] 68)) (.cells #[.pointer (some ⟨w.heap.size + 1, 0, none⟩)] 24)
    simpa using this
  · exact ⟨_, (((World.ownsMap_made w Try.prog 2 _).alloc _).alloc _).alloc _, MapF.nil, rfl⟩
  · exact ((((Below.refl _ _).alloc (Nat.le_refl _) _).alloc (by simp) _).alloc (by simp; omega) _).alloc (by simp; omega) _
set_option maxRecDepth 100000 in
set_option maxHeartbeats 2000000 in
theorem fresh_any (now : Int) (w : World) : Calls Try.prog 31 #[.int .i64 now] w (FreshP now w) := by
  have hmm := @run_makeMap Try.prog
  have hmf : ∀ (fn : Fn) (first cap : Array Value) (w : World), (Instr.makeFunc fn first cap).run Try.prog w = .ok (.func fn first cap) w := fun _ _ _ _ => rfl
  obtain ⟨w3, hw3⟩ : ∃ w3, w3 = ((w.alloc (.map #[] 0)).alloc (.cells #[.int .i64 now, .pointer none, .map (some w.heap.size)] 68)).alloc (.cells #[.pointer (some ⟨w.heap.size + 1, 0, none⟩)] 24) := ⟨_, rfl⟩
  go_enter Try.func31, Try.ntmps31
  go_wp2_with fail
  go_ret
  exact ⟨_, rfl, fresh_cal now w⟩

/-! ### Of -/
def badD (d : Du) : Bool := !isT d.1 || decide (d.2 < 0)
def ofC (now : Int) (list : List Du) : Int := if isT now = false then 2 else if list.any badD then 2 else if list.any (fun d => decide (d.1 < now)) then 6 else 0
def ofS (now : Int) (list : List Du) : List Du := list.foldl (fun S d => setS now S d.2 d.1) []
def OfP (now : Int) (list : List Du) (w : World) (e : Ending) (w' : World) : Prop :=
  (ofC now list ≠ 0 ∧ e = .returned (.tuple #[.pointer none, .int .i64 (ofC now list)]) ∧ Below w.heap.size w w') ∨
  (ofC now list = 0 ∧ ∃ p, e = .returned (.tuple #[.pointer (some ⟨p, 0, none⟩), .int .i64 0]) ∧ NewP now (ofS now list) w p w')
theorem CalF.lower {w : World} {B B' p r x m n : Nat} {v : Value} {now : Int} {l : List Du} {f : Int → Option Nat} (h : CalF w B p r x m v now l f n) (hB : B' ≤ B) : CalF w B' p r x m v now l f n :=
  ⟨h.tk, h.rw_, h.box, own_base h.row hB, h.map, ⟨by have := h.base.1; omega, by have := h.base.2.1; omega, by have := h.base.2.2.1; omega, by have := h.base.2.2.2; omega⟩, h.nod, h.len, h.ok⟩
theorem any_take (l : List Du) (f : Du → Bool) (k : Nat) (hk : k < l.length) : (l.take (k + 1)).any f = ((l.take k).any f || f (gD l k)) := by
  rw [List.take_add_one, List.getElem?_eq_getElem hk, List.any_append, gD_of hk]
  simp
/-- A list of dues, as a call reads it. -/
structure DuesW (w : World) (A : Option Addr) (n : Nat) (list : List Du) : Prop where
  len : list.length = n
  rd : Reads w w.heap.size 2 A n (flatD list)
  wf : ∀ d ∈ list, (-9223372036854775808 ≤ d.1 ∧ d.1 ≤ 9223372036854775807) ∧ (-9223372036854775808 ≤ d.2 ∧ d.2 ≤ 9223372036854775807)
theorem DuesW.at_ {w : World} {A : Option Addr} {n : Nat} {list : List Du} (h : DuesW w A n list) (k : Nat) (hk : k < n) : ∃ g o, A = some ⟨g, o, none⟩ ∧ g < w.heap.size ∧ w.cell? ⟨g, o + k * 2, none⟩ = some (.int .i64 (gD list k).1) ∧ w.cell? ⟨g, o + k * 2 + 1, none⟩ = some (.int .i64 (gD list k).2) := by
  obtain ⟨g, o, e, hg, hc⟩ := h.rd.2 (by omega)
  have := flatD_at list k (by rw [h.len]; exact hk)
  exact ⟨g, o, e, hg, hc _ _ this.1, hc _ _ this.2⟩
theorem setS_len {l S : List Du} (h : RelD l S) (now n t : Int) : (setS now S n t).length ≤ S.length + 1 := by
  unfold setS
  split
  · rw [(wiD_perm _ _).length_eq, List.length_cons]
    have := List.length_filter_le (fun x => decide (x.2 ≠ n)) S
    unfold woD
    omega
  · omega
set_option maxRecDepth 100000 in
set_option maxHeartbeats 8000000 in
theorem of_any (now : Int) (A : Option Addr) (n c : Nat) (list : List Du) (w : World) (h : DuesW w A n list) (hn : n ≤ 900000) :
    Calls Try.prog 13 #[.int .i64 now, .slice A n c] w (OfP now list w) := by
  have HAT := hide h.at_
  have HLEN := hide h.len
  have HWF := hide h.wf
  have HIN := hide (is_any now w)
  have HR : Hid (∀ c W, ofC now list = c → c ≠ 0 → Below w.heap.size w W → OfP now list w (.returned (.tuple #[.pointer none, .int .i64 c])) W) := hide (fun c W h1 h2 h3 => .inl ⟨by rw [h1]; exact h2, by rw [h1], h3⟩)
  clear h
  cases h1 : isT now with
  | false =>
    have hc : ofC now list = 2 := if_pos h1
    rw [h1] at HIN
    clear h1
    go_enter Try.func13, Try.ntmps13
    go_wp2_with (go_at_call 26; refine (HIN.out).mono ?_; rintro e _ ⟨rfl, rfl⟩)
    go_ret2
    exact HR.out 2 w hc (by decide) (Below.refl _ _)
  | true =>
    have hc : Hid (ofC now list = if list.any badD then 2 else if list.any (fun d => decide (d.1 < now)) then 6 else 0) := hide (by unfold ofC; rw [if_neg (by rw [h1]; simp)])
    rw [h1] at HIN
    clear h1
    go_enter Try.func13, Try.ntmps13
    go_wp2_with (go_at_call 26; refine (HIN.out).mono ?_; rintro e _ ⟨rfl, rfl⟩)
    go_loopw [6, 17] (fun lt i wr => ∃ k : Nat, k ≤ n ∧ i = .int .i64 k ∧ lt = .bool ((list.take k).any (fun d => decide (d.1 < now))) ∧ (list.take k).any badD = false ∧ Below w.heap.size w wr) (fun _ i _ => n - (intOf i).toNat)
    case atStart => exact ⟨0, Nat.zero_le _, rfl, rfl, rfl, Below.refl _ _⟩
    case round =>
      obtain ⟨k, hk, rfl, rfl, hbad, hb⟩ := hrel
      have HB := hide hb
      have HBAD := hide hbad
      by_cases hkn : k < n
      · have hkn1 : (k : Int) < (n : Int) := by omega
        have hk0 : (0 : Int) ≤ (k : Int) := by omega
        obtain ⟨g, o, rfl, hg, e0, e1⟩ := HAT.out k hkn
        have a0 := (hb.cell (p := ⟨g, o + k * 2, none⟩) hg).trans e0
        have a1 := (hb.cell (p := ⟨g, o + k * 2 + 1, none⟩) hg).trans e1
        have hL := any_take list (fun d => decide (d.1 < now)) k (by rw [HLEN.out]; exact hkn)
        have hBD := any_take list badD k (by rw [HLEN.out]; exact hkn)
        have hany : badD (gD list k) = true → list.any badD = true := fun h => List.any_eq_true.2 ⟨gD list k, gD_mem (by rw [HLEN.out]; exact hkn), h⟩
        have HANY := hide hany
        generalize gD list k = d at *
        obtain ⟨d1, d2⟩ := d
        simp only at a0 a1 hL hBD
        have hb1 : Below wr.heap.size wr (wr.alloc (.cells #[.int .i64 d1, .int .i64 d2] 30)) := (Below.refl _ _).alloc (Nat.le_refl _) _
        have HB1 : Hid (Below w.heap.size w (wr.alloc (.cells #[.int .i64 d1, .int .i64 d2] 30))) := hide (hb.trans (hb1.mono hb.size))
        have hx1 := heap_alloc_new wr (.cells #[.int .i64 d1, .int .i64 d2] 30)
        have z0 := cell_of_row _ _ 0 _ _ (0, 0) hx1
        have z1 := cell_of_row _ _ 1 _ _ (0, 0) hx1
        simp only [List.getElem?_toArray, List.getElem?_cons_zero, List.getElem?_cons_succ] at z0 z1
        have HIS := hide (is_any d1 (wr.alloc (.cells #[.int .i64 d1, .int .i64 d2] 30)))
        have HLT := hide hL
        have HBK := hide hBD
        clear e0 e1 hb hb1 hx1 hL hBD hany hbad
        cases h2 : isT d1 with
        | false =>
          have HBT : Hid (list.any badD = true) := hide (HANY.out (by simp [badD, h2]))
          rw [h2] at HIS
          clear h2
          go_wp2_with (go_at_call 26; refine (HIS.out).mono ?_; rintro e _ ⟨rfl, rfl⟩)
          go_ret2
          exact HR.out 2 _ (by rw [hc.out, HBT.out]; rfl) (by decide) HB1.out
        | true =>
          rw [h2] at HIS
          by_cases h3 : d2 < 0
          · have HBT : Hid (list.any badD = true) := hide (HANY.out (by simp [badD, h3]))
            clear h2
            go_wp2_with (go_at_call 26; refine (HIS.out).mono ?_; rintro e _ ⟨rfl, rfl⟩)
            go_ret2
            exact HR.out 2 _ (by rw [hc.out, HBT.out]; rfl) (by decide) HB1.out
          · have HBF : Hid ((list.take (k + 1)).any badD = false) := hide (by rw [HBK.out, HBAD.out]; simp [badD, h2, h3])
            clear h2
            cases h4 : (list.take k).any (fun d => decide (d.1 < now)) with
            | true =>
              rw [h4] at HLT
              go_wp2_with (go_at_call 26; refine (HIS.out).mono ?_; rintro e _ ⟨rfl, rfl⟩)
              go_roundw
              case rel => exact ⟨k + 1, by omega, by go_num, by rw [HLT.out]; rfl, HBF.out, HB1.out⟩
              case measure => simp [intOf]; omega
            | false =>
              rw [h4] at HLT
              go_wp2_with (go_at_call 26; refine (HIS.out).mono ?_; rintro e _ ⟨rfl, rfl⟩)
              go_roundw
              case rel => exact ⟨k + 1, by omega, by go_num, by rw [HLT.out]; simp, HBF.out, HB1.out⟩
              case measure => simp [intOf]; omega
      · have hkn1 : ¬ (k : Int) < (n : Int) := by omega
        have hkk : list.take k = list := List.take_of_length_le (by rw [HLEN.out]; omega)
        rw [hkk] at HBAD ⊢
        clear hb hbad hkk
        cases h4 : list.any (fun d => decide (d.1 < now)) with
        | true =>
          have HC : Hid (ofC now list = 6) := hide (by rw [hc.out, HBAD.out, h4]; rfl)
          clear h4
          go_wp2_with fail
          go_ret2
          exact HR.out 6 _ HC.out (by decide) HB.out
        | false =>
          have HC : Hid (ofC now list = 0) := hide (by rw [hc.out, HBAD.out, h4]; rfl)
          clear h4
          go_wp2_with fail
          refine (fresh_any now wr).mono ?_
          rintro _ w2 ⟨p, rfl, r, x, m, v, l, hcal, hrel, hb2⟩
          have HCAL : Hid (Cal w2 w.heap.size p r x m v now l) := hide (CalF.lower hcal HB.out.size)
          have HREL := hide hrel
          have HB2 : Hid (Below w.heap.size w w2) := hide (HB.out.trans (hb2.mono HB.out.size))
          clear hcal hrel hb2
          go_wp2_with fail
          go_loopw [43] (fun i wr => ∃ (k : Nat) (v : Value) (l : List Du), k ≤ n ∧ i = .int .i64 k ∧ Cal wr w.heap.size p r x m v now l ∧ RelD l (ofS now (list.take k)) ∧ l.length ≤ k ∧ Below w.heap.size w wr) (fun i _ => n - (intOf i).toNat)
          case atStart => exact ⟨0, v, l, Nat.zero_le _, rfl, HCAL.out, HREL.out, by rw [HREL.out.length]; simp [ofS], HB2.out⟩
          case round =>
            obtain ⟨k, v, l, hk, rfl, hcal, hrel, hlk, hb⟩ := hrel
            by_cases hkn : k < n
            · have hkn1 : (k : Int) < (n : Int) := by omega
              have hk0 : (0 : Int) ≤ (k : Int) := by omega
              obtain ⟨g, o, rfl, hg, e0, e1⟩ := HAT.out k hkn
              have a0 := (hb.cell (p := ⟨g, o + k * 2, none⟩) hg).trans e0
              have a1 := (hb.cell (p := ⟨g, o + k * 2 + 1, none⟩) hg).trans e1
              have hwf := HWF.out (gD list k) (gD_mem (by rw [HLEN.out]; exact hkn))
              have hst : ofS now (list.take (k + 1)) = setS now (ofS now (list.take k)) (gD list k).2 (gD list k).1 := by
                unfold ofS
                rw [List.take_add_one, List.getElem?_eq_getElem (by rw [HLEN.out]; exact hkn), List.foldl_append, gD_of (by rw [HLEN.out]; exact hkn)]
                rfl
              have HST := hide hst
              generalize gD list k = d at *
              obtain ⟨d1, d2⟩ := d
              simp only at a0 a1
              have hb1 : Below wr.heap.size wr (wr.alloc (.cells #[.int .i64 d1, .int .i64 d2] 30)) := (Below.refl _ _).alloc (Nat.le_refl _) _
              have hx1 := heap_alloc_new wr (.cells #[.int .i64 d1, .int .i64 d2] 30)
              have z0 := cell_of_row _ _ 0 _ _ (0, 0) hx1
              have z1 := cell_of_row _ _ 1 _ _ (0, 0) hx1
              simp only [List.getElem?_toArray, List.getElem?_cons_zero, List.getElem?_cons_succ] at z0 z1
              have HB1 : Hid (Below w.heap.size w (wr.alloc (.cells #[.int .i64 d1, .int .i64 d2] 30))) := hide (hb.trans (hb1.mono hb.size))
              have HSE := hide (set_any (CalF.below hcal hb1) hrel (by have := hb.size; have := hb1.size; omega) d2 d1 hwf.2 (by omega))
              have HCA := hide (CalF.below hcal hb1)
              have HRE := hide hrel
              have HLK := hide hlk
              clear e0 e1 hb hb1 hx1 hwf hst hcal hrel hlk
              go_wp2_with fail
              refine (HSE.out).mono ?_
              rintro _ w3 ⟨rfl, v3, l3, hc3, hr3, ho3, _⟩
              have HC3 := hide hc3
              have HR3 := hide hr3
              have HB3 : Hid (Below w.heap.size w w3) := hide (HB1.out.trans (foot_below HCA.out ho3 HB1.out.size))
              clear hc3 hr3 ho3
              go_wp2_with fail
              go_roundw
              case rel => exact ⟨k + 1, v3, l3, by omega, by go_num, HC3.out, by rw [HST.out]; exact HR3.out, by
                have h1 := setS_len HRE.out now d2 d1
                have h2 := HRE.out.length
                have h3 := HR3.out.length
                have h4 := HLK.out
                omega, HB3.out⟩
              case measure => simp [intOf]; omega
            · have hkn1 : ¬ (k : Int) < (n : Int) := by omega
              have hkk : list.take k = list := List.take_of_length_le (by rw [HLEN.out]; omega)
              rw [hkk] at hrel
              have HCA := hide hcal
              have HRE := hide hrel
              have HBX := hide hb
              clear hcal hrel hb hkk
              go_wp2_with fail
              go_ret2
              exact .inr ⟨HC.out, p, rfl, r, x, m, v, l, HCA.out, HRE.out, HBX.out⟩
end Go.Proofs.Ytdaicdaakegdmaa
