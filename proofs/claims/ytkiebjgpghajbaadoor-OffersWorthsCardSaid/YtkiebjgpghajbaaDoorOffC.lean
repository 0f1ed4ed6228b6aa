/- The walks of small helpers: cmp.Compare at sets, Normal's closure, slices.Equal at offers, and the laws' lent, kept, long, num. -/
import Derived.Test.YtkiebjgpghajbaaDoorIdle
import Derived.Test.YtkiebjgpghajbaaDoorGood
import Derived.Sort.Grow
namespace Go.Proofs.YtkiebjgpghajbaaDoor
open Go.RowKit Go.Maps Go.Sort
open Go.ChangeMaps Go.WideMaps

def sgnI (x y : Int) : Int := if x < y then -1 else if y < x then 1 else 0
def StillPost (v : Value) (w : World) (e : Ending) (w' : World) : Prop := e = .returned v ∧ w = w'
set_option maxHeartbeats 1000000 in
theorem nang_any (x : Int) (w : World) : Calls Tryd.prog 67 #[.int .u32 x] w (StillPost (.bool false) w) := by
  go_enter Tryd.func67, Tryd.ntmps67
  go_wp2_with fail
  go_ret
  exact ⟨rfl, rfl⟩
set_option maxHeartbeats 1000000 in
theorem cmpg_any (x y : Int) (w : World) : Calls Tryd.prog 57 #[.int .u32 x, .int .u32 y] w (StillPost (.int .i64 (sgnI x y)) w) := by
  have HN := hide (fun x => nang_any x w)
  unfold sgnI
  rcases Int.lt_trichotomy x y with h | h | h
  · rw [if_pos h]
    go_enter Tryd.func57, Tryd.ntmps57
    go_wp2_with (go_at_call 67; refine (HN.out _).mono ?_; rintro e w1 ⟨rfl, rfl⟩)
    go_ret
    exact ⟨rfl, rfl⟩
  · rw [if_neg (by omega), if_neg (by omega)]
    subst h
    go_enter Tryd.func57, Tryd.ntmps57
    go_wp2_with (go_at_call 67; refine (HN.out _).mono ?_; rintro e w1 ⟨rfl, rfl⟩)
    go_ret
    exact ⟨rfl, rfl⟩
  · have h1 : ¬ x < y := by omega
    rw [if_neg h1, if_pos h]
    go_enter Tryd.func57, Tryd.ntmps57
    go_wp2_with (go_at_call 67; refine (HN.out _).mono ?_; rintro e w1 ⟨rfl, rfl⟩)
    go_ret
    exact ⟨rfl, rfl⟩
set_option maxHeartbeats 1000000 in
theorem byGoods_any (x y : Offer) (W : World) : Calls Tryd.prog 56 #[.agg #[.int .u32 (x.1 : Int), .int .i64 x.2], .agg #[.int .u32 (y.1 : Int), .int .i64 y.2]] W fun e w' => e = .returned (.int .i64 (sgnI (x.1 : Int) (y.1 : Int))) ∧ ∃ q os', w' = grow (W.drewN q) os' := by
  have HC := hide (fun W' => cmpg_any (x.1 : Int) (y.1 : Int) W')
  generalize sgnI (x.1 : Int) (y.1 : Int) = r at *
  go_enter Tryd.func56, Tryd.ntmps56
  go_wp2_with (go_at_call 57; refine (HC.out _).mono ?_; rintro e w' ⟨rfl, rfl⟩)
  go_ret
  exact ⟨rfl, 0, _, by rw [alloc_eq_grow, alloc_eq_grow, grow_grow]; rfl⟩

set_option maxRecDepth 100000 in
set_option maxHeartbeats 2000000 in
theorem equalO_any (A : Option Addr) (c : Nat) (l : List Offer) (A' : Option Addr) (c' : Nat) (l' : List Offer) (w : World) (h : Offs w w.heap.size A l) (h' : Offs w w.heap.size A' l') (hl : l.length ≤ 1000000) :
    Calls Tryd.prog 58 #[.slice A l.length c, .slice A' l'.length c'] w (ValPost (.bool (decide (l = l'))) w) := by
  by_cases hlen : l.length = l'.length
  · have hlen' : ((l.length : Int) != (l'.length : Int)) = false := by simp [hlen]
    have hat := Offs.at_ h
    have hat' := Offs.at_ h'
    have HLN := hide hlen
    clear h h' hlen
    go_enter Tryd.func58, Tryd.ntmps58
    go_wp2_with fail
    go_loopw [13] (fun iv wr => ∃ k : Nat, k ≤ l.length ∧ iv = .int .i64 k ∧ (∀ j : Nat, j < k → l[j]? = l'[j]?) ∧ Below w.heap.size w wr) (fun iv _ => l.length - (intOf iv).toNat)
    case atStart => exact ⟨0, Nat.zero_le _, rfl, fun j hj => absurd hj (by omega), Below.refl _ _⟩
    case round =>
      obtain ⟨k, hk, rfl, hno, hb⟩ := hrel
      have HN := hide hno
      have HB := hide hb
      clear hno
      by_cases hlt : k < l.length
      · have hlt' : k < l'.length := by have := HLN.out; omega
        obtain ⟨b, o, rfl, hbB, hcc⟩ := hat (by omega)
        obtain ⟨b', o', rfl, hbB', hcc'⟩ := hat' (by omega)
        obtain ⟨x, hx⟩ : ∃ x, l[k]? = some x := ⟨l[k], List.getElem?_eq_getElem hlt⟩
        obtain ⟨y, hy⟩ : ∃ y, l'[k]? = some y := ⟨l'[k], List.getElem?_eq_getElem hlt'⟩
        obtain ⟨hc0, hc1⟩ := hcc k x hx
        obtain ⟨hc0', hc1'⟩ := hcc' k y hy
        have d0 := (hb.cell (p := ⟨b, o + k * 2, none⟩) hbB).trans hc0
        have d1 := (hb.cell (p := ⟨b, o + k * 2 + 1, none⟩) hbB).trans hc1
        have f0 := (hb.cell (p := ⟨b', o' + k * 2, none⟩) hbB').trans hc0'
        have f1 := (hb.cell (p := ⟨b', o' + k * 2 + 1, none⟩) hbB').trans hc1'
        have HX := hide hx
        have HY := hide hy
        have hki : (k : Int) < (l'.length : Int) := by omega
        clear hcc hcc' hat hat' hc0 hc1 hc0' hc1' hx hy hb
        obtain ⟨x1, x2⟩ := x
        obtain ⟨y1, y2⟩ := y
        simp only at d0 d1 f0 f1
        by_cases hxy : (x1, x2) = (y1, y2)
        · simp only [Prod.mk.injEq] at hxy
          obtain ⟨rfl, rfl⟩ := hxy
          go_wp2_with fail
          go_quiet (fail)
          go_wp2_with fail
          go_roundw
          case rel =>
            refine ⟨k + 1, by omega, by go_num, fun j hj => ?_, below_drewN HB.out _⟩
            rcases Nat.lt_or_ge j k with h1 | h1
            · exact HN.out j h1
            · obtain rfl : j = k := by omega
              rw [HX.out, HY.out]
          case measure => simp [intOf]; omega
        · have HR : Hid (decide (l = l') = false) := hide (by
            simp only [decide_eq_false_iff_not]
            intro e
            have h1 := HX.out
            rw [e, HY.out] at h1
            injection h1 with h1
            exact hxy h1.symm)
          by_cases hg : x1 = y1
          · subst hg
            have hc : (x2 == y2) = false := by
              simp only [beq_eq_false_iff_ne, ne_eq]
              intro e
              exact hxy (by rw [e])
            clear hxy
            go_wp2_with fail
            go_quiet (fail)
            go_wp2_with fail
            go_ret
            exact ⟨by rw [HR.out]; rfl, below_drewN HB.out _⟩
          · have hg' : ((x1 : Int) == (y1 : Int)) = false := by simp; omega
            clear hxy hg
            go_wp2_with fail
            go_quiet (fail)
            go_wp2_with fail
            go_ret
            exact ⟨by rw [HR.out]; rfl, below_drewN HB.out _⟩
      · obtain rfl : k = l.length := by omega
        have HR : Hid (decide (l = l') = true) := hide (by
          rw [decide_eq_true_iff]
          apply List.ext_getElem?
          intro j
          rcases Nat.lt_or_ge j l.length with h1 | h1
          · exact HN.out j h1
          · rw [List.getElem?_eq_none h1, List.getElem?_eq_none (by have := HLN.out; omega)])
        go_wp2_with fail
        go_ret
        exact ⟨by rw [HR.out]; rfl, HB.out⟩
  · have hlen' : ((l.length : Int) != (l'.length : Int)) = true := by simp; omega
    have HR : Hid (decide (l = l') = false) := hide (by simp only [decide_eq_false_iff_not]; intro e; exact hlen (by rw [e]))
    clear hlen h h'
    go_enter Tryd.func58, Tryd.ntmps58
    go_wp2_with fail
    go_ret
    exact ⟨by rw [HR.out]; rfl, Below.refl _ _⟩
set_option maxHeartbeats 1000000 in
theorem num_any (x : Int) (w : World) : Calls Tryd.prog 20 #[.int .i64 x] w (ValPost (.int .i64 x) w) := by
  go_enter Tryd.func20, Tryd.ntmps20
  go_wp2_with fail
  go_ret
  exact ⟨rfl, Below.refl _ _⟩

/-! ### Offers in memory of their own, with a mark behind -/
structure OwnM (w : World) (base : Nat) (A : Option Addr) (c : Nat) (l : List Offer) : Prop where
  row : w.ownsRow base 67 2 (.slice A (l.length + 1) c) (l.length + 1) (cells2 offV (l ++ [(77, -77)]))
theorem OwnM.below {w w' : World} {base c : Nat} {A : Option Addr} {l : List Offer} (h : OwnM w base A c l) (hb : Below w.heap.size w w') : OwnM w' base A c l := ⟨own_below h.row hb (Nat.le_refl _)⟩
theorem OwnM.offs {w : World} {base c : Nat} {A : Option Addr} {l : List Offer} (h : OwnM w base A c l) : Offs w w.heap.size A l := by
  have h5 : Offs w w.heap.size A (l ++ [(77, -77)]) := Two.of_own (n := l.length + 1) h.row (by simp)
  have h6 := Two.front h5 (k := l.length) (by simp)
  rwa [List.take_append_of_le_length (Nat.le_refl _), List.take_of_length_le (Nat.le_refl _)] at h6
theorem OwnM.cells {w : World} {base c : Nat} {A : Option Addr} {l : List Offer} (h : OwnM w base A c l) : ∃ g, A = some ⟨g, 0, none⟩ ∧ g < w.heap.size ∧ l.length + 1 ≤ c ∧ w.cell? ⟨g, l.length * 2, none⟩ = some (.int .u32 77) ∧ w.cell? ⟨g, l.length * 2 + 1, none⟩ = some (.int .i64 (-77)) := by
  have hr := h.row
  obtain ⟨g, rc, e, _, hrl⟩ := hr.form (by omega)
  injection e with e1 _ e3
  obtain ⟨_, _, e', hc'⟩ := own_sh hr
  injection e' with _ _ e'
  subst e1
  have hm := cells2_at (f := offV) (l ++ [(77, -77)]) l.length (77, -77) (by simp)
  have m1 := hr.cells (g := g) rfl _ _ hm.1
  have m2 := hr.cells (g := g) rfl _ _ hm.2
  have ad : ∀ j : Nat, (⟨g, 0, none⟩ : Addr).add j = ⟨g, j, none⟩ := fun j => by unfold Addr.add; split <;> simp_all
  rw [ad] at m1 m2
  exact ⟨g, rfl, hrl, by omega, m1, m2⟩
def LentO (l : List Offer) (w : World) (e : Ending) (w' : World) : Prop := ∃ A c, e = .returned (.slice A l.length c) ∧ OwnM w' w.heap.size A c l ∧ Below w.heap.size w w'
set_option maxHeartbeats 2000000 in
theorem lentO_any (A : Option Addr) (c : Nat) (l : List Offer) (w : World) (h : Offs w w.heap.size A l) (hl : l.length ≤ 1000000) :
    Calls Tryd.prog 11 #[.slice A l.length c] w (LentO l w) := by
  have HA := hide h
  have HO1 : Hid ((w.alloc (.cells #[] 67)).ownsRow w.heap.size 67 2 (.slice (some ⟨w.heap.size, 0, none⟩) 0 0) 0 []) := hide (World.ownsRow_made w #[] 0 (Nat.le_refl _) (by decide) rfl)
  have HB : Hid (Below w.heap.size w (w.alloc (.cells #[] 67))) := hide ((Below.refl _ _).alloc (Nat.le_refl _) _)
  have G1 := hide (off_one l)
  have G5 : Hid (0 + l.length ≤ maxLen) := hide (by unfold maxLen; omega)
  have G6 : Hid ((0 + l.length) * 16 ≤ 140737488355328) := hide (by omega)
  have K1 : Hid (∀ u ∈ [Value.int .u32 77, .int .i64 (-77)], u.oneCell' = true) := hide (fun u hu => by simp at hu; rcases hu with rfl | rfl <;> rfl)
  have K2 : Hid (l.length + 1 ≤ maxLen) := hide (by unfold maxLen; omega)
  have K3 : Hid ((l.length + 1) * 16 ≤ 140737488355328) := hide (by omega)
  clear h
  go_enter Tryd.func11, Tryd.ntmps11
  go_wp2_with (first | (at_builtin; refine wpList_append_any rfl (.tmp 3) (.tmp 4) 22 rfl w.heap.size 67 _ 2 16 infoO Tryd.underlying22 rfl (by decide) _ 0 [] rfl HO1.out w.heap.size A l.length c (cells2 offV l) rfl (HA.out.below HB.out) G1.out G5.out G6.out HB.out.size ?_; intro v1 w1 hown1 hg1 _; rw [Nat.zero_add, List.nil_append] at hown1; obtain ⟨A1, c1, hv1, _⟩ := own_sh hown1; subst hv1; have HO := hide hown1; have HB1 : Hid (Below w.heap.size w w1) := hide (HB.out.grown hg1 HB.out.size (fun j hj => by have := Option.some.inj (show some w.heap.size = some j from hj); omega)); have K4 : Hid (w.heap.size ≤ w1.heap.size) := hide HB1.out.size; clear hown1 hg1) | (at_builtin; refine wpList_app rfl (.tmp 5) (.tmp 7) 22 rfl w.heap.size (.agg #[.int .u32 0, .int .i64 0]) 2 16 infoO Tryd.underlying22 rfl (by decide) _ _ _ rfl HO.out 1 1 rfl rfl K1.out K2.out K3.out K4.out ?_; intro v8 w8 hown8 hg8 hlt8 _; obtain ⟨g8, c8, hv8, _, _⟩ := hown8.form (by omega); subst hv8; have hcap8 : (l.length : Int) ≤ (c8 : Int) := (by obtain ⟨_, _, e, hc⟩ := own_sh hown8; injection e with _ _ e; omega); have HO8 := hide hown8; have HB8 : Hid (Below w.heap.size w w8) := hide (HB1.out.grown hg8 HB1.out.size (fun j hj => (HO.out.lt j hj).1)); clear hown8 hg8 hlt8))
  go_ret
  refine ⟨_, _, rfl, ⟨?_⟩, HB8.out⟩
  rw [cells2_append]
  exact HO8.out
set_option maxRecDepth 100000 in
set_option maxHeartbeats 2000000 in
theorem keptO_any (base : Nat) (A : Option Addr) (c : Nat) (A' : Option Addr) (c' : Nat) (l : List Offer) (w : World) (h : OwnM w base A c l) (h' : Offs w w.heap.size A' l) (hl : l.length ≤ 1000000) :
    Calls Tryd.prog 13 #[.slice A l.length c, .slice A' l.length c'] w (ValPost (.bool true) w) := by
  have HS : Hid (Calls Tryd.prog 36 #[.slice A l.length c, .slice A' l.length c'] w (ValPost (.bool true) w)) := hide (by
    have := sameOffers_any A c l A' c' l w h.offs h' hl
    simpa using this)
  obtain ⟨g, rfl, hg, hcap, m1, m2⟩ := h.cells
  have hcap' : (l.length : Int) + 1 ≤ (c : Int) := by omega
  have q1 : IntKind.i64.wrap ((l.length : Int) + 1) = (l.length : Int) + 1 := Go.IntWalk.i64_in _ (by omega)
  have q2 : (0 : Int) ≤ (l.length : Int) + 1 := by omega
  have q3 : ((l.length : Int) + 1).toNat = l.length + 1 := by omega
  clear h h' hcap
  go_enter Tryd.func13, Tryd.ntmps13
  go_wp2_with fail
  refine (HS.out).mono ?_
  rintro e w1 ⟨rfl, hb1⟩
  have n1 := (hb1.cell (p := ⟨g, l.length * 2, none⟩) hg).trans m1
  have n2 := (hb1.cell (p := ⟨g, l.length * 2 + 1, none⟩) hg).trans m2
  have HB1 := hide hb1
  clear hb1 m1 m2
  go_wp2_with fail
  go_ret
  exact ⟨rfl, HB1.out⟩

/-! ### Lists that are not gone over -/
def LongPost (ls : List (List Offer)) (w : World) (e : Ending) (w' : World) : Prop := ∃ b, e = .returned (.bool b) ∧ (b = false → ls.length ≤ 60 ∧ ∀ l ∈ ls, l.length ≤ 60) ∧ Below w.heap.size w w'
set_option maxRecDepth 100000 in
set_option maxHeartbeats 2000000 in
theorem longO_any (A : Option Addr) (c : Nat) (hs : List Hdr) (ls : List (List Offer)) (w : World) (h : Buys w w.heap.size A hs ls) (hl : (ls.length : Int) ≤ 9223372036854775807) (hls : ∀ l ∈ ls, (l.length : Int) ≤ 9223372036854775807) :
    Calls Tryd.prog 9 #[.slice A ls.length c] w (LongPost ls w) := by
  have HA := hide h
  have HLS := hide hls
  clear h hls
  go_enter Tryd.func9, Tryd.ntmps9
  go_wp2_with fail
  go_loopw [3] (fun iv wr => ∃ k : Nat, k ≤ ls.length ∧ iv = .int .i64 k ∧ (∀ (j : Nat) l, j < k → ls[j]? = some l → l.length ≤ 60) ∧ Below w.heap.size w wr) (fun iv _ => ls.length - (intOf iv).toNat)
  case atStart => exact ⟨0, Nat.zero_le _, rfl, fun j l hj => absurd hj (by omega), Below.refl _ _⟩
  case round =>
    obtain ⟨k, hk, rfl, hno, hb⟩ := hrel
    have HN := hide hno
    have HB := hide hb
    clear hno hb
    by_cases hlt : k < ls.length
    · obtain ⟨⟨a1, a2⟩, l, ha, hlx, _, _⟩ := HA.out.get hlt
      obtain ⟨b, o, rfl, hbB, hat⟩ := HA.out.at_ (by omega)
      have d0 := (HB.out.cell (p := ⟨b, o + k, none⟩) hbB).trans (hat k _ l ha hlx)
      unfold hdrV at d0
      simp only at d0
      have hki : (k : Int) < (ls.length : Int) := by omega
      have hlm := HLS.out l (List.mem_of_getElem? hlx)
      have HLX := hide hlx
      clear hat ha hlx
      by_cases h60 : (60 : Int) < (l.length : Int)
      · go_wp2_with fail
        go_ret
        exact ⟨true, rfl, (fun h => by cases h), HB.out⟩
      · go_wp2_with fail
        go_roundw
        case rel =>
          refine ⟨k + 1, by omega, by go_num, fun j l' hj hx => ?_, HB.out⟩
          rcases Nat.lt_or_ge j k with h1 | h1
          · exact HN.out j l' h1 hx
          · obtain rfl : j = k := by omega
            rw [HLX.out] at hx
            injection hx with hx
            rw [← hx]
            omega
        case measure => simp [intOf]; omega
    · obtain rfl : k = ls.length := by omega
      have e6 : decide ((60 : Int) < (ls.length : Int)) = decide (60 < ls.length) := by
        by_cases h : 60 < ls.length
        · rw [decide_eq_true h, decide_eq_true (by omega)]
        · rw [decide_eq_false h, decide_eq_false (by omega)]
      go_wp2_with fail
      go_ret
      refine ⟨decide (60 < ls.length), by rw [← e6]; rfl, fun h => ⟨by simpa using h, fun l hm => ?_⟩, HB.out⟩
      obtain ⟨j, hj⟩ := List.getElem?_of_mem hm
      exact HN.out j l (List.getElem?_eq_some_iff.1 hj).1 hj
end Go.Proofs.YtkiebjgpghajbaaDoor
