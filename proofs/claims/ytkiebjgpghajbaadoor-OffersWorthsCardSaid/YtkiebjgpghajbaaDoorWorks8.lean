/- The walk of gavellaw08.works: a list is worth something, its shortest form the same. -/
import Derived.Test.YtkiebjgpghajbaaDoorRefNorm
import Derived.Test.YtkiebjgpghajbaaDoorNorm
import Derived.Test.YtkiebjgpghajbaaDoorRefChoice
namespace Go.Proofs.YtkiebjgpghajbaaDoor
open Go.RowKit Go.Maps
open Go.ChangeMaps Go.WideMaps

set_option maxRecDepth 100000 in
set_option maxHeartbeats 2000000 in
theorem worths_any (n : Int) (A : Option Addr) (c : Nat) (l : List Offer) (w : World) (h : Offs w w.heap.size A l) (hl : l.length ≤ 1000000) (hz : A = none → c = 0) :
    Calls Tryd.prog 12 #[.int .i64 n, .slice A l.length c] w fun e w' => ∃ A1 c1, e = .returned (.func (.func 45) #[] #[.pointer (some ⟨w.heap.size, 0, none⟩), .pointer (some ⟨w.heap.size + 1, 0, none⟩)]) ∧
      w'.heap[w.heap.size]? = some (.cells #[.int .i64 n] 3 (0, 0)) ∧ w'.heap[w.heap.size + 1]? = some (.cells #[.slice A1 l.length c1] 22 (0, 0)) ∧ Offs w' w'.heap.size A1 l ∧
      (∀ g o, A1 = some ⟨g, o, none⟩ → w.heap.size + 2 ≤ g) ∧ Below w.heap.size w w' := by
  have HB : Hid (Below w.heap.size w ((w.alloc (.cells #[.int .i64 n] 3)).alloc (.cells #[.slice A l.length c] 22))) := hide (((Below.refl _ _).alloc (Nat.le_refl _) _).alloc (by simp) _)
  have HCL := hide (clone_any A c l _ (h.up HB.out) hl hz)
  have HP1 : Hid (((w.alloc (.cells #[.int .i64 n] 3)).alloc (.cells #[.slice A l.length c] 22)).heap[w.heap.size]? = some (.cells #[.int .i64 n] 3 (0, 0))) := hide (by rw [Below.heap_alloc _ _ _ (by simp)]; exact heap_alloc_new w _)
  have HP2 : Hid (((w.alloc (.cells #[.int .i64 n] 3)).alloc (.cells #[.slice A l.length c] 22)).heap[w.heap.size + 1]? = some (.cells #[.slice A l.length c] 22 (0, 0))) := hide (by
    have := heap_alloc_new (w.alloc (.cells #[.int .i64 n] 3)) (.cells #[.slice A l.length c] 22)
    simpa using this)
  have HSZ : Hid (((w.alloc (.cells #[.int .i64 n] 3)).alloc (.cells #[.slice A l.length c] 22)).heap.size = w.heap.size + 2) := hide (by simp)
  clear h
  go_enter Tryd.func12, Tryd.ntmps12
  go_wp2_with fail
  generalize (w.alloc (.cells #[.int .i64 n] 3)).alloc (.cells #[.slice A l.length c] 22) = w1 at *
  refine (HCL.out).mono ?_
  rintro e w2 ⟨A1, c1, rfl, hown, hb⟩
  have HO := hide hown
  have HQ1 := hide ((hb.block _ (lt_of_block HP1.out)).trans HP1.out)
  have HQ2 := hide ((hb.block _ (lt_of_block HP2.out)).trans HP2.out)
  have HB2 := hide (HB.out.trans (hb.mono HB.out.size))
  have c0 : w2.cell? ⟨w.heap.size + 1, 0, none⟩ = some (.slice A l.length c) := cell_of_row w2 _ 0 _ _ (0, 0) HQ2.out
  have c1' : w2.frozen? ⟨w.heap.size + 1, 0, none⟩ = false := frozen_of_row w2 _ 0 _ _ HQ2.out
  have HB3 := hide (HB2.out.setCell (p := ⟨w.heap.size + 1, 0, none⟩) (Nat.le_succ _) (.slice A1 l.length c1))
  have HS1 := hide (setCell_block HQ2.out 0 (.slice A1 l.length c1))
  have HS2 : Hid ((w2.setCell ⟨w.heap.size + 1, 0, none⟩ (.slice A1 l.length c1)).heap[w.heap.size]? = some (.cells #[.int .i64 n] 3 (0, 0))) := hide (by rw [Below.heap_setCell _ _ _ _ (by simp)]; exact HQ1.out)
  have HO3 : Hid ((w2.setCell ⟨w.heap.size + 1, 0, none⟩ (.slice A1 l.length c1)).ownsRow w1.heap.size 67 2 (.slice A1 l.length c1) l.length (cells2 offV l)) := hide (own_far HO.out grown_setB (.inl (fun e => by
    have h1 : w1.heap.size ≤ w.heap.size + 1 := (HO.out.lt _ e).1
    have := HSZ.out
    omega)))
  clear hown hb
  go_wp2_with fail
  go_ret
  refine ⟨A1, c1, rfl, HS2.out, HS1.out, Two.of_own HO3.out rfl, fun g o e => ?_, HB3.out⟩
  subst e
  have := (HO3.out.lt g rfl).1
  have := HSZ.out
  omega

set_option maxRecDepth 100000 in
theorem func_eq_nil (fn : Fn) (f c : Array Value) (w : World) : (binOp BinOp.eql 27 (.func fn f c) .nilFunc).run Tryd.prog w = .ok (.bool false) w := rfl
abbrev l8 : List Offer := [(3, 4), (1, 4), (2, 3)]
theorem l8_wide : OWide l8 := by
  intro o ho
  simp at ho
  rcases ho with rfl | rfl | rfl <;> simp
theorem worth_l8 : worthL 3 l8 = (4, 0) := by decide
theorem norm_l8 : normL l8 = [(1, 4), (2, 3)] := by decide
theorem norm_n8 : normL [(1, 4), (2, 3)] = [(1, 4), (2, 3)] := by decide
theorem choiceE_l8 : choiceE 2 [l8, l8] [1, 2] = 0 := by decide
theorem choiceC_l8 : choiceC 2 [l8, l8] [1, 2] = 7 := by decide
theorem l8_offs {W : World} {g : Nat} (h : W.heap[g]? = some (.cells #[.int .u32 3, .int .i64 4, .int .u32 1, .int .i64 4, .int .u32 2, .int .i64 3] 67 (0, 0))) : Offs W W.heap.size (some ⟨g, 0, none⟩) l8 :=
  Two.of_own (n := 3) (base := 0) (e := 67) (c := 3) ⟨rfl, .inr ⟨g, 3, _, rfl, Nat.zero_le _, h, Nat.le_refl _, by unfold maxLen; omega, rfl, rfl⟩⟩ rfl
set_option maxRecDepth 100000 in
set_option maxHeartbeats 4000000 in
theorem works_any (w : World) (hT : TabW w) : Calls Tryd.prog 10 #[] w (ValPost (.bool true) w) := by
  have HT := hide hT
  have HB1 : Hid (Below w.heap.size w (w.alloc (.cells #[.int .u32 3, .int .i64 4, .int .u32 1, .int .i64 4, .int .u32 2, .int .i64 3] 67))) := hide ((Below.refl _ _).alloc (Nat.le_refl _) _)
  have HP1 : Hid ((w.alloc (.cells #[.int .u32 3, .int .i64 4, .int .u32 1, .int .i64 4, .int .u32 2, .int .i64 3] 67)).heap[w.heap.size]? = some (.cells #[.int .u32 3, .int .i64 4, .int .u32 1, .int .i64 4, .int .u32 2, .int .i64 3] 67 (0, 0))) := hide (heap_alloc_new w _)
  have hfe := func_eq_nil
  clear hT
  go_enter Tryd.func10, Tryd.ntmps10
  go_upto_region 2 with fail
  generalize (w.alloc (.cells #[.int .u32 3, .int .i64 4, .int .u32 1, .int .i64 4, .int .u32 2, .int .i64 3] 67)) = w1 at *
  have HC1 : Hid (Calls Tryd.prog 26 #[.slice (some ⟨w.heap.size, 0, none⟩) 3 3, .int .u32 3] w1 (ValPost (.tuple #[.int .i64 4, .int .i64 0]) w1)) := hide (by
    have := worth8_any (some ⟨w.heap.size, 0, none⟩) 3 l8 3 (by omega) w1 (l8_offs HP1.out) (by decide) l8_wide
    rw [worth_l8] at this
    exact this)
  go_wp2_with fail
  refine (HC1.out).mono ?_
  rintro e w2 ⟨rfl, hb2⟩
  have HB2 := hide (HB1.out.trans (hb2.mono HB1.out.size))
  have HP2 := hide ((hb2.block _ (lt_of_block HP1.out)).trans HP1.out)
  clear hb2 HP1
  have HC2 : Hid (Calls Tryd.prog 32 #[.slice (some ⟨w.heap.size, 0, none⟩) 3 3] w2 (ClonePost [(1, 4), (2, 3)] w2)) := hide (by
    have := normal_any (some ⟨w.heap.size, 0, none⟩) 3 l8 w2 (l8_offs HP2.out) (by decide) l8_wide
    rw [norm_l8] at this
    exact this)
  go_wp2_with fail
  refine (HC2.out).mono ?_
  rintro e w3 ⟨A3, c3, rfl, hown3, hb3⟩
  obtain ⟨g3, k3, hA3, hg3, _⟩ := hown3.form (by simp)
  injection hA3 with h1 _ h3
  subst h1 h3
  have HO3 := hide hown3
  have HB3 := hide (HB2.out.trans (hb3.mono HB2.out.size))
  have HP3 := hide ((hb3.block _ (lt_of_block HP2.out)).trans HP2.out)
  clear hb3 HP2 hown3 hg3
  have HB4 : Hid (Below w.heap.size w ((w3.alloc (.cells #[.slice (some ⟨w.heap.size, 0, none⟩) 3 3, .slice (some ⟨w.heap.size, 0, none⟩) 3 3] 22)).alloc (.cells #[.int .i64 1, .int .i64 2] 3))) := hide ((HB3.out.alloc HB3.out.size _).alloc (by rw [World.size_alloc]; exact Nat.le_succ_of_le HB3.out.size) _)
  have HB34 : Hid (Below w3.heap.size w3 ((w3.alloc (.cells #[.slice (some ⟨w.heap.size, 0, none⟩) 3 3, .slice (some ⟨w.heap.size, 0, none⟩) 3 3] 22)).alloc (.cells #[.int .i64 1, .int .i64 2] 3))) := hide (((Below.refl _ _).alloc (Nat.le_refl _) _).alloc (by simp) _)
  have HH4 : Hid (((w3.alloc (.cells #[.slice (some ⟨w.heap.size, 0, none⟩) 3 3, .slice (some ⟨w.heap.size, 0, none⟩) 3 3] 22)).alloc (.cells #[.int .i64 1, .int .i64 2] 3)).heap[w3.heap.size]? = some (.cells #[.slice (some ⟨w.heap.size, 0, none⟩) 3 3, .slice (some ⟨w.heap.size, 0, none⟩) 3 3] 22 (0, 0))) := hide (by rw [Below.heap_alloc _ _ _ (by simp)]; exact heap_alloc_new w3 _)
  have HI4 : Hid (((w3.alloc (.cells #[.slice (some ⟨w.heap.size, 0, none⟩) 3 3, .slice (some ⟨w.heap.size, 0, none⟩) 3 3] 22)).alloc (.cells #[.int .i64 1, .int .i64 2] 3)).heap[w3.heap.size + 1]? = some (.cells #[.int .i64 1, .int .i64 2] 3 (0, 0))) := hide (by
    have := heap_alloc_new (w3.alloc (.cells #[.slice (some ⟨w.heap.size, 0, none⟩) 3 3, .slice (some ⟨w.heap.size, 0, none⟩) 3 3] 22)) (.cells #[.int .i64 1, .int .i64 2] 3)
    simpa using this)
  go_wp2_with fail
  generalize ((w3.alloc (.cells #[.slice (some ⟨w.heap.size, 0, none⟩) 3 3, .slice (some ⟨w.heap.size, 0, none⟩) 3 3] 22)).alloc (.cells #[.int .i64 1, .int .i64 2] 3)) = w4 at *
  have HP4 := hide ((HB34.out.block _ (lt_of_block HP3.out)).trans HP3.out)
  have HC4 : Hid (Calls Tryd.prog 18 #[.agg #[.int .i64 2, .slice (some ⟨w3.heap.size, 0, none⟩) 2 2], .slice (some ⟨w3.heap.size + 1, 0, none⟩) 2 2] w4 (ValPost (.tuple #[.int .i64 7, .int .i64 0]) w4)) := hide (by
    have hby : Buys w4 w4.heap.size (some ⟨w3.heap.size, 0, none⟩) [(some ⟨w.heap.size, 0, none⟩, 3), (some ⟨w.heap.size, 0, none⟩, 3)] [l8, l8] := by
      refine ⟨rfl, ⟨rfl, fun _ => ⟨w3.heap.size, 0, rfl, lt_of_block HH4.out, fun j u hu => ?_⟩⟩, fun i h l hi hl => ?_⟩
      · rw [Nat.zero_add, cell_of_row w4 _ j _ _ (0, 0) HH4.out]
        simpa [hdrV] using hu
      · have hh : h = (some ⟨w.heap.size, 0, none⟩, 3) ∧ l = l8 := by
          rcases i with _ | _ | i
          · simp at hi hl; exact ⟨hi.symm, hl.symm⟩
          · simp at hi hl; exact ⟨hi.symm, hl.symm⟩
          · simp at hi
        obtain ⟨rfl, rfl⟩ := hh
        exact ⟨l8_offs HP4.out, Nat.le_refl _⟩
    have hz : One intV w4 w4.heap.size (some ⟨w3.heap.size + 1, 0, none⟩) [1, 2] := by
      refine ⟨rfl, fun _ => ⟨w3.heap.size + 1, 0, rfl, lt_of_block HI4.out, fun j u hu => ?_⟩⟩
      rw [Nat.zero_add, cell_of_row w4 _ j _ _ (0, 0) HI4.out]
      simpa using hu
    have := choice_any 2 (some ⟨w3.heap.size, 0, none⟩) 2 _ _ _ 2 [1, 2] w4 hby (by decide) (by intro l hl; simp at hl; subst hl; decide) (by intro l hl; simp at hl; subst hl; exact l8_wide) hz (by decide) (HT.out.below HB4.out)
    rw [choiceE_l8, choiceC_l8] at this
    exact this)
  refine (HC4.out).mono ?_
  rintro e w5 ⟨rfl, hb5⟩
  have HB5 := hide (HB4.out.trans (hb5.mono HB4.out.size))
  have HB35 := hide (HB34.out.trans (hb5.mono HB34.out.size))
  have HP5 := hide ((hb5.block _ (lt_of_block HP4.out)).trans HP4.out)
  clear hb5 HP4 HC4
  have HC5 := hide (worths_any 2 (some ⟨w.heap.size, 0, none⟩) 3 l8 w5 (l8_offs HP5.out) (by decide) (fun h => by cases h))
  go_wp2_with fail
  refine (HC5.out).mono ?_
  rintro e w6 ⟨A6, c6, rfl, _, _, _, _, hb6⟩
  have HB6 := hide (HB5.out.trans (hb6.mono HB5.out.size))
  have HB36 := hide (HB35.out.trans (hb6.mono HB35.out.size))
  have HP6 := hide ((hb6.block _ (lt_of_block HP5.out)).trans HP5.out)
  have HO6 := hide (own_below HO3.out HB36.out (Nat.le_refl _))
  have n1 : w6.cell? ⟨g3, 0, none⟩ = some (.int .u32 1) := (HO6.out.cellAt 0 (by decide)).trans rfl
  clear hb6 HP5
  have HC6 : Hid (Calls Tryd.prog 37 #[.slice (some ⟨w.heap.size, 0, none⟩) 3 3, .slice (some ⟨g3, 0, none⟩) 2 c3] w6 (ValPost (.bool true) w6)) := hide (by
    have := same8_any (some ⟨w.heap.size, 0, none⟩) 3 l8 (some ⟨g3, 0, none⟩) c3 [(1, 4), (2, 3)] w6 (l8_offs HP6.out) (Two.of_own HO6.out rfl) (by decide) (by decide) l8_wide (by intro o ho; simp at ho; rcases ho with rfl | rfl <;> simp)
    rw [norm_l8, norm_n8, decide_eq_true rfl] at this
    exact this)
  go_wp2_with fail
  refine (HC6.out).mono ?_
  rintro e w7 ⟨rfl, hb7⟩
  have HB7 := hide (HB6.out.trans (hb7.mono HB6.out.size))
  have HN := hide (num_any 0 w7)
  clear hb7 n1
  go_wp2_with fail
  refine (HN.out).mono ?_
  rintro e w8 ⟨rfl, hb8⟩
  have HB8 := hide (HB7.out.trans (hb8.mono HB7.out.size))
  clear hb8
  go_wp2_with fail
  go_ret
  exact ⟨rfl, HB8.out⟩
end Go.Proofs.YtkiebjgpghajbaaDoor
