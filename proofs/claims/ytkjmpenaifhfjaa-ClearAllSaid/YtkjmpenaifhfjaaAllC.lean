/- The walk of clear.All: what it hands out stands on a copy of its own. -/
import Derived.Test.YtkjmpenaifhfjaaAllQ
namespace Go.Proofs.Ytkjmpenaifhfjaa
open Go.RowKit Go.Maps Go.Shelf
open Go.ChangeMaps Go.WideMaps

def AllP (n : Int) (ls : List (List Offer)) (w : World) (e : Ending) (w' : World) : Prop :=
  ∃ rc xc A' c' hs', e = .returned (.func (.func 43) #[] #[.pointer (some ⟨rc, 0, none⟩), .pointer (some ⟨xc, 0, none⟩)]) ∧ Below w.heap.size w w' ∧ w.heap.size ≤ rc ∧ w.heap.size ≤ xc ∧
    ((instE n ls = 0 ∧ w'.heap[rc]? = some (.cells #[.bool true] 4 (0, 0)) ∧ w'.heap[xc]? = some (.cells #[.int .i64 n, .slice A' ls.length c'] 24 (0, 0)) ∧ OwnB w' w.heap.size A' c' hs' ls) ∨
      (instE n ls ≠ 0 ∧ w'.heap[rc]? = some (.cells #[.bool false] 4 (0, 0))))

set_option maxRecDepth 100000 in
set_option maxHeartbeats 4000000 in
theorem clearAll_any (n : Int) (A : Option Addr) (c : Nat) (hs : List Hdr) (ls : List (List Offer)) (w : World) (h : Buys w w.heap.size A hs ls) (hl : ls.length ≤ 1000000) (hls : BLens ls) (hw : BWide ls) (hnil : NilB hs) :
    Calls Try.prog 23 #[instV n A ls.length c] w (AllP n ls w) := by
  have HB0 : Hid (Below w.heap.size w (w.alloc (.cells #[.int .i64 n, .slice A ls.length c] 24))) := hide ((Below.refl _ _).alloc (Nat.le_refl _) _)
  have HX0 : Hid ((w.alloc (.cells #[.int .i64 n, .slice A ls.length c] 24)).heap[w.heap.size]? = some (.cells #[.int .i64 n, .slice A ls.length c] 24 (0, 0))) := hide (heap_alloc_new w _)
  have HI := hide (inst_any n A c hs ls _ (h.up HB0.out) hl hls hw)
  have HC := hide (fun (W : World) (hb : Below w.heap.size w W) => copy_any n A c hs ls W (h.up hb) hl hls hnil)
  have HA := hide h
  have hmf : ∀ (fn : Fn) (first cap : Array Value) (w : World), (Instr.makeFunc fn first cap).run Try.prog w = .ok (.func fn first cap) w := fun _ _ _ _ => rfl
  clear h hls hw hnil
  simp only [instV] at *
  by_cases h1 : instE n ls = 0
  · rw [h1] at HI
    go_enter Try.func23, Try.ntmps23
    go_upto_region 1 with fail
    generalize w.alloc (.cells #[.int .i64 n, .slice A ls.length c] 24) = w1 at *
    have x0 := cell_of_row w1 w.heap.size 0 _ _ (0, 0) HX0.out
    have x1 := cell_of_row w1 w.heap.size 1 _ _ (0, 0) HX0.out
    simp at x0 x1
    go_upto_region 2 with (go_at_call 41; refine (HI.out).mono ?_; rintro e w2 ⟨rfl, hb2⟩; have HB2 := hide hb2; clear hb2)
    clear x0 x1
    have HB3 : Hid (Below w2.heap.size w2 (w2.alloc (.cells #[.bool true] 4))) := hide ((Below.refl _ _).alloc (Nat.le_refl _) _)
    have HR3 : Hid ((w2.alloc (.cells #[.bool true] 4)).heap[w2.heap.size]? = some (.cells #[.bool true] 4 (0, 0))) := hide (heap_alloc_new w2 _)
    generalize w2.alloc (.cells #[.bool true] 4) = w3 at *
    have HX3 : Hid (w3.heap[w.heap.size]? = some (.cells #[.int .i64 n, .slice A ls.length c] 24 (0, 0))) := hide ((HB3.out.block _ (by have := lt_of_block HX0.out; have := HB2.out.size; omega)).trans ((HB2.out.block _ (lt_of_block HX0.out)).trans HX0.out))
    have HW3 : Hid (Below w.heap.size w w3) := hide ((HB0.out.trans (HB2.out.mono HB0.out.size)).trans (HB3.out.mono (by have := HB0.out.size; have := HB2.out.size; omega)))
    have x0 := cell_of_row w3 w.heap.size 0 _ _ (0, 0) HX3.out
    have x1 := cell_of_row w3 w.heap.size 1 _ _ (0, 0) HX3.out
    have y0 := cell_of_row w3 w2.heap.size 0 _ _ (0, 0) HR3.out
    simp at x0 x1 y0
    go_upto_region 3 with fail
    have HS1 : Hid (w.heap.size < w1.heap.size) := hide (lt_of_block HX0.out)
    have HS2 : Hid (w1.heap.size ≤ w2.heap.size) := hide HB2.out.size
    have HS3 : Hid (w2.heap.size < w3.heap.size) := hide (lt_of_block HR3.out)
    go_wp2_with (go_at_call 42; refine (HC.out w3 HW3.out).mono ?_; rintro e w4 ⟨A4, c4, hs4, rfl, ho4, hb4⟩; have HO4 := hide ho4; have HB4 := hide hb4; have HX4 : Hid (w4.heap[w.heap.size]? = some (.cells #[.int .i64 n, .slice A ls.length c] 24 (0, 0))) := hide ((hb4.block _ (lt_of_block HX3.out)).trans HX3.out); have z0 := cell_of_row w4 w.heap.size 0 _ _ (0, 0) HX4.out; have z1 := cell_of_row w4 w.heap.size 1 _ _ (0, 0) HX4.out; have v0 := frozen_of_row w4 w.heap.size 0 _ _ HX4.out; have v1 := frozen_of_row w4 w.heap.size 1 _ _ HX4.out; simp at z0 z1; clear ho4 hb4)
    go_ret
    have s1 := HS1.out
    have s2 := HS2.out
    have s3 := HS3.out
    have s4 := HB4.out.size
    refine ⟨w2.heap.size, w.heap.size, A4, c4, hs4, rfl, ((HW3.out.trans (HB4.out.mono (by omega))).setCell (Nat.le_refl _) _).setCell (Nat.le_refl _) _, by omega, Nat.le_refl _, .inl ⟨h1, ?_, ?_, ?_⟩⟩
    · rw [Below.heap_setCell _ _ _ _ (by show w2.heap.size ≠ w.heap.size; omega), Below.heap_setCell _ _ _ _ (by show w2.heap.size ≠ w.heap.size; omega)]
      exact (HB4.out.block _ s3).trans HR3.out
    · exact setCell_block (setCell_block HX4.out 0 (.int .i64 n)) 1 (.slice A4 ls.length c4)
    · refine OwnB.base_ (base := w3.heap.size) (OwnB.far (row := some w.heap.size) (OwnB.far (row := some w.heap.size) HO4.out (grown_set _) (fun j hj => .inr (.inl (by injection hj with hj; omega)))) (grown_set _) (fun j hj => .inr (.inl (by injection hj with hj; omega)))) (by omega)
  · have h1' : ((instE n ls) == 0) = false := by simpa using h1
    have HR : Hid (instE n ls ≠ 0) := hide h1
    clear h1
    go_enter Try.func23, Try.ntmps23
    go_upto_region 1 with fail
    generalize w.alloc (.cells #[.int .i64 n, .slice A ls.length c] 24) = w1 at *
    have x0 := cell_of_row w1 w.heap.size 0 _ _ (0, 0) HX0.out
    have x1 := cell_of_row w1 w.heap.size 1 _ _ (0, 0) HX0.out
    simp at x0 x1
    go_upto_region 2 with (go_at_call 41; refine (HI.out).mono ?_; rintro e w2 ⟨rfl, hb2⟩; have HB2 := hide hb2; clear hb2)
    go_wp2_with fail
    go_ret
    have s1 := lt_of_block HX0.out
    have s2 := HB2.out.size
    exact ⟨w2.heap.size, w.heap.size, none, 0, [], rfl, (HB0.out.trans (HB2.out.mono HB0.out.size)).alloc (by omega) _, by omega, Nat.le_refl _, .inr ⟨HR.out, heap_alloc_new w2 _⟩⟩
end Go.Proofs.Ytkjmpenaifhfjaa
