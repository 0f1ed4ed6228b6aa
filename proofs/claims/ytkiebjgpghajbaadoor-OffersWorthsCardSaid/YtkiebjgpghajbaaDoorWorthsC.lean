/- The walk of offers.Worths: the iterator it makes, and where what that holds lies. -/
import Derived.Test.YtkiebjgpghajbaaDoorOffA
import Derived.Test.YtkiebjgpghajbaaDoorLow
namespace Go.Proofs.YtkiebjgpghajbaaDoor
open Go.RowKit Go.Maps
open Go.ChangeMaps Go.WideMaps

set_option maxRecDepth 100000 in
set_option maxHeartbeats 2000000 in
/-- The iterator, and where what it holds lies. -/
theorem worths_has (n : Int) (A : Option Addr) (c : Nat) (l : List Offer) (w : World) (h : Offs w w.heap.size A l) (hl : l.length ≤ 1000000) (hz : A = none → c = 0) :
    Calls Tryd.prog 12 #[.int .i64 n, .slice A l.length c] w fun e w' => ∃ A1 c1, e = .returned (.func (.func 45) #[] #[.pointer (some ⟨w.heap.size, 0, none⟩), .pointer (some ⟨w.heap.size + 1, 0, none⟩)]) ∧
      w'.heap[w.heap.size]? = some (.cells #[.int .i64 n] 3 (0, 0)) ∧ w'.heap[w.heap.size + 1]? = some (.cells #[.slice A1 l.length c1] 22 (0, 0)) ∧ w'.ownsRow (w.heap.size + 2) 67 2 (.slice A1 l.length c1) l.length (cells2 offV l) ∧ Below w.heap.size w w' := by
  have HB : Hid (Below w.heap.size w ((w.alloc (.cells #[.int .i64 n] 3)).alloc (.cells #[.slice A l.length c] 22))) := hide (((Below.refl _ _).alloc (Nat.le_refl _) _).alloc (by simp) _)
  have HCL := hide (clone_any A c l _ (h.up HB.out) hl hz)
  have HP1 : Hid (((w.alloc (.cells #[.int .i64 n] 3)).alloc (.cells #[.slice A l.length c] 22)).heap[w.heap.size]? = some (.cells #[.int .i64 n] 3 (0, 0))) := hide (by rw [Below.heap_alloc _ _ _ (by simp)]; exact heap_alloc_new w _)
  have HP2 : Hid (((w.alloc (.cells #[.int .i64 n] 3)).alloc (.cells #[.slice A l.length c] 22)).heap[w.heap.size + 1]? = some (.cells #[.slice A l.length c] 22 (0, 0))) := hide (by
    have := heap_alloc_new (w.alloc (.cells #[.int .i64 n] 3)) (.cells #[.slice A l.length c] 22)
    simpa using this)
  have HSZ : Hid (((w.alloc (.cells #[.int .i64 n] 3)).alloc (.cells #[.slice A l.length c] 22)).heap.size = w.heap.size + 2) := hide (by simp)
  clear h
  go_enter Tryd.func12, Tryd.ntmps12
  go_wp2_with fail
  generalize (w.alloc (.cells #[.int .i64 n] 3)).alloc (.cells #[.slice A l.length c] 22) = w1 at *
  refine (HCL.out).mono ?_
  rintro e w2 ⟨A1, c1, rfl, hown, hb⟩
  have HO := hide hown
  have HQ1 := hide ((hb.block _ (lt_of_block HP1.out)).trans HP1.out)
  have HQ2 := hide ((hb.block _ (lt_of_block HP2.out)).trans HP2.out)
  have HB2 := hide (HB.out.trans (hb.mono HB.out.size))
  have c0 : w2.cell? ⟨w.heap.size + 1, 0, none⟩ = some (.slice A l.length c) := cell_of_row w2 _ 0 _ _ (0, 0) HQ2.out
  have c1' : w2.frozen? ⟨w.heap.size + 1, 0, none⟩ = false := frozen_of_row w2 _ 0 _ _ HQ2.out
  have HB3 := hide (HB2.out.setCell (p := ⟨w.heap.size + 1, 0, none⟩) (Nat.le_succ _) (.slice A1 l.length c1))
  have HS1 := hide (setCell_block HQ2.out 0 (.slice A1 l.length c1))
  have HS2 : Hid ((w2.setCell ⟨w.heap.size + 1, 0, none⟩ (.slice A1 l.length c1)).heap[w.heap.size]? = some (.cells #[.int .i64 n] 3 (0, 0))) := hide (by rw [Below.heap_setCell _ _ _ _ (by simp)]; exact HQ1.out)
  have HO3 : Hid ((w2.setCell ⟨w.heap.size + 1, 0, none⟩ (.slice A1 l.length c1)).ownsRow w1.heap.size 67 2 (.slice A1 l.length c1) l.length (cells2 offV l)) := hide (own_far HO.out grown_setB (.inl (fun e => by
    have h1 : w1.heap.size ≤ w.heap.size + 1 := (HO.out.lt _ e).1
    have := HSZ.out
    omega)))
  clear hown hb
  go_wp2_with fail
  go_ret
  exact ⟨A1, c1, rfl, HS2.out, HS1.out, HSZ.out ▸ HO3.out, HB3.out⟩
end Go.Proofs.YtkiebjgpghajbaaDoor
