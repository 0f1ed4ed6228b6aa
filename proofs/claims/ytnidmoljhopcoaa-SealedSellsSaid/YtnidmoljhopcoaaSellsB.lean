/- The walks of gavellaw11.lent; the document's Check and Sell. -/
import Derived.Test.YtnidmoljhopcoaaSellsA
namespace Go.Proofs.Ytnidmoljhopcoaa
open Go.RowKit

/-- Bids in memory of their own, a mark behind. -/
def LentP (l : List (Int × Int)) (w : World) (e : Ending) (w' : World) : Prop :=
  ∃ g c, e = .returned (.slice (some ⟨g, 0, none⟩) l.length c) ∧ w'.ownsRow w.heap.size 33 2 (.slice (some ⟨g, 0, none⟩) (l.length + 1) c) (l.length + 1) (flat l ++ [.int .i64 (-77), .int .i64 0]) ∧ Below w.heap.size w w'
set_option maxRecDepth 100000 in
set_option maxHeartbeats 2000000 in
theorem lent_any (A : Option Addr) (c : Nat) (l : List (Int × Int)) (w : World) (h : Bids w w.heap.size A l) (hl : l.length ≤ 1000000) :
    Calls Try.prog 17 #[.slice A l.length c] w (LentP l w) := by
  have HA := hide h
  have HO1 : Hid ((w.alloc (.cells #[] 33)).ownsRow w.heap.size 33 2 (.slice (some ⟨w.heap.size, 0, none⟩) 0 0) 0 []) := hide (World.ownsRow_made w #[] 0 (Nat.le_refl _) (by decide) rfl)
  have HB : Hid (Below w.heap.size w (w.alloc (.cells #[] 33))) := hide ((Below.refl _ _).alloc (Nat.le_refl _) _)
  have G1 := hide (flat_one l)
  have G2 : Hid (0 + l.length ≤ maxLen) := hide (by unfold maxLen; omega)
  have G3 : Hid ((0 + l.length) * 16 ≤ 140737488355328) := hide (by omega)
  have G4 : Hid (∀ u ∈ [Value.int .i64 (-77), .int .i64 0], u.oneCell' = true) := hide (by intro u hu; simp at hu; rcases hu with rfl | rfl <;> rfl)
  have G5 : Hid (l.length + 1 ≤ maxLen) := hide (by unfold maxLen; omega)
  have G6 : Hid ((l.length + 1) * 16 ≤ 140737488355328) := hide (by omega)
  have hlc : (l.length : Int) ≤ ((l.length + 1 : Nat) : Int) := by omega
  clear h
  go_enter Try.func17, Try.ntmps17
  go_wp2_with (first | (at_builtin; refine wpList_append_any rfl (.tmp 3) (.tmp 4) 22 rfl w.heap.size 33 _ 2 16 info33 Try.underlying22 rfl (by decide) _ 0 [] rfl HO1.out w.heap.size A l.length c (flat l) rfl (HA.out.below HB.out) G1.out G2.out G3.out HB.out.size ?_; intro v1 w1 hown1 hg1 _; rw [Nat.zero_add, List.nil_append] at hown1; have HO := hide hown1; have HB1 : Hid (Below w.heap.size w w1) := hide (HB.out.grown hg1 HB.out.size (fun j hj => by have := Option.some.inj (show some w.heap.size = some j from hj); omega)); have HZ1 := hide HB1.out.size; clear hown1 hg1) | (at_builtin; refine wpList_app rfl (.tmp 5) (.tmp 7) 22 rfl w.heap.size (.agg #[.int .i64 0, .int .i64 0]) 2 16 info33 Try.underlying22 rfl (by decide) _ _ _ rfl HO.out 1 1 rfl rfl G4.out G5.out G6.out HZ1.out ?_; intro v2 w2 hown2 hg2 _ _; obtain ⟨g2, c2, rfl, _⟩ := hown2.form (Nat.succ_pos _); have hc2 : l.length ≤ c2 := (by obtain ⟨_, _, e9, h9⟩ := own_sh hown2; injection e9 with _ _ e9; omega); have hc3 : (l.length : Int) ≤ (c2 : Int) := (by omega); have HO2 := hide hown2; have HB2 : Hid (Below w.heap.size w w2) := hide (HB1.out.grown hg2 HZ1.out (fun j hj => (HO.out.lt j hj).1)); clear hown2 hg2))
  go_ret
  exact ⟨g2, c2, rfl, HO2.out, HB2.out⟩
end Go.Proofs.Ytnidmoljhopcoaa
