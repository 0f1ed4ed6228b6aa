/- The walk of gavelref13.Traded. -/
import Derived.Test.YtogicdljbnllgaaUnitP
import Derived.Test.YtogicdljbnllgaaRefV
import Derived.Test.YtogicdljbnllgaaInU
namespace Go.Proofs.Ytogicdljbnllgaa
open Go.Shelf Go.RowKit Go.Lib Go.Sort Go.Proofs

abbrev sideB (b : List (Int × Int)) : List Tri := ordT b (ordK κB b)
abbrev sideS (s : List (Int × Int)) : List Tri := ordT s (ordK κS s)
theorem perm_sum {l l' : List Int} (h : l.Perm l') : l.sum = l'.sum := by
  induction h with
  | nil => rfl
  | cons x _ ih => rw [List.sum_cons, List.sum_cons, ih]
  | swap x y l => rw [List.sum_cons, List.sum_cons, List.sum_cons, List.sum_cons]; omega
  | trans _ _ h1 h2 => rw [h1, h2]
theorem totK (κ : Int × Int → Int) (l : List (Int × Int)) : totT (ordT l (ordK κ l)) = allR l := by
  unfold totT allR ordT
  rw [List.map_map]
  have h := perm_sum ((ordK_perm κ l).map ((fun x : Tri => x.2.2) ∘ fun who => (who, l.getD who.toNat (0, 0))))
  rw [h]
  congr 1
  unfold rangeI
  rw [List.map_map]
  apply List.ext_getElem?
  intro i
  rw [List.getElem?_map, List.getElem?_map]
  by_cases hi : i < l.length
  · simp [hi, Function.comp]
  · simp [hi, Function.comp]
theorem upS' (s : List (Int × Int)) : UpT (sideS s) := by
  unfold UpT sideS ordT
  rw [List.pairwise_map]
  refine (ordK_sorted κS s).imp (fun h => ?_)
  simp only [ordT_getD]
  unfold κS at h
  omega
theorem K_le {b s : List (Int × Int)} (hb : OkW b) (hs : OkW s) : 0 ≤ sumT (RunA b s).1 ∧ sumT (RunA b s).1 ≤ allR b ∧ sumT (RunA b s).1 ≤ allR s := by
  have h0 := run_sum (hb.mid hs)
  refine ⟨h0, ?_⟩
  by_cases hk : 1 ≤ sumT (RunA b s).1
  · obtain ⟨x, y, h1, h2, _⟩ := run_unit_meet (hb.mid hs) _ hk (Int.le_refl _)
    rw [Int.zero_add] at h1 h2
    have e1 := (unitX_in (hb.count κB) hk).2 ⟨x, h1⟩
    have e2 := (unitX_in (hs.count κS) hk).2 ⟨y, h2⟩
    rw [totK] at e1 e2
    exact ⟨e1, e2⟩
  · have h1 := (allR_bound b (fun x hx => by have := hb.2 x hx; omega)).1
    have h2 := (allR_bound s (fun x hx => by have := hs.2 x hx; omega)).1
    omega
theorem unit_meet {b s : List (Int × Int)} (hb : OkW b) (hs : OkW s) {k : Int} (h1 : 1 ≤ k) (h2 : k ≤ allR b) (h3 : k ≤ allR s) : ∃ x y, unitX (sideB b) k = some x ∧ unitX (sideS s) k = some y ∧ (y.2.1 ≤ x.2.1 ↔ k ≤ sumT (RunA b s).1) := by
  obtain ⟨x, hx⟩ := (unitX_in (hb.count κB) h1).1 (by rw [totK]; exact h2)
  obtain ⟨y, hy⟩ := (unitX_in (hs.count κS) h1).1 (by rw [totK]; exact h3)
  refine ⟨x, y, hx, hy, ?_⟩
  by_cases hk : k ≤ sumT (RunA b s).1
  · obtain ⟨x', y', e1, e2, e3⟩ := run_unit_meet (hb.mid hs) k h1 hk
    rw [Int.zero_add] at e1 e2
    have e1' : unitX (sideB b) k = some x' := e1
    have e2' : unitX (sideS s) k = some y' := e2
    rw [hx] at e1'
    rw [hy] at e2'
    cases e1'
    cases e2'
    exact ⟨fun _ => hk, fun _ => e3⟩
  · have := run_unit_part (hb.mid hs) (downB b) (upS' s) k (by show sumT (RunA b s).1 < k; omega) x y (by rw [Int.zero_add]; exact hx) (by rw [Int.zero_add]; exact hy)
    exact ⟨fun h => by omega, fun h => absurd h hk⟩
/-- A unit's want lies in the row. -/
theorem unit_at {κ : Int × Int → Int} {l : List (Int × Int)} {k : Int} {x : Tri} (h : unitX (ordT l (ordK κ l)) k = some x) : ∃ j : Nat, x.1 = (j : Int) ∧ j < l.length ∧ l[j]? = some x.2 := by
  obtain ⟨h0, h1, h2⟩ := ordT_mem (unitX_mem h)
  exact ⟨x.1.toNat, by omega, by omega, h2⟩

/-- Two sides, in the function's own cells. -/
structure TwoS (w : World) (p5 p6 : Nat) (A : Option Addr) (c : Nat) (b : List (Int × Int)) (O : Option Addr) (co : Nat) (A' : Option Addr) (c' : Nat) (s : List (Int × Int)) (O' : Option Addr) (co' : Nat) (W : World) : Prop where
  bel : Below w.heap.size w W
  hb : W.heap[p5]? = some (.cells #[.slice A b.length c, .slice O b.length co] 72 (0, 0))
  hs : W.heap[p6]? = some (.cells #[.slice A' s.length c', .slice O' s.length co'] 72 (0, 0))
  mb : SideM W A b O (ordK κB b)
  ms : SideM W A' s O' (ordK κS s)
section
variable {w W W' : World} {p5 p6 : Nat} {A : Option Addr} {c : Nat} {b : List (Int × Int)} {O : Option Addr} {co : Nat} {A' : Option Addr} {c' : Nat} {s : List (Int × Int)} {O' : Option Addr} {co' : Nat}
theorem TwoS.below (h : TwoS w p5 p6 A c b O co A' c' s O' co' W) (hb : Below W.heap.size W W') : TwoS w p5 p6 A c b O co A' c' s O' co' W' :=
  ⟨h.bel.trans (hb.mono h.bel.size), (hb.block _ (lt_of_block h.hb)).trans h.hb, (hb.block _ (lt_of_block h.hs)).trans h.hs, h.mb.below hb, h.ms.below hb⟩
theorem TwoS.drewN (h : TwoS w p5 p6 A c b O co A' c' s O' co' W) (k : Nat) : TwoS w p5 p6 A c b O co A' c' s O' co' (W.drewN k) := h.below (below_drewN (Below.refl _ _) k)
theorem TwoS.cells (h : TwoS w p5 p6 A c b O co A' c' s O' co' W) : W.cell? ⟨p5, 0, none⟩ = some (.slice A b.length c) ∧ W.cell? ⟨p5, 1, none⟩ = some (.slice O b.length co) ∧ W.cell? ⟨p6, 0, none⟩ = some (.slice A' s.length c') ∧ W.cell? ⟨p6, 1, none⟩ = some (.slice O' s.length co') :=
  ⟨cell_of_row _ _ 0 _ _ (0, 0) h.hb, cell_of_row _ _ 1 _ _ (0, 0) h.hb, cell_of_row _ _ 0 _ _ (0, 0) h.hs, cell_of_row _ _ 1 _ _ (0, 0) h.hs⟩
theorem TwoS.unitB (h : TwoS w p5 p6 A c b O co A' c' s O' co' W) {k : Int} (hk : 0 ≤ k ∧ k ≤ 1000000) : Calls Try.prog 32 #[.agg #[.slice A b.length c, .slice O b.length co], .int .i64 k] W (ValPost (.int .i64 (unitR (sideB b) k)) W) := by
  have := unit_any A c b O co (ordK κB b) k W h.mb hk
  rwa [ordK_len] at this
theorem TwoS.unitS (h : TwoS w p5 p6 A c b O co A' c' s O' co' W) {k : Int} (hk : 0 ≤ k ∧ k ≤ 1000000) : Calls Try.prog 32 #[.agg #[.slice A' s.length c', .slice O' s.length co'], .int .i64 k] W (ValPost (.int .i64 (unitR (sideS s) k)) W) := by
  have := unit_any A' c' s O' co' (ordK κS s) k W h.ms hk
  rwa [ordK_len] at this
theorem TwoS.allB (h : TwoS w p5 p6 A c b O co A' c' s O' co' W) : Calls Try.prog 42 #[.agg #[.slice A b.length c, .slice O b.length co]] W (ValPost (.int .i64 (allR b)) W) := by
  have := all_any A c b O co (ordK κB b) W h.mb
  rwa [ordK_len] at this
theorem TwoS.allS (h : TwoS w p5 p6 A c b O co A' c' s O' co' W) : Calls Try.prog 42 #[.agg #[.slice A' s.length c', .slice O' s.length co']] W (ValPost (.int .i64 (allR s)) W) := by
  have := all_any A' c' s O' co' (ordK κS s) W h.ms
  rwa [ordK_len] at this
end
theorem unitR_some {L : List Tri} {k : Int} {x : Tri} (h : unitX L k = some x) : unitR L k = x.1 := by rw [unitR_X, h]
theorem ordK_inr (κ : Int × Int → Int) (l : List (Int × Int)) : InR l.length (ordK κ l) := ordK_in κ l
end Go.Proofs.Ytogicdljbnllgaa
