/- Wants out of an argument as they came in. -/
import Derived.Test.YtogicdljbnllgaaLift
import Derived.Test.YtogicdljbnllgaaWant
namespace Go.Proofs.Ytogicdljbnllgaa
open Go.ChangeShapes Go.WideShapes Go.ChangeAt Go.RowKit Go.Joins

theorem cellsW : Try.prog.cellsOf 51 = 2 := by kernel_rfl
section
variable {H : Type} {enc : TypeId × Value → H} {w : World} {base : Nat} {spare : Nat → Bool} {held : Bool}
theorem recs_flat : ∀ {xs : List (List Int)}, (∀ x ∈ xs, x.length = 2) → recs [.i64, .i64] xs = flat (xs.map fun x => (x.getD 0 0, x.getD 1 0))
  | [], _ => rfl
  | x :: xs, hl => by
    have h1 := recs_flat (xs := xs) (fun y hy => hl y (List.mem_cons_of_mem _ hy))
    have h2 := hl x List.mem_cons_self
    match x, h2 with
    | [a, b], _ =>
      have e : recs [.i64, .i64] ([a, b] :: xs) = .int .i64 a :: .int .i64 b :: recs [.i64, .i64] xs := rfl
      rw [e, h1]
      rfl
set_option maxRecDepth 100000 in
theorem open_wants {fuel : Nat} {cs : List Value} {x : DataW H × List MemPlace} (h : DataW.trod enc Try.prog w base spare held fuel 22 cs = some x) :
    ∃ (A : Option Addr) (c : Nat) (l : List (Int × Int)), cs = [.slice A l.length c] ∧ l.length ≤ c ∧ c ≤ maxLen ∧ (A = none → c = 0) ∧ Wants w w.heap.size A l ∧ WideW l := by
  have hz : ∀ A n c, cs = [.slice A n c] → A = none → c = 0 := by
    intro A n c e hA
    rcases open_slice_fields Try.underlying22 Try.underlying51 (by kernel_rfl) cellsW h with rfl | ⟨a, len, cap, m, rfl, _⟩
    · simp only [List.cons.injEq, Value.slice.injEq, and_true] at e
      exact e.2.2.symm
    · simp only [List.cons.injEq, Value.slice.injEq, and_true] at e
      rw [← e.1] at hA
      cases hA
  obtain ⟨A, n, c, xs, rfl, hnc, hcm, hxn, hxl, hxw, hr⟩ := open_recs Try.underlying22 Try.underlying51 (by kernel_rfl) cellsW [.i64, .i64] rfl (by decide) (fun j f hj => by
      match j, hj with
      | 0, hj => exact ⟨.i64, rfl, by simp at hj; subst hj; exact Try.underlying2⟩
      | 1, hj => exact ⟨.i64, rfl, by simp at hj; subst hj; exact Try.underlying3⟩
      | j + 2, hj => simp at hj) h
  have hlen : (xs.map fun x => (x.getD 0 0, x.getD 1 0)).length = n := by simpa using hxn
  refine ⟨A, c, xs.map fun x => (x.getD 0 0, x.getD 1 0), by rw [hlen], by omega, hcm, hz A n c rfl, ?_, ?_⟩
  · unfold Wants
    rw [← recs_flat hxl, hlen]
    exact hr
  · intro y hy
    obtain ⟨x, hx, rfl⟩ := List.mem_map.1 hy
    have h2 := hxl x hx
    match x, h2 with
    | [a, b], _ => exact ⟨bounds_i64 (hxw _ hx 0 .i64 a rfl rfl), bounds_i64 (hxw _ hx 1 .i64 b rfl rfl)⟩
end
end Go.Proofs.Ytogicdljbnllgaa
