/- How long a slice that is handed in may be: what the form's own reach says. -/
import Derived.Test.YtogicdljbnllgaaOpenW
import Derived.SizedLaws
namespace Go.Proofs.Ytogicdljbnllgaa
open Go.Deep Go.ChangeShapes Go.WideShapes Go.ChangeAt Go.RowKit Go.Joins

theorem bytesW : Try.prog.bytesOf 51 = 16 := by kernel_rfl
section
variable {H : Type} {enc : TypeId × Value → H} {w : World} {base : Nat} {spare : Nat → Bool} {held : Bool}
set_option maxRecDepth 100000 in
theorem reach_of {t e : TypeId} {fuel : Nat} {A : Option Addr} {n c : Nat} {d : DataW H} {ps : List MemPlace} {ts : List TypeId} {ds : List (DataW H)} (ht : Try.prog.underlying t = some (.slice e)) (h : DataW.trod enc Try.prog w base spare held fuel t [.slice A n c] = some (d, ps))
    (hz : (DataW.weightsEach Try.prog ts ds).all (· ≤ reachBytes) = true) {j : Nat} (hj : ts[j]? = some t) (hd : ds[j]? = some d) : n * Try.prog.bytesOf e ≤ 140737488351232 := by
  rcases open_slice ht h with ⟨h0, _⟩ | ⟨a, len, cap, m, k, D, Pl, hcs, _, _, _, _, hx, _⟩
  · simp only [List.cons.injEq, Value.slice.injEq, and_true] at h0
    rw [h0.2.1]
    omega
  · simp only [List.cons.injEq, Value.slice.injEq, and_true] at hcs
    have hx' : d = .slice ((List.range len).map D) ((List.range (m - len)).map fun j => D (len + j)) := congrArg Prod.fst hx
    rw [hx'] at hd
    have := sized_slice hz hj hd ht
    simp only [List.length_map, List.length_range, Nat.add_mul] at this
    have hr : reachBytes = 140737488351232 := rfl
    rw [hr] at this
    rw [hcs.2.1]
    omega
end
end Go.Proofs.Ytogicdljbnllgaa
