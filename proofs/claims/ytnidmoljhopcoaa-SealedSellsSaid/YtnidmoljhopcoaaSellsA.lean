/- The walks of gavellaw11's lent, ints, same; the document's Check and Sell. -/
import Derived.Test.YtnidmoljhopcoaaOrdR
namespace Go.Proofs.Ytnidmoljhopcoaa
open Go.RowKit

set_option maxRecDepth 100000 in
set_option maxHeartbeats 2000000 in
/-- Two lists of places that are the same. -/
theorem ints_any {B1 B2 : Nat} {v1 v2 : Value} (xs : List Int) (w : World) (h1 : w.ownsRow B1 3 1 v1 xs.length (xs.map (Value.int .i64))) (h2 : w.ownsRow B2 3 1 v2 xs.length (xs.map (Value.int .i64))) (hl : xs.length ≤ 1000000) :
    Calls Try.prog 21 #[v1, v2] w (ValPost (.bool true) w) := by
  obtain ⟨A1, c1, rfl, _⟩ := own_sh h1
  obtain ⟨A2, c2, rfl, _⟩ := own_sh h2
  have H1 := hide (Reads.of_own h1)
  have H2 := hide (Reads.of_own h2)
  clear h1 h2
  go_enter Try.func21, Try.ntmps21
  go_wp2_with fail
  go_loopw [5] (fun i wr => ∃ k : Nat, k ≤ xs.length ∧ i = .int .i64 k ∧ Below w.heap.size w wr) (fun i _ => xs.length - (intOf i).toNat)
  case atStart => exact ⟨0, Nat.zero_le _, rfl, Below.refl _ _⟩
  case round =>
    obtain ⟨k, hk, rfl, hb⟩ := hrel
    by_cases hlt : k < xs.length
    · obtain ⟨b1, o1, rfl, hB1, hc1⟩ := H1.out.2 (by omega)
      obtain ⟨b2, o2, rfl, hB2, hc2⟩ := H2.out.2 (by omega)
      obtain ⟨x, hx⟩ : ∃ x, xs[k]? = some x := ⟨xs[k], List.getElem?_eq_getElem hlt⟩
      have d1 := (hb.cell (p := ⟨b1, o1 + k, none⟩) hB1).trans (hc1 k (.int .i64 x) (by rw [List.getElem?_map, hx]; rfl))
      have d2 := (hb.cell (p := ⟨b2, o2 + k, none⟩) hB2).trans (hc2 k (.int .i64 x) (by rw [List.getElem?_map, hx]; rfl))
      have HB := hide hb
      clear hc1 hc2 hx hb
      go_wp2_with fail
      go_quiet (fail)
      go_wp2
      go_roundw
      case rel => exact ⟨k + 1, by omega, by go_num, below_drewN HB.out _⟩
      case measure => (simp [intOf] <;> omega)
    · obtain rfl : k = xs.length := by omega
      go_wp2_with fail
      go_ret
      exact ⟨rfl, hb⟩

set_option maxRecDepth 100000 in
set_option maxHeartbeats 2000000 in
theorem same_any {A1 A2 : Option Addr} {c1 c2 : Nat} (l : List (Int × Int)) (w : World) (h1 : Bids w w.heap.size A1 l) (h2 : Bids w w.heap.size A2 l) (hl : l.length ≤ 1000000) :
    Calls Try.prog 22 #[.slice A1 l.length c1, .slice A2 l.length c2] w (ValPost (.bool true) w) := by
  have H1 := hide h1.at_
  have H2 := hide h2.at_
  clear h1 h2
  go_enter Try.func22, Try.ntmps22
  go_wp2_with fail
  go_loopw [5] (fun i wr => ∃ k : Nat, k ≤ l.length ∧ i = .int .i64 k ∧ Below w.heap.size w wr) (fun i _ => l.length - (intOf i).toNat)
  case atStart => exact ⟨0, Nat.zero_le _, rfl, Below.refl _ _⟩
  case round =>
    obtain ⟨k, hk, rfl, hb⟩ := hrel
    by_cases hlt : k < l.length
    · obtain ⟨b1, o1, rfl, hB1, hc1⟩ := H1.out (by omega)
      obtain ⟨b2, o2, rfl, hB2, hc2⟩ := H2.out (by omega)
      obtain ⟨x, hx⟩ : ∃ x, l[k]? = some x := ⟨l[k], List.getElem?_eq_getElem hlt⟩
      have d1 := (hb.cell (p := ⟨b1, o1 + k * 2, none⟩) hB1).trans (hc1 k x hx).1
      have d2 := (hb.cell (p := ⟨b1, o1 + k * 2 + 1, none⟩) hB1).trans (hc1 k x hx).2
      have d3 := (hb.cell (p := ⟨b2, o2 + k * 2, none⟩) hB2).trans (hc2 k x hx).1
      have d4 := (hb.cell (p := ⟨b2, o2 + k * 2 + 1, none⟩) hB2).trans (hc2 k x hx).2
      have HB := hide hb
      obtain ⟨x1, x2⟩ := x
      simp only at d1 d2 d3 d4
      clear hc1 hc2 hx hb
      go_wp2_with fail
      go_quiet (fail)
      go_wp2
      go_roundw
      case rel => exact ⟨k + 1, by omega, by go_num, below_drewN HB.out _⟩
      case measure => (simp [intOf] <;> omega)
    · obtain rfl : k = l.length := by omega
      go_wp2_with fail
      go_ret
      exact ⟨rfl, hb⟩
end Go.Proofs.Ytnidmoljhopcoaa
