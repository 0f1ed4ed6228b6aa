/- The walks of the law's small functions: num, great, SameInts. -/
import Derived.Test.YtogicdljbnllgaaTrade
namespace Go.Proofs.Ytogicdljbnllgaa
open Go.Shelf Go.RowKit Go.Lib Go.Sort Go.Proofs

set_option maxHeartbeats 1000000 in
theorem num_any (n : Int) (w : World) : Calls Try.prog 17 #[.int .i64 n] w (ValPost (.int .i64 n) w) := by
  go_enter Try.func17, Try.ntmps17
  go_wp2
  go_ret
  exact ⟨rfl, Below.refl _ _⟩
def greatN (n : Nat) : Bool := decide (200 < (n : Int)) && decide ((n : Int) ≤ 4096)
set_option maxHeartbeats 1000000 in
theorem great_any (A : Option Addr) (c n : Nat) (w : World) : Calls Try.prog 8 #[.slice A n c] w (ValPost (.bool (greatN n)) w) := by
  unfold greatN
  by_cases h : 200 < (n : Int)
  · simp only [h, decide_true, Bool.true_and]
    go_enter Try.func8, Try.ntmps8
    go_wp2
    go_ret
    exact ⟨rfl, Below.refl _ _⟩
  · have h1 : decide (200 < (n : Int)) = false := decide_eq_false h
    rw [h1]
    simp only [Bool.false_and]
    go_enter Try.func8, Try.ntmps8
    go_wp2
    go_ret
    exact ⟨rfl, Below.refl _ _⟩

/-- Numbers that lie in a row. -/
def Ints (w : World) (B : Nat) (A : Option Addr) (l : List Int) : Prop := Reads w B 1 A l.length (l.map (Value.int .i64))
theorem Ints.at_ {w : World} {B : Nat} {A : Option Addr} {l : List Int} (h : Ints w B A l) (hn : 0 < l.length) :
    ∃ b o, A = some ⟨b, o, none⟩ ∧ b < B ∧ ∀ (k : Nat) (x : Int), l[k]? = some x → w.cell? ⟨b, o + k, none⟩ = some (.int .i64 x) := by
  obtain ⟨b, o, e, hb, hc⟩ := h.2 hn
  exact ⟨b, o, e, hb, fun k x hx => hc k _ (by rw [List.getElem?_map, hx]; rfl)⟩
theorem meas_i {n k : Nat} {z : Int} (h : k < n) (f : z = ((k + 1 : Nat) : Int)) : n - (intOf (.int .i64 z)).toNat < n - (intOf (.int .i64 (k : Int))).toNat := by
  subst f
  simp only [intOf]
  omega

set_option maxRecDepth 100000 in
set_option maxHeartbeats 2000000 in
theorem sameInts_eq (A : Option Addr) (c : Nat) (A' : Option Addr) (c' : Nat) (l : List Int) (w : World) (h : Ints w w.heap.size A l) (h' : Ints w w.heap.size A' l) (hl : l.length ≤ 1000000) :
    Calls Try.prog 25 #[.slice A l.length c, .slice A' l.length c'] w (ValPost (.bool true) w) := by
  have hat := Ints.at_ h
  have hat' := Ints.at_ h'
  clear h h'
  go_enter Try.func25, Try.ntmps25
  go_wp2_with fail
  go_loopw [5] (fun iv wr => ∃ k : Nat, k ≤ l.length ∧ iv = .int .i64 k ∧ Below w.heap.size w wr) (fun iv _ => l.length - (intOf iv).toNat)
  case atStart => exact ⟨0, Nat.zero_le _, rfl, Below.refl _ _⟩
  case round =>
    obtain ⟨k, hk, rfl, hb⟩ := hrel
    have HB := hide hb
    by_cases hlt : k < l.length
    · obtain ⟨b, o, rfl, hbB, hcc⟩ := hat (by omega)
      obtain ⟨b', o', rfl, hbB', hcc'⟩ := hat' (by omega)
      obtain ⟨x, hx⟩ : ∃ x, l[k]? = some x := ⟨l[k], List.getElem?_eq_getElem hlt⟩
      have d0 := (hb.cell (p := ⟨b, o + k, none⟩) hbB).trans (hcc k x hx)
      have f0 := (hb.cell (p := ⟨b', o' + k, none⟩) hbB').trans (hcc' k x hx)
      have hki : (k : Int) < (l.length : Int) := by omega
      clear hcc hcc' hat hat' hx hb
      go_wp2_with fail
      go_quiet (fail)
      go_wp2_with fail
      go_roundw
      case rel => exact ⟨k + 1, by omega, by go_num, below_drewN HB.out _⟩
      case measure => simp [intOf]; omega
    · obtain rfl : k = l.length := by omega
      go_wp2_with fail
      go_ret
      exact ⟨rfl, HB.out⟩
end Go.Proofs.Ytogicdljbnllgaa
