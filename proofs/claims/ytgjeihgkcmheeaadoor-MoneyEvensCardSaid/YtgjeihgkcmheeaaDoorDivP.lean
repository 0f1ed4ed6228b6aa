/- Division of two words by one, plainly: what each digit is. No program. -/
import Derived.Test.YtgjeihgkcmheeaaDoorBase
namespace Go.Proofs.YtgjeihgkcmheeaaDoor
open Go.RowKit

def b32 : Nat := 4294967296
/-- One digit: the divisor's halves y1 y0 (y1 has its highest bit), what is divided u b + v, u below the divisor. -/
structure DigI (y1 y0 u v q r : Nat) : Prop where
  eq : q * y1 + r = u
  ge : (u * 4294967296 + v) / (y1 * 4294967296 + y0) ≤ q
  le : q ≤ 4294967297
section
variable {y1 y0 u v q r : Nat}
theorem dig_start (h1 : 2147483648 ≤ y1) (h0 : y0 < 4294967296) (hu : u < y1 * 4294967296 + y0) (hv : v < 4294967296) : DigI y1 y0 u v (u / y1) (u % y1) := by
  refine ⟨by rw [Nat.mul_comm]; exact Nat.div_add_mod u y1, ?_, ?_⟩
  · rw [Nat.div_le_iff_le_mul_add_pred (by omega)]
    have e := Nat.div_add_mod u y1
    have hm := Nat.mod_lt u (show 0 < y1 by omega)
    generalize u / y1 = q at *
    generalize u % y1 = r at *
    have e2 : (y1 * 4294967296 + y0) * q = (y1 * q) * 4294967296 + y0 * q := by rw [Nat.add_mul, Nat.mul_right_comm]
    rw [e2]
    generalize y1 * q = p at *
    omega
  · rw [Nat.div_le_iff_le_mul_add_pred (by omega)]
    omega
theorem dig_lt (h1 : 2147483648 ≤ y1) (h0 : y0 < 4294967296) (hu : u < y1 * 4294967296 + y0) (hv : v < 4294967296) : (u * 4294967296 + v) / (y1 * 4294967296 + y0) < 4294967296 := by
  rw [Nat.div_lt_iff_lt_mul (by omega)]
  have : (u + 1) * 4294967296 ≤ (y1 * 4294967296 + y0) * 4294967296 := Nat.mul_le_mul_right _ hu
  omega
theorem DigI.mul (h : DigI y1 y0 u v q r) : q * (y1 * 4294967296 + y0) + r * 4294967296 = u * 4294967296 + q * y0 := by
  have e := h.eq
  have e2 : u * 4294967296 = q * y1 * 4294967296 + r * 4294967296 := by rw [← e]; exact Nat.add_mul (q * y1) r 4294967296
  have e3 : q * (y1 * 4294967296 + y0) = q * y1 * 4294967296 + q * y0 := by rw [Nat.mul_add q (y1 * 4294967296) y0, Nat.mul_assoc]
  omega
theorem aux_lt {a b c d v : Nat} (h : a + b = c + d) (hc : b + v < d) : c + v < a := by omega
/-- Too great: one less. -/
theorem DigI.next (h : DigI y1 y0 u v q r) (h1 : 2147483648 ≤ y1) (h0 : y0 < 4294967296) (hu : u < y1 * 4294967296 + y0) (hv : v < 4294967296) (hc : 4294967296 ≤ q ∨ r * 4294967296 + v < q * y0) :
    0 < q ∧ DigI y1 y0 u v (q - 1) (r + y1) ∧ q - 1 ≤ 4294967296 := by
  have hq : (u * 4294967296 + v) / (y1 * 4294967296 + y0) < q := by
    rcases hc with hc | hc
    · have := dig_lt h1 h0 hu hv; omega
    · refine (Nat.div_lt_iff_lt_mul (show 0 < y1 * 4294967296 + y0 by omega)).2 (aux_lt h.mul hc)
  have h0q : 0 < q := Nat.lt_of_le_of_lt (Nat.zero_le _) hq
  have hl := h.le
  refine ⟨h0q, ⟨?_, by omega, by omega⟩, by omega⟩
  have e := h.eq
  obtain ⟨p, rfl⟩ : ∃ p, q = p + 1 := ⟨q - 1, by omega⟩
  rw [Nat.add_mul, Nat.one_mul] at e
  rw [Nat.add_sub_cancel]
  omega
theorem DigI.done (h : DigI y1 y0 u v q r) (h1 : 2147483648 ≤ y1) (hc : q * y0 ≤ r * 4294967296 + v) : q = (u * 4294967296 + v) / (y1 * 4294967296 + y0) := by
  refine Nat.le_antisymm ?_ h.ge
  refine (Nat.le_div_iff_mul_le (show 0 < y1 * 4294967296 + y0 by omega)).2 ?_
  have := h.mul
  omega
theorem DigI.out (h : DigI y1 y0 u v q r) (h1 : 2147483648 ≤ y1) (h0 : y0 < 4294967296) (hq : q ≤ 4294967296) (hr : 4294967296 ≤ r) : q = (u * 4294967296 + v) / (y1 * 4294967296 + y0) := by
  refine h.done h1 ?_
  have e1 : q * y0 ≤ 4294967296 * 4294967295 := Nat.mul_le_mul hq (by omega)
  omega
/-- What is left over behind a digit. -/
theorem dig_rest (h1 : 2147483648 ≤ y1) {Q : Nat} (hQ : Q = (u * 4294967296 + v) / (y1 * 4294967296 + y0)) : Q * (y1 * 4294967296 + y0) ≤ u * 4294967296 + v ∧ u * 4294967296 + v - Q * (y1 * 4294967296 + y0) = (u * 4294967296 + v) % (y1 * 4294967296 + y0) := by
  have e := Nat.div_add_mod (u * 4294967296 + v) (y1 * 4294967296 + y0)
  rw [← hQ, Nat.mul_comm] at e
  omega
end
/-- Two digits make the quotient. -/
theorem two_digits {u v1 v0 y : Nat} (hy : 0 < y) : ((u * 4294967296 + v1) / y) * 4294967296 + ((u * 4294967296 + v1) % y * 4294967296 + v0) / y = (u * 18446744073709551616 + (v1 * 4294967296 + v0)) / y ∧ ((u * 4294967296 + v1) % y * 4294967296 + v0) % y = (u * 18446744073709551616 + (v1 * 4294967296 + v0)) % y := by
  have e := Nat.div_add_mod (u * 4294967296 + v1) y
  obtain ⟨Q, hQ⟩ : ∃ Q, Q = (u * 4294967296 + v1) / y := ⟨_, rfl⟩
  obtain ⟨R, hR⟩ : ∃ R, R = (u * 4294967296 + v1) % y := ⟨_, rfl⟩
  rw [← hQ, ← hR] at e ⊢
  have e2 : u * 18446744073709551616 + (v1 * 4294967296 + v0) = (R * 4294967296 + v0) + y * (Q * 4294967296) := by
    have e3 : y * (Q * 4294967296) = y * Q * 4294967296 := (Nat.mul_assoc y Q 4294967296).symm
    rw [e3]
    omega
  obtain ⟨X, hX⟩ : ∃ X, X = u * 18446744073709551616 + (v1 * 4294967296 + v0) := ⟨_, rfl⟩
  obtain ⟨Z, hZ⟩ : ∃ Z, Z = R * 4294967296 + v0 := ⟨_, rfl⟩
  obtain ⟨T, hT⟩ : ∃ T, T = Q * 4294967296 := ⟨_, rfl⟩
  have e4 : X = Z + y * T := by rw [hX, hZ, hT]; exact e2
  have e5 : X / y = Z / y + T := by rw [e4, Nat.add_mul_div_left _ _ hy]
  have e6 : X % y = Z % y := by rw [e4, Nat.add_mul_mod_self_left]
  subst hX hZ hT
  exact ⟨by rw [e5, Nat.add_comm], e6.symm⟩
/-- Scaled by a power of two. -/
theorem scaled {X y : Nat} (s : Nat) : X * 2 ^ s / (y * 2 ^ s) = X / y ∧ X * 2 ^ s % (y * 2 ^ s) / 2 ^ s = X % y := by
  have hp : 0 < 2 ^ s := Nat.two_pow_pos s
  refine ⟨Nat.mul_div_mul_right _ _ hp, ?_⟩
  rw [Nat.mul_mod_mul_right, Nat.mul_div_cancel _ hp]
end Go.Proofs.YtgjeihgkcmheeaaDoor
