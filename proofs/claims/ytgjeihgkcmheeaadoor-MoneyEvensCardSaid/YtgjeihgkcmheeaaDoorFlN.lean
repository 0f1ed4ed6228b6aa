/- Words of all kinds against a word that is not negative: which comparisons hold. No program. -/
import Derived.Test.YtgjeihgkcmheeaaDoorFlP
namespace Go.Proofs.YtgjeihgkcmheeaaDoor
open Ieee

theorem split_sign {x y : Nat} {n : Bool} (hy : y < 9223372036854775808) (hx : x = (if n then 9223372036854775808 else 0) + y) : (x / 9223372036854775808 % 2 == 1) = n ∧ x % 9223372036854775808 = y := by
  cases n
  · rw [if_neg (by decide)] at hx
    refine ⟨?_, by omega⟩
    have : x / 9223372036854775808 % 2 = 0 := by omega
    rw [this]; rfl
  · rw [if_pos rfl] at hx
    refine ⟨?_, by omega⟩
    have : x / 9223372036854775808 % 2 = 1 := by omega
    rw [this]; rfl
theorem read_num {y : Nat} (n : Bool) (hy : y < 9218868437227405312) : double.read ((if n then 9223372036854775808 else 0) + y) = .number n (mO y) ((kO y : Int) - 1074) := by
  obtain ⟨x, hx⟩ : ∃ x, x = (if n then 9223372036854775808 else 0) + y := ⟨_, rfl⟩
  obtain ⟨h2, h1⟩ := split_sign (by omega) hx
  rw [← hx]
  clear hx
  unfold Format.read
  rw [sign_eq, binade_eq, infRung_eq, least_eq]
  simp only [h1, h2]
  unfold mO kO
  by_cases h : y < 4503599627370496
  · rw [if_pos h, if_pos h]
    have : y / 4503599627370496 - 1 = 0 := by omega
    rw [this]; rfl
  · rw [if_neg h, if_neg h, if_pos hy]
    congr 1
theorem read_inf (n : Bool) : double.read ((if n then 9223372036854775808 else 0) + 9218868437227405312) = .infinity n := by cases n <;> decide +kernel
theorem read_nan {y : Nat} (n : Bool) (h1 : 9218868437227405312 < y) (h2 : y < 9223372036854775808) : ∃ f, double.read ((if n then 9223372036854775808 else 0) + y) = .nan n f := by
  obtain ⟨x, hx⟩ : ∃ x, x = (if n then 9223372036854775808 else 0) + y := ⟨_, rfl⟩
  obtain ⟨h3, h4⟩ := split_sign h2 hx
  rw [← hx]
  clear hx
  unfold Format.read
  rw [sign_eq, binade_eq, infRung_eq, least_eq]
  simp only [h4, h3]
  rw [if_neg (by omega), if_neg (by omega), if_neg (by omega)]
  exact ⟨_, rfl⟩
/-- The kinds of a word. -/
inductive KindF (x : Nat) : Prop where
  | pos (h : x < 9218868437227405312)
  | inf (h : x = 9218868437227405312)
  | neg (y : Nat) (h : x = 9223372036854775808 + y) (hy : y < 9218868437227405312)
  | ninf (h : x = 9223372036854775808 + 9218868437227405312)
  | nan (n : Bool) (f : Nat) (h : double.read x = .nan n f) (h1 : 9218868437227405312 < x) (h2 : x ≠ 9223372036854775808)
theorem kindF {x : Nat} (hx : x < 18446744073709551616) : KindF x := by
  by_cases h1 : x < 9218868437227405312
  · exact .pos h1
  by_cases h2 : x = 9218868437227405312
  · exact .inf h2
  by_cases h3 : x < 9223372036854775808
  · obtain ⟨f, hf⟩ := read_nan false (y := x) (by omega) h3
    rw [if_neg (by decide), Nat.zero_add] at hf
    exact .nan _ f hf (by omega) (by omega)
  by_cases h4 : x < 9223372036854775808 + 9218868437227405312
  · exact .neg (x - 9223372036854775808) (by omega) (by omega)
  by_cases h5 : x = 9223372036854775808 + 9218868437227405312
  · exact .ninf h5
  · obtain ⟨f, hf⟩ := read_nan true (y := x - 9223372036854775808) (by omega) (by omega)
    rw [if_pos rfl, show 9223372036854775808 + (x - 9223372036854775808) = x from by omega] at hf
    exact .nan _ f hf (by omega) (by omega)
/-- x >= y, x <= y, of a y that is not negative. -/
def geF (x y : Nat) : Bool := double.order x y == some .gt || double.order x y == some .eq
def leF (x y : Nat) : Bool := double.order x y == some .lt || double.order x y == some .eq
theorem ge_pos {x y : Nat} (hx : x < 9218868437227405312) (hy : y < 9218868437227405312) : geF x y = decide (y ≤ x) ∧ leF x y = decide (x ≤ y) := by
  unfold geF leF
  rw [order_pos hx hy]
  rcases Nat.lt_trichotomy x y with h | h | h
  · rw [Nat.compare_eq_lt.2 h, decide_eq_false (by omega), decide_eq_true (by omega)]; exact ⟨rfl, rfl⟩
  · rw [Nat.compare_eq_eq.2 h, decide_eq_true (by omega), decide_eq_true (by omega)]; exact ⟨rfl, rfl⟩
  · rw [Nat.compare_eq_gt.2 h, decide_eq_true (by omega), decide_eq_false (by omega)]; exact ⟨rfl, rfl⟩
theorem ge_inf {y : Nat} (hy : y < 9218868437227405312) : geF 9218868437227405312 y = true ∧ leF 9218868437227405312 y = false := by
  have h := read_inf false
  rw [if_neg (by decide), Nat.zero_add] at h
  unfold geF leF Format.order
  rw [h, read_pos hy]
  exact ⟨rfl, rfl⟩
theorem ge_ninf {y : Nat} (hy : y < 9218868437227405312) : geF (9223372036854775808 + 9218868437227405312) y = false ∧ leF (9223372036854775808 + 9218868437227405312) y = true := by
  have h := read_inf true
  rw [if_pos rfl] at h
  unfold geF leF Format.order
  rw [h, read_pos hy]
  exact ⟨rfl, rfl⟩
theorem ge_nan {x y f : Nat} {n : Bool} (h : double.read x = .nan n f) : geF x y = false ∧ leF x y = false := by
  unfold geF leF Format.order
  rw [h]
  exact ⟨rfl, rfl⟩
theorem mO_zero {x : Nat} : mO x = 0 ↔ x = 0 := by
  unfold mO
  split <;> omega
theorem shl_pos {m s : Nat} : m <<< s = 0 ↔ m = 0 := by
  rw [Nat.shiftLeft_eq]
  have := Nat.two_pow_pos s
  constructor
  · intro h
    rcases Nat.mul_eq_zero.1 h with h | h
    · exact h
    · omega
  · intro h; rw [h, Nat.zero_mul]
theorem ge_neg {x y : Nat} (hx : x < 9218868437227405312) (hy : y < 9218868437227405312) : geF (9223372036854775808 + x) y = (decide (x = 0) && decide (y = 0)) ∧ leF (9223372036854775808 + x) y = true := by
  have h := read_num true hx
  rw [if_pos rfl] at h
  unfold geF leF Format.order
  rw [h, read_pos hy]
  unfold Datum.order
  simp only [signed, Bool.false_eq_true, if_false, if_true]
  generalize hs1 : ((kO x : Int) - 1074 - min ((kO x : Int) - 1074) ((kO y : Int) - 1074)).toNat = s1
  generalize hs2 : ((kO y : Int) - 1074 - min ((kO x : Int) - 1074) ((kO y : Int) - 1074)).toNat = s2
  have a1 := (shl_pos (m := mO x) (s := s1)).trans mO_zero
  have a2 := (shl_pos (m := mO y) (s := s2)).trans mO_zero
  generalize mO x <<< s1 = A at *
  generalize mO y <<< s2 = B at *
  by_cases hz : A = 0 ∧ B = 0
  · rw [Int.compare_eq_eq.2 (by omega), decide_eq_true (a1.1 hz.1), decide_eq_true (a2.1 hz.2)]
    exact ⟨rfl, rfl⟩
  · rw [Int.compare_eq_lt.2 (by omega)]
    refine ⟨?_, rfl⟩
    by_cases hA : x = 0
    · have hB : ¬ y = 0 := fun h => hz ⟨a1.2 hA, a2.2 h⟩
      rw [decide_eq_false hB, Bool.and_false]; rfl
    · rw [decide_eq_false hA, Bool.false_and]; rfl
end Go.Proofs.YtgjeihgkcmheeaaDoor
