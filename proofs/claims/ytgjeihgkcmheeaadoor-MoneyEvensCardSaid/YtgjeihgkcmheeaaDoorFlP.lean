/- Real numbers of 64 bits, plainly: a word that is not negative as a number of 53 bits, moved; their order is the words' own; what is exact stays so. No program. -/
import Derived.Test.YtgjeihgkcmheeaaDoorBase
import Ieee.Arith
namespace Go.Proofs.YtgjeihgkcmheeaaDoor
open Ieee

/-- A word's number of 53 bits, and by how much it is moved up from the least place. -/
def mO (x : Nat) : Nat := if x < 4503599627370496 then x else 4503599627370496 + x % 4503599627370496
def kO (x : Nat) : Nat := x / 4503599627370496 - 1
def infB : Nat := 9218868437227405312
theorem binade_eq : double.binade = 4503599627370496 := by decide
theorem infRung_eq : double.infRung = 9218868437227405312 := by decide
theorem sign_eq : double.signWeight = 9223372036854775808 := by decide
theorem least_eq : double.leastPlace = -1074 := by decide
theorem frac_eq : double.fractionBits = 52 := rfl
theorem mk_form {x : Nat} : x = kO x * 4503599627370496 + mO x ∧ mO x < 9007199254740992 ∧ (4503599627370496 ≤ mO x ∨ kO x = 0) := by
  unfold mO kO
  by_cases h : x < 4503599627370496
  · rw [if_pos h]; omega
  · rw [if_neg h]; omega
theorem mk_of {k m : Nat} (hm : m < 9007199254740992) (hk : 4503599627370496 ≤ m ∨ k = 0) : mO (k * 4503599627370496 + m) = m ∧ kO (k * 4503599627370496 + m) = k := by
  unfold mO kO
  by_cases h : k * 4503599627370496 + m < 4503599627370496
  · rw [if_pos h]; omega
  · rw [if_neg h]; omega
theorem kO_le {x : Nat} (hx : x < 9218868437227405312) : kO x ≤ 2045 := by unfold kO; omega
theorem read_pos {x : Nat} (hx : x < 9218868437227405312) : double.read x = .number false (mO x) ((kO x : Int) - 1074) := by
  unfold Format.read
  rw [sign_eq, binade_eq, infRung_eq, least_eq]
  have h1 : x % 9223372036854775808 = x := Nat.mod_eq_of_lt (by omega)
  have h2 : (x / 9223372036854775808 % 2 == 1) = false := by
    have : x / 9223372036854775808 = 0 := by omega
    rw [this]; rfl
  simp only [h1, h2]
  unfold mO kO
  by_cases h : x < 4503599627370496
  · rw [if_pos h, if_pos h]
    have : x / 4503599627370496 - 1 = 0 := by omega
    rw [this]; rfl
  · rw [if_neg h, if_neg h, if_pos hx]
    congr 1
theorem log_of {m L : Nat} (h1 : 2 ^ L ≤ m) (h2 : m < 2 ^ (L + 1)) : m.log2 = L := by
  have h0 : m ≠ 0 := by have := Nat.two_pow_pos L; omega
  have a := (Nat.le_log2 h0).2 h1
  have b := (Nat.log2_lt h0).2 h2
  omega
theorem log_shift {m t : Nat} (h0 : m ≠ 0) : (m * 2 ^ t).log2 = m.log2 + t := by
  have h1 : 2 ^ m.log2 ≤ m := Nat.log2_self_le h0
  have h2 : m < 2 ^ (m.log2 + 1) := Nat.lt_log2_self
  refine log_of ?_ ?_
  · rw [Nat.pow_add]; exact Nat.mul_le_mul_right _ h1
  · have e : m.log2 + t + 1 = (m.log2 + 1) + t := by omega
    rw [e, Nat.pow_add]
    exact Nat.mul_lt_mul_of_pos_right h2 (Nat.two_pow_pos t)
theorem log_53 {m : Nat} (h0 : m ≠ 0) (hm : m < 9007199254740992) : m.log2 ≤ 52 := by
  have := (Nat.log2_lt h0).2 (show m < 2 ^ 53 from hm)
  omega
/-- Cut where nothing is lost. -/
theorem cut_exact {M t : Nat} (h0 : M ≠ 0) (way : Toward) (neg : Bool) : way.cut neg (M * 2 ^ t) t = M := by
  unfold Toward.cut
  have hl := log_shift (t := t) h0
  have hmin : min t ((M * 2 ^ t).log2 + 2) = t := by omega
  have hp := Nat.two_pow_pos t
  simp only [hmin, Nat.shiftLeft_eq, Nat.one_mul, Nat.mul_div_cancel _ hp, Nat.mul_mod_left]
  cases way <;> simp <;> omega
/-- What a word can hold is written as it is. -/
theorem nearest_exact {M t k : Nat} (h0 : M ≠ 0) (hM : M < 9007199254740992) (hk : 4503599627370496 ≤ M ∨ k = 0) (hk2 : k ≤ 2045) : double.nearest false (M * 2 ^ t) ((k : Int) - 1074 - t) = k * 4503599627370496 + M := by
  have hp := Nat.two_pow_pos t
  have hne : M * 2 ^ t ≠ 0 := Nat.mul_ne_zero h0 (by omega)
  unfold Format.nearest
  rw [if_neg hne, log_shift h0, frac_eq, least_eq, binade_eq, infRung_eq]
  have hlast : max ((k : Int) - 1074 - t + ((M.log2 + t : Nat) : Int) - ((52 : Nat) : Int)) (-1074) = (k : Int) - 1074 := by
    have h1 := log_53 h0 hM
    rcases hk with hk | hk
    · have h2 := (Nat.le_log2 h0).2 (show 2 ^ 52 ≤ M from hk)
      omega
    · subst hk; omega
  simp only [hlast]
  have e1 : ((k : Int) - 1074 - t - ((k : Int) - 1074)).toNat = 0 := by omega
  have e2 : ((k : Int) - 1074 - ((k : Int) - 1074 - t)).toNat = t := by omega
  have e3 : ((k : Int) - 1074 - -1074).toNat = k := by omega
  rw [e1, e2, e3, Nat.shiftLeft_zero, cut_exact h0]
  unfold Format.word
  rw [if_neg (by decide)]
  omega
theorem nearest_zero (p : Int) : double.nearest false 0 p = 0 := rfl
/-- The words' order. -/
theorem order_pos {x y : Nat} (hx : x < 9218868437227405312) (hy : y < 9218868437227405312) : double.order x y = some (compare x y) := by
  unfold Format.order
  rw [read_pos hx, read_pos hy]
  obtain ⟨fx, bx, cx⟩ := mk_form (x := x)
  obtain ⟨fy, by_, cy⟩ := mk_form (x := y)
  generalize mO x = m at *
  generalize kO x = k at *
  generalize mO y = n at *
  generalize kO y = j at *
  unfold Datum.order
  simp only [signed, Bool.false_eq_true, if_false, Option.some.injEq]
  have key : ∀ {k j m n : Nat}, k < j → m < 9007199254740992 → (4503599627370496 ≤ n ∨ j = 0) → m * 2 ^ 0 < n * 2 ^ (j - k) ∧ k * 4503599627370496 + m < j * 4503599627370496 + n := by
    intro k j m n h1 h2 h3
    have h4 : 4503599627370496 ≤ n := by omega
    have h5 : 2 ^ 1 ≤ 2 ^ (j - k) := Nat.pow_le_pow_right (by decide) (by omega)
    have h6 : n * 2 ≤ n * 2 ^ (j - k) := Nat.mul_le_mul_left _ (by simpa using h5)
    omega
  rcases Nat.lt_trichotomy k j with h | h | h
  · have e1 : ((k : Int) - 1074 - min ((k : Int) - 1074) ((j : Int) - 1074)).toNat = 0 := by omega
    have e2 : ((j : Int) - 1074 - min ((k : Int) - 1074) ((j : Int) - 1074)).toNat = j - k := by omega
    rw [e1, e2, Nat.shiftLeft_eq, Nat.shiftLeft_eq]
    obtain ⟨a, b⟩ := key h bx cy
    rw [← fx, ← fy] at b
    rw [Int.compare_eq_lt.2 (by omega), Nat.compare_eq_lt.2 b]
  · subst h
    have e1 : ((k : Int) - 1074 - min ((k : Int) - 1074) ((k : Int) - 1074)).toNat = 0 := by omega
    rw [e1, Nat.shiftLeft_eq, Nat.shiftLeft_eq]
    rcases Nat.lt_trichotomy m n with h | h | h
    · rw [Int.compare_eq_lt.2 (by omega), Nat.compare_eq_lt.2 (by omega)]
    · rw [Int.compare_eq_eq.2 (by omega), Nat.compare_eq_eq.2 (by omega)]
    · rw [Int.compare_eq_gt.2 (by omega), Nat.compare_eq_gt.2 (by omega)]
  · have e1 : ((k : Int) - 1074 - min ((k : Int) - 1074) ((j : Int) - 1074)).toNat = k - j := by omega
    have e2 : ((j : Int) - 1074 - min ((k : Int) - 1074) ((j : Int) - 1074)).toNat = 0 := by omega
    rw [e1, e2, Nat.shiftLeft_eq, Nat.shiftLeft_eq]
    obtain ⟨a, b⟩ := key h by_ cx
    rw [← fx, ← fy] at b
    rw [Int.compare_eq_gt.2 (by omega), Nat.compare_eq_gt.2 b]
/-- A word's number with its highest bit. -/
structure NF (x M sh : Nat) : Prop where
  eq : M = mO x * 2 ^ sh
  ge : 4503599627370496 ≤ M
  lt : M < 9007199254740992
  s52 : sh ≤ 52
  or : sh = 0 ∨ kO x = 0
theorem nf_of {x : Nat} (h0 : 0 < x) : ∃ M sh, NF x M sh := by
  obtain ⟨f, b, c⟩ := mk_form (x := x)
  by_cases h : 4503599627370496 ≤ mO x
  · exact ⟨mO x, 0, (Nat.mul_one _).symm, h, b, Nat.zero_le _, .inl rfl⟩
  · have hk : kO x = 0 := by omega
    have hm : mO x ≠ 0 := by rw [hk] at f; omega
    have hl : (mO x).log2 ≤ 51 := by
      have := (Nat.log2_lt hm).2 (show mO x < 2 ^ 52 from Nat.lt_of_not_le h)
      omega
    refine ⟨mO x * 2 ^ (52 - (mO x).log2), 52 - (mO x).log2, rfl, ?_, ?_, by omega, .inr hk⟩
    · have h1 : 2 ^ (mO x).log2 ≤ mO x := Nat.log2_self_le hm
      have h2 := Nat.mul_le_mul_right (2 ^ (52 - (mO x).log2)) h1
      rw [← Nat.pow_add, show (mO x).log2 + (52 - (mO x).log2) = 52 from by omega] at h2
      exact h2
    · have h1 : mO x < 2 ^ ((mO x).log2 + 1) := Nat.lt_log2_self
      have h2 := Nat.mul_lt_mul_of_pos_right h1 (Nat.two_pow_pos (52 - (mO x).log2))
      rw [← Nat.pow_add, show (mO x).log2 + 1 + (52 - (mO x).log2) = 53 from by omega] at h2
      exact h2
theorem mul_read {x y : Nat} (hx : x < 9218868437227405312) (hy : y < 9218868437227405312) : double.mul x y = some (double.nearest false (mO x * mO y) ((kO x : Int) - 1074 + ((kO y : Int) - 1074))) := by
  unfold Format.mul
  rw [read_pos hx, read_pos hy]
  rfl
/-- A product with a power of two. -/
theorem mul_pow {x j M t k : Nat} (hx : x < 9218868437227405312) (hj : j ≤ 2045) (h0 : M ≠ 0) (hM : M < 9007199254740992) (hk : 4503599627370496 ≤ M ∨ k = 0) (hk2 : k ≤ 2045)
    (h1 : mO x * 4503599627370496 = M * 2 ^ t) (h2 : (kO x : Int) + j - 1074 = k - t) : double.mul x ((j + 1) * 4503599627370496) = some (k * 4503599627370496 + M) := by
  have e : (j + 1) * 4503599627370496 = j * 4503599627370496 + 4503599627370496 := Nat.succ_mul j _
  obtain ⟨a, b⟩ := mk_of (k := j) (m := 4503599627370496) (by decide) (.inl (Nat.le_refl _))
  rw [e, mul_read hx (by omega), a, b, h1]
  have e2 : (kO x : Int) - 1074 + ((j : Int) - 1074) = (k : Int) - 1074 - t := by omega
  rw [e2, nearest_exact h0 hM hk hk2]
theorem mul_one {k M : Nat} (h0 : M ≠ 0) (hM : M < 9007199254740992) (hk : 4503599627370496 ≤ M ∨ k = 0) (hk2 : k ≤ 2045) : double.mul 4607182418800017408 (k * 4503599627370496 + M) = some (k * 4503599627370496 + M) := by
  obtain ⟨a, b⟩ := mk_of hM hk
  have h := mul_read (x := 4607182418800017408) (y := k * 4503599627370496 + M) (by decide) (by omega)
  rw [a, b] at h
  rw [h]
  have e1 : mO 4607182418800017408 = 2 ^ 52 := by decide
  have e2 : kO 4607182418800017408 = 1022 := by decide
  rw [e1, e2, Nat.mul_comm]
  have e3 : ((1022 : Nat) : Int) - 1074 + ((k : Int) - 1074) = (k : Int) - 1074 - (52 : Nat) := by omega
  rw [e3, nearest_exact h0 hM hk hk2]
end Go.Proofs.YtgjeihgkcmheeaaDoor
