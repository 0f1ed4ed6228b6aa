/- The walks of money.trailing and money.Part. -/
import Derived.Test.YtgjeihgkcmheeaaDoorPrt
namespace Go.Proofs.YtgjeihgkcmheeaaDoor
open Go.RowKit Go.Shelf

def trailR (X : Nat) : Nat := if X % 18446744073709551616 ≠ 0 then Lib.ctz 64 (X % 18446744073709551616) else 64 + (if X / 18446744073709551616 = 0 then 64 else Lib.ctz 64 (X / 18446744073709551616))
theorem trail_iff {X k : Nat} (hX : X < 340282366920938463463374607431768211456) (hk : k ≤ 128) : k ≤ trailR X ↔ X % 2 ^ k = 0 := by
  have e64 : (2 : Nat) ^ 64 = 18446744073709551616 := rfl
  have hd : 18446744073709551616 * (X / 18446744073709551616) + X % 18446744073709551616 = X := Nat.div_add_mod X _
  unfold trailR
  by_cases h : X % 18446744073709551616 ≠ 0
  · rw [if_pos h, ctz_dvd h (Nat.mod_lt _ (by decide))]
    by_cases h64 : k ≤ 64
    · rw [← e64, Nat.mod_mod_of_dvd _ (Nat.pow_dvd_pow 2 h64)]
    · constructor
      · intro h1
        exfalso
        have h2 : X % 18446744073709551616 < 2 ^ k := Nat.lt_of_lt_of_le (Nat.mod_lt _ (by decide)) (by rw [← e64]; exact Nat.pow_le_pow_right (by decide) (by omega))
        rw [Nat.mod_eq_of_lt h2] at h1
        exact h h1
      · intro h1
        exfalso
        have h2 : 2 ^ 64 ∣ X := Nat.dvd_trans (Nat.pow_dvd_pow 2 (by omega)) (Nat.dvd_of_mod_eq_zero h1)
        exact h (Nat.mod_eq_zero_of_dvd h2)
  · rw [if_neg h]
    have h0 : X % 18446744073709551616 = 0 := by omega
    have hXe : X = 2 ^ 64 * (X / 18446744073709551616) := by rw [e64]; omega
    by_cases hh : X / 18446744073709551616 = 0
    · rw [if_pos hh]
      rw [hh, Nat.mul_zero] at hXe
      rw [hXe, Nat.zero_mod]
      exact ⟨fun _ => rfl, fun _ => by omega⟩
    · rw [if_neg hh]
      by_cases h64 : k ≤ 64
      · constructor
        · intro _
          rw [hXe, show (64 : Nat) = k + (64 - k) from by omega, Nat.pow_add, Nat.mul_assoc]
          exact Nat.mul_mod_right _ _
        · intro _; omega
      · have h1 := ctz_dvd (x := X / 18446744073709551616) (k := k - 64) hh (by omega)
        have h2 : X % 2 ^ k = 0 ↔ X / 18446744073709551616 % 2 ^ (k - 64) = 0 := by
          have e : 2 ^ k = 2 ^ 64 * 2 ^ (k - 64) := by rw [← Nat.pow_add]; congr 1; omega
          rw [hXe, e, Nat.mul_mod_mul_left, Nat.mul_div_cancel_left _ (Nat.two_pow_pos 64)]
          constructor
          · intro h
            rcases Nat.mul_eq_zero.1 h with h | h
            · exact absurd h (by decide)
            · exact h
          · intro h; rw [h, Nat.mul_zero]
        rw [h2, ← h1]
        omega
theorem trailR_le {X : Nat} (hX : X < 340282366920938463463374607431768211456) : trailR X ≤ 128 := by
  unfold trailR
  by_cases h : X % 18446744073709551616 ≠ 0
  · rw [if_pos h]
    have := (Lib.lowest_bit 64 _ h (Nat.mod_lt _ (by decide))).2
    omega
  · rw [if_neg h]
    by_cases hh : X / 18446744073709551616 = 0
    · rw [if_pos hh]; omega
    · rw [if_neg hh]
      have := (Lib.lowest_bit 64 _ hh (by omega)).2
      omega
set_option maxRecDepth 100000 in
set_option maxHeartbeats 2000000 in
theorem trailing_any (X : Nat) (hX : X < 340282366920938463463374607431768211456) (w : World) (hT : TabW w) :
    Calls Tryd.prog 57 #[.int .u64 ((X / 18446744073709551616 : Nat) : Int), .int .u64 ((X % 18446744073709551616 : Nat) : Int)] w (SameP (.int .i64 (trailR X : Nat)) w) := by
  have hlo : X % 18446744073709551616 < 18446744073709551616 := Nat.mod_lt _ (by decide)
  have hhi : X / 18446744073709551616 < 18446744073709551616 := by omega
  unfold trailR
  obtain ⟨hi, hh⟩ : ∃ a, a = X / 18446744073709551616 := ⟨_, rfl⟩
  obtain ⟨lo, hl⟩ : ∃ a, a = X % 18446744073709551616 := ⟨_, rfl⟩
  rw [← hh] at hhi
  rw [← hl] at hlo
  rw [← hh, ← hl]
  clear hh hl hX
  by_cases h : lo ≠ 0
  · have HT := hide (tz_any lo hlo h w hT)
    rw [if_pos h]
    have h1 : ((lo : Int) == 0) = false := by rw [beq_eq_false_iff_ne]; omega
    have h2 : ((lo : Int) != 0) = true := by simp [h]
    clear hhi hlo
    go_enter Tryd.func57, Tryd.ntmps57
    go_wp2_with fail
    refine (HT.out).mono ?_
    rintro _ _ ⟨rfl, rfl⟩
    go_wp2_with fail
    go_ret
    exact ⟨rfl, rfl⟩
  · rw [if_neg h]
    have h0 : lo = 0 := by omega
    subst h0
    by_cases hz : hi = 0
    · subst hz
      have HT := hide (tz_zero w)
      clear h hhi hlo
      go_enter Tryd.func57, Tryd.ntmps57
      go_wp2_with fail
      refine (HT.out).mono ?_
      rintro _ _ ⟨rfl, rfl⟩
      go_wp2_with fail
      go_ret
      exact ⟨rfl, rfl⟩
    · rw [if_neg hz]
      have HT := hide (tz_any hi hhi hz w hT)
      have hk := (Lib.lowest_bit 64 hi hz hhi).2
      obtain ⟨k, hkk⟩ : ∃ k, k = Lib.ctz 64 hi := ⟨_, rfl⟩
      rw [← hkk] at HT hk ⊢
      have f1 : IntKind.i64.wrap (64 + (k : Int)) = 64 + (k : Int) := wrap_in (by omega)
      have HE : Hid ((((64 + k : Nat)) : Int) = 64 + (k : Int)) := hide (by omega)
      clear h hhi hlo hz hk hkk
      go_enter Tryd.func57, Tryd.ntmps57
      go_wp2_with fail
      refine (HT.out).mono ?_
      rintro _ _ ⟨rfl, rfl⟩
      go_wp2_with fail
      go_ret
      exact ⟨by rw [HE.out]; rfl, rfl⟩
/-- Rounded to the nearest, between two to the even one. -/
def rnd (X D : Nat) : Nat := X / 2 ^ D + (if X / 2 ^ (D - 1) % 2 = 1 ∧ (X % 2 ^ (D - 1) ≠ 0 ∨ X / 2 ^ D % 2 = 1) then 1 else 0)
theorem rnd_scale {X D : Nat} (hD : 1 ≤ D) (s : Nat) : rnd (X * 2 ^ s) (D + s) = rnd X D := by
  have ps : 0 < 2 ^ s := Nat.two_pow_pos s
  unfold rnd
  have e1 : X * 2 ^ s / 2 ^ (D + s) = X / 2 ^ D := by rw [Nat.pow_add]; exact Nat.mul_div_mul_right _ _ ps
  have e2 : X * 2 ^ s / 2 ^ (D + s - 1) = X / 2 ^ (D - 1) := by
    rw [show D + s - 1 = (D - 1) + s from by omega, Nat.pow_add]; exact Nat.mul_div_mul_right _ _ ps
  have e3 : X * 2 ^ s % 2 ^ (D + s - 1) ≠ 0 ↔ X % 2 ^ (D - 1) ≠ 0 := by
    rw [show D + s - 1 = (D - 1) + s from by omega, Nat.pow_add, Nat.mul_mod_mul_right]
    constructor
    · intro h h2; exact h (by rw [h2, Nat.zero_mul])
    · intro h h2
      rcases Nat.mul_eq_zero.1 h2 with h3 | h3
      · exact h h3
      · omega
  rw [e1, e2]
  simp only [e3]
/-- May a rate be? What it gives of coins. -/
def rateOK (b : Nat) : Bool := decide (b ≤ 4607182418800017408) || b == 9223372036854775808
def partV (c b : Nat) : Nat := if b = 9223372036854775808 then 0 else rnd (c * mO b) (1074 - kO b)
def partR (c : Int) (b : Nat) : Int × Int := if isC c && rateOK b then ((partV c.toNat b : Nat), 0) else (0, 2)
/-- A rate against nothing and one. -/
structure RateF (b : Nat) (g0 g1 : Bool) : Prop where
  ge : (FloatKind.f64.format.order b 0 == some .gt || FloatKind.f64.format.order b 0 == some .eq) = g0
  le : (FloatKind.f64.format.order b 4607182418800017408 == some .lt || FloatKind.f64.format.order b 4607182418800017408 == some .eq) = g1
  is : (g0 && g1) = rateOK b
end Go.Proofs.YtgjeihgkcmheeaaDoor
