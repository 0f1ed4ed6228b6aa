/- The walks of math/bits.TrailingZeros64, money.shifted, money.trailing. -/
import Derived.Test.YtgjeihgkcmheeaaDoorFlW
import Derived.Test.YtgjeihgkcmheeaaDoorDiv
import Derived.Lib.TrailingZeros
namespace Go.Proofs.YtgjeihgkcmheeaaDoor
open Go.RowKit Go.Shelf

/-- The library's table in its variable. -/
def TabW (w : World) : Prop := ∀ j, j < 64 → w.cell? ⟨3, j, none⟩ = some (.int .u8 (Lib.deBruijn64tab.getD j 0 : Nat))
theorem tz_key (x a : Nat) (hx : x < 18446744073709551616) (hx0 : x ≠ 0) (hlow : x &&& (18446744073709551616 - x) = a) :
    bits BinOp.and IntKind.u64 (x : Int) (-(x : Int) % 18446744073709551616) * 285870213051353865 % 18446744073709551616 / 288230376151711744 = ((a * 285870213051353865 % 18446744073709551616 / 288230376151711744 : Nat) : Int) := by
  have e1 : -(x : Int) % 18446744073709551616 = ((18446744073709551616 - x : Nat) : Int) := by omega
  rw [e1, bits_and_u64_nat x _ hx (by omega), hlow]
  omega
set_option maxRecDepth 100000 in
set_option maxHeartbeats 1000000 in
theorem tz_core (x k idx : Nat) (w : World) (hx0 : ((x : Int) == 0) = false)
    (key : bits BinOp.and IntKind.u64 (x : Int) (IntKind.u64.wrap (-(x : Int))) = (idx : Int)) (j : Nat) (key2 : IntKind.u64.wrap ((idx : Int) * 285870213051353865) / 288230376151711744 = (j : Int))
    (hi : j < 64) (hk : k < 64) (hcell : w.cell? ⟨3, j, none⟩ = some (.int .u8 k)) :
    Calls Tryd.prog 71 #[.int .u64 x] w (SameP (.int .i64 k) w) := by
  go_enter Tryd.func71, Tryd.ntmps71
  go_wp2_with fail
  go_ret
  exact ⟨rfl, rfl⟩
theorem db_idx (A : Nat) : IntKind.u64.wrap ((A : Int) * 285870213051353865) / 288230376151711744 = ((A * 285870213051353865 % 18446744073709551616 / 288230376151711744 : Nat) : Int) := by
  rw [IntKind.wrap_u64]; omega
theorem tz_any (x : Nat) (hx : x < 18446744073709551616) (hx0 : x ≠ 0) (w : World) (hT : TabW w) : Calls Tryd.prog 71 #[.int .u64 x] w (SameP (.int .i64 (Lib.ctz 64 x : Nat)) w) := by
  obtain ⟨hlow, hk⟩ := Lib.lowest_bit 64 x hx0 hx
  obtain ⟨hi, htab⟩ := Lib.deBruijn64_at _ hk
  have hc := hT _ hi
  rw [htab] at hc
  refine tz_core x _ (2 ^ Lib.ctz 64 x) w (by rw [beq_eq_false_iff_ne]; omega) ?_ _ ?_ hi hk hc
  · have e1 : IntKind.u64.wrap (-(x : Int)) = ((18446744073709551616 - x : Nat) : Int) := by rw [IntKind.wrap_u64]; omega
    rw [e1, bits_and_u64_nat x _ hx (by omega)]
    rw [← hlow]
  · exact db_idx _
theorem tz_zero (w : World) : Calls Tryd.prog 71 #[.int .u64 (0 : Int)] w (SameP (.int .i64 64) w) := by
  go_enter Tryd.func71, Tryd.ntmps71
  go_wp2_with fail
  go_ret
  exact ⟨rfl, rfl⟩
/-- How many noughts a number ends with. -/
theorem ctz_dvd {x k : Nat} (h0 : x ≠ 0) (hx : x < 18446744073709551616) : k ≤ Lib.ctz 64 x ↔ x % 2 ^ k = 0 := by
  obtain ⟨m, hm, hk⟩ := Lib.ctzFrom_spec 64 x (by omega) hx
  have e : Lib.ctz 64 x = Lib.ctzFrom 64 x := by simp [Lib.ctz, h0]
  rw [e]
  generalize Lib.ctzFrom 64 x = c at *
  constructor
  · intro h
    rw [hm, show c = k + (c - k) from by omega, Nat.pow_add, Nat.mul_assoc]
    exact Nat.mul_mod_right _ _
  · intro h
    rcases Nat.lt_or_ge c k with h1 | h1
    · exfalso
      have h2 : 2 ^ (c + 1) ∣ x := Nat.dvd_trans (Nat.pow_dvd_pow 2 h1) (Nat.dvd_of_mod_eq_zero h)
      rw [hm, Nat.pow_succ, Nat.mul_dvd_mul_iff_left (Nat.two_pow_pos c)] at h2
      omega
    · exact h1
/-- A number of 128 bits moved down. -/
theorem shl_or {hi lo s : Nat} (hs : s ≤ 64) (hhi : hi * 2 ^ (64 - s) < 18446744073709551616) (hlo : lo < 18446744073709551616) : bits .or .u64 ((hi * 2 ^ (64 - s) : Nat) : Int) ((lo / 2 ^ s : Nat) : Int) = (((hi * 18446744073709551616 + lo) / 2 ^ s : Nat) : Int) := by
  have p : 2 ^ (64 - s) * 2 ^ s = 18446744073709551616 := by rw [← Nat.pow_add, show 64 - s + s = 64 from by omega]
  have ps : 0 < 2 ^ s := Nat.two_pow_pos s
  have h1 : lo / 2 ^ s < 2 ^ (64 - s) := by rw [Nat.div_lt_iff_lt_mul ps, p]; exact hlo
  have h2 : (hi * 18446744073709551616 + lo) / 2 ^ s = hi * 2 ^ (64 - s) + lo / 2 ^ s := by
    rw [← p, ← Nat.mul_assoc, Nat.add_comm, Nat.add_mul_div_right _ _ ps, Nat.add_comm]
  have h3 : hi * 2 ^ (64 - s) + lo / 2 ^ s < 18446744073709551616 := by
    have h4 : (hi + 1) * 2 ^ (64 - s) ≤ 18446744073709551616 := by
      have h5 : hi < 2 ^ s := by
        have h6 : hi * 2 ^ (64 - s) < 2 ^ s * 2 ^ (64 - s) := by rw [Nat.mul_comm (2 ^ s), p]; exact hhi
        exact Nat.lt_of_mul_lt_mul_right h6
      have h7 := Nat.mul_le_mul_right (2 ^ (64 - s)) (show hi + 1 ≤ 2 ^ s from h5)
      rw [Nat.mul_comm (2 ^ s), p] at h7
      exact h7
    rw [Nat.add_mul] at h4
    omega
  rw [h2]
  exact orN hi _ (64 - s) h1 h3
set_option maxRecDepth 100000 in
set_option maxHeartbeats 2000000 in
theorem shifted_any (X s : Nat) (hs : s ≤ 120) (hhi : X / 18446744073709551616 * 2 ^ (64 - s) < 18446744073709551616) (hX : X < 340282366920938463463374607431768211456) (w : World) :
    Calls Tryd.prog 56 #[.int .u64 ((X / 18446744073709551616 : Nat) : Int), .int .u64 ((X % 18446744073709551616 : Nat) : Int), .int .i64 (s : Int)] w (BelP (.int .u64 ((X / 2 ^ s : Nat) : Int)) w) := by
  obtain ⟨hi, hh⟩ : ∃ a, a = X / 18446744073709551616 := ⟨_, rfl⟩
  obtain ⟨lo, hl⟩ : ∃ a, a = X % 18446744073709551616 := ⟨_, rfl⟩
  rw [← hh] at hhi
  rw [← hh, ← hl]
  have hXe : X = hi * 18446744073709551616 + lo := by rw [hh, hl]; omega
  have hlo : lo < 18446744073709551616 := by rw [hl]; exact Nat.mod_lt _ (by decide)
  obtain ⟨r, hr⟩ : ∃ a, a = X / 2 ^ s := ⟨_, rfl⟩
  rw [← hr]
  by_cases h : 64 ≤ s
  · obtain ⟨t, ht⟩ : ∃ t, t = s - 64 := ⟨_, rfl⟩
    have f1 : IntKind.i64.wrap ((s : Int) - 64) = (t : Int) := by
      have : (s : Int) - 64 = (t : Int) := by omega
      rw [this]; exact wrap_in (by omega)
    have f2 : min t 64 = t := by omega
    have f3 : (hi : Int) / 2 ^ t = (r : Int) := by
      rw [shrN, hr, hXe, show s = 64 + t from by omega, Nat.pow_add, ← Nat.div_div_eq_div_mul]
      have : (hi * 18446744073709551616 + lo) / 2 ^ 64 = hi := by
        have : (2 : Nat) ^ 64 = 18446744073709551616 := rfl
        rw [this]; omega
      rw [this]
    have f4 : (64 : Int) ≤ (s : Int) := by omega
    have f5 : (0 : Int) ≤ (t : Int) := by omega
    clear hs hhi hX hh hl hXe hlo hr h ht
    go_enter Tryd.func56, Tryd.ntmps56
    go_wp2_with fail
    go_ret
    exact ⟨rfl, Below.refl _ _⟩
  · obtain ⟨t, ht⟩ : ∃ t, t = 64 - s := ⟨_, rfl⟩
    have f1 : IntKind.i64.wrap (64 - (s : Int)) = (t : Int) := by
      have : 64 - (s : Int) = (t : Int) := by omega
      rw [this]; exact wrap_in (by omega)
    have f2 : min t 64 = t := by omega
    have f2b : min s 64 = s := by omega
    have f3 : IntKind.u64.wrap ((hi : Int) * 2 ^ t) = ((hi * 2 ^ t : Nat) : Int) := shlN rfl (by rw [ht]; exact hhi)
    obtain ⟨A, hA⟩ : ∃ a, a = hi * 2 ^ t := ⟨_, rfl⟩
    rw [← hA] at f3
    have f4 : (lo : Int) / 2 ^ s = ((lo / 2 ^ s : Nat) : Int) := shrN lo s
    obtain ⟨B, hB⟩ : ∃ a, a = lo / 2 ^ s := ⟨_, rfl⟩
    rw [← hB] at f4
    have f5 : bits .or .u64 (A : Int) (B : Int) = (r : Int) := by
      rw [hA, hB, ht, hr, hXe]
      exact shl_or (by omega) hhi hlo
    have f6 : ¬ (64 : Int) ≤ (s : Int) := by omega
    have f7 : (0 : Int) ≤ (s : Int) := by omega
    have f8 : (0 : Int) ≤ (t : Int) := by omega
    clear hs hhi hX hh hl hXe hlo hr h ht hA hB
    go_enter Tryd.func56, Tryd.ntmps56
    go_wp2_with fail
    go_quiet (fail)
    go_wp2_with fail
    go_ret
    exact ⟨rfl, bel_drewN (Below.refl _ _) _⟩
end Go.Proofs.YtgjeihgkcmheeaaDoor
