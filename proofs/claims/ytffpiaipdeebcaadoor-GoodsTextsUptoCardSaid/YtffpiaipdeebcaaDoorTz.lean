/- The walks of math/bits.TrailingZeros32 and goods.Each: a set's goods, rising. -/
import Derived.Test.YtffpiaipdeebcaaDoorGood
import Derived.Lib.TrailingZeros
import Derived.RangeFuncNested
import Derived.RangeFuncBound
import Derived.RangeFuncCalls
import Derived.RangeFuncLeaves
import Derived.RangeFuncFrom
import Derived.Shelf.Abstract
import Derived.Shelf.RegionOpen
import Derived.WalkKit
import Derived.OwnWalkIn
import Derived.TacticsInMore
import Derived.LoopNIn
import Derived.LoopIn
namespace Go.Proofs.YtffpiaipdeebcaaDoor
open Go.RowKit Go.Shelf

attribute [local go_sem] Oper.semAt_some

/-- The library's table in its variable. -/
def TabW (w : World) : Prop := ∀ j, j < 32 → w.cell? ⟨0, j, none⟩ = some (.int .u8 (Lib.deBruijn32tab.getD j 0 : Nat))
def StayPost (v : Value) (w : World) (e : Ending) (w' : World) : Prop := e = .returned v ∧ w = w'

theorem tz_key (x a : Nat) (hx : x < 4294967296) (hx0 : x ≠ 0) (hlow : x &&& (4294967296 - x) = a) :
    bits BinOp.and IntKind.u32 (x : Int) (-(x : Int) % 4294967296) * 125613361 % 4294967296 / 134217728 = ((a * 125613361 % 4294967296 / 134217728 : Nat) : Int) := by
  have e1 : -(x : Int) % 4294967296 = ((4294967296 - x : Nat) : Int) := by omega
  rw [e1, u32_and_nat x _ hx (by omega), hlow]
  omega
set_option maxRecDepth 100000 in
set_option maxHeartbeats 1000000 in
theorem tz_core (x k idx : Nat) (w : World) (hx0 : ((x : Int) == 0) = false)
    (key : bits BinOp.and IntKind.u32 (x : Int) (-(x : Int) % 4294967296) * 125613361 % 4294967296 / 134217728 = (idx : Int))
    (hi : idx < 32) (hk : k < 32) (hcell : w.cell? ⟨0, idx, none⟩ = some (.int .u8 k)) :
    Calls Tryd.prog 50 #[.int .u32 x] w (StayPost (.int .i64 k) w) := by
  go_enter Tryd.func50, Tryd.ntmps50
  go_wp2_with (simp only [key])
  go_ret
  exact ⟨rfl, rfl⟩
theorem tz_any (x : Nat) (hx : x < 4294967296) (hx0 : x ≠ 0) (w : World) (hT : TabW w) : Calls Tryd.prog 50 #[.int .u32 x] w (StayPost (.int .i64 (Lib.ctz 32 x : Nat)) w) := by
  obtain ⟨hlow, hk⟩ := Lib.lowest_bit 32 x hx0 hx
  obtain ⟨hi, htab⟩ := Lib.deBruijn32_at _ hk
  have hc := hT _ hi
  rw [htab] at hc
  exact tz_core x _ _ w (by rw [beq_eq_false_iff_ne]; omega) (tz_key x _ hx hx0 hlow) hi hk hc

/-- A set's goods from the least on. -/
def eachF : Nat → Nat → List (Fin 32)
  | 0, _ => []
  | f + 1, x => if x = 0 then [] else Fin.ofNat 32 (Lib.ctz 32 x) :: eachF f (x &&& (x - 1))
theorem ctz_form {x : Nat} (hx0 : x ≠ 0) (hx : x < 4294967296) : ∃ m, x = 2 ^ (Lib.ctz 32 x + 1) * m + 2 ^ Lib.ctz 32 x ∧ x &&& (x - 1) = 2 ^ (Lib.ctz 32 x + 1) * m ∧ Lib.ctz 32 x < 32 := by
  obtain ⟨m, hm, hk⟩ := Lib.ctzFrom_spec 32 x (by omega) (by simpa using hx)
  have e : Lib.ctz 32 x = Lib.ctzFrom 32 x := by simp [Lib.ctz, hx0]
  rw [e]
  generalize Lib.ctzFrom 32 x = k at *
  have h1 : x = 2 ^ (k + 1) * m + 2 ^ k := by rw [hm, Nat.pow_succ, Nat.mul_add, Nat.mul_one, ← Nat.mul_assoc]
  have hp : 0 < 2 ^ k := Nat.two_pow_pos k
  have h2 : x - 1 = 2 ^ (k + 1) * m + (2 ^ k - 1) := by omega
  have hlt : 2 ^ k < 2 ^ (k + 1) := by rw [Nat.pow_succ]; omega
  refine ⟨m, h1, ?_, hk⟩
  rw [h2]
  conv => lhs; arg 1; rw [h1]
  apply Nat.eq_of_testBit_eq
  intro j
  rw [Nat.testBit_and, Nat.testBit_two_pow_mul_add m hlt, Nat.testBit_two_pow_mul_add m (by omega)]
  have h3 := Nat.testBit_two_pow_mul_add m (show 0 < 2 ^ (k + 1) by omega) j
  rw [Nat.add_zero] at h3
  rw [h3]
  split
  · rw [Nat.testBit_two_pow, Nat.testBit_two_pow_sub_one]
    simp
    omega
  · simp
theorem ctz_div {x p : Nat} (hx0 : x ≠ 0) (hx : x < 4294967296) (hd : 2 ^ p ∣ x) : p ≤ Lib.ctz 32 x := by
  obtain ⟨m, h1, _, _⟩ := ctz_form hx0 hx
  apply Nat.le_of_not_lt
  intro h
  have hk : 2 ^ (Lib.ctz 32 x + 1) ∣ x := Nat.dvd_trans (Nat.pow_dvd_pow 2 h) hd
  have h2 : 2 ^ (Lib.ctz 32 x + 1) ∣ 2 ^ Lib.ctz 32 x := (Nat.dvd_add_right (Nat.dvd_mul_right (2 ^ (Lib.ctz 32 x + 1)) m)).1 (show _ ∣ 2 ^ (Lib.ctz 32 x + 1) * m + 2 ^ Lib.ctz 32 x by rw [← h1]; exact hk)
  have := Nat.le_of_dvd (Nat.two_pow_pos _) h2
  rw [Nat.pow_succ] at this
  have := Nat.two_pow_pos (Lib.ctz 32 x)
  omega
theorem clear_bit {x : Nat} (hx0 : x ≠ 0) (hx : x < 4294967296) (i : Nat) : (x &&& (x - 1)).testBit i = (x.testBit i && decide (i ≠ Lib.ctz 32 x)) ∧ x.testBit (Lib.ctz 32 x) = true := by
  obtain ⟨m, h1, h2, _⟩ := ctz_form hx0 hx
  generalize Lib.ctz 32 x = k at *
  have hlt : 2 ^ k < 2 ^ (k + 1) := by rw [Nat.pow_succ]; have := Nat.two_pow_pos k; omega
  have h3 := fun j => Nat.testBit_two_pow_mul_add m (show 0 < 2 ^ (k + 1) by omega) j
  simp only [Nat.add_zero] at h3
  have h4 := fun j => Nat.testBit_two_pow_mul_add m hlt j
  refine ⟨?_, ?_⟩
  · rw [h2, h3, h1, h4]
    split
    · rw [Nat.testBit_two_pow]
      simp
      omega
    · have : i ≠ k := by omega
      simp [this]
  · rw [h1, h4, if_pos (by omega), Nat.testBit_two_pow]
    simp
theorem clear_lt {x : Nat} (hx0 : x ≠ 0) : x &&& (x - 1) < x := by
  have := Nat.and_le_right (n := x) (m := x - 1)
  omega
theorem clear_div {x p : Nat} (hx0 : x ≠ 0) (hx : x < 4294967296) (hd : 2 ^ p ∣ x) : 2 ^ (p + 1) ∣ x &&& (x - 1) := by
  have h := ctz_div hx0 hx hd
  obtain ⟨m, _, h2, _⟩ := ctz_form hx0 hx
  rw [h2]
  exact Nat.dvd_trans (Nat.pow_dvd_pow 2 (by omega)) (Nat.dvd_mul_right _ _)
theorem div_lt {x p : Nat} (hx0 : x ≠ 0) (hx : x < 4294967296) (hd : 2 ^ p ∣ x) : p < 32 := by
  have h := ctz_div hx0 hx hd
  obtain ⟨_, _, _, h3⟩ := ctz_form hx0 hx
  omega
theorem each_count : ∀ (f p x : Nat), x < 4294967296 → 2 ^ p ∣ x → f + p = 33 → ∀ i : Fin 32, (eachF f x).count i = if x.testBit i then 1 else 0
  | 0, p, x, hx, hd, hf, i => by
    have : x = 0 := by
      apply Nat.eq_zero_of_not_pos
      intro h0
      have := div_lt (by omega) hx hd
      omega
    subst this
    simp [eachF]
  | f + 1, p, x, hx, hd, hf, i => by
    unfold eachF
    split
    · rename_i h0
      subst h0
      simp
    · rename_i h0
      obtain ⟨_, _, _, hk⟩ := ctz_form h0 hx
      have ih := each_count f (p + 1) (x &&& (x - 1)) (Nat.lt_trans (clear_lt h0) hx) (clear_div h0 hx hd) (by omega) i
      obtain ⟨h1, h2⟩ := clear_bit h0 hx i
      rw [List.count_cons, ih, h1]
      by_cases e : i.val = Lib.ctz 32 x
      · have e' : Fin.ofNat 32 (Lib.ctz 32 x) = i := by apply Fin.ext; simp [Fin.ofNat, e.symm, Nat.mod_eq_of_lt i.2]
        have h2' : x.testBit i.val = true := by rw [e]; exact h2
        rw [e', h2', if_pos rfl]
        simp [e]
      · have e' : Fin.ofNat 32 (Lib.ctz 32 x) ≠ i := fun h => e (by rw [← h]; simp [Fin.ofNat, Nat.mod_eq_of_lt hk])
        simp [e, e']
end Go.Proofs.YtffpiaipdeebcaaDoor
