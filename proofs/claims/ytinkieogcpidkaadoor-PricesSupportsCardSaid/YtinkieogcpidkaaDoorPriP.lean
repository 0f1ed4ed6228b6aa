/- What sets cost, good by good or bit by bit: plain. -/
import Derived.Test.YtinkieogcpidkaaDoorPriB
namespace Go.Proofs.YtinkieogcpidkaaDoor
open Go.RowKit Go.Maps Go.Shelf

def addW (cnt : Nat → Int) (x : Nat) (i : Nat) (s : Int) : Int := if x.testBit i = true then IntKind.i64.wrap (s + cnt i) else s
/-- The last n goods. -/
def tailN (cnt : Nat → Int) (x : Nat) : Nat → Int → Int
  | 0, s => s
  | n + 1, s => tailN cnt x n (addW cnt x (31 - n) s)
/-- The first i goods. -/
def costN (cnt : Nat → Int) (x : Nat) : Nat → Int
  | 0 => 0
  | i + 1 => addW cnt x i (costN cnt x i)
theorem tail_same {cnt : Nat → Int} {x y : Nat} : ∀ (n : Nat), n ≤ 32 → (∀ i, 32 - n ≤ i → i < 32 → x.testBit i = y.testBit i) → ∀ s, tailN cnt x n s = tailN cnt y n s
  | 0, _, _, s => rfl
  | n + 1, hn, h, s => by
    have e : addW cnt x (31 - n) s = addW cnt y (31 - n) s := by
      unfold addW
      rw [h (31 - n) (by omega) (by omega)]
    simp only [tailN]
    rw [e]
    exact tail_same n (by omega) (fun i h1 h2 => h i (by omega) h2) _
theorem each_tail {cnt : Nat → Int} : ∀ (n f x : Nat), n ≤ 32 → n + 1 ≤ f → x < 4294967296 → 2 ^ (32 - n) ∣ x → ∀ s, (eachF f x).foldl (fun s y => IntKind.i64.wrap (s + cnt y.val)) s = tailN cnt x n s
  | 0, f, x, _, hf, hx, hd, s => by
    obtain ⟨m, rfl⟩ := hd
    have h0 : m = 0 := by
      rcases Nat.eq_zero_or_pos m with h | h
      · exact h
      · have : (2 : Nat) ^ (32 - 0) = 4294967296 := rfl
        rw [this] at hx
        omega
    rw [h0, Nat.mul_zero, eachF_zero]
    rfl
  | n + 1, f, x, hn, hf, hx, hd, s => by
    obtain ⟨f, rfl⟩ : ∃ g, f = g + 1 := ⟨f - 1, by omega⟩
    by_cases hb : x.testBit (31 - n) = true
    · have hx0 : x ≠ 0 := by
        rintro rfl
        simp at hb
      have hq : Lib.ctz 32 x = 31 - n := by
        have h1 := ctz_div hx0 hx hd
        obtain ⟨m, e1, _, h3⟩ := ctz_form hx0 hx
        rcases Nat.lt_or_ge (31 - n) (Lib.ctz 32 x) with h2 | h2
        · have : x.testBit (31 - n) = false := by
            have hdv : 2 ^ (31 - n + 1) ∣ x := by
              rw [e1]
              refine Nat.dvd_add ?_ ?_
              · exact Nat.dvd_trans (Nat.pow_dvd_pow 2 (by omega)) (Nat.dvd_mul_right _ _)
              · exact Nat.pow_dvd_pow 2 (by omega)
            obtain ⟨r, rfl⟩ := hdv
            rw [Nat.testBit_two_pow_mul]
            simp
            intro h
            omega
          rw [this] at hb
          cases hb
        · omega
      obtain ⟨hc1, _⟩ := clear_bit hx0 hx 0
      rw [eachF, if_neg hx0, List.foldl_cons]
      have hfin : (Fin.ofNat 32 (Lib.ctz 32 x)).val = 31 - n := by rw [hq]; simp [Fin.ofNat]; omega
      rw [hfin]
      have hd2 := clear_div hx0 hx hd
      rw [show 32 - (n + 1) + 1 = 32 - n by omega] at hd2
      rw [each_tail n f _ (by omega) (by omega) (Nat.lt_trans (clear_lt hx0) hx) hd2]
      simp only [tailN]
      have e : addW cnt x (31 - n) s = IntKind.i64.wrap (s + cnt (31 - n)) := by unfold addW; rw [if_pos hb]
      rw [e]
      refine tail_same n (by omega) (fun i h1 h2 => ?_) _
      rw [(clear_bit hx0 hx i).1, hq]
      simp
      omega
    · have hd2 : 2 ^ (32 - n) ∣ x := by
        obtain ⟨m, rfl⟩ := hd
        have hm : m.testBit 0 = false := by
          rw [show 32 - (n + 1) = 31 - n by omega, Nat.testBit_two_pow_mul] at hb
          simpa using hb
        have hm2 : m % 2 = 0 := by
          rw [Nat.testBit_zero] at hm
          simp at hm
          omega
        obtain ⟨r, hr⟩ := Nat.dvd_of_mod_eq_zero hm2
        rw [hr, ← Nat.mul_assoc, show 32 - n = 32 - (n + 1) + 1 by omega, Nat.pow_succ]
        exact Nat.dvd_mul_right _ _
      have e : addW cnt x (31 - n) s = s := by unfold addW; rw [if_neg hb]
      simp only [tailN]
      rw [e]
      exact each_tail n (f + 1) x (by omega) (by omega) hx hd2 s
theorem cost_tail {cnt : Nat → Int} {x : Nat} : ∀ n, n ≤ 32 → tailN cnt x n (costN cnt x (32 - n)) = costN cnt x 32
  | 0, _ => rfl
  | n + 1, h => by
    simp only [tailN]
    rw [← cost_tail n (by omega), show 32 - n = 32 - (n + 1) + 1 by omega]
    simp only [costN]
    rw [show 31 - n = 32 - (n + 1) by omega]
theorem cost_eq {cnt : Nat → Int} {x : Nat} (hx : x < 4294967296) : costC cnt x = costN cnt x 32 := by
  unfold costC addC
  rw [each_tail 32 33 x (by omega) (by omega) hx (by simp), ← cost_tail 32 (by omega)]
  rfl
theorem costN_in (cnt : Nat → Int) (x : Nat) : ∀ i, -9223372036854775808 ≤ costN cnt x i ∧ costN cnt x i ≤ 9223372036854775807
  | 0 => by simp [costN]
  | i + 1 => by
    simp only [costN, addW]
    split
    · have h := IntKind.wrap_i64 (costN cnt x i + cnt i)
      rw [h]
      omega
    · exact costN_in cnt x i
theorem cost_short {p : List Int} {x : Nat} : ∀ (d : Nat), costN (cntP p) x (p.length + d) = costN (cntP p) x p.length
  | 0 => rfl
  | d + 1 => by
    rw [← cost_short d]
    show addW (cntP p) x (p.length + d) (costN (cntP p) x (p.length + d)) = _
    unfold addW
    split
    · have h0 : cntP p (p.length + d) = 0 := by unfold cntP; simp
      rw [h0, Int.add_zero]
      have := costN_in (cntP p) x (p.length + d)
      exact Go.IntWalk.i64_in _ this
    · rfl
theorem cost_min {p : List Int} {x : Nat} (hx : x < 4294967296) {i : Nat} (hi : i ≤ 32) (h : i = 32 ∨ p.length ≤ i) : costC (cntP p) x = costN (cntP p) x i := by
  rw [cost_eq hx]
  rcases h with rfl | h
  · rfl
  · have e1 := cost_short (p := p) (x := x) (32 - p.length)
    have e2 := cost_short (p := p) (x := x) (i - p.length)
    rw [show p.length + (32 - p.length) = 32 by omega] at e1
    rw [show p.length + (i - p.length) = i by omega] at e2
    rw [e1, e2]
end Go.Proofs.YtinkieogcpidkaaDoor
