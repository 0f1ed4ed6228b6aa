/- The walk of the document's divided: a product divided, bit by bit. -/
import Derived.Test.YtgjeihgkcmheeaaDoorSha
namespace Go.Proofs.YtgjeihgkcmheeaaDoor
open Go.RowKit Go.Shelf

theorem ofInt_i64 (a : Nat) (ha : a < 9223372036854775808) : (BitVec.ofInt 64 (a : Int)).toNat = a := by
  rw [BitVec.ofInt_natCast, BitVec.toNat_ofNat]; exact Nat.mod_eq_of_lt (by omega)
theorem and_i64 (a b : Nat) (ha : a < 9223372036854775808) (hb : b < 9223372036854775808) : bits .and .i64 (a : Int) (b : Int) = ((a &&& b : Nat) : Int) := by
  have hx : a &&& b < 2 ^ 63 := Nat.and_lt_two_pow _ (by omega)
  show IntKind.i64.wrap ((BitVec.ofInt 64 (a : Int) &&& BitVec.ofInt 64 (b : Int)).toNat : Int) = _
  rw [BitVec.toNat_and, ofInt_i64 a ha, ofInt_i64 b hb, IntKind.wrap_i64]
  omega
theorem and_pow (w j : Nat) : w &&& 2 ^ j = (w / 2 ^ j % 2) * 2 ^ j := by
  have ht : w.testBit j = decide (w / 2 ^ j % 2 = 1) := Nat.testBit_eq_decide_div_mod_eq
  apply Nat.eq_of_testBit_eq
  intro i
  rw [Nat.testBit_and, Nat.testBit_two_pow]
  rcases Nat.mod_two_eq_zero_or_one (w / 2 ^ j) with h | h
  · rw [h, Nat.zero_mul, Nat.zero_testBit]
    by_cases hi : j = i
    · subst hi; rw [ht, h]; rfl
    · simp [hi]
  · rw [h, Nat.one_mul, Nat.testBit_two_pow]
    by_cases hi : j = i
    · subst hi; rw [ht, h]; simp
    · simp [hi]
/-- The bits that are left, the highest of them. -/
def BitR (t b : Nat) : Prop := (t = 0 ∧ b = 0) ∨ ∃ j, t = j + 1 ∧ b = 2 ^ j
theorem half_bits (w j : Nat) : w / 2 ^ j = 2 * (w / 2 ^ (j + 1)) + w / 2 ^ j % 2 := by
  have e : w / 2 ^ (j + 1) = w / 2 ^ j / 2 := by rw [Nat.pow_succ, Nat.div_div_eq_div_mul]
  rw [e]; omega
set_option maxRecDepth 100000 in
set_option maxHeartbeats 4000000 in
theorem divided_any (c x s : Nat) (hc : c ≤ 1099511627776) (hs : 0 < s) (hs2 : s ≤ 1152921504606846976) (hx : x ≤ 1099511627776) (hxs : x ≤ s) (w : World) :
    Calls Tryd.prog 44 #[.int .i64 (c : Int), .int .i64 (x : Int), .int .i64 (s : Int)] w (SameP (.tuple #[.int .i64 ((c * x / s : Nat) : Int), .int .i64 ((c * x % s : Nat) : Int)]) w) := by
  have HB := hide (show c ≤ 1099511627776 ∧ 0 < s ∧ s ≤ 1152921504606846976 ∧ x ≤ 1099511627776 ∧ x ≤ s from ⟨hc, hs, hs2, hx, hxs⟩)
  have hsz : ¬ s = 0 := by omega
  obtain ⟨Q, hQ⟩ : ∃ Q, Q = c * x / s := ⟨_, rfl⟩
  obtain ⟨R, hR⟩ : ∃ R, R = c * x % s := ⟨_, rfl⟩
  rw [← hQ, ← hR]
  have HQ := hide (And.intro hQ hR)
  clear hc hs hs2 hx hxs hQ hR
  go_enter Tryd.func44, Tryd.ntmps44
  go_wp2_with fail
  go_loop [10, 8, 9] (fun bv qv rv => ∃ t b q r : Nat, bv = .int .i64 (b : Int) ∧ qv = .int .i64 (q : Int) ∧ rv = .int .i64 (r : Int) ∧ BitR t b ∧ t ≤ 41 ∧ q * s + r = c * (x / 2 ^ t) ∧ r < s) (fun bv _ _ => (intOf bv).toNat)
  case atStart =>
    refine ⟨41, 1099511627776, 0, 0, rfl, rfl, rfl, .inr ⟨40, rfl, by decide⟩, by decide, ?_, HB.out.2.1⟩
    have : x / 2 ^ 41 = 0 := Nat.div_eq_of_lt (by have := HB.out; have : (2 : Nat) ^ 41 = 2199023255552 := rfl; omega)
    rw [this]; simp
  case round =>
    obtain ⟨t, b, q, r, rfl, rfl, rfl, hb, ht, he, hr⟩ := hrel
    rcases hb with ⟨rfl, rfl⟩ | ⟨j, rfl, rfl⟩
    · have HE : Hid (q = Q ∧ r = R) := hide (by
        rw [Nat.pow_zero, Nat.div_one] at he
        have h1 : q = c * x / s := by
          rw [← he, Nat.add_comm, Nat.add_mul_div_right _ _ HB.out.2.1, Nat.div_eq_of_lt hr, Nat.zero_add]
        have h2 : r = c * x % s := by
          rw [← he, Nat.add_comm, Nat.add_mul_mod_self_right, Nat.mod_eq_of_lt hr]
        exact ⟨h1.trans HQ.out.1.symm, h2.trans HQ.out.2.symm⟩)
      clear he hr ht
      go_wp2_with fail
      go_ret2
      exact ⟨by rw [← HE.out.1, ← HE.out.2]; rfl, rfl⟩
    · obtain ⟨hc, hs, hs2, hx, hxs⟩ := HB.out
      have hj : j ≤ 40 := by omega
      have hpb : 2 ^ j ≤ 1099511627776 := by
        have : 2 ^ j ≤ 2 ^ 40 := Nat.pow_le_pow_right (by decide) hj
        exact this
      have hp0 : 0 < 2 ^ j := Nat.two_pow_pos j
      have hqb : q ≤ 1099511627776 := by
        have h1 : x / 2 ^ (j + 1) ≤ s := Nat.le_trans (Nat.div_le_self _ _) hxs
        have h2 : q * s ≤ c * s := by
          have := Nat.mul_le_mul_left c h1
          omega
        have := Nat.le_of_mul_le_mul_right h2 hs
        omega
      have hh := half_bits x j
      have hap := and_pow x j
      obtain ⟨bt, hbt⟩ : ∃ a, a = x / 2 ^ j % 2 := ⟨_, rfl⟩
      have hbt2 : bt < 2 := by omega
      rw [← hbt] at hh hap
      obtain ⟨p, hp⟩ : ∃ a, a = 2 ^ j := ⟨_, rfl⟩
      have f6 : ∃ p2 : Nat, (p : Int).tdiv 2 = (p2 : Int) ∧ BitR j p2 ∧ p2 < p := by
        refine ⟨p / 2, tdivN p 2, ?_, by omega⟩
        cases j with
        | zero => exact .inl ⟨rfl, by simp [hp]⟩
        | succ i => exact .inr ⟨i, rfl, by rw [hp, Nat.pow_succ]; omega⟩
      obtain ⟨p2, f6, hbr, hpp⟩ := f6
      have f7 : (p : Int) / 2 = (p2 : Int) := by
        rw [← f6, Int.tdiv_eq_ediv_of_nonneg (by omega)]
      have f8 : IntKind.i64.wrap (p2 : Int) = (p2 : Int) := wrap_in (by omega)
      have f1 : IntKind.i64.wrap (2 * (q : Int)) = ((2 * q : Nat) : Int) := by
        have : 2 * (q : Int) = ((2 * q : Nat) : Int) := by omega
        rw [this]; exact wrap_in (by omega)
      have f2 : IntKind.i64.wrap (2 * (r : Int)) = ((2 * r : Nat) : Int) := by
        have : 2 * (r : Int) = ((2 * r : Nat) : Int) := by omega
        rw [this]; exact wrap_in (by omega)
      have f3 : bits .and .i64 (x : Int) (p : Int) = ((bt * p : Nat) : Int) := by
        have h := and_i64 x p (by omega) (by omega)
        rw [hp] at h ⊢
        rw [h, hap]
      obtain ⟨q2, hq2⟩ : ∃ a, a = 2 * q := ⟨_, rfl⟩
      obtain ⟨r2, hr2⟩ : ∃ a, a = 2 * r := ⟨_, rfl⟩
      obtain ⟨ab, hab⟩ : ∃ a, a = bt * p := ⟨_, rfl⟩
      rw [← hq2] at f1
      rw [← hr2] at f2
      rw [← hab] at f3
      have hp1 : 0 < p := by omega
      rw [← hp] at hpb
      have tail : ∀ r3 : Nat, r3 = r2 + bt * c → ∃ d q4 r4 : Nat, (r3 : Int) / s = (d : Int) ∧ IntKind.i64.wrap (d : Int) = (d : Int) ∧ IntKind.i64.wrap ((q2 : Int) + d) = (q4 : Int) ∧ (r3 : Int) % s = (r4 : Int) ∧ q4 * s + r4 = c * (x / 2 ^ j) ∧ r4 < s := by
        intro r3 h3
        have hd := Nat.div_add_mod r3 s
        have hb3 : bt * c ≤ 1099511627776 := by
          have : bt = 0 ∨ bt = 1 := by omega
          rcases this with h | h <;> rw [h] <;> omega
        have h5 : r3 / s ≤ r3 := Nat.div_le_self _ _
        have h6 := Nat.mod_lt r3 hs
        have h7 : (r3 : Int) / s = ((r3 / s : Nat) : Int) := rfl
        have h8 : (r3 : Int) % s = ((r3 % s : Nat) : Int) := rfl
        obtain ⟨d, hd1⟩ : ∃ a, a = r3 / s := ⟨_, rfl⟩
        obtain ⟨m, hm1⟩ : ∃ a, a = r3 % s := ⟨_, rfl⟩
        rw [← hd1] at h5 h7
        rw [← hm1] at h6 h8
        rw [← hd1, ← hm1] at hd
        refine ⟨d, q2 + d, m, h7, wrap_in (by omega), ?_, h8, ?_, h6⟩
        · have : (q2 : Int) + (d : Int) = ((q2 + d : Nat) : Int) := by omega
          rw [this]; exact wrap_in (by omega)
        · have e1 : (q2 + d) * s = q2 * s + s * d := by rw [Nat.add_mul, Nat.mul_comm d]
          have e2 : q2 * s = 2 * (q * s) := by rw [hq2, Nat.mul_assoc]
          have e3 : c * (x / 2 ^ j) = 2 * (c * (x / 2 ^ (j + 1))) + bt * c := by
            rw [hh, Nat.mul_add, ← Nat.mul_assoc c 2, Nat.mul_comm c 2, Nat.mul_assoc, Nat.mul_comm bt c]
          rw [e1, e2, e3]
          omega
      by_cases h1 : bt = 1
      · obtain ⟨r3, hr3⟩ : ∃ a, a = r2 + c := ⟨_, rfl⟩
        have g1 : IntKind.i64.wrap ((r2 : Int) + c) = (r3 : Int) := by
          have : (r2 : Int) + c = (r3 : Int) := by omega
          rw [this]; exact wrap_in (by omega)
        obtain ⟨d, q4, r4, k1, k2, k3, k4, k5, k6⟩ := tail r3 (by rw [hr3, h1, Nat.one_mul])
        have hne : ((ab : Int) == 0) = false := by rw [beq_eq_false_iff_ne]; rw [hab, h1, Nat.one_mul]; omega
        have hne2 : ¬ ab = 0 := by rw [hab, h1, Nat.one_mul]; omega
        have HF := hide (And.intro hbr (And.intro (show j ≤ 41 by omega) (And.intro k5 k6)))
        have HP := hide hpp
        have K4 := hide k4
        rw [← hp]
        have hpI : (0 : Int) < (p : Int) := by omega
        clear hc hs hs2 hx hxs hj hpb hp0 hqb hh hap hbt hbt2 hp hbr hpp hq2 hr2 hab hp1 tail h1 hr3 k5 k6 he hr ht f6
        go_wp2_with fail
        go_round
        case rel => exact ⟨j, p2, q4, r4, rfl, rfl, congrArg (Value.int .i64) K4.out, HF.out.1, HF.out.2.1, HF.out.2.2.1, HF.out.2.2.2⟩
        case measure => have := HP.out; simp [intOf]; omega
      · have h0 : bt = 0 := by omega
        obtain ⟨d, q4, r4, k1, k2, k3, k4, k5, k6⟩ := tail r2 (by rw [h0, Nat.zero_mul]; rfl)
        have hab0 : ab = 0 := by rw [hab, h0, Nat.zero_mul]
        subst hab0
        have HF := hide (And.intro hbr (And.intro (show j ≤ 41 by omega) (And.intro k5 k6)))
        have HP := hide hpp
        have K4 := hide k4
        rw [← hp]
        have hpI : (0 : Int) < (p : Int) := by omega
        clear hc hs hs2 hx hxs hj hpb hp0 hqb hh hap hbt hbt2 hp hbr hpp hq2 hr2 hab hp1 tail h1 h0 k5 k6 he hr ht f6
        go_wp2_with fail
        go_round
        case rel => exact ⟨j, p2, q4, r4, rfl, rfl, congrArg (Value.int .i64) K4.out, HF.out.1, HF.out.2.1, HF.out.2.2.1, HF.out.2.2.2⟩
        case measure => have := HP.out; simp [intOf]; omega
end Go.Proofs.YtgjeihgkcmheeaaDoor
