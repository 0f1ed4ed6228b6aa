/- Plain laws of the chain of subsets: the next one is a greater number, and within the set. -/
import Derived.Test.YtffpiaipdeebcaaDoorGdQ
namespace Go.Proofs.YtffpiaipdeebcaaDoor
open Go.RowKit Go.Maps

theorem lt_bits {s r m : Nat} (h0 : s.testBit m = false) (h1 : r.testBit m = true) (h : ∀ j, m < j → s.testBit j = r.testBit j) : s < r := by
  have hq : s / 2 ^ (m + 1) = r / 2 ^ (m + 1) := by
    apply Nat.eq_of_testBit_eq
    intro i
    rw [Nat.testBit_div_two_pow, Nat.testBit_div_two_pow]
    exact h _ (by omega)
  have hr : 2 ^ m ≤ r % 2 ^ (m + 1) := Nat.ge_two_pow_of_testBit (by rw [Nat.testBit_mod_two_pow]; simp [h1])
  have hs : s % 2 ^ (m + 1) < 2 ^ m := by
    have hb : (s % 2 ^ (m + 1)).testBit m = false := by rw [Nat.testBit_mod_two_pow]; simp [h0]
    apply Nat.lt_of_not_le
    intro hle
    have h5 := Nat.mod_lt s (Nat.two_pow_pos (m + 1))
    have : (s % 2 ^ (m + 1)).testBit m = true := by
      rw [Nat.testBit_eq_decide_div_mod_eq]
      have e1 : s % 2 ^ (m + 1) / 2 ^ m = 1 := by
        rw [Nat.div_eq_of_lt_le] <;> rw [Nat.pow_succ] at h5 <;> omega
      rw [e1]
      rfl
    rw [hb] at this
    cases this
  have e1 := Nat.div_add_mod s (2 ^ (m + 1))
  have e2 := Nat.div_add_mod r (2 ^ (m + 1))
  rw [← hq] at e2
  omega
theorem next_grows {s o : Nat} (hs : s < 4294967296) (ho : o < 4294967296) (h : (nextG s o).2 = true) : s < (nextG s o).1 ∧ (nextG s o).1 < 4294967296 ∧ withinB (nextG s o).1 o = true := by
  have hc : ¬ (!withinB s o || s == o) = true := fun hc => by
    unfold nextG at h
    rw [if_pos hc] at h
    cases h
  have hr1 : (nextG s o).1 < 4294967296 := by
    unfold nextG
    rw [if_neg hc]
    exact Nat.lt_of_le_of_lt Nat.and_le_right ho
  have hr2 : ∀ i, (nextG s o).1.testBit i = true → o.testBit i = true := fun i hi => by
    unfold nextG at hi
    rw [if_neg hc] at hi
    simp only [Nat.testBit_and, Bool.and_eq_true] at hi
    exact hi.2
  refine ⟨?_, hr1, (withinB_iff _ _ hr1 ho).2 hr2⟩
  rw [next_same hs ho]
  unfold nextD
  rw [if_neg hc]
  simp only [Bool.or_eq_true, Bool.not_eq_true', beq_iff_eq, not_or, Bool.not_eq_false] at hc
  obtain ⟨hwi, hne⟩ := hc
  have hw := (withinB_iff s o hs ho).1 hwi
  have hex : ∃ m, o.testBit m = true ∧ s.testBit m = false := by
    apply Classical.byContradiction
    intro hn
    apply hne
    apply Nat.eq_of_testBit_eq
    intro i
    rw [Bool.eq_iff_iff]
    refine ⟨hw i, fun hi => ?_⟩
    cases hsi : s.testBit i
    · exact absurd ⟨i, hi, hsi⟩ hn
    · rfl
  obtain ⟨m0, hm0⟩ := hex
  obtain ⟨m, hm, hmin⟩ : ∃ m, (o.testBit m = true ∧ s.testBit m = false) ∧ ∀ i, i < m → ¬ (o.testBit i = true ∧ s.testBit i = false) := by
    induction m0 using Nat.strongRecOn with
    | _ m0 ih =>
      by_cases hx : ∃ i, i < m0 ∧ (o.testBit i = true ∧ s.testBit i = false)
      · obtain ⟨i, hi, hb⟩ := hx
        exact ih i hi hb
      · exact ⟨m0, hm0, fun i hi hb => hx ⟨i, hi, hb⟩⟩
  have hb := nextR_bits hw hm.1 hm.2 (fun i hi ho' => by
    cases hsi : s.testBit i
    · exact absurd ⟨ho', hsi⟩ (hmin i hi)
    · rfl) 32 0 s (by omega) (by have := bit_lt ho hm.1; omega) (fun i => by simp)
  refine lt_bits hm.2 (by show (nextR s (eachL o)).1.testBit m = true; unfold eachL; rw [hb.2 m]; simp) (fun j hj => ?_)
  show s.testBit j = (nextR s (eachL o)).1.testBit j
  unfold eachL
  rw [hb.2 j]
  simp [show ¬ j = m by omega, hj]
end Go.Proofs.YtffpiaipdeebcaaDoor
