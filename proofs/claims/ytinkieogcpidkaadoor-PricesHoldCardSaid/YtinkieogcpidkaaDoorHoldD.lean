/- Where the descent ends: plain. -/
import Derived.Test.YtinkieogcpidkaaDoorHoldP
namespace Go.Proofs.YtinkieogcpidkaaDoor
open Go.RowKit Go.Maps Go.Shelf

theorem cntP_set {p : List Int} {g : Nat} {v : Int} (hg : g < p.length) (j : Nat) : cntP (p.set g v) j = if j = g then v else cntP p j := by
  unfold cntP
  rw [List.getD_eq_getElem?_getD, List.getD_eq_getElem?_getD, List.getElem?_set]
  by_cases h : g = j
  · subst h
    simp [hg]
  · rw [if_neg h, if_neg (Ne.symm h)]
structure OkD (ls : List (List Offer)) (al n : Nat) (st : List Int × Int) : Prop where
  len : st.1.length = 32
  bd : OkC (cntP st.1)
  out : ∀ j, n ≤ j → cntP st.1 j = 0
  now : st.2 = restC (cntP st.1) al ls 0
section
variable {ls : List (List Offer)} {al n : Nat} {st : List Int × Int}
theorem try_ok (h : OkD ls al n st) {g : Nat} (hg : g < n) (hn : n ≤ 32) (d : Int) : OkD ls al n (tryD ls al g d st.1 st.2).2 ∧ (tryD ls al g d st.1 st.2).2.2 ≤ st.2 := by
  unfold tryD
  split
  · next h1 =>
    rw [Bool.and_eq_true, decide_eq_true_eq, decide_eq_true_eq] at h1
    split
    · next h2 =>
      have hs := fun j => cntP_set (p := st.1) (v := IntKind.i64.wrap (cntP st.1 g + d)) (show g < st.1.length by rw [h.len]; omega) j
      refine ⟨⟨by simp only [List.length_set]; exact h.len, fun j => ?_, fun j hj => ?_, rfl⟩, by simp only; omega⟩
      · simp only
        rw [hs]
        split
        · exact ⟨h1.1, h1.2⟩
        · exact h.bd j
      · simp only
        rw [hs, if_neg (by omega)]
        exact h.out j hj
    · exact ⟨h, Int.le_refl _⟩
  · exact ⟨h, Int.le_refl _⟩
theorem good_ok (h : OkD ls al n st) {g : Nat} (hg : g < n) (hn : n ≤ 32) (step : Int) : OkD ls al n (goodD ls al step st g) ∧ (goodD ls al step st g).2 ≤ st.2 := by
  obtain ⟨h1, h2⟩ := try_ok h hg hn step
  unfold goodD
  split
  · exact ⟨h1, h2⟩
  · obtain ⟨h3, h4⟩ := try_ok h1 hg hn (IntKind.i64.wrap (-step))
    exact ⟨h3, Int.le_trans h4 h2⟩
theorem pass_ok (h : OkD ls al n st) (hn : n ≤ 32) (step : Int) : ∀ g, g ≤ n → OkD ls al n (passD ls al step st g) ∧ (passD ls al step st g).2 ≤ st.2
  | 0, _ => ⟨h, Int.le_refl _⟩
  | g + 1, hg => by
    obtain ⟨h1, h2⟩ := pass_ok h hn step g (by omega)
    obtain ⟨h3, h4⟩ := good_ok h1 (show g < n by omega) hn step
    exact ⟨h3, Int.le_trans h4 h2⟩
theorem passes_ok (hn : n ≤ 32) (step : Int) : ∀ k (st : List Int × Int), OkD ls al n st → OkD ls al n (passesD ls al n step k st) ∧ (passesD ls al n step k st).2 ≤ st.2
  | 0, st, h => ⟨h, Int.le_refl _⟩
  | k + 1, st, h => by
    obtain ⟨h1, h2⟩ := pass_ok h hn step n (Nat.le_refl _)
    simp only [passesD]
    split
    · exact ⟨h1, h2⟩
    · obtain ⟨h3, h4⟩ := passes_ok hn step k _ h1
      exact ⟨h3, Int.le_trans h4 h2⟩
theorem steps_ok (hn : n ≤ 32) : ∀ f step (st : List Int × Int), OkD ls al n st → OkD ls al n (stepsD ls al n f step st) ∧ (stepsD ls al n f step st).2 ≤ st.2
  | 0, _, st, h => ⟨h, Int.le_refl _⟩
  | f + 1, step, st, h => by
    simp only [stepsD]
    split
    · obtain ⟨h1, h2⟩ := passes_ok hn step 16 st h
      obtain ⟨h3, h4⟩ := steps_ok hn f (step / 2) _ h1
      exact ⟨h3, Int.le_trans h4 h2⟩
    · exact ⟨h, Int.le_refl _⟩
end
theorem cnt_zero : cntP zeroP = fun _ => 0 := by
  funext j
  unfold cntP zeroP
  rw [List.getD_eq_getElem?_getD, List.getElem?_replicate]
  split <;> rfl
theorem cnt_rep (n : Nat) : cntP (List.replicate n 0) = fun _ => 0 := by
  funext j
  unfold cntP
  rw [List.getD_eq_getElem?_getD, List.getElem?_replicate]
  split <;> rfl
theorem desc_ok {n : Int} {ls : List (List Offer)} (hi : OkI n ls) : OkD ls (allG n.toNat) n.toNat (descD n ls) ∧ (descD n ls).2 ≤ restC (fun _ => 0) (allG n.toNat) ls 0 := by
  have hn := hi.nb
  have hai : allI n = allG n.toNat := by unfold allI; rw [if_neg (by omega)]
  have h := steps_ok (ls := ls) (al := allG n.toNat) (show n.toNat ≤ 32 by omega) 42 maxC (zeroP, restC (cntP zeroP) (allG n.toNat) ls 0) ⟨rfl, by simp only; rw [cnt_zero]; exact okC_zero, fun j _ => by simp only; rw [cnt_zero], rfl⟩
  unfold descD
  rw [hai]
  refine ⟨h.1, ?_⟩
  have h2 := h.2
  simp only at h2
  rw [cnt_zero] at h2
  rw [cnt_zero] at *
  exact h2
theorem cntP_take {p : List Int} {n : Nat} (h : ∀ j, n ≤ j → cntP p j = 0) : cntP (p.take n) = cntP p := by
  funext j
  by_cases hj : j < n
  · unfold cntP
    rw [List.getD_eq_getElem?_getD, List.getD_eq_getElem?_getD, List.getElem?_take, if_pos hj]
  · rw [h j (by omega)]
    unfold cntP
    rw [List.getD_eq_getElem?_getD, List.getElem?_take, if_neg hj]
    rfl
theorem priE_ok {n : Int} {ls : List (List Offer)} {p : List Int} (h0 : instE n ls = 0) (hl : (p.length : Int) = n) (hp : ∀ x ∈ p, 0 ≤ x ∧ x ≤ 1099511627776) : priE n ls p = 0 := by
  unfold priE
  rw [if_neg (by rw [h0]; simp), if_neg (by simp [hl]), if_neg]
  rw [Bool.not_eq_true, List.any_eq_false]
  intro x hx
  have := hp x hx
  unfold badP
  simp
  omega
theorem okC_of {p : List Int} (hp : ∀ x ∈ p, 0 ≤ x ∧ x ≤ 1099511627776) : OkC (cntP p) := fun j => by
  unfold cntP
  rw [List.getD_eq_getElem?_getD]
  cases h : p[j]? with
  | none => simp
  | some x => exact hp x (List.mem_of_getElem? h)
theorem take_bd {p : List Int} (h : OkC (cntP p)) : ∀ n, ∀ x ∈ p.take n, 0 ≤ x ∧ x ≤ 1099511627776 := fun n x hx => by
  obtain ⟨i, hi⟩ := List.getElem?_of_mem (List.mem_of_mem_take hx)
  have := h i
  unfold cntP at this
  rw [List.getD_eq_getElem?_getD, hi] at this
  exact this
end Go.Proofs.YtinkieogcpidkaaDoor
