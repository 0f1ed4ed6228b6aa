/- What an instance that may be is, in plain words. (For a seat without the package clear; the seats with it have this in ClearY.) -/
import Derived.Test.YtffpiaipdeebcaaDoorBestS
import Derived.Test.YtffpiaipdeebcaaDoorLift
import Derived.Test.YtffpiaipdeebcaaDoorCopy
import Derived.Deep.CutRange
import Derived.Laws.OwnMore
namespace Go.Proofs.YtffpiaipdeebcaaDoor
open Go.RowKit Go.Maps
open Go.ChangeMaps Go.WideMaps

/-! ### What an instance that may be is -/
theorem checkO_good {n : Int} {l : List Offer} (hw : OWide l) (h : (checkO n l).2 = 0) : 1 ≤ n ∧ n ≤ 10 ∧ l.length ≤ 8 ∧ GoodO l ∧ ∀ o ∈ l, o.1 < 2 ^ n.toNat := by
  unfold checkO at h
  by_cases h1 : n < 1 ∨ 10 < n
  · rw [if_pos h1] at h; cases h
  · rw [if_neg h1] at h
    by_cases h2 : 8 < l.length
    · rw [if_pos h2] at h; cases h
    · rw [if_neg h2] at h
      by_cases h3 : 0 ≤ idxTo (badO (allG n.toNat)) l
      · rw [if_pos h3] at h; cases h
      · have h4 : l.any (badO (allG n.toNat)) = false := by
          rw [← idxTo_any]
          simpa using h3
        rw [List.any_eq_false] at h4
        have key : ∀ o ∈ l, (0 < o.1 ∧ o.1 < 4294967296 ∧ 1 ≤ o.2 ∧ o.2 ≤ 1099511627776) ∧ o.1 < 2 ^ n.toNat := by
          intro o ho
          have h5 := h4 o ho
          have h6 := (hw o ho).1
          simp only [badO, Bool.or_eq_true, Bool.not_eq_true', decide_eq_true_eq, beq_iff_eq, not_or, Bool.not_eq_false] at h5
          obtain ⟨⟨⟨a1, a2⟩, a3⟩, a4⟩ := h5
          rw [within_all o.1 n.toNat h6 (by omega), decide_eq_true_eq] at a2
          exact ⟨⟨by omega, h6, by omega, by omega⟩, a2⟩
        exact ⟨by omega, by omega, by omega, fun o ho => (key o ho).1, fun o ho => (key o ho).2⟩
theorem instTo_good {n : Int} : ∀ {ls : List (List Offer)}, BWide ls → instTo n ls = 0 → ∀ l ∈ ls, (checkO n l).2 = 0
  | [], _, _, l, hl => by cases hl
  | a :: ls, hw, h, l, hl => by
    simp only [instTo] at h
    by_cases h1 : (checkO n a).2 = 0
    · simp only [h1, ne_eq, not_true_eq_false, if_false] at h
      rcases List.mem_cons.1 hl with rfl | hl
      · exact h1
      · exact instTo_good (fun x hx => hw x (List.mem_cons_of_mem _ hx)) h l hl
    · simp only [ne_eq, h1, not_false_eq_true, if_true] at h
structure GoodI (n : Int) (ls : List (List Offer)) : Prop where
  lo : 1 ≤ n
  hi : n ≤ 10
  few : ls.length ≤ 32
  short : ∀ l ∈ ls, l.length ≤ 8
  good : GoodB ls
  top : ∀ l ∈ ls, ∀ o ∈ l, o.1 < 2 ^ n.toNat
theorem instE_good {n : Int} {ls : List (List Offer)} (hw : BWide ls) (h : instE n ls = 0) : GoodI n ls := by
  unfold instE at h
  by_cases h1 : n < 1 ∨ 10 < n
  · rw [if_pos h1] at h; cases h
  · rw [if_neg h1] at h
    by_cases h2 : 32 < ls.length ∨ ls.any longB = true
    · rw [if_pos h2] at h; cases h
    · rw [if_neg h2] at h
      have key := fun l hl => checkO_good (hw l hl) (instTo_good hw h l hl)
      exact ⟨by omega, by omega, by omega, fun l hl => (key l hl).2.2.1, fun l hl => (key l hl).2.2.2.1, fun l hl => (key l hl).2.2.2.2⟩

theorem allI_lt (n : Int) : allI n < 4294967296 := by
  unfold allI
  split
  · omega
  · exact allG_lt _ (by omega)
theorem infoI : EI Tryd.prog 3 (.int .i64 0) 1 8 := by unfold EI; kernel_rfl
end Go.Proofs.YtffpiaipdeebcaaDoor
