/- goods.Parse and the document's Parse answer alike, with no program in sight. -/
import Derived.Test.YtffpiaipdeebcaaDoorTeP
import Derived.Test.YtffpiaipdeebcaaDoorGd1
namespace Go.Proofs.YtffpiaipdeebcaaDoor
open Go.RowKit

theorem join_len : ∀ (xs : List (List UInt8)), (∀ x ∈ xs, x.length ≤ 2) → (Lib.join xs [32]).length ≤ 3 * xs.length
  | [], _ => by simp [Lib.join, List.intercalate]
  | [x], h => by
    rw [Lib.join_one]
    have := h x (List.mem_cons_self ..)
    simp
    omega
  | x :: y :: r, h => by
    have ih := join_len (y :: r) (fun z hz => h z (List.mem_cons_of_mem _ hz))
    have := h x (List.mem_cons_self ..)
    rw [join_two, List.length_append, List.length_cons]
    simp only [List.length_cons] at ih ⊢
    omega
theorem textG_short {s : Nat} (hs : s < 4294967296) : (textG s).size ≤ 200 := by
  have e : (textG s).size = (textG s).data.toList.length := by rw [Array.length_toList]; rfl
  rw [e]
  by_cases h0 : s = 0
  · subst h0; rw [textG_zero]; decide
  · rw [textG_list hs h0]
    have h1 := join_len ((eachL s).map digs) (fun x hx => by
      obtain ⟨i, hi, rfl⟩ := List.mem_map.1 hx
      exact (digs_bytes i (mem_eachL.1 hi).1).2)
    have h2 := eachL_len s
    rw [List.length_map] at h1
    omega
theorem ofG_each {s : Nat} (hs : s < 4294967296) : ofG ((eachL s).map Int.ofNat) = (s, 0) := by
  unfold ofG
  rw [if_neg]
  · congr 1
    unfold ofS
    rw [List.foldl_map]
    exact orN_each hs
  · intro h
    obtain ⟨x, hx, hb⟩ := List.any_eq_true.1 h
    obtain ⟨i, hi, rfl⟩ := List.mem_map.1 hx
    have := (mem_eachL.1 hi).1
    simp [badG] at hb
    omega
theorem ofG_lt (l : List Int) : (ofG l).1 < 4294967296 := by
  unfold ofG
  split
  · decide
  · rename_i h
    refine ofS_lt (fun g hg => ?_)
    have h2 : badG g = false := by
      cases hb : badG g
      · rfl
      · exact absurd (List.any_eq_true.2 ⟨g, hg, hb⟩) h
    exact h2
theorem parse_same (t : ByteArray) : parseG t = refParse t := by
  unfold parseG refParse
  by_cases h : ∃ s, s < 4294967296 ∧ textG s = t
  · obtain ⟨s, hs, rfl⟩ := h
    have h1 : refG (textG s).data.toList = s := by unfold refG; rw [read_text hs, ofG_each hs]
    rw [out_text hs, h1, if_pos rfl, if_neg (by have := textG_short hs; omega)]
  · rw [if_neg (fun e => h ⟨_, outG_lt _, e⟩)]
    split
    · rfl
    · rw [if_neg (show ¬ textG (refG t.data.toList) = t from fun e => h ⟨_, ofG_lt _, e⟩)]
theorem parse_text {s : Nat} (hs : s < 4294967296) : parseG (textG s) = (s, 0) := by
  unfold parseG
  rw [out_text hs, if_pos rfl]
theorem parse_back {t : ByteArray} (h : (parseG t).2 = 0) : textG (parseG t).1 = t := by
  unfold parseG at h ⊢
  split at h
  · rename_i e
    rw [if_pos e]
    exact e
  · cases h
theorem parseG_lt (t : ByteArray) : (parseG t).1 < 4294967296 := by
  unfold parseG
  split
  · exact outG_lt _
  · decide
end Go.Proofs.YtffpiaipdeebcaaDoor
