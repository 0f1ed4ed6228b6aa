/- The places of a side, put in order one by one: plain. -/
import Derived.Test.YtogicdljbnllgaaFairQ
namespace Go.Proofs.Ytogicdljbnllgaa
open Go.Shelf Go.RowKit Go.Lib Go.Sort Go.Proofs

def keyK (κ : Int × Int → Int) (l : List (Int × Int)) (x : Int) : Int := κ (wantAt l x.toNat)
theorem ltKey (κ : Int × Int → Int) (l : List (Int × Int)) (x y : Int) : ltOf (cfK κ l) x y = decide (keyK κ l x < keyK κ l y ∨ (keyK κ l x = keyK κ l y ∧ x < y)) := ltK κ l x y
/-- The first k places, in order. -/
structure InsK (κ : Int × Int → Int) (l : List (Int × Int)) (k : Nat) (out : List Int) : Prop where
  perm : out.Perm (rangeI k)
  sorted : out.Pairwise fun x y => stb (ltOf (cfK κ l)) y x = false
variable {κ : Int × Int → Int}
theorem InsK.len {l : List (Int × Int)} {k : Nat} {out : List Int} (h : InsK κ l k out) : out.length = k := by rw [h.perm.length_eq]; exact rangeI_len k
theorem InsK.bd {l : List (Int × Int)} {k : Nat} {out : List Int} (h : InsK κ l k out) {x : Int} (hx : x ∈ out) : 0 ≤ x ∧ x < k := mem_rangeI.1 (h.perm.mem_iff.1 hx)
/-- Place k is put at 'a': all behind it comes later, what stands ahead does not. -/
theorem InsK.step {l : List (Int × Int)} {k a : Nat} {out : List Int} (h : InsK κ l k out) (h1 : a = 0 ∨ ∃ y, out[a - 1]? = some y ∧ ¬ keyK κ l k < keyK κ l y) (h2 : ∀ t y, a ≤ t → out[t]? = some y → keyK κ l k < keyK κ l y) : InsK κ l (k + 1) (out.take a ++ (k : Int) :: out.drop a) := by
  refine ⟨?_, ?_⟩
  · rw [rangeI_snoc]
    have e : (out.take a ++ (k : Int) :: out.drop a).Perm ((k : Int) :: (out.take a ++ out.drop a)) := List.perm_middle
    rw [List.take_append_drop] at e
    exact e.trans ((List.Perm.cons _ h.perm).trans (by have := @List.perm_append_comm _ [(k : Int)] (rangeI k); simpa using this))
  · have hs := h.sorted
    rw [← List.take_append_drop a out, List.pairwise_append] at hs
    obtain ⟨s1, s2, s3⟩ := hs
    have lo : ∀ x ∈ out.take a, stb (ltOf (cfK κ l)) (k : Int) x = false := by
      intro x hx
      have hxb := h.bd (List.mem_of_mem_take hx)
      rw [stb_gt (swoK κ l) (by omega), ltKey]
      rw [decide_eq_false_iff_not]
      have key : keyK κ l x ≤ keyK κ l k := by
        rcases h1 with h1 | ⟨y, hy, hny⟩
        · subst h1; simp at hx
        · obtain ⟨i, hi, hix⟩ := List.getElem_of_mem hx
          have hia : i < a := by simp at hi; omega
          rw [List.getElem_take] at hix
          have hya : a - 1 < out.length := (List.getElem?_eq_some_iff.1 hy).1
          have hyv : out[a - 1] = y := (List.getElem?_eq_some_iff.1 hy).2
          by_cases hie : i = a - 1
          · subst hie; rw [← hix, hyv]; omega
          · have h5 := List.pairwise_iff_getElem.1 h.sorted i (a - 1) (by omega) hya (by omega)
            rw [hix, hyv] at h5
            have h6 := (stb_false.1 h5).1
            rw [ltKey, decide_eq_false_iff_not] at h6
            omega
      omega
    have hi' : ∀ y ∈ out.drop a, stb (ltOf (cfK κ l)) y (k : Int) = false := by
      intro y hy
      obtain ⟨i, hi, hiy⟩ := List.getElem_of_mem hy
      rw [List.getElem_drop] at hiy
      have hl : a + i < out.length := by simp at hi; omega
      have h5 := h2 (a + i) y (by omega) (by rw [List.getElem?_eq_getElem hl, hiy])
      refine stb_false.2 ⟨?_, .inl ?_⟩
      · rw [ltKey, decide_eq_false_iff_not]; omega
      · rw [ltKey, decide_eq_true_eq]; omega
    rw [List.pairwise_append, List.pairwise_cons]
    refine ⟨s1, ⟨hi', s2⟩, fun x hx y hy => ?_⟩
    rcases List.mem_cons.1 hy with rfl | hy
    · exact lo x hx
    · exact s3 x hx y hy
theorem InsK.all {l : List (Int × Int)} {out : List Int} (h : InsK κ l l.length out) : out = ordK κ l := by
  obtain ⟨d, hd⟩ : ∃ d, d = (rangeI l.length).toArray := ⟨_, rfl⟩
  obtain ⟨d', hd'⟩ : ∃ d, d = out.toArray := ⟨_, rfl⟩
  have hz : d.size = l.length := by rw [hd]; simp [rangeI]
  have hz' : d'.size = l.length := by rw [hd']; simp [h.len]
  have h5 := sorted_unique_holds (stb_swo (swoK κ l)) (fun x y h1 h2 => stb_eq (swoK κ l) h1 h2) d d' ⟨by rw [hz, hz'], fun i hi => by
    have hi2 : l.length ≤ i := by omega
    rw [getElem!_neg d' i (by omega), getElem!_neg d i (by omega)], by
    rw [Array.extract_eq_self_of_le (by omega), Array.extract_eq_self_of_le (by omega), hd, hd']
    exact h.perm⟩ (fun i j _ hij hj => by
    rw [getElem!_pos d' j (by omega), getElem!_pos d' i (by omega)]
    subst hd'
    exact List.pairwise_iff_getElem.1 h.sorted i j (by simp [h.len]; omega) (by simp [h.len]; omega) hij)
  rw [hd', hd] at h5
  exact h5
end Go.Proofs.Ytogicdljbnllgaa
