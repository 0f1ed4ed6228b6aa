/- What the law GoodsParts says, with no program in sight: of a choice each buyer's part alone is one, and one without it; their worths; how many goods. -/
import Derived.Test.YtffpiaipdeebcaaDoorGcE
import Derived.Test.YtffpiaipdeebcaaDoorGd4
namespace Go.Proofs.YtffpiaipdeebcaaDoor
open Go.RowKit

theorem cntAt_cons (g : Nat) (gs : List Nat) (i : Nat) : cntAt (g :: gs) i = (if g.testBit i then 1 else 0) + cntAt gs i := by
  unfold cntAt
  rw [List.filter_cons]
  split <;> simp [Nat.add_comm]
theorem cnt_dom : ∀ (a b : List Nat), a.length = b.length → (∀ (j x y : Nat), a[j]? = some x → b[j]? = some y → x = y ∨ x = 0) → ∀ i, cntAt a i ≤ cntAt b i
  | [], b, _, _, i => by simp [cntAt]
  | x :: a, [], h, _, _ => by simp at h
  | x :: a, y :: b, h, hd, i => by
    have h1 := cnt_dom a b (by simpa using h) (fun j x y hx hy => hd (j + 1) x y (by simpa using hx) (by simpa using hy)) i
    rw [cntAt_cons, cntAt_cons]
    rcases hd 0 x y rfl rfl with rfl | rfl
    · omega
    · simp only [Nat.zero_testBit, Bool.false_eq_true, ↓reduceIte]; omega
theorem apartB_dom {a b : List Nat} (hl : a.length = b.length) (hd : ∀ (j x y : Nat), a[j]? = some x → b[j]? = some y → x = y ∨ x = 0) (h : apartB b = true) : apartB a = true := by
  unfold apartB at h ⊢
  rw [List.all_eq_true] at h ⊢
  intro i hi
  have h1 := of_decide_eq_true (h i hi)
  have h2 := cnt_dom a b hl hd i
  exact decide_eq_true (by omega)
theorem outL_at (ls : List (List Offer)) (zs : List Int) (j : Nat) : (outL ls zs)[j]? = match ls[j]?, zs[j]? with | some l, some z => some (pickO l z) | _, _ => none := by
  unfold outL
  rw [List.getElem?_zipWith]
  cases ls[j]? <;> cases zs[j]? <;> rfl
theorem outL_len {ls : List (List Offer)} {zs : List Int} (h : zs.length = ls.length) : (outL ls zs).length = ls.length := by
  unfold outL
  rw [List.length_zipWith]
  omega
theorem pick_none (l : List Offer) : pickO l (-1) = (0, 0) := by unfold pickO; rw [if_neg (by decide)]
theorem chE_zero {ls : List (List Offer)} {zs : List Int} : chE ls zs = 0 ↔ zs.length = ls.length ∧ (∀ (j : Nat) l z, ls[j]? = some l → zs[j]? = some z → okZ l z = true) ∧ apartB ((outL ls zs).map Prod.fst) = true := by
  unfold chE
  by_cases h1 : zs.length ≠ ls.length
  · rw [if_pos h1]; simp; intro h; exact absurd h h1
  · rw [if_neg h1]
    have h1' : zs.length = ls.length := by simpa using h1
    have key : (List.zipWith okZ ls zs).all id = true ↔ ∀ (j : Nat) l z, ls[j]? = some l → zs[j]? = some z → okZ l z = true := by
      rw [List.all_eq_true]
      constructor
      · intro h j l z hl hz
        refine h (okZ l z) (List.mem_of_getElem? (i := j) ?_)
        rw [List.getElem?_zipWith, hl, hz]
      · intro h x hx
        obtain ⟨j, hj⟩ := List.getElem?_of_mem hx
        rw [List.getElem?_zipWith] at hj
        cases hl : ls[j]? with
        | none => rw [hl] at hj; simp at hj
        | some l =>
          cases hz : zs[j]? with
          | none => rw [hl, hz] at hj; simp at hj
          | some z =>
            rw [hl, hz] at hj
            injection hj with hj
            subst hj
            exact h j l z hl hz
    by_cases h2 : (List.zipWith okZ ls zs).all id = false
    · rw [if_pos h2]
      simp only [Int.reduceEq, false_iff]
      rintro ⟨_, h3, _⟩
      rw [key.2 h3] at h2
      cases h2
    · rw [if_neg h2]
      have h2' : (List.zipWith okZ ls zs).all id = true := by simpa using h2
      cases h3 : apartB ((outL ls zs).map Prod.fst)
      · simp
      · simp only [if_true, true_iff]
        exact ⟨h1', key.1 h2', trivial⟩
/-- A choice out of which buyers are taken stays one. -/
theorem chE_dom {ls : List (List Offer)} {zs zs' : List Int} (h : chE ls zs = 0) (hl : zs'.length = zs.length) (hd : ∀ (j : Nat) z, zs'[j]? = some z → zs[j]? = some z ∨ z = -1) : chE ls zs' = 0 := by
  obtain ⟨h1, h2, h3⟩ := chE_zero.1 h
  refine chE_zero.2 ⟨by omega, fun j l z hlj hz => ?_, ?_⟩
  · rcases hd j z hz with h4 | rfl
    · exact h2 j l z hlj h4
    · simp [okZ]; omega
  · refine apartB_dom (by rw [List.length_map, List.length_map, outL_len (by omega), outL_len h1]) (fun j x y hx hy => ?_) h3
    rw [List.getElem?_map, outL_at] at hx hy
    cases hlj : ls[j]? with
    | none => rw [hlj] at hx; simp at hx
    | some l =>
      cases hz : zs'[j]? with
      | none => rw [hlj, hz] at hx; simp at hx
      | some z =>
        rw [hlj, hz] at hx
        simp only [Option.map_some, Option.some.injEq] at hx
        rcases hd j z hz with h4 | rfl
        · rw [hlj, h4] at hy
          simp only [Option.map_some, Option.some.injEq] at hy
          exact .inl (hx.symm.trans hy)
        · rw [pick_none] at hx
          exact .inr hx.symm
theorem sumC_eq (l : List Offer) : sumC l = (l.map (·.2)).sum := by
  have key : ∀ (l : List Offer) (m : Int), l.foldl (fun s o => s + o.2) m = m + (l.map (·.2)).sum := by
    intro l
    induction l with
    | nil => intro m; simp
    | cons o l ih => intro m; rw [List.foldl_cons, ih, List.map_cons, List.sum_cons]; omega
  unfold sumC
  rw [key, Int.zero_add]
theorem sumC_cons (o : Offer) (l : List Offer) : sumC (o :: l) = o.2 + sumC l := by rw [sumC_eq, sumC_eq, List.map_cons, List.sum_cons]
theorem sumC_none : ∀ (m : Nat), sumC (List.replicate m (0, 0)) = 0
  | 0 => rfl
  | m + 1 => by rw [List.replicate_succ, sumC_cons, sumC_none m]; rfl
theorem sumC_less : ∀ (l : List Offer) (b : Nat) (o : Offer), l[b]? = some o → sumC (l.set b (0, 0)) = sumC l - o.2
  | [], _, _, h => by simp at h
  | x :: l, 0, o, h => by
    injection h with h
    subst h
    rw [List.set_cons_zero, sumC_cons, sumC_cons]
    show (0 : Int) + sumC l = _
    omega
  | x :: l, b + 1, o, h => by
    rw [List.set_cons_succ, sumC_cons, sumC_cons, sumC_less l b o (by simpa using h)]
    omega
theorem sumC_alone : ∀ (m b : Nat) (o : Offer), b < m → sumC ((List.replicate m (0, 0)).set b o) = o.2
  | 0, _, _, h => by omega
  | m + 1, 0, o, _ => by rw [List.replicate_succ, List.set_cons_zero, sumC_cons, sumC_none]; omega
  | m + 1, b + 1, o, h => by
    rw [List.replicate_succ, List.set_cons_succ, sumC_cons, sumC_alone m b o (by omega)]
    show (0 : Int) + o.2 = o.2
    omega
abbrev aloneL (m b : Nat) (z : Int) : List Int := (List.replicate m (-1)).set b z
section
variable {ls : List (List Offer)} {zs : List Int} {b : Nat} {z : Int}
theorem outL_less (h : zs.length = ls.length) : outL ls (zs.set b (-1)) = (outL ls zs).set b (0, 0) := by
  apply List.ext_getElem?
  intro j
  rw [outL_at, List.getElem?_set, List.getElem?_set, outL_at, outL_len h]
  by_cases e : b = j
  · subst e
    rw [if_pos rfl, if_pos rfl]
    by_cases hb : b < ls.length
    · rw [if_pos (by omega), if_pos hb, List.getElem?_eq_getElem hb]
      simp [pick_none]
    · rw [if_neg (by omega), if_neg hb]
      cases ls[b]? <;> rfl
  · rw [if_neg e, if_neg e]
theorem outL_alone (h : zs.length = ls.length) (hb : zs[b]? = some z) : outL ls (aloneL zs.length b z) = (List.replicate ls.length (0, 0)).set b ((outL ls zs)[b]?.getD (0, 0)) := by
  have hbl : b < zs.length := (List.getElem?_eq_some_iff.1 hb).1
  apply List.ext_getElem?
  intro j
  rw [outL_at, List.getElem?_set, List.getElem?_set, outL_at]
  by_cases e : b = j
  · subst e
    rw [if_pos rfl, if_pos rfl, List.length_replicate, List.length_replicate, if_pos hbl, if_pos (by omega), hb, List.getElem?_eq_getElem (by omega)]
    rfl
  · rw [if_neg e, if_neg e, List.getElem?_replicate, List.getElem?_replicate]
    by_cases hj : j < ls.length
    · rw [if_pos (by omega), if_pos hj, List.getElem?_eq_getElem hj]
      simp [pick_none]
    · rw [if_neg (by omega), if_neg hj]
      cases ls[j]? <;> rfl
theorem parts_law (h : chE ls zs = 0) (hb : zs[b]? = some z) : chE ls (aloneL zs.length b z) = 0 ∧ chE ls (zs.set b (-1)) = 0 ∧ ∃ o, (outL ls zs)[b]? = some o ∧ sumC (outL ls (aloneL zs.length b z)) = o.2 ∧ sumC (outL ls (zs.set b (-1))) = sumC (outL ls zs) - o.2 := by
  have hl := (chE_zero.1 h).1
  have hbl : b < zs.length := (List.getElem?_eq_some_iff.1 hb).1
  refine ⟨chE_dom h (by simp) (fun j x hx => ?_), chE_dom h (by simp) (fun j x hx => ?_), ?_⟩
  · rw [List.getElem?_set] at hx
    split at hx
    · rename_i e
      subst e
      simp only [List.length_replicate, hbl, if_true, Option.some.injEq] at hx
      exact .inl (hx ▸ hb)
    · rw [List.getElem?_replicate] at hx
      split at hx
      · injection hx with hx
        exact .inr hx.symm
      · cases hx
  · rw [List.getElem?_set] at hx
    split at hx
    · rename_i e
      subst e
      simp only [hbl, if_true, Option.some.injEq] at hx
      exact .inr hx.symm
    · exact .inl hx
  · obtain ⟨o, ho⟩ : ∃ o, (outL ls zs)[b]? = some o := ⟨_, List.getElem?_eq_getElem (by rw [outL_len hl]; omega)⟩
    refine ⟨o, ho, ?_, ?_⟩
    · rw [outL_alone hl hb, ho]
      exact sumC_alone _ _ _ (by omega)
    · rw [outL_less hl]
      exact sumC_less _ _ _ ho
end
/-- How many goods sets have together. -/
def manyL (gs : List Nat) : Nat := (gs.map fun g => (eachL g).length).sum
theorem manyL_snoc (gs : List Nat) (g : Nat) : manyL (gs ++ [g]) = manyL gs + (eachL g).length := by simp [manyL]
theorem filter_sum (p : Nat → Bool) : ∀ l : List Nat, (l.filter p).length = (l.map fun i => if p i then 1 else 0).sum
  | [] => rfl
  | x :: l => by
    rw [List.filter_cons, List.map_cons, List.sum_cons, ← filter_sum p l]
    split <;> simp [Nat.add_comm]
theorem sum_add (f h : Nat → Nat) : ∀ l : List Nat, (l.map fun i => f i + h i).sum = (l.map f).sum + (l.map h).sum
  | [] => rfl
  | x :: l => by
    rw [List.map_cons, List.map_cons, List.map_cons, List.sum_cons, List.sum_cons, List.sum_cons, sum_add f h l]
    omega
theorem manyL_cnt : ∀ gs : List Nat, manyL gs = ((List.range' 0 32).map (cntAt gs)).sum
  | [] => by
    have : ((List.range' 0 32).map (cntAt [])) = (List.range' 0 32).map fun _ => 0 := List.map_congr_left (fun _ _ => rfl)
    rw [this]
    decide
  | g :: gs => by
    have e : manyL (g :: gs) = (eachL g).length + manyL gs := by simp [manyL]
    rw [e, manyL_cnt gs, eachL, filter_sum, ← sum_add]
    congr 1
    exact List.map_congr_left (fun i _ => (cntAt_cons g gs i).symm)
theorem many_law {gs : List Nat} (h : apartB gs = true) : (eachL (apartG gs).1).length = manyL gs ∧ (apartG gs).2 = true := by
  unfold apartG
  rw [if_pos h]
  refine ⟨?_, rfl⟩
  rw [manyL_cnt, eachL, filter_sum]
  congr 1
  refine List.map_congr_left (fun i hi => ?_)
  have hi32 : i < 32 := by simp [List.mem_range'] at hi; omega
  have h1 := of_decide_eq_true (List.all_eq_true.1 h i (List.mem_range.2 hi32))
  show (if (setC fun j => (cntAt gs j : Nat)).testBit i = true then 1 else 0) = _
  rw [setC_bit, decide_eq_true hi32, Bool.true_and]
  by_cases hc : cntAt gs i = 0
  · simp [hc]
  · have : cntAt gs i = 1 := by omega
    simp [this]
end Go.Proofs.YtffpiaipdeebcaaDoor
