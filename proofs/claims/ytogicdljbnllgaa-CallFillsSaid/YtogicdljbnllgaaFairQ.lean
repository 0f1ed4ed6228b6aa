/- How a call of two lists of wants shares the units out: plain. -/
import Derived.Test.YtogicdljbnllgaaFairP
namespace Go.Proofs.Ytogicdljbnllgaa
open Go.Shelf Go.RowKit Go.Lib Go.Sort Go.Proofs

theorem ordK_perm (κ : Int × Int → Int) (l : List (Int × Int)) : (ordK κ l).Perm (rangeI l.length) := List.mergeSort_perm _ _
theorem mem_rangeI {n : Nat} {x : Int} : x ∈ rangeI n ↔ 0 ≤ x ∧ x < (n : Int) := by
  unfold rangeI
  rw [List.mem_map]
  constructor
  · rintro ⟨i, hi, rfl⟩
    have := List.mem_range.1 hi
    omega
  · intro h
    exact ⟨x.toNat, List.mem_range.2 (by omega), by omega⟩
theorem rangeI_nodup (n : Nat) : (rangeI n).Nodup := by
  unfold rangeI
  unfold List.Nodup
  rw [List.pairwise_map]
  exact (List.nodup_range (n := n)).imp (fun h e => h (by omega))
theorem ordK_nodup (κ : Int × Int → Int) (l : List (Int × Int)) : (ordK κ l).Nodup := (ordK_perm κ l).nodup_iff.2 (rangeI_nodup _)
theorem ordK_mem {κ : Int × Int → Int} {l : List (Int × Int)} {i : Nat} (h : i < l.length) : (i : Int) ∈ ordK κ l := (ordK_perm κ l).mem_iff.2 (mem_rangeI.2 (by omega))
theorem le_ordK (κ : Int × Int → Int) (l : List (Int × Int)) (x y : Int) : (!stb (ltOf (cfK κ l)) y x) = decide (κ (wantAt l x.toNat) < κ (wantAt l y.toNat) ∨ (κ (wantAt l x.toNat) = κ (wantAt l y.toNat) ∧ x ≤ y)) := by
  unfold stb
  rw [ltK, ltK]
  generalize κ (wantAt l x.toNat) = a
  generalize κ (wantAt l y.toNat) = b
  rw [Bool.eq_iff_iff]
  simp only [Bool.not_eq_true', Bool.or_eq_false_iff, Bool.and_eq_false_iff, decide_eq_false_iff_not, decide_eq_true_eq, Bool.not_eq_false']
  omega
theorem ordK_sorted (κ : Int × Int → Int) (l : List (Int × Int)) : (ordK κ l).Pairwise fun x y => κ (wantAt l x.toNat) < κ (wantAt l y.toNat) ∨ (κ (wantAt l x.toNat) = κ (wantAt l y.toNat) ∧ x ≤ y) := by
  have := List.pairwise_mergeSort (le := fun x y => !stb (ltOf (cfK κ l)) y x) (fun a b c h1 h2 => by
    simp only [le_ordK, decide_eq_true_eq] at h1 h2 ⊢
    omega) (fun a b => by
    simp only [le_ordK, Bool.or_eq_true, decide_eq_true_eq]
    omega) (rangeI l.length)
  unfold ordK sortedI
  exact this.imp (fun h => by simpa only [le_ordK, decide_eq_true_eq] using h)
theorem ordT_getD (l : List (Int × Int)) (x : Int) : l.getD x.toNat (0, 0) = wantAt l x.toNat := by
  unfold wantAt
  rw [List.getD_eq_getElem?_getD]
theorem downB (b : List (Int × Int)) : DownT (ordT b (ordK κB b)) := by
  unfold DownT ordT
  rw [List.pairwise_map]
  refine (ordK_sorted κB b).imp (fun h => ?_)
  simp only [ordT_getD]
  unfold κB at h
  omega
theorem upS (s : List (Int × Int)) : DownT ((ordT s (ordK κS s)).map negT) := by
  unfold DownT ordT
  rw [List.map_map, List.pairwise_map]
  refine (ordK_sorted κS s).imp (fun h => ?_)
  simp only [Function.comp, negT, ordT_getD]
  unfold κS at h
  omega
theorem shares_fst : ∀ (bs : List Tri) (g K : Int), (sharesG bs g K).map (·.1) = bs
  | [], _, _ => rfl
  | x :: bs, g, K => by simp only [sharesG, List.map_cons, shares_fst bs]
theorem shares_room : ∀ (bs : List Tri) (K : Int), ∀ e ∈ sharesG bs 0 K, e.2.2 = e.1.2.2
  | [], _, e, he => by cases he
  | x :: bs, K, e, he => by
    simp only [sharesG] at he
    rcases List.mem_cons.1 he with rfl | he
    · simp
    · exact shares_room bs _ e he
theorem got_one : ∀ (l : List (Tri × Int × Int)), (l.map fun e => e.1.1).Nodup → ∀ e ∈ l, got l e.1.1 = e.2.1
  | [], _, _, he => by cases he
  | f :: l, hn, e, he => by
    rw [List.map_cons, List.nodup_cons] at hn
    have hno : ∀ who, who ∉ l.map (fun e => e.1.1) → got l who = 0 := by
      intro who hw
      clear he hn
      induction l with
      | nil => rfl
      | cons a l ih =>
        rw [List.map_cons, List.mem_cons, not_or] at hw
        have hne : ¬ a.1.1 = who := fun e => hw.1 e.symm
        simp only [got, if_neg hne, ih hw.2, Int.zero_add]
    rcases List.mem_cons.1 he with rfl | he
    · simp only [got, if_true, hno _ hn.1, Int.add_zero]
    · have h1 : f.1.1 ≠ e.1.1 := fun h => hn.1 (by rw [h]; exact List.mem_map.2 ⟨e, he, rfl⟩)
      simp only [got, if_neg h1, got_one l hn.2 e he, Int.zero_add]
theorem ordT_fst (l : List (Int × Int)) (o : List Int) : (ordT l o).map (·.1) = o := by
  unfold ordT
  rw [List.map_map]
  exact List.map_id o
/-- Each place has its share. -/
theorem share_at {κ : Int × Int → Int} {l : List (Int × Int)} {i : Nat} {z : Int × Int} (h : l[i]? = some z) (K : Int) : ∃ e ∈ sharesG (ordT l (ordK κ l)) 0 K, e.1 = ((i : Int), z) ∧ e.2.2 = z.2 ∧ got (sharesG (ordT l (ordK κ l)) 0 K) (i : Int) = e.2.1 := by
  have hi : i < l.length := (List.getElem?_eq_some_iff.1 h).1
  have hm : ((i : Int), z) ∈ ordT l (ordK κ l) := by
    refine List.mem_map.2 ⟨(i : Int), ordK_mem hi, ?_⟩
    rw [ordT_getD, Int.toNat_natCast]
    unfold wantAt
    rw [h]
    rfl
  rw [← shares_fst (ordT l (ordK κ l)) 0 K] at hm
  obtain ⟨e, he, h1⟩ := List.mem_map.1 hm
  refine ⟨e, he, h1, by rw [shares_room _ _ e he, h1], ?_⟩
  have hn : ((sharesG (ordT l (ordK κ l)) 0 K).map fun e => e.1.1).Nodup := by
    have : (sharesG (ordT l (ordK κ l)) 0 K).map (fun e => e.1.1) = ((sharesG (ordT l (ordK κ l)) 0 K).map (·.1)).map (·.1) := by rw [List.map_map]; rfl
    rw [this, shares_fst, ordT_fst]
    exact ordK_nodup κ l
  have := got_one _ hn e he
  rw [h1] at this
  exact this
theorem addAt_at (l : List Int) (j i : Nat) (n : Int) : (addAt l j n)[i]? = if j = i then l[i]?.map (· + n) else l[i]? := by
  unfold addAt
  by_cases h : j = i
  · subst h
    rw [if_pos rfl]
    by_cases hj : j < l.length
    · rw [List.getElem?_set_self hj, List.getD_eq_getElem?_getD, List.getElem?_eq_getElem hj]
      rfl
    · rw [List.getElem?_eq_none (by rw [List.length_set]; omega), List.getElem?_eq_none (by omega)]
      rfl
  · rw [if_neg h, List.getElem?_set_ne h]
theorem fold_at (f : Trd → Int) (ts : List Trd) : ∀ (l : List Int) (i : Nat), (∀ t ∈ ts, 0 ≤ f t) → (ts.foldl (fun l t => addAt l (f t).toNat t.2.2) l)[i]? = l[i]?.map (· + (ts.map fun t => if f t = (i : Int) then t.2.2 else 0).sum) := by
  induction ts with
  | nil =>
    intro l i _
    cases h : l[i]? <;> simp [h]
  | cons t ts ih =>
    intro l i h
    rw [List.foldl_cons, ih _ _ (fun u hu => h u (List.mem_cons_of_mem _ hu)), addAt_at, List.map_cons, List.sum_cons]
    have h0 := h t List.mem_cons_self
    by_cases e : f t = (i : Int)
    · rw [if_pos (by omega), if_pos e]
      cases l[i]? <;> simp [Int.add_assoc]
    · rw [if_neg (by omega), if_neg e]
      cases l[i]? <;> simp
theorem giv_sum (ts : List Trd) (who : Int) : giv ts who = (ts.map fun t => if t.1.1 = who then t.2.2 else 0).sum := by
  induction ts with
  | nil => rfl
  | cons t ts ih => simp only [giv, ih, List.map_cons, List.sum_cons]
theorem giv_swap (ts : List Trd) (who : Int) : giv (ts.map swp) who = (ts.map fun t => if t.2.1.1 = who then t.2.2 else 0).sum := by
  rw [giv_sum, List.map_map]
  rfl
theorem givenB_at {n : Nat} {ts : List Trd} (h : ∀ t ∈ ts, 0 ≤ t.1.1) {i : Nat} (hi : i < n) : (givenB n ts)[i]? = some (giv ts (i : Int)) := by
  unfold givenB
  rw [fold_at (fun t => t.1.1) ts _ _ h, List.getElem?_replicate, if_pos hi, giv_sum]
  simp
theorem givenS_at {n : Nat} {ts : List Trd} (h : ∀ t ∈ ts, 0 ≤ t.2.1.1) {i : Nat} (hi : i < n) : (givenS n ts)[i]? = some (giv (ts.map swp) (i : Int)) := by
  unfold givenS
  rw [fold_at (fun t => t.2.1.1) ts _ _ h, List.getElem?_replicate, if_pos hi, giv_swap]
  simp
/-- What each buyer gets. -/
theorem fairB {b s : List (Int × Int)} (hb : OkW b) (hs : OkW s) {i : Nat} {z : Int × Int} (h : b[i]? = some z) :
    ∃ a, (givenB b.length (RunA b s).1)[i]? = some a ∧ a = giv (RunA b s).1 (i : Int) ∧ 0 ≤ a ∧ a ≤ z.2 ∧ (0 < a → highT (RunA b s).1 ≤ z.1) ∧ (a < z.2 → ∃ u, (RunA b s).2.1 = some u ∧ z.1 ≤ u.2) := by
  have hm := hb.mid hs
  obtain ⟨e, he, h1, h2, h3⟩ := share_at (κ := κB) h (sumT (RunA b s).1)
  have hg := run_got hm (i : Int)
  obtain ⟨k1, k2, _⟩ := shares_ok _ _ _ hm.rb (run_sum hm) e he
  have hi : i < b.length := (List.getElem?_eq_some_iff.1 h).1
  refine ⟨giv (RunA b s).1 (i : Int), givenB_at (fun t ht => (run_trd hb hs ht).1.1) hi, rfl, ?_⟩
  have hge : giv (RunA b s).1 (i : Int) = e.2.1 := hg.trans h3
  rw [hge]
  refine ⟨k1, by omega, fun h0 => ?_, fun h0 => ?_⟩
  · have := run_high hm (downB b) e he h0
    rw [h1] at this
    exact this
  · obtain ⟨u, hu, hl⟩ := run_low hm (downB b) e he (by omega)
    rw [h1] at hl
    exact ⟨u, hu, hl⟩
/-- What each seller gives. -/
theorem fairS {b s : List (Int × Int)} (hb : OkW b) (hs : OkW s) {i : Nat} {z : Int × Int} (h : s[i]? = some z) :
    ∃ a, (givenS s.length (RunA b s).1)[i]? = some a ∧ a = giv ((RunA b s).1.map swp) (i : Int) ∧ 0 ≤ a ∧ a ≤ z.2 ∧ (0 < a → z.1 ≤ lowT (RunA b s).1) ∧ (a < z.2 → ∃ v, (RunA b s).2.2 = some v ∧ v.2 ≤ z.1) := by
  have hm := (hb.mid hs).swap
  have hsw := run_swap (hb.mid hs)
  have hR : runW ((ordT s (ordK κS s)).map negT) ((ordT b (ordK κB b)).map negT) 0 0 = ((RunA b s).1.map swp, (RunA b s).2.2.map negU, (RunA b s).2.1.map negU) := hsw
  obtain ⟨e, he, h1, h2, h3⟩ := share_at (κ := κS) h (sumT (RunA b s).1)
  have hi : i < s.length := (List.getElem?_eq_some_iff.1 h).1
  have hsh : ∀ (l : List Tri) (g K : Int), sharesG (l.map negT) g K = (sharesG l g K).map fun e => (negT e.1, e.2) := by
    intro l
    induction l with
    | nil => intro g K; rfl
    | cons x l ih => intro g K; simp only [List.map_cons, sharesG, ih]; rfl
  have hgt : ∀ (l : List (Tri × Int × Int)) (who : Int), got (l.map fun e => (negT e.1, e.2)) who = got l who := by
    intro l who
    induction l with
    | nil => rfl
    | cons x l ih => simp only [List.map_cons, got, ih]; rfl
  have hg := run_got hm (i : Int)
  have hhigh := run_high hm (upS s)
  have hlow := run_low hm (upS s)
  have hok := shares_ok _ _ _ hm.rb (run_sum hm)
  rw [hR] at hg hhigh hlow hok
  simp only [sum_swap, hsh] at hg hhigh hlow hok
  rw [hgt] at hg
  have he' : (negT e.1, e.2) ∈ (sharesG (ordT s (ordK κS s)) 0 (sumT (RunA b s).1)).map fun e => (negT e.1, e.2) := List.mem_map.2 ⟨e, he, rfl⟩
  obtain ⟨k1, k2, _⟩ := hok _ he'
  refine ⟨giv ((RunA b s).1.map swp) (i : Int), givenS_at (fun t ht => (run_trd hb hs ht).2.1.1) hi, rfl, ?_⟩
  have hge : giv ((RunA b s).1.map swp) (i : Int) = e.2.1 := hg.trans h3
  rw [hge]
  simp only at k1 k2
  refine ⟨k1, by omega, fun h0 => ?_, fun h0 => ?_⟩
  · have := hhigh _ he' h0
    have hne : (RunA b s).1 ≠ [] := fun hn => by
      rw [hn] at hge
      simp only [List.map_nil, giv] at hge
      omega
    rw [high_swap _ hne, h1] at this
    simp only [negT] at this
    omega
  · obtain ⟨u, hu, hl⟩ := hlow _ he' (by simp only; omega)
    obtain ⟨v, hv, rfl⟩ := Option.map_eq_some_iff.1 hu
    rw [h1] at hl
    simp only [negT, negU] at hl
    exact ⟨v, hv, by omega⟩
end Go.Proofs.Ytogicdljbnllgaa
