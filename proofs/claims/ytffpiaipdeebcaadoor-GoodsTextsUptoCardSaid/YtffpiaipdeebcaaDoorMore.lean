/- The greatest worth: whatever the order of buyers and offers; with more offers, more goods it is no less. No program is named. -/
import Derived.Test.YtffpiaipdeebcaaDoorBestS
namespace Go.Proofs.YtffpiaipdeebcaaDoor
open Go.RowKit

section
variable {rest : Nat → Int} {f : Nat}
theorem foldW_ge : ∀ (l : List Offer) (b : Int), b ≤ l.foldl (stepW rest f) b
  | [], b => Int.le_refl _
  | o :: l, b => by
    have h1 := foldW_ge l (stepW rest f b o)
    have h2 : b ≤ stepW rest f b o := by unfold stepW; split <;> omega
    exact Int.le_trans h2 h1
theorem foldW_hit : ∀ (l : List Offer) (b : Int) (o : Offer), o ∈ l → withinB o.1 f = true → o.2 + rest (lessG f o.1) ≤ l.foldl (stepW rest f) b
  | [], b, o, h, _ => by cases h
  | p :: l, b, o, h, hw => by
    rcases List.mem_cons.1 h with rfl | h
    · have h1 := foldW_ge (rest := rest) (f := f) l (stepW rest f b o)
      have h2 : o.2 + rest (lessG f o.1) ≤ stepW rest f b o := by unfold stepW; rw [if_pos hw]; omega
      exact Int.le_trans h2 h1
    · exact foldW_hit l _ o h hw
theorem foldW_cases : ∀ (l : List Offer) (b : Int), l.foldl (stepW rest f) b = b ∨ ∃ o ∈ l, withinB o.1 f = true ∧ l.foldl (stepW rest f) b = o.2 + rest (lessG f o.1)
  | [], b => .inl rfl
  | p :: l, b => by
    rcases foldW_cases l (stepW rest f b p) with h | ⟨o, ho, hw, h⟩
    · rw [List.foldl_cons, h]
      unfold stepW
      split
      · rename_i hp
        rcases Int.le_total b (p.2 + rest (lessG f p.1)) with h1 | h1
        · exact .inr ⟨p, List.mem_cons_self .., hp, by omega⟩
        · exact .inl (by omega)
      · exact .inl rfl
    · exact .inr ⟨o, List.mem_cons_of_mem _ ho, hw, h⟩
end
theorem bestW_rest (l : List Offer) (ls : List (List Offer)) (f : Nat) : bestW ls f ≤ bestW (l :: ls) f := foldW_ge _ _
theorem bestW_hit {l : List Offer} (ls : List (List Offer)) {f : Nat} {o : Offer} (h : o ∈ l) (hw : withinB o.1 f = true) : o.2 + bestW ls (lessG f o.1) ≤ bestW (l :: ls) f := foldW_hit _ _ o h hw
theorem bestW_cases (l : List Offer) (ls : List (List Offer)) (f : Nat) : bestW (l :: ls) f = bestW ls f ∨ ∃ o ∈ l, withinB o.1 f = true ∧ bestW (l :: ls) f = o.2 + bestW ls (lessG f o.1) := foldW_cases _ _
theorem bestW_le {l : List Offer} {ls : List (List Offer)} {f : Nat} {M : Int} (h0 : bestW ls f ≤ M) (h1 : ∀ o ∈ l, withinB o.1 f = true → o.2 + bestW ls (lessG f o.1) ≤ M) : bestW (l :: ls) f ≤ M := by
  rcases bestW_cases l ls f with h | ⟨o, ho, hw, h⟩
  · omega
  · rw [h]; exact h1 o ho hw

/-- Goods that are numbers of 32 bits. -/
def Narrow (ls : List (List Offer)) : Prop := ∀ l ∈ ls, ∀ o ∈ l, o.1 < 4294967296
theorem GoodB.narrow {ls : List (List Offer)} (h : GoodB ls) : Narrow ls := fun l hl o ho => (h l hl o ho).2.1
theorem Narrow.cons {l : List Offer} {ls : List (List Offer)} (h : Narrow (l :: ls)) : (∀ o ∈ l, o.1 < 4294967296) ∧ Narrow ls := ⟨h l (List.mem_cons_self ..), fun m hm => h m (List.mem_cons_of_mem _ hm)⟩
theorem Narrow.mk {l : List Offer} {ls : List (List Offer)} (h : ∀ o ∈ l, o.1 < 4294967296) (h' : Narrow ls) : Narrow (l :: ls) := fun m hm => by
  rcases List.mem_cons.1 hm with rfl | hm
  · exact h
  · exact h' m hm
theorem lessG_comm (f a b : Nat) : lessG (lessG f a) b = lessG (lessG f b) a := by
  unfold lessG
  rw [Nat.and_assoc, Nat.and_assoc, Nat.and_comm (4294967295 - a)]
theorem within_swap {f a b : Nat} (hf : f < 4294967296) (ha : a < 4294967296) (hb : b < 4294967296) (h1 : withinB a f = true) (h2 : withinB b (lessG f a) = true) : withinB b f = true ∧ withinB a (lessG f b) = true := by
  rw [withinB_iff _ _ ha hf] at h1
  rw [withinB_iff _ _ hb (lessG_lt _ _ hf)] at h2
  rw [withinB_iff _ _ hb hf, withinB_iff _ _ ha (lessG_lt _ _ hf)]
  refine ⟨fun i hi => ?_, fun i hi => ?_⟩
  · have := h2 i hi
    rw [lessG_bit _ _ _ hf ha] at this
    simp at this
    exact this.1
  · rw [lessG_bit _ _ _ hf hb, h1 i hi]
    cases hb' : b.testBit i
    · rfl
    · have := h2 i hb'
      rw [lessG_bit _ _ _ hf ha, hi] at this
      simp at this
/-- With more goods it is no less. -/
theorem bestW_free : ∀ (ls : List (List Offer)), Narrow ls → ∀ (f g : Nat), f < 4294967296 → g < 4294967296 → (∀ i, f.testBit i = true → g.testBit i = true) → bestW ls f ≤ bestW ls g
  | [], _, _, _, _, _, _ => Int.le_refl _
  | l :: ls, hn, f, g, hf, hg, h => by
    obtain ⟨hl, hn⟩ := hn.cons
    refine bestW_le (Int.le_trans (bestW_free ls hn f g hf hg h) (bestW_rest ..)) fun o ho hw => ?_
    have hwg : withinB o.1 g = true := by
      rw [withinB_iff _ _ (hl o ho) hg]
      rw [withinB_iff _ _ (hl o ho) hf] at hw
      exact fun i hi => h i (hw i hi)
    refine Int.le_trans ?_ (bestW_hit ls ho hwg)
    have := bestW_free ls hn (lessG f o.1) (lessG g o.1) (lessG_lt _ _ hf) (lessG_lt _ _ hg) (fun i hi => by
      rw [lessG_bit _ _ _ hf (hl o ho)] at hi
      rw [lessG_bit _ _ _ hg (hl o ho)]
      simp only [Bool.and_eq_true, Bool.not_eq_true'] at hi ⊢
      exact ⟨h i hi.1, hi.2⟩)
    omega
theorem bestW_swap_le (a b : List Offer) (ls : List (List Offer)) (ha : ∀ o ∈ a, o.1 < 4294967296) (hb : ∀ o ∈ b, o.1 < 4294967296) (f : Nat) (hf : f < 4294967296) : bestW (a :: b :: ls) f ≤ bestW (b :: a :: ls) f := by
  refine bestW_le (bestW_le (Int.le_trans (bestW_rest a ls f) (bestW_rest ..)) fun p hp hw => ?_) fun o ho hw => ?_
  · have h1 := bestW_rest a ls (lessG f p.1)
    have h2 := bestW_hit (a :: ls) hp hw
    omega
  · rcases bestW_cases b ls (lessG f o.1) with h | ⟨p, hp, hwp, h⟩
    · rw [h]
      exact Int.le_trans (bestW_hit ls ho hw) (bestW_rest ..)
    · rw [h]
      obtain ⟨h1, h2⟩ := within_swap hf (ha o ho) (hb p hp) hw hwp
      have h3 := bestW_hit (a :: ls) hp h1
      have h4 := bestW_hit ls ho h2
      rw [lessG_comm]
      omega
theorem bestW_perm {ls ls' : List (List Offer)} (h : ls.Perm ls') : Narrow ls → ∀ f, f < 4294967296 → bestW ls f = bestW ls' f := by
  induction h with
  | nil => intros; rfl
  | cons l _ ih =>
    intro hn f hf
    obtain ⟨hl, hn⟩ := hn.cons
    have key : ∀ {m m' : List (List Offer)}, (∀ f, f < 4294967296 → bestW m f = bestW m' f) → bestW (l :: m) f ≤ bestW (l :: m') f := fun {m m'} hm =>
      bestW_le (by rw [hm f hf]; exact bestW_rest ..) fun o ho hw => by rw [hm _ (lessG_lt _ _ hf)]; exact bestW_hit _ ho hw
    have ih := ih hn
    have h1 := key ih
    have h2 := key (fun f hf => (ih f hf).symm)
    omega
  | swap a b ls =>
    intro hn f hf
    obtain ⟨hb, hn⟩ := hn.cons
    obtain ⟨ha, hn⟩ := hn.cons
    have h1 := bestW_swap_le a b ls ha hb f hf
    have h2 := bestW_swap_le b a ls hb ha f hf
    omega
  | trans h1 _ ih1 ih2 =>
    intro hn f hf
    rw [ih1 hn f hf]
    exact ih2 (fun l hl => hn l (h1.mem_iff.2 hl)) f hf
/-- Buyer by buyer more offers. -/
def MoreB : List (List Offer) → List (List Offer) → Prop
  | [], [] => True
  | l :: ls, m :: ms => (∀ o ∈ l, o ∈ m) ∧ MoreB ls ms
  | _, _ => False
theorem bestW_more : ∀ (ls ms : List (List Offer)), MoreB ls ms → ∀ f, bestW ls f ≤ bestW ms f
  | [], [], _, _ => Int.le_refl _
  | [], _ :: _, h, _ => h.elim
  | _ :: _, [], h, _ => h.elim
  | l :: ls, m :: ms, h, f => by
    refine bestW_le (Int.le_trans (bestW_more ls ms h.2 f) (bestW_rest ..)) fun o ho hw => ?_
    have h1 := bestW_more ls ms h.2 (lessG f o.1)
    have h2 := bestW_hit ms (h.1 o ho) hw
    omega
theorem MoreB.refl : ∀ ls : List (List Offer), MoreB ls ls
  | [] => trivial
  | _ :: ls => ⟨fun _ h => h, MoreB.refl ls⟩
theorem MoreB.set_nil : ∀ (ls : List (List Offer)) (k : Nat), MoreB (ls.set k []) ls
  | [], _ => trivial
  | _ :: ls, 0 => ⟨(fun _ h => by cases h), MoreB.refl ls⟩
  | _ :: ls, k + 1 => ⟨fun _ h => h, MoreB.set_nil ls k⟩
theorem MoreB.modify (o : Offer) : ∀ (ls : List (List Offer)) (k : Nat), MoreB ls (ls.modify k (· ++ [o]))
  | [], k => by cases k <;> exact trivial
  | l :: ls, 0 => by simp only [List.modify_zero_cons]; exact ⟨fun _ h => List.mem_append_left _ h, MoreB.refl ls⟩
  | l :: ls, k + 1 => by simp only [List.modify_succ_cons]; exact ⟨fun _ h => h, MoreB.modify o ls k⟩
theorem bestW_rows_rev : ∀ (ls : List (List Offer)) (f : Nat), bestW (ls.map List.reverse) f = bestW ls f
  | [], _ => rfl
  | l :: ls, f => by
    have ih := bestW_rows_rev ls
    have h1 : bestW (l.reverse :: ls.map List.reverse) f ≤ bestW (l :: ls) f := bestW_le (by rw [ih]; exact bestW_rest ..) fun o ho hw => by rw [ih]; exact bestW_hit _ (List.mem_reverse.1 ho) hw
    have h2 : bestW (l :: ls) f ≤ bestW (l.reverse :: ls.map List.reverse) f := bestW_le (by rw [← ih]; exact bestW_rest ..) fun o ho hw => by rw [← ih]; exact bestW_hit _ (List.mem_reverse.2 ho) hw
    rw [List.map_cons]
    omega
theorem bestW_turned {ls : List (List Offer)} (hn : Narrow ls) {f : Nat} (hf : f < 4294967296) : bestW ((ls.map List.reverse).reverse) f = bestW ls f := by
  rw [bestW_perm (List.reverse_perm _) (fun l hl => ?_) f hf, bestW_rows_rev]
  rw [List.mem_reverse] at hl
  obtain ⟨m, hm, rfl⟩ := List.mem_map.1 hl
  exact fun o ho => hn m hm o (List.mem_reverse.1 ho)
/-- Without a buyer it is less by that one's greatest coins at most. -/
theorem bestW_without : ∀ (ls : List (List Offer)) (k : Nat), Narrow ls → ∀ (M : Int), 0 ≤ M → (∀ o ∈ (ls[k]?).getD [], o.2 ≤ M) → ∀ f, f < 4294967296 → bestW ls f ≤ bestW (ls.set k []) f + M
  | [], _, _, M, h0, _, f, _ => by simp [bestW]; omega
  | l :: ls, 0, hn, M, h0, hM, f, hf => by
    obtain ⟨hl, hn⟩ := hn.cons
    have e : bestW ((l :: ls).set 0 []) f = bestW ls f := rfl
    rw [e]
    refine bestW_le (by omega) fun o ho hw => ?_
    have h1 := hM o (by simpa using ho)
    have h2 := bestW_free ls hn (lessG f o.1) f (lessG_lt _ _ hf) hf (fun i hi => by
      rw [lessG_bit _ _ _ hf (hl o ho)] at hi
      simp at hi
      exact hi.1)
    omega
  | l :: ls, k + 1, hn, M, h0, hM, f, hf => by
    obtain ⟨hl, hn⟩ := hn.cons
    have ih := bestW_without ls k hn M h0 (by simpa using hM)
    rw [List.set_cons_succ]
    refine bestW_le ?_ fun o ho hw => ?_
    · have h1 := ih f hf
      have h2 := bestW_rest l (ls.set k []) f
      omega
    · have h1 := ih (lessG f o.1) (lessG_lt _ _ hf)
      have h2 := bestW_hit (ls.set k []) ho hw
      omega
theorem bestW_drop : ∀ (ls : List (List Offer)) (k f : Nat), bestW (ls.drop k) f ≤ bestW ls f
  | [], k, f => by simp
  | l :: ls, 0, f => Int.le_refl _
  | l :: ls, k + 1, f => Int.le_trans (bestW_drop ls k f) (bestW_rest ..)

/-! ### Which instances may be -/
theorem idxTo_neg {α : Type} {p : α → Bool} {l : List α} : ¬ 0 ≤ idxTo p l ↔ ∀ x ∈ l, p x = false := by
  have := idxTo_any (p := p) (l := l)
  by_cases h : 0 ≤ idxTo p l
  · rw [decide_eq_true h] at this
    simp only [h, not_true, false_iff]
    intro h2
    obtain ⟨x, hx, hp⟩ := List.any_eq_true.1 this.symm
    rw [h2 x hx] at hp
    cases hp
  · rw [decide_eq_false h] at this
    simp only [h, not_false_iff, true_iff]
    intro x hx
    have := List.any_eq_false.1 this.symm x hx
    simpa using this
theorem checkO_ok {n : Int} {l : List Offer} : (checkO n l).2 = 0 ↔ ¬ (n < 1 ∨ 10 < n) ∧ l.length ≤ 8 ∧ ∀ o ∈ l, badO (allG n.toNat) o = false := by
  unfold checkO
  by_cases h1 : n < 1 ∨ 10 < n
  · rw [if_pos h1]; simp [h1]
  · rw [if_neg h1]
    by_cases h2 : 8 < l.length
    · rw [if_pos h2]
      simp
      omega
    · rw [if_neg h2]
      by_cases h3 : 0 ≤ idxTo (badO (allG n.toNat)) l
      · rw [if_pos h3]
        simp only [Int.reduceEq, false_iff]
        intro h4
        exact (idxTo_neg.2 h4.2.2) h3
      · rw [if_neg h3]
        simp only [true_iff]
        exact ⟨h1, by omega, idxTo_neg.1 h3⟩
theorem instTo_ok {n : Int} : ∀ {ls : List (List Offer)}, instTo n ls = 0 ↔ ∀ l ∈ ls, (checkO n l).2 = 0
  | [] => by simp [instTo]
  | l :: ls => by
    rw [instTo]
    by_cases h : (checkO n l).2 = 0
    · rw [if_neg (by simpa using h), instTo_ok]
      simp [h]
    · rw [if_pos h]
      simp [h]
theorem instE_ok {n : Int} {ls : List (List Offer)} : instE n ls = 0 ↔ ¬ (n < 1 ∨ 10 < n) ∧ ls.length ≤ 32 ∧ ∀ l ∈ ls, l.length ≤ 8 ∧ ∀ o ∈ l, badO (allG n.toNat) o = false := by
  unfold instE
  by_cases h1 : n < 1 ∨ 10 < n
  · rw [if_pos h1]; simp [h1]
  · rw [if_neg h1]
    by_cases h2 : 32 < ls.length ∨ ls.any longB = true
    · rw [if_pos h2]
      simp only [Int.reduceEq, false_iff]
      rintro ⟨_, h3, h4⟩
      rcases h2 with h2 | h2
      · omega
      · obtain ⟨l, hl, hp⟩ := List.any_eq_true.1 h2
        have := (h4 l hl).1
        simp [longB] at hp
        omega
    · rw [if_neg h2, instTo_ok]
      constructor
      · intro h
        refine ⟨h1, by omega, fun l hl => ?_⟩
        have := checkO_ok.1 (h l hl)
        exact this.2
      · rintro ⟨_, _, h⟩ l hl
        exact checkO_ok.2 ⟨h1, (h l hl).1, (h l hl).2⟩
theorem instE_set {n : Int} {ls : List (List Offer)} (h : instE n ls = 0) (k : Nat) : instE n (ls.set k []) = 0 := by
  rw [instE_ok] at h ⊢
  refine ⟨h.1, by simpa using h.2.1, fun l hl => ?_⟩
  rcases List.mem_or_eq_of_mem_set hl with h1 | h1
  · exact h.2.2 l h1
  · subst h1; exact ⟨by simp, fun o ho => by cases ho⟩
theorem instE_turned {n : Int} {ls : List (List Offer)} (h : instE n ls = 0) : instE n ((ls.map List.reverse).reverse) = 0 := by
  rw [instE_ok] at h ⊢
  refine ⟨h.1, by simpa using h.2.1, fun l hl => ?_⟩
  rw [List.mem_reverse] at hl
  obtain ⟨m, hm, rfl⟩ := List.mem_map.1 hl
  exact ⟨by simpa using (h.2.2 m hm).1, fun o ho => (h.2.2 m hm).2 o (List.mem_reverse.1 ho)⟩
end Go.Proofs.YtffpiaipdeebcaaDoor
