/- What a sealed sale is, said of the bids alone; what follows from it. No program in sight. -/
import Derived.Test.YtnidmoljhopcoaaSellAll
namespace Go.Proofs.Ytnidmoljhopcoaa

def BestP (floor but : Int) (l : List (Int × Int)) (k : Nat) (at_ : Int) : Prop :=
  (at_ = -1 ∧ ∀ j : Nat, j < k → (j : Int) ≠ but → coinsAt l j < floor) ∨
  ∃ i : Nat, at_ = i ∧ i < k ∧ (i : Int) ≠ but ∧ floor ≤ coinsAt l i ∧ (∀ j : Nat, j < i → (j : Int) ≠ but → coinsAt l j < coinsAt l i) ∧ ∀ j : Nat, j < k → (j : Int) ≠ but → coinsAt l j ≤ coinsAt l i
theorem bestTo_p (floor but : Int) (l : List (Int × Int)) : ∀ k, BestP floor but l k (bestTo floor but l k)
  | 0 => .inl ⟨rfl, fun j hj => absurd hj (by omega)⟩
  | k + 1 => by
    have ih := bestTo_p floor but l k
    simp only [bestTo, bstep]
    generalize bestTo floor but l k = t at ih ⊢
    by_cases h : (k : Int) ≠ but ∧ floor ≤ coinsAt l k ∧ (t < 0 ∨ coinsAt l t.toNat < coinsAt l k)
    · rw [if_pos h]
      obtain ⟨h1, h2, h3⟩ := h
      refine .inr ⟨k, rfl, by omega, h1, h2, fun j hj hjb => ?_, fun j hj hjb => ?_⟩
      · rcases ih with ⟨_, ih⟩ | ⟨i, rfl, hi, _, _, _, ih⟩
        · have := ih j hj hjb; omega
        · have := ih j hj hjb
          simp only [Int.toNat_natCast] at h3
          omega
      · rcases Nat.lt_or_ge j k with hlt | hge
        · rcases ih with ⟨_, ih⟩ | ⟨i, rfl, hi, _, _, _, ih⟩
          · have := ih j hlt hjb; omega
          · have := ih j hlt hjb
            simp only [Int.toNat_natCast] at h3
            omega
        · obtain rfl : j = k := by omega
          exact Int.le_refl _
    · rw [if_neg h]
      rcases ih with ⟨rfl, ih⟩ | ⟨i, rfl, hi, hib, hf, hs, ih⟩
      · refine .inl ⟨rfl, fun j hj hjb => ?_⟩
        rcases Nat.lt_or_ge j k with hlt | hge
        · exact ih j hlt hjb
        · obtain rfl : j = k := by omega
          rcases Int.lt_or_le (coinsAt l j) floor with h' | h'
          · exact h'
          · exact absurd ⟨hjb, h', .inl (by omega)⟩ h
      · refine .inr ⟨i, rfl, by omega, hib, hf, hs, fun j hj hjb => ?_⟩
        rcases Nat.lt_or_ge j k with hlt | hge
        · exact ih j hlt hjb
        · obtain rfl : j = k := by omega
          rcases Int.lt_or_le (coinsAt l i) (coinsAt l j) with h' | h'
          · exact absurd ⟨hjb, by omega, .inr (by simpa using h')⟩ h
          · exact h'

/-- What comes of bids: nothing, or the highest bid wins, and pays what the highest one else bid, or the floor. -/
def SaleP (floor : Int) (l : List (Int × Int)) (s : SoldT) : Prop :=
  (s = noSold ∧ ∀ y ∈ l, y.2 < floor) ∨
  ∃ l1 x l2 p, l = l1 ++ x :: l2 ∧ s = (true, x.1, x.2, p) ∧ floor ≤ x.2 ∧ (∀ y ∈ l1 ++ l2, y.2 ≤ x.2) ∧ floor ≤ p ∧ p ≤ x.2 ∧ (∀ y ∈ l1 ++ l2, y.2 ≤ p) ∧ (p = floor ∨ ∃ y ∈ l1 ++ l2, y.2 = p)

theorem coinsAt_eq {l : List (Int × Int)} {k : Nat} (h : k < l.length) : coinsAt l k = l[k].2 := by
  unfold coinsAt
  rw [List.getElem?_eq_getElem h]
  rfl
theorem split_at (l : List (Int × Int)) (i : Nat) (h : i < l.length) : l = l.take i ++ l[i] :: l.drop (i + 1) := by
  conv => lhs; rw [← List.take_append_drop i l]
  rw [List.drop_eq_getElem_cons h]
theorem mem_but (l : List (Int × Int)) (i : Nat) (h : i < l.length) (y : Int × Int) : y ∈ l.take i ++ l.drop (i + 1) ↔ ∃ j, ∃ hj : j < l.length, j ≠ i ∧ l[j] = y := by
  rw [List.mem_append]
  constructor
  · rintro (h1 | h1)
    · obtain ⟨j, hj, rfl⟩ := List.getElem_of_mem h1
      simp at hj
      exact ⟨j, by omega, by omega, by simp⟩
    · obtain ⟨j, hj, rfl⟩ := List.getElem_of_mem h1
      simp at hj
      exact ⟨i + 1 + j, by omega, by omega, by simp⟩
  · rintro ⟨j, hj, hne, rfl⟩
    rcases Nat.lt_or_gt_of_ne hne with h1 | h1
    · left
      have : (l.take i)[j]? = some l[j] := by rw [List.getElem?_take_of_lt h1, List.getElem?_eq_getElem hj]
      exact List.mem_of_getElem? this
    · right
      have : (l.drop (i + 1))[j - (i + 1)]? = some l[j] := by rw [List.getElem?_drop, show i + 1 + (j - (i + 1)) = j from by omega, List.getElem?_eq_getElem hj]
      exact List.mem_of_getElem? this

theorem come_sale (floor : Int) (l : List (Int × Int)) : SaleP floor l (comeI floor l) := by
  unfold comeI
  have h1 : BestP floor (-1) l l.length (bestI floor l (-1)) := bestTo_p floor (-1) l l.length
  rcases h1 with ⟨h, hn⟩ | ⟨i, h, hi, _, hf, _, hm⟩
  · rw [h, if_pos (by omega)]
    refine .inl ⟨rfl, fun y hy => ?_⟩
    obtain ⟨j, hj, rfl⟩ := List.getElem_of_mem hy
    have := hn j hj (by omega)
    rwa [coinsAt_eq hj] at this
  · rw [h, if_neg (by omega)]
    simp only [Int.toNat_natCast]
    rw [List.getElem?_eq_getElem hi, coinsAt_eq hi]
    rw [coinsAt_eq hi] at hf hm
    have h2 : BestP floor i l l.length (bestI floor l i) := bestTo_p floor i l l.length
    refine .inr ⟨l.take i, l[i], l.drop (i + 1), priceI floor l i, split_at l i hi, rfl, hf, fun y hy => ?_, ?_⟩
    · obtain ⟨j, hj, hne, rfl⟩ := (mem_but l i hi y).1 hy
      have := hm j hj (by omega)
      rwa [coinsAt_eq hj] at this
    · unfold priceI
      rcases h2 with ⟨h', hn⟩ | ⟨j, h', hj, hne, hf', _, hm'⟩
      · rw [h', if_neg (by omega)]
        refine ⟨Int.le_refl _, hf, fun y hy => ?_, .inl rfl⟩
        obtain ⟨j, hj, hne, rfl⟩ := (mem_but l i hi y).1 hy
        have := hn j hj (by omega)
        rw [coinsAt_eq hj] at this
        omega
      · rw [h', if_pos (by omega)]
        simp only [Int.toNat_natCast]
        rw [coinsAt_eq hj] at hf' hm' ⊢
        refine ⟨hf', ?_, fun y hy => ?_, .inr ⟨l[j], (mem_but l i hi _).2 ⟨j, hj, by omega, rfl⟩, rfl⟩⟩
        · have := hm j hj (by omega)
          rwa [coinsAt_eq hj] at this
        · obtain ⟨j', hj', hne', rfl⟩ := (mem_but l i hi y).1 hy
          have := hm' j' hj' (by omega)
          rwa [coinsAt_eq hj'] at this

/-! ### Bids that may be -/
def MayBe (floor : Int) (l : List (Int × Int)) : Prop := coinsB floor = true ∧ l.any badB = false ∧ (l.map (·.1)).Nodup
theorem sell_may {floor : Int} {l : List (Int × Int)} (h : MayBe floor l) : sellI floor l = (comeI floor l, 0) := by
  obtain ⟨h1, h2, h3⟩ := h
  unfold sellI
  rw [if_neg (by rw [h1, h2]; simp), if_neg (by simp [dupB, h3])]
theorem sell_cases (floor : Int) (l : List (Int × Int)) : ((sellI floor l).2 ≠ 0 ∧ (sellI floor l).1 = noSold) ∨ (MayBe floor l ∧ sellI floor l = (comeI floor l, 0)) := by
  by_cases h : MayBe floor l
  · exact .inr ⟨h, sell_may h⟩
  · left
    unfold sellI
    by_cases h1 : coinsB floor = false ∨ l.any badB = true
    · rw [if_pos h1]
      exact ⟨by simp, rfl⟩
    · rw [if_neg h1]
      by_cases h2 : dupB l = true
      · rw [if_pos h2]
        exact ⟨by simp, rfl⟩
      · exfalso
        apply h
        simp only [not_or, Bool.not_eq_false, Bool.not_eq_true] at h1
        refine ⟨h1.1, h1.2, ?_⟩
        simpa [dupB] using h2

theorem sell_price {floor : Int} {l : List (Int × Int)} {s : SoldT} (h : SaleP floor l s) :
    (s.1 = true → floor ≤ s.2.2.2 ∧ s.2.2.2 ≤ s.2.2.1) ∧ (s.1 = false → s = noSold) := by
  rcases h with ⟨rfl, _⟩ | ⟨l1, x, l2, p, _, rfl, _, _, h1, h2, _⟩
  · exact ⟨fun h => (by cases h), fun _ => rfl⟩
  · exact ⟨fun _ => ⟨h1, h2⟩, fun h => by cases h⟩
theorem sale_nil {floor : Int} {s : SoldT} (h : SaleP floor [] s) : s = noSold := by
  rcases h with ⟨rfl, _⟩ | ⟨l1, x, l2, p, h, _⟩
  · rfl
  · simp at h

theorem nodup_rev {α : Type} : ∀ {l : List α}, l.Nodup → l.reverse.Nodup
  | [], _ => by simp
  | a :: l, h => by
    rw [List.nodup_cons] at h
    rw [List.reverse_cons, List.nodup_append]
    refine ⟨nodup_rev h.2, by simp, fun x hx y hy => ?_⟩
    simp at hx hy
    subst hy
    intro e
    subst e
    exact h.1 hx
theorem nodup_mid {a b : List (Int × Int)} {x y : Int × Int} (h : ((a ++ x :: b).map (·.1)).Nodup) (hy : y ∈ a ++ b) : y.1 ≠ x.1 := by
  simp only [List.map_append, List.map_cons, List.nodup_append, List.nodup_cons] at h
  obtain ⟨_, ⟨h1, _⟩, h2⟩ := h
  rcases List.mem_append.1 hy with h3 | h3
  · exact h2 _ (List.mem_map_of_mem h3) _ (List.mem_cons_self ..)
  · intro e
    exact h1 (e ▸ List.mem_map_of_mem h3)
theorem split_uniq : ∀ {a b a' b' : List (Int × Int)} {x x' : Int × Int}, a ++ x :: b = a' ++ x' :: b' → ((a ++ x :: b).map (·.1)).Nodup → x.1 = x'.1 → a = a' ∧ x = x' ∧ b = b'
  | [], b, [], b', x, x', h, _, _ => by simp at h; exact ⟨rfl, h.1, h.2⟩
  | [], b, y :: a', b', x, x', h, hn, hx => by
    simp only [List.cons_append, List.nil_append, List.cons.injEq] at h
    obtain ⟨rfl, rfl⟩ := h
    exact absurd hx (nodup_mid (a := x :: a') (b := b') (by simpa using hn) (List.mem_cons_self ..))
  | y :: a, b, [], b', x, x', h, hn, hx => by
    simp only [List.cons_append, List.nil_append, List.cons.injEq] at h
    obtain ⟨rfl, rfl⟩ := h
    exact absurd hx (nodup_mid (a := y :: a) (b := b) (by simpa using hn) (List.mem_cons_self ..)).symm
  | y :: a, b, y' :: a', b', x, x', h, hn, hx => by
    simp only [List.cons_append, List.cons.injEq] at h
    obtain ⟨rfl, h⟩ := h
    have hn' : ((a ++ x :: b).map (·.1)).Nodup := by
      simp only [List.cons_append, List.map_cons, List.nodup_cons] at hn
      exact hn.2
    obtain ⟨rfl, rfl, rfl⟩ := split_uniq h hn' hx
    exact ⟨rfl, rfl, rfl⟩

theorem mem_mid {a b : List (Int × Int)} {x y : Int × Int} : y ∈ a ++ x :: b ↔ y = x ∨ y ∈ a ++ b := by
  simp only [List.mem_append, List.mem_cons]
  constructor
  · rintro (h | h | h)
    · exact .inr (.inl h)
    · exact .inl h
    · exact .inr (.inr h)
  · rintro (h | h | h)
    · exact .inr (.inl h)
    · exact .inl h
    · exact .inr (.inr h)

theorem truth_other {floor me worth other : Int} {a b : List (Int × Int)} {s t : SoldT} (hn : ((a ++ (me, worth) :: b).map (·.1)).Nodup)
    (hs : SaleP floor (a ++ (me, worth) :: b) s) (ht : SaleP floor (a ++ (me, other) :: b) t) :
    (s.1 = true → s.2.1 = me → s.2.2.2 ≤ worth ∧ (t.1 = true → t.2.1 = me → s.2.2.2 = t.2.2.2)) ∧
    (¬ (s.1 = true ∧ s.2.1 = me) → t.1 = true → t.2.1 = me → worth ≤ t.2.2.2) := by
  have hn' : ((a ++ (me, other) :: b).map (·.1)).Nodup := by simpa using hn
  constructor
  · intro h1 h2
    rcases hs with ⟨rfl, _⟩ | ⟨l1, x, l2, p, hl, rfl, _, _, hp1, hp2, hp3, hp4⟩
    · cases h1
    · obtain ⟨rfl, rfl, rfl⟩ := split_uniq hl hn h2.symm
      refine ⟨hp2, fun h3 h4 => ?_⟩
      rcases ht with ⟨rfl, _⟩ | ⟨m1, y, m2, q, hm, rfl, _, _, hq1, hq2, hq3, hq4⟩
      · cases h3
      · obtain ⟨rfl, rfl, rfl⟩ := split_uniq hm hn' h4.symm
        simp only
        have A : p ≤ q := by
          rcases hp4 with rfl | ⟨z, hz, rfl⟩
          · exact hq1
          · exact hq3 z hz
        have B : q ≤ p := by
          rcases hq4 with rfl | ⟨z, hz, rfl⟩
          · exact hp1
          · exact hp3 z hz
        omega
  · intro h1 h3 h4
    rcases ht with ⟨rfl, _⟩ | ⟨m1, y, m2, q, hm, rfl, _, _, hq1, hq2, hq3, hq4⟩
    · cases h3
    · obtain ⟨rfl, rfl, rfl⟩ := split_uniq hm hn' h4.symm
      simp only
      rcases Int.lt_or_le q worth with hlt | hge
      · exfalso
        rcases hs with ⟨rfl, hno⟩ | ⟨l1, x, l2, p, hl, rfl, _, hx, hp1, hp2, hp3, hp4⟩
        · have := hno (me, worth) (mem_mid.2 (.inl rfl))
          simp only at this
          omega
        · have hxm : x ∈ a ++ (me, worth) :: b := by rw [hl]; exact mem_mid.2 (.inl rfl)
          have hmx : (me, worth) ∈ l1 ++ x :: l2 := by rw [← hl]; exact mem_mid.2 (.inl rfl)
          have hne : x ≠ (me, worth) := fun e => h1 ⟨rfl, by simp only [e]⟩
          have h5 := hq3 x ((mem_mid.1 hxm).resolve_left hne)
          have h6 := hx _ ((mem_mid.1 hmx).resolve_left (Ne.symm hne))
          simp only at h6
          omega
      · exact hge

theorem truth_less {floor : Int} {a b : List (Int × Int)} {x : Int × Int} {s u : SoldT} (hn : ((a ++ x :: b).map (·.1)).Nodup)
    (hs : SaleP floor (a ++ x :: b) s) (hu : SaleP floor (a ++ b) u) : u.1 = true → s.1 = true ∧ u.2.2.2 ≤ s.2.2.2 := by
  intro h1
  rcases hu with ⟨rfl, _⟩ | ⟨u1, y, u2, q, hm, rfl, hf, hy, hq1, hq2, hq3, hq4⟩
  · cases h1
  · have hyl : y ∈ a ++ x :: b := mem_mid.2 (.inr (by rw [hm]; exact mem_mid.2 (.inl rfl)))
    rcases hs with ⟨rfl, hno⟩ | ⟨l1, z, l2, p, hl, rfl, _, hz, hp1, hp2, hp3, hp4⟩
    · have := hno y hyl
      omega
    · refine ⟨rfl, ?_⟩
      simp only
      rcases hq4 with rfl | ⟨v, hv, rfl⟩
      · exact hp1
      · have hn2 : ((a ++ b).map (·.1)).Nodup := by
          exact hn.sublist (List.Sublist.map _ ((List.Sublist.refl a).append (List.sublist_cons_self x b)))
        rw [hm] at hn2
        have hvy := nodup_mid hn2 hv
        have hvl : v ∈ a ++ x :: b := mem_mid.2 (.inr (by rw [hm]; exact mem_mid.2 (.inr hv)))
        rw [hl] at hyl hvl
        rcases mem_mid.1 hyl with rfl | h2
        · exact hp3 v ((mem_mid.1 hvl).resolve_left (fun e => hvy (by rw [e])))
        · have := hp3 y h2
          omega

theorem truth_turned {floor : Int} {l : List (Int × Int)} {s t : SoldT} (hn : (l.map (·.1)).Nodup) (hc : (l.reverse.map (·.2)).Nodup)
    (hs : SaleP floor l s) (ht : SaleP floor l.reverse t) : t = s := by
  rcases hs with ⟨rfl, hno⟩ | ⟨l1, x, l2, p, rfl, rfl, hf, hx, hp1, hp2, hp3, hp4⟩
  · rcases ht with ⟨rfl, _⟩ | ⟨m1, y, m2, q, hm, rfl, hf, _⟩
    · rfl
    · have : y ∈ l := by
        have : y ∈ l.reverse := by rw [hm]; exact mem_mid.2 (.inl rfl)
        simpa using this
      have := hno y this
      omega
  · rcases ht with ⟨rfl, hno⟩ | ⟨m1, y, m2, q, hm, rfl, hf', hy, hq1, hq2, hq3, hq4⟩
    · have := hno x (by rw [List.mem_reverse]; exact mem_mid.2 (.inl rfl))
      omega
    · have hyl : y ∈ l1 ++ x :: l2 := by
        have : y ∈ (l1 ++ x :: l2).reverse := by rw [hm]; exact mem_mid.2 (.inl rfl)
        exact List.mem_reverse.1 this
      have hxl : x ∈ m1 ++ y :: m2 := by rw [← hm, List.mem_reverse]; exact mem_mid.2 (.inl rfl)
      rw [hm] at hc
      have hnr : ((m1 ++ y :: m2).map (·.1)).Nodup := by rw [← hm, List.map_reverse]; exact nodup_rev hn
      have hxy : x = y := by
        rcases mem_mid.1 hxl with e | h1
        · exact e
        · exfalso
          have h2 := hy x h1
          rcases mem_mid.1 hyl with e | h3
          · subst e
            exact nodup_mid hnr h1 rfl
          · have h4 := hx y h3
            have he : x.2 = y.2 := by omega
            simp only [List.map_append, List.map_cons, List.nodup_append, List.nodup_cons] at hc
            obtain ⟨_, ⟨c1, _⟩, c2⟩ := hc
            rcases List.mem_append.1 h1 with h5 | h5
            · exact c2 _ (List.mem_map_of_mem h5) _ (List.mem_cons_self ..) he
            · exact c1 (he ▸ List.mem_map_of_mem h5)
      subst hxy
      have key : ∀ z, z ∈ l1 ++ l2 ↔ z ∈ m1 ++ m2 := by
        intro z
        constructor
        · intro hz
          have h1 : z ∈ m1 ++ x :: m2 := by rw [← hm, List.mem_reverse]; exact mem_mid.2 (.inr hz)
          exact (mem_mid.1 h1).resolve_left (fun e => nodup_mid hn hz (by rw [e]))
        · intro hz
          have h1 : z ∈ l1 ++ x :: l2 := by
            have : z ∈ (l1 ++ x :: l2).reverse := by rw [hm]; exact mem_mid.2 (.inr hz)
            exact List.mem_reverse.1 this
          exact (mem_mid.1 h1).resolve_left (fun e => nodup_mid hnr hz (by rw [e]))
      have A : p ≤ q := by
        rcases hp4 with rfl | ⟨z, hz, rfl⟩
        · exact hq1
        · exact hq3 z ((key z).1 hz)
      have B : q ≤ p := by
        rcases hq4 with rfl | ⟨z, hz, rfl⟩
        · exact hp1
        · exact hp3 z ((key z).2 hz)
      have : p = q := by omega
      rw [this]

theorem may_less {floor : Int} {a b : List (Int × Int)} {x : Int × Int} (h : MayBe floor (a ++ x :: b)) : MayBe floor (a ++ b) := by
  obtain ⟨h1, h2, h3⟩ := h
  refine ⟨h1, ?_, ?_⟩
  · rw [List.any_eq_false] at h2 ⊢
    exact fun y hy => h2 y (mem_mid.2 (.inr hy))
  · simp only [List.map_append, List.map_cons] at h3 ⊢
    rw [List.nodup_append] at h3 ⊢
    obtain ⟨h4, h5, h6⟩ := h3
    rw [List.nodup_cons] at h5
    exact ⟨h4, h5.2, fun a ha b hb => h6 a ha b (List.mem_cons_of_mem _ hb)⟩
theorem may_reverse {floor : Int} {l : List (Int × Int)} (h : MayBe floor l) : MayBe floor l.reverse := by
  obtain ⟨h1, h2, h3⟩ := h
  refine ⟨h1, ?_, ?_⟩
  · rw [List.any_eq_false] at h2 ⊢
    exact fun y hy => h2 y (by simpa using hy)
  · rw [List.map_reverse]
    exact nodup_rev h3
theorem sell_turned {floor : Int} {l : List (Int × Int)} (h : MayBe floor l) (hc : (l.reverse.map (·.2)).Nodup) : sellI floor l.reverse = (comeI floor l, 0) := by
  rw [sell_may (may_reverse h), truth_turned h.2.2 hc (come_sale floor l) (come_sale floor l.reverse)]
end Go.Proofs.Ytnidmoljhopcoaa
