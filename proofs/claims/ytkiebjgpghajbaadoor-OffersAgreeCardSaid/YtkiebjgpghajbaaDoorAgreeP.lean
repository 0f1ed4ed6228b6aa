/- The plain law of OffersAgree: the shortest form is worth the same, nothing in it can be left out, there is one alone. No program is named. -/
import Derived.Test.YtkiebjgpghajbaaDoorOffP
namespace Go.Proofs.YtkiebjgpghajbaaDoor

theorem within_refl {a : Nat} (ha : a < 4294967296) : withinB a a = true := (withinB_iff a a ha ha).2 fun _ h => h
theorem within_trans {a b c : Nat} (ha : a < 4294967296) (hb : b < 4294967296) (hc : c < 4294967296) (h1 : withinB a b = true) (h2 : withinB b c = true) : withinB a c = true :=
  (withinB_iff a c ha hc).2 fun i h => (withinB_iff b c hb hc).1 h2 i ((withinB_iff a b ha hb).1 h1 i h)
theorem within_anti {a b : Nat} (ha : a < 4294967296) (hb : b < 4294967296) (h1 : withinB a b = true) (h2 : withinB b a = true) : a = b :=
  Nat.eq_of_testBit_eq fun i => Bool.eq_iff_iff.2 ⟨(withinB_iff a b ha hb).1 h1 i, (withinB_iff b a hb ha).1 h2 i⟩
theorem within_num {a b : Nat} (ha : a < 4294967296) (hb : b < 4294967296) (h : withinB a b = true) : a ≤ b := by
  rw [withinB_and a b ha hb] at h
  exact within_le a b (by simpa using h)

theorem scan_says {p : Offer → Bool} : ∀ (l : List Offer) (i b a : Int), b ≤ (scanTo p l i b a).1 ∧ (∀ o ∈ l, p o = true → o.2 ≤ (scanTo p l i b a).1) ∧ ((scanTo p l i b a).1 = b ∨ ∃ o ∈ l, p o = true ∧ o.2 = (scanTo p l i b a).1) ∧
    ((scanTo p l i b a).2 = a ∨ (i ≤ (scanTo p l i b a).2 ∧ (scanTo p l i b a).2 < i + l.length))
  | [], i, b, a => ⟨Int.le_refl _, (fun o h => by cases h), .inl rfl, .inl rfl⟩
  | x :: l, i, b, a => by
    by_cases hx : b < x.2 ∧ p x = true
    · obtain ⟨h1, h2, h3, h4⟩ := scan_says l (i + 1) x.2 i (p := p)
      rw [show scanTo p (x :: l) i b a = scanTo p l (i + 1) x.2 i by rw [scanTo, if_pos hx]]
      refine ⟨by omega, fun o ho hp => ?_, .inr ?_, .inr ?_⟩
      · rcases List.mem_cons.1 ho with rfl | ho
        · exact h1
        · exact h2 o ho hp
      · rcases h3 with h3 | ⟨o, ho, hp, e⟩
        · exact ⟨x, List.mem_cons_self .., hx.2, h3.symm⟩
        · exact ⟨o, List.mem_cons_of_mem _ ho, hp, e⟩
      · simp only [List.length_cons]
        omega
    · obtain ⟨h1, h2, h3, h4⟩ := scan_says l (i + 1) b a (p := p)
      rw [show scanTo p (x :: l) i b a = scanTo p l (i + 1) b a by rw [scanTo, if_neg hx]]
      refine ⟨h1, fun o ho hp => ?_, ?_, ?_⟩
      · rcases List.mem_cons.1 ho with rfl | ho
        · have : ¬ (b < o.2) := fun h => hx ⟨h, hp⟩
          omega
        · exact h2 o ho hp
      · rcases h3 with h3 | ⟨o, ho, hp, e⟩
        · exact .inl h3
        · exact .inr ⟨o, List.mem_cons_of_mem _ ho, hp, e⟩
      · simp only [List.length_cons]
        omega
theorem worth_ge {g : Nat} {l : List Offer} {o : Offer} (h : o ∈ l) (hp : withinB o.1 g = true) : o.2 ≤ (worthL g l).1 := (scan_says l 0 0 (-1)).2.1 o h hp
theorem worth_zero (g : Nat) (l : List Offer) : 0 ≤ (worthL g l).1 := (scan_says l 0 0 (-1)).1
theorem worth_is (g : Nat) (l : List Offer) : (worthL g l).1 = 0 ∨ ∃ o ∈ l, withinB o.1 g = true ∧ o.2 = (worthL g l).1 := (scan_says l 0 0 (-1)).2.2.1
theorem worth_at (g : Nat) (l : List Offer) : (worthL g l).2 < (l.length : Int) := by
  have := (scan_says (p := fun o => withinB o.1 g) l 0 0 (-1)).2.2.2
  unfold worthL
  omega
theorem worth_mono {g h : Nat} {l : List Offer} (hw : OWide l) (hg : g < 4294967296) (hh : h < 4294967296) (hs : withinB g h = true) : (worthL g l).1 ≤ (worthL h l).1 := by
  rcases worth_is g l with e | ⟨o, ho, hp, e⟩
  · rw [e]; exact worth_zero h l
  · rw [← e]
    exact worth_ge ho (within_trans (hw o ho).1 hg hh hp hs)

theorem ahead_iff {i k : Nat} {a b : Offer} : aheadB i a k b = true ↔ k ≠ i ∧ 1 ≤ b.2 ∧ withinB b.1 a.1 = true ∧ a.2 ≤ b.2 ∧ (b = a → k < i) := by
  unfold aheadB
  by_cases h : k = i ∨ b.2 < 1 ∨ withinB b.1 a.1 = false ∨ b.2 < a.2
  · rw [if_pos h]
    constructor
    · intro h0; cases h0
    · rintro ⟨h1, h2, h3, h4, _⟩
      rcases h with h | h | h | h
      · exact absurd h h1
      · omega
      · rw [h3] at h; cases h
      · omega
  · rw [if_neg h]
    have h1 : k ≠ i := fun e => h (.inl e)
    have h2 : ¬ b.2 < 1 := fun e => h (.inr (.inl e))
    have h3 : withinB b.1 a.1 = true := by
      cases hb : withinB b.1 a.1
      · exact absurd (.inr (.inr (.inl hb))) h
      · rfl
    have h4 : ¬ b.2 < a.2 := fun e => h (.inr (.inr (.inr e)))
    by_cases hab : b = a
    · rw [if_pos hab, decide_eq_true_iff]
      exact ⟨fun hk => ⟨h1, by omega, h3, by omega, fun _ => hk⟩, fun h => h.2.2.2.2 hab⟩
    · rw [if_neg hab]
      exact ⟨fun _ => ⟨h1, by omega, h3, by omega, fun e => absurd e hab⟩, fun _ => rfl⟩
theorem keep_iff {l : List Offer} {i : Nat} {o : Offer} : keepO l i o = true ↔ 1 ≤ o.2 ∧ ∀ (k : Nat) (b : Offer), l[k]? = some b → aheadB i o k b = false := by
  unfold keepO idleN
  by_cases h1 : o.2 < 1
  · rw [if_pos h1]
    constructor
    · intro h
      simp at h
      omega
    · intro h; omega
  · rw [if_neg h1, Bool.and_eq_true, decide_eq_true_iff, Bool.not_eq_true', ← Bool.not_eq_true, any_iff]
    constructor
    · rintro ⟨h2, h3⟩
      refine ⟨h2, fun k b hb => ?_⟩
      cases hc : aheadB i o k b
      · rfl
      · exact absurd ⟨k, b, hb, by rwa [Nat.zero_add]⟩ h3
    · rintro ⟨h2, h3⟩
      refine ⟨h2, ?_⟩
      rintro ⟨j, b, hb, hc⟩
      rw [Nat.zero_add, h3 j b hb] at hc
      cases hc
theorem keepFrom_has (q : Nat → Offer → Bool) : ∀ (l : List Offer) (k j : Nat) (o : Offer), l[j]? = some o → q (k + j) o = true → o ∈ keepFrom q k l
  | [], _, j, o, h, _ => by simp at h
  | b :: l, k, 0, o, h, hq => by
    simp only [List.getElem?_cons_zero, Option.some.injEq] at h
    subst h
    rw [keepFrom, if_pos (by simpa using hq)]
    exact List.mem_cons_self ..
  | b :: l, k, j + 1, o, h, hq => by
    have := keepFrom_has q l (k + 1) j o (by simpa using h) (by rw [show k + 1 + j = k + (j + 1) from by omega]; exact hq)
    rw [keepFrom]
    split
    · exact List.mem_cons_of_mem _ this
    · exact this
theorem norm_mem {l : List Offer} (hw : OWide l) {o : Offer} : o ∈ normL l ↔ ∃ i, l[i]? = some o ∧ keepO l i o = true := by
  rw [(norm_says hw).2.mem_iff]
  constructor
  · intro h
    obtain ⟨j, h1, h2⟩ := keepFrom_mem _ _ _ _ h
    exact ⟨j, h1, by rwa [Nat.zero_add] at h2⟩
  · rintro ⟨i, h1, h2⟩
    exact keepFrom_has _ _ _ _ _ h1 (by rwa [Nat.zero_add])
theorem norm_sub {l : List Offer} (hw : OWide l) {o : Offer} (h : o ∈ normL l) : o ∈ l := by
  obtain ⟨i, h1, _⟩ := (norm_mem hw).1 h
  exact List.mem_of_getElem? h1
theorem norm_pos {l : List Offer} (hw : OWide l) {o : Offer} (h : o ∈ normL l) : 1 ≤ o.2 := by
  obtain ⟨i, _, h2⟩ := (norm_mem hw).1 h
  exact (keep_iff.1 h2).1
/-- Nothing else is ahead of one that is kept. -/
theorem norm_free {l : List Offer} (hw : OWide l) {o x : Offer} (h : o ∈ normL l) (hx : x ∈ l) (hs : withinB x.1 o.1 = true) (hc : o.2 ≤ x.2) : x = o := by
  obtain ⟨i, h1, h2⟩ := (norm_mem hw).1 h
  obtain ⟨k, hk⟩ := List.getElem?_of_mem hx
  obtain ⟨h3, h4⟩ := keep_iff.1 h2
  rcases Classical.em (x = o) with e | e
  · exact e
  · have h5 := h4 k x hk
    rw [ahead_iff.2 ⟨fun e1 => e (by subst e1; rw [h1] at hk; injection hk with hk; exact hk.symm), by omega, hs, hc, fun e1 => absurd e1 e⟩] at h5
    cases h5
/-- Each offer is kept, or one that is kept serves in its place. -/
theorem keep_over {l : List Offer} (hw : OWide l) (i : Nat) (o : Offer) (hi : l[i]? = some o) (h1 : 1 ≤ o.2) : ∃ (j : Nat) (b : Offer), l[j]? = some b ∧ keepO l j b = true ∧ withinB b.1 o.1 = true ∧ o.2 ≤ b.2 := by
  have ho := hw o (List.mem_of_getElem? hi)
  by_cases hk : keepO l i o = true
  · exact ⟨i, o, hi, hk, within_refl ho.1, Int.le_refl _⟩
  · obtain ⟨k, b, hkb, hc⟩ : ∃ (k : Nat) (b : Offer), l[k]? = some b ∧ aheadB i o k b = true := by
      refine Classical.byContradiction fun hn => hk (keep_iff.2 ⟨h1, fun k b hb => ?_⟩)
      cases hc : aheadB i o k b
      · rfl
      · exact absurd ⟨k, b, hb, hc⟩ hn
    obtain ⟨hne, hb1, hsub, hle, htie⟩ := ahead_iff.1 hc
    have hb := hw b (List.mem_of_getElem? hkb)
    have hnum := within_num hb.1 ho.1 hsub
    obtain ⟨j, b', h2, h3, h4, h5⟩ := keep_over hw k b hkb hb1
    exact ⟨j, b', h2, h3, within_trans (hw b' (List.mem_of_getElem? h2)).1 hb.1 ho.1 h4 hsub, by omega⟩
termination_by (o.1, (9223372036854775807 - o.2).toNat, i)
decreasing_by
  rcases Nat.lt_or_ge b.1 o.1 with h | h
  · exact Prod.Lex.left _ _ h
  · have e1 : b.1 = o.1 := by omega
    rcases Int.lt_or_le o.2 b.2 with h' | h'
    · rw [e1]
      refine Prod.Lex.right _ (Prod.Lex.left _ _ ?_)
      omega
    · have e2 : b.2 = o.2 := by omega
      have e3 : b = o := Prod.ext e1 e2
      rw [e3]
      exact Prod.Lex.right _ (Prod.Lex.right _ (htie e3))
theorem norm_over {l : List Offer} (hw : OWide l) {o : Offer} (h : o ∈ l) (h1 : 1 ≤ o.2) : ∃ z ∈ normL l, withinB z.1 o.1 = true ∧ o.2 ≤ z.2 := by
  obtain ⟨i, hi⟩ := List.getElem?_of_mem h
  obtain ⟨j, b, h2, h3, h4, h5⟩ := keep_over hw i o hi h1
  exact ⟨b, (norm_mem hw).2 ⟨j, h2, h3⟩, h4, h5⟩
/-- The shortest form is worth the same. -/
theorem norm_worth {l : List Offer} (hw : OWide l) {g : Nat} (hg : g < 4294967296) : (worthL g (normL l)).1 = (worthL g l).1 := by
  apply Int.le_antisymm
  · rcases worth_is g (normL l) with e | ⟨o, ho, hp, e⟩
    · rw [e]; exact worth_zero g l
    · rw [← e]; exact worth_ge (norm_sub hw ho) hp
  · rcases worth_is g l with e | ⟨o, ho, hp, e⟩
    · rw [e]; exact worth_zero g _
    · rw [← e]
      rcases Int.lt_or_le o.2 1 with h1 | h1
      · have := worth_zero g (normL l); omega
      · obtain ⟨z, hz, h2, h3⟩ := norm_over hw ho h1
        have := worth_ge hz (within_trans (hw z (norm_sub hw hz)).1 (hw o ho).1 hg h2 hp)
        omega
theorem norm_own {l : List Offer} (hw : OWide l) {o : Offer} (h : o ∈ normL l) : (worthL o.1 l).1 = o.2 := by
  have ho := norm_sub hw h
  apply Int.le_antisymm
  · rcases worth_is o.1 l with e | ⟨x, hx, hp, e⟩
    · rw [e]; have := norm_pos hw h; omega
    · rw [← e]
      rcases Int.lt_or_le o.2 x.2 with h1 | h1
      · have := norm_free hw h hx hp (by omega)
        rw [this] at h1; omega
      · exact h1
  · exact worth_ge ho (within_refl (hw o ho).1)
theorem norm_half {a b : List Offer} (ha : OWide a) (hb : OWide b) (h : ∀ g, (∃ x, (x ∈ a ∨ x ∈ b) ∧ x.1 = g) → (worthL g a).1 = (worthL g b).1) {o : Offer} (ho : o ∈ normL a) : o ∈ normL b := by
  have hoa := norm_sub ha ho
  have h1 := norm_own ha ho
  have hp := norm_pos ha ho
  rw [h o.1 ⟨o, .inl hoa, rfl⟩] at h1
  rcases worth_is o.1 b with e | ⟨y, hy, hys, e⟩
  · omega
  obtain ⟨z, hz, hzs, hzc⟩ := norm_over hb hy (by omega)
  have hzb := norm_sub hb hz
  have wz := (hb z hzb).1
  have wo := (ha o hoa).1
  have hzo := within_trans wz (hb y hy).1 wo hzs hys
  have h2 : z.2 ≤ (worthL z.1 b).1 := worth_ge hzb (within_refl wz)
  rw [← h z.1 ⟨z, .inr hzb, rfl⟩] at h2
  rcases worth_is z.1 a with e2 | ⟨x, hx, hxs, e2⟩
  · omega
  have hxo := norm_free ha ho hx (within_trans (ha x hx).1 wz wo hxs hzo) (by omega)
  subst hxo
  have e3 := within_anti wz wo hzo hxs
  have h3 : z.2 ≤ (worthL x.1 b).1 := worth_ge hzb hzo
  have : z = x := Prod.ext e3 (by omega)
  rwa [this] at hz
theorem strict_mem : ∀ {a b : List Offer}, Strict a → Strict b → (∀ x, x ∈ a ↔ x ∈ b) → a = b
  | [], [], _, _, _ => rfl
  | [], y :: b, _, _, h => by have := (h y).2 (List.mem_cons_self ..); cases this
  | x :: a, [], _, _, h => by have := (h x).1 (List.mem_cons_self ..); cases this
  | x :: a, y :: b, h1, h2, h => by
    unfold Strict at h1 h2
    rw [List.pairwise_cons] at h1 h2
    have hxy : x = y := by
      rcases List.mem_cons.1 ((h x).1 (List.mem_cons_self ..)) with e | hx
      · exact e
      · rcases List.mem_cons.1 ((h y).2 (List.mem_cons_self ..)) with e | hy
        · exact e.symm
        · exact absurd (h1.1 y hy) (by have := h2.1 x hx; omega)
    subst hxy
    rw [strict_mem h1.2 h2.2 fun z => ⟨fun hz => ?_, fun hz => ?_⟩]
    · rcases List.mem_cons.1 ((h z).1 (List.mem_cons_of_mem _ hz)) with e | hz'
      · have := h1.1 z hz; rw [e] at this; omega
      · exact hz'
    · rcases List.mem_cons.1 ((h z).2 (List.mem_cons_of_mem _ hz)) with e | hz'
      · have := h2.1 z hz; rw [e] at this; omega
      · exact hz'
theorem norm_same {a b : List Offer} (ha : OWide a) (hb : OWide b) (h : ∀ g, (∃ x, (x ∈ a ∨ x ∈ b) ∧ x.1 = g) → (worthL g a).1 = (worthL g b).1) : normL a = normL b :=
  strict_mem (norm_says ha).1 (norm_says hb).1 fun _ => ⟨norm_half ha hb h, norm_half hb ha fun g ⟨x, hx, e⟩ => (h g ⟨x, hx.symm, e⟩).symm⟩
theorem norm_worths {a b : List Offer} (ha : OWide a) (hb : OWide b) (h : normL a = normL b) {g : Nat} (hg : g < 4294967296) : (worthL g a).1 = (worthL g b).1 := by
  rw [← norm_worth ha hg, ← norm_worth hb hg, h]
theorem strict_at {l : List Offer} (h : Strict l) {i j : Nat} {x y : Offer} (hi : l[i]? = some x) (hj : l[j]? = some y) (hne : i ≠ j) : x.1 ≠ y.1 := by
  obtain ⟨h1, rfl⟩ := List.getElem?_eq_some_iff.1 hi
  obtain ⟨h2, rfl⟩ := List.getElem?_eq_some_iff.1 hj
  have hp := List.pairwise_iff_getElem.1 h
  rcases Nat.lt_or_ge i j with h3 | h3
  · have := hp i j h1 h2 h3; omega
  · have := hp j i h2 h1 (by omega); omega
/-- Of the shortest form none can be left out. -/
theorem norm_needs {l : List Offer} (hw : OWide l) {i : Nat} {o : Offer} (h : (normL l)[i]? = some o) : (worthL o.1 ((normL l).take i ++ (normL l).drop (i + 1))).1 < (worthL o.1 (normL l)).1 := by
  have ho := List.mem_of_getElem? h
  have wo := (hw o (norm_sub hw ho)).1
  rw [norm_worth hw wo, norm_own hw ho]
  have hp := norm_pos hw ho
  rcases worth_is o.1 ((normL l).take i ++ (normL l).drop (i + 1)) with e | ⟨x, hx, hs, e⟩
  · omega
  · rw [← e]
    have hj : ∃ j, (normL l)[j]? = some x ∧ j ≠ i := by
      rcases List.mem_append.1 hx with hx | hx
      · obtain ⟨j, hj⟩ := List.getElem?_of_mem hx
        rw [List.getElem?_take] at hj
        split at hj
        · exact ⟨j, hj, by omega⟩
        · cases hj
      · obtain ⟨j, hj⟩ := List.getElem?_of_mem hx
        rw [List.getElem?_drop] at hj
        exact ⟨i + 1 + j, hj, by omega⟩
    obtain ⟨j, hj, hji⟩ := hj
    have hne := strict_at (norm_says hw).1 hj h hji
    rcases Int.lt_or_le x.2 o.2 with h1 | h1
    · exact h1
    · exact absurd (congrArg Prod.fst (norm_free hw ho (norm_sub hw (List.mem_of_getElem? hj)) hs h1)) hne
theorem keepFrom_all (q : Nat → Offer → Bool) : ∀ (l : List Offer) (k : Nat), (∀ (j : Nat) (o : Offer), l[j]? = some o → q (k + j) o = true) → keepFrom q k l = l
  | [], _, _ => rfl
  | o :: l, k, h => by
    rw [keepFrom, if_pos (by simpa using h 0 o rfl), keepFrom_all q l (k + 1) fun j x hx => by
      rw [show k + 1 + j = k + (j + 1) from by omega]
      exact h (j + 1) x (by simpa using hx)]
/-- The shortest form is its own. -/
theorem norm_norm {l : List Offer} (hw : OWide l) : normL (normL l) = normL l := by
  have hs := (norm_says hw).1
  refine (norm_of (norm_wide hw) (hs.imp fun h => Nat.le_of_lt h) ?_).symm
  unfold keepL
  rw [keepFrom_all]
  intro j o hj
  rw [Nat.zero_add]
  have ho := List.mem_of_getElem? hj
  refine keep_iff.2 ⟨norm_pos hw ho, fun k b hk => ?_⟩
  cases hc : aheadB j o k b
  · rfl
  · obtain ⟨hne, _, hsub, hle, _⟩ := ahead_iff.1 hc
    have := norm_free hw ho (norm_sub hw (List.mem_of_getElem? hk)) hsub hle
    exact absurd (congrArg Prod.fst this) (strict_at hs hk hj hne)
theorem lower_lower {c d : Int} (hc : 0 ≤ c) (hd : 0 ≤ d) (l : List Offer) : lowerL d (lowerL c l) = lowerL (c + d) l := by
  unfold lowerL
  rw [show max c 0 = c by omega, show max d 0 = d by omega, show max (c + d) 0 = c + d by omega, List.filterMap_filterMap]
  congr 1
  funext o
  by_cases h : c < o.2
  · rw [if_pos h, Option.bind_some]
    by_cases h2 : d < o.2 - c
    · rw [if_pos h2, if_pos (by omega)]
      simp only [Option.some.injEq, Prod.mk.injEq, true_and]
      omega
    · rw [if_neg h2, if_neg (by omega)]
  · rw [if_neg h, Option.bind_none, if_neg (by omega)]
end Go.Proofs.YtkiebjgpghajbaaDoor
