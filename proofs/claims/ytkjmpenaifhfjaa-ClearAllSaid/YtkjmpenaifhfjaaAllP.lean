/- All choices of the greatest worth, in order; the order of choices; what any choice is worth. No program is named. -/
import Derived.Test.YtkjmpenaifhfjaaMore
namespace Go.Proofs.Ytkjmpenaifhfjaa
open Go.RowKit

/-- The order of two choices. -/
def cmpL : List Int → List Int → Int
  | [], [] => 0
  | [], _ :: _ => -1
  | _ :: _, [] => 1
  | p :: a, q :: b => if (p < 0 ∧ q < 0) ∨ p = q then cmpL a b else if q < 0 ∨ (0 ≤ p ∧ p < q) then -1 else 1
theorem cmpL_self : ∀ a : List Int, cmpL a a = 0
  | [] => rfl
  | p :: a => by rw [cmpL, if_pos (.inr rfl)]; exact cmpL_self a

/-- The choices that begin with one of a buyer's offers, from the j-th on. -/
def hitsW (ls : List (List Offer)) (W : Int) (f : Nat) (rec : Nat → List (List Int)) : Nat → List Offer → List (List Int)
  | _, [] => []
  | j, o :: l => (if hitB (bestW ls) W f o = true then (rec (lessG f o.1)).map (fun c => (j : Int) :: c) else []) ++ hitsW ls W f rec (j + 1) l
def choicesW : List (List Offer) → Nat → List (List Int)
  | [], _ => [[]]
  | l :: ls, f => hitsW ls (bestW (l :: ls) f) f (choicesW ls) 0 l ++ (if bestW ls f = bestW (l :: ls) f then (choicesW ls f).map (fun c => (-1 : Int) :: c) else [])

theorem hitsW_append {ls : List (List Offer)} {W : Int} {f : Nat} {rec : Nat → List (List Int)} : ∀ (a b : List Offer) (j : Nat), hitsW ls W f rec j (a ++ b) = hitsW ls W f rec j a ++ hitsW ls W f rec (j + a.length) b
  | [], b, j => by simp [hitsW]
  | o :: a, b, j => by
    simp only [List.cons_append, hitsW, List.append_assoc, List.length_cons]
    rw [hitsW_append a b (j + 1), show j + 1 + a.length = j + (a.length + 1) from by omega]
theorem hitsW_take {ls : List (List Offer)} {W : Int} {f : Nat} {rec : Nat → List (List Int)} {l : List Offer} {t : Nat} {o : Offer} (h : l[t]? = some o) :
    hitsW ls W f rec 0 (l.take (t + 1)) = hitsW ls W f rec 0 (l.take t) ++ (if hitB (bestW ls) W f o = true then (rec (lessG f o.1)).map (fun c => (t : Int) :: c) else []) := by
  have ht : t < l.length := (List.getElem?_eq_some_iff.1 h).1
  rw [List.take_add_one, h, Option.toList_some, hitsW_append, List.length_take, Nat.min_eq_left (by omega), Nat.zero_add]
  simp [hitsW]
theorem hitsW_pre {ls : List (List Offer)} {W : Int} {f : Nat} {rec : Nat → List (List Int)} {l : List Offer} (t : Nat) : hitsW ls W f rec 0 (l.take t) <+: hitsW ls W f rec 0 l := by
  conv => rhs; rw [← List.take_append_drop t l]
  rw [hitsW_append]
  exact List.prefix_append _ _
theorem choicesW_at {ls : List (List Offer)} {k : Nat} {l : List Offer} (h : ls[k]? = some l) (f : Nat) :
    choicesW (ls.drop k) f = hitsW (ls.drop (k + 1)) (bestW (ls.drop k) f) f (choicesW (ls.drop (k + 1))) 0 l ++ (if bestW (ls.drop (k + 1)) f = bestW (ls.drop k) f then (choicesW (ls.drop (k + 1)) f).map (fun c => (-1 : Int) :: c) else []) := by
  obtain ⟨hk, rfl⟩ := List.getElem?_eq_some_iff.1 h
  rw [List.drop_eq_getElem_cons hk]
  rfl

theorem mem_hitsW {ls : List (List Offer)} {W : Int} {f : Nat} {rec : Nat → List (List Int)} : ∀ (l : List Offer) (j : Nat) (c : List Int), c ∈ hitsW ls W f rec j l → ∃ t o d, l[t]? = some o ∧ hitB (bestW ls) W f o = true ∧ d ∈ rec (lessG f o.1) ∧ c = ((j + t : Nat) : Int) :: d
  | [], j, c, h => by simp [hitsW] at h
  | o :: l, j, c, h => by
    simp only [hitsW, List.mem_append] at h
    rcases h with h | h
    · split at h
      · rename_i hh
        obtain ⟨d, hd, rfl⟩ := List.mem_map.1 h
        exact ⟨0, o, d, rfl, hh, hd, rfl⟩
      · cases h
    · obtain ⟨t, o', d, h1, h2, h3, h4⟩ := mem_hitsW l (j + 1) c h
      exact ⟨t + 1, o', d, by simpa using h1, h2, h3, by rw [h4, show j + 1 + t = j + (t + 1) from by omega]⟩
theorem choicesW_len : ∀ (ls : List (List Offer)) (f : Nat) (c : List Int), c ∈ choicesW ls f → c.length = ls.length
  | [], f, c, h => by simp [choicesW] at h; subst h; rfl
  | l :: ls, f, c, h => by
    simp only [choicesW, List.mem_append] at h
    rcases h with h | h
    · obtain ⟨t, o, d, _, _, h3, rfl⟩ := mem_hitsW l 0 c h
      simp [choicesW_len ls _ d h3]
    · split at h
      · obtain ⟨d, hd, rfl⟩ := List.mem_map.1 h
        simp [choicesW_len ls _ d hd]
      · cases h

theorem hitsW_first {ls : List (List Offer)} {W : Int} {f : Nat} {rec : Nat → List (List Int)} {g : Nat → List Int} : ∀ (l : List Offer) (j t : Nat) (o : Offer), (∀ x ∈ l, hitB (bestW ls) W f x = true → (rec (lessG f x.1)).head? = some (g (lessG f x.1))) → l[t]? = some o → hitB (bestW ls) W f o = true → (∀ (i : Nat) y, i < t → l[i]? = some y → hitB (bestW ls) W f y = false) →
    (hitsW ls W f rec j l).head? = some (((j + t : Nat) : Int) :: g (lessG f o.1))
  | [], j, t, o, _, h, _, _ => by simp at h
  | x :: l, j, 0, o, hr, h, hh, hn => by
    simp at h
    subst h
    have h1 := hr x (List.mem_cons_self ..) hh
    simp only [hitsW, if_pos hh]
    cases hx : rec (lessG f x.1) with
    | nil => rw [hx] at h1; simp at h1
    | cons a b =>
      rw [hx] at h1
      simp at h1
      subst h1
      simp
  | x :: l, j, t + 1, o, hr, h, hh, hn => by
    have h0 := hn 0 x (by omega) rfl
    simp only [hitsW]
    rw [if_neg (by simp [h0]), List.nil_append, hitsW_first l (j + 1) t o (fun y hy => hr y (List.mem_cons_of_mem _ hy)) (by simpa using h) hh (fun i y hi hy => hn (i + 1) y (by omega) (by simpa using hy)), show j + 1 + t = j + (t + 1) from by omega]
theorem hitsW_none {ls : List (List Offer)} {W : Int} {f : Nat} {rec : Nat → List (List Int)} : ∀ (l : List Offer) (j : Nat), (∀ x ∈ l, hitB (bestW ls) W f x = false) → hitsW ls W f rec j l = []
  | [], _, _ => rfl
  | x :: l, j, h => by
    simp only [hitsW]
    rw [if_neg (by simp [h x (List.mem_cons_self ..)]), hitsW_none l (j + 1) (fun y hy => h y (List.mem_cons_of_mem _ hy))]
    rfl

/-- The first place of what answers p, or none. -/
theorem idxTo_cases {α : Type} {p : α → Bool} (l : List α) : (∃ (t : Nat) (x : α), idxTo p l = t ∧ l[t]? = some x ∧ p x = true ∧ ∀ (i : Nat) y, i < t → l[i]? = some y → p y = false) ∨ (idxTo p l = -1 ∧ ∀ x ∈ l, p x = false) := by
  by_cases h : 0 ≤ idxTo p l
  · left
    unfold idxTo at h ⊢
    cases hf : l.findIdx? p with
    | none => rw [hf] at h; simp at h
    | some t =>
      rw [List.findIdx?_eq_some_iff_getElem] at hf
      obtain ⟨ht, h1, h2⟩ := hf
      refine ⟨t, l[t], rfl, List.getElem?_eq_getElem ht, h1, fun i y hi hy => ?_⟩
      obtain ⟨hl, rfl⟩ := List.getElem?_eq_some_iff.1 hy
      have := h2 i hi
      simpa using this
  · right
    refine ⟨?_, idxTo_neg.1 h⟩
    have := @idxTo_bd α p l
    omega
theorem goesG_nat {l : List Offer} {t : Nat} {o : Offer} (h : l[t]? = some o) (f : Nat) : goesG l (t : Int) f = lessG f o.1 := by
  unfold goesG
  rw [if_neg (by omega), Int.toNat_natCast, h]
  rfl
/-- Without a hit the worth is the rest's. -/
theorem bestW_nohit {l : List Offer} {ls : List (List Offer)} {f : Nat} (h : ∀ x ∈ l, hitB (bestW ls) (bestW (l :: ls) f) f x = false) : bestW ls f = bestW (l :: ls) f := by
  rcases bestW_cases l ls f with h1 | ⟨o, ho, hw, h2⟩
  · exact h1.symm
  · have := h o ho
    simp [hitB, hw, h2] at this
/-- The best choice comes first. -/
theorem choicesW_first : ∀ (ls : List (List Offer)) (f : Nat), (choicesW ls f).head? = some (choiceW ls f)
  | [], f => rfl
  | l :: ls, f => by
    simp only [choicesW, choiceW]
    rcases idxTo_cases (p := hitB (bestW ls) (bestW (l :: ls) f) f) l with ⟨t, o, h1, h2, h3, h4⟩ | ⟨h1, h2⟩
    · have hp : pick l ls f = (t : Int) := h1
      rw [hp, goesG_nat h2]
      have := hitsW_first (rec := choicesW ls) (g := choiceW ls) l 0 t o (fun x _ _ => choicesW_first ls _) h2 h3 h4
      rw [List.head?_append, this, Nat.zero_add]
      rfl
    · have hp : pick l ls f = -1 := h1
      rw [hp, hitsW_none l 0 h2, List.nil_append, if_pos (bestW_nohit h2)]
      have hg : goesG l (-1) f = f := by simp [goesG]
      rw [hg]
      have := choicesW_first ls f
      cases hc : choicesW ls f with
      | nil => rw [hc] at this; simp at this
      | cons a b => rw [hc] at this; simp at this; simp [this]

/-- What a choice is worth, if it is one: sets that are taken, what was counted so far. -/
def fitW : List (List Offer) → List Int → Nat → Int → Option Int
  | [], [], _, s => some s
  | l :: ls, n :: c, t, s => if n < -1 ∨ (l.length : Int) ≤ n then none else if n < 0 then fitW ls c t s else if ((l[n.toNat]?).getD (0, 0)).1 &&& t = 0 then fitW ls c (t ||| ((l[n.toNat]?).getD (0, 0)).1) (s + ((l[n.toNat]?).getD (0, 0)).2) else none
  | _, _, _, _ => none
theorem bit_high {a n i : Nat} (ha : a < 2 ^ n) (hi : a.testBit i = true) : i < n := by
  by_cases h : i < n
  · exact h
  · have h1 : a < 2 ^ i := Nat.lt_of_lt_of_le ha (Nat.pow_le_pow_right (by omega) (by omega))
    rw [Nat.testBit_lt_two_pow h1] at hi
    cases hi
theorem pow_32 {n : Nat} (hn : n ≤ 32) : 2 ^ n ≤ 4294967296 := Nat.le_trans (Nat.pow_le_pow_right (n := 2) (by omega) hn) (Nat.le_of_eq rfl)
theorem and_zero_iff {a t n : Nat} (hn : n ≤ 32) (ha : a < 2 ^ n) (ht : t < 2 ^ n) : a &&& t = 0 ↔ withinB a (lessG (allG n) t) = true := by
  have h32 := pow_32 hn
  rw [withinB_iff a _ (by omega) (lessG_lt _ _ (allG_lt n hn))]
  constructor
  · intro h i hi
    rw [lessG_bit _ _ i (allG_lt n hn) (by omega), allG_bit]
    have h1 : (a &&& t).testBit i = false := by rw [h]; simp
    rw [Nat.testBit_and, hi, Bool.true_and] at h1
    rw [h1]
    simp [bit_high ha hi]
  · intro h
    apply Nat.eq_of_testBit_eq
    intro i
    rw [Nat.testBit_and, Nat.zero_testBit]
    cases hi : a.testBit i with
    | false => rfl
    | true =>
      have := h i hi
      rw [lessG_bit _ _ i (allG_lt n hn) (by omega)] at this
      simp at this
      simp [this.2]
theorem less_or {a t n : Nat} (hn : n ≤ 32) (ha : a < 2 ^ n) (ht : t < 2 ^ n) : lessG (lessG (allG n) t) a = lessG (allG n) (t ||| a) := by
  have h32 := pow_32 hn
  have h3 := Nat.or_lt_two_pow ht ha
  apply Nat.eq_of_testBit_eq
  intro i
  rw [lessG_bit _ _ i (lessG_lt _ _ (allG_lt n hn)) (by omega), lessG_bit _ _ i (allG_lt n hn) (by omega), lessG_bit _ _ i (allG_lt n hn) (by omega), Nat.testBit_or]
  cases (allG n).testBit i <;> cases t.testBit i <;> cases a.testBit i <;> rfl
def TopB (n : Nat) (ls : List (List Offer)) : Prop := ∀ l ∈ ls, ∀ o ∈ l, o.1 < 2 ^ n
theorem TopB.cons {n : Nat} {l : List Offer} {ls : List (List Offer)} (h : TopB n (l :: ls)) : (∀ o ∈ l, o.1 < 2 ^ n) ∧ TopB n ls := ⟨h l (List.mem_cons_self ..), fun m hm => h m (List.mem_cons_of_mem _ hm)⟩
theorem getD_at {l : List Offer} {n : Int} (h1 : ¬ (n < -1 ∨ (l.length : Int) ≤ n)) (h2 : ¬ n < 0) : ∃ (t : Nat) (o : Offer), n = t ∧ l[t]? = some o ∧ (l[n.toNat]?).getD (0, 0) = o ∧ o ∈ l := by
  obtain ⟨t, rfl⟩ : ∃ t : Nat, n = t := ⟨n.toNat, by omega⟩
  have ht : t < l.length := by omega
  refine ⟨t, l[t], rfl, List.getElem?_eq_getElem ht, ?_, List.getElem_mem ht⟩
  rw [Int.toNat_natCast, List.getElem?_eq_getElem ht]
  rfl

/-- No choice is worth more; one that is worth as much is not ahead of the best one. -/
theorem fitW_best {n : Nat} (hn : n ≤ 32) : ∀ (ls : List (List Offer)) (c : List Int) (t : Nat) (s v : Int), TopB n ls → t < 2 ^ n → fitW ls c t s = some v →
    v ≤ s + bestW ls (lessG (allG n) t) ∧ (v = s + bestW ls (lessG (allG n) t) → cmpL (choiceW ls (lessG (allG n) t)) c ≤ 0)
  | [], [], t, s, v, _, _, h => by
    simp only [fitW, Option.some.injEq] at h
    subst h
    simp [bestW, choiceW, cmpL]
  | [], _ :: _, _, _, _, _, _, h => by simp [fitW] at h
  | _ :: _, [], _, _, _, _, _, h => by simp [fitW] at h
  | l :: ls, m :: c, t, s, v, hT, ht, h => by
    obtain ⟨hTl, hTs⟩ := hT.cons
    simp only [fitW] at h
    split at h
    · cases h
    · rename_i h1
      split at h
      · rename_i h2
        obtain ⟨a1, a2⟩ := fitW_best hn ls c t s v hTs ht h
        have hr := bestW_rest l ls (lessG (allG n) t)
        refine ⟨by omega, fun e => ?_⟩
        have he : bestW ls (lessG (allG n) t) = bestW (l :: ls) (lessG (allG n) t) := by omega
        have a3 := a2 (by omega)
        simp only [choiceW]
        rcases idxTo_cases (p := hitB (bestW ls) (bestW (l :: ls) (lessG (allG n) t)) (lessG (allG n) t)) l with ⟨k, o, b1, b2, b3, b4⟩ | ⟨b1, b2⟩
        · have hp : pick l ls (lessG (allG n) t) = (k : Int) := b1
          rw [hp, cmpL, if_neg (by omega), if_pos (.inl h2)]
          decide
        · have hp : pick l ls (lessG (allG n) t) = -1 := b1
          rw [hp, cmpL, if_pos (.inl ⟨by omega, h2⟩)]
          have hg : goesG l (-1) (lessG (allG n) t) = lessG (allG n) t := by simp [goesG]
          rw [hg]
          exact a3
      · rename_i h2
        obtain ⟨k, o, rfl, hk, hd, ho⟩ := getD_at h1 h2
        rw [hd] at h
        split at h
        · rename_i h3
          have ho2 := hTl o ho
          have hor := Nat.or_lt_two_pow ht ho2
          obtain ⟨a1, a2⟩ := fitW_best hn ls c (t ||| o.1) (s + o.2) v hTs hor h
          have hw := (and_zero_iff hn ho2 ht).1 h3
          have hb := bestW_hit ls ho hw
          rw [less_or hn ho2 ht] at hb
          refine ⟨by omega, fun e => ?_⟩
          have hhit : hitB (bestW ls) (bestW (l :: ls) (lessG (allG n) t)) (lessG (allG n) t) o = true := by
            unfold hitB
            rw [hw, less_or hn ho2 ht]
            simp
            omega
          have a3 := a2 (by omega)
          simp only [choiceW]
          rcases idxTo_cases (p := hitB (bestW ls) (bestW (l :: ls) (lessG (allG n) t)) (lessG (allG n) t)) l with ⟨q, o', b1, b2, b3, b4⟩ | ⟨b1, b2⟩
          · have hp : pick l ls (lessG (allG n) t) = (q : Int) := b1
            have hqk : q ≤ k := by
              by_cases hlt : k < q
              · have := b4 k o hlt hk
                rw [hhit] at this
                cases this
              · omega
            rw [hp, goesG_nat b2, cmpL]
            by_cases hqe : q = k
            · subst hqe
              rw [hk] at b2
              injection b2 with b2
              subst b2
              rw [if_pos (.inr rfl), less_or hn ho2 ht]
              exact a3
            · rw [if_neg (by omega), if_pos (by omega)]
              decide
          · have := b2 o ho
            rw [hhit] at this
            cases this
        · cases h
/-- Each of the choices is one, of just the greatest worth. -/
theorem fitW_all {n : Nat} (hn : n ≤ 32) : ∀ (ls : List (List Offer)) (t : Nat) (s : Int) (c : List Int), TopB n ls → t < 2 ^ n → c ∈ choicesW ls (lessG (allG n) t) → fitW ls c t s = some (s + bestW ls (lessG (allG n) t))
  | [], t, s, c, _, _, h => by
    simp [choicesW] at h
    subst h
    simp [fitW, bestW]
  | l :: ls, t, s, c, hT, ht, h => by
    obtain ⟨hTl, hTs⟩ := hT.cons
    simp only [choicesW, List.mem_append] at h
    rcases h with h | h
    · obtain ⟨k, o, d, h1, h2, h3, rfl⟩ := mem_hitsW l 0 c h
      have hk : k < l.length := (List.getElem?_eq_some_iff.1 h1).1
      have ho := List.mem_of_getElem? h1
      have ho2 := hTl o ho
      have hor := Nat.or_lt_two_pow ht ho2
      unfold hitB at h2
      simp only [Bool.and_eq_true, beq_iff_eq] at h2
      obtain ⟨hw, he⟩ := h2
      rw [less_or hn ho2 ht] at h3 he
      have := fitW_all hn ls (t ||| o.1) (s + o.2) d hTs hor h3
      simp only [fitW, Nat.zero_add]
      rw [if_neg (by omega), if_neg (by omega), Int.toNat_natCast, h1]
      simp only [Option.getD_some]
      rw [if_pos ((and_zero_iff hn ho2 ht).2 hw), this]
      congr 1
      omega
    · split at h
      · rename_i he
        obtain ⟨d, hd, rfl⟩ := List.mem_map.1 h
        have := fitW_all hn ls t s d hTs ht hd
        simp only [fitW]
        rw [if_neg (by omega), if_pos (by omega), this, he]
      · cases h
end Go.Proofs.Ytkjmpenaifhfjaa
