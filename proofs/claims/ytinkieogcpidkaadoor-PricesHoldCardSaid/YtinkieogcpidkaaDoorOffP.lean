/- The plain law of layer 8: what a list of offers is worth for a set, the greatest coins, idle offers, the shortest form. No program is named. -/
import Derived.Test.YtinkieogcpidkaaDoorOff
namespace Go.Proofs.YtinkieogcpidkaaDoor

/-! ### The first greatest one -/
def scanTo (p : Offer → Bool) : List Offer → Int → Int → Int → Int × Int
  | [], _, best, at_ => (best, at_)
  | o :: l, i, best, at_ => if best < o.2 ∧ p o = true then scanTo p l (i + 1) o.2 i else scanTo p l (i + 1) best at_
def worthL (g : Nat) (l : List Offer) : Int × Int := scanTo (fun o => withinB o.1 g) l 0 0 (-1)
def greatL (l : List Offer) : Int × Int := scanTo (fun _ => true) l 0 0 (-1)
theorem scan_hit {p : Offer → Bool} {l : List Offer} {k : Nat} {o : Offer} {i b a : Int} (h : l[k]? = some o) (hb : b < o.2) (hp : p o = true) : scanTo p (l.drop k) i b a = scanTo p (l.drop (k + 1)) (i + 1) o.2 i := by
  obtain ⟨h1, rfl⟩ := List.getElem?_eq_some_iff.1 h
  rw [List.drop_eq_getElem_cons h1, scanTo, if_pos ⟨hb, hp⟩]
theorem scan_miss {p : Offer → Bool} {l : List Offer} {k : Nat} {o : Offer} {i b a : Int} (h : l[k]? = some o) (hb : ¬ (b < o.2 ∧ p o = true)) : scanTo p (l.drop k) i b a = scanTo p (l.drop (k + 1)) (i + 1) b a := by
  obtain ⟨h1, rfl⟩ := List.getElem?_eq_some_iff.1 h
  rw [List.drop_eq_getElem_cons h1, scanTo, if_neg hb]
theorem scan_end {p : Offer → Bool} {l : List Offer} {i b a : Int} : scanTo p (l.drop l.length) i b a = (b, a) := by
  rw [List.drop_of_length_le (Nat.le_refl _)]
  rfl

/-! ### Idle offers -/
def aheadB (i : Nat) (a : Offer) (k : Nat) (b : Offer) : Bool :=
  if k = i ∨ b.2 < 1 ∨ withinB b.1 a.1 = false ∨ b.2 < a.2 then false else if b = a then decide (k < i) else true
def anyFrom (p : Nat → Offer → Bool) : Nat → List Offer → Bool
  | _, [] => false
  | k, b :: l => p k b || anyFrom p (k + 1) l
theorem any_step {p : Nat → Offer → Bool} {l : List Offer} {k : Nat} {o : Offer} (h : l[k]? = some o) : anyFrom p k (l.drop k) = (p k o || anyFrom p (k + 1) (l.drop (k + 1))) := by
  obtain ⟨h1, rfl⟩ := List.getElem?_eq_some_iff.1 h
  rw [List.drop_eq_getElem_cons h1]
  rfl
theorem any_end {p : Nat → Offer → Bool} {l : List Offer} : anyFrom p l.length (l.drop l.length) = false := by
  rw [List.drop_of_length_le (Nat.le_refl _)]
  rfl
theorem any_iff {p : Nat → Offer → Bool} : ∀ (l : List Offer) (k : Nat), anyFrom p k l = true ↔ ∃ (j : Nat) (o : Offer), l[j]? = some o ∧ p (k + j) o = true
  | [], k => by simp [anyFrom]
  | b :: l, k => by
    rw [anyFrom, Bool.or_eq_true, any_iff l (k + 1)]
    constructor
    · rintro (h | ⟨j, o, h1, h2⟩)
      · exact ⟨0, b, rfl, h⟩
      · exact ⟨j + 1, o, by simpa using h1, by rw [show k + (j + 1) = k + 1 + j from by omega]; exact h2⟩
    · rintro ⟨j, o, h1, h2⟩
      cases j with
      | zero =>
        simp only [List.getElem?_cons_zero, Option.some.injEq] at h1
        subst h1
        exact .inl h2
      | succ j => exact .inr ⟨j, o, by simpa using h1, by rw [show k + 1 + j = k + (j + 1) from by omega]; exact h2⟩
def idleN (l : List Offer) (i : Nat) (a : Offer) : Bool := if a.2 < 1 then false else anyFrom (aheadB i a) 0 l
def idleB (l : List Offer) (i : Int) : Bool := if i < 0 then false else match l[i.toNat]? with
  | none => false
  | some a => idleN l i.toNat a

/-! ### The shortest form -/
def keepO (l : List Offer) (i : Nat) (o : Offer) : Bool := decide (1 ≤ o.2) && !idleN l i o
def keepFrom (q : Nat → Offer → Bool) : Nat → List Offer → List Offer
  | _, [] => []
  | k, o :: r => if q k o then o :: keepFrom q (k + 1) r else keepFrom q (k + 1) r
def keepL (l : List Offer) : List Offer := keepFrom (keepO l) 0 l
/-- The kept ones among the first k. -/
def keepTo (l : List Offer) (k : Nat) : List Offer := keepFrom (keepO l) 0 (l.take k)
theorem keepFrom_snoc (q : Nat → Offer → Bool) : ∀ (l : List Offer) (k : Nat) (o : Offer), keepFrom q k (l ++ [o]) = keepFrom q k l ++ if q (k + l.length) o then [o] else []
  | [], k, o => by simp [keepFrom]
  | b :: l, k, o => by
    rw [List.cons_append, keepFrom, keepFrom, keepFrom_snoc q l (k + 1) o, List.length_cons, show k + 1 + l.length = k + (l.length + 1) from by omega]
    split <;> simp
theorem keepTo_succ {l : List Offer} {k : Nat} {o : Offer} (h : l[k]? = some o) : keepTo l (k + 1) = keepTo l k ++ if keepO l k o then [o] else [] := by
  have hk : k < l.length := (List.getElem?_eq_some_iff.1 h).1
  unfold keepTo
  rw [List.take_add_one, h, Option.toList_some, keepFrom_snoc, List.length_take, Nat.min_eq_left (by omega), Nat.zero_add]
theorem keepTo_all (l : List Offer) : keepTo l l.length = keepL l := by
  unfold keepTo keepL
  rw [List.take_of_length_le (Nat.le_refl _)]
theorem keepFrom_len (q : Nat → Offer → Bool) : ∀ (l : List Offer) (k : Nat), (keepFrom q k l).length ≤ l.length
  | [], _ => Nat.le_refl _
  | o :: l, k => by
    have := keepFrom_len q l (k + 1)
    rw [keepFrom]
    split
    · simp; omega
    · simp; omega
theorem keepFrom_mem (q : Nat → Offer → Bool) : ∀ (l : List Offer) (k : Nat) (o : Offer), o ∈ keepFrom q k l → ∃ j, l[j]? = some o ∧ q (k + j) o = true
  | [], _, o, h => by simp [keepFrom] at h
  | b :: l, k, o, h => by
    rw [keepFrom] at h
    have key : o ∈ keepFrom q (k + 1) l → ∃ j, (b :: l)[j]? = some o ∧ q (k + j) o = true := fun h => by
      obtain ⟨j, h1, h2⟩ := keepFrom_mem q l (k + 1) o h
      exact ⟨j + 1, by simpa using h1, by rw [show k + (j + 1) = k + 1 + j from by omega]; exact h2⟩
    split at h
    · rcases List.mem_cons.1 h with rfl | h
      · exact ⟨0, rfl, by assumption⟩
      · exact key h
    · exact key h
/-- Two that are kept have different goods. -/
theorem keep_apart {l : List Offer} {i k : Nat} {a b : Offer} (hi : l[i]? = some a) (hk : l[k]? = some b) (hik : i < k) (h1 : keepO l i a = true) (h2 : keepO l k b = true) (ha : a.1 < 4294967296) : a.1 ≠ b.1 := by
  intro e
  unfold keepO at h1 h2
  simp only [Bool.and_eq_true, decide_eq_true_eq, Bool.not_eq_true'] at h1 h2
  obtain ⟨h1a, h1b⟩ := h1
  obtain ⟨h2a, h2b⟩ := h2
  have hself : withinB a.1 b.1 = true := by rw [← e, withinB_iff _ _ ha ha]; exact fun _ h => h
  have hself2 : withinB b.1 a.1 = true := by rw [← e, withinB_iff _ _ ha ha]; exact fun _ h => h
  by_cases hab : b.2 ≤ a.2
  · unfold idleN at h2b
    rw [if_neg (by omega), ← Bool.not_eq_true, any_iff] at h2b
    apply h2b
    refine ⟨i, a, hi, ?_⟩
    unfold aheadB
    rw [if_neg (by simp [hself]; omega)]
    split
    · simp; omega
    · rfl
  · unfold idleN at h1b
    rw [if_neg (by omega), ← Bool.not_eq_true, any_iff] at h1b
    apply h1b
    refine ⟨k, b, hk, ?_⟩
    unfold aheadB
    rw [if_neg (by simp [hself2]; omega), if_neg]
    intro e2
    rw [e2] at hab
    omega
def Strict (l : List Offer) : Prop := l.Pairwise (fun a b => a.1 < b.1)
theorem keepFrom_apart {l : List Offer} (hw : OWide l) : ∀ (r : List Offer) (k : Nat), l.drop k = r → (keepFrom (keepO l) k r).Pairwise (fun a b => a.1 ≠ b.1)
  | [], _, _ => List.Pairwise.nil
  | o :: r, k, h => by
    have hk : k < l.length := by
      rcases Nat.lt_or_ge k l.length with h1 | h1
      · exact h1
      · rw [List.drop_of_length_le h1] at h; cases h
    rw [List.drop_eq_getElem_cons hk] at h
    injection h with h1 h2
    have ih := keepFrom_apart hw r (k + 1) h2
    have ho : l[k]? = some o := by rw [List.getElem?_eq_getElem hk, h1]
    rw [keepFrom]
    split
    · rename_i hq
      refine List.Pairwise.cons (fun b hb => ?_) ih
      obtain ⟨j, h3, h4⟩ := keepFrom_mem _ _ _ _ hb
      rw [← h2, List.getElem?_drop] at h3
      exact keep_apart ho h3 (by omega) hq h4 (hw o (List.mem_of_getElem? ho)).1
    · exact ih
theorem keep_pairs {l : List Offer} (hw : OWide l) : (keepL l).Pairwise (fun a b => a.1 ≠ b.1) := keepFrom_apart hw l 0 (by simp)
/-- One is laid where it belongs. -/
def insO (o : Offer) : List Offer → List Offer
  | [] => [o]
  | b :: l => if o.1 < b.1 then o :: b :: l else b :: insO o l
def normL (l : List Offer) : List Offer := (keepL l).foldl (fun out o => insO o out) []
theorem insO_perm (o : Offer) : ∀ l : List Offer, (insO o l).Perm (o :: l)
  | [] => List.Perm.refl _
  | b :: l => by
    rw [insO]
    split
    · exact List.Perm.refl _
    · exact ((insO_perm o l).cons b).trans (List.Perm.swap o b l)
theorem insO_strict (o : Offer) : ∀ l : List Offer, Strict l → (∀ b ∈ l, b.1 ≠ o.1) → Strict (insO o l)
  | [], _, _ => List.pairwise_singleton _ _
  | b :: l, h, hne => by
    unfold Strict at h
    rw [List.pairwise_cons] at h
    rw [insO]
    split
    · rename_i hlt
      refine List.Pairwise.cons (fun x hx => ?_) (List.Pairwise.cons h.1 h.2)
      rcases List.mem_cons.1 hx with rfl | hx
      · exact hlt
      · exact Nat.lt_trans hlt (h.1 x hx)
    · rename_i hlt
      have h1 := hne b (List.mem_cons_self ..)
      refine List.Pairwise.cons (fun x hx => ?_) (insO_strict o l h.2 (fun x hx => hne x (List.mem_cons_of_mem _ hx)))
      rcases List.mem_cons.1 ((insO_perm o l).mem_iff.1 hx) with rfl | hx
      · omega
      · exact h.1 x hx
theorem ins_all : ∀ (r out : List Offer), Strict out → (out ++ r).Pairwise (fun a b => a.1 ≠ b.1) → Strict (r.foldl (fun out o => insO o out) out) ∧ (r.foldl (fun out o => insO o out) out).Perm (out ++ r)
  | [], out, h, _ => ⟨h, by simp⟩
  | o :: r, out, h, hp => by
    rw [List.foldl_cons]
    have hp1 : (out ++ [o] ++ r).Pairwise (fun a b => a.1 ≠ b.1) := by simpa using hp
    have hpm : (insO o out).Perm (out ++ [o]) := (insO_perm o out).trans (List.perm_append_comm (l₁ := [o]) (l₂ := out))
    have hne : ∀ b ∈ out, b.1 ≠ o.1 := fun b hb => (List.pairwise_append.1 hp).2.2 b hb o (List.mem_cons_self ..)
    have h2 := ins_all r (insO o out) (insO_strict o out h hne) ((hpm.append_right r).symm.pairwise hp1 (fun h e => h e.symm))
    exact ⟨h2.1, by simpa using h2.2.trans (hpm.append_right r)⟩
theorem norm_says {l : List Offer} (hw : OWide l) : Strict (normL l) ∧ (normL l).Perm (keepL l) := by
  have := ins_all (keepL l) [] List.Pairwise.nil (by simpa using keep_pairs hw)
  simpa [normL] using this
/-- There is one way alone to lay them. -/
theorem strict_one : ∀ {a b : List Offer}, Strict a → Strict b → a.Perm b → a = b
  | [], b, _, _, h => (List.Perm.nil_eq h)
  | x :: a, b, h1, h2, h => by
    cases b with
    | nil => exact absurd h.length_eq (by simp)
    | cons y b =>
      unfold Strict at h1 h2
      rw [List.pairwise_cons] at h1 h2
      have hxy : x = y := by
        rcases List.mem_cons.1 (h.mem_iff.1 (List.mem_cons_self ..)) with e | hx
        · exact e
        · rcases List.mem_cons.1 (h.mem_iff.2 (List.mem_cons_self ..)) with e | hy
          · exact e.symm
          · exact absurd (h1.1 y hy) (by have := h2.1 x hx; omega)
      subst hxy
      rw [strict_one h1.2 h2.2 (List.Perm.cons_inv h)]
theorem norm_of {l d : List Offer} (hw : OWide l) (hs : d.Pairwise (fun a b => a.1 ≤ b.1)) (hp : d.Perm (keepL l)) : d = normL l := by
  obtain ⟨h1, h2⟩ := norm_says hw
  have hne : d.Pairwise (fun a b => a.1 ≠ b.1) := hp.symm.pairwise (keep_pairs hw) (fun h e => h e.symm)
  exact strict_one (hs.imp₂ (fun a b h1 h2 => by omega) hne) h1 (hp.trans h2.symm)
theorem norm_len (l : List Offer) (hw : OWide l) : (normL l).length ≤ l.length := by
  rw [(norm_says hw).2.length_eq]
  exact keepFrom_len _ _ _
theorem norm_wide {l : List Offer} (hw : OWide l) : OWide (normL l) := fun o ho => by
  obtain ⟨j, h1, _⟩ := keepFrom_mem _ _ _ _ ((norm_says hw).2.mem_iff.1 ho)
  exact hw o (List.mem_of_getElem? h1)

/-! ### Coins taken off -/
def lowerL (c : Int) (l : List Offer) : List Offer := l.filterMap fun o => if max c 0 < o.2 then some (o.1, o.2 - max c 0) else none
end Go.Proofs.YtinkieogcpidkaaDoor
