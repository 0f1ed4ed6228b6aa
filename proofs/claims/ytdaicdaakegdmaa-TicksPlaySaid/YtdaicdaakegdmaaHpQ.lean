/- Where a number stands in a heap: plain. -/
import Derived.Test.YtdaicdaakegdmaaHpP
namespace Go.Proofs.Ytdaicdaakegdmaa

/-- Where a number stands. -/
def posD (l : List Du) (k : Int) : Option Nat := l.findIdx? (fun x => decide (x.2 = k))
def updP (f : Int → Option Nat) (k : Int) (x : Option Nat) : Int → Option Nat := fun j => if j = k then x else f j
theorem updP_same (f : Int → Option Nat) (k : Int) (x : Option Nat) : updP f k x k = x := if_pos rfl
theorem nod_inj {l : List Du} (hn : (l.map (·.2)).Nodup) {i j : Nat} (hi : i < l.length) (hj : j < l.length) (h : (gD l i).2 = (gD l j).2) : i = j := by
  rw [gD_of hi, gD_of hj] at h
  have hp := List.pairwise_iff_getElem.1 hn
  rcases Nat.lt_trichotomy i j with k | k | k
  · exact absurd (by rw [List.getElem_map, List.getElem_map]; exact h) (hp i j (by simpa using hi) (by simpa using hj) k)
  · exact k
  · exact absurd (by rw [List.getElem_map, List.getElem_map]; exact h.symm) (hp j i (by simpa using hj) (by simpa using hi) k)
theorem posD_some {l : List Du} {k : Int} {i : Nat} (h : posD l k = some i) : i < l.length ∧ (gD l i).2 = k := by
  unfold posD at h
  rw [List.findIdx?_eq_some_iff_getElem] at h
  obtain ⟨hi, h1, _⟩ := h
  exact ⟨hi, by rw [gD_of hi]; simpa using h1⟩
theorem posD_iff {l : List Du} (hn : (l.map (·.2)).Nodup) (k : Int) (i : Nat) : posD l k = some i ↔ i < l.length ∧ (gD l i).2 = k := by
  refine ⟨posD_some, fun ⟨hi, hk⟩ => ?_⟩
  unfold posD
  rw [List.findIdx?_eq_some_iff_getElem]
  refine ⟨hi, by rw [gD_of hi] at hk; simpa using hk, fun j hj => ?_⟩
  have hne : ¬ l[j].2 = k := fun e => by
    have := nod_inj hn (Nat.lt_trans hj hi) hi (by rw [gD_of (Nat.lt_trans hj hi), e, hk])
    omega
  simpa using hne
theorem posD_none {l : List Du} {k : Int} : posD l k = none ↔ ∀ x ∈ l, x.2 ≠ k := by
  unfold posD
  rw [List.findIdx?_eq_none_iff]
  constructor
  · intro h x hx; simpa using h x hx
  · intro h x hx; simpa using h x hx
theorem opt_ext {a b : Option Nat} (h : ∀ i, a = some i ↔ b = some i) : a = b := by
  cases a with
  | none =>
    cases b with
    | none => rfl
    | some j => exact absurd ((h j).2 rfl) (by simp)
  | some i => exact ((h i).1 rfl).symm

theorem swD_nod {l : List Du} {i j : Nat} (hn : (l.map (·.2)).Nodup) (hi : i < l.length) (hj : j < l.length) : ((swD l i j).map (·.2)).Nodup := ((swD_perm hi hj).map (·.2)).nodup_iff.2 hn
theorem posD_swap {l : List Du} {i j : Nat} (hn : (l.map (·.2)).Nodup) (hi : i < l.length) (hj : j < l.length) :
    updP (updP (posD l) (gD (swD l i j) i).2 (some i)) (gD (swD l i j) j).2 (some j) = posD (swD l i j) := by
  funext k
  refine opt_ext fun t => ?_
  have ej : gD (swD l i j) j = gD l i := by rw [swD_get hi hj, if_pos rfl]
  have ei : gD (swD l i j) i = if i = j then gD l i else gD l j := by rw [swD_get hi hj, if_pos rfl]
  rw [posD_iff (swD_nod hn hi hj), swD_length, ei, ej, swD_get hi hj]
  unfold updP
  by_cases h1 : k = (gD l i).2
  · subst h1
    rw [if_pos rfl]
    constructor
    · intro h; injection h with h; subst h; exact ⟨hj, by rw [if_pos rfl]⟩
    · rintro ⟨ht, h⟩
      by_cases e : t = j
      · rw [e]
      · rw [if_neg e] at h
        by_cases e2 : t = i
        · rw [if_pos e2] at h
          have := nod_inj hn hj hi h
          omega
        · rw [if_neg e2] at h
          exact absurd (nod_inj hn ht hi h) e2
  · rw [if_neg h1]
    by_cases hij : i = j
    · subst hij
      rw [if_pos rfl, if_neg h1, posD_iff hn]
      constructor
      · rintro ⟨ht, h⟩
        have hti : t ≠ i := fun e => h1 (by rw [← h, e])
        exact ⟨ht, by rw [if_neg hti, if_neg hti]; exact h⟩
      · rintro ⟨ht, h⟩
        by_cases hti : t = i
        · rw [if_pos hti] at h; exact absurd h.symm h1
        · rw [if_neg hti, if_neg hti] at h; exact ⟨ht, h⟩
    · rw [if_neg hij]
      by_cases h2 : k = (gD l j).2
      · subst h2
        rw [if_pos rfl]
        constructor
        · intro h; injection h with h; subst h; exact ⟨hi, by rw [if_neg hij, if_pos rfl]⟩
        · rintro ⟨ht, h⟩
          by_cases e : t = j
          · rw [if_pos e] at h; exact absurd h.symm h1
          · rw [if_neg e] at h
            by_cases e2 : t = i
            · rw [e2]
            · rw [if_neg e2] at h
              exact absurd (nod_inj hn ht hj h) e
      · rw [if_neg h2, posD_iff hn]
        constructor
        · rintro ⟨ht, h⟩
          have h3 : t ≠ i := fun e => h1 (by rw [← h, e])
          have h4 : t ≠ j := fun e => h2 (by rw [← h, e])
          exact ⟨ht, by rw [if_neg h4, if_neg h3]; exact h⟩
        · rintro ⟨ht, h⟩
          by_cases h4 : t = j
          · rw [if_pos h4] at h; exact absurd h.symm h1
          · rw [if_neg h4] at h
            by_cases h3 : t = i
            · rw [if_pos h3] at h; exact absurd h.symm h2
            · rw [if_neg h3] at h; exact ⟨ht, h⟩
theorem push_nod {l : List Du} {d : Du} (hn : (l.map (·.2)).Nodup) (hd : posD l d.2 = none) : ((l ++ [d]).map (·.2)).Nodup := by
  rw [List.map_append, List.nodup_append]
  refine ⟨hn, by simp, ?_⟩
  intro a ha b hb
  obtain ⟨x, hx, rfl⟩ := List.mem_map.1 ha
  simp at hb
  subst hb
  exact posD_none.1 hd x hx
theorem posD_push {l : List Du} {d : Du} (hn : (l.map (·.2)).Nodup) (hd : posD l d.2 = none) : updP (posD l) d.2 (some l.length) = posD (l ++ [d]) := by
  funext k
  refine opt_ext fun t => ?_
  rw [posD_iff (push_nod hn hd), List.length_append, List.length_singleton]
  unfold updP
  have hl : gD (l ++ [d]) l.length = d := by simp [gD]
  by_cases h : k = d.2
  · subst h
    rw [if_pos rfl]
    constructor
    · intro e; injection e with e; subst e; exact ⟨by omega, by rw [hl]⟩
    · rintro ⟨ht, e⟩
      by_cases e2 : t < l.length
      · rw [gD_append e2] at e
        exact absurd e (posD_none.1 hd _ (by rw [gD_of e2]; exact List.getElem_mem _))
      · rw [show t = l.length by omega]
  · rw [if_neg h, posD_iff hn]
    constructor
    · rintro ⟨ht, e⟩; exact ⟨by omega, by rw [gD_append ht]; exact e⟩
    · rintro ⟨ht, e⟩
      by_cases e2 : t < l.length
      · rw [gD_append e2] at e; exact ⟨e2, e⟩
      · rw [show t = l.length by omega, hl] at e; exact absurd e.symm h
theorem take_nod {l : List Du} (hn : (l.map (·.2)).Nodup) (n : Nat) : ((l.take n).map (·.2)).Nodup := by
  rw [List.map_take]; exact List.Nodup.sublist (List.take_sublist _ _) hn
theorem posD_pop {l : List Du} (hn : (l.map (·.2)).Nodup) (h0 : 0 < l.length) : updP (posD l) (gD l (l.length - 1)).2 none = posD (l.take (l.length - 1)) := by
  funext k
  refine opt_ext fun t => ?_
  rw [posD_iff (take_nod hn _), List.length_take, Nat.min_eq_left (Nat.sub_le _ _)]
  unfold updP
  by_cases h : k = (gD l (l.length - 1)).2
  · subst h
    rw [if_pos rfl]
    constructor
    · intro e; cases e
    · rintro ⟨ht, e⟩
      rw [gD_take ht] at e
      have := nod_inj hn (by omega) (by omega) e
      omega
  · rw [if_neg h, posD_iff hn]
    constructor
    · rintro ⟨ht, e⟩
      have h2 : t < l.length - 1 := by
        rcases Nat.lt_or_ge t (l.length - 1) with h2 | h2
        · exact h2
        · rw [show t = l.length - 1 by omega] at e; exact absurd e.symm h
      exact ⟨h2, by rw [gD_take h2]; exact e⟩
    · rintro ⟨ht, e⟩
      rw [gD_take ht] at e
      exact ⟨by omega, e⟩
theorem set_nums (l : List Du) (i : Nat) (t : Int) : (l.set i (t, (gD l i).2)).map (·.2) = l.map (·.2) := by
  apply List.ext_getElem?
  intro j
  rw [List.getElem?_map, List.getElem?_map, List.getElem?_set]
  by_cases h : i = j
  · subst h
    rw [if_pos rfl]
    by_cases h2 : i < l.length
    · rw [if_pos h2, List.getElem?_eq_getElem h2, gD_of h2]; rfl
    · rw [if_neg h2, List.getElem?_eq_none (by omega)]
  · rw [if_neg h]
theorem posD_nums {l m : List Du} (h : l.map (·.2) = m.map (·.2)) : posD l = posD m := by
  funext k
  have e : ∀ l : List Du, posD l k = (l.map (·.2)).findIdx? (fun x => decide (x = k)) := fun l => by
    unfold posD; rw [List.findIdx?_map]; rfl
  rw [e, e, h]
theorem posD_len {l : List Du} {k : Int} {i : Nat} (h : posD l k = some i) : i < l.length := (posD_some h).1
end Go.Proofs.Ytdaicdaakegdmaa
