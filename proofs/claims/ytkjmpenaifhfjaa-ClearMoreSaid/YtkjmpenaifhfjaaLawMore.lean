/- The law ClearMore: its walk. -/
import Derived.Test.YtkjmpenaifhfjaaLawBest
import Derived.Test.YtkjmpenaifhfjaaMore
namespace Go.Proofs.Ytkjmpenaifhfjaa
open Go.RowKit Go.Maps
open Go.ChangeMaps Go.WideMaps

theorem OwnB.push {wr Z w7 : World} {base : Nat} {A' A1 A7 : Option Addr} {c' c1 c7 r : Nat} {hs' : List Hdr} {ms : List (List Offer)} {l : List Offer} (ho : OwnB wr base A' c' hs' ms) (hms : ms.length = r) (hb : Below wr.heap.size wr Z)
    (hrow : Z.ownsRow base 51 2 (.slice A1 l.length c1) l.length (cells2 offV l)) (hg : Z.grownBy w7 (Value.slice A' r c').ownBlock)
    (hown : w7.ownsRow base 52 1 (.slice A7 (r + 1) c7) (r + 1) (List.zipWith hdrV hs' ms ++ [.slice A1 l.length c1])) : OwnB w7 base A7 c7 (hs' ++ [(A1, c1)]) (ms ++ [l]) := by
  subst hms
  have hH := own_below ho.hdr hb (Nat.le_refl _)
  have hne : ∀ {size n : Nat} {v : Value} {xs : List Value}, Z.ownsRow base 51 size v n xs → w7.ownsRow base 51 size v n xs := by
    intro size n v xs ho
    refine own_far ho hg ?_
    rcases hH.2 with ⟨h1, _⟩ | ⟨g, cap, cur, h1, _, hh, _⟩
    · rw [h1]
      rcases ho.2 with ⟨rfl, _⟩ | ⟨g', cap', cur', rfl, _⟩
      · exact .inr rfl
      · exact .inl (by simp [Value.ownBlock])
    · left
      rw [h1]
      exact own_ne ho hh (by simp)
  refine ⟨by simp [ho.len], ?_, ?_, ?_⟩
  · rw [List.length_append, List.length_singleton, List.zipWith_append (by rw [ho.len])]
    exact hown
  · intro j hd l' hj hl'
    rcases Nat.lt_or_ge j ms.length with h1 | h1
    · rw [List.getElem?_append_left (by rw [ho.len]; exact h1)] at hj
      rw [List.getElem?_append_left h1] at hl'
      exact hne (own_below (ho.row j hd l' hj hl') hb (Nat.le_refl _))
    · rw [List.getElem?_append_right (by rw [ho.len]; exact h1), ho.len] at hj
      rw [List.getElem?_append_right h1] at hl'
      have hj0 : j - ms.length = 0 := by
        rcases Nat.eq_zero_or_pos (j - ms.length) with h2 | h2
        · exact h2
        · rw [List.getElem?_eq_none (by simp; omega)] at hj; cases hj
      rw [hj0] at hj hl'
      simp at hj hl'
      subst hj hl'
      exact hne hrow
  · intro hd hh e
    rcases List.mem_append.1 hh with h1 | h1
    · exact ho.nil hd h1 e
    · simp at h1
      subst h1
      simp only at e
      subst e
      rcases hrow.2 with ⟨h1, _⟩ | ⟨g, cap, cur, h1, _⟩
      · injection h1
      · injection h1 with h1; cases h1
theorem OwnB.setc {w : World} {base : Nat} {A : Option Addr} {c : Nat} {hs : List Hdr} {ls : List (List Offer)} (h : OwnB w base A c hs ls) {b i : Nat} (hp : b < base) (v : Value) : OwnB (w.setCell ⟨b, i, none⟩ v) base A c hs ls := by
  have hf : ∀ {e size n : Nat} {u : Value} {xs : List Value}, w.ownsRow base e size u n xs → (w.setCell ⟨b, i, none⟩ v).ownsRow base e size u n xs := fun h => ownsRow_setCell_other h (fun e => by have := (h.lt _ e).1; simp only at this; omega) _
  exact ⟨h.len, hf h.hdr, fun i a l ha hl => hf (h.row i a l ha hl), h.nil⟩
theorem OwnB.apart {w w' : World} {base : Nat} {A : Option Addr} {c : Nat} {hs : List Hdr} {ls : List (List Offer)} (h : OwnB w base A c hs ls) {p : Nat} (hg : w.grownBy w' (some p)) (hp : p < base) : OwnB w' base A c hs ls :=
  h.far hg (fun j hj => .inr (.inl (by injection hj with hj; omega)))

theorem grown_below {w w' : World} (h : Below w.heap.size w w') : w.grownBy w' none := ⟨h.os, h.tape, h.output, h.size, fun k hk _ => h.block k hk⟩

/-- The greatest coins. -/
def mostI (l : List Offer) : Int := l.foldl (fun m o => max m o.2) 0
theorem most_snoc (l : List Offer) (o : Offer) : mostI (l ++ [o]) = max (mostI l) o.2 := by simp [mostI]
theorem most_ge (l : List Offer) : 0 ≤ mostI l ∧ ∀ o ∈ l, o.2 ≤ mostI l := by
  have key : ∀ (l : List Offer) (m : Int), m ≤ l.foldl (fun m o => max m o.2) m ∧ ∀ o ∈ l, o.2 ≤ l.foldl (fun m o => max m o.2) m := by
    intro l
    induction l with
    | nil => exact fun m => ⟨Int.le_refl _, fun o ho => by cases ho⟩
    | cons p l ih =>
      intro m
      have h1 := ih (max m p.2)
      refine ⟨Int.le_trans (Int.le_max_left m p.2) h1.1, fun o ho => ?_⟩
      rcases List.mem_cons.1 ho with rfl | ho
      · exact Int.le_trans (Int.le_max_right m o.2) h1.1
      · exact h1.2 o ho
  exact key l 0
theorem most_le {M : Int} (h0 : 0 ≤ M) (l : List Offer) (h : ∀ o ∈ l, o.2 ≤ M) : mostI l ≤ M := by
  have key : ∀ (l : List Offer) (m : Int), m ≤ M → (∀ o ∈ l, o.2 ≤ M) → l.foldl (fun m o => max m o.2) m ≤ M := by
    intro l
    induction l with
    | nil => exact fun m h _ => h
    | cons p l ih =>
      intro m hm hl
      exact ih _ (Int.max_le.2 ⟨hm, hl p (List.mem_cons_self ..)⟩) (fun o ho => hl o (List.mem_cons_of_mem _ ho))
  exact key l 0 h0 h
/-- What the other way round is. -/
def turnL (ls : List (List Offer)) : List (List Offer) := (ls.map List.reverse).reverse
theorem turn_len (ls : List (List Offer)) : (turnL ls).length = ls.length := by simp [turnL]
theorem turn_at {ls : List (List Offer)} {r i : Nat} {l : List Offer} (h : ls[i]? = some l) (hr : r + i + 1 = ls.length) : (turnL ls)[r]? = some l.reverse := by
  unfold turnL
  rw [List.getElem?_reverse (by simp; omega)]
  simp only [List.length_map]
  rw [show ls.length - 1 - r = i by omega, List.getElem?_map, h]
  rfl
def moreL (ls : List (List Offer)) (k : Nat) (o : Offer) : List (List Offer) := ls.modify k (· ++ [o])
theorem more_len (ls : List (List Offer)) (k : Nat) (o : Offer) : (moreL ls k o).length = ls.length := by simp [moreL]
theorem more_at {ls : List (List Offer)} {r k : Nat} {o : Offer} {l : List Offer} (h : ls[r]? = some l) : (moreL ls k o)[r]? = some (if k = r then l ++ [o] else l) := by
  unfold moreL
  rw [List.getElem?_modify, h]
  split <;> rfl
theorem take_snoc {α : Type} {ls : List α} {r : Nat} {x : α} (h : ls[r]? = some x) : ls.take (r + 1) = ls.take r ++ [x] := by
  rw [List.take_add_one, h]; rfl
theorem wide_turn {ls : List (List Offer)} (h : BWide ls) : BWide (turnL ls) := fun l hl => by
  unfold turnL at hl
  rw [List.mem_reverse] at hl
  obtain ⟨m, hm, rfl⟩ := List.mem_map.1 hl
  exact fun o ho => h m hm o (List.mem_reverse.1 ho)
theorem mem_more {ls : List (List Offer)} {k : Nat} {o : Offer} {l : List Offer} (h : l ∈ moreL ls k o) : ∃ m ∈ ls, l = m ∨ l = m ++ [o] := by
  obtain ⟨i, hi⟩ := List.getElem?_of_mem h
  cases hm : ls[i]? with
  | none =>
    have h1 := (List.getElem?_eq_some_iff.1 hi).1
    rw [more_len] at h1
    rw [List.getElem?_eq_getElem h1] at hm
    cases hm
  | some m =>
    rw [more_at hm] at hi
    injection hi with hi
    refine ⟨m, List.mem_of_getElem? hm, ?_⟩
    split at hi
    · exact .inr hi.symm
    · exact .inl hi.symm
theorem wide_more {ls : List (List Offer)} (h : BWide ls) (k : Nat) {o : Offer} (ho : o.1 < 4294967296 ∧ -9223372036854775808 ≤ o.2 ∧ o.2 ≤ 9223372036854775807) : BWide (moreL ls k o) := fun l hl => by
  obtain ⟨m, hm, rfl | rfl⟩ := mem_more hl
  · exact h _ hm
  · intro p hp
    rcases List.mem_append.1 hp with hp | hp
    · exact h m hm p hp
    · simp at hp; subst hp; exact ho

theorem from_ok {n : Int} {ls : List (List Offer)} (hw : BWide ls) (h : instE n ls = 0) (k : Nat) (hk : k ≤ ls.length) : fromI n ls k (allI n) = (bestW (ls.drop k) (allI n), 0) := by
  have hg := instE_good hw h
  have h1 : mayE n ls k (allI n) = 0 := by
    unfold mayE
    rw [if_neg (by simpa using h), if_neg]
    rintro (h1 | h1 | h1)
    · omega
    · omega
    · have e : allI n = allG n.toNat := by unfold allI; rw [if_neg (by have := hg.lo; have := hg.hi; omega)]
      rw [e, within_all _ _ (allG_lt _ (by have := hg.hi; omega)) (by have := hg.hi; omega), decide_eq_false_iff_not] at h1
      apply h1
      unfold allG
      have := Nat.one_le_two_pow (n := n.toNat)
      omega
  unfold fromI
  rw [if_neg (by simpa using h1)]
  simp
theorem from_bad {n : Int} {ls : List (List Offer)} (h : instE n ls ≠ 0) : (fromI n ls 0 (allI n)).2 ≠ 0 := by
  unfold fromI mayE
  rw [if_pos h, if_pos h]
  exact h
theorem from_two {n : Int} {ls : List (List Offer)} (hw : BWide ls) (h : (fromI n ls 0 (allI n)).2 = 0) : instE n ls = 0 := by
  by_cases h1 : instE n ls = 0
  · exact h1
  · exact absurd h (from_bad h1)
/-- All that the law asks of what was told. -/
structure MoreSays (n : Int) (ls : List (List Offer)) (k : Nat) (o : Offer) (W b g c d M : Int) : Prop where
  turned : fromI n (turnL ls) 0 (allI n) = (W, 0)
  more : fromI n (moreL ls k o) 0 (allI n) = (b, g)
  moreLe : g = 0 → W ≤ b
  less : (lessI n ls k).1.2 = c ∧ (lessI n ls k).2 = 0
  lessLe : c ≤ W ∧ W ≤ c + M
  part : fromI n ls k (allI n) = (d, 0)
  partLe : d ≤ W
  most : M = mostI ((ls[k]?).getD [])
  bounds : 0 ≤ c ∧ c ≤ 35184372088832 ∧ 0 ≤ M ∧ M ≤ 1099511627776
theorem more_says {n : Int} {ls : List (List Offer)} (hw : BWide ls) (h : instE n ls = 0) {k : Nat} (hk : k < ls.length) {o : Offer} (ho : o.1 < 4294967296 ∧ -9223372036854775808 ≤ o.2 ∧ o.2 ≤ 9223372036854775807) :
    ∃ b g c d M, MoreSays n ls k o (bestW ls (allI n)) b g c d M := by
  have hg := instE_good hw h
  have hn := hg.good.narrow
  have hf := allI_lt n
  have hgs : GoodB (ls.set k []) := fun l hl => by
    rcases List.mem_or_eq_of_mem_set hl with h1 | h1
    · exact hg.good l h1
    · subst h1; exact fun o ho => by cases ho
  have hless : lessI n ls k = ((choiceK (ls.set k []) 0 (allI n), bestW (ls.set k []) (allI n)), 0) := by
    have e1 : withE n ls k [] = 0 := by
      unfold withE
      rw [if_neg (by simpa using h), if_neg (by omega), checkO_nil hg.lo hg.hi]
    unfold lessI
    rw [if_neg (by simpa using e1), Int.toNat_natCast]
    have e2 := from_ok (wide_set hw k) (instE_set h k) 0 (Nat.zero_le _)
    unfold bestI partI
    unfold fromI at e2
    split
    · rename_i h3
      have h3' : mayE n (ls.set k []) ((0 : Nat) : Int) (allI n) ≠ 0 := h3
      rw [if_pos h3'] at e2
      injection e2 with _ e2
      exact absurd e2 h3'
    · simp
  have hkl : ls[k]? = some ls[k] := List.getElem?_eq_getElem hk
  have hm := most_ge ls[k]
  have hbd := bestW_bd (ls.set k []) hgs (allI n)
  have hfew := hg.few
  simp only [List.length_set] at hbd
  refine ⟨(fromI n (moreL ls k o) 0 (allI n)).1, (fromI n (moreL ls k o) 0 (allI n)).2, bestW (ls.set k []) (allI n), bestW (ls.drop k) (allI n), mostI ls[k], ?_, rfl, fun hz => ?_, ?_, ⟨?_, ?_⟩, from_ok hw h k (by omega), bestW_drop .., by rw [hkl]; rfl, ?_⟩
  · have := from_ok (wide_turn hw) (instE_turned h) 0 (Nat.zero_le _)
    rw [List.drop_zero] at this
    rw [show turnL ls = (ls.map List.reverse).reverse from rfl] at this ⊢
    rw [bestW_turned hn hf] at this
    exact this
  · have h1 := from_two (wide_more hw k ho) hz
    have := from_ok (wide_more hw k ho) h1 0 (Nat.zero_le _)
    have e : fromI n (moreL ls k o) 0 (allI n) = (bestW (moreL ls k o) (allI n), 0) := this
    rw [e]
    exact bestW_more _ _ (MoreB.modify o ls k) _
  · rw [hless]; exact ⟨rfl, rfl⟩
  · exact bestW_more _ _ (MoreB.set_nil ls k) _
  · exact bestW_without ls k hn _ hm.1 (by rw [hkl]; exact hm.2) _ hf
  · have h1 := most_le (M := 1099511627776) (by omega) ls[k] (fun o ho => (hg.good _ (List.getElem_mem hk) o ho).2.2.2)
    exact ⟨hbd.1, by omega, hm.1, h1⟩
end Go.Proofs.Ytkjmpenaifhfjaa
