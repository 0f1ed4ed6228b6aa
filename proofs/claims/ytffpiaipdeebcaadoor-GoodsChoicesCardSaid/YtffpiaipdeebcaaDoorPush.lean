/- Buyers that grow by one (out of ClearMore's text). -/
import Derived.Test.YtffpiaipdeebcaaDoorCopy
namespace Go.Proofs.YtffpiaipdeebcaaDoor
open Go.RowKit Go.Maps
open Go.ChangeMaps Go.WideMaps

theorem OwnB.push {wr Z w7 : World} {base : Nat} {A' A1 A7 : Option Addr} {c' c1 c7 r : Nat} {hs' : List Hdr} {ms : List (List Offer)} {l : List Offer} (ho : OwnB wr base A' c' hs' ms) (hms : ms.length = r) (hb : Below wr.heap.size wr Z)
    (hrow : Z.ownsRow base 74 2 (.slice A1 l.length c1) l.length (cells2 offV l)) (hg : Z.grownBy w7 (Value.slice A' r c').ownBlock)
    (hown : w7.ownsRow base 63 1 (.slice A7 (r + 1) c7) (r + 1) (List.zipWith hdrV hs' ms ++ [.slice A1 l.length c1])) : OwnB w7 base A7 c7 (hs' ++ [(A1, c1)]) (ms ++ [l]) := by
  subst hms
  have hH := own_below ho.hdr hb (Nat.le_refl _)
  have hne : ∀ {size n : Nat} {v : Value} {xs : List Value}, Z.ownsRow base 74 size v n xs → w7.ownsRow base 74 size v n xs := by
    intro size n v xs ho
    refine own_far ho hg ?_
    rcases hH.2 with ⟨h1, _⟩ | ⟨g, cap, cur, h1, _, hh, _⟩
    · rw [h1]
      rcases ho.2 with ⟨rfl, _⟩ | ⟨g', cap', cur', rfl, _⟩
      · exact .inr rfl
      · exact .inl (by simp [Value.ownBlock])
    · left
      rw [h1]
      exact own_ne ho hh (by simp)
  refine ⟨by simp [ho.len], ?_, ?_, ?_⟩
  · rw [List.length_append, List.length_singleton, List.zipWith_append (by rw [ho.len])]
    exact hown
  · intro j hd l' hj hl'
    rcases Nat.lt_or_ge j ms.length with h1 | h1
    · rw [List.getElem?_append_left (by rw [ho.len]; exact h1)] at hj
      rw [List.getElem?_append_left h1] at hl'
      exact hne (own_below (ho.row j hd l' hj hl') hb (Nat.le_refl _))
    · rw [List.getElem?_append_right (by rw [ho.len]; exact h1), ho.len] at hj
      rw [List.getElem?_append_right h1] at hl'
      have hj0 : j - ms.length = 0 := by
        rcases Nat.eq_zero_or_pos (j - ms.length) with h2 | h2
        · exact h2
        · rw [List.getElem?_eq_none (by simp; omega)] at hj; cases hj
      rw [hj0] at hj hl'
      simp at hj hl'
      subst hj hl'
      exact hne hrow
  · intro hd hh e
    rcases List.mem_append.1 hh with h1 | h1
    · exact ho.nil hd h1 e
    · simp at h1
      subst h1
      simp only at e
      subst e
      rcases hrow.2 with ⟨h1, _⟩ | ⟨g, cap, cur, h1, _⟩
      · injection h1
      · injection h1 with h1; cases h1
theorem OwnB.setc {w : World} {base : Nat} {A : Option Addr} {c : Nat} {hs : List Hdr} {ls : List (List Offer)} (h : OwnB w base A c hs ls) {b i : Nat} (hp : b < base) (v : Value) : OwnB (w.setCell ⟨b, i, none⟩ v) base A c hs ls := by
  have hf : ∀ {e size n : Nat} {u : Value} {xs : List Value}, w.ownsRow base e size u n xs → (w.setCell ⟨b, i, none⟩ v).ownsRow base e size u n xs := fun h => ownsRow_setCell_other h (fun e => by have := (h.lt _ e).1; simp only at this; omega) _
  exact ⟨h.len, hf h.hdr, fun i a l ha hl => hf (h.row i a l ha hl), h.nil⟩
theorem OwnB.apart {w w' : World} {base : Nat} {A : Option Addr} {c : Nat} {hs : List Hdr} {ls : List (List Offer)} (h : OwnB w base A c hs ls) {p : Nat} (hg : w.grownBy w' (some p)) (hp : p < base) : OwnB w' base A c hs ls :=
  h.far hg (fun j hj => .inr (.inl (by injection hj with hj; omega)))

end Go.Proofs.YtffpiaipdeebcaaDoor
