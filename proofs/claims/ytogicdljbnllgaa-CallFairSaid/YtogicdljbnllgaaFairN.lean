/- For the law CallFair: the copies of the shares. -/
import Derived.Test.YtogicdljbnllgaaFairM
import Derived.Test.YtogicdljbnllgaaMost
namespace Go.Proofs.Ytogicdljbnllgaa
open Go.Shelf Go.RowKit Go.Lib Go.Sort Go.Proofs

theorem own_keep {w w' : World} {B e size n : Nat} {v : Value} {xs : List Value} (h : w.ownsRow B e size v n xs) (hs : ∀ k, v.ownBlock = some k → w'.heap[k]? = w.heap[k]?) : w'.ownsRow B e size v n xs := by
  obtain ⟨h1, h2⟩ := h
  refine ⟨h1, ?_⟩
  rcases h2 with h2 | ⟨g, cap, cur, rfl, a2, a3, a4⟩
  · exact .inl h2
  · exact .inr ⟨g, cap, cur, rfl, a2, (hs g rfl).trans a3, a4⟩
theorem own_form {w : World} {B e size n : Nat} {v : Value} {xs : List Value} (h : w.ownsRow B e size v n xs) (hn : 0 < n) : ∃ g cap, v = .slice (some ⟨g, 0, none⟩) n cap := by
  rcases h.2 with ⟨_, h1⟩ | ⟨g, cap, cur, h1, _⟩
  · omega
  · exact ⟨g, cap, h1⟩
theorem split_fair (pr tr lo hi P : Int) (v1 v2 : Value) (n1 n2 : Nat) (A1 A2 : Option Addr) (h1 : v1 = .slice A1 n1 n1) (h2 : v2 = .slice A2 n2 n2) (hP : P = pr * tr) (h0 : 0 ≤ P) (h3 : P ≤ 576460752303423488) (w : World) :
    Calls Try.prog 23 #[.agg #[.int .i64 pr, .int .i64 tr, .int .i64 lo, .int .i64 hi, v1, v2]] w (ValPost (.tuple #[.int .i64 P, .int .i64 P]) w) := by
  have h := split_any pr tr lo hi v1 v2 n1 n2 A1 A2 h1 h2 w
  have e : wrap64 (pr * tr) = P := by rw [← hP]; unfold wrap64; omega
  simp only [e] at h
  exact h
/-- The two copies while they are made: which of the four is there. -/
structure MidF (B0 : Nat) (w8 : World) (f1 f2 f3 f4 : Bool) (y1 y2 : Value) (p1 p2 n m : Nat) (l1 l2 : List Int) (W : World) : Prop where
  bel : Below w8.heap.size w8 W
  lo : B0 ≤ w8.heap.size
  a1 : f1 = true → W.ownsRow B0 3 1 y1 n (l1.map (Value.int .i64))
  a2 : f2 = true → W.ownsRow B0 3 1 y2 m (l2.map (Value.int .i64))
  ne : f1 = true → f2 = true → ∀ k, y1.ownBlock = some k → y2.ownBlock ≠ some k
  a3 : f3 = true → W.heap[p1]? = some (.cells #[.slice none 0 0] 26 (0, 0)) ∧ B0 ≤ p1
  a4 : f4 = true → W.heap[p2]? = some (.cells #[.slice none 0 0] 26 (0, 0)) ∧ B0 ≤ p2
  np : f3 = true → f4 = true → p1 ≠ p2
section
variable {B0 : Nat} {w8 W W' : World} {f1 f2 f3 f4 : Bool} {y1 y2 : Value} {p1 p2 n m : Nat} {l1 l2 : List Int}
theorem MidF.start (h : B0 ≤ w8.heap.size) (y1 y2 : Value) (p1 p2 n m : Nat) (l1 l2 : List Int) : MidF B0 w8 false false false false y1 y2 p1 p2 n m l1 l2 w8 :=
  ⟨Below.refl _ _, h, fun h => (by cases h), fun h => (by cases h), fun h => (by cases h), fun h => (by cases h), fun h => (by cases h), fun h => (by cases h)⟩
theorem MidF.app1 (h : MidF B0 w8 false false f3 f4 y1 y2 p1 p2 n m l1 l2 W) {v' : Value} (hown : W'.ownsRow W.heap.size 3 1 v' n (l1.map (Value.int .i64))) (hg : W.grownBy W' none) : MidF B0 w8 true false f3 f4 v' y2 p1 p2 n m l1 l2 W' :=
  have hb : Below W.heap.size W W' := (Below.refl _ _).grown hg (Nat.le_refl _) (fun k e => (by cases e))
  ⟨h.bel.trans (hb.mono h.bel.size), h.lo, fun _ => own_base hown (Nat.le_trans h.lo h.bel.size), fun h => (by cases h), fun _ h => (by cases h), fun f => ⟨(hb.block _ (lt_of_block (h.a3 f).1)).trans (h.a3 f).1, (h.a3 f).2⟩, fun f => ⟨(hb.block _ (lt_of_block (h.a4 f).1)).trans (h.a4 f).1, (h.a4 f).2⟩, h.np⟩
theorem MidF.app2 (h : MidF B0 w8 true false f3 f4 y1 y2 p1 p2 n m l1 l2 W) {v' : Value} (hown : W'.ownsRow W.heap.size 3 1 v' m (l2.map (Value.int .i64))) (hg : W.grownBy W' none) : MidF B0 w8 true true f3 f4 y1 v' p1 p2 n m l1 l2 W' :=
  have hb : Below W.heap.size W W' := (Below.refl _ _).grown hg (Nat.le_refl _) (fun k e => (by cases e))
  ⟨h.bel.trans (hb.mono h.bel.size), h.lo, fun _ => own_below (h.a1 rfl) hb (Nat.le_refl _), fun _ => own_base hown (Nat.le_trans h.lo h.bel.size), fun _ _ k e1 e2 => by
    have h1 := ((h.a1 rfl).lt k e1).2
    have h2 := (hown.lt k e2).1
    omega, fun f => ⟨(hb.block _ (lt_of_block (h.a3 f).1)).trans (h.a3 f).1, (h.a3 f).2⟩, fun f => ⟨(hb.block _ (lt_of_block (h.a4 f).1)).trans (h.a4 f).1, (h.a4 f).2⟩, h.np⟩
theorem MidF.al3 (h : MidF B0 w8 f1 f2 false f4 y1 y2 p1 p2 n m l1 l2 W) : MidF B0 w8 f1 f2 true f4 y1 y2 W.heap.size p2 n m l1 l2 (W.alloc (.cells #[.slice none 0 0] 26)) :=
  have hb : Below W.heap.size W (W.alloc (.cells #[.slice none 0 0] 26)) := (Below.refl _ _).alloc (Nat.le_refl _) _
  ⟨h.bel.trans (hb.mono h.bel.size), h.lo, fun f => own_below (h.a1 f) hb (Nat.le_refl _), fun f => own_below (h.a2 f) hb (Nat.le_refl _), h.ne, fun _ => ⟨heap_alloc_new W _, Nat.le_trans h.lo h.bel.size⟩, fun f => ⟨(hb.block _ (lt_of_block (h.a4 f).1)).trans (h.a4 f).1, (h.a4 f).2⟩, fun _ f => by have := lt_of_block (h.a4 f).1; omega⟩
theorem MidF.al4 (h : MidF B0 w8 f1 f2 f3 false y1 y2 p1 p2 n m l1 l2 W) : MidF B0 w8 f1 f2 f3 true y1 y2 p1 W.heap.size n m l1 l2 (W.alloc (.cells #[.slice none 0 0] 26)) :=
  have hb : Below W.heap.size W (W.alloc (.cells #[.slice none 0 0] 26)) := (Below.refl _ _).alloc (Nat.le_refl _) _
  ⟨h.bel.trans (hb.mono h.bel.size), h.lo, fun f => own_below (h.a1 f) hb (Nat.le_refl _), fun f => own_below (h.a2 f) hb (Nat.le_refl _), h.ne, fun f => ⟨(hb.block _ (lt_of_block (h.a3 f).1)).trans (h.a3 f).1, (h.a3 f).2⟩, fun _ => ⟨heap_alloc_new W _, Nat.le_trans h.lo h.bel.size⟩, fun f _ => by have := lt_of_block (h.a3 f).1; omega⟩
/-- The two copies, made. -/
structure Cop (w8 : World) (p1 p2 : Nat) (y1 y2 : Value) (n m : Nat) (l1 l2 : List Int) (W : World) : Prop where
  bel : Below w8.heap.size w8 W
  b : W.heap[p1]? = some (.cells #[y1] 26 (0, 0))
  s : W.heap[p2]? = some (.cells #[y2] 26 (0, 0))
  rb : W.ownsRow w8.heap.size 3 1 y1 n (l1.map (Value.int .i64))
  rs : W.ownsRow w8.heap.size 3 1 y2 m (l2.map (Value.int .i64))
  ne : ∀ k, y1.ownBlock = some k → y2.ownBlock ≠ some k
  nb : y1.ownBlock ≠ some p1 ∧ y1.ownBlock ≠ some p2 ∧ y2.ownBlock ≠ some p1 ∧ y2.ownBlock ≠ some p2
  lo : w8.heap.size ≤ p1 ∧ w8.heap.size ≤ p2
theorem MidF.done (h : MidF B0 w8 true true true true y1 y2 p1 p2 n m l1 l2 W) (hB : B0 = w8.heap.size) : Cop w8 p1 p2 y1 y2 n m l1 l2 ((W.setCell ⟨p1, 0, none⟩ y1).setCell ⟨p2, 0, none⟩ y2) := by
  subst hB
  have hne : ∀ (v : Value) (k r : Nat) (xs : List Value) (p : Nat), W.ownsRow w8.heap.size 3 1 v r xs → W.heap[p]? = some (.cells #[.slice none 0 0] 26 (0, 0)) → v.ownBlock ≠ some p := fun v k r xs p h1 h2 => own_ne h1 h2 (fun cur e => by injection e with _ e _; exact absurd e (by decide))
  obtain ⟨h3, l3⟩ := h.a3 rfl
  obtain ⟨h4, l4⟩ := h.a4 rfl
  have n11 := hne y1 0 _ _ _ (h.a1 rfl) h3
  have n12 := hne y1 0 _ _ _ (h.a1 rfl) h4
  have n21 := hne y2 0 _ _ _ (h.a2 rfl) h3
  have n22 := hne y2 0 _ _ _ (h.a2 rfl) h4
  have hnp := h.np rfl rfl
  refine ⟨(h.bel.setCell l3 _).setCell l4 _, ?_, ?_, ?_, ?_, h.ne rfl rfl, ⟨n11, n12, n21, n22⟩, ⟨l3, l4⟩⟩
  · exact (Below.heap_setCell _ _ _ _ hnp).trans (setCell_block h3 0 _)
  · exact setCell_block ((Below.heap_setCell _ _ _ _ (fun e => hnp e.symm)).trans h4) 0 _
  · exact ownsRow_setCell_other (ownsRow_setCell_other (h.a1 rfl) n11 _) n12 _
  · exact ownsRow_setCell_other (ownsRow_setCell_other (h.a2 rfl) n21 _) n22 _
end
/-- How far the fills are gone over. -/
structure FrI (B : Nat) (w9 : World) (y1 y2 : Value) (n m : Nat) (l1 l2 : List Int) (pre : List Trd) (W : World) : Prop where
  t : Turns (fun k => y1.ownBlock = some k ∨ y2.ownBlock = some k) w9 W
  b : W.ownsRow B 3 1 y1 n ((remB l1 pre).map (Value.int .i64))
  s : W.ownsRow B 3 1 y2 m ((remS l2 pre).map (Value.int .i64))
section
variable {B : Nat} {w9 W W' : World} {y1 y2 : Value} {n m : Nat} {l1 l2 : List Int} {pre : List Trd}
theorem FrI.low (h1 : ∀ k, y1.ownBlock = some k → k < w9.heap.size) (h2 : ∀ k, y2.ownBlock = some k → k < w9.heap.size) : LowFrom w9.heap.size (FrI B w9 y1 y2 n m l1 l2) := fun s A C h hb =>
  ⟨⟨hb.os.trans h.t.os, hb.tape.trans h.t.tape, hb.output.trans h.t.output, Nat.le_trans h.t.size hb.size, fun k hk hn => (hb.block k hk).trans (h.t.block k hk hn)⟩, own_keep h.b (fun k e => hb.block k (h1 k e)), own_keep h.s (fun k e => hb.block k (h2 k e))⟩
theorem mapI_set (l : List Int) (i : Nat) (x : Int) : (l.map (Value.int .i64)).set i (.int .i64 x) = (l.set i x).map (Value.int .i64) := by rw [List.map_set]
theorem addAt_eq {l : List Int} {i : Nat} {x : Int} (h : l[i]? = some x) (n : Int) : addAt l i n = l.set i (x + n) := by unfold addAt; rw [getD_of h]
theorem FrI.setb {g cap i : Nat} {x c : Int} (h : FrI B w9 (.slice (some ⟨g, 0, none⟩) n cap) y2 n m l1 l2 pre W) (hne : y2.ownBlock ≠ some g) (hx : (remB l1 pre)[i]? = some x) :
    Turns (fun k => (Value.slice (some ⟨g, 0, none⟩) n cap).ownBlock = some k ∨ y2.ownBlock = some k) w9 ((W.setCell ⟨g, i, none⟩ (.int .i64 (x - c))).drew) ∧ ((W.setCell ⟨g, i, none⟩ (.int .i64 (x - c))).drew).ownsRow B 3 1 (.slice (some ⟨g, 0, none⟩) n cap) n ((addAt (remB l1 pre) i (-c)).map (Value.int .i64)) ∧ ((W.setCell ⟨g, i, none⟩ (.int .i64 (x - c))).drew).ownsRow B 3 1 y2 m ((remS l2 pre).map (Value.int .i64)) := by
  refine ⟨h.t.trans ⟨rfl, rfl, rfl, by simp [World.drew], fun j hj hn => Below.heap_setCell W _ _ j (fun e => hn (.inl (by rw [e]; rfl)))⟩, ?_, ?_⟩
  · have := (h.b.stored i (.int .i64 (x - c))).1
    rw [mapI_set] at this
    rw [addAt_eq hx, show x + -c = x - c by omega]
    exact own_keep this (fun _ _ => rfl)
  · exact own_keep (ownsRow_setCell_other h.s hne _) (fun _ _ => rfl)
theorem own_sets {g cap i : Nat} {x c : Int} {l l' : List Int} (ht : Turns (fun k => y1.ownBlock = some k ∨ (Value.slice (some ⟨g, 0, none⟩) m cap).ownBlock = some k) w9 W) (hb : W.ownsRow B 3 1 y1 n (l'.map (Value.int .i64))) (hs : W.ownsRow B 3 1 (.slice (some ⟨g, 0, none⟩) m cap) m (l.map (Value.int .i64))) (hne : y1.ownBlock ≠ some g) (hx : l[i]? = some x) :
    Turns (fun k => y1.ownBlock = some k ∨ (Value.slice (some ⟨g, 0, none⟩) m cap).ownBlock = some k) w9 ((W.setCell ⟨g, i, none⟩ (.int .i64 (x - c))).drew) ∧ ((W.setCell ⟨g, i, none⟩ (.int .i64 (x - c))).drew).ownsRow B 3 1 y1 n (l'.map (Value.int .i64)) ∧ ((W.setCell ⟨g, i, none⟩ (.int .i64 (x - c))).drew).ownsRow B 3 1 (.slice (some ⟨g, 0, none⟩) m cap) m ((addAt l i (-c)).map (Value.int .i64)) := by
  refine ⟨ht.trans ⟨rfl, rfl, rfl, by simp [World.drew], fun j hj hn => Below.heap_setCell W _ _ j (fun e => hn (.inr (by rw [e]; rfl)))⟩, own_keep (ownsRow_setCell_other hb hne _) (fun _ _ => rfl), ?_⟩
  have := (hs.stored i (.int .i64 (x - c))).1
  rw [mapI_set] at this
  rw [addAt_eq hx, show x + -c = x - c by omega]
  exact own_keep this (fun _ _ => rfl)
theorem own_cell {g cap i : Nat} {x : Int} {l : List Int} (h : W.ownsRow B 3 1 (.slice (some ⟨g, 0, none⟩) n cap) n (l.map (Value.int .i64))) (hx : l[i]? = some x) : W.cell? ⟨g, i, none⟩ = some (.int .i64 x) := by
  have hl : (l.map (Value.int .i64)).length = n * 1 := h.1
  rw [List.length_map] at hl
  have hi := (List.getElem?_eq_some_iff.1 hx).1
  rw [h.cellAt i (by omega), List.getElem?_map, hx]
  rfl
end
end Go.Proofs.Ytogicdljbnllgaa
