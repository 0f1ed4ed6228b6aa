/- What the law TicksMeanwhile holds while it goes over a calendar's dues: its boxes, the two calendars. -/
import Derived.Test.YtdaicdaakegdmaaPai
import Derived.Test.YtdaicdaakegdmaaSeqO
import Derived.Test.YtdaicdaakegdmaaOfL
namespace Go.Proofs.Ytdaicdaakegdmaa
open Go.RowKit Go.Maps Go.Shelf
open Go.ChangeMaps Go.WideMaps

/-- The numbers of what stands at the loop's start. -/
structure MwN where
  p : Nat
  r : Nat
  x : Nat
  m : Nat
  q : Nat
  b5 : Nat
  b7 : Nat
  b10 : Nat
  v0 : Value
  vd : Value
  A2 : Option Addr
  n2 : Nat
  c2 : Nat
  S : List Du
/-- All of it was made since w, ahead of the counter. -/
structure MwF (w : World) (N : MwN) : Prop where
  h3 : w.heap.size + 1 < N.b10
  h5 : N.b5 < N.b10
  h7 : N.b7 < N.b10
  hp : N.p < N.b10
  hr : N.r < N.b10
  hx : N.x < N.b10
  hm : N.m < N.b10
  hq : N.q < N.b10
  hv : ∀ g, N.v0.ownBlock = some g → g < N.b10
  hd : ∀ g, N.vd.ownBlock = some g → g < N.b10
  lo : w.heap.size ≤ N.b5 ∧ w.heap.size ≤ N.b7
structure MwX (w : World) (N : MwN) (k : Nat) (v : Value) (l S1 : List Du) (W : World) : Prop where
  b3 : W.heap[w.heap.size]? = some (.cells #[.slice N.A2 N.n2 N.c2] 22 (0, 0))
  b4 : W.heap[w.heap.size + 1]? = some (.cells #[.bool false] 4 (0, 0))
  b5 : W.heap[N.b5]? = some (.cells #[.pointer (some ⟨N.p, 0, none⟩)] 24 (0, 0))
  b7 : W.heap[N.b7]? = some (.cells #[.pointer (some ⟨N.q, 0, none⟩)] 38 (0, 0))
  b10 : W.heap[N.b10]? = some (.cells #[.int .i64 (k : Int)] 3 (0, 0))
  pair : PairW w N.p N.r N.x N.m N.q v N.vd 0 0 l S1 N.S W
  own : ∀ g, v.ownBlock = some g → N.v0.ownBlock = some g ∨ N.b10 + 3 ≤ g
/-- What a round may turn. -/
def MwP (N : MwN) (k : Nat) : Prop := k = N.p ∨ k = N.r ∨ k = N.m ∨ N.v0.ownBlock = some k ∨ k = N.b10 ∨ N.b10 + 3 ≤ k
theorem MwP.at_ {w : World} {N : MwN} (hF : MwF w N) : ¬ MwP N (N.b10 + 1) ∧ ¬ MwP N (N.b10 + 2) := by
  obtain ⟨_, _, _, hp, hr, _, hm, _, hv, _, _⟩ := hF
  constructor
  · rintro (h | h | h | h | h | h)
    · omega
    · omega
    · omega
    · have := hv _ h; omega
    · omega
    · omega
  · rintro (h | h | h | h | h | h)
    · omega
    · omega
    · omega
    · have := hv _ h; omega
    · omega
    · omega
theorem foot_not {W : World} {B p r x m : Nat} {v : Value} {now : Int} {l : List Du} (h : Cal W B p r x m v now l) {k t : Nat} {cs : Array Value} {fr : Nat × Nat} (hk : W.heap[k]? = some (.cells cs t fr)) (h1 : t ≠ 68) (h2 : t ≠ 75) (h3 : t ≠ 30) : ¬ Foot p r m v k := by
  rintro (rfl | rfl | rfl | e)
  · rw [h.tk] at hk; injection hk with hk; injection hk with _ hk _; exact h1 hk.symm
  · rw [h.rw_] at hk; injection hk with hk; injection hk with _ hk _; exact h2 hk.symm
  · obtain ⟨D, ⟨es, clock, hb, _⟩, _⟩ := h.map
    rw [hb] at hk
    injection hk with hk
    cases hk
  · exact own_ne h.row hk (fun cur e' => by injection e' with _ e' _; exact h3 e') e
section
variable {w W W1 : World} {N : MwN} {k : Nat} {v v1 : Value} {l l1 S1 S2 : List Du}
theorem MwX.cells (h : MwX w N k v l S1 W) : W.cell? ⟨w.heap.size, 0, none⟩ = some (.slice N.A2 N.n2 N.c2) ∧ W.cell? ⟨w.heap.size + 1, 0, none⟩ = some (.bool false) ∧ W.cell? ⟨N.b5, 0, none⟩ = some (.pointer (some ⟨N.p, 0, none⟩)) ∧ W.cell? ⟨N.b7, 0, none⟩ = some (.pointer (some ⟨N.q, 0, none⟩)) ∧ W.cell? ⟨N.b10, 0, none⟩ = some (.int .i64 (k : Int)) ∧ W.frozen? ⟨N.b10, 0, none⟩ = false ∧ W.cell? ⟨N.q, 1, none⟩ = some N.vd :=
  ⟨cell_of_row W _ 0 _ _ (0, 0) h.b3, cell_of_row W _ 0 _ _ (0, 0) h.b4, cell_of_row W _ 0 _ _ (0, 0) h.b5, cell_of_row W _ 0 _ _ (0, 0) h.b7, cell_of_row W _ 0 _ _ (0, 0) h.b10, frozen_of_row W _ 0 _ _ h.b10, h.pair.da.cells.2⟩
theorem MwX.below (h : MwX w N k v l S1 W) (hb : Below W.heap.size W W1) : MwX w N k v l S1 W1 :=
  ⟨(hb.block _ (lt_of_block h.b3)).trans h.b3, (hb.block _ (lt_of_block h.b4)).trans h.b4, (hb.block _ (lt_of_block h.b5)).trans h.b5, (hb.block _ (lt_of_block h.b7)).trans h.b7, (hb.block _ (lt_of_block h.b10)).trans h.b10, h.pair.below hb, h.own⟩
theorem MwX.turn (h : MwX w N k v l S1 W) (hz : N.b10 + 3 ≤ W.heap.size) (hc : Cal W1 w.heap.size N.p N.r N.x N.m v1 0 l1) (hr : RelD l1 S2) (ho : Only (Foot N.p N.r N.m v) W W1) (hg : ∀ g, v1.ownBlock = some g → v.ownBlock = some g ∨ W.heap.size ≤ g) : MwX w N k v1 l1 S2 W1 := by
  have key : ∀ {k t : Nat} {cs : Array Value} {fr : Nat × Nat}, W.heap[k]? = some (.cells cs t fr) → t ≠ 68 → t ≠ 75 → t ≠ 30 → W1.heap[k]? = some (.cells cs t fr) := fun hk h1 h2 h3 => (ho.block _ (lt_of_block hk) (foot_not h.pair.ca hk h1 h2 h3)).trans hk
  refine ⟨key h.b3 (by decide) (by decide) (by decide), key h.b4 (by decide) (by decide) (by decide), key h.b5 (by decide) (by decide) (by decide), key h.b7 (by decide) (by decide) (by decide), key h.b10 (by decide) (by decide) (by decide), h.pair.turnCal hc hr ho hg, fun g e => ?_⟩
  rcases hg g e with e | e
  · exact h.own g e
  · exact .inr (Nat.le_trans hz e)
theorem MwX.out (h : MwX w N k v l S1 W) (ho : Only (Foot N.p N.r N.m v) W W1) : OutP (MwP N) W W1 := by
  refine ⟨ho.size, fun i hi hn => ho.block i hi (fun hf => hn ?_)⟩
  rcases hf with e | e | e | e
  · exact .inl e
  · exact .inr (.inl e)
  · exact .inr (.inr (.inl e))
  · rcases h.own i e with e | e
    · exact .inr (.inr (.inr (.inl e)))
    · exact .inr (.inr (.inr (.inr (.inr e))))
theorem MwX.count (hF : MwF w N) (h : MwX w N k v l S1 W) : MwX w N (k + 1) v l S1 (W.setCell ⟨N.b10, 0, none⟩ (.int .i64 ((k : Int) + 1))) := by
  have ho : Only (fun i => i = N.b10) W (W.setCell ⟨N.b10, 0, none⟩ (.int .i64 ((k : Int) + 1))) := Only.set (S := fun i => i = N.b10) (Only.refl _ _) ⟨N.b10, 0, none⟩ rfl _
  obtain ⟨f3, f5, f7, fp, fr, fx, fm, fq, fv, fd, fl⟩ := hF
  have key : ∀ {k t : Nat} {cs : Array Value} {fr : Nat × Nat}, W.heap[k]? = some (.cells cs t fr) → k ≠ N.b10 → (W.setCell ⟨N.b10, 0, none⟩ (.int .i64 ((N.b10 : Int) + 1))).heap.size = W.heap.size → (W.setCell ⟨N.b10, 0, none⟩ (.int .i64 ((N.b10 : Int) + 1))).heap.size = W.heap.size := fun _ _ h => h
  have own_b : ∀ g, v.ownBlock = some g → g ≠ N.b10 := fun g e => by
    rcases h.own g e with e | e
    · have := fv g e; omega
    · omega
  refine ⟨(ho.block _ (lt_of_block h.b3) (by omega)).trans h.b3, (ho.block _ (lt_of_block h.b4) (by omega)).trans h.b4, (ho.block _ (lt_of_block h.b5) (by omega)).trans h.b5, (ho.block _ (lt_of_block h.b7) (by omega)).trans h.b7, ?_, ?_, h.own⟩
  · rw [setCell_block h.b10 0 _]
    rfl
  · refine ⟨CalF.only h.pair.ca ho (fun i hi e => ?_), h.pair.ra, h.pair.da.only ho (fun i hi e => ?_), h.pair.ap, h.pair.bel.trans (ho.below h.pair.bel.size (fun i e => by rw [e]; omega))⟩
    · subst e
      rcases hi with (e | e | e | e) | e
      · omega
      · omega
      · omega
      · exact own_b _ e rfl
      · omega
    · subst e
      rcases hi with e | e
      · omega
      · have := fd _ e; omega
theorem MwX.grown (hF : MwF w N) (h : MwX w N k v l S1 W) {row : Option Nat} (hg : W.grownBy W1 row) (hr : ∀ r, row = some r → N.b10 + 1 ≤ r ∧ ∃ o : Obj, W.heap[r]? = some o ∧ o.isCells = false) : MwX w N k v l S1 W1 := by
  have ho : Only (fun i => row = some i) W W1 := Only.of_grown hg (fun _ e => e)
  obtain ⟨f3, f5, f7, fp, fr, fx, fm, fq, fv, fd, fl⟩ := hF
  have key : ∀ {k t : Nat} {cs : Array Value} {fr : Nat × Nat}, W.heap[k]? = some (.cells cs t fr) → W1.heap[k]? = some (.cells cs t fr) := fun hk => (ho.block _ (lt_of_block hk) (fun e => by
    obtain ⟨o, h1, h2⟩ := (hr _ e).2
    rw [hk] at h1
    injection h1 with h1
    subst h1
    cases h2)).trans hk
  refine ⟨key h.b3, key h.b4, key h.b5, key h.b7, key h.b10, ?_, h.own⟩
  refine ⟨CalF.only h.pair.ca ho (fun i hi e => ?_), h.pair.ra, h.pair.da.only ho (fun i hi e => ?_), h.pair.ap, h.pair.bel.trans (ho.below h.pair.bel.size (fun i e => by have := (hr i e).1; omega))⟩
  · have h1 := (hr i e).1
    rcases hi with (e' | e' | e' | e') | e'
    · omega
    · omega
    · omega
    · rcases h.pair.ca.row.2 with ⟨hv, _⟩ | ⟨g, cap, cur, hv, _, hb, _⟩
      · rw [hv] at e'; cases e'
      · rw [hv] at e'
        injection e' with e'
        subst e'
        obtain ⟨o, h3, h4⟩ := (hr _ e).2
        rw [hb] at h3
        injection h3 with h3
        subst h3
        cases h4
    · omega
  · have h1 := (hr i e).1
    rcases hi with e' | e'
    · omega
    · have := fd _ e'; omega
end
end Go.Proofs.Ytdaicdaakegdmaa
