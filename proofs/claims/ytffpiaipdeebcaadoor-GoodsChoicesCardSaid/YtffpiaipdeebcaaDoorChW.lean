/- The law GoodsChoices: what its walk stands on. -/
import Derived.Test.YtffpiaipdeebcaaDoorRt7
import Derived.Test.YtffpiaipdeebcaaDoorLeft7
import Derived.Test.YtffpiaipdeebcaaDoorCopyD
namespace Go.Proofs.YtffpiaipdeebcaaDoor
open Go.RowKit Go.Maps Go.Shelf
open Go.ChangeMaps Go.WideMaps

/-- What the law has in hand: the box of what came in, the lent instance and its box, the lent choice. -/
structure ChS (w : World) (n : Int) (A : Option Addr) (c : Nat) (ls : List (List Offer)) (M : Nat) (A1 : Option Addr) (c1 : Nat) (hs1 : List Hdr) (gc cc : Nat) (zs : List Int) (W : World) : Prop where
  bel : Below w.heap.size w W
  x : W.heap[w.heap.size]? = some (.cells #[.int .i64 n, .slice A ls.length c] 49 (0, 0))
  m : W.heap[M]? = some (.cells #[.int .i64 n, .slice A1 ls.length c1] 49 (0, 0))
  lent : OwnL W w.heap.size A1 c1 hs1 ls
  cs : W.ownsRow w.heap.size 3 1 (.slice (some ⟨gc, 0, none⟩) (zs.length + 1) cc) (zs.length + 1) ((zs ++ [771]).map intV)
section
variable {w W W' : World} {n : Int} {A A1 : Option Addr} {c M c1 gc cc : Nat} {ls : List (List Offer)} {hs1 : List Hdr} {zs : List Int}
theorem ChS.below (h : ChS w n A c ls M A1 c1 hs1 gc cc zs W) (hb : Below W.heap.size W W') : ChS w n A c ls M A1 c1 hs1 gc cc zs W' :=
  ⟨h.bel.trans (hb.mono h.bel.size), (hb.block _ (lt_of_block h.x)).trans h.x, (hb.block _ (lt_of_block h.m)).trans h.m, h.lent.below hb, own_below h.cs hb (Nat.le_refl _)⟩
theorem ChS.ints (h : ChS w n A c ls M A1 c1 hs1 gc cc zs W) : One intV W W.heap.size (some ⟨gc, 0, none⟩) zs := by
  have h2 := (Reads.of_own h.cs).front (k := zs.length) (by omega)
  unfold One
  rw [Nat.mul_one, List.map_append, List.take_left' (by simp)] at h2
  exact h2
theorem ChS.last (h : ChS w n A c ls M A1 c1 hs1 gc cc zs W) : W.cell? ⟨gc, zs.length, none⟩ = some (.int .i64 771) := by
  have h1 := h.cs.cellAt zs.length (by omega)
  rw [h1, List.map_append, List.getElem?_append_right (by simp)]
  simp
theorem ChS.cap (h : ChS w n A c ls M A1 c1 hs1 gc cc zs W) : zs.length + 1 ≤ cc := by
  obtain ⟨_, _, e, hc⟩ := own_sh h.cs
  injection e with _ _ e
  omega
theorem ChS.boxes (h : ChS w n A c ls M A1 c1 hs1 gc cc zs W) : W.cell? ⟨w.heap.size, 0, none⟩ = some (.int .i64 n) ∧ W.cell? ⟨w.heap.size, 1, none⟩ = some (.slice A ls.length c) ∧ W.cell? ⟨M, 0, none⟩ = some (.int .i64 n) ∧ W.cell? ⟨M, 1, none⟩ = some (.slice A1 ls.length c1) :=
  ⟨cell_of_row _ _ 0 _ _ (0, 0) h.x, cell_of_row _ _ 1 _ _ (0, 0) h.x, cell_of_row _ _ 0 _ _ (0, 0) h.m, cell_of_row _ _ 1 _ _ (0, 0) h.m⟩
end
/-- The rows of sets while the first of them is written over. -/
structure LsS (B0 B1 B2 : Nat) (w0 : World) (T : List Nat) (A1 : Option Addr) (c1 : Nat) (A2 : Option Addr) (c2 : Nat) (A3 : Option Addr) (c3 : Nat) (W : World) : Prop where
  bel : Below B0 w0 W
  l : ∃ xs, W.ownsRow B0 25 1 (.slice A1 T.length c1) T.length xs
  top : ∀ g, (Value.slice A1 T.length c1).ownBlock = some g → g < B1
  k : W.ownsRow B1 25 1 (.slice A2 T.length c2) T.length (T.map gV)
  t : W.ownsRow B2 25 1 (.slice A3 T.length c3) T.length (T.map gV)
section
variable {B0 B1 B2 c1 c2 c3 i : Nat} {w0 W : World} {T : List Nat} {A1 A2 A3 : Option Addr}
theorem LsS.below {W' : World} (h : LsS B0 B1 B2 w0 T A1 c1 A2 c2 A3 c3 W) (hb : Below W.heap.size W W') (h0 : B0 ≤ W.heap.size) : LsS B0 B1 B2 w0 T A1 c1 A2 c2 A3 c3 W' := by
  obtain ⟨xs, hx⟩ := h.l
  exact ⟨h.bel.trans (hb.mono h0), ⟨xs, own_below hx hb (Nat.le_refl _)⟩, h.top, own_below h.k hb (Nat.le_refl _), own_below h.t hb (Nat.le_refl _)⟩
theorem LsS.at_ (h : LsS B0 B1 B2 w0 T A1 c1 A2 c2 A3 c3 W) (hi : i < T.length) (h12 : B1 ≤ B2) : ∃ g v, A1 = some ⟨g, 0, none⟩ ∧ W.cell? ⟨g, i, none⟩ = some v ∧ W.frozen? ⟨g, i, none⟩ = false ∧ ∀ u, LsS B0 B1 B2 w0 T (some ⟨g, 0, none⟩) c1 A2 c2 A3 c3 (W.setCell ⟨g, i, none⟩ u) := by
  obtain ⟨xs, hx⟩ := h.l
  obtain ⟨g, cap, hv⟩ := Go.Joins.ownsRow_form hx (by omega)
  injection hv with hA _ hc
  subst hA hc
  have hlt := h.top g rfl
  have hge := (hx.lt g rfl).1
  have hl : xs.length = T.length := by have := hx.1; omega
  refine ⟨g, xs[i], rfl, (hx.cellAt i (by omega)).trans (List.getElem?_eq_getElem _), hx.frozenAt i, fun u => ⟨h.bel.setCell hge _, ⟨_, (hx.stored i u).1⟩, h.top, ?_, ?_⟩⟩
  · exact ownsRow_setCell_other h.k (fun e => by have := (h.k.lt _ e).1; simp only at this; omega) _
  · exact ownsRow_setCell_other h.t (fun e => by have := (h.t.lt _ e).1; simp only at this; omega) _
end
/-- The copy while it is written over: the first i buyers are done with. -/
structure YW (B Y : Nat) (n : Int) (A : Option Addr) (c : Nat) (hs : List Hdr) (ls : List (List Offer)) (wb : World) (i : Nat) (W : World) : Prop where
  bel : Below B wb W
  y : W.heap[Y]? = some (.cells #[.int .i64 n, .slice A ls.length c] 49 (0, 0))
  hdr : ∃ ys, W.ownsRow B 63 1 (.slice A ls.length c) ls.length ys ∧ ∀ (j : Nat) (h : Hdr) (l : List Offer), i ≤ j → hs[j]? = some h → ls[j]? = some l → ys[j]? = some (hdrV h l)
  row : ∀ (j : Nat) (h : Hdr) (l : List Offer), i ≤ j → hs[j]? = some h → ls[j]? = some l → ∃ xs, W.ownsRow B 74 2 (hdrV h l) l.length xs
section
variable {B Y c i : Nat} {n : Int} {A : Option Addr} {hs : List Hdr} {ls : List (List Offer)} {wb W : World}
theorem YW.start (hb : Below B wb W) (hy : W.heap[Y]? = some (.cells #[.int .i64 n, .slice A ls.length c] 49 (0, 0))) (ho : OwnB W B A c hs ls) : YW B Y n A c hs ls wb 0 W :=
  ⟨hb, hy, ⟨_, ho.hdr, fun j h l _ hj hl => by rw [List.getElem?_zipWith, hj, hl]⟩, fun j h l _ hj hl => ⟨_, ho.row j h l hj hl⟩⟩
theorem YW.box (h : YW B Y n A c hs ls wb i W) : W.cell? ⟨Y, 1, none⟩ = some (.slice A ls.length c) := cell_of_row _ _ 1 _ _ (0, 0) h.y
theorem YW.head (h : YW B Y n A c hs ls wb i W) {a : Hdr} {l : List Offer} (ha : hs[i]? = some a) (hl : ls[i]? = some l) : ∃ gh, A = some ⟨gh, 0, none⟩ ∧ W.cell? ⟨gh, i, none⟩ = some (.slice a.1 l.length a.2) ∧ W.frozen? ⟨gh, i, none⟩ = false := by
  have hi : i < ls.length := (List.getElem?_eq_some_iff.1 hl).1
  obtain ⟨ys, hy1, hy2⟩ := h.hdr
  obtain ⟨gh, cap, hv⟩ := Go.Joins.ownsRow_form hy1 (by omega)
  injection hv with hA _ hc
  subst hA hc
  exact ⟨gh, rfl, (hy1.cellAt i (by omega)).trans (hy2 i a l (Nat.le_refl _) ha hl), hy1.frozenAt i⟩
theorem YW.cells (h : YW B Y n A c hs ls wb i W) {a : Hdr} {l : List Offer} (ha : hs[i]? = some a) (hl : ls[i]? = some l) {k : Nat} (hk : k < l.length) : ∃ gr x0 x1, a.1 = some ⟨gr, 0, none⟩ ∧ W.cell? ⟨gr, k * 2, none⟩ = some x0 ∧ W.cell? ⟨gr, k * 2 + 1, none⟩ = some x1 ∧
    W.frozen? ⟨gr, k * 2, none⟩ = false ∧ W.frozen? ⟨gr, k * 2 + 1, none⟩ = false ∧ ∀ u v, YW B Y n A c hs ls wb i ((W.setCell ⟨gr, k * 2, none⟩ u).setCell ⟨gr, k * 2 + 1, none⟩ v) := by
  obtain ⟨xs, h3⟩ := h.row i a l (Nat.le_refl _) ha hl
  unfold hdrV at h3
  obtain ⟨gr, cap, hv⟩ := Go.Joins.ownsRow_form h3 (by omega)
  injection hv with hA _ hc
  have h3' := h3
  rw [hA, hc] at h3'
  have hxl : xs.length = l.length * 2 := h3.1
  have hge := (h3'.lt gr rfl).1
  have hT : ∃ cur, W.heap[gr]? = some (.cells cur 74 (0, 0)) := by
    rcases h3'.2 with ⟨e, _⟩ | ⟨g, cp, cur, e, _, e2, _⟩
    · injection e with e; cases e
    · injection e with e
      injection e with e
      injection e with e
      subst e
      exact ⟨cur, e2⟩
  have set1 : ∀ (V : World) (o : Nat) (u : Value), YW B Y n A c hs ls wb i V → (∃ cur, V.heap[gr]? = some (.cells cur 74 (0, 0))) → YW B Y n A c hs ls wb i (V.setCell ⟨gr, o, none⟩ u) := by
    intro V o u hV ⟨cur, hcur⟩
    obtain ⟨ys, hy1, hy2⟩ := hV.hdr
    refine ⟨hV.bel.setCell hge _, (Below.heap_setCell _ _ _ _ (fun e => ?_)).trans hV.y, ⟨ys, ownsRow_setCell_other hy1 (own_ne hy1 hcur (fun cur' e => by injection e with _ e _; exact absurd e (by decide))) _, hy2⟩, fun j hd l' hj h1 h2 => ?_⟩
    · have hy := hV.y
      simp only at e
      rw [e, hcur] at hy
      injection hy with hy
      injection hy with _ hy _
      exact absurd hy (by decide)
    · obtain ⟨zs, h4⟩ := hV.row j hd l' hj h1 h2
      by_cases e : (hdrV hd l').ownBlock = some gr
      · rcases h4.2 with ⟨e1, _⟩ | ⟨g', cp, _, e1, _⟩
        · rw [e1] at e; cases e
        · rw [e1] at h4 e
          simp only [Value.ownBlock, Option.some.injEq] at e
          subst e
          rw [e1]
          exact ⟨_, (h4.stored o u).1⟩
      · exact ⟨zs, ownsRow_setCell_other h4 e _⟩
  refine ⟨gr, xs[k * 2], xs[k * 2 + 1], hA, (h3'.cellAt (k * 2) (by omega)).trans (List.getElem?_eq_getElem _), (h3'.cellAt (k * 2 + 1) (by omega)).trans (List.getElem?_eq_getElem _), h3'.frozenAt _, h3'.frozenAt _, fun u v => ?_⟩
  obtain ⟨cur, hcur⟩ := hT
  exact set1 _ _ v (set1 _ _ u h ⟨cur, hcur⟩) ⟨_, setCell_block hcur (k * 2) u⟩
/-- A buyer's list has grown by one; its new head is stored. -/
theorem YW.done {gh : Nat} {a : Hdr} {l : List Offer} {Z W5 : World} {V : Value} (h : YW B Y n (some ⟨gh, 0, none⟩) c hs ls wb i W) (hd : DistH hs) (ha : hs[i]? = some a) (hl : ls[i]? = some l) (hb : Below W.heap.size W Z) (hg : Z.grownBy W5 (hdrV a l).ownBlock) :
    YW B Y n (some ⟨gh, 0, none⟩) c hs ls wb (i + 1) (W5.setCell ⟨gh, i, none⟩ V) := by
  have hi : i < ls.length := (List.getElem?_eq_some_iff.1 hl).1
  obtain ⟨xs, h3⟩ := h.row i a l (Nat.le_refl _) ha hl
  obtain ⟨ys, hy1, hy2⟩ := h.hdr
  have hZ := own_below hy1 hb (Nat.le_refl _)
  have hBW : B ≤ W.heap.size := by
    obtain ⟨g, _, e, h1, h2⟩ := hy1.form (by omega)
    have := hy1.lt gh rfl
    omega
  have hrow : ∀ j, (hdrV a l).ownBlock = some j → B ≤ j ∧ ∃ cur, Z.heap[j]? = some (.cells cur 74 (0, 0)) := by
    intro j e
    rcases h3.2 with ⟨e1, _⟩ | ⟨g, cp, cur, e1, h4, h5, _⟩
    · rw [e1] at e; cases e
    · rw [e1] at e
      simp only [Value.ownBlock, Option.some.injEq] at e
      subst e
      exact ⟨h4, cur, (hb.block _ (lt_of_block h5)).trans h5⟩
  have hH5 : W5.ownsRow B 63 1 (.slice (some ⟨gh, 0, none⟩) ls.length c) ls.length ys := by
    refine own_far hZ hg ?_
    cases e : (hdrV a l).ownBlock with
    | none => exact .inl (by simp [Value.ownBlock])
    | some j =>
      obtain ⟨_, cur, hcur⟩ := hrow j e
      exact .inl (own_ne hZ hcur (fun cur' e => by injection e with _ e _; exact absurd e (by decide)))
  obtain ⟨cur5, hc5⟩ : ∃ cur, W5.heap[gh]? = some (.cells cur 63 (0, 0)) := by
    rcases hH5.2 with ⟨e, _⟩ | ⟨g, cp, cur, e, _, e2, _⟩
    · injection e with e; cases e
    · injection e with e
      injection e with e
      injection e with e
      subst e
      exact ⟨cur, e2⟩
  have hY5 : W5.heap[Y]? = some (.cells #[.int .i64 n, .slice (some ⟨gh, 0, none⟩) ls.length c] 49 (0, 0)) := by
    have hyZ := (hb.block _ (lt_of_block h.y)).trans h.y
    refine (hg.block _ (lt_of_block hyZ) (fun e => ?_)).trans hyZ
    obtain ⟨_, cur, hcur⟩ := hrow Y e.symm
    rw [hyZ] at hcur
    injection hcur with hcur
    injection hcur with _ hcur _
    exact absurd hcur (by decide)
  refine ⟨((h.bel.trans (hb.mono hBW)).grown hg (Nat.le_trans hBW hb.size) (fun j hj => (hrow j hj).1)).setCell ((hy1.lt gh rfl).1) _, (Below.heap_setCell _ _ _ _ (fun e => ?_)).trans hY5, ⟨_, (hH5.stored i V).1, fun j hd' l' hj h1 h2 => ?_⟩, fun j hd' l' hj h1 h2 => ?_⟩
  · simp only at e
    rw [e, hc5] at hY5
    injection hY5 with hY5
    injection hY5 with _ hY5 _
    exact absurd hY5 (by decide)
  · rw [List.getElem?_set_ne (by omega)]
    exact hy2 j hd' l' (by omega) h1 h2
  · obtain ⟨zs, h4⟩ := h.row j hd' l' (by omega) h1 h2
    have h5 := own_below h4 hb (Nat.le_refl _)
    refine ⟨zs, ownsRow_setCell_other (own_far h5 hg ?_) (fun e => ?_) _⟩
    · rcases h3.2 with ⟨e1, _⟩ | ⟨g, cp, cur, e1, _⟩
      · rw [e1]
        rcases h5.2 with ⟨e2, _⟩ | ⟨g', cp', cur', e2, _⟩
        · exact .inr (by rw [e2]; rfl)
        · exact .inl (by rw [e2]; simp [Value.ownBlock])
      · rcases h5.2 with ⟨e2, _⟩ | ⟨g', cp', cur', e2, _⟩
        · exact .inr (by rw [e2]; rfl)
        · left
          rw [e1, e2]
          simp only [Value.ownBlock, ne_eq, Option.some.injEq]
          unfold hdrV at e1 e2
          injection e1 with e1
          injection e2 with e2
          have hij : i < j := by omega
          have hjl := (List.getElem?_eq_some_iff.1 h1).1
          have hp := List.pairwise_iff_getElem.1 hd i j (by omega) hjl hij
          rw [(List.getElem?_eq_some_iff.1 ha).2, (List.getElem?_eq_some_iff.1 h1).2] at hp
          intro e
          rw [e] at e2
          exact hp g 0 none e1 0 none e2
    · have h6 := own_far (w' := W5) h5 hg (by
        rcases h3.2 with ⟨e1, _⟩ | ⟨g, cp, cur, e1, _⟩
        · rw [e1]
          rcases h5.2 with ⟨e2, _⟩ | ⟨g', cp', cur', e2, _⟩
          · exact .inr (by rw [e2]; rfl)
          · exact .inl (by rw [e2]; simp [Value.ownBlock])
        · rcases h5.2 with ⟨e2, _⟩ | ⟨g', cp', cur', e2, _⟩
          · exact .inr (by rw [e2]; rfl)
          · left
            rw [e1, e2]
            simp only [Value.ownBlock, ne_eq, Option.some.injEq]
            unfold hdrV at e1 e2
            injection e1 with e1
            injection e2 with e2
            have hij : i < j := by omega
            have hjl := (List.getElem?_eq_some_iff.1 h1).1
            have hp := List.pairwise_iff_getElem.1 hd i j (by omega) hjl hij
            rw [(List.getElem?_eq_some_iff.1 ha).2, (List.getElem?_eq_some_iff.1 h1).2] at hp
            intro e
            rw [e] at e2
            exact hp g 0 none e1 0 none e2)
      exact own_ne h6 hc5 (fun cur' e => by injection e with _ e _; exact absurd e (by decide)) e
/-- The head and the box while a buyer's list has grown. -/
theorem YW.mid {gh : Nat} {a : Hdr} {l : List Offer} {Z W5 : World} (h : YW B Y n (some ⟨gh, 0, none⟩) c hs ls wb i W) (ha : hs[i]? = some a) (hl : ls[i]? = some l) (hb : Below W.heap.size W Z) (hg : Z.grownBy W5 (hdrV a l).ownBlock) :
    W5.cell? ⟨gh, i, none⟩ = some (.slice a.1 l.length a.2) ∧ W5.frozen? ⟨gh, i, none⟩ = false ∧ W5.cell? ⟨Y, 1, none⟩ = some (.slice (some ⟨gh, 0, none⟩) ls.length c) := by
  have hi : i < ls.length := (List.getElem?_eq_some_iff.1 hl).1
  obtain ⟨xs, h3⟩ := h.row i a l (Nat.le_refl _) ha hl
  obtain ⟨ys, hy1, hy2⟩ := h.hdr
  have hZ := own_below hy1 hb (Nat.le_refl _)
  have hrow : ∀ j, (hdrV a l).ownBlock = some j → ∃ cur, Z.heap[j]? = some (.cells cur 74 (0, 0)) := by
    intro j e
    rcases h3.2 with ⟨e1, _⟩ | ⟨g, cp, cur, e1, h4, h5, _⟩
    · rw [e1] at e; cases e
    · rw [e1] at e
      simp only [Value.ownBlock, Option.some.injEq] at e
      subst e
      exact ⟨cur, (hb.block _ (lt_of_block h5)).trans h5⟩
  have hH5 : W5.ownsRow B 63 1 (.slice (some ⟨gh, 0, none⟩) ls.length c) ls.length ys := by
    refine own_far hZ hg ?_
    cases e : (hdrV a l).ownBlock with
    | none => exact .inl (by simp [Value.ownBlock])
    | some j =>
      obtain ⟨cur, hcur⟩ := hrow j e
      exact .inl (own_ne hZ hcur (fun cur' e => by injection e with _ e _; exact absurd e (by decide)))
  have hyZ := (hb.block _ (lt_of_block h.y)).trans h.y
  have hY5 : W5.heap[Y]? = some (.cells #[.int .i64 n, .slice (some ⟨gh, 0, none⟩) ls.length c] 49 (0, 0)) := by
    refine (hg.block _ (lt_of_block hyZ) (fun e => ?_)).trans hyZ
    obtain ⟨cur, hcur⟩ := hrow Y e.symm
    rw [hyZ] at hcur
    injection hcur with hcur
    injection hcur with _ hcur _
    exact absurd hcur (by decide)
  exact ⟨(hH5.cellAt i (by omega)).trans (hy2 i a l (Nat.le_refl _) ha hl), hH5.frozenAt i, cell_of_row _ _ 1 _ _ (0, 0) hY5⟩
end
end Go.Proofs.YtffpiaipdeebcaaDoor
