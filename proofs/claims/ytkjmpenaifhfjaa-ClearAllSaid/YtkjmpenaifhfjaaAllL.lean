/- The law ClearAll: its walk. -/
import Derived.Test.YtkjmpenaifhfjaaAllC
import Derived.Test.YtkjmpenaifhfjaaAllU
import Derived.Test.YtkjmpenaifhfjaaOver
import Derived.Test.YtkjmpenaifhfjaaLawPart
namespace Go.Proofs.Ytkjmpenaifhfjaa
open Go.RowKit Go.Maps Go.Shelf
open Go.ChangeMaps Go.WideMaps

attribute [local go_sem] Oper.semAt_some

theorem pre_at {all pre : List (List Int)} {d : List Int} (h : pre ++ [d] <+: all) : all[pre.length]? = some d ∧ pre.length < all.length := by
  obtain ⟨r, rfl⟩ := h
  refine ⟨?_, by simp⟩
  rw [List.append_assoc, List.getElem?_append_right (Nat.le_refl _), Nat.sub_self]
  rfl
theorem pre_mem {all pre : List (List Int)} {d : List Int} (h : pre ++ [d] <+: all) : d ∈ all := h.subset (by simp)
theorem own_same {W W' : World} {base e size n : Nat} {v : Value} {xs : List Value} (h : W.ownsRow base e size v n xs) (hs : ∀ k, base ≤ k → W'.heap[k]? = W.heap[k]?) : W'.ownsRow base e size v n xs := by
  obtain ⟨h1, h2⟩ := h
  refine ⟨h1, ?_⟩
  rcases h2 with h2 | ⟨g, cap, cur, a1, a2, a3, a4⟩
  · exact .inl h2
  · exact .inr ⟨g, cap, cur, a1, a2, (hs g a2).trans a3, a4⟩
theorem callsIn_in {m l' : Nat} {P : Program} {f : FuncId} {args : Array Value} {w : World} {R : Ending → World → Prop} (h : Calls P f args w R) : CallsIn (Fence.wide.inRound l') m P f args w R :=
  (callsIn_wide (n := m)).2 h
/-- The law's own record: what was asked, when to leave, the answer so far. -/
structure AskR (w : World) (n : Int) (A : Option Addr) (m c : Nat) (lv : Int) (b : Bool) (W : World) : Prop where
  bel : Below w.heap.size w W
  x : W.heap[w.heap.size]? = some (.cells #[.int .i64 n, .slice A m c] 24 (0, 0))
  l : W.heap[w.heap.size + 1]? = some (.cells #[.int .i64 lv] 3 (0, 0))
  r : W.heap[w.heap.size + 2]? = some (.cells #[.bool b] 4 (0, 0))
section
variable {w W W' : World} {n : Int} {A : Option Addr} {m c : Nat} {lv : Int} {b : Bool}
theorem AskR.below (h : AskR w n A m c lv b W) (hb : Below W.heap.size W W') : AskR w n A m c lv b W' := ⟨h.bel.trans (hb.mono h.bel.size), (hb.block _ (lt_of_block h.x)).trans h.x, (hb.block _ (lt_of_block h.l)).trans h.l, (hb.block _ (lt_of_block h.r)).trans h.r⟩
theorem AskR.says (h : AskR w n A m c lv b W) (b' : Bool) : AskR w n A m c lv b' (W.setCell ⟨w.heap.size + 2, 0, none⟩ (.bool b')) :=
  ⟨h.bel.setCell (by show w.heap.size ≤ w.heap.size + 2; omega) _, (Below.heap_setCell _ _ _ _ (by show w.heap.size ≠ w.heap.size + 2; omega)).trans h.x, (Below.heap_setCell _ _ _ _ (by show w.heap.size + 1 ≠ w.heap.size + 2; omega)).trans h.l, setCell_block h.r 0 _⟩
theorem AskR.cells (h : AskR w n A m c lv b W) : W.cell? ⟨w.heap.size, 0, none⟩ = some (.int .i64 n) ∧ W.cell? ⟨w.heap.size, 1, none⟩ = some (.slice A m c) ∧ W.cell? ⟨w.heap.size + 1, 0, none⟩ = some (.int .i64 lv) ∧ W.cell? ⟨w.heap.size + 2, 0, none⟩ = some (.bool b) ∧ W.frozen? ⟨w.heap.size + 2, 0, none⟩ = false :=
  ⟨cell_of_row W _ 0 _ _ (0, 0) h.x, cell_of_row W _ 1 _ _ (0, 0) h.x, cell_of_row W _ 0 _ _ (0, 0) h.l, cell_of_row W _ 0 _ _ (0, 0) h.r, frozen_of_row W _ 0 _ _ h.r⟩
theorem AskR.lt (h : AskR w n A m c lv b W) : w.heap.size + 2 < W.heap.size := lt_of_block h.r
end
/-- The law says yes. -/
theorem ask_ret {fn : Func} {tmps : Array Value} {w W : World} {n : Int} {A : Option Addr} {m c : Nat} {lv : Int} (h : AskR w n A m c lv true W)
    (hr : ∀ W', W'.cell? ⟨w.heap.size + 2, 0, none⟩ = some (.bool true) → (results fn tmps).run Try.prog W' = .ok (.bool true) W') : LeavesInM Fence.wide 9 Try.prog fn tmps (LawPost w) [] .returning W :=
  ⟨.bool true, hr _ h.cells.2.2.2.1, rfl, h.bel⟩
theorem ask_end {fn : Func} {tmps : Array Value} {w W : World} {n : Int} {A : Option Addr} {m c D1 D2 : Nat} {lv : Int} (h : AskR w n A m c lv true W) (hD1 : w.heap.size + 3 ≤ D1) (hD2 : w.heap.size + 3 ≤ D2) (hne : D1 ≠ D2) (hK1 : W.heap[D1]? = some (.deferred (some []))) (hK2 : W.heap[D2]? = some (.deferred (some [])))
    (hr : ∀ W', W'.cell? ⟨w.heap.size + 2, 0, none⟩ = some (.bool true) → (results fn tmps).run Try.prog W' = .ok (.bool true) W') : LeavesInM Fence.wide 9 Try.prog fn tmps (LawPost w) [{ target := .collected D2, args := #[] }, { target := .collected D1, args := #[] }] .returning W := by
  have hb2 : (W.putObj D2 (.deferred none)).heap[w.heap.size + 2]? = some (.cells #[.bool true] 4 (0, 0)) := (World.putObj_heap_other (by omega)).trans h.r
  have hk1 : (W.putObj D2 (.deferred none)).heap[D1]? = some (.deferred (some [])) := (World.putObj_heap_other hne).trans hK1
  have hb1 : ((W.putObj D2 (.deferred none)).putObj D1 (.deferred none)).heap[w.heap.size + 2]? = some (.cells #[.bool true] 4 (0, 0)) := (World.putObj_heap_other (by omega)).trans hb2
  refine ⟨by simp, .inl ⟨D2, _, rfl, run_takeDeferred hK2, by simp, .inl ⟨D1, _, rfl, run_takeDeferred hk1, ⟨.bool true, hr _ (cell_of_row _ _ 0 _ _ (0, 0) hb1), rfl, ?_⟩⟩⟩⟩
  have hB2 := h.bel.grown (grownBy_putObj' W D2 (.deferred none)) h.bel.size (fun k e => by injection e with e; omega)
  exact hB2.grown (grownBy_putObj' _ D1 _) hB2.size (fun k e => by injection e with e; omega)

/-- The going over of an instance that is handed to All: its choices, or none. -/
theorem all_seq {p : Nat → Prop} {W w6 w7 : World} {B xc rc base : Nat} {n : Int} {A : Option Addr} {c : Nat} {hs : List Hdr} {ls : List (List Offer)} (hw : BWide ls) (hp : ∀ i, p i → B ≤ i ∧ i < W.heap.size) (hbase : base ≤ W.heap.size) (hBW : B ≤ W.heap.size) (hrB : rc < B)
    (h : (instE n ls = 0 ∧ W.heap[rc]? = some (.cells #[.bool true] 4 (0, 0)) ∧ W.heap[xc]? = some (.cells #[.int .i64 n, .slice A ls.length c] 24 (0, 0)) ∧ xc < B ∧ Buys W B A hs ls) ∨ (instE n ls ≠ 0 ∧ W.heap[rc]? = some (.cells #[.bool false] 4 (0, 0)))) :
    SeqL p ownC Try.prog 43 #[.pointer (some ⟨rc, 0, none⟩), .pointer (some ⟨xc, 0, none⟩)] encC (fun xs => xs.map Prod.snd = allC n ls) (fun pre => pre.map Prod.snd <+: allC n ls) (NextC base (allC n ls)) W := by
  rcases h with ⟨h1, h2, h3, h4, h5⟩ | ⟨h1, h2⟩
  · have e : allC n ls = choicesW ls (allG n.toNat) := by unfold allC; rw [if_pos h1]
    rw [e]
    exact all_good (instE_good hw h1) hp hbase hBW h2 h3 h4 h5
  · have e : allC n ls = [] := by unfold allC; rw [if_neg h1]
    rw [e]
    intro l J Jx hJ hJx hY h0
    refine (all_none (p := p) (xc := xc) (base := base) (all := []) h2 l J Jx hJ hJx hY h0).mono ?_
    rintro e' W' ⟨hv, hor⟩
    refine ⟨hv, ?_⟩
    rcases hor with ⟨xs, rfl, hj⟩ | ⟨pre, rfl, hj⟩
    · exact .inl ⟨[], rfl, hj⟩
    · exact .inr ⟨[], by simp, hj⟩

/-- The lent rows as far as they may be written over: the first i are gone. -/
structure Wiped (E base : Nat) (A : Option Addr) (c : Nat) (hs : List Hdr) (ls : List (List Offer)) (w0 : World) (i : Nat) (W : World) : Prop where
  out : ∀ k, k < w0.heap.size → (k < base ∨ E ≤ k) → W.heap[k]? = w0.heap[k]?
  size : W.heap.size = w0.heap.size
  same : W.os = w0.os ∧ W.tape = w0.tape ∧ W.output = w0.output
  hdr : ∃ ys, W.ownsRow base 52 1 (.slice A (ls.length + 1) c) (ls.length + 1) ys ∧ ∀ (j : Nat) (h : Hdr) (l : List Offer), i ≤ j → hs[j]? = some h → ls[j]? = some l → ys[j]? = some (hdrV h l)
  low : ∀ g, (Value.slice A (ls.length + 1) c).ownBlock = some g → g < E
  row : ∀ (j : Nat) (h : Hdr) (l : List Offer), i ≤ j → hs[j]? = some h → ls[j]? = some l → (∃ xs, W.ownsRow base 51 2 (.slice h.1 (l.length + 1) h.2) (l.length + 1) xs) ∧ ∀ g, (Value.slice h.1 (l.length + 1) h.2).ownBlock = some g → g < E

section
variable {E base : Nat} {A : Option Addr} {c : Nat} {hs : List Hdr} {ls : List (List Offer)} {w0 W : World} {i : Nat}
theorem Wiped.set {g o : Nat} {v : Value} (h : Wiped E base A c hs ls w0 i W) (hb : base ≤ g) (hE : g < E) (hT : ∃ cur, W.heap[g]? = some (.cells cur 51 (0, 0))) : Wiped E base A c hs ls w0 i (W.setCell ⟨g, o, none⟩ v) := by
  obtain ⟨cur, hT⟩ := hT
  obtain ⟨ys, hy1, hy2⟩ := h.hdr
  refine ⟨fun k hk hor => (Below.heap_setCell _ _ _ _ (by show k ≠ g; omega)).trans (h.out k hk hor), by simpa [World.setCell] using h.size, h.same, ⟨ys, ownsRow_setCell_other hy1 (own_ne hy1 hT (fun cur' e => by injection e with _ e _; exact absurd e (by decide))) _, hy2⟩, h.low, fun j hd l hj h1 h2 => ?_⟩
  obtain ⟨⟨xs, h3⟩, h4⟩ := h.row j hd l hj h1 h2
  refine ⟨?_, h4⟩
  by_cases e : (Value.slice hd.1 (l.length + 1) hd.2).ownBlock = some g
  · obtain ⟨g', cap, hv⟩ := Go.Joins.ownsRow_form h3 (by omega)
    injection hv with hA _ hc
    rw [hA, hc] at h3
    rw [hA] at e ⊢
    rw [hc]
    simp only [Value.ownBlock, Option.some.injEq] at e
    subst e
    exact ⟨_, (h3.stored o v).1⟩
  · exact ⟨xs, ownsRow_setCell_other h3 e _⟩
theorem Wiped.drop {gh : Nat} (h : Wiped E base (some ⟨gh, 0, none⟩) c hs ls w0 i W) (hi : i < ls.length) : Wiped E base (some ⟨gh, 0, none⟩) c hs ls w0 (i + 1) (W.setCell ⟨gh, i, none⟩ (.slice none 0 0)) := by
  obtain ⟨ys, hy1, hy2⟩ := h.hdr
  have hlt := h.low gh rfl
  have hge := (hy1.lt gh rfl).1
  have hst := hy1.stored i (.slice none 0 0)
  refine ⟨fun k hk hor => (Below.heap_setCell _ _ _ _ (by show k ≠ gh; omega)).trans (h.out k hk hor), by simpa [World.setCell] using h.size, h.same, ⟨_, hst.1, fun j hd l hj h1 h2 => ?_⟩, h.low, fun j hd l hj h1 h2 => ?_⟩
  · rw [List.getElem?_set_ne (by omega)]
    exact hy2 j hd l (by omega) h1 h2
  · obtain ⟨⟨xs, h3⟩, h4⟩ := h.row j hd l (by omega) h1 h2
    refine ⟨⟨xs, ownsRow_setCell_other h3 (fun e => ?_) _⟩, h4⟩
    obtain ⟨_, h7⟩ := hy1
    rcases h7 with ⟨h7, _⟩ | ⟨g', cap', cur', h7, _, h8, _⟩
    · simp at h7
    · simp only [Value.slice.injEq, Option.some.injEq, Addr.mk.injEq, and_true, true_and] at h7
      obtain ⟨rfl, rfl⟩ := h7
      exact own_ne h3 h8 (fun cur' e' => by injection e' with _ e' _; exact absurd e' (by decide)) e
theorem Wiped.at_ {l : List Offer} {hd : Hdr} (h : Wiped E base A c hs ls w0 i W) (hlx : ls[i]? = some l) (hhx : hs[i]? = some hd) : ∃ gh, A = some ⟨gh, 0, none⟩ ∧ W.cell? ⟨gh, i, none⟩ = some (.slice hd.1 l.length hd.2) ∧ W.frozen? ⟨gh, i, none⟩ = false ∧
    ∀ k, k < l.length → ∃ gr x0 x1, hd.1 = some ⟨gr, 0, none⟩ ∧ base ≤ gr ∧ gr < E ∧ W.cell? ⟨gr, k * 2, none⟩ = some x0 ∧ W.cell? ⟨gr, k * 2 + 1, none⟩ = some x1 ∧ W.frozen? ⟨gr, k * 2, none⟩ = false ∧ W.frozen? ⟨gr, k * 2 + 1, none⟩ = false ∧ ∃ cur, W.heap[gr]? = some (.cells cur 51 (0, 0)) := by
  have hi : i < ls.length := (List.getElem?_eq_some_iff.1 hlx).1
  obtain ⟨ys, hy1, hy2⟩ := h.hdr
  obtain ⟨gh, cap, hv⟩ := Go.Joins.ownsRow_form hy1 (by omega)
  injection hv with hA _ hc
  rw [hA, hc] at hy1
  refine ⟨gh, hA, ?_, hy1.frozenAt i, fun k hk => ?_⟩
  · rw [hy1.cellAt i (by omega), hy2 i hd l (Nat.le_refl _) hhx hlx]
    rfl
  · obtain ⟨⟨xs, h3⟩, h4⟩ := h.row i hd l (Nat.le_refl _) hhx hlx
    obtain ⟨gr, cap', hv'⟩ := Go.Joins.ownsRow_form h3 (by omega)
    injection hv' with hA' _ hc'
    have hge := (h3.lt gr (by rw [hA']; rfl)).1
    have hlt := h4 gr (by rw [hA']; rfl)
    rw [hA', hc'] at h3
    have hxl : xs.length = (l.length + 1) * 2 := h3.1
    obtain ⟨x0, e0⟩ : ∃ x0, xs[k * 2]? = some x0 := ⟨xs[k * 2]'(by omega), List.getElem?_eq_getElem _⟩
    obtain ⟨x1, e1⟩ : ∃ x1, xs[k * 2 + 1]? = some x1 := ⟨xs[k * 2 + 1]'(by omega), List.getElem?_eq_getElem _⟩
    refine ⟨gr, x0, x1, hA', hge, hlt, by rw [h3.cellAt (k * 2) (by omega)]; exact e0, by rw [h3.cellAt (k * 2 + 1) (by omega)]; exact e1, h3.frozenAt _, h3.frozenAt _, ?_⟩
    obtain ⟨_, h7⟩ := h3
    rcases h7 with ⟨h7, _⟩ | ⟨g', cap'', cur', h7, _, h8, _⟩
    · simp at h7
    · simp only [Value.slice.injEq, Option.some.injEq, Addr.mk.injEq, and_true, true_and] at h7
      obtain ⟨rfl, _⟩ := h7
      exact ⟨cur', h8⟩
theorem Wiped.start {w5 : World} (h5 : OwnL w5 base A c hs ls) (h : OwnL W base A c hs ls) (hz : w5.heap.size = E) : Wiped E base A c hs ls W 0 W := by
  obtain ⟨mb, _, h1, _⟩ := h.hdr
  obtain ⟨mb5, _, h15, _⟩ := h5.hdr
  refine ⟨fun _ _ _ => rfl, rfl, ⟨rfl, rfl, rfl⟩, ⟨_, h1, fun j hd l _ ha hb => ?_⟩, fun g hg => by have := (h15.lt g hg).2; omega, fun j hd l _ ha hb => ⟨⟨_, h.row j hd l ha hb⟩, fun g hg => by have := ((h5.row j hd l ha hb).lt g hg).2; omega⟩⟩
  have hj : j < ls.length := (List.getElem?_eq_some_iff.1 hb).1
  rw [List.getElem?_append_left (by rw [List.length_zipWith, h.len]; omega), List.getElem?_zipWith, ha, hb]
theorem Wiped.below {B : Nat} {w00 : World} (h : Wiped E base A c hs ls w0 i W) (hB : B ≤ base) (hw : Below B w00 w0) (hs' : base ≤ w0.heap.size) : Below B w00 W := by
  refine ⟨h.same.1.trans hw.os, h.same.2.1.trans hw.tape, h.same.2.2.trans hw.output, by rw [h.size]; exact hw.size, fun k hk => ?_⟩
  exact (h.out k (by omega) (.inl (by omega))).trans (hw.block k hk)
end

/-- What a turn's rounds stand on. -/
structure TurnI (wb : World) (tc kc : Nat) (T : Int) (k : Nat) (W : World) : Prop where
  bel : Below wb.heap.size wb W
  t : W.heap[tc]? = some (.cells #[.int .i64 T] 3 (0, 0))
  k : W.heap[kc]? = some (.cells #[.int .i64 (k : Int)] 3 (0, 0))
  lo : wb.heap.size ≤ tc ∧ wb.heap.size ≤ kc ∧ tc ≠ kc
section
variable {wb W W' : World} {tc kc : Nat} {T : Int} {k : Nat}
theorem TurnI.low (h : TurnI wb tc kc T k W) {S : Nat} (h1 : tc < S) (h2 : kc < S) (hb : Below S W W') : TurnI wb tc kc T k W' :=
  ⟨h.bel.trans (hb.mono (by have := h.lo; omega)), (hb.block _ h1).trans h.t, (hb.block _ h2).trans h.k, h.lo⟩
theorem TurnI.below (h : TurnI wb tc kc T k W) (hb : Below W.heap.size W W') : TurnI wb tc kc T k W' := h.low (lt_of_block h.t) (lt_of_block h.k) hb
theorem TurnI.next (h : TurnI wb tc kc T k W) (k' : Nat) : TurnI wb tc kc T k' (W.setCell ⟨kc, 0, none⟩ (.int .i64 (k' : Int))) :=
  ⟨h.bel.setCell h.lo.2.1 _, (Below.heap_setCell W _ _ _ h.lo.2.2).trans h.t, setCell_block h.k 0 _, h.lo⟩
theorem TurnI.cells (h : TurnI wb tc kc T k W) : W.cell? ⟨tc, 0, none⟩ = some (.int .i64 T) ∧ W.cell? ⟨kc, 0, none⟩ = some (.int .i64 (k : Int)) ∧ W.frozen? ⟨kc, 0, none⟩ = false :=
  ⟨cell_of_row W _ 0 _ _ (0, 0) h.t, cell_of_row W _ 0 _ _ (0, 0) h.k, frozen_of_row W _ 0 _ _ h.k⟩
theorem TurnI.start (wb : World) : TurnI wb wb.heap.size (wb.heap.size + 1) 0 0 ((wb.alloc (.cells #[.int .i64 0] 3)).alloc (.cells #[.int .i64 0] 3)) ∧ ((wb.alloc (.cells #[.int .i64 0] 3)).alloc (.cells #[.int .i64 0] 3)).heap.size = wb.heap.size + 2 :=
  ⟨⟨((Below.refl _ _).alloc (Nat.le_refl _) _).alloc (by simp) _, (Below.heap_alloc _ _ _ (by simp)).trans (heap_alloc_new wb _), by
    have := heap_alloc_new (wb.alloc (.cells #[.int .i64 0] 3)) (.cells #[.int .i64 0] 3)
    simpa using this, by omega⟩, by simp⟩
theorem TurnI.again (wb : World) : TurnI wb wb.heap.size (wb.heap.size + 1) 1 0 ((wb.alloc (.cells #[.int .i64 1] 3)).alloc (.cells #[.int .i64 0] 3)) ∧ ((wb.alloc (.cells #[.int .i64 1] 3)).alloc (.cells #[.int .i64 0] 3)).heap.size = wb.heap.size + 2 :=
  ⟨⟨((Below.refl _ _).alloc (Nat.le_refl _) _).alloc (by simp) _, (Below.heap_alloc _ _ _ (by simp)).trans (heap_alloc_new wb _), by
    have := heap_alloc_new (wb.alloc (.cells #[.int .i64 1] 3)) (.cells #[.int .i64 0] 3)
    simpa using this, by omega⟩, by simp⟩
end
theorem take_at {all : List (List Int)} {k : Nat} {d : List Int} (h : all[k]? = some d) (hk : k < 41) : (all.take 41)[k]? = some d := by
  rw [List.getElem?_take, if_pos hk]
  exact h

set_option maxRecDepth 100000 in
set_option maxHeartbeats 8000000 in
theorem clearAllLaw_any (n : Int) (A : Option Addr) (c : Nat) (hs : List Hdr) (ls : List (List Offer)) (lv : Int) (w : World) (h : Buys w w.heap.size A hs ls) (hl : ls.length ≤ maxLen) (hls : ∀ l ∈ ls, l.length ≤ maxLen) (hw : BWide ls) (hnil : NilB hs)
    (hlv : -9223372036854775808 ≤ lv ∧ lv ≤ 9223372036854775807) :
    Calls Try.prog 6 #[instV n A ls.length c, .int .i64 lv] w (LawPost w) := by
  have HA := hide h
  have HLG : Hid (∀ W, Below w.heap.size w W → Calls Try.prog 8 #[instV n A ls.length c] W (LargePost ls W)) := hide (fun W hb => large_any n A c hs ls W (h.up hb) (by unfold maxLen at hl; omega) (fun l hm => by have := hls l hm; unfold maxLen at this; omega))
  have HKN := hide (fun W => known_any W)
  have HW := hide hw
  have HNL := hide hnil
  clear h hl hls hw hnil
  simp only [instV] at *
  refine (callsIn_wide (n := 9)).1 ?_
  refine callsIn_of_wp_marks Try.func6 rfl trivial ?_ rfl
  simp only [Try.ntmps6, List.size_toArray, List.length_cons, List.length_nil, Nat.reduceAdd, Nat.reduceSub, Array.replicate_succ, Array.replicate_zero, List.push_toArray, List.append_toArray, List.nil_append, List.cons_append]
  gi_wp2_with fail
  have HR1 : Hid (AskR w n A ls.length c lv false (((w.alloc (.cells #[.int .i64 n, .slice A ls.length c] 24)).alloc (.cells #[.int .i64 lv] 3)).alloc (.cells #[.bool false] 4))) := hide ⟨(((Below.refl _ _).alloc (Nat.le_refl _) _).alloc (by simp) _).alloc (by simp; omega) _, (Below.heap_alloc _ _ _ (by simp; omega)).trans ((Below.heap_alloc _ _ _ (by simp)).trans (heap_alloc_new w _)), by
    refine (Below.heap_alloc _ _ _ (by simp)).trans ?_
    have := heap_alloc_new (w.alloc (.cells #[.int .i64 n, .slice A ls.length c] 24)) (.cells #[.int .i64 lv] 3)
    simpa using this, by
    have := heap_alloc_new ((w.alloc (.cells #[.int .i64 n, .slice A ls.length c] 24)).alloc (.cells #[.int .i64 lv] 3)) (.cells #[.bool false] 4)
    simpa using this⟩
  generalize ((w.alloc (.cells #[.int .i64 n, .slice A ls.length c] 24)).alloc (.cells #[.int .i64 lv] 3)).alloc (.cells #[.bool false] 4) = w1 at *
  refine ⟨trivial, (callsIn_wide.2 (HLG.out w1 HR1.out.bel)).mono ?_⟩
  rintro e w2 ⟨big, rfl, hbig, hb2⟩
  have HR2 := hide (HR1.out.below hb2)
  have HBIG := hide hbig
  clear hb2 hbig
  cases big
  · obtain ⟨hl40, hl20⟩ := HBIG.out rfl
    have HL20 := hide hl20
    have HLL : Hid (∀ l ∈ ls, l.length ≤ 1000000) := hide (fun l hm => by have := hl20 l hm; omega)
    have HRA := hide (refall_any n A c hs ls 41 w2 (HA.out.up HR2.out.bel) (by omega) HLL.out HW.out (by omega))
    simp only [instV] at HRA
    rw [show ((41 : Nat) : Int) = 41 from rfl] at HRA
    clear hl20
    obtain ⟨x0, x1, _, _⟩ := HR2.out.cells
    gi_wp2_with fail
    refine ⟨trivial, (callsIn_wide.2 HRA.out).mono ?_⟩
    rintro e w3 ⟨v5, vs5, rfl, how, hb3⟩
    simp only
    obtain ⟨wl, hwl⟩ : ∃ wl, wl = (allC n ls).take 41 := ⟨_, rfl⟩
    rw [← hwl] at how
    have HWL := hide hwl
    clear hwl
    have HR3 := hide (HR2.out.below hb3)
    have HO3 := hide how
    have HZ2 : Hid (w2.heap.size ≤ w3.heap.size) := hide hb3.size
    obtain ⟨A5, c5, rfl, _⟩ := own_sh how.hdr
    have HB4 : Hid (Below w3.heap.size w3 (w3.alloc (.cells #[.slice A5 wl.length c5] 54))) := hide ((Below.refl _ _).alloc (Nat.le_refl _) _)
    have HK4 : Hid ((w3.alloc (.cells #[.slice A5 wl.length c5] 54)).heap[w3.heap.size]? = some (.cells #[.slice A5 wl.length c5] 54 (0, 0))) := hide (heap_alloc_new w3 _)
    have HR4 := hide (HR3.out.below HB4.out)
    have HO4 := hide (HO3.out.below HB4.out)
    clear hb3 how x0 x1 HRA
    obtain ⟨x0, x1, _, _⟩ := HR4.out.cells
    gi_wp2_with fail
    clear x0 x1
    generalize w3.alloc (.cells #[.slice A5 wl.length c5] 54) = w4 at *
    have HLE := hide (lent_any n A c hs ls w4 (HA.out.up HR4.out.bel) hl40 HL20.out)
    simp only [instV] at HLE
    refine ⟨trivial, (callsIn_wide.2 HLE.out).mono ?_⟩
    rintro e w5 ⟨A6, c6, hs6, rfl, how5, hb5⟩
    simp only
    have HY5 := hide how5
    have HR5 := hide (HR4.out.below hb5)
    have HB5 := hide hb5
    have HB6 : Hid (Below w5.heap.size w5 (w5.alloc (.cells #[.int .i64 n, .slice A6 ls.length c6] 24))) := hide ((Below.refl _ _).alloc (Nat.le_refl _) _)
    have HK6 : Hid ((w5.alloc (.cells #[.int .i64 n, .slice A6 ls.length c6] 24)).heap[w5.heap.size]? = some (.cells #[.int .i64 n, .slice A6 ls.length c6] 24 (0, 0))) := hide (heap_alloc_new w5 _)
    have HR6 := hide (HR5.out.below HB6.out)
    have HY6 := hide (how5.below HB6.out)
    have y0 := cell_of_row _ w5.heap.size 0 _ _ (0, 0) HK6.out
    have y1 := cell_of_row _ w5.heap.size 1 _ _ (0, 0) HK6.out
    simp only [List.getElem?_toArray, List.getElem?_cons_zero, List.getElem?_cons_succ] at y0 y1
    clear hb5 how5 HLE
    gi_wp2_with fail
    clear y0 y1
    generalize w5.alloc (.cells #[.int .i64 n, .slice A6 ls.length c6] 24) = w6 at *
    have HAL := hide (clearAll_any n A6 c6 hs6 ls w6 (HY6.out.buys) (by omega) HLL.out HW.out HY6.out.nils)
    simp only [instV] at HAL
    refine ⟨trivial, (callsIn_wide.2 HAL.out).mono ?_⟩
    rintro e w7 ⟨rc, xc, A8, c8, hs8, rfl, hb7, hrc, hxc, hor⟩
    simp only
    have HB7 := hide hb7
    have HR7 := hide (HR6.out.below hb7)
    have HY7 := hide (HY6.out.below hb7)
    have HK7 := hide ((hb7.block _ (lt_of_block HK6.out)).trans HK6.out)
    have HOR := hide hor
    have HRC := hide hrc
    have HXC := hide hxc
    have hfe : ∀ (W : World), (binOp .eql 57 (.func (.func 43) #[] #[.pointer (some ⟨rc, 0, none⟩), .pointer (some ⟨xc, 0, none⟩)]) .nilFunc).run Try.prog W = .ok (.bool false) W := fun _ => rfl
    clear hb7 hrc hxc hor HAL
    obtain ⟨x0, x1, _, _⟩ := HR7.out.cells
    have y0 := cell_of_row w7 w5.heap.size 0 _ _ (0, 0) HK7.out
    have y1 := cell_of_row w7 w5.heap.size 1 _ _ (0, 0) HK7.out
    simp only [List.getElem?_toArray, List.getElem?_cons_zero, List.getElem?_cons_succ] at y0 y1
    gi_wp2_with fail
    have HKP := hide (kept_any n w4.heap.size A6 c6 hs6 A c hs ls w7 HY7.out (HA.out.up HR7.out.bel) hl40 HL20.out)
    simp only [instV] at HKP
    refine ⟨trivial, (callsIn_wide.2 HKP.out).mono ?_⟩
    rintro e w8 ⟨rfl, hb8⟩
    simp only
    have HB8 := hide hb8
    have HR8 := hide (HR7.out.below hb8)
    have HY8 := hide (HY7.out.below hb8)
    have HK8 := hide ((hb8.block _ (lt_of_block HK7.out)).trans HK7.out)
    clear hb8 HKP x0 x1 y0 y1
    gi_wp2_with fail
    have HZ5 : Hid (w5.heap.size < w8.heap.size) := hide (lt_of_block HK8.out)
    have HZ4 : Hid (w4.heap.size ≤ w5.heap.size) := hide HB5.out.size
    have HW0 := hide (Wiped.start HY5.out HY8.out rfl)
    gi_loopw [8] (fun iv W => ∃ i : Nat, i ≤ ls.length ∧ iv = .int .i64 i ∧ Wiped w5.heap.size w4.heap.size A6 c6 hs6 ls w8 i W) (fun iv _ => ls.length - (intOf iv).toNat)
    case atStart => exact ⟨0, Nat.zero_le _, rfl, HW0.out⟩
    case round =>
      rename World => wr
      obtain ⟨i, hi, rfl, hwp⟩ := hrel
      have HWP := hide hwp
      have hy := (hwp.out w5.heap.size HZ5.out (.inr (Nat.le_refl _))).trans HK8.out
      have y1 := cell_of_row wr w5.heap.size 1 _ _ (0, 0) hy
      simp only [List.getElem?_toArray, List.getElem?_cons_zero, List.getElem?_cons_succ] at y1
      clear hwp hy
      by_cases hlt : i < ls.length
      · obtain ⟨l, hlx⟩ : ∃ l, ls[i]? = some l := ⟨ls[i], List.getElem?_eq_getElem hlt⟩
        obtain ⟨hd, hhx⟩ : ∃ hd, hs6[i]? = some hd := ⟨hs6[i]'(by rw [HY8.out.len]; exact hlt), List.getElem?_eq_getElem _⟩
        have hl20 := HL20.out l (List.mem_of_getElem? hlx)
        have HLX := hide hlx
        have HHX := hide hhx
        have hil : (i : Int) < (ls.length : Int) := by omega
        obtain ⟨gh, hA6, _, _, _⟩ := HWP.out.at_ hlx hhx
        subst hA6
        obtain ⟨a1, a2⟩ := hd
        clear hlx hhx
        obtain ⟨wo, hwo⟩ : ∃ wo, wo = wr := ⟨_, rfl⟩
        rw [← hwo] at HWP y1 ⊢
        clear hwo
        gi_wp2_with fail
        clear y1
        gi_loopw [9] (fun kv W => ∃ k : Nat, k ≤ l.length ∧ kv = .int .i64 k ∧ Wiped w5.heap.size w4.heap.size (some ⟨gh, 0, none⟩) c6 hs6 ls w8 i W) (fun kv _ => l.length - (intOf kv).toNat)
        case atStart => exact ⟨0, Nat.zero_le _, rfl, HWP.out⟩
        case round =>
          rename World => wq
          obtain ⟨k, hk, rfl, hwp⟩ := hrel
          have HWQ := hide hwp
          have hy := (hwp.out w5.heap.size HZ5.out (.inr (Nat.le_refl _))).trans HK8.out
          have y1 := cell_of_row wq w5.heap.size 1 _ _ (0, 0) hy
          simp only [List.getElem?_toArray, List.getElem?_cons_zero, List.getElem?_cons_succ] at y1
          obtain ⟨gh', hgh, z0, z1, hrow⟩ := hwp.at_ HLX.out HHX.out
          injection hgh with hgh
          injection hgh with hgh _ _
          subst hgh
          simp only at z0 hrow
          clear hwp hy
          by_cases hkl : k < l.length
          · obtain ⟨gr, u0, u1, rfl, hge, hle, e0, e1, f0, f1, hcur⟩ := hrow k hkl
            have hkli : (k : Int) < (l.length : Int) := by omega
            have HS1 := hide (HWQ.out.set (o := k * 2) (v := .int .u32 1) hge hle hcur)
            obtain ⟨cur, hcur⟩ := hcur
            have HS2 := hide (HS1.out.set (o := k * 2 + 1) (v := .int .i64 9) hge hle ⟨_, setCell_block hcur (k * 2) _⟩)
            clear hrow hcur
            gi_wp2_with fail
            go_roundw
            case rel => exact ⟨k + 1, by omega, by go_num, HS2.out⟩
            case measure => simp [intOf]; omega
          · obtain rfl : k = l.length := by omega
            have HDR := hide (HWQ.out.drop hlt)
            clear hrow
            gi_wp2_with fail
            go_roundw
            case rel => exact ⟨i + 1, by omega, by go_num, HDR.out⟩
            case measure => simp [intOf]; omega
      · obtain rfl : i = ls.length := by omega
        have HB4r : Hid (Below w4.heap.size w4 wr) := hide (HWP.out.below (Nat.le_refl _) ((HB5.out.trans (HB6.out.mono HB5.out.size)).trans ((HB7.out.mono (by have := HB5.out.size; have := HB6.out.size; omega)).trans (HB8.out.mono (by have := HB5.out.size; have := HB6.out.size; have := HB7.out.size; omega)))) (by have := HZ4.out; have := HZ5.out; omega))
        have HRr := hide (HR4.out.below HB4r.out)
        have HOr := hide (HO4.out.below HB4r.out)
        have HKr := hide ((HB4r.out.block _ (lt_of_block HK4.out)).trans HK4.out)
        have HZ6 : Hid (w5.heap.size < w6.heap.size ∧ w6.heap.size ≤ w7.heap.size ∧ w7.heap.size ≤ w8.heap.size ∧ wr.heap.size = w8.heap.size) := hide ⟨lt_of_block HK6.out, HB7.out.size, HB8.out.size, HWP.out.size⟩
        have HUP : Hid (∀ k, w6.heap.size ≤ k → k < w7.heap.size → wr.heap[k]? = w7.heap[k]?) := hide (fun k h1 h2 => (HWP.out.out k (by have := HZ6.out; omega) (.inr (by have := HZ6.out; omega))).trans (HB8.out.block k h2))
        have HALr : Hid (rc < wr.heap.size ∧ ((instE n ls = 0 ∧ wr.heap[rc]? = some (.cells #[.bool true] 4 (0, 0)) ∧ wr.heap[xc]? = some (.cells #[.int .i64 n, .slice A8 ls.length c8] 24 (0, 0)) ∧ xc < wr.heap.size ∧ Buys wr wr.heap.size A8 hs8 ls) ∨ (instE n ls ≠ 0 ∧ wr.heap[rc]? = some (.cells #[.bool false] 4 (0, 0))))) := hide (by
          have hz := HZ6.out
          rcases HOR.out with ⟨h1, h2, h3, h4⟩ | ⟨h1, h2⟩
          · have hr := lt_of_block h2
            have hx := lt_of_block h3
            refine ⟨by omega, .inl ⟨h1, (HUP.out rc HRC.out hr).trans h2, (HUP.out xc HXC.out hx).trans h3, by omega, ?_⟩⟩
            have key : ∀ {e size m : Nat} {v : Value} {xs : List Value}, w7.ownsRow w6.heap.size e size v m xs → wr.ownsRow w6.heap.size e size v m xs := by
              intro e size m v xs ho
              obtain ⟨h5, h6⟩ := ho
              refine ⟨h5, ?_⟩
              rcases h6 with h6 | ⟨g, cap, cur, b1, b2, b3, b4⟩
              · exact .inl h6
              · exact .inr ⟨g, cap, cur, b1, b2, (HUP.out g b2 (lt_of_block b3)).trans b3, b4⟩
            exact (⟨h4.len, key h4.hdr, fun i hd l ha hb => key (h4.row i hd l ha hb), h4.nil⟩ : OwnB wr w6.heap.size A8 c8 hs8 ls).buys
          · have hr := lt_of_block h2
            exact ⟨by omega, .inr ⟨h1, (HUP.out rc HRC.out hr).trans h2⟩⟩)
        clear HWP HUP HOR HRC HXC HZ6 HZ5 HZ4 HB4r HB5 HB6 HB7 HB8 HR5 HR6 HR7 HR8 HY5 HY6 HY7 HY8 HK6 HK7 HK8 HW0 HO3 HO4 HR3 HR4 HK4 HB4 HR1 HR2
        gi_wp2_with fail
        clear y1
        have HS0 := hide (TurnI.start wr)
        refine wpIn_loop_rounds 3 ?_
        rw [roundsIn_succ]
        gi_wp2_with fail
        generalize (wr.alloc (.cells #[.int .i64 0] 3)).alloc (.cells #[.int .i64 0] 3) = ws0 at *
        have HBB : Hid (Below wr.heap.size wr wr) := hide (Below.refl _ _)
        obtain ⟨tc, htc⟩ : ∃ tc, tc = wr.heap.size := ⟨_, rfl⟩
        have HZT : Hid (ws0.heap.size = tc + 2) := hide (by rw [htc]; exact HS0.out.2)
        have HTI := hide HS0.out.1
        have HTC := hide htc
        rw [← htc] at HTI ⊢
        clear htc
        refine wpIn_rangeSeqL (α := Value × List Int) (encs := encC) (E := NextC (ws0.heap.size + 2) (allC n ls)) (S := fun xs => xs.map Prod.snd = allC n ls) (Sp := fun pre => pre.map Prod.snd <+: allC n ls) (gf := 43) (lb := #[.pointer (some ⟨rc, 0, none⟩), .pointer (some ⟨xc, 0, none⟩)]) rfl (enters_of Try.func43 (by kernel_rfl) rfl) (fun i => i = tc + 1) ownC
          (fun h => by have := HZT.out; omega) (fun h => by have := HZT.out; omega)
          (fun pre x W hE k hk => (hE.2.lt k hk).1)
          (fun W hb hz => all_seq (w6 := wr) (w7 := wr) (B := wr.heap.size) (A := A8) (c := c8) (hs := hs8) HW.out (fun k hk => by have := HZT.out; have := HTC.out; have := HBB.out.size; rcases hk with hk | hk <;> omega) (by omega) (by have := HZT.out; have := HTC.out; have := HBB.out.size; omega) HALr.out.1 (by
            have hbW : Below wr.heap.size wr W := (HBB.out.trans (HTI.out.bel.mono HBB.out.size)).trans (hb.mono (by have := HZT.out; have := HTC.out; have := HBB.out.size; omega))
            rcases HALr.out.2 with ⟨h1, h2, h3, h4, h5⟩ | ⟨h1, h2⟩
            · exact .inl ⟨h1, (hbW.block _ (lt_of_block h2)).trans h2, (hbW.block _ (lt_of_block h3)).trans h3, h4, h5.below hbW⟩
            · exact .inr ⟨h1, (hbW.block _ (lt_of_block h2)).trans h2⟩))
          (fun _ => rfl)
          (fun pre W' => pre.length < 40 ∧ TurnI wr tc (tc + 1) 0 pre.length W') (fun c' pre W' => (c' = .exit 6 ∧ pre.length ≤ 40 ∧ (pre.length = 40 ∨ ((0 : Int) = 0 ∧ (pre.length : Int) = lv))) ∧ TurnI wr tc (tc + 1) 0 pre.length W')
          (fun s X Y hs' hb' => ⟨hs'.1, hs'.2.low (by have := HZT.out; omega) (by have := HZT.out; omega) hb'⟩) (fun c' s X Y hs' hb' => ⟨hs'.1, hs'.2.low (by have := HZT.out; omega) (by have := HZT.out; omega) hb'⟩) ⟨by decide, HTI.out⟩
          ?a1_1 (fun _ W => W) (fun _ _ => Below.refl _ _) 7 ?assign_1 ?body_1 ?done_1 ?stop_1
        case assign_1 =>
          rintro l' pre x W' K he hK
          clear he
          simp only [encC]
          gi_wp2
          exact hK
        case body_1 =>
          rintro l' pre ⟨v', d⟩ W0 Wr ⟨hk40, hti⟩ hE hsz hsz2 hsame
          obtain ⟨k, hk⟩ : ∃ k, k = pre.length := ⟨_, rfl⟩
          rw [← hk] at hk40 hti
          have HK := hide hk
          have HT0 := hide hti
          have hpk := pre_at hE.1
          rw [List.length_map, ← hk] at hpk
          have HDK : Hid (wl[k]? = some d ∧ k < wl.length) := hide (by
            rw [HWL.out]
            exact ⟨take_at hpk.1 (by omega), by rw [List.length_take]; have := hpk.2; omega⟩)
          have hownr : Wr.ownsRow (ws0.heap.size + 2) 3 1 v' d.length (d.map (Value.int .i64)) := own_same hE.2 (fun k hk => hsame k (by omega))
          obtain ⟨A4, c4, rfl, _⟩ := own_sh hownr
          have HOD := hide hownr
          have HZR : Hid (ws0.heap.size + 2 ≤ Wr.heap.size) := hide (by omega)
          have hdl : d.length ≤ 1000000 := by
            have h1 := pre_mem hE.1
            unfold allC at h1
            split at h1
            · have := choicesW_len ls _ d h1; omega
            · cases h1
          have hBr : Below wr.heap.size wr Wr := HBB.out.trans (hti.bel.mono HBB.out.size)
          have hOW := HOr.out.below hBr
          obtain ⟨u, hu⟩ : ∃ u, vs5[k]? = some u := by
            have h1 := HOr.out.hdr.1
            have h2 := HDK.out.2
            exact ⟨vs5[k]'(by omega), List.getElem?_eq_getElem _⟩
          have hru := hOW.row k u d hu HDK.out.1
          obtain ⟨gw, capw, hvw⟩ := Go.Joins.ownsRow_form hOW.hdr (by have := HDK.out.2; omega)
          injection hvw with hA5 _ _
          have hcu : Wr.cell? ⟨gw, k, none⟩ = some u := by
            have h1 := hOW.hdr
            rw [hA5] at h1
            rw [h1.cellAt k (by have := HDK.out.2; omega)]
            exact hu
          obtain ⟨A3, c3, rfl, _⟩ := own_sh hru
          have HSI := hide (sameInts_eq A4 c4 A3 c3 d Wr (Reads.of_own hownr) (Reads.of_own hru) hdl)
          have hk5 := (hBr.block _ (lt_of_block HKr.out)).trans HKr.out
          have y5 := cell_of_row Wr w3.heap.size 0 _ _ (0, 0) hk5
          simp only [List.getElem?_toArray, List.getElem?_cons_zero] at y5
          rw [hA5] at y5
          obtain ⟨x10, x11, _⟩ := hti.cells
          have hge : decide ((wl.length : Int) ≤ (k : Int)) = false := decide_eq_false (by have := HDK.out.2; omega)
          have hki : (k : Int) < (wl.length : Int) := by have := HDK.out.2; omega
          clear hk hti hownr hsame hsz hsz2 hE hpk hOW hu hru hBr hk5
          gi_wp2_with fail
          refine ⟨trivial, (callsIn_in HSI.out).mono ?_⟩
          rintro e W4 ⟨rfl, hb4⟩
          simp only
          have HT4 := hide (HT0.out.below hb4)
          have HO4 := hide (own_below HOD.out hb4 (Nat.le_refl _))
          have HX4 : Hid (OutP (fun i => i = tc + 1 ∨ ownC (.slice A4 d.length c4, d) i) Wr W4) := hide (OutP.of_below hb4)
          have HZ4w : Hid (ws0.heap.size + 2 ≤ W4.heap.size) := hide (Nat.le_trans HZR.out hb4.size)
          have HOV := hide (over_any (ws0.heap.size + 2) A4 c4 d W4 HO4.out hdl)
          clear hb4 HSI HT0 HOD y5 hcu
          gi_wp2_with fail
          refine ⟨trivial, (callsIn_in HOV.out).mono ?_⟩
          rintro e W5 ⟨rfl, hg5, hz5⟩
          simp only
          have hlow5 : Below (ws0.heap.size + 2) W4 W5 := (Below.refl _ _).grown hg5 HZ4w.out (fun i hi => (HO4.out.lt i hi).1)
          have HT5 := hide (HT4.out.low (S := ws0.heap.size + 2) (by have := HZT.out; omega) (by have := HZT.out; omega) hlow5)
          have HX5 : Hid (OutP (fun i => i = tc + 1 ∨ ownC (.slice A4 d.length c4, d) i) Wr W5) := hide (HX4.out.trans ⟨hg5.size, fun i hi hn => hg5.block i hi (fun e => hn (.inr e.symm))⟩)
          clear hg5 hz5 hlow5 HOV HX4 HT4 HO4 x10 x11
          obtain ⟨x10, x11, f11⟩ := HT5.out.cells
          have HT6 := hide (HT5.out.next (k + 1))
          have HX6 := hide (HX5.out.set ⟨tc + 1, 0, none⟩ (.inl rfl) (.int .i64 ((k + 1 : Nat) : Int)))
          have hwk : IntKind.i64.wrap ((k : Int) + 1) = (k : Int) + 1 := Go.IntWalk.i64_in _ (by omega)
          have hkk : ((k + 1 : Nat) : Int) = (k : Int) + 1 := by omega
          rw [hkk] at HT6 HX6
          have HLN : Hid ((pre ++ [((.slice A4 d.length c4 : Value), d)]).length = k + 1) := hide (by rw [List.length_append, ← HK.out]; rfl)
          obtain ⟨g10, g11, _⟩ := HT6.out.cells
          rw [hkk] at g11
          have HASK := hide (HRr.out.below (HBB.out.trans (HT6.out.bel.mono HBB.out.size)))
          have g2 := HASK.out.cells.2.2.1
          clear hkk
          by_cases h40 : k + 1 = 40
          · have e40 : ((k : Int) + 1 == 40) = true := by rw [beq_iff_eq]; omega
            have H40 := hide h40
            clear h40
            gi_wp2_with fail
            have h1 : (pre ++ [((.slice A4 d.length c4 : Value), d)]).length ≤ 40 := by rw [HLN.out]; exact Nat.le_of_eq H40.out
            have h2 : (pre ++ [((.slice A4 d.length c4 : Value), d)]).length = 40 := by rw [HLN.out]; exact H40.out
            exact ⟨HX6.out, ⟨rfl, h1, by first | exact .inl h2 | exact h2⟩, by show TurnI wr tc (tc + 1) 0 (pre ++ _).length _; rw [HLN.out]; exact HT6.out⟩
          · have e40 : ((k : Int) + 1 == 40) = false := by rw [beq_eq_false_iff_ne]; omega
            have H40 : Hid (k + 1 < 40) := hide (by omega)
            by_cases hlvk : (k : Int) + 1 = lv
            · have elv : ((k : Int) + 1 == lv) = true := by rw [beq_iff_eq]; exact hlvk
              have HLV := hide hlvk
              clear h40 hlvk
              gi_wp2_with fail
              have h1 : (pre ++ [((.slice A4 d.length c4 : Value), d)]).length ≤ 40 := by rw [HLN.out]; exact Nat.le_of_lt H40.out
              have h2 : (((pre ++ [((.slice A4 d.length c4 : Value), d)]).length : Nat) : Int) = lv := by rw [HLN.out]; have := HLV.out; omega
              exact ⟨HX6.out, ⟨rfl, h1, by first | exact .inr ⟨rfl, h2⟩ | exact .inr h2⟩, by show TurnI wr tc (tc + 1) 0 (pre ++ _).length _; rw [HLN.out]; exact HT6.out⟩
            · have elv : ((k : Int) + 1 == lv) = false := by rw [beq_eq_false_iff_ne]; exact hlvk
              clear h40 hlvk
              gi_wp2_with fail
              exact ⟨HX6.out, by show (pre ++ _).length < 40; rw [HLN.out]; exact H40.out, by show TurnI wr tc (tc + 1) 0 (pre ++ _).length _; rw [HLN.out]; exact HT6.out⟩
        case done_1 =>
          rintro D0 xs WT0 hD hS ⟨hk40, hti⟩ hK
          have hxl : xs.length = (allC n ls).length := by rw [← hS, List.length_map]
          have hwk : wl.length = xs.length := by rw [HWL.out, List.length_take]; omega
          generalize xs.length = kx at *
          have hm1 : (wl.length : Int) ≤ 40 := by omega
          have hm2 : ¬ ((40 : Int) < (wl.length : Int)) := by omega
          have hne : ((kx : Int) != (wl.length : Int)) = false := by rw [bne_eq_false_iff_eq]; omega
          clear hS hxl hwk hk40
          have hBr : Below wr.heap.size wr WT0 := HBB.out.trans (hti.bel.mono HBB.out.size)
          have hk5 := (hBr.block _ (lt_of_block HKr.out)).trans HKr.out
          have y5 := cell_of_row WT0 w3.heap.size 0 _ _ (0, 0) hk5
          simp only [List.getElem?_toArray, List.getElem?_cons_zero] at y5
          obtain ⟨x10, x11, _⟩ := hti.cells
          have HBW0 := hide hBr
          have HKD0 := hide hK
          have HTW0 := hide hti.bel
          have HDW0 : Hid (wr.heap.size ≤ D0) := hide (by have := HZT.out; have := HTC.out; omega)
          have hASK := HRr.out.below hBr
          have x3 := hASK.cells.2.2.1
          clear hASK
          clear hBr hk5 hti hK hD
          gi_wp2_with fail
          rw [roundsIn_succ]
          have HS1 := hide (TurnI.again WT0)
          clear y5 x10 x11 x3 hm1 hm2 hne HZT HTI HTC
          gi_wp2_with fail
          generalize (WT0.alloc (.cells #[.int .i64 1] 3)).alloc (.cells #[.int .i64 0] 3) = ws1 at *
          have HBB := HBW0
          clear HS0
          obtain ⟨tc, htc⟩ : ∃ tc, tc = WT0.heap.size := ⟨_, rfl⟩
          have HZT : Hid (ws1.heap.size = tc + 2) := hide (by rw [htc]; exact HS1.out.2)
          have HTI := hide HS1.out.1
          have HTC := hide htc
          rw [← htc] at HTI ⊢
          clear htc
          refine wpIn_rangeSeqL (α := Value × List Int) (encs := encC) (E := NextC (ws1.heap.size + 2) (allC n ls)) (S := fun xs => xs.map Prod.snd = allC n ls) (Sp := fun pre => pre.map Prod.snd <+: allC n ls) (gf := 43) (lb := #[.pointer (some ⟨rc, 0, none⟩), .pointer (some ⟨xc, 0, none⟩)]) rfl (enters_of Try.func43 (by kernel_rfl) rfl) (fun i => i = tc + 1) ownC
            (fun h => by have := HZT.out; omega) (fun h => by have := HZT.out; omega)
            (fun pre x W hE k hk => (hE.2.lt k hk).1)
            (fun W hb hz => all_seq (w6 := wr) (w7 := wr) (B := wr.heap.size) (A := A8) (c := c8) (hs := hs8) HW.out (fun k hk => by have := HZT.out; have := HTC.out; have := HBB.out.size; rcases hk with hk | hk <;> omega) (by omega) (by have := HZT.out; have := HTC.out; have := HBB.out.size; omega) HALr.out.1 (by
              have hbW : Below wr.heap.size wr W := (HBB.out.trans (HTI.out.bel.mono HBB.out.size)).trans (hb.mono (by have := HZT.out; have := HTC.out; have := HBB.out.size; omega))
              rcases HALr.out.2 with ⟨h1, h2, h3, h4, h5⟩ | ⟨h1, h2⟩
              · exact .inl ⟨h1, (hbW.block _ (lt_of_block h2)).trans h2, (hbW.block _ (lt_of_block h3)).trans h3, h4, h5.below hbW⟩
              · exact .inr ⟨h1, (hbW.block _ (lt_of_block h2)).trans h2⟩))
            (fun _ => rfl)
            (fun pre W' => pre.length < 40 ∧ TurnI WT0 tc (tc + 1) 1 pre.length W') (fun c' pre W' => (c' = .exit 6 ∧ pre.length ≤ 40 ∧ (pre.length = 40 ∨ ((1 : Int) = 0 ∧ (pre.length : Int) = lv))) ∧ TurnI WT0 tc (tc + 1) 1 pre.length W')
            (fun s X Y hs' hb' => ⟨hs'.1, hs'.2.low (by have := HZT.out; omega) (by have := HZT.out; omega) hb'⟩) (fun c' s X Y hs' hb' => ⟨hs'.1, hs'.2.low (by have := HZT.out; omega) (by have := HZT.out; omega) hb'⟩) ⟨by decide, HTI.out⟩
            ?a1_2 (fun _ W => W) (fun _ _ => Below.refl _ _) 7 ?assign_2 ?body_2 ?done_2 ?stop_2
          case assign_2 =>
            rintro l' pre x W' K he hK
            clear he
            simp only [encC]
            gi_wp2
            exact hK
          case body_2 =>
            rintro l' pre ⟨v', d⟩ W0 Wr ⟨hk40, hti⟩ hE hsz hsz2 hsame
            obtain ⟨k, hk⟩ : ∃ k, k = pre.length := ⟨_, rfl⟩
            rw [← hk] at hk40 hti
            have HK := hide hk
            have HT0 := hide hti
            have hpk := pre_at hE.1
            rw [List.length_map, ← hk] at hpk
            have HDK : Hid (wl[k]? = some d ∧ k < wl.length) := hide (by
              rw [HWL.out]
              exact ⟨take_at hpk.1 (by omega), by rw [List.length_take]; have := hpk.2; omega⟩)
            have hownr : Wr.ownsRow (ws1.heap.size + 2) 3 1 v' d.length (d.map (Value.int .i64)) := own_same hE.2 (fun k hk => hsame k (by omega))
            obtain ⟨A4, c4, rfl, _⟩ := own_sh hownr
            have HOD := hide hownr
            have HZR : Hid (ws1.heap.size + 2 ≤ Wr.heap.size) := hide (by omega)
            have hdl : d.length ≤ 1000000 := by
              have h1 := pre_mem hE.1
              unfold allC at h1
              split at h1
              · have := choicesW_len ls _ d h1; omega
              · cases h1
            have hBr : Below wr.heap.size wr Wr := HBB.out.trans (hti.bel.mono HBB.out.size)
            have hOW := HOr.out.below hBr
            obtain ⟨u, hu⟩ : ∃ u, vs5[k]? = some u := by
              have h1 := HOr.out.hdr.1
              have h2 := HDK.out.2
              exact ⟨vs5[k]'(by omega), List.getElem?_eq_getElem _⟩
            have hru := hOW.row k u d hu HDK.out.1
            obtain ⟨gw, capw, hvw⟩ := Go.Joins.ownsRow_form hOW.hdr (by have := HDK.out.2; omega)
            injection hvw with hA5 _ _
            have hcu : Wr.cell? ⟨gw, k, none⟩ = some u := by
              have h1 := hOW.hdr
              rw [hA5] at h1
              rw [h1.cellAt k (by have := HDK.out.2; omega)]
              exact hu
            obtain ⟨A3, c3, rfl, _⟩ := own_sh hru
            have HSI := hide (sameInts_eq A4 c4 A3 c3 d Wr (Reads.of_own hownr) (Reads.of_own hru) hdl)
            have hk5 := (hBr.block _ (lt_of_block HKr.out)).trans HKr.out
            have y5 := cell_of_row Wr w3.heap.size 0 _ _ (0, 0) hk5
            simp only [List.getElem?_toArray, List.getElem?_cons_zero] at y5
            rw [hA5] at y5
            obtain ⟨x10, x11, _⟩ := hti.cells
            have hge : decide ((wl.length : Int) ≤ (k : Int)) = false := decide_eq_false (by have := HDK.out.2; omega)
            have hki : (k : Int) < (wl.length : Int) := by have := HDK.out.2; omega
            clear hk hti hownr hsame hsz hsz2 hE hpk hOW hu hru hBr hk5
            gi_wp2_with fail
            refine ⟨trivial, (callsIn_in HSI.out).mono ?_⟩
            rintro e W4 ⟨rfl, hb4⟩
            simp only
            have HT4 := hide (HT0.out.below hb4)
            have HO4 := hide (own_below HOD.out hb4 (Nat.le_refl _))
            have HX4 : Hid (OutP (fun i => i = tc + 1 ∨ ownC (.slice A4 d.length c4, d) i) Wr W4) := hide (OutP.of_below hb4)
            have HZ4w : Hid (ws1.heap.size + 2 ≤ W4.heap.size) := hide (Nat.le_trans HZR.out hb4.size)
            have HOV := hide (over_any (ws1.heap.size + 2) A4 c4 d W4 HO4.out hdl)
            clear hb4 HSI HT0 HOD y5 hcu
            gi_wp2_with fail
            refine ⟨trivial, (callsIn_in HOV.out).mono ?_⟩
            rintro e W5 ⟨rfl, hg5, hz5⟩
            simp only
            have hlow5 : Below (ws1.heap.size + 2) W4 W5 := (Below.refl _ _).grown hg5 HZ4w.out (fun i hi => (HO4.out.lt i hi).1)
            have HT5 := hide (HT4.out.low (S := ws1.heap.size + 2) (by have := HZT.out; omega) (by have := HZT.out; omega) hlow5)
            have HX5 : Hid (OutP (fun i => i = tc + 1 ∨ ownC (.slice A4 d.length c4, d) i) Wr W5) := hide (HX4.out.trans ⟨hg5.size, fun i hi hn => hg5.block i hi (fun e => hn (.inr e.symm))⟩)
            clear hg5 hz5 hlow5 HOV HX4 HT4 HO4 x10 x11
            obtain ⟨x10, x11, f11⟩ := HT5.out.cells
            have HT6 := hide (HT5.out.next (k + 1))
            have HX6 := hide (HX5.out.set ⟨tc + 1, 0, none⟩ (.inl rfl) (.int .i64 ((k + 1 : Nat) : Int)))
            have hwk : IntKind.i64.wrap ((k : Int) + 1) = (k : Int) + 1 := Go.IntWalk.i64_in _ (by omega)
            have hkk : ((k + 1 : Nat) : Int) = (k : Int) + 1 := by omega
            rw [hkk] at HT6 HX6
            have HLN : Hid ((pre ++ [((.slice A4 d.length c4 : Value), d)]).length = k + 1) := hide (by rw [List.length_append, ← HK.out]; rfl)
            obtain ⟨g10, g11, _⟩ := HT6.out.cells
            rw [hkk] at g11
            have HASK := hide (HRr.out.below (HBB.out.trans (HT6.out.bel.mono HBB.out.size)))
            have g2 := HASK.out.cells.2.2.1
            clear hkk
            by_cases h40 : k + 1 = 40
            · have e40 : ((k : Int) + 1 == 40) = true := by rw [beq_iff_eq]; omega
              have H40 := hide h40
              clear h40
              gi_wp2_with fail
              have h1 : (pre ++ [((.slice A4 d.length c4 : Value), d)]).length ≤ 40 := by rw [HLN.out]; exact Nat.le_of_eq H40.out
              have h2 : (pre ++ [((.slice A4 d.length c4 : Value), d)]).length = 40 := by rw [HLN.out]; exact H40.out
              exact ⟨HX6.out, ⟨rfl, h1, by first | exact .inl h2 | exact h2⟩, by show TurnI WT0 tc (tc + 1) 1 (pre ++ _).length _; rw [HLN.out]; exact HT6.out⟩
            · have e40 : ((k : Int) + 1 == 40) = false := by rw [beq_eq_false_iff_ne]; omega
              have H40 : Hid (k + 1 < 40) := hide (by omega)
              clear h40
              gi_wp2_with fail
              exact ⟨HX6.out, by show (pre ++ _).length < 40; rw [HLN.out]; exact H40.out, by show TurnI WT0 tc (tc + 1) 1 (pre ++ _).length _; rw [HLN.out]; exact HT6.out⟩
          case done_2 =>
            rintro D1 xs WT1 hD hS ⟨hk40, hti⟩ hK
            have hxl : xs.length = (allC n ls).length := by rw [← hS, List.length_map]
            have hwk : wl.length = xs.length := by rw [HWL.out, List.length_take]; omega
            generalize xs.length = kx at *
            have hm1 : (wl.length : Int) ≤ 40 := by omega
            have hm2 : ¬ ((40 : Int) < (wl.length : Int)) := by omega
            have hne : ((kx : Int) != (wl.length : Int)) = false := by rw [bne_eq_false_iff_eq]; omega
            clear hS hxl hwk hk40
            have hBr : Below wr.heap.size wr WT1 := HBB.out.trans (hti.bel.mono HBB.out.size)
            have hk5 := (hBr.block _ (lt_of_block HKr.out)).trans HKr.out
            have y5 := cell_of_row WT1 w3.heap.size 0 _ _ (0, 0) hk5
            simp only [List.getElem?_toArray, List.getElem?_cons_zero] at y5
            obtain ⟨x10, x11, _⟩ := hti.cells
            have HBW1 := hide hBr
            have HKD1 := hide hK
            have HTW1 := hide hti.bel
            have HDW1 : Hid (WT0.heap.size ≤ D1) := hide (by have := HZT.out; have := HTC.out; omega)
            clear hBr hk5 hti hK hD
            gi_wp2_with fail
            rw [roundsIn_succ]
            clear y5 x10 x11 hm1 hm2 hne HZT HTI HTC
            gi_wp2_with fail
            have HBk : Hid (Below WT1.heap.size WT1 (WT1.alloc (.cells #[.int .i64 2] 3))) := hide ((Below.refl _ _).alloc (Nat.le_refl _) _)
            generalize WT1.alloc (.cells #[.int .i64 2] 3) = wk at *
            refine ⟨trivial, (callsIn_wide.2 (HKN.out wk)).mono ?_⟩
            rintro e wz ⟨rfl, hbz⟩
            simp only
            have HBz : Hid (Below WT1.heap.size WT1 wz) := hide (HBk.out.trans (hbz.mono HBk.out.size))
            have HRz := hide (HRr.out.below (HBW1.out.trans (HBz.out.mono HBW1.out.size)))
            have HK0z := hide ((HBz.out.block _ (Nat.lt_of_lt_of_le (lt_of_block HKD0.out) HTW1.out.size)).trans ((HTW1.out.block _ (lt_of_block HKD0.out)).trans HKD0.out))
            have HK1z := hide ((HBz.out.block _ (lt_of_block HKD1.out)).trans HKD1.out)
            have HR10 := hide (HRz.out.says true)
            have HL0 : Hid (w.heap.size + 3 ≤ D0 ∧ w.heap.size + 3 ≤ D1 ∧ D0 ≠ D1) := hide (by
              have h1 := HRr.out.lt
              have h2 := HDW0.out
              have h3 := HDW1.out
              have h4 := lt_of_block HKD0.out
              have h5 := HTW0.out.size
              omega)
            have HK0s := hide ((Below.heap_setCell wz ⟨w.heap.size + 2, 0, none⟩ (.bool true) D0 (by have := HL0.out; show D0 ≠ w.heap.size + 2; omega)).trans HK0z.out)
            have HK1s := hide ((Below.heap_setCell wz ⟨w.heap.size + 2, 0, none⟩ (.bool true) D1 (by have := HL0.out; show D1 ≠ w.heap.size + 2; omega)).trans HK1z.out)
            clear hbz
            obtain ⟨_, _, _, x4, x5⟩ := HRz.out.cells
            gi_wp2_with fail
            exact ask_end HR10.out HL0.out.1 HL0.out.2.1 HL0.out.2.2 HK0s.out HK1s.out (fun W' h => by simp [results, Try.results6, go_sem, h])
          case stop_2 =>
            rintro D1 c' pre WT1 hD hpre ⟨⟨rfl, hk40, hor⟩, hti⟩ hK
            have hpl : pre.length ≤ (allC n ls).length := by
              have := hpre.length_le
              rwa [List.length_map] at this
            have hwl : wl.length = min 41 (allC n ls).length := by rw [HWL.out, List.length_take]
            generalize pre.length = kx at *
            clear hpre
            by_cases hm : wl.length ≤ 40
            · have hm1 : (wl.length : Int) ≤ 40 := by omega
              have hm2 : ¬ ((40 : Int) < (wl.length : Int)) := by omega
              by_cases hkm : kx = wl.length
              · have hne : ((kx : Int) != (wl.length : Int)) = false := by rw [bne_eq_false_iff_eq]; omega
                clear hkm hor hm hwl hpl hk40
                have hBr : Below wr.heap.size wr WT1 := HBB.out.trans (hti.bel.mono HBB.out.size)
                have hk5 := (hBr.block _ (lt_of_block HKr.out)).trans HKr.out
                have y5 := cell_of_row WT1 w3.heap.size 0 _ _ (0, 0) hk5
                simp only [List.getElem?_toArray, List.getElem?_cons_zero] at y5
                obtain ⟨x10, x11, _⟩ := hti.cells
                have HBW1 := hide hBr
                have HKD1 := hide hK
                have HTW1 := hide hti.bel
                have HDW1 : Hid (WT0.heap.size ≤ D1) := hide (by have := HZT.out; have := HTC.out; omega)
                clear hBr hk5 hti hK hD
                gi_wp2_with fail
                rw [roundsIn_succ]
                clear y5 x10 x11 hm1 hm2 hne HZT HTI HTC
                gi_wp2_with fail
                have HBk : Hid (Below WT1.heap.size WT1 (WT1.alloc (.cells #[.int .i64 2] 3))) := hide ((Below.refl _ _).alloc (Nat.le_refl _) _)
                generalize WT1.alloc (.cells #[.int .i64 2] 3) = wk at *
                refine ⟨trivial, (callsIn_wide.2 (HKN.out wk)).mono ?_⟩
                rintro e wz ⟨rfl, hbz⟩
                simp only
                have HBz : Hid (Below WT1.heap.size WT1 wz) := hide (HBk.out.trans (hbz.mono HBk.out.size))
                have HRz := hide (HRr.out.below (HBW1.out.trans (HBz.out.mono HBW1.out.size)))
                have HK0z := hide ((HBz.out.block _ (Nat.lt_of_lt_of_le (lt_of_block HKD0.out) HTW1.out.size)).trans ((HTW1.out.block _ (lt_of_block HKD0.out)).trans HKD0.out))
                have HK1z := hide ((HBz.out.block _ (lt_of_block HKD1.out)).trans HKD1.out)
                have HR10 := hide (HRz.out.says true)
                have HL0 : Hid (w.heap.size + 3 ≤ D0 ∧ w.heap.size + 3 ≤ D1 ∧ D0 ≠ D1) := hide (by
                  have h1 := HRr.out.lt
                  have h2 := HDW0.out
                  have h3 := HDW1.out
                  have h4 := lt_of_block HKD0.out
                  have h5 := HTW0.out.size
                  omega)
                have HK0s := hide ((Below.heap_setCell wz ⟨w.heap.size + 2, 0, none⟩ (.bool true) D0 (by have := HL0.out; show D0 ≠ w.heap.size + 2; omega)).trans HK0z.out)
                have HK1s := hide ((Below.heap_setCell wz ⟨w.heap.size + 2, 0, none⟩ (.bool true) D1 (by have := HL0.out; show D1 ≠ w.heap.size + 2; omega)).trans HK1z.out)
                clear hbz
                obtain ⟨_, _, _, x4, x5⟩ := HRz.out.cells
                gi_wp2_with fail
                exact ask_end HR10.out HL0.out.1 HL0.out.2.1 HL0.out.2.2 HK0s.out HK1s.out (fun W' h => by simp [results, Try.results6, go_sem, h])
              · exfalso
                rcases hor with h | h
                · omega
                · exact absurd h.1 (by decide)
            · have hm1 : ¬ ((wl.length : Int) ≤ 40) := by omega
              have hm2 : (40 : Int) < (wl.length : Int) := by omega
              by_cases hkm : kx = 40
              · have hne : ((kx : Int) != 40) = false := by rw [bne_eq_false_iff_eq]; omega
                clear hkm hor hm hwl hpl hk40
                have hBr : Below wr.heap.size wr WT1 := HBB.out.trans (hti.bel.mono HBB.out.size)
                have hk5 := (hBr.block _ (lt_of_block HKr.out)).trans HKr.out
                have y5 := cell_of_row WT1 w3.heap.size 0 _ _ (0, 0) hk5
                simp only [List.getElem?_toArray, List.getElem?_cons_zero] at y5
                obtain ⟨x10, x11, _⟩ := hti.cells
                have HBW1 := hide hBr
                have HKD1 := hide hK
                have HTW1 := hide hti.bel
                have HDW1 : Hid (WT0.heap.size ≤ D1) := hide (by have := HZT.out; have := HTC.out; omega)
                clear hBr hk5 hti hK hD
                gi_wp2_with fail
                rw [roundsIn_succ]
                clear y5 x10 x11 hm1 hm2 hne HZT HTI HTC
                gi_wp2_with fail
                have HBk : Hid (Below WT1.heap.size WT1 (WT1.alloc (.cells #[.int .i64 2] 3))) := hide ((Below.refl _ _).alloc (Nat.le_refl _) _)
                generalize WT1.alloc (.cells #[.int .i64 2] 3) = wk at *
                refine ⟨trivial, (callsIn_wide.2 (HKN.out wk)).mono ?_⟩
                rintro e wz ⟨rfl, hbz⟩
                simp only
                have HBz : Hid (Below WT1.heap.size WT1 wz) := hide (HBk.out.trans (hbz.mono HBk.out.size))
                have HRz := hide (HRr.out.below (HBW1.out.trans (HBz.out.mono HBW1.out.size)))
                have HK0z := hide ((HBz.out.block _ (Nat.lt_of_lt_of_le (lt_of_block HKD0.out) HTW1.out.size)).trans ((HTW1.out.block _ (lt_of_block HKD0.out)).trans HKD0.out))
                have HK1z := hide ((HBz.out.block _ (lt_of_block HKD1.out)).trans HKD1.out)
                have HR10 := hide (HRz.out.says true)
                have HL0 : Hid (w.heap.size + 3 ≤ D0 ∧ w.heap.size + 3 ≤ D1 ∧ D0 ≠ D1) := hide (by
                  have h1 := HRr.out.lt
                  have h2 := HDW0.out
                  have h3 := HDW1.out
                  have h4 := lt_of_block HKD0.out
                  have h5 := HTW0.out.size
                  omega)
                have HK0s := hide ((Below.heap_setCell wz ⟨w.heap.size + 2, 0, none⟩ (.bool true) D0 (by have := HL0.out; show D0 ≠ w.heap.size + 2; omega)).trans HK0z.out)
                have HK1s := hide ((Below.heap_setCell wz ⟨w.heap.size + 2, 0, none⟩ (.bool true) D1 (by have := HL0.out; show D1 ≠ w.heap.size + 2; omega)).trans HK1z.out)
                clear hbz
                obtain ⟨_, _, _, x4, x5⟩ := HRz.out.cells
                gi_wp2_with fail
                exact ask_end HR10.out HL0.out.1 HL0.out.2.1 HL0.out.2.2 HK0s.out HK1s.out (fun W' h => by simp [results, Try.results6, go_sem, h])
              · exfalso
                rcases hor with h | h
                · omega
                · exact absurd h.1 (by decide)
        case stop_1 =>
          rintro D0 c' pre WT0 hD hpre ⟨⟨rfl, hk40, hor⟩, hti⟩ hK
          have hpl : pre.length ≤ (allC n ls).length := by
            have := hpre.length_le
            rwa [List.length_map] at this
          have hwl : wl.length = min 41 (allC n ls).length := by rw [HWL.out, List.length_take]
          generalize pre.length = kx at *
          clear hpre
          by_cases hm : wl.length ≤ 40
          · have hm1 : (wl.length : Int) ≤ 40 := by omega
            have hm2 : ¬ ((40 : Int) < (wl.length : Int)) := by omega
            by_cases hkm : kx = wl.length
            · have hne : ((kx : Int) != (wl.length : Int)) = false := by rw [bne_eq_false_iff_eq]; omega
              clear hkm hor hm hwl hpl hk40
              have hBr : Below wr.heap.size wr WT0 := HBB.out.trans (hti.bel.mono HBB.out.size)
              have hk5 := (hBr.block _ (lt_of_block HKr.out)).trans HKr.out
              have y5 := cell_of_row WT0 w3.heap.size 0 _ _ (0, 0) hk5
              simp only [List.getElem?_toArray, List.getElem?_cons_zero] at y5
              obtain ⟨x10, x11, _⟩ := hti.cells
              have HBW0 := hide hBr
              have HKD0 := hide hK
              have HTW0 := hide hti.bel
              have HDW0 : Hid (wr.heap.size ≤ D0) := hide (by have := HZT.out; have := HTC.out; omega)
              have hASK := HRr.out.below hBr
              have x3 := hASK.cells.2.2.1
              clear hASK
              clear hBr hk5 hti hK hD
              gi_wp2_with fail
              rw [roundsIn_succ]
              have HS1 := hide (TurnI.again WT0)
              clear y5 x10 x11 x3 hm1 hm2 hne HZT HTI HTC
              gi_wp2_with fail
              generalize (WT0.alloc (.cells #[.int .i64 1] 3)).alloc (.cells #[.int .i64 0] 3) = ws1 at *
              have HBB := HBW0
              clear HS0
              obtain ⟨tc, htc⟩ : ∃ tc, tc = WT0.heap.size := ⟨_, rfl⟩
              have HZT : Hid (ws1.heap.size = tc + 2) := hide (by rw [htc]; exact HS1.out.2)
              have HTI := hide HS1.out.1
              have HTC := hide htc
              rw [← htc] at HTI ⊢
              clear htc
              refine wpIn_rangeSeqL (α := Value × List Int) (encs := encC) (E := NextC (ws1.heap.size + 2) (allC n ls)) (S := fun xs => xs.map Prod.snd = allC n ls) (Sp := fun pre => pre.map Prod.snd <+: allC n ls) (gf := 43) (lb := #[.pointer (some ⟨rc, 0, none⟩), .pointer (some ⟨xc, 0, none⟩)]) rfl (enters_of Try.func43 (by kernel_rfl) rfl) (fun i => i = tc + 1) ownC
                (fun h => by have := HZT.out; omega) (fun h => by have := HZT.out; omega)
                (fun pre x W hE k hk => (hE.2.lt k hk).1)
                (fun W hb hz => all_seq (w6 := wr) (w7 := wr) (B := wr.heap.size) (A := A8) (c := c8) (hs := hs8) HW.out (fun k hk => by have := HZT.out; have := HTC.out; have := HBB.out.size; rcases hk with hk | hk <;> omega) (by omega) (by have := HZT.out; have := HTC.out; have := HBB.out.size; omega) HALr.out.1 (by
                  have hbW : Below wr.heap.size wr W := (HBB.out.trans (HTI.out.bel.mono HBB.out.size)).trans (hb.mono (by have := HZT.out; have := HTC.out; have := HBB.out.size; omega))
                  rcases HALr.out.2 with ⟨h1, h2, h3, h4, h5⟩ | ⟨h1, h2⟩
                  · exact .inl ⟨h1, (hbW.block _ (lt_of_block h2)).trans h2, (hbW.block _ (lt_of_block h3)).trans h3, h4, h5.below hbW⟩
                  · exact .inr ⟨h1, (hbW.block _ (lt_of_block h2)).trans h2⟩))
                (fun _ => rfl)
                (fun pre W' => pre.length < 40 ∧ TurnI WT0 tc (tc + 1) 1 pre.length W') (fun c' pre W' => (c' = .exit 6 ∧ pre.length ≤ 40 ∧ (pre.length = 40 ∨ ((1 : Int) = 0 ∧ (pre.length : Int) = lv))) ∧ TurnI WT0 tc (tc + 1) 1 pre.length W')
                (fun s X Y hs' hb' => ⟨hs'.1, hs'.2.low (by have := HZT.out; omega) (by have := HZT.out; omega) hb'⟩) (fun c' s X Y hs' hb' => ⟨hs'.1, hs'.2.low (by have := HZT.out; omega) (by have := HZT.out; omega) hb'⟩) ⟨by decide, HTI.out⟩
                ?a1_3 (fun _ W => W) (fun _ _ => Below.refl _ _) 7 ?assign_3 ?body_3 ?done_3 ?stop_3
              case assign_3 =>
                rintro l' pre x W' K he hK
                clear he
                simp only [encC]
                gi_wp2
                exact hK
              case body_3 =>
                rintro l' pre ⟨v', d⟩ W0 Wr ⟨hk40, hti⟩ hE hsz hsz2 hsame
                obtain ⟨k, hk⟩ : ∃ k, k = pre.length := ⟨_, rfl⟩
                rw [← hk] at hk40 hti
                have HK := hide hk
                have HT0 := hide hti
                have hpk := pre_at hE.1
                rw [List.length_map, ← hk] at hpk
                have HDK : Hid (wl[k]? = some d ∧ k < wl.length) := hide (by
                  rw [HWL.out]
                  exact ⟨take_at hpk.1 (by omega), by rw [List.length_take]; have := hpk.2; omega⟩)
                have hownr : Wr.ownsRow (ws1.heap.size + 2) 3 1 v' d.length (d.map (Value.int .i64)) := own_same hE.2 (fun k hk => hsame k (by omega))
                obtain ⟨A4, c4, rfl, _⟩ := own_sh hownr
                have HOD := hide hownr
                have HZR : Hid (ws1.heap.size + 2 ≤ Wr.heap.size) := hide (by omega)
                have hdl : d.length ≤ 1000000 := by
                  have h1 := pre_mem hE.1
                  unfold allC at h1
                  split at h1
                  · have := choicesW_len ls _ d h1; omega
                  · cases h1
                have hBr : Below wr.heap.size wr Wr := HBB.out.trans (hti.bel.mono HBB.out.size)
                have hOW := HOr.out.below hBr
                obtain ⟨u, hu⟩ : ∃ u, vs5[k]? = some u := by
                  have h1 := HOr.out.hdr.1
                  have h2 := HDK.out.2
                  exact ⟨vs5[k]'(by omega), List.getElem?_eq_getElem _⟩
                have hru := hOW.row k u d hu HDK.out.1
                obtain ⟨gw, capw, hvw⟩ := Go.Joins.ownsRow_form hOW.hdr (by have := HDK.out.2; omega)
                injection hvw with hA5 _ _
                have hcu : Wr.cell? ⟨gw, k, none⟩ = some u := by
                  have h1 := hOW.hdr
                  rw [hA5] at h1
                  rw [h1.cellAt k (by have := HDK.out.2; omega)]
                  exact hu
                obtain ⟨A3, c3, rfl, _⟩ := own_sh hru
                have HSI := hide (sameInts_eq A4 c4 A3 c3 d Wr (Reads.of_own hownr) (Reads.of_own hru) hdl)
                have hk5 := (hBr.block _ (lt_of_block HKr.out)).trans HKr.out
                have y5 := cell_of_row Wr w3.heap.size 0 _ _ (0, 0) hk5
                simp only [List.getElem?_toArray, List.getElem?_cons_zero] at y5
                rw [hA5] at y5
                obtain ⟨x10, x11, _⟩ := hti.cells
                have hge : decide ((wl.length : Int) ≤ (k : Int)) = false := decide_eq_false (by have := HDK.out.2; omega)
                have hki : (k : Int) < (wl.length : Int) := by have := HDK.out.2; omega
                clear hk hti hownr hsame hsz hsz2 hE hpk hOW hu hru hBr hk5
                gi_wp2_with fail
                refine ⟨trivial, (callsIn_in HSI.out).mono ?_⟩
                rintro e W4 ⟨rfl, hb4⟩
                simp only
                have HT4 := hide (HT0.out.below hb4)
                have HO4 := hide (own_below HOD.out hb4 (Nat.le_refl _))
                have HX4 : Hid (OutP (fun i => i = tc + 1 ∨ ownC (.slice A4 d.length c4, d) i) Wr W4) := hide (OutP.of_below hb4)
                have HZ4w : Hid (ws1.heap.size + 2 ≤ W4.heap.size) := hide (Nat.le_trans HZR.out hb4.size)
                have HOV := hide (over_any (ws1.heap.size + 2) A4 c4 d W4 HO4.out hdl)
                clear hb4 HSI HT0 HOD y5 hcu
                gi_wp2_with fail
                refine ⟨trivial, (callsIn_in HOV.out).mono ?_⟩
                rintro e W5 ⟨rfl, hg5, hz5⟩
                simp only
                have hlow5 : Below (ws1.heap.size + 2) W4 W5 := (Below.refl _ _).grown hg5 HZ4w.out (fun i hi => (HO4.out.lt i hi).1)
                have HT5 := hide (HT4.out.low (S := ws1.heap.size + 2) (by have := HZT.out; omega) (by have := HZT.out; omega) hlow5)
                have HX5 : Hid (OutP (fun i => i = tc + 1 ∨ ownC (.slice A4 d.length c4, d) i) Wr W5) := hide (HX4.out.trans ⟨hg5.size, fun i hi hn => hg5.block i hi (fun e => hn (.inr e.symm))⟩)
                clear hg5 hz5 hlow5 HOV HX4 HT4 HO4 x10 x11
                obtain ⟨x10, x11, f11⟩ := HT5.out.cells
                have HT6 := hide (HT5.out.next (k + 1))
                have HX6 := hide (HX5.out.set ⟨tc + 1, 0, none⟩ (.inl rfl) (.int .i64 ((k + 1 : Nat) : Int)))
                have hwk : IntKind.i64.wrap ((k : Int) + 1) = (k : Int) + 1 := Go.IntWalk.i64_in _ (by omega)
                have hkk : ((k + 1 : Nat) : Int) = (k : Int) + 1 := by omega
                rw [hkk] at HT6 HX6
                have HLN : Hid ((pre ++ [((.slice A4 d.length c4 : Value), d)]).length = k + 1) := hide (by rw [List.length_append, ← HK.out]; rfl)
                obtain ⟨g10, g11, _⟩ := HT6.out.cells
                rw [hkk] at g11
                have HASK := hide (HRr.out.below (HBB.out.trans (HT6.out.bel.mono HBB.out.size)))
                have g2 := HASK.out.cells.2.2.1
                clear hkk
                by_cases h40 : k + 1 = 40
                · have e40 : ((k : Int) + 1 == 40) = true := by rw [beq_iff_eq]; omega
                  have H40 := hide h40
                  clear h40
                  gi_wp2_with fail
                  have h1 : (pre ++ [((.slice A4 d.length c4 : Value), d)]).length ≤ 40 := by rw [HLN.out]; exact Nat.le_of_eq H40.out
                  have h2 : (pre ++ [((.slice A4 d.length c4 : Value), d)]).length = 40 := by rw [HLN.out]; exact H40.out
                  exact ⟨HX6.out, ⟨rfl, h1, by first | exact .inl h2 | exact h2⟩, by show TurnI WT0 tc (tc + 1) 1 (pre ++ _).length _; rw [HLN.out]; exact HT6.out⟩
                · have e40 : ((k : Int) + 1 == 40) = false := by rw [beq_eq_false_iff_ne]; omega
                  have H40 : Hid (k + 1 < 40) := hide (by omega)
                  clear h40
                  gi_wp2_with fail
                  exact ⟨HX6.out, by show (pre ++ _).length < 40; rw [HLN.out]; exact H40.out, by show TurnI WT0 tc (tc + 1) 1 (pre ++ _).length _; rw [HLN.out]; exact HT6.out⟩
              case done_3 =>
                rintro D1 xs WT1 hD hS ⟨hk40, hti⟩ hK
                have hxl : xs.length = (allC n ls).length := by rw [← hS, List.length_map]
                have hwk : wl.length = xs.length := by rw [HWL.out, List.length_take]; omega
                generalize xs.length = kx at *
                have hm1 : (wl.length : Int) ≤ 40 := by omega
                have hm2 : ¬ ((40 : Int) < (wl.length : Int)) := by omega
                have hne : ((kx : Int) != (wl.length : Int)) = false := by rw [bne_eq_false_iff_eq]; omega
                clear hS hxl hwk hk40
                have hBr : Below wr.heap.size wr WT1 := HBB.out.trans (hti.bel.mono HBB.out.size)
                have hk5 := (hBr.block _ (lt_of_block HKr.out)).trans HKr.out
                have y5 := cell_of_row WT1 w3.heap.size 0 _ _ (0, 0) hk5
                simp only [List.getElem?_toArray, List.getElem?_cons_zero] at y5
                obtain ⟨x10, x11, _⟩ := hti.cells
                have HBW1 := hide hBr
                have HKD1 := hide hK
                have HTW1 := hide hti.bel
                have HDW1 : Hid (WT0.heap.size ≤ D1) := hide (by have := HZT.out; have := HTC.out; omega)
                clear hBr hk5 hti hK hD
                gi_wp2_with fail
                rw [roundsIn_succ]
                clear y5 x10 x11 hm1 hm2 hne HZT HTI HTC
                gi_wp2_with fail
                have HBk : Hid (Below WT1.heap.size WT1 (WT1.alloc (.cells #[.int .i64 2] 3))) := hide ((Below.refl _ _).alloc (Nat.le_refl _) _)
                generalize WT1.alloc (.cells #[.int .i64 2] 3) = wk at *
                refine ⟨trivial, (callsIn_wide.2 (HKN.out wk)).mono ?_⟩
                rintro e wz ⟨rfl, hbz⟩
                simp only
                have HBz : Hid (Below WT1.heap.size WT1 wz) := hide (HBk.out.trans (hbz.mono HBk.out.size))
                have HRz := hide (HRr.out.below (HBW1.out.trans (HBz.out.mono HBW1.out.size)))
                have HK0z := hide ((HBz.out.block _ (Nat.lt_of_lt_of_le (lt_of_block HKD0.out) HTW1.out.size)).trans ((HTW1.out.block _ (lt_of_block HKD0.out)).trans HKD0.out))
                have HK1z := hide ((HBz.out.block _ (lt_of_block HKD1.out)).trans HKD1.out)
                have HR10 := hide (HRz.out.says true)
                have HL0 : Hid (w.heap.size + 3 ≤ D0 ∧ w.heap.size + 3 ≤ D1 ∧ D0 ≠ D1) := hide (by
                  have h1 := HRr.out.lt
                  have h2 := HDW0.out
                  have h3 := HDW1.out
                  have h4 := lt_of_block HKD0.out
                  have h5 := HTW0.out.size
                  omega)
                have HK0s := hide ((Below.heap_setCell wz ⟨w.heap.size + 2, 0, none⟩ (.bool true) D0 (by have := HL0.out; show D0 ≠ w.heap.size + 2; omega)).trans HK0z.out)
                have HK1s := hide ((Below.heap_setCell wz ⟨w.heap.size + 2, 0, none⟩ (.bool true) D1 (by have := HL0.out; show D1 ≠ w.heap.size + 2; omega)).trans HK1z.out)
                clear hbz
                obtain ⟨_, _, _, x4, x5⟩ := HRz.out.cells
                gi_wp2_with fail
                exact ask_end HR10.out HL0.out.1 HL0.out.2.1 HL0.out.2.2 HK0s.out HK1s.out (fun W' h => by simp [results, Try.results6, go_sem, h])
              case stop_3 =>
                rintro D1 c' pre WT1 hD hpre ⟨⟨rfl, hk40, hor⟩, hti⟩ hK
                have hpl : pre.length ≤ (allC n ls).length := by
                  have := hpre.length_le
                  rwa [List.length_map] at this
                have hwl : wl.length = min 41 (allC n ls).length := by rw [HWL.out, List.length_take]
                generalize pre.length = kx at *
                clear hpre
                by_cases hm : wl.length ≤ 40
                · have hm1 : (wl.length : Int) ≤ 40 := by omega
                  have hm2 : ¬ ((40 : Int) < (wl.length : Int)) := by omega
                  by_cases hkm : kx = wl.length
                  · have hne : ((kx : Int) != (wl.length : Int)) = false := by rw [bne_eq_false_iff_eq]; omega
                    clear hkm hor hm hwl hpl hk40
                    have hBr : Below wr.heap.size wr WT1 := HBB.out.trans (hti.bel.mono HBB.out.size)
                    have hk5 := (hBr.block _ (lt_of_block HKr.out)).trans HKr.out
                    have y5 := cell_of_row WT1 w3.heap.size 0 _ _ (0, 0) hk5
                    simp only [List.getElem?_toArray, List.getElem?_cons_zero] at y5
                    obtain ⟨x10, x11, _⟩ := hti.cells
                    have HBW1 := hide hBr
                    have HKD1 := hide hK
                    have HTW1 := hide hti.bel
                    have HDW1 : Hid (WT0.heap.size ≤ D1) := hide (by have := HZT.out; have := HTC.out; omega)
                    clear hBr hk5 hti hK hD
                    gi_wp2_with fail
                    rw [roundsIn_succ]
                    clear y5 x10 x11 hm1 hm2 hne HZT HTI HTC
                    gi_wp2_with fail
                    have HBk : Hid (Below WT1.heap.size WT1 (WT1.alloc (.cells #[.int .i64 2] 3))) := hide ((Below.refl _ _).alloc (Nat.le_refl _) _)
                    generalize WT1.alloc (.cells #[.int .i64 2] 3) = wk at *
                    refine ⟨trivial, (callsIn_wide.2 (HKN.out wk)).mono ?_⟩
                    rintro e wz ⟨rfl, hbz⟩
                    simp only
                    have HBz : Hid (Below WT1.heap.size WT1 wz) := hide (HBk.out.trans (hbz.mono HBk.out.size))
                    have HRz := hide (HRr.out.below (HBW1.out.trans (HBz.out.mono HBW1.out.size)))
                    have HK0z := hide ((HBz.out.block _ (Nat.lt_of_lt_of_le (lt_of_block HKD0.out) HTW1.out.size)).trans ((HTW1.out.block _ (lt_of_block HKD0.out)).trans HKD0.out))
                    have HK1z := hide ((HBz.out.block _ (lt_of_block HKD1.out)).trans HKD1.out)
                    have HR10 := hide (HRz.out.says true)
                    have HL0 : Hid (w.heap.size + 3 ≤ D0 ∧ w.heap.size + 3 ≤ D1 ∧ D0 ≠ D1) := hide (by
                      have h1 := HRr.out.lt
                      have h2 := HDW0.out
                      have h3 := HDW1.out
                      have h4 := lt_of_block HKD0.out
                      have h5 := HTW0.out.size
                      omega)
                    have HK0s := hide ((Below.heap_setCell wz ⟨w.heap.size + 2, 0, none⟩ (.bool true) D0 (by have := HL0.out; show D0 ≠ w.heap.size + 2; omega)).trans HK0z.out)
                    have HK1s := hide ((Below.heap_setCell wz ⟨w.heap.size + 2, 0, none⟩ (.bool true) D1 (by have := HL0.out; show D1 ≠ w.heap.size + 2; omega)).trans HK1z.out)
                    clear hbz
                    obtain ⟨_, _, _, x4, x5⟩ := HRz.out.cells
                    gi_wp2_with fail
                    exact ask_end HR10.out HL0.out.1 HL0.out.2.1 HL0.out.2.2 HK0s.out HK1s.out (fun W' h => by simp [results, Try.results6, go_sem, h])
                  · exfalso
                    rcases hor with h | h
                    · omega
                    · exact absurd h.1 (by decide)
                · have hm1 : ¬ ((wl.length : Int) ≤ 40) := by omega
                  have hm2 : (40 : Int) < (wl.length : Int) := by omega
                  by_cases hkm : kx = 40
                  · have hne : ((kx : Int) != 40) = false := by rw [bne_eq_false_iff_eq]; omega
                    clear hkm hor hm hwl hpl hk40
                    have hBr : Below wr.heap.size wr WT1 := HBB.out.trans (hti.bel.mono HBB.out.size)
                    have hk5 := (hBr.block _ (lt_of_block HKr.out)).trans HKr.out
                    have y5 := cell_of_row WT1 w3.heap.size 0 _ _ (0, 0) hk5
                    simp only [List.getElem?_toArray, List.getElem?_cons_zero] at y5
                    obtain ⟨x10, x11, _⟩ := hti.cells
                    have HBW1 := hide hBr
                    have HKD1 := hide hK
                    have HTW1 := hide hti.bel
                    have HDW1 : Hid (WT0.heap.size ≤ D1) := hide (by have := HZT.out; have := HTC.out; omega)
                    clear hBr hk5 hti hK hD
                    gi_wp2_with fail
                    rw [roundsIn_succ]
                    clear y5 x10 x11 hm1 hm2 hne HZT HTI HTC
                    gi_wp2_with fail
                    have HBk : Hid (Below WT1.heap.size WT1 (WT1.alloc (.cells #[.int .i64 2] 3))) := hide ((Below.refl _ _).alloc (Nat.le_refl _) _)
                    generalize WT1.alloc (.cells #[.int .i64 2] 3) = wk at *
                    refine ⟨trivial, (callsIn_wide.2 (HKN.out wk)).mono ?_⟩
                    rintro e wz ⟨rfl, hbz⟩
                    simp only
                    have HBz : Hid (Below WT1.heap.size WT1 wz) := hide (HBk.out.trans (hbz.mono HBk.out.size))
                    have HRz := hide (HRr.out.below (HBW1.out.trans (HBz.out.mono HBW1.out.size)))
                    have HK0z := hide ((HBz.out.block _ (Nat.lt_of_lt_of_le (lt_of_block HKD0.out) HTW1.out.size)).trans ((HTW1.out.block _ (lt_of_block HKD0.out)).trans HKD0.out))
                    have HK1z := hide ((HBz.out.block _ (lt_of_block HKD1.out)).trans HKD1.out)
                    have HR10 := hide (HRz.out.says true)
                    have HL0 : Hid (w.heap.size + 3 ≤ D0 ∧ w.heap.size + 3 ≤ D1 ∧ D0 ≠ D1) := hide (by
                      have h1 := HRr.out.lt
                      have h2 := HDW0.out
                      have h3 := HDW1.out
                      have h4 := lt_of_block HKD0.out
                      have h5 := HTW0.out.size
                      omega)
                    have HK0s := hide ((Below.heap_setCell wz ⟨w.heap.size + 2, 0, none⟩ (.bool true) D0 (by have := HL0.out; show D0 ≠ w.heap.size + 2; omega)).trans HK0z.out)
                    have HK1s := hide ((Below.heap_setCell wz ⟨w.heap.size + 2, 0, none⟩ (.bool true) D1 (by have := HL0.out; show D1 ≠ w.heap.size + 2; omega)).trans HK1z.out)
                    clear hbz
                    obtain ⟨_, _, _, x4, x5⟩ := HRz.out.cells
                    gi_wp2_with fail
                    exact ask_end HR10.out HL0.out.1 HL0.out.2.1 HL0.out.2.2 HK0s.out HK1s.out (fun W' h => by simp [results, Try.results6, go_sem, h])
                  · exfalso
                    rcases hor with h | h
                    · omega
                    · exact absurd h.1 (by decide)
            · have hlk : (kx : Int) = lv := by
                rcases hor with h | h
                · omega
                · first | exact h | exact h.2
              have hne : ((kx : Int) != (wl.length : Int)) = true := by rw [bne_iff_ne]; omega
              have hlvf : ((kx : Int) != lv) = false := by rw [bne_eq_false_iff_eq]; exact hlk
              clear hkm hor hm hwl hpl hk40 hlk
              have hBr : Below wr.heap.size wr WT0 := HBB.out.trans (hti.bel.mono HBB.out.size)
              have hk5 := (hBr.block _ (lt_of_block HKr.out)).trans HKr.out
              have y5 := cell_of_row WT0 w3.heap.size 0 _ _ (0, 0) hk5
              simp only [List.getElem?_toArray, List.getElem?_cons_zero] at y5
              obtain ⟨x10, x11, _⟩ := hti.cells
              have HBW0 := hide hBr
              have HKD0 := hide hK
              have HTW0 := hide hti.bel
              have HDW0 : Hid (wr.heap.size ≤ D0) := hide (by have := HZT.out; have := HTC.out; omega)
              have hASK := HRr.out.below hBr
              have x3 := hASK.cells.2.2.1
              clear hASK
              clear hBr hk5 hti hK hD
              gi_wp2_with fail
              rw [roundsIn_succ]
              have HS1 := hide (TurnI.again WT0)
              clear y5 x10 x11 x3 hm1 hm2 hne HZT HTI HTC
              gi_wp2_with fail
              generalize (WT0.alloc (.cells #[.int .i64 1] 3)).alloc (.cells #[.int .i64 0] 3) = ws1 at *
              have HBB := HBW0
              clear HS0
              obtain ⟨tc, htc⟩ : ∃ tc, tc = WT0.heap.size := ⟨_, rfl⟩
              have HZT : Hid (ws1.heap.size = tc + 2) := hide (by rw [htc]; exact HS1.out.2)
              have HTI := hide HS1.out.1
              have HTC := hide htc
              rw [← htc] at HTI ⊢
              clear htc
              refine wpIn_rangeSeqL (α := Value × List Int) (encs := encC) (E := NextC (ws1.heap.size + 2) (allC n ls)) (S := fun xs => xs.map Prod.snd = allC n ls) (Sp := fun pre => pre.map Prod.snd <+: allC n ls) (gf := 43) (lb := #[.pointer (some ⟨rc, 0, none⟩), .pointer (some ⟨xc, 0, none⟩)]) rfl (enters_of Try.func43 (by kernel_rfl) rfl) (fun i => i = tc + 1) ownC
                (fun h => by have := HZT.out; omega) (fun h => by have := HZT.out; omega)
                (fun pre x W hE k hk => (hE.2.lt k hk).1)
                (fun W hb hz => all_seq (w6 := wr) (w7 := wr) (B := wr.heap.size) (A := A8) (c := c8) (hs := hs8) HW.out (fun k hk => by have := HZT.out; have := HTC.out; have := HBB.out.size; rcases hk with hk | hk <;> omega) (by omega) (by have := HZT.out; have := HTC.out; have := HBB.out.size; omega) HALr.out.1 (by
                  have hbW : Below wr.heap.size wr W := (HBB.out.trans (HTI.out.bel.mono HBB.out.size)).trans (hb.mono (by have := HZT.out; have := HTC.out; have := HBB.out.size; omega))
                  rcases HALr.out.2 with ⟨h1, h2, h3, h4, h5⟩ | ⟨h1, h2⟩
                  · exact .inl ⟨h1, (hbW.block _ (lt_of_block h2)).trans h2, (hbW.block _ (lt_of_block h3)).trans h3, h4, h5.below hbW⟩
                  · exact .inr ⟨h1, (hbW.block _ (lt_of_block h2)).trans h2⟩))
                (fun _ => rfl)
                (fun pre W' => pre.length < 40 ∧ TurnI WT0 tc (tc + 1) 1 pre.length W') (fun c' pre W' => (c' = .exit 6 ∧ pre.length ≤ 40 ∧ (pre.length = 40 ∨ ((1 : Int) = 0 ∧ (pre.length : Int) = lv))) ∧ TurnI WT0 tc (tc + 1) 1 pre.length W')
                (fun s X Y hs' hb' => ⟨hs'.1, hs'.2.low (by have := HZT.out; omega) (by have := HZT.out; omega) hb'⟩) (fun c' s X Y hs' hb' => ⟨hs'.1, hs'.2.low (by have := HZT.out; omega) (by have := HZT.out; omega) hb'⟩) ⟨by decide, HTI.out⟩
                ?a1_4 (fun _ W => W) (fun _ _ => Below.refl _ _) 7 ?assign_4 ?body_4 ?done_4 ?stop_4
              case assign_4 =>
                rintro l' pre x W' K he hK
                clear he
                simp only [encC]
                gi_wp2
                exact hK
              case body_4 =>
                rintro l' pre ⟨v', d⟩ W0 Wr ⟨hk40, hti⟩ hE hsz hsz2 hsame
                obtain ⟨k, hk⟩ : ∃ k, k = pre.length := ⟨_, rfl⟩
                rw [← hk] at hk40 hti
                have HK := hide hk
                have HT0 := hide hti
                have hpk := pre_at hE.1
                rw [List.length_map, ← hk] at hpk
                have HDK : Hid (wl[k]? = some d ∧ k < wl.length) := hide (by
                  rw [HWL.out]
                  exact ⟨take_at hpk.1 (by omega), by rw [List.length_take]; have := hpk.2; omega⟩)
                have hownr : Wr.ownsRow (ws1.heap.size + 2) 3 1 v' d.length (d.map (Value.int .i64)) := own_same hE.2 (fun k hk => hsame k (by omega))
                obtain ⟨A4, c4, rfl, _⟩ := own_sh hownr
                have HOD := hide hownr
                have HZR : Hid (ws1.heap.size + 2 ≤ Wr.heap.size) := hide (by omega)
                have hdl : d.length ≤ 1000000 := by
                  have h1 := pre_mem hE.1
                  unfold allC at h1
                  split at h1
                  · have := choicesW_len ls _ d h1; omega
                  · cases h1
                have hBr : Below wr.heap.size wr Wr := HBB.out.trans (hti.bel.mono HBB.out.size)
                have hOW := HOr.out.below hBr
                obtain ⟨u, hu⟩ : ∃ u, vs5[k]? = some u := by
                  have h1 := HOr.out.hdr.1
                  have h2 := HDK.out.2
                  exact ⟨vs5[k]'(by omega), List.getElem?_eq_getElem _⟩
                have hru := hOW.row k u d hu HDK.out.1
                obtain ⟨gw, capw, hvw⟩ := Go.Joins.ownsRow_form hOW.hdr (by have := HDK.out.2; omega)
                injection hvw with hA5 _ _
                have hcu : Wr.cell? ⟨gw, k, none⟩ = some u := by
                  have h1 := hOW.hdr
                  rw [hA5] at h1
                  rw [h1.cellAt k (by have := HDK.out.2; omega)]
                  exact hu
                obtain ⟨A3, c3, rfl, _⟩ := own_sh hru
                have HSI := hide (sameInts_eq A4 c4 A3 c3 d Wr (Reads.of_own hownr) (Reads.of_own hru) hdl)
                have hk5 := (hBr.block _ (lt_of_block HKr.out)).trans HKr.out
                have y5 := cell_of_row Wr w3.heap.size 0 _ _ (0, 0) hk5
                simp only [List.getElem?_toArray, List.getElem?_cons_zero] at y5
                rw [hA5] at y5
                obtain ⟨x10, x11, _⟩ := hti.cells
                have hge : decide ((wl.length : Int) ≤ (k : Int)) = false := decide_eq_false (by have := HDK.out.2; omega)
                have hki : (k : Int) < (wl.length : Int) := by have := HDK.out.2; omega
                clear hk hti hownr hsame hsz hsz2 hE hpk hOW hu hru hBr hk5
                gi_wp2_with fail
                refine ⟨trivial, (callsIn_in HSI.out).mono ?_⟩
                rintro e W4 ⟨rfl, hb4⟩
                simp only
                have HT4 := hide (HT0.out.below hb4)
                have HO4 := hide (own_below HOD.out hb4 (Nat.le_refl _))
                have HX4 : Hid (OutP (fun i => i = tc + 1 ∨ ownC (.slice A4 d.length c4, d) i) Wr W4) := hide (OutP.of_below hb4)
                have HZ4w : Hid (ws1.heap.size + 2 ≤ W4.heap.size) := hide (Nat.le_trans HZR.out hb4.size)
                have HOV := hide (over_any (ws1.heap.size + 2) A4 c4 d W4 HO4.out hdl)
                clear hb4 HSI HT0 HOD y5 hcu
                gi_wp2_with fail
                refine ⟨trivial, (callsIn_in HOV.out).mono ?_⟩
                rintro e W5 ⟨rfl, hg5, hz5⟩
                simp only
                have hlow5 : Below (ws1.heap.size + 2) W4 W5 := (Below.refl _ _).grown hg5 HZ4w.out (fun i hi => (HO4.out.lt i hi).1)
                have HT5 := hide (HT4.out.low (S := ws1.heap.size + 2) (by have := HZT.out; omega) (by have := HZT.out; omega) hlow5)
                have HX5 : Hid (OutP (fun i => i = tc + 1 ∨ ownC (.slice A4 d.length c4, d) i) Wr W5) := hide (HX4.out.trans ⟨hg5.size, fun i hi hn => hg5.block i hi (fun e => hn (.inr e.symm))⟩)
                clear hg5 hz5 hlow5 HOV HX4 HT4 HO4 x10 x11
                obtain ⟨x10, x11, f11⟩ := HT5.out.cells
                have HT6 := hide (HT5.out.next (k + 1))
                have HX6 := hide (HX5.out.set ⟨tc + 1, 0, none⟩ (.inl rfl) (.int .i64 ((k + 1 : Nat) : Int)))
                have hwk : IntKind.i64.wrap ((k : Int) + 1) = (k : Int) + 1 := Go.IntWalk.i64_in _ (by omega)
                have hkk : ((k + 1 : Nat) : Int) = (k : Int) + 1 := by omega
                rw [hkk] at HT6 HX6
                have HLN : Hid ((pre ++ [((.slice A4 d.length c4 : Value), d)]).length = k + 1) := hide (by rw [List.length_append, ← HK.out]; rfl)
                obtain ⟨g10, g11, _⟩ := HT6.out.cells
                rw [hkk] at g11
                have HASK := hide (HRr.out.below (HBB.out.trans (HT6.out.bel.mono HBB.out.size)))
                have g2 := HASK.out.cells.2.2.1
                clear hkk
                by_cases h40 : k + 1 = 40
                · have e40 : ((k : Int) + 1 == 40) = true := by rw [beq_iff_eq]; omega
                  have H40 := hide h40
                  clear h40
                  gi_wp2_with fail
                  have h1 : (pre ++ [((.slice A4 d.length c4 : Value), d)]).length ≤ 40 := by rw [HLN.out]; exact Nat.le_of_eq H40.out
                  have h2 : (pre ++ [((.slice A4 d.length c4 : Value), d)]).length = 40 := by rw [HLN.out]; exact H40.out
                  exact ⟨HX6.out, ⟨rfl, h1, by first | exact .inl h2 | exact h2⟩, by show TurnI WT0 tc (tc + 1) 1 (pre ++ _).length _; rw [HLN.out]; exact HT6.out⟩
                · have e40 : ((k : Int) + 1 == 40) = false := by rw [beq_eq_false_iff_ne]; omega
                  have H40 : Hid (k + 1 < 40) := hide (by omega)
                  clear h40
                  gi_wp2_with fail
                  exact ⟨HX6.out, by show (pre ++ _).length < 40; rw [HLN.out]; exact H40.out, by show TurnI WT0 tc (tc + 1) 1 (pre ++ _).length _; rw [HLN.out]; exact HT6.out⟩
              case done_4 =>
                rintro D1 xs WT1 hD hS ⟨hk40, hti⟩ hK
                have hxl : xs.length = (allC n ls).length := by rw [← hS, List.length_map]
                have hwk : wl.length = xs.length := by rw [HWL.out, List.length_take]; omega
                generalize xs.length = kx at *
                have hm1 : (wl.length : Int) ≤ 40 := by omega
                have hm2 : ¬ ((40 : Int) < (wl.length : Int)) := by omega
                have hne : ((kx : Int) != (wl.length : Int)) = false := by rw [bne_eq_false_iff_eq]; omega
                clear hS hxl hwk hk40
                have hBr : Below wr.heap.size wr WT1 := HBB.out.trans (hti.bel.mono HBB.out.size)
                have hk5 := (hBr.block _ (lt_of_block HKr.out)).trans HKr.out
                have y5 := cell_of_row WT1 w3.heap.size 0 _ _ (0, 0) hk5
                simp only [List.getElem?_toArray, List.getElem?_cons_zero] at y5
                obtain ⟨x10, x11, _⟩ := hti.cells
                have HBW1 := hide hBr
                have HKD1 := hide hK
                have HTW1 := hide hti.bel
                have HDW1 : Hid (WT0.heap.size ≤ D1) := hide (by have := HZT.out; have := HTC.out; omega)
                clear hBr hk5 hti hK hD
                gi_wp2_with fail
                rw [roundsIn_succ]
                clear y5 x10 x11 hm1 hm2 hne HZT HTI HTC
                gi_wp2_with fail
                have HBk : Hid (Below WT1.heap.size WT1 (WT1.alloc (.cells #[.int .i64 2] 3))) := hide ((Below.refl _ _).alloc (Nat.le_refl _) _)
                generalize WT1.alloc (.cells #[.int .i64 2] 3) = wk at *
                refine ⟨trivial, (callsIn_wide.2 (HKN.out wk)).mono ?_⟩
                rintro e wz ⟨rfl, hbz⟩
                simp only
                have HBz : Hid (Below WT1.heap.size WT1 wz) := hide (HBk.out.trans (hbz.mono HBk.out.size))
                have HRz := hide (HRr.out.below (HBW1.out.trans (HBz.out.mono HBW1.out.size)))
                have HK0z := hide ((HBz.out.block _ (Nat.lt_of_lt_of_le (lt_of_block HKD0.out) HTW1.out.size)).trans ((HTW1.out.block _ (lt_of_block HKD0.out)).trans HKD0.out))
                have HK1z := hide ((HBz.out.block _ (lt_of_block HKD1.out)).trans HKD1.out)
                have HR10 := hide (HRz.out.says true)
                have HL0 : Hid (w.heap.size + 3 ≤ D0 ∧ w.heap.size + 3 ≤ D1 ∧ D0 ≠ D1) := hide (by
                  have h1 := HRr.out.lt
                  have h2 := HDW0.out
                  have h3 := HDW1.out
                  have h4 := lt_of_block HKD0.out
                  have h5 := HTW0.out.size
                  omega)
                have HK0s := hide ((Below.heap_setCell wz ⟨w.heap.size + 2, 0, none⟩ (.bool true) D0 (by have := HL0.out; show D0 ≠ w.heap.size + 2; omega)).trans HK0z.out)
                have HK1s := hide ((Below.heap_setCell wz ⟨w.heap.size + 2, 0, none⟩ (.bool true) D1 (by have := HL0.out; show D1 ≠ w.heap.size + 2; omega)).trans HK1z.out)
                clear hbz
                obtain ⟨_, _, _, x4, x5⟩ := HRz.out.cells
                gi_wp2_with fail
                exact ask_end HR10.out HL0.out.1 HL0.out.2.1 HL0.out.2.2 HK0s.out HK1s.out (fun W' h => by simp [results, Try.results6, go_sem, h])
              case stop_4 =>
                rintro D1 c' pre WT1 hD hpre ⟨⟨rfl, hk40, hor⟩, hti⟩ hK
                have hpl : pre.length ≤ (allC n ls).length := by
                  have := hpre.length_le
                  rwa [List.length_map] at this
                have hwl : wl.length = min 41 (allC n ls).length := by rw [HWL.out, List.length_take]
                generalize pre.length = kx at *
                clear hpre
                by_cases hm : wl.length ≤ 40
                · have hm1 : (wl.length : Int) ≤ 40 := by omega
                  have hm2 : ¬ ((40 : Int) < (wl.length : Int)) := by omega
                  by_cases hkm : kx = wl.length
                  · have hne : ((kx : Int) != (wl.length : Int)) = false := by rw [bne_eq_false_iff_eq]; omega
                    clear hkm hor hm hwl hpl hk40
                    have hBr : Below wr.heap.size wr WT1 := HBB.out.trans (hti.bel.mono HBB.out.size)
                    have hk5 := (hBr.block _ (lt_of_block HKr.out)).trans HKr.out
                    have y5 := cell_of_row WT1 w3.heap.size 0 _ _ (0, 0) hk5
                    simp only [List.getElem?_toArray, List.getElem?_cons_zero] at y5
                    obtain ⟨x10, x11, _⟩ := hti.cells
                    have HBW1 := hide hBr
                    have HKD1 := hide hK
                    have HTW1 := hide hti.bel
                    have HDW1 : Hid (WT0.heap.size ≤ D1) := hide (by have := HZT.out; have := HTC.out; omega)
                    clear hBr hk5 hti hK hD
                    gi_wp2_with fail
                    rw [roundsIn_succ]
                    clear y5 x10 x11 hm1 hm2 hne HZT HTI HTC
                    gi_wp2_with fail
                    have HBk : Hid (Below WT1.heap.size WT1 (WT1.alloc (.cells #[.int .i64 2] 3))) := hide ((Below.refl _ _).alloc (Nat.le_refl _) _)
                    generalize WT1.alloc (.cells #[.int .i64 2] 3) = wk at *
                    refine ⟨trivial, (callsIn_wide.2 (HKN.out wk)).mono ?_⟩
                    rintro e wz ⟨rfl, hbz⟩
                    simp only
                    have HBz : Hid (Below WT1.heap.size WT1 wz) := hide (HBk.out.trans (hbz.mono HBk.out.size))
                    have HRz := hide (HRr.out.below (HBW1.out.trans (HBz.out.mono HBW1.out.size)))
                    have HK0z := hide ((HBz.out.block _ (Nat.lt_of_lt_of_le (lt_of_block HKD0.out) HTW1.out.size)).trans ((HTW1.out.block _ (lt_of_block HKD0.out)).trans HKD0.out))
                    have HK1z := hide ((HBz.out.block _ (lt_of_block HKD1.out)).trans HKD1.out)
                    have HR10 := hide (HRz.out.says true)
                    have HL0 : Hid (w.heap.size + 3 ≤ D0 ∧ w.heap.size + 3 ≤ D1 ∧ D0 ≠ D1) := hide (by
                      have h1 := HRr.out.lt
                      have h2 := HDW0.out
                      have h3 := HDW1.out
                      have h4 := lt_of_block HKD0.out
                      have h5 := HTW0.out.size
                      omega)
                    have HK0s := hide ((Below.heap_setCell wz ⟨w.heap.size + 2, 0, none⟩ (.bool true) D0 (by have := HL0.out; show D0 ≠ w.heap.size + 2; omega)).trans HK0z.out)
                    have HK1s := hide ((Below.heap_setCell wz ⟨w.heap.size + 2, 0, none⟩ (.bool true) D1 (by have := HL0.out; show D1 ≠ w.heap.size + 2; omega)).trans HK1z.out)
                    clear hbz
                    obtain ⟨_, _, _, x4, x5⟩ := HRz.out.cells
                    gi_wp2_with fail
                    exact ask_end HR10.out HL0.out.1 HL0.out.2.1 HL0.out.2.2 HK0s.out HK1s.out (fun W' h => by simp [results, Try.results6, go_sem, h])
                  · exfalso
                    rcases hor with h | h
                    · omega
                    · exact absurd h.1 (by decide)
                · have hm1 : ¬ ((wl.length : Int) ≤ 40) := by omega
                  have hm2 : (40 : Int) < (wl.length : Int) := by omega
                  by_cases hkm : kx = 40
                  · have hne : ((kx : Int) != 40) = false := by rw [bne_eq_false_iff_eq]; omega
                    clear hkm hor hm hwl hpl hk40
                    have hBr : Below wr.heap.size wr WT1 := HBB.out.trans (hti.bel.mono HBB.out.size)
                    have hk5 := (hBr.block _ (lt_of_block HKr.out)).trans HKr.out
                    have y5 := cell_of_row WT1 w3.heap.size 0 _ _ (0, 0) hk5
                    simp only [List.getElem?_toArray, List.getElem?_cons_zero] at y5
                    obtain ⟨x10, x11, _⟩ := hti.cells
                    have HBW1 := hide hBr
                    have HKD1 := hide hK
                    have HTW1 := hide hti.bel
                    have HDW1 : Hid (WT0.heap.size ≤ D1) := hide (by have := HZT.out; have := HTC.out; omega)
                    clear hBr hk5 hti hK hD
                    gi_wp2_with fail
                    rw [roundsIn_succ]
                    clear y5 x10 x11 hm1 hm2 hne HZT HTI HTC
                    gi_wp2_with fail
                    have HBk : Hid (Below WT1.heap.size WT1 (WT1.alloc (.cells #[.int .i64 2] 3))) := hide ((Below.refl _ _).alloc (Nat.le_refl _) _)
                    generalize WT1.alloc (.cells #[.int .i64 2] 3) = wk at *
                    refine ⟨trivial, (callsIn_wide.2 (HKN.out wk)).mono ?_⟩
                    rintro e wz ⟨rfl, hbz⟩
                    simp only
                    have HBz : Hid (Below WT1.heap.size WT1 wz) := hide (HBk.out.trans (hbz.mono HBk.out.size))
                    have HRz := hide (HRr.out.below (HBW1.out.trans (HBz.out.mono HBW1.out.size)))
                    have HK0z := hide ((HBz.out.block _ (Nat.lt_of_lt_of_le (lt_of_block HKD0.out) HTW1.out.size)).trans ((HTW1.out.block _ (lt_of_block HKD0.out)).trans HKD0.out))
                    have HK1z := hide ((HBz.out.block _ (lt_of_block HKD1.out)).trans HKD1.out)
                    have HR10 := hide (HRz.out.says true)
                    have HL0 : Hid (w.heap.size + 3 ≤ D0 ∧ w.heap.size + 3 ≤ D1 ∧ D0 ≠ D1) := hide (by
                      have h1 := HRr.out.lt
                      have h2 := HDW0.out
                      have h3 := HDW1.out
                      have h4 := lt_of_block HKD0.out
                      have h5 := HTW0.out.size
                      omega)
                    have HK0s := hide ((Below.heap_setCell wz ⟨w.heap.size + 2, 0, none⟩ (.bool true) D0 (by have := HL0.out; show D0 ≠ w.heap.size + 2; omega)).trans HK0z.out)
                    have HK1s := hide ((Below.heap_setCell wz ⟨w.heap.size + 2, 0, none⟩ (.bool true) D1 (by have := HL0.out; show D1 ≠ w.heap.size + 2; omega)).trans HK1z.out)
                    clear hbz
                    obtain ⟨_, _, _, x4, x5⟩ := HRz.out.cells
                    gi_wp2_with fail
                    exact ask_end HR10.out HL0.out.1 HL0.out.2.1 HL0.out.2.2 HK0s.out HK1s.out (fun W' h => by simp [results, Try.results6, go_sem, h])
                  · exfalso
                    rcases hor with h | h
                    · omega
                    · exact absurd h.1 (by decide)
          · have hm1 : ¬ ((wl.length : Int) ≤ 40) := by omega
            have hm2 : (40 : Int) < (wl.length : Int) := by omega
            by_cases hkm : kx = 40
            · have hne : ((kx : Int) != 40) = false := by rw [bne_eq_false_iff_eq]; omega
              clear hkm hor hm hwl hpl hk40
              have hBr : Below wr.heap.size wr WT0 := HBB.out.trans (hti.bel.mono HBB.out.size)
              have hk5 := (hBr.block _ (lt_of_block HKr.out)).trans HKr.out
              have y5 := cell_of_row WT0 w3.heap.size 0 _ _ (0, 0) hk5
              simp only [List.getElem?_toArray, List.getElem?_cons_zero] at y5
              obtain ⟨x10, x11, _⟩ := hti.cells
              have HBW0 := hide hBr
              have HKD0 := hide hK
              have HTW0 := hide hti.bel
              have HDW0 : Hid (wr.heap.size ≤ D0) := hide (by have := HZT.out; have := HTC.out; omega)
              have hASK := HRr.out.below hBr
              have x3 := hASK.cells.2.2.1
              clear hASK
              clear hBr hk5 hti hK hD
              gi_wp2_with fail
              rw [roundsIn_succ]
              have HS1 := hide (TurnI.again WT0)
              clear y5 x10 x11 x3 hm1 hm2 hne HZT HTI HTC
              gi_wp2_with fail
              generalize (WT0.alloc (.cells #[.int .i64 1] 3)).alloc (.cells #[.int .i64 0] 3) = ws1 at *
              have HBB := HBW0
              clear HS0
              obtain ⟨tc, htc⟩ : ∃ tc, tc = WT0.heap.size := ⟨_, rfl⟩
              have HZT : Hid (ws1.heap.size = tc + 2) := hide (by rw [htc]; exact HS1.out.2)
              have HTI := hide HS1.out.1
              have HTC := hide htc
              rw [← htc] at HTI ⊢
              clear htc
              refine wpIn_rangeSeqL (α := Value × List Int) (encs := encC) (E := NextC (ws1.heap.size + 2) (allC n ls)) (S := fun xs => xs.map Prod.snd = allC n ls) (Sp := fun pre => pre.map Prod.snd <+: allC n ls) (gf := 43) (lb := #[.pointer (some ⟨rc, 0, none⟩), .pointer (some ⟨xc, 0, none⟩)]) rfl (enters_of Try.func43 (by kernel_rfl) rfl) (fun i => i = tc + 1) ownC
                (fun h => by have := HZT.out; omega) (fun h => by have := HZT.out; omega)
                (fun pre x W hE k hk => (hE.2.lt k hk).1)
                (fun W hb hz => all_seq (w6 := wr) (w7 := wr) (B := wr.heap.size) (A := A8) (c := c8) (hs := hs8) HW.out (fun k hk => by have := HZT.out; have := HTC.out; have := HBB.out.size; rcases hk with hk | hk <;> omega) (by omega) (by have := HZT.out; have := HTC.out; have := HBB.out.size; omega) HALr.out.1 (by
                  have hbW : Below wr.heap.size wr W := (HBB.out.trans (HTI.out.bel.mono HBB.out.size)).trans (hb.mono (by have := HZT.out; have := HTC.out; have := HBB.out.size; omega))
                  rcases HALr.out.2 with ⟨h1, h2, h3, h4, h5⟩ | ⟨h1, h2⟩
                  · exact .inl ⟨h1, (hbW.block _ (lt_of_block h2)).trans h2, (hbW.block _ (lt_of_block h3)).trans h3, h4, h5.below hbW⟩
                  · exact .inr ⟨h1, (hbW.block _ (lt_of_block h2)).trans h2⟩))
                (fun _ => rfl)
                (fun pre W' => pre.length < 40 ∧ TurnI WT0 tc (tc + 1) 1 pre.length W') (fun c' pre W' => (c' = .exit 6 ∧ pre.length ≤ 40 ∧ (pre.length = 40 ∨ ((1 : Int) = 0 ∧ (pre.length : Int) = lv))) ∧ TurnI WT0 tc (tc + 1) 1 pre.length W')
                (fun s X Y hs' hb' => ⟨hs'.1, hs'.2.low (by have := HZT.out; omega) (by have := HZT.out; omega) hb'⟩) (fun c' s X Y hs' hb' => ⟨hs'.1, hs'.2.low (by have := HZT.out; omega) (by have := HZT.out; omega) hb'⟩) ⟨by decide, HTI.out⟩
                ?a1_5 (fun _ W => W) (fun _ _ => Below.refl _ _) 7 ?assign_5 ?body_5 ?done_5 ?stop_5
              case assign_5 =>
                rintro l' pre x W' K he hK
                clear he
                simp only [encC]
                gi_wp2
                exact hK
              case body_5 =>
                rintro l' pre ⟨v', d⟩ W0 Wr ⟨hk40, hti⟩ hE hsz hsz2 hsame
                obtain ⟨k, hk⟩ : ∃ k, k = pre.length := ⟨_, rfl⟩
                rw [← hk] at hk40 hti
                have HK := hide hk
                have HT0 := hide hti
                have hpk := pre_at hE.1
                rw [List.length_map, ← hk] at hpk
                have HDK : Hid (wl[k]? = some d ∧ k < wl.length) := hide (by
                  rw [HWL.out]
                  exact ⟨take_at hpk.1 (by omega), by rw [List.length_take]; have := hpk.2; omega⟩)
                have hownr : Wr.ownsRow (ws1.heap.size + 2) 3 1 v' d.length (d.map (Value.int .i64)) := own_same hE.2 (fun k hk => hsame k (by omega))
                obtain ⟨A4, c4, rfl, _⟩ := own_sh hownr
                have HOD := hide hownr
                have HZR : Hid (ws1.heap.size + 2 ≤ Wr.heap.size) := hide (by omega)
                have hdl : d.length ≤ 1000000 := by
                  have h1 := pre_mem hE.1
                  unfold allC at h1
                  split at h1
                  · have := choicesW_len ls _ d h1; omega
                  · cases h1
                have hBr : Below wr.heap.size wr Wr := HBB.out.trans (hti.bel.mono HBB.out.size)
                have hOW := HOr.out.below hBr
                obtain ⟨u, hu⟩ : ∃ u, vs5[k]? = some u := by
                  have h1 := HOr.out.hdr.1
                  have h2 := HDK.out.2
                  exact ⟨vs5[k]'(by omega), List.getElem?_eq_getElem _⟩
                have hru := hOW.row k u d hu HDK.out.1
                obtain ⟨gw, capw, hvw⟩ := Go.Joins.ownsRow_form hOW.hdr (by have := HDK.out.2; omega)
                injection hvw with hA5 _ _
                have hcu : Wr.cell? ⟨gw, k, none⟩ = some u := by
                  have h1 := hOW.hdr
                  rw [hA5] at h1
                  rw [h1.cellAt k (by have := HDK.out.2; omega)]
                  exact hu
                obtain ⟨A3, c3, rfl, _⟩ := own_sh hru
                have HSI := hide (sameInts_eq A4 c4 A3 c3 d Wr (Reads.of_own hownr) (Reads.of_own hru) hdl)
                have hk5 := (hBr.block _ (lt_of_block HKr.out)).trans HKr.out
                have y5 := cell_of_row Wr w3.heap.size 0 _ _ (0, 0) hk5
                simp only [List.getElem?_toArray, List.getElem?_cons_zero] at y5
                rw [hA5] at y5
                obtain ⟨x10, x11, _⟩ := hti.cells
                have hge : decide ((wl.length : Int) ≤ (k : Int)) = false := decide_eq_false (by have := HDK.out.2; omega)
                have hki : (k : Int) < (wl.length : Int) := by have := HDK.out.2; omega
                clear hk hti hownr hsame hsz hsz2 hE hpk hOW hu hru hBr hk5
                gi_wp2_with fail
                refine ⟨trivial, (callsIn_in HSI.out).mono ?_⟩
                rintro e W4 ⟨rfl, hb4⟩
                simp only
                have HT4 := hide (HT0.out.below hb4)
                have HO4 := hide (own_below HOD.out hb4 (Nat.le_refl _))
                have HX4 : Hid (OutP (fun i => i = tc + 1 ∨ ownC (.slice A4 d.length c4, d) i) Wr W4) := hide (OutP.of_below hb4)
                have HZ4w : Hid (ws1.heap.size + 2 ≤ W4.heap.size) := hide (Nat.le_trans HZR.out hb4.size)
                have HOV := hide (over_any (ws1.heap.size + 2) A4 c4 d W4 HO4.out hdl)
                clear hb4 HSI HT0 HOD y5 hcu
                gi_wp2_with fail
                refine ⟨trivial, (callsIn_in HOV.out).mono ?_⟩
                rintro e W5 ⟨rfl, hg5, hz5⟩
                simp only
                have hlow5 : Below (ws1.heap.size + 2) W4 W5 := (Below.refl _ _).grown hg5 HZ4w.out (fun i hi => (HO4.out.lt i hi).1)
                have HT5 := hide (HT4.out.low (S := ws1.heap.size + 2) (by have := HZT.out; omega) (by have := HZT.out; omega) hlow5)
                have HX5 : Hid (OutP (fun i => i = tc + 1 ∨ ownC (.slice A4 d.length c4, d) i) Wr W5) := hide (HX4.out.trans ⟨hg5.size, fun i hi hn => hg5.block i hi (fun e => hn (.inr e.symm))⟩)
                clear hg5 hz5 hlow5 HOV HX4 HT4 HO4 x10 x11
                obtain ⟨x10, x11, f11⟩ := HT5.out.cells
                have HT6 := hide (HT5.out.next (k + 1))
                have HX6 := hide (HX5.out.set ⟨tc + 1, 0, none⟩ (.inl rfl) (.int .i64 ((k + 1 : Nat) : Int)))
                have hwk : IntKind.i64.wrap ((k : Int) + 1) = (k : Int) + 1 := Go.IntWalk.i64_in _ (by omega)
                have hkk : ((k + 1 : Nat) : Int) = (k : Int) + 1 := by omega
                rw [hkk] at HT6 HX6
                have HLN : Hid ((pre ++ [((.slice A4 d.length c4 : Value), d)]).length = k + 1) := hide (by rw [List.length_append, ← HK.out]; rfl)
                obtain ⟨g10, g11, _⟩ := HT6.out.cells
                rw [hkk] at g11
                have HASK := hide (HRr.out.below (HBB.out.trans (HT6.out.bel.mono HBB.out.size)))
                have g2 := HASK.out.cells.2.2.1
                clear hkk
                by_cases h40 : k + 1 = 40
                · have e40 : ((k : Int) + 1 == 40) = true := by rw [beq_iff_eq]; omega
                  have H40 := hide h40
                  clear h40
                  gi_wp2_with fail
                  have h1 : (pre ++ [((.slice A4 d.length c4 : Value), d)]).length ≤ 40 := by rw [HLN.out]; exact Nat.le_of_eq H40.out
                  have h2 : (pre ++ [((.slice A4 d.length c4 : Value), d)]).length = 40 := by rw [HLN.out]; exact H40.out
                  exact ⟨HX6.out, ⟨rfl, h1, by first | exact .inl h2 | exact h2⟩, by show TurnI WT0 tc (tc + 1) 1 (pre ++ _).length _; rw [HLN.out]; exact HT6.out⟩
                · have e40 : ((k : Int) + 1 == 40) = false := by rw [beq_eq_false_iff_ne]; omega
                  have H40 : Hid (k + 1 < 40) := hide (by omega)
                  clear h40
                  gi_wp2_with fail
                  exact ⟨HX6.out, by show (pre ++ _).length < 40; rw [HLN.out]; exact H40.out, by show TurnI WT0 tc (tc + 1) 1 (pre ++ _).length _; rw [HLN.out]; exact HT6.out⟩
              case done_5 =>
                rintro D1 xs WT1 hD hS ⟨hk40, hti⟩ hK
                have hxl : xs.length = (allC n ls).length := by rw [← hS, List.length_map]
                have hwk : wl.length = xs.length := by rw [HWL.out, List.length_take]; omega
                generalize xs.length = kx at *
                have hm1 : (wl.length : Int) ≤ 40 := by omega
                have hm2 : ¬ ((40 : Int) < (wl.length : Int)) := by omega
                have hne : ((kx : Int) != (wl.length : Int)) = false := by rw [bne_eq_false_iff_eq]; omega
                clear hS hxl hwk hk40
                have hBr : Below wr.heap.size wr WT1 := HBB.out.trans (hti.bel.mono HBB.out.size)
                have hk5 := (hBr.block _ (lt_of_block HKr.out)).trans HKr.out
                have y5 := cell_of_row WT1 w3.heap.size 0 _ _ (0, 0) hk5
                simp only [List.getElem?_toArray, List.getElem?_cons_zero] at y5
                obtain ⟨x10, x11, _⟩ := hti.cells
                have HBW1 := hide hBr
                have HKD1 := hide hK
                have HTW1 := hide hti.bel
                have HDW1 : Hid (WT0.heap.size ≤ D1) := hide (by have := HZT.out; have := HTC.out; omega)
                clear hBr hk5 hti hK hD
                gi_wp2_with fail
                rw [roundsIn_succ]
                clear y5 x10 x11 hm1 hm2 hne HZT HTI HTC
                gi_wp2_with fail
                have HBk : Hid (Below WT1.heap.size WT1 (WT1.alloc (.cells #[.int .i64 2] 3))) := hide ((Below.refl _ _).alloc (Nat.le_refl _) _)
                generalize WT1.alloc (.cells #[.int .i64 2] 3) = wk at *
                refine ⟨trivial, (callsIn_wide.2 (HKN.out wk)).mono ?_⟩
                rintro e wz ⟨rfl, hbz⟩
                simp only
                have HBz : Hid (Below WT1.heap.size WT1 wz) := hide (HBk.out.trans (hbz.mono HBk.out.size))
                have HRz := hide (HRr.out.below (HBW1.out.trans (HBz.out.mono HBW1.out.size)))
                have HK0z := hide ((HBz.out.block _ (Nat.lt_of_lt_of_le (lt_of_block HKD0.out) HTW1.out.size)).trans ((HTW1.out.block _ (lt_of_block HKD0.out)).trans HKD0.out))
                have HK1z := hide ((HBz.out.block _ (lt_of_block HKD1.out)).trans HKD1.out)
                have HR10 := hide (HRz.out.says true)
                have HL0 : Hid (w.heap.size + 3 ≤ D0 ∧ w.heap.size + 3 ≤ D1 ∧ D0 ≠ D1) := hide (by
                  have h1 := HRr.out.lt
                  have h2 := HDW0.out
                  have h3 := HDW1.out
                  have h4 := lt_of_block HKD0.out
                  have h5 := HTW0.out.size
                  omega)
                have HK0s := hide ((Below.heap_setCell wz ⟨w.heap.size + 2, 0, none⟩ (.bool true) D0 (by have := HL0.out; show D0 ≠ w.heap.size + 2; omega)).trans HK0z.out)
                have HK1s := hide ((Below.heap_setCell wz ⟨w.heap.size + 2, 0, none⟩ (.bool true) D1 (by have := HL0.out; show D1 ≠ w.heap.size + 2; omega)).trans HK1z.out)
                clear hbz
                obtain ⟨_, _, _, x4, x5⟩ := HRz.out.cells
                gi_wp2_with fail
                exact ask_end HR10.out HL0.out.1 HL0.out.2.1 HL0.out.2.2 HK0s.out HK1s.out (fun W' h => by simp [results, Try.results6, go_sem, h])
              case stop_5 =>
                rintro D1 c' pre WT1 hD hpre ⟨⟨rfl, hk40, hor⟩, hti⟩ hK
                have hpl : pre.length ≤ (allC n ls).length := by
                  have := hpre.length_le
                  rwa [List.length_map] at this
                have hwl : wl.length = min 41 (allC n ls).length := by rw [HWL.out, List.length_take]
                generalize pre.length = kx at *
                clear hpre
                by_cases hm : wl.length ≤ 40
                · have hm1 : (wl.length : Int) ≤ 40 := by omega
                  have hm2 : ¬ ((40 : Int) < (wl.length : Int)) := by omega
                  by_cases hkm : kx = wl.length
                  · have hne : ((kx : Int) != (wl.length : Int)) = false := by rw [bne_eq_false_iff_eq]; omega
                    clear hkm hor hm hwl hpl hk40
                    have hBr : Below wr.heap.size wr WT1 := HBB.out.trans (hti.bel.mono HBB.out.size)
                    have hk5 := (hBr.block _ (lt_of_block HKr.out)).trans HKr.out
                    have y5 := cell_of_row WT1 w3.heap.size 0 _ _ (0, 0) hk5
                    simp only [List.getElem?_toArray, List.getElem?_cons_zero] at y5
                    obtain ⟨x10, x11, _⟩ := hti.cells
                    have HBW1 := hide hBr
                    have HKD1 := hide hK
                    have HTW1 := hide hti.bel
                    have HDW1 : Hid (WT0.heap.size ≤ D1) := hide (by have := HZT.out; have := HTC.out; omega)
                    clear hBr hk5 hti hK hD
                    gi_wp2_with fail
                    rw [roundsIn_succ]
                    clear y5 x10 x11 hm1 hm2 hne HZT HTI HTC
                    gi_wp2_with fail
                    have HBk : Hid (Below WT1.heap.size WT1 (WT1.alloc (.cells #[.int .i64 2] 3))) := hide ((Below.refl _ _).alloc (Nat.le_refl _) _)
                    generalize WT1.alloc (.cells #[.int .i64 2] 3) = wk at *
                    refine ⟨trivial, (callsIn_wide.2 (HKN.out wk)).mono ?_⟩
                    rintro e wz ⟨rfl, hbz⟩
                    simp only
                    have HBz : Hid (Below WT1.heap.size WT1 wz) := hide (HBk.out.trans (hbz.mono HBk.out.size))
                    have HRz := hide (HRr.out.below (HBW1.out.trans (HBz.out.mono HBW1.out.size)))
                    have HK0z := hide ((HBz.out.block _ (Nat.lt_of_lt_of_le (lt_of_block HKD0.out) HTW1.out.size)).trans ((HTW1.out.block _ (lt_of_block HKD0.out)).trans HKD0.out))
                    have HK1z := hide ((HBz.out.block _ (lt_of_block HKD1.out)).trans HKD1.out)
                    have HR10 := hide (HRz.out.says true)
                    have HL0 : Hid (w.heap.size + 3 ≤ D0 ∧ w.heap.size + 3 ≤ D1 ∧ D0 ≠ D1) := hide (by
                      have h1 := HRr.out.lt
                      have h2 := HDW0.out
                      have h3 := HDW1.out
                      have h4 := lt_of_block HKD0.out
                      have h5 := HTW0.out.size
                      omega)
                    have HK0s := hide ((Below.heap_setCell wz ⟨w.heap.size + 2, 0, none⟩ (.bool true) D0 (by have := HL0.out; show D0 ≠ w.heap.size + 2; omega)).trans HK0z.out)
                    have HK1s := hide ((Below.heap_setCell wz ⟨w.heap.size + 2, 0, none⟩ (.bool true) D1 (by have := HL0.out; show D1 ≠ w.heap.size + 2; omega)).trans HK1z.out)
                    clear hbz
                    obtain ⟨_, _, _, x4, x5⟩ := HRz.out.cells
                    gi_wp2_with fail
                    exact ask_end HR10.out HL0.out.1 HL0.out.2.1 HL0.out.2.2 HK0s.out HK1s.out (fun W' h => by simp [results, Try.results6, go_sem, h])
                  · exfalso
                    rcases hor with h | h
                    · omega
                    · exact absurd h.1 (by decide)
                · have hm1 : ¬ ((wl.length : Int) ≤ 40) := by omega
                  have hm2 : (40 : Int) < (wl.length : Int) := by omega
                  by_cases hkm : kx = 40
                  · have hne : ((kx : Int) != 40) = false := by rw [bne_eq_false_iff_eq]; omega
                    clear hkm hor hm hwl hpl hk40
                    have hBr : Below wr.heap.size wr WT1 := HBB.out.trans (hti.bel.mono HBB.out.size)
                    have hk5 := (hBr.block _ (lt_of_block HKr.out)).trans HKr.out
                    have y5 := cell_of_row WT1 w3.heap.size 0 _ _ (0, 0) hk5
                    simp only [List.getElem?_toArray, List.getElem?_cons_zero] at y5
                    obtain ⟨x10, x11, _⟩ := hti.cells
                    have HBW1 := hide hBr
                    have HKD1 := hide hK
                    have HTW1 := hide hti.bel
                    have HDW1 : Hid (WT0.heap.size ≤ D1) := hide (by have := HZT.out; have := HTC.out; omega)
                    clear hBr hk5 hti hK hD
                    gi_wp2_with fail
                    rw [roundsIn_succ]
                    clear y5 x10 x11 hm1 hm2 hne HZT HTI HTC
                    gi_wp2_with fail
                    have HBk : Hid (Below WT1.heap.size WT1 (WT1.alloc (.cells #[.int .i64 2] 3))) := hide ((Below.refl _ _).alloc (Nat.le_refl _) _)
                    generalize WT1.alloc (.cells #[.int .i64 2] 3) = wk at *
                    refine ⟨trivial, (callsIn_wide.2 (HKN.out wk)).mono ?_⟩
                    rintro e wz ⟨rfl, hbz⟩
                    simp only
                    have HBz : Hid (Below WT1.heap.size WT1 wz) := hide (HBk.out.trans (hbz.mono HBk.out.size))
                    have HRz := hide (HRr.out.below (HBW1.out.trans (HBz.out.mono HBW1.out.size)))
                    have HK0z := hide ((HBz.out.block _ (Nat.lt_of_lt_of_le (lt_of_block HKD0.out) HTW1.out.size)).trans ((HTW1.out.block _ (lt_of_block HKD0.out)).trans HKD0.out))
                    have HK1z := hide ((HBz.out.block _ (lt_of_block HKD1.out)).trans HKD1.out)
                    have HR10 := hide (HRz.out.says true)
                    have HL0 : Hid (w.heap.size + 3 ≤ D0 ∧ w.heap.size + 3 ≤ D1 ∧ D0 ≠ D1) := hide (by
                      have h1 := HRr.out.lt
                      have h2 := HDW0.out
                      have h3 := HDW1.out
                      have h4 := lt_of_block HKD0.out
                      have h5 := HTW0.out.size
                      omega)
                    have HK0s := hide ((Below.heap_setCell wz ⟨w.heap.size + 2, 0, none⟩ (.bool true) D0 (by have := HL0.out; show D0 ≠ w.heap.size + 2; omega)).trans HK0z.out)
                    have HK1s := hide ((Below.heap_setCell wz ⟨w.heap.size + 2, 0, none⟩ (.bool true) D1 (by have := HL0.out; show D1 ≠ w.heap.size + 2; omega)).trans HK1z.out)
                    clear hbz
                    obtain ⟨_, _, _, x4, x5⟩ := HRz.out.cells
                    gi_wp2_with fail
                    exact ask_end HR10.out HL0.out.1 HL0.out.2.1 HL0.out.2.2 HK0s.out HK1s.out (fun W' h => by simp [results, Try.results6, go_sem, h])
                  · exfalso
                    rcases hor with h | h
                    · omega
                    · exact absurd h.1 (by decide)
            · have hlk : (kx : Int) = lv := by
                rcases hor with h | h
                · omega
                · first | exact h | exact h.2
              have hne : ((kx : Int) != 40) = true := by rw [bne_iff_ne]; omega
              have hlvf : ((kx : Int) != lv) = false := by rw [bne_eq_false_iff_eq]; exact hlk
              clear hkm hor hm hwl hpl hk40 hlk
              have hBr : Below wr.heap.size wr WT0 := HBB.out.trans (hti.bel.mono HBB.out.size)
              have hk5 := (hBr.block _ (lt_of_block HKr.out)).trans HKr.out
              have y5 := cell_of_row WT0 w3.heap.size 0 _ _ (0, 0) hk5
              simp only [List.getElem?_toArray, List.getElem?_cons_zero] at y5
              obtain ⟨x10, x11, _⟩ := hti.cells
              have HBW0 := hide hBr
              have HKD0 := hide hK
              have HTW0 := hide hti.bel
              have HDW0 : Hid (wr.heap.size ≤ D0) := hide (by have := HZT.out; have := HTC.out; omega)
              have hASK := HRr.out.below hBr
              have x3 := hASK.cells.2.2.1
              clear hASK
              clear hBr hk5 hti hK hD
              gi_wp2_with fail
              rw [roundsIn_succ]
              have HS1 := hide (TurnI.again WT0)
              clear y5 x10 x11 x3 hm1 hm2 hne HZT HTI HTC
              gi_wp2_with fail
              generalize (WT0.alloc (.cells #[.int .i64 1] 3)).alloc (.cells #[.int .i64 0] 3) = ws1 at *
              have HBB := HBW0
              clear HS0
              obtain ⟨tc, htc⟩ : ∃ tc, tc = WT0.heap.size := ⟨_, rfl⟩
              have HZT : Hid (ws1.heap.size = tc + 2) := hide (by rw [htc]; exact HS1.out.2)
              have HTI := hide HS1.out.1
              have HTC := hide htc
              rw [← htc] at HTI ⊢
              clear htc
              refine wpIn_rangeSeqL (α := Value × List Int) (encs := encC) (E := NextC (ws1.heap.size + 2) (allC n ls)) (S := fun xs => xs.map Prod.snd = allC n ls) (Sp := fun pre => pre.map Prod.snd <+: allC n ls) (gf := 43) (lb := #[.pointer (some ⟨rc, 0, none⟩), .pointer (some ⟨xc, 0, none⟩)]) rfl (enters_of Try.func43 (by kernel_rfl) rfl) (fun i => i = tc + 1) ownC
                (fun h => by have := HZT.out; omega) (fun h => by have := HZT.out; omega)
                (fun pre x W hE k hk => (hE.2.lt k hk).1)
                (fun W hb hz => all_seq (w6 := wr) (w7 := wr) (B := wr.heap.size) (A := A8) (c := c8) (hs := hs8) HW.out (fun k hk => by have := HZT.out; have := HTC.out; have := HBB.out.size; rcases hk with hk | hk <;> omega) (by omega) (by have := HZT.out; have := HTC.out; have := HBB.out.size; omega) HALr.out.1 (by
                  have hbW : Below wr.heap.size wr W := (HBB.out.trans (HTI.out.bel.mono HBB.out.size)).trans (hb.mono (by have := HZT.out; have := HTC.out; have := HBB.out.size; omega))
                  rcases HALr.out.2 with ⟨h1, h2, h3, h4, h5⟩ | ⟨h1, h2⟩
                  · exact .inl ⟨h1, (hbW.block _ (lt_of_block h2)).trans h2, (hbW.block _ (lt_of_block h3)).trans h3, h4, h5.below hbW⟩
                  · exact .inr ⟨h1, (hbW.block _ (lt_of_block h2)).trans h2⟩))
                (fun _ => rfl)
                (fun pre W' => pre.length < 40 ∧ TurnI WT0 tc (tc + 1) 1 pre.length W') (fun c' pre W' => (c' = .exit 6 ∧ pre.length ≤ 40 ∧ (pre.length = 40 ∨ ((1 : Int) = 0 ∧ (pre.length : Int) = lv))) ∧ TurnI WT0 tc (tc + 1) 1 pre.length W')
                (fun s X Y hs' hb' => ⟨hs'.1, hs'.2.low (by have := HZT.out; omega) (by have := HZT.out; omega) hb'⟩) (fun c' s X Y hs' hb' => ⟨hs'.1, hs'.2.low (by have := HZT.out; omega) (by have := HZT.out; omega) hb'⟩) ⟨by decide, HTI.out⟩
                ?a1_6 (fun _ W => W) (fun _ _ => Below.refl _ _) 7 ?assign_6 ?body_6 ?done_6 ?stop_6
              case assign_6 =>
                rintro l' pre x W' K he hK
                clear he
                simp only [encC]
                gi_wp2
                exact hK
              case body_6 =>
                rintro l' pre ⟨v', d⟩ W0 Wr ⟨hk40, hti⟩ hE hsz hsz2 hsame
                obtain ⟨k, hk⟩ : ∃ k, k = pre.length := ⟨_, rfl⟩
                rw [← hk] at hk40 hti
                have HK := hide hk
                have HT0 := hide hti
                have hpk := pre_at hE.1
                rw [List.length_map, ← hk] at hpk
                have HDK : Hid (wl[k]? = some d ∧ k < wl.length) := hide (by
                  rw [HWL.out]
                  exact ⟨take_at hpk.1 (by omega), by rw [List.length_take]; have := hpk.2; omega⟩)
                have hownr : Wr.ownsRow (ws1.heap.size + 2) 3 1 v' d.length (d.map (Value.int .i64)) := own_same hE.2 (fun k hk => hsame k (by omega))
                obtain ⟨A4, c4, rfl, _⟩ := own_sh hownr
                have HOD := hide hownr
                have HZR : Hid (ws1.heap.size + 2 ≤ Wr.heap.size) := hide (by omega)
                have hdl : d.length ≤ 1000000 := by
                  have h1 := pre_mem hE.1
                  unfold allC at h1
                  split at h1
                  · have := choicesW_len ls _ d h1; omega
                  · cases h1
                have hBr : Below wr.heap.size wr Wr := HBB.out.trans (hti.bel.mono HBB.out.size)
                have hOW := HOr.out.below hBr
                obtain ⟨u, hu⟩ : ∃ u, vs5[k]? = some u := by
                  have h1 := HOr.out.hdr.1
                  have h2 := HDK.out.2
                  exact ⟨vs5[k]'(by omega), List.getElem?_eq_getElem _⟩
                have hru := hOW.row k u d hu HDK.out.1
                obtain ⟨gw, capw, hvw⟩ := Go.Joins.ownsRow_form hOW.hdr (by have := HDK.out.2; omega)
                injection hvw with hA5 _ _
                have hcu : Wr.cell? ⟨gw, k, none⟩ = some u := by
                  have h1 := hOW.hdr
                  rw [hA5] at h1
                  rw [h1.cellAt k (by have := HDK.out.2; omega)]
                  exact hu
                obtain ⟨A3, c3, rfl, _⟩ := own_sh hru
                have HSI := hide (sameInts_eq A4 c4 A3 c3 d Wr (Reads.of_own hownr) (Reads.of_own hru) hdl)
                have hk5 := (hBr.block _ (lt_of_block HKr.out)).trans HKr.out
                have y5 := cell_of_row Wr w3.heap.size 0 _ _ (0, 0) hk5
                simp only [List.getElem?_toArray, List.getElem?_cons_zero] at y5
                rw [hA5] at y5
                obtain ⟨x10, x11, _⟩ := hti.cells
                have hge : decide ((wl.length : Int) ≤ (k : Int)) = false := decide_eq_false (by have := HDK.out.2; omega)
                have hki : (k : Int) < (wl.length : Int) := by have := HDK.out.2; omega
                clear hk hti hownr hsame hsz hsz2 hE hpk hOW hu hru hBr hk5
                gi_wp2_with fail
                refine ⟨trivial, (callsIn_in HSI.out).mono ?_⟩
                rintro e W4 ⟨rfl, hb4⟩
                simp only
                have HT4 := hide (HT0.out.below hb4)
                have HO4 := hide (own_below HOD.out hb4 (Nat.le_refl _))
                have HX4 : Hid (OutP (fun i => i = tc + 1 ∨ ownC (.slice A4 d.length c4, d) i) Wr W4) := hide (OutP.of_below hb4)
                have HZ4w : Hid (ws1.heap.size + 2 ≤ W4.heap.size) := hide (Nat.le_trans HZR.out hb4.size)
                have HOV := hide (over_any (ws1.heap.size + 2) A4 c4 d W4 HO4.out hdl)
                clear hb4 HSI HT0 HOD y5 hcu
                gi_wp2_with fail
                refine ⟨trivial, (callsIn_in HOV.out).mono ?_⟩
                rintro e W5 ⟨rfl, hg5, hz5⟩
                simp only
                have hlow5 : Below (ws1.heap.size + 2) W4 W5 := (Below.refl _ _).grown hg5 HZ4w.out (fun i hi => (HO4.out.lt i hi).1)
                have HT5 := hide (HT4.out.low (S := ws1.heap.size + 2) (by have := HZT.out; omega) (by have := HZT.out; omega) hlow5)
                have HX5 : Hid (OutP (fun i => i = tc + 1 ∨ ownC (.slice A4 d.length c4, d) i) Wr W5) := hide (HX4.out.trans ⟨hg5.size, fun i hi hn => hg5.block i hi (fun e => hn (.inr e.symm))⟩)
                clear hg5 hz5 hlow5 HOV HX4 HT4 HO4 x10 x11
                obtain ⟨x10, x11, f11⟩ := HT5.out.cells
                have HT6 := hide (HT5.out.next (k + 1))
                have HX6 := hide (HX5.out.set ⟨tc + 1, 0, none⟩ (.inl rfl) (.int .i64 ((k + 1 : Nat) : Int)))
                have hwk : IntKind.i64.wrap ((k : Int) + 1) = (k : Int) + 1 := Go.IntWalk.i64_in _ (by omega)
                have hkk : ((k + 1 : Nat) : Int) = (k : Int) + 1 := by omega
                rw [hkk] at HT6 HX6
                have HLN : Hid ((pre ++ [((.slice A4 d.length c4 : Value), d)]).length = k + 1) := hide (by rw [List.length_append, ← HK.out]; rfl)
                obtain ⟨g10, g11, _⟩ := HT6.out.cells
                rw [hkk] at g11
                have HASK := hide (HRr.out.below (HBB.out.trans (HT6.out.bel.mono HBB.out.size)))
                have g2 := HASK.out.cells.2.2.1
                clear hkk
                by_cases h40 : k + 1 = 40
                · have e40 : ((k : Int) + 1 == 40) = true := by rw [beq_iff_eq]; omega
                  have H40 := hide h40
                  clear h40
                  gi_wp2_with fail
                  have h1 : (pre ++ [((.slice A4 d.length c4 : Value), d)]).length ≤ 40 := by rw [HLN.out]; exact Nat.le_of_eq H40.out
                  have h2 : (pre ++ [((.slice A4 d.length c4 : Value), d)]).length = 40 := by rw [HLN.out]; exact H40.out
                  exact ⟨HX6.out, ⟨rfl, h1, by first | exact .inl h2 | exact h2⟩, by show TurnI WT0 tc (tc + 1) 1 (pre ++ _).length _; rw [HLN.out]; exact HT6.out⟩
                · have e40 : ((k : Int) + 1 == 40) = false := by rw [beq_eq_false_iff_ne]; omega
                  have H40 : Hid (k + 1 < 40) := hide (by omega)
                  clear h40
                  gi_wp2_with fail
                  exact ⟨HX6.out, by show (pre ++ _).length < 40; rw [HLN.out]; exact H40.out, by show TurnI WT0 tc (tc + 1) 1 (pre ++ _).length _; rw [HLN.out]; exact HT6.out⟩
              case done_6 =>
                rintro D1 xs WT1 hD hS ⟨hk40, hti⟩ hK
                have hxl : xs.length = (allC n ls).length := by rw [← hS, List.length_map]
                have hwk : wl.length = xs.length := by rw [HWL.out, List.length_take]; omega
                generalize xs.length = kx at *
                have hm1 : (wl.length : Int) ≤ 40 := by omega
                have hm2 : ¬ ((40 : Int) < (wl.length : Int)) := by omega
                have hne : ((kx : Int) != (wl.length : Int)) = false := by rw [bne_eq_false_iff_eq]; omega
                clear hS hxl hwk hk40
                have hBr : Below wr.heap.size wr WT1 := HBB.out.trans (hti.bel.mono HBB.out.size)
                have hk5 := (hBr.block _ (lt_of_block HKr.out)).trans HKr.out
                have y5 := cell_of_row WT1 w3.heap.size 0 _ _ (0, 0) hk5
                simp only [List.getElem?_toArray, List.getElem?_cons_zero] at y5
                obtain ⟨x10, x11, _⟩ := hti.cells
                have HBW1 := hide hBr
                have HKD1 := hide hK
                have HTW1 := hide hti.bel
                have HDW1 : Hid (WT0.heap.size ≤ D1) := hide (by have := HZT.out; have := HTC.out; omega)
                clear hBr hk5 hti hK hD
                gi_wp2_with fail
                rw [roundsIn_succ]
                clear y5 x10 x11 hm1 hm2 hne HZT HTI HTC
                gi_wp2_with fail
                have HBk : Hid (Below WT1.heap.size WT1 (WT1.alloc (.cells #[.int .i64 2] 3))) := hide ((Below.refl _ _).alloc (Nat.le_refl _) _)
                generalize WT1.alloc (.cells #[.int .i64 2] 3) = wk at *
                refine ⟨trivial, (callsIn_wide.2 (HKN.out wk)).mono ?_⟩
                rintro e wz ⟨rfl, hbz⟩
                simp only
                have HBz : Hid (Below WT1.heap.size WT1 wz) := hide (HBk.out.trans (hbz.mono HBk.out.size))
                have HRz := hide (HRr.out.below (HBW1.out.trans (HBz.out.mono HBW1.out.size)))
                have HK0z := hide ((HBz.out.block _ (Nat.lt_of_lt_of_le (lt_of_block HKD0.out) HTW1.out.size)).trans ((HTW1.out.block _ (lt_of_block HKD0.out)).trans HKD0.out))
                have HK1z := hide ((HBz.out.block _ (lt_of_block HKD1.out)).trans HKD1.out)
                have HR10 := hide (HRz.out.says true)
                have HL0 : Hid (w.heap.size + 3 ≤ D0 ∧ w.heap.size + 3 ≤ D1 ∧ D0 ≠ D1) := hide (by
                  have h1 := HRr.out.lt
                  have h2 := HDW0.out
                  have h3 := HDW1.out
                  have h4 := lt_of_block HKD0.out
                  have h5 := HTW0.out.size
                  omega)
                have HK0s := hide ((Below.heap_setCell wz ⟨w.heap.size + 2, 0, none⟩ (.bool true) D0 (by have := HL0.out; show D0 ≠ w.heap.size + 2; omega)).trans HK0z.out)
                have HK1s := hide ((Below.heap_setCell wz ⟨w.heap.size + 2, 0, none⟩ (.bool true) D1 (by have := HL0.out; show D1 ≠ w.heap.size + 2; omega)).trans HK1z.out)
                clear hbz
                obtain ⟨_, _, _, x4, x5⟩ := HRz.out.cells
                gi_wp2_with fail
                exact ask_end HR10.out HL0.out.1 HL0.out.2.1 HL0.out.2.2 HK0s.out HK1s.out (fun W' h => by simp [results, Try.results6, go_sem, h])
              case stop_6 =>
                rintro D1 c' pre WT1 hD hpre ⟨⟨rfl, hk40, hor⟩, hti⟩ hK
                have hpl : pre.length ≤ (allC n ls).length := by
                  have := hpre.length_le
                  rwa [List.length_map] at this
                have hwl : wl.length = min 41 (allC n ls).length := by rw [HWL.out, List.length_take]
                generalize pre.length = kx at *
                clear hpre
                by_cases hm : wl.length ≤ 40
                · have hm1 : (wl.length : Int) ≤ 40 := by omega
                  have hm2 : ¬ ((40 : Int) < (wl.length : Int)) := by omega
                  by_cases hkm : kx = wl.length
                  · have hne : ((kx : Int) != (wl.length : Int)) = false := by rw [bne_eq_false_iff_eq]; omega
                    clear hkm hor hm hwl hpl hk40
                    have hBr : Below wr.heap.size wr WT1 := HBB.out.trans (hti.bel.mono HBB.out.size)
                    have hk5 := (hBr.block _ (lt_of_block HKr.out)).trans HKr.out
                    have y5 := cell_of_row WT1 w3.heap.size 0 _ _ (0, 0) hk5
                    simp only [List.getElem?_toArray, List.getElem?_cons_zero] at y5
                    obtain ⟨x10, x11, _⟩ := hti.cells
                    have HBW1 := hide hBr
                    have HKD1 := hide hK
                    have HTW1 := hide hti.bel
                    have HDW1 : Hid (WT0.heap.size ≤ D1) := hide (by have := HZT.out; have := HTC.out; omega)
                    clear hBr hk5 hti hK hD
                    gi_wp2_with fail
                    rw [roundsIn_succ]
                    clear y5 x10 x11 hm1 hm2 hne HZT HTI HTC
                    gi_wp2_with fail
                    have HBk : Hid (Below WT1.heap.size WT1 (WT1.alloc (.cells #[.int .i64 2] 3))) := hide ((Below.refl _ _).alloc (Nat.le_refl _) _)
                    generalize WT1.alloc (.cells #[.int .i64 2] 3) = wk at *
                    refine ⟨trivial, (callsIn_wide.2 (HKN.out wk)).mono ?_⟩
                    rintro e wz ⟨rfl, hbz⟩
                    simp only
                    have HBz : Hid (Below WT1.heap.size WT1 wz) := hide (HBk.out.trans (hbz.mono HBk.out.size))
                    have HRz := hide (HRr.out.below (HBW1.out.trans (HBz.out.mono HBW1.out.size)))
                    have HK0z := hide ((HBz.out.block _ (Nat.lt_of_lt_of_le (lt_of_block HKD0.out) HTW1.out.size)).trans ((HTW1.out.block _ (lt_of_block HKD0.out)).trans HKD0.out))
                    have HK1z := hide ((HBz.out.block _ (lt_of_block HKD1.out)).trans HKD1.out)
                    have HR10 := hide (HRz.out.says true)
                    have HL0 : Hid (w.heap.size + 3 ≤ D0 ∧ w.heap.size + 3 ≤ D1 ∧ D0 ≠ D1) := hide (by
                      have h1 := HRr.out.lt
                      have h2 := HDW0.out
                      have h3 := HDW1.out
                      have h4 := lt_of_block HKD0.out
                      have h5 := HTW0.out.size
                      omega)
                    have HK0s := hide ((Below.heap_setCell wz ⟨w.heap.size + 2, 0, none⟩ (.bool true) D0 (by have := HL0.out; show D0 ≠ w.heap.size + 2; omega)).trans HK0z.out)
                    have HK1s := hide ((Below.heap_setCell wz ⟨w.heap.size + 2, 0, none⟩ (.bool true) D1 (by have := HL0.out; show D1 ≠ w.heap.size + 2; omega)).trans HK1z.out)
                    clear hbz
                    obtain ⟨_, _, _, x4, x5⟩ := HRz.out.cells
                    gi_wp2_with fail
                    exact ask_end HR10.out HL0.out.1 HL0.out.2.1 HL0.out.2.2 HK0s.out HK1s.out (fun W' h => by simp [results, Try.results6, go_sem, h])
                  · exfalso
                    rcases hor with h | h
                    · omega
                    · exact absurd h.1 (by decide)
                · have hm1 : ¬ ((wl.length : Int) ≤ 40) := by omega
                  have hm2 : (40 : Int) < (wl.length : Int) := by omega
                  by_cases hkm : kx = 40
                  · have hne : ((kx : Int) != 40) = false := by rw [bne_eq_false_iff_eq]; omega
                    clear hkm hor hm hwl hpl hk40
                    have hBr : Below wr.heap.size wr WT1 := HBB.out.trans (hti.bel.mono HBB.out.size)
                    have hk5 := (hBr.block _ (lt_of_block HKr.out)).trans HKr.out
                    have y5 := cell_of_row WT1 w3.heap.size 0 _ _ (0, 0) hk5
                    simp only [List.getElem?_toArray, List.getElem?_cons_zero] at y5
                    obtain ⟨x10, x11, _⟩ := hti.cells
                    have HBW1 := hide hBr
                    have HKD1 := hide hK
                    have HTW1 := hide hti.bel
                    have HDW1 : Hid (WT0.heap.size ≤ D1) := hide (by have := HZT.out; have := HTC.out; omega)
                    clear hBr hk5 hti hK hD
                    gi_wp2_with fail
                    rw [roundsIn_succ]
                    clear y5 x10 x11 hm1 hm2 hne HZT HTI HTC
                    gi_wp2_with fail
                    have HBk : Hid (Below WT1.heap.size WT1 (WT1.alloc (.cells #[.int .i64 2] 3))) := hide ((Below.refl _ _).alloc (Nat.le_refl _) _)
                    generalize WT1.alloc (.cells #[.int .i64 2] 3) = wk at *
                    refine ⟨trivial, (callsIn_wide.2 (HKN.out wk)).mono ?_⟩
                    rintro e wz ⟨rfl, hbz⟩
                    simp only
                    have HBz : Hid (Below WT1.heap.size WT1 wz) := hide (HBk.out.trans (hbz.mono HBk.out.size))
                    have HRz := hide (HRr.out.below (HBW1.out.trans (HBz.out.mono HBW1.out.size)))
                    have HK0z := hide ((HBz.out.block _ (Nat.lt_of_lt_of_le (lt_of_block HKD0.out) HTW1.out.size)).trans ((HTW1.out.block _ (lt_of_block HKD0.out)).trans HKD0.out))
                    have HK1z := hide ((HBz.out.block _ (lt_of_block HKD1.out)).trans HKD1.out)
                    have HR10 := hide (HRz.out.says true)
                    have HL0 : Hid (w.heap.size + 3 ≤ D0 ∧ w.heap.size + 3 ≤ D1 ∧ D0 ≠ D1) := hide (by
                      have h1 := HRr.out.lt
                      have h2 := HDW0.out
                      have h3 := HDW1.out
                      have h4 := lt_of_block HKD0.out
                      have h5 := HTW0.out.size
                      omega)
                    have HK0s := hide ((Below.heap_setCell wz ⟨w.heap.size + 2, 0, none⟩ (.bool true) D0 (by have := HL0.out; show D0 ≠ w.heap.size + 2; omega)).trans HK0z.out)
                    have HK1s := hide ((Below.heap_setCell wz ⟨w.heap.size + 2, 0, none⟩ (.bool true) D1 (by have := HL0.out; show D1 ≠ w.heap.size + 2; omega)).trans HK1z.out)
                    clear hbz
                    obtain ⟨_, _, _, x4, x5⟩ := HRz.out.cells
                    gi_wp2_with fail
                    exact ask_end HR10.out HL0.out.1 HL0.out.2.1 HL0.out.2.2 HK0s.out HK1s.out (fun W' h => by simp [results, Try.results6, go_sem, h])
                  · exfalso
                    rcases hor with h | h
                    · omega
                    · exact absurd h.1 (by decide)
  · obtain ⟨x0, x1, x2, x3, x4⟩ := HR2.out.cells
    gi_wp2_with fail
    refine ⟨trivial, (callsIn_wide.2 (HKN.out w2)).mono ?_⟩
    rintro e w3 ⟨rfl, hb3⟩
    have HR3 := hide (HR2.out.below hb3)
    clear hb3 x0 x1 x2 x3 x4
    obtain ⟨x0, x1, x2, x3, x4⟩ := HR3.out.cells
    have HR4 := hide (HR3.out.says true)
    gi_wp2_with fail
    exact ask_ret HR4.out (fun W' h => by simp [results, Try.results6, go_sem, h])
end Go.Proofs.Ytkjmpenaifhfjaa
