/- The walk of the law CallFills. -/
import Derived.Test.YtogicdljbnllgaaLeft
import Derived.Test.YtogicdljbnllgaaRefF
import Derived.Test.YtogicdljbnllgaaInU
import Derived.TacticsInMore
import Derived.LoopNIn
import Derived.LoopIn
import Derived.Sort.CutIn
import Derived.Sort.BigQuietIn
namespace Go.Proofs.Ytogicdljbnllgaa
open Go.Shelf Go.RowKit Go.Lib Go.Sort Go.Proofs

attribute [local go_sem] Oper.semAt_some

theorem ne_fill (x y z : Int) (w : World) : (binOp .neq 55 (.agg #[.int .i64 x, .int .i64 y, .int .i64 z]) (.agg #[.int .i64 x, .int .i64 y, .int .i64 z])).run Try.prog w = .ok (.bool false) w := by
  have hS : Try.prog.underlying 55 = some (.struct (Try.prog.fieldsOf 55)) := by kernel_rfl
  have u3 := Try.underlying3
  have e : (Op.equalIn (9999 + 1) 55 (.agg #[.int .i64 x, .int .i64 y, .int .i64 z]) (.agg #[.int .i64 x, .int .i64 y, .int .i64 z])).run Try.prog w = .ok true w := by
    rw [run_equalIn_struct w 9999 55 _ _ hS (by kernel_rfl)]
    simp only [Program.fieldsOf, Try.underlying55]
    go_simp
  show ((do pure (.bool (!(← Op.equal 55 _ _))) : Sem Value)).run Try.prog w = _
  simp only [Op.equal, Op.maxDepth, Sem.run_bind, e, Result.andThen_ok, Sem.run_pure]
  rfl
/-- More than is gone through here. -/
def muchN (n : Nat) : Bool := decide (100 < (n : Int)) && decide ((n : Int) ≤ 4096)
theorem fills_few {b s : List (Int × Int)} : (FillsA b s).length ≤ 8192 := by
  unfold FillsA
  split
  · next hk =>
    obtain ⟨hb, hs⟩ := ok_of_check hk
    have h1 := run_few hb hs
    have h2 := hb.1
    have h3 := hs.1
    omega
  · simp
theorem callsIn_in {m l' : Nat} {P : Program} {f : FuncId} {args : Array Value} {w : World} {R : Ending → World → Prop} (h : Calls P f args w R) : CallsIn (Fence.wide.inRound l') m P f args w R :=
  (callsIn_wide (n := m)).2 h
/-- The law's own record: when to leave, the answer so far. -/
structure AskF (w : World) (lv : Int) (b : Bool) (W : World) : Prop where
  bel : Below w.heap.size w W
  l : W.heap[w.heap.size]? = some (.cells #[.int .i64 lv] 3 (0, 0))
  r : W.heap[w.heap.size + 1]? = some (.cells #[.bool b] 4 (0, 0))
section
variable {w W W' : World} {lv : Int} {b : Bool}
theorem AskF.start (w : World) (lv : Int) : AskF w lv false ((w.alloc (.cells #[.int .i64 lv] 3)).alloc (.cells #[.bool false] 4)) ∧ ((w.alloc (.cells #[.int .i64 lv] 3)).alloc (.cells #[.bool false] 4)).heap.size = w.heap.size + 2 :=
  ⟨⟨((Below.refl _ _).alloc (Nat.le_refl _) _).alloc (by simp) _, (Below.heap_alloc _ _ _ (by simp)).trans (heap_alloc_new w _), by
    have := heap_alloc_new (w.alloc (.cells #[.int .i64 lv] 3)) (.cells #[.bool false] 4)
    simpa using this⟩, by simp⟩
theorem AskF.below (h : AskF w lv b W) (hb : Below W.heap.size W W') : AskF w lv b W' := ⟨h.bel.trans (hb.mono h.bel.size), (hb.block _ (lt_of_block h.l)).trans h.l, (hb.block _ (lt_of_block h.r)).trans h.r⟩
theorem AskF.turns {p : Nat → Prop} (h : AskF w lv b W) (ht : Turns p W W') (hp : ∀ k, k < w.heap.size + 2 → ¬ p k) : AskF w lv b W' :=
  ⟨h.bel.trans (ht.below h.bel.size (fun k hk => hp k (by omega))), (ht.block _ (lt_of_block h.l) (hp _ (by omega))).trans h.l, (ht.block _ (lt_of_block h.r) (hp _ (by omega))).trans h.r⟩
theorem AskF.says (h : AskF w lv b W) (b' : Bool) : AskF w lv b' (W.setCell ⟨w.heap.size + 1, 0, none⟩ (.bool b')) :=
  ⟨h.bel.setCell (by show w.heap.size ≤ w.heap.size + 1; omega) _, (Below.heap_setCell _ _ _ _ (by show w.heap.size ≠ w.heap.size + 1; omega)).trans h.l, setCell_block h.r 0 _⟩
theorem AskF.cells (h : AskF w lv b W) : W.cell? ⟨w.heap.size, 0, none⟩ = some (.int .i64 lv) ∧ W.cell? ⟨w.heap.size + 1, 0, none⟩ = some (.bool b) ∧ W.frozen? ⟨w.heap.size + 1, 0, none⟩ = false :=
  ⟨cell_of_row W _ 0 _ _ (0, 0) h.l, cell_of_row W _ 0 _ _ (0, 0) h.r, frozen_of_row W _ 0 _ _ h.r⟩
theorem AskF.lt (h : AskF w lv b W) : w.heap.size + 1 < W.heap.size := lt_of_block h.r
end
/-- The law says yes. -/
theorem askf_ret {fn : Func} {tmps : Array Value} {w W : World} {lv : Int} (h : AskF w lv true W)
    (hr : ∀ W', W'.cell? ⟨w.heap.size + 1, 0, none⟩ = some (.bool true) → (results fn tmps).run Try.prog W' = .ok (.bool true) W') : LeavesInM Fence.wide 9 Try.prog fn tmps (ValPost (.bool true) w) [] .returning W :=
  ⟨.bool true, hr _ h.cells.2.1, rfl, h.bel⟩
theorem askf_end {fn : Func} {tmps : Array Value} {w W : World} {lv : Int} {D1 D2 : Nat} (h : AskF w lv true W) (hD1 : w.heap.size + 2 ≤ D1) (hD2 : w.heap.size + 2 ≤ D2) (hne : D1 ≠ D2) (hK1 : W.heap[D1]? = some (.deferred (some []))) (hK2 : W.heap[D2]? = some (.deferred (some [])))
    (hr : ∀ W', W'.cell? ⟨w.heap.size + 1, 0, none⟩ = some (.bool true) → (results fn tmps).run Try.prog W' = .ok (.bool true) W') : LeavesInM Fence.wide 9 Try.prog fn tmps (ValPost (.bool true) w) [{ target := .collected D2, args := #[] }, { target := .collected D1, args := #[] }] .returning W := by
  have hb2 : (W.putObj D2 (.deferred none)).heap[w.heap.size + 1]? = some (.cells #[.bool true] 4 (0, 0)) := (World.putObj_heap_other (by omega)).trans h.r
  have hk1 : (W.putObj D2 (.deferred none)).heap[D1]? = some (.deferred (some [])) := (World.putObj_heap_other hne).trans hK1
  have hb1 : ((W.putObj D2 (.deferred none)).putObj D1 (.deferred none)).heap[w.heap.size + 1]? = some (.cells #[.bool true] 4 (0, 0)) := (World.putObj_heap_other (by omega)).trans hb2
  refine ⟨by simp, .inl ⟨D2, _, rfl, run_takeDeferred hK2, by simp, .inl ⟨D1, _, rfl, run_takeDeferred hk1, ⟨.bool true, hr _ (cell_of_row _ _ 0 _ _ (0, 0) hb1), rfl, ?_⟩⟩⟩⟩
  have hB2 := h.bel.grown (grownBy_putObj' W D2 (.deferred none)) h.bel.size (fun k e => by injection e with e; omega)
  exact hB2.grown (grownBy_putObj' _ D1 _) hB2.size (fun k e => by injection e with e; omega)
/-- The two lent rows. -/
structure LentF (w : World) (g1 c1 : Nat) (b : List (Int × Int)) (g2 c2 : Nat) (s : List (Int × Int)) (W : World) : Prop where
  bel : Below w.heap.size w W
  r1 : W.ownsRow w.heap.size 51 2 (.slice (some ⟨g1, 0, none⟩) (b.length + 1) c1) (b.length + 1) (flat (b ++ [(771, 0)]))
  r2 : W.ownsRow w.heap.size 51 2 (.slice (some ⟨g2, 0, none⟩) (s.length + 1) c2) (s.length + 1) (flat (s ++ [(771, 0)]))
  lt : g1 < g2
theorem wants_of_lentF {W : World} {B g c : Nat} {l : List (Int × Int)} (h : W.ownsRow B 51 2 (.slice (some ⟨g, 0, none⟩) (l.length + 1) c) (l.length + 1) (flat (l ++ [(771, 0)]))) :
    Wants W W.heap.size (some ⟨g, 0, none⟩) (l ++ [(771, 0)]) ∧ Wants W W.heap.size (some ⟨g, 0, none⟩) l ∧ l.length + 1 ≤ c := by
  have h1 := Reads.of_own h
  have h2 := h1.front (k := l.length) (by omega)
  refine ⟨?_, ?_, ?_⟩
  · unfold Wants
    rw [List.length_append]
    exact h1
  · unfold Wants
    rw [flat_take, List.take_left] at h2
    exact h2
  · obtain ⟨_, _, e, hc⟩ := own_sh h
    injection e with _ _ e
    omega
theorem LentF.below {w W W' : World} {g1 c1 : Nat} {b : List (Int × Int)} {g2 c2 : Nat} {s : List (Int × Int)} (h : LentF w g1 c1 b g2 c2 s W) (hb : Below W.heap.size W W') : LentF w g1 c1 b g2 c2 s W' :=
  ⟨h.bel.trans (hb.mono h.bel.size), own_below h.r1 hb (Nat.le_refl _), own_below h.r2 hb (Nat.le_refl _), h.lt⟩
/-- The lent rows, while they are written over. -/
structure WipF (B T : Nat) (W0 : World) (g1 c1 n1 g2 c2 n2 : Nat) (W : World) : Prop where
  t : Turns (fun k => B ≤ k ∧ k < T) W0 W
  o1 : ∃ xs, W.ownsRow B 51 2 (.slice (some ⟨g1, 0, none⟩) (n1 + 1) c1) (n1 + 1) xs
  o2 : ∃ xs, W.ownsRow B 51 2 (.slice (some ⟨g2, 0, none⟩) (n2 + 1) c2) (n2 + 1) xs
  lt : g1 < g2 ∧ g2 < T
section
variable {B T : Nat} {W0 W : World} {g1 c1 n1 g2 c2 n2 : Nat}
theorem WipF.set1 (h : WipF B T W0 g1 c1 n1 g2 c2 n2 W) (k : Nat) (v : Value) : WipF B T W0 g1 c1 n1 g2 c2 n2 (W.setCell ⟨g1, k, none⟩ v) := by
  obtain ⟨xs, h1⟩ := h.o1
  obtain ⟨ys, h2⟩ := h.o2
  refine ⟨h.t.trans ((Turns.of_set W ⟨g1, k, none⟩ v).mono (fun j _ e => ?_)), ⟨_, (h1.stored k v).1⟩, ⟨_, ownsRow_setCell_other h2 (fun e => ?_) _⟩, h.lt⟩
  · have e1 : j = g1 := e
    have h3 := (h1.lt g1 rfl).1
    have h4 := h.lt
    rw [e1]
    show B ≤ g1 ∧ g1 < T
    omega
  · have e1 : g2 = g1 := Option.some.inj e
    have h4 := h.lt
    omega
theorem WipF.set2 (h : WipF B T W0 g1 c1 n1 g2 c2 n2 W) (k : Nat) (v : Value) : WipF B T W0 g1 c1 n1 g2 c2 n2 (W.setCell ⟨g2, k, none⟩ v) := by
  obtain ⟨xs, h1⟩ := h.o1
  obtain ⟨ys, h2⟩ := h.o2
  refine ⟨h.t.trans ((Turns.of_set W ⟨g2, k, none⟩ v).mono (fun j _ e => ?_)), ⟨_, ownsRow_setCell_other h1 (fun e => ?_) _⟩, ⟨_, (h2.stored k v).1⟩, h.lt⟩
  · have e1 : j = g2 := e
    have h3 := (h2.lt g2 rfl).1
    have h4 := h.lt
    rw [e1]
    show B ≤ g2 ∧ g2 < T
    omega
  · have e1 : g1 = g2 := Option.some.inj e
    have h4 := h.lt
    omega
theorem wip_row {g c n : Nat} {xs : List Value} (h : W.ownsRow B 51 2 (.slice (some ⟨g, 0, none⟩) (n + 1) c) (n + 1) xs) {k : Nat} (hk : k < n) :
    ∃ u v, W.cell? ⟨g, k * 2, none⟩ = some u ∧ W.cell? ⟨g, k * 2 + 1, none⟩ = some v ∧ W.frozen? ⟨g, k * 2, none⟩ = false ∧ W.frozen? ⟨g, k * 2 + 1, none⟩ = false := by
  have hl : xs.length = (n + 1) * 2 := h.1
  refine ⟨xs[k * 2]'(by omega), xs[k * 2 + 1]'(by omega), ?_, ?_, h.frozenAt _, h.frozenAt _⟩
  · rw [h.cellAt _ (by omega), List.getElem?_eq_getElem]
  · rw [h.cellAt _ (by omega), List.getElem?_eq_getElem]
theorem WipF.row1 (h : WipF B T W0 g1 c1 n1 g2 c2 n2 W) {k : Nat} (hk : k < n1) : ∃ u v, W.cell? ⟨g1, k * 2, none⟩ = some u ∧ W.cell? ⟨g1, k * 2 + 1, none⟩ = some v ∧ W.frozen? ⟨g1, k * 2, none⟩ = false ∧ W.frozen? ⟨g1, k * 2 + 1, none⟩ = false := by
  obtain ⟨xs, h1⟩ := h.o1
  exact wip_row h1 hk
theorem WipF.row2 (h : WipF B T W0 g1 c1 n1 g2 c2 n2 W) {k : Nat} (hk : k < n2) : ∃ u v, W.cell? ⟨g2, k * 2, none⟩ = some u ∧ W.cell? ⟨g2, k * 2 + 1, none⟩ = some v ∧ W.frozen? ⟨g2, k * 2, none⟩ = false ∧ W.frozen? ⟨g2, k * 2 + 1, none⟩ = false := by
  obtain ⟨xs, h1⟩ := h.o2
  exact wip_row h1 hk
end
/-- What the going over stands on: the copies, the document's fills. -/
structure FlS (w : World) (lv : Int) (f q fn : Nat) (A2 : Option Addr) (c2 : Nat) (b : List (Int × Int)) (A3 : Option Addr) (c3 : Nat) (s : List (Int × Int)) (A5 : Option Addr) (c5 : Nat) (W : World) : Prop where
  ask : AskF w lv false W
  x2 : W.heap[f]? = some (.cells #[.slice A2 b.length c2] 22 (0, 0))
  x3 : W.heap[f + 1]? = some (.cells #[.slice A3 s.length c3] 22 (0, 0))
  o2 : W.ownsRow w.heap.size 51 2 (.slice A2 b.length c2) b.length (flat b)
  o3 : W.ownsRow w.heap.size 51 2 (.slice A3 s.length c3) s.length (flat s)
  xq : W.heap[q]? = some (.cells #[.slice A5 fn c5] 52 (0, 0))
  o5 : W.ownsRow w.heap.size 55 3 (.slice A5 fn c5) fn (flatF (FillsA b s))
section
variable {w W W' : World} {lv : Int} {f q fn : Nat} {A2 : Option Addr} {c2 : Nat} {b : List (Int × Int)} {A3 : Option Addr} {c3 : Nat} {s : List (Int × Int)} {A5 : Option Addr} {c5 : Nat}
theorem FlS.below (h : FlS w lv f q fn A2 c2 b A3 c3 s A5 c5 W) (hb : Below W.heap.size W W') : FlS w lv f q fn A2 c2 b A3 c3 s A5 c5 W' :=
  ⟨h.ask.below hb, (hb.block _ (lt_of_block h.x2)).trans h.x2, (hb.block _ (lt_of_block h.x3)).trans h.x3, own_below h.o2 hb (Nat.le_refl _), own_below h.o3 hb (Nat.le_refl _), (hb.block _ (lt_of_block h.xq)).trans h.xq, own_below h.o5 hb (Nat.le_refl _)⟩
theorem FlS.seq {p : Nat → Prop} (h : FlS w lv f q fn A2 c2 b A3 c3 s A5 c5 W) (hb : Below W.heap.size W W') (hp : ∀ i, p i → W.heap.size ≤ i ∧ i < W'.heap.size) :
    SeqL p (fun _ _ => False) Try.prog 37 #[.pointer (some ⟨f, 0, none⟩), .pointer (some ⟨f + 1, 0, none⟩)] encF (fun xs => xs = FillsA b s) (fun pre => pre <+: FillsA b s) (fun pre x _ => pre ++ [x] <+: FillsA b s) W' := by
  have h' := h.below hb
  exact fills_seq p A2 c2 b A3 c3 s f (f + 1) W' (cell_of_row _ _ 0 _ _ (0, 0) h'.x2) (cell_of_row _ _ 0 _ _ (0, 0) h'.x3) (Reads.of_own h'.o2) (Reads.of_own h'.o3) (fun i hi => (hp i hi).2)
    (fun _ x hx hx' => by have h1 := (own_blk h.o2 x hx).2; have h2 := (hp _ hx').1; omega) (fun _ x hx hx' => by have h1 := (own_blk h.o3 x hx).2; have h2 := (hp _ hx').1; omega)
theorem FlS.start {W0 W1 : World} {B : Nat} (ha : AskF w lv false W0) (h2 : W0.heap[f]? = some (.cells #[.slice A2 b.length c2] 22 (0, 0))) (h3 : W0.heap[f + 1]? = some (.cells #[.slice A3 s.length c3] 22 (0, 0)))
    (ho2 : W0.ownsRow B 51 2 (.slice A2 b.length c2) b.length (flat b)) (ho3 : W0.ownsRow B 51 2 (.slice A3 s.length c3) s.length (flat s)) (hB : w.heap.size ≤ B) (hb : Below W0.heap.size W0 W1)
    (ho5 : W1.ownsRow W0.heap.size 55 3 (.slice A5 fn c5) fn (flatF (FillsA b s))) :
    FlS w lv f W1.heap.size fn A2 c2 b A3 c3 s A5 c5 (W1.alloc (.cells #[.slice A5 fn c5] 52)) := by
  have hal : Below W1.heap.size W1 (W1.alloc (.cells #[.slice A5 fn c5] 52)) := (Below.refl _ _).alloc (Nat.le_refl _) _
  have hb' := hb.trans (hal.mono hb.size)
  exact ⟨ha.below hb', (hb'.block _ (lt_of_block h2)).trans h2, (hb'.block _ (lt_of_block h3)).trans h3, own_base (own_below ho2 hb' (Nat.le_refl _)) hB, own_base (own_below ho3 hb' (Nat.le_refl _)) hB, heap_alloc_new W1 _, own_base (own_below ho5 hal (Nat.le_refl _)) ha.bel.size⟩
end
/-- What a turn's rounds stand on. -/
structure TurnF (wb : World) (tc kc : Nat) (T : Int) (k : Nat) (W : World) : Prop where
  bel : Below wb.heap.size wb W
  t : W.heap[tc]? = some (.cells #[.int .i64 T] 3 (0, 0))
  k : W.heap[kc]? = some (.cells #[.int .i64 (k : Int)] 3 (0, 0))
  lo : wb.heap.size ≤ tc ∧ wb.heap.size ≤ kc ∧ tc ≠ kc
section
variable {wb W W' : World} {tc kc : Nat} {T : Int} {k : Nat}
theorem TurnF.low (h : TurnF wb tc kc T k W) {S : Nat} (h1 : tc < S) (h2 : kc < S) (hb : Below S W W') : TurnF wb tc kc T k W' :=
  ⟨h.bel.trans (hb.mono (by have := h.lo; omega)), (hb.block _ h1).trans h.t, (hb.block _ h2).trans h.k, h.lo⟩
theorem TurnF.below (h : TurnF wb tc kc T k W) (hb : Below W.heap.size W W') : TurnF wb tc kc T k W' := h.low (lt_of_block h.t) (lt_of_block h.k) hb
theorem TurnF.next (h : TurnF wb tc kc T k W) (k' : Nat) : TurnF wb tc kc T k' (W.setCell ⟨kc, 0, none⟩ (.int .i64 (k' : Int))) :=
  ⟨h.bel.setCell h.lo.2.1 _, (Below.heap_setCell W _ _ _ h.lo.2.2).trans h.t, setCell_block h.k 0 _, h.lo⟩
theorem TurnF.cells (h : TurnF wb tc kc T k W) : W.cell? ⟨tc, 0, none⟩ = some (.int .i64 T) ∧ W.cell? ⟨kc, 0, none⟩ = some (.int .i64 (k : Int)) ∧ W.frozen? ⟨kc, 0, none⟩ = false :=
  ⟨cell_of_row W _ 0 _ _ (0, 0) h.t, cell_of_row W _ 0 _ _ (0, 0) h.k, frozen_of_row W _ 0 _ _ h.k⟩
theorem TurnF.start (wb : World) (T : Int) : TurnF wb wb.heap.size (wb.heap.size + 1) T 0 ((wb.alloc (.cells #[.int .i64 T] 3)).alloc (.cells #[.int .i64 0] 3)) ∧ ((wb.alloc (.cells #[.int .i64 T] 3)).alloc (.cells #[.int .i64 0] 3)).heap.size = wb.heap.size + 2 :=
  ⟨⟨((Below.refl _ _).alloc (Nat.le_refl _) _).alloc (by simp) _, (Below.heap_alloc _ _ _ (by simp)).trans (heap_alloc_new wb _), by
    have := heap_alloc_new (wb.alloc (.cells #[.int .i64 T] 3)) (.cells #[.int .i64 0] 3)
    simpa using this, by omega⟩, by simp⟩
end
def InvF (T lv : Int) (wb : World) (tc : Nat) (pre : List Trd) (W : World) : Prop := (T = 0 → lv ≤ 0 ∨ (pre.length : Int) < lv) ∧ TurnF wb tc (tc + 1) T pre.length W
def StopF (T lv : Int) (wb : World) (tc : Nat) (c' : Code) (pre : List Trd) (W : World) : Prop := (c' = .exit 6 ∧ T = 0 ∧ (pre.length : Int) = lv ∧ 0 < lv) ∧ TurnF wb tc (tc + 1) T pre.length W
theorem preF_at {all pre : List Trd} {d : Trd} (h : pre ++ [d] <+: all) : all[pre.length]? = some d ∧ pre.length < all.length := by
  obtain ⟨r, rfl⟩ := h
  refine ⟨?_, by simp⟩
  rw [List.append_assoc, List.getElem?_append_right (Nat.le_refl _), Nat.sub_self]
  rfl

set_option maxRecDepth 100000 in
set_option maxHeartbeats 16000000 in
theorem fillsLaw_any (A : Option Addr) (c : Nat) (b : List (Int × Int)) (A' : Option Addr) (c' : Nat) (s : List (Int × Int)) (lv : Int) (w : World) (h : Wants w w.heap.size A b) (h' : Wants w w.heap.size A' s) (hbl : b.length * 16 ≤ 140737488351232) (hsl : s.length * 16 ≤ 140737488351232) :
    Calls Try.prog 4 #[.slice A b.length c, .slice A' s.length c', .int .i64 lv] w (ValPost (.bool true) w) := by
  have HW := hide h
  have HW' := hide h'
  have HBL := hide hbl
  have HSL := hide hsl
  have HS1 := hide (AskF.start w lv)
  clear h h' hbl hsl
  refine (callsIn_wide (n := 9)).1 ?_
  refine callsIn_of_wp_marks Try.func4 rfl trivial ?_ rfl
  simp only [Try.ntmps4, List.size_toArray, List.length_cons, List.length_nil, Nat.reduceAdd, Nat.reduceSub, Array.replicate_succ, Array.replicate_zero, List.push_toArray, List.append_toArray, List.nil_append, List.cons_append]
  gi_upto_region 1 with fail
  generalize ((w.alloc (.cells #[.int .i64 lv] 3)).alloc (.cells #[.bool false] 4)) = w1 at *
  have HA1 := hide HS1.out.1
  have HZ1 := hide HS1.out.2
  clear HS1
  obtain ⟨G1, hG1⟩ : ∃ G, muchN b.length = G := ⟨_, rfl⟩
  obtain ⟨G2, hG2⟩ : ∃ G, muchN s.length = G := ⟨_, rfl⟩
  gi_cut [33] from 136 (fun z wx => z = .bool (G1 || G2) ∧ w1 = wx)
  case first =>
    as_aux_lemma =>
      unfold muchN at hG1 hG2
      by_cases p1 : (100 : Int) < (b.length : Int)
      · have e1 : decide ((100 : Int) < (b.length : Int)) = true := decide_eq_true p1
        by_cases p2 : (b.length : Int) ≤ 4096
        · have e2 : decide ((b.length : Int) ≤ 4096) = true := decide_eq_true p2
          rw [e1, e2] at hG1
          subst hG1
          clear hG2
          gi_wp2_with fail
          any_goals (exact absurd ‹some undef = some (Value.bool _)› (by simp [undef]))
          gi_meet
          exact ⟨rfl, rfl⟩
        · have e2 : decide ((b.length : Int) ≤ 4096) = false := decide_eq_false p2
          rw [e1, e2] at hG1
          subst hG1
          by_cases q1 : (100 : Int) < (s.length : Int)
          · have e3 : decide ((100 : Int) < (s.length : Int)) = true := decide_eq_true q1
            rw [e3, Bool.true_and] at hG2
            subst hG2
            gi_wp2_with fail
            gi_meet
            exact ⟨rfl, rfl⟩
          · have e3 : decide ((100 : Int) < (s.length : Int)) = false := decide_eq_false q1
            rw [e3, Bool.false_and] at hG2
            subst hG2
            gi_wp2_with fail
            gi_meet
            exact ⟨rfl, rfl⟩
      · have e1 : decide ((100 : Int) < (b.length : Int)) = false := decide_eq_false p1
        rw [e1, Bool.false_and] at hG1
        subst hG1
        by_cases q1 : (100 : Int) < (s.length : Int)
        · have e3 : decide ((100 : Int) < (s.length : Int)) = true := decide_eq_true q1
          rw [e3, Bool.true_and] at hG2
          subst hG2
          gi_wp2_with fail
          gi_meet
          exact ⟨rfl, rfl⟩
        · have e3 : decide ((100 : Int) < (s.length : Int)) = false := decide_eq_false q1
          rw [e3, Bool.false_and] at hG2
          subst hG2
          gi_wp2_with fail
          gi_meet
          exact ⟨rfl, rfl⟩
  case rest =>
    obtain ⟨rfl, rfl⟩ := hcut
    clear hG1 hG2
    generalize (G1 || G2) = G at *
    cases G
    · gi_wp2_with fail
      refine ⟨trivial, (callsIn_wide.2 (lent_any A c b w1 ((HW.out.below HA1.out.bel).more HA1.out.bel.size) HBL.out)).mono ?_⟩
      rintro e w2 ⟨g1, c1, rfl, hr1, hb2⟩
      simp only
      have HA2 := hide (HA1.out.below hb2)
      have HB2 := hide hb2
      have HR1 := hide hr1
      clear hb2 hr1
      gi_wp2_with fail
      refine ⟨trivial, (callsIn_wide.2 (lent_any A' c' s w2 ((HW'.out.below HA2.out.bel).more HA2.out.bel.size) HSL.out)).mono ?_⟩
      rintro e w3 ⟨g2, c2, rfl, hr2, hb3⟩
      simp only
      have HL3 : Hid (LentF w1 g1 c1 b g2 c2 s w3) := hide ⟨HB2.out.trans (hb3.mono HB2.out.size), own_below HR1.out hb3 (Nat.le_refl _), own_base hr2 HB2.out.size, Nat.lt_of_lt_of_le (HR1.out.lt g1 rfl).2 (hr2.lt g2 rfl).1⟩
      have HA3 := hide (HA2.out.below hb3)
      clear hb3 hr2 HR1 HB2 HA2 HA1
      gi_wp2_with fail
      refine ⟨trivial, (callsIn_wide.2 (fills_any (some ⟨g1, 0, none⟩) c1 b (some ⟨g2, 0, none⟩) c2 s w3 (wants_of_lentF HL3.out.r1).2.1 (wants_of_lentF HL3.out.r2).2.1 HBL.out HSL.out (fun e => by cases e) (fun e => by cases e))).mono ?_⟩
      rintro e w4 ⟨rfl, hb4, A2, c3, A3, c4, hc2, hc3, ho2, ho3⟩
      simp only
      have HL4 := hide (HL3.out.below hb4)
      have HA4 := hide (HA3.out.below hb4)
      obtain ⟨f, hf⟩ : ∃ f, f = w3.heap.size := ⟨_, rfl⟩
      have HGT : Hid (g2 < f) := hide (by rw [hf]; exact (HL3.out.r2.lt g2 rfl).2)
      rw [← hf] at hc2 hc3 ho2 ho3 ⊢
      have HX2 := hide hc2
      have HX3 := hide hc3
      have HO2 := hide ho2
      have HO3 := hide ho3
      have HBF : Hid (w1.heap.size ≤ f) := hide (by rw [hf]; exact HL3.out.bel.size)
      have hfe : ∀ (W : World), (binOp .eql 48 (.func (.func 37) #[] #[.pointer (some ⟨f, 0, none⟩), .pointer (some ⟨f + 1, 0, none⟩)]) .nilFunc).run Try.prog W = .ok (.bool false) W := fun _ => rfl
      clear hb4 hc2 hc3 ho2 ho3 hf HL3 HA3
      gi_wp2_with fail
      refine ⟨trivial, (callsIn_wide.2 (left_any g1 c1 A c b w4 (wants_of_lentF HL4.out.r1).1 ((HW.out.below HA4.out.bel).more HA4.out.bel.size) (wants_of_lentF HL4.out.r1).2.2 HBL.out)).mono ?_⟩
      rintro e w5 ⟨rfl, hb5⟩
      simp only
      have HL5 := hide (HL4.out.below hb5)
      have HA5 := hide (HA4.out.below hb5)
      have HB5 := hide hb5
      clear hb5 HL4 HA4
      gi_wp2_with fail
      refine ⟨trivial, (callsIn_wide.2 (left_any g2 c2 A' c' s w5 (wants_of_lentF HL5.out.r2).1 ((HW'.out.below HA5.out.bel).more HA5.out.bel.size) (wants_of_lentF HL5.out.r2).2.2 HSL.out)).mono ?_⟩
      rintro e w6 ⟨rfl, hb6⟩
      simp only
      have HL6 := hide (HL5.out.below hb6)
      have HA6 := hide (HA5.out.below hb6)
      have HB6 := hide (HB5.out.trans (hb6.mono HB5.out.size))
      have HX26 := hide ((HB6.out.block _ (lt_of_block HX2.out)).trans HX2.out)
      have HX36 := hide ((HB6.out.block _ (lt_of_block HX3.out)).trans HX3.out)
      have HO26 := hide (own_below HO2.out HB6.out (Nat.le_refl _))
      have HO36 := hide (own_below HO3.out HB6.out (Nat.le_refl _))
      have HP6 : Hid (WipF w1.heap.size f w6 g1 c1 b.length g2 c2 s.length w6) := hide ⟨Turns.refl _ _, ⟨_, HL6.out.r1⟩, ⟨_, HL6.out.r2⟩, HL6.out.lt, HGT.out⟩
      clear hb6 HL5 HA5 HB5 HB6 HX2 HX3 HO2 HO3 HL6 HGT hfe
      gi_wp2_with fail
      gi_loopw [10] (fun iv W => ∃ k : Nat, k ≤ b.length ∧ iv = .int .i64 k ∧ WipF w1.heap.size f w6 g1 c1 b.length g2 c2 s.length W) (fun iv _ => b.length - (intOf iv).toNat)
      case atStart => exact ⟨0, Nat.zero_le _, rfl, HP6.out⟩
      case round =>
        rename World => wr
        clear HP6
        obtain ⟨k, hk, rfl, hwp⟩ := hrel
        have HWP := hide hwp
        clear hwp
        by_cases hlt : k < b.length
        · obtain ⟨u, v, z0, z1, z2, z3⟩ := HWP.out.row1 hlt
          have hki : (k : Int) < (b.length : Int) := by omega
          have HS1 := hide (HWP.out.set1 (k * 2) (.int .i64 9))
          have HS2 := hide (HS1.out.set1 (k * 2 + 1) (.int .i64 9))
          have hk1 : IntKind.i64.wrap ((k : Int) + 1) = ((k + 1 : Nat) : Int) := by rw [Go.IntWalk.i64_in _ (by have := HBL.out; omega)]; omega
          gi_wp2_with fail
          go_roundw
          case rel => exact ⟨k + 1, by omega, by first | go_num | exact congrArg (Value.int .i64) hk1, HS2.out⟩
          case measure => first | exact meas_i hlt hk1 | exact meas_i hlt (by omega)
        · obtain rfl : k = b.length := by omega
          gi_wp2_with fail
          gi_loopw [11] (fun iv W => ∃ k : Nat, k ≤ s.length ∧ iv = .int .i64 k ∧ WipF w1.heap.size f w6 g1 c1 b.length g2 c2 s.length W) (fun iv _ => s.length - (intOf iv).toNat)
          case atStart => exact ⟨0, Nat.zero_le _, rfl, HWP.out⟩
          case round =>
            clear HWP
            rename World => wr
            obtain ⟨k, hk, rfl, hwp⟩ := hrel
            have HWP := hide hwp
            clear hwp
            by_cases hlt : k < s.length
            · obtain ⟨u, v, z0, z1, z2, z3⟩ := HWP.out.row2 hlt
              have hki : (k : Int) < (s.length : Int) := by omega
              have HS1 := hide (HWP.out.set2 (k * 2) (.int .i64 0))
              have HS2 := hide (HS1.out.set2 (k * 2 + 1) (.int .i64 0))
              have hk1 : IntKind.i64.wrap ((k : Int) + 1) = ((k + 1 : Nat) : Int) := by rw [Go.IntWalk.i64_in _ (by have := HSL.out; omega)]; omega
              gi_wp2_with fail
              go_roundw
              case rel => exact ⟨k + 1, by omega, by first | go_num | exact congrArg (Value.int .i64) hk1, HS2.out⟩
              case measure => first | exact meas_i hlt hk1 | exact meas_i hlt (by omega)
            · obtain rfl : k = s.length := by omega
              have HAr : Hid (AskF w lv false wr) := hide (HA6.out.turns HWP.out.t (fun k hk hp => by have := HZ1.out; omega))
              have HX2r := hide ((HWP.out.t.block _ (lt_of_block HX26.out) (fun hp => by omega)).trans HX26.out)
              have HX3r := hide ((HWP.out.t.block _ (lt_of_block HX36.out) (fun hp => by omega)).trans HX36.out)
              have HO2r := hide (HWP.out.t.own HO26.out (fun k e hp => by have := (HO26.out.lt k e).1; omega))
              have HO3r := hide (HWP.out.t.own HO36.out (fun k e hp => by have := (HO36.out.lt k e).1; omega))
              have HFB : Hid (w.heap.size ≤ f + 2) := hide (by have := HBF.out; have := HZ1.out; omega)
              clear HA6 HX26 HX36 HO26 HO36 HWP HBF
              gi_wp2_with fail
              refine ⟨trivial, (callsIn_wide.2 (reffills_any A c b A' c' s wr ((HW.out.below HAr.out.bel).more HAr.out.bel.size) ((HW'.out.below HAr.out.bel).more HAr.out.bel.size))).mono ?_⟩
              rintro e w7 ⟨A5, c5, rfl, ho5, hb7⟩
              simp only
              have HFN := hide (fills_few (b := b) (s := s))
              obtain ⟨fn, hfn⟩ : ∃ fn, fn = (FillsA b s).length := ⟨_, rfl⟩
              rw [← hfn] at ho5 HFN ⊢
              have HFE := hide hfn
              have HFL : Hid (FlS w lv f w7.heap.size fn A2 c3 b A3 c4 s A5 c5 (w7.alloc (.cells #[.slice A5 fn c5] 52))) := hide (FlS.start HAr.out HX2r.out HX3r.out HO2r.out HO3r.out HFB.out hb7 ho5)
              have HLT : Hid (∀ W, (binOp .eql 48 .nilFunc .nilFunc).run Try.prog W = .ok (.bool true) W) := hide (fun _ => rfl)
              clear hb7 ho5 hfn HAr HX2r HX3r HO2r HO3r HFB HW HW' HBL HSL HZ1 HLT
              gi_upto_region 16 with fail
              obtain ⟨q, hq⟩ : ∃ q, q = w7.heap.size := ⟨_, rfl⟩
              generalize w7.alloc (.cells #[.slice A5 fn c5] 52) = w8 at *
              rw [← hq] at HFL ⊢
              clear hq
              gi_wp2_with fail
              have HT0 := hide (TurnF.start w8 0)
              refine wpIn_loop_rounds 3 ?_
              rw [roundsIn_succ]
              gi_wp2_with fail
              generalize (w8.alloc (.cells #[.int .i64 0] 3)).alloc (.cells #[.int .i64 0] 3) = ws0 at *
              have HA8 : Hid (w.heap.size + 1 < w8.heap.size) := hide HFL.out.ask.lt
              obtain ⟨tc, htc⟩ : ∃ tc, tc = w8.heap.size := ⟨_, rfl⟩
              have HZT : Hid (ws0.heap.size = tc + 2) := hide (by rw [htc]; exact HT0.out.2)
              have HTI := hide HT0.out.1
              have HTC := hide htc
              rw [← htc] at HTI ⊢
              clear htc HT0
              refine wpIn_rangeSeqL (α := Trd) (encs := encF) (E := fun pre x _ => pre ++ [x] <+: FillsA b s) (S := fun xs => xs = FillsA b s) (Sp := fun pre => pre <+: FillsA b s) (gf := 37) (lb := #[.pointer (some ⟨f, 0, none⟩), .pointer (some ⟨f + 1, 0, none⟩)]) rfl (enters_of Try.func37 (by kernel_rfl) rfl) (fun i => i = tc + 1) (fun _ _ => False)
                (fun h => by have := HZT.out; omega) (fun h => by have := HZT.out; omega) (fun _ _ _ _ _ h => h.elim)
                (fun W hb hz => HFL.out.seq (HTI.out.bel.trans (hb.mono HTI.out.bel.size)) (fun i hi => by have := HZT.out; have := HTC.out; rcases hi with hi | hi <;> omega))
                (fun _ => rfl)
                (InvF 0 lv w8 tc) (StopF 0 lv w8 tc)
                (fun s X Y hs' hb' => ⟨hs'.1, hs'.2.low (by have := HZT.out; omega) (by have := HZT.out; omega) hb'⟩) (fun c' s X Y hs' hb' => ⟨hs'.1, hs'.2.low (by have := HZT.out; omega) (by have := HZT.out; omega) hb'⟩) ⟨fun _ => by simp only [List.length_nil]; omega, HTI.out⟩
                ?a1_350 (fun x W => W.alloc (.cells #[.int .i64 x.1.1, .int .i64 x.2.1.1, .int .i64 x.2.2] 55)) (fun x W => (Below.refl _ _).alloc (Nat.le_refl _) _) 7 ?assign_350 ?body_350 ?done_350 ?stop_350
              case assign_350 =>
                rintro l' pre x W K he hK
                clear he
                simp only [encF]
                gi_wp2
                exact hK
              case body_350 =>
                rintro l' pre x W0 Wr ⟨hlv, hti⟩ hE hsz hsz2 hsame
                obtain ⟨k, hk⟩ : ∃ k, k = pre.length := ⟨_, rfl⟩
                rw [← hk] at hlv hti
                have HK := hide hk
                have hpk := preF_at hE
                rw [← hk] at hpk
                have hfill : Wr.heap[W0.heap.size]? = some (.cells #[.int .i64 x.1.1, .int .i64 x.2.1.1, .int .i64 x.2.2] 55 (0, 0)) := (hsame _ (by omega)).trans (heap_alloc_new W0 _)
                have hkn : k < fn := by rw [HFE.out]; exact hpk.2
                obtain ⟨⟨x0, x1⟩, ⟨y0, y1⟩, m⟩ := x
                simp only at hfill
                have hFr := HFL.out.below hti.bel
                obtain ⟨z0, z1, z2⟩ := flatF_at _ _ _ hpk.1
                have ho5 := hFr.o5
                have hxq := hFr.xq
                obtain ⟨g5, cg5, hv5⟩ := own_form' ho5 (by omega)
                injection hv5 with hA5 hB5 hC5
                rw [hA5, hC5] at ho5 hxq
                have m0 := (ho5.cellAt (k * 3) (by omega)).trans z0
                have m1 := (ho5.cellAt (k * 3 + 1) (by omega)).trans z1
                have m2 := (ho5.cellAt (k * 3 + 2) (by omega)).trans z2
                have u0 := cell_of_row _ _ 0 _ _ (0, 0) hfill
                have u1 := cell_of_row _ _ 1 _ _ (0, 0) hfill
                have u2 := cell_of_row _ _ 2 _ _ (0, 0) hfill
                have y5 := cell_of_row _ _ 0 _ _ (0, 0) hxq
                simp only [List.getElem?_toArray, List.getElem?_cons_zero, List.getElem?_cons_succ] at u0 u1 u2 y5 m0 m1 m2
                obtain ⟨t0, t1, t2⟩ := hti.cells
                obtain ⟨a0, _, _⟩ := hFr.ask.cells
                have hge : decide ((fn : Int) ≤ (k : Int)) = false := decide_eq_false (by omega)
                have hki : (k : Int) < (fn : Int) := by omega
                have hne := ne_fill x0 y0 m
                have hwk : IntKind.i64.wrap ((k : Int) + 1) = (k : Int) + 1 := Go.IntWalk.i64_in _ (by have := HFN.out; omega)
                have HT5 : Hid (TurnF w8 tc (tc + 1) 0 k Wr.drew) := hide (hti.below (below_drewN (Below.refl _ _) 1))
                have HX5 : Hid (OutP (fun i => i = tc + 1) Wr Wr.drew) := hide (OutP.of_below (below_drewN (Below.refl _ _) 1))
                have HA5 : Hid (AskF w lv false Wr.drew) := hide (hFr.ask.below (below_drewN (Below.refl _ _) 1))
                have HLV := hide hlv
                have HLN : Hid ((pre ++ [((x0, x1), (y0, y1), m)]).length = k + 1) := hide (by rw [List.length_append, ← HK.out]; rfl)
                have hmx : Try.prog.follows .mixedOrders = true := by kernel_rfl
                clear hk hti hsame hsz hsz2 hE hpk hFr ho5 hxq hA5 hB5 hC5 hlv hfill z0 z1 z2 t2 hkn
                gi_upto_region 22 with fail
                refine wpIn_region_U 12 (fun X => X = Wr.drew) hmx (by kernel_rfl) rfl (fun hHeld => ?_)
                refine AnyU.take (i := 0) (v := ?v351) rfl (by kernel_rfl) (by kernel_rfl) (by kernel_rfl) (by kernel_rfl) (fun _ _ _ h => h) (Or.inl ⟨by rfl, ?hy351⟩) hHeld ?r351
                case hy351 => (intro w hSw; (try dsimp only at hSw); subst hSw; go_simp <;> with_reducible rfl)
                simp only [Act.put, List.setIfInBounds_toArray, List.set_cons_zero, List.set_cons_succ]
                refine AnyU.take (i := 1) (v := ?v352) rfl (by kernel_rfl) (by kernel_rfl) (by kernel_rfl) (by kernel_rfl) (fun _ _ _ h => h) (Or.inl ⟨by rfl, ?hy352⟩) hHeld ?r352
                case hy352 => (intro w hSw; (try dsimp only at hSw); subst hSw; go_simp <;> with_reducible rfl)
                simp only [Act.put, List.setIfInBounds_toArray, List.set_cons_zero, List.set_cons_succ]
                refine AnyU.take (i := 2) (v := ?v353) rfl (by kernel_rfl) (by kernel_rfl) (by kernel_rfl) (by kernel_rfl) (fun _ _ _ h => h) (Or.inl ⟨by rfl, ?hy353⟩) hHeld ?r353
                case hy353 => (intro w hSw; (try dsimp only at hSw); subst hSw; go_simp <;> with_reducible rfl)
                simp only [Act.put, List.setIfInBounds_toArray, List.set_cons_zero, List.set_cons_succ]
                refine AnyU.take (i := 3) (v := .bool false) rfl (by kernel_rfl) (by kernel_rfl) (by kernel_rfl) (by kernel_rfl) (fun _ _ _ h => h) (Or.inl ⟨by rfl, ?hy354⟩) hHeld ?r354
                case hy354 => (intro w hSw; (try dsimp only at hSw); subst hSw; go_simp <;> first | with_reducible rfl | exact hge | omega)
                simp only [Act.put, List.setIfInBounds_toArray, List.set_cons_zero, List.set_cons_succ]
                refine AnyU.take (i := 4) (v := ?v355) rfl (by kernel_rfl) (by kernel_rfl) (by kernel_rfl) (by kernel_rfl) (fun _ _ _ h => h) (Or.inl ⟨by rfl, ?hy355⟩) hHeld ?r355
                case hy355 => (intro w hSw; (try dsimp only at hSw); subst hSw; go_simp <;> with_reducible rfl)
                simp only [Act.put, List.setIfInBounds_toArray, List.set_cons_zero, List.set_cons_succ]
                refine AnyU.take (i := 5) (v := ?v356) rfl (by kernel_rfl) (by kernel_rfl) (by kernel_rfl) (by kernel_rfl) (fun _ _ _ h => h) (Or.inl ⟨by rfl, ?hy356⟩) hHeld ?r356
                case hy356 => (intro w hSw; (try dsimp only at hSw); subst hSw; go_simp <;> with_reducible rfl)
                simp only [Act.put, List.setIfInBounds_toArray, List.set_cons_zero, List.set_cons_succ]
                refine AnyU.take (i := 6) (v := ?v357) rfl (by kernel_rfl) (by kernel_rfl) (by kernel_rfl) (by kernel_rfl) (fun _ _ _ h => h) (Or.inl ⟨by rfl, ?hy357⟩) hHeld ?r357
                case hy357 => (intro w hSw; (try dsimp only at hSw); subst hSw; go_simp <;> with_reducible rfl)
                simp only [Act.put, List.setIfInBounds_toArray, List.set_cons_zero, List.set_cons_succ]
                refine AnyU.take (i := 7) (v := ?v358) rfl (by kernel_rfl) (by kernel_rfl) (by kernel_rfl) (by kernel_rfl) (fun _ _ _ h => h) (Or.inl ⟨by rfl, ?hy358⟩) hHeld ?r358
                case hy358 => (intro w hSw; (try dsimp only at hSw); subst hSw; go_simp <;> with_reducible rfl)
                simp only [Act.put, List.setIfInBounds_toArray, List.set_cons_zero, List.set_cons_succ]
                refine AnyU.take (i := 8) (v := ?v359) rfl (by kernel_rfl) (by kernel_rfl) (by kernel_rfl) (by kernel_rfl) (fun _ _ _ h => h) (Or.inl ⟨by rfl, ?hy359⟩) hHeld ?r359
                case hy359 => (intro w hSw; (try dsimp only at hSw); subst hSw; go_simp <;> with_reducible rfl)
                simp only [Act.put, List.setIfInBounds_toArray, List.set_cons_zero, List.set_cons_succ]
                refine AnyU.take (i := 9) (v := ?v360) rfl (by kernel_rfl) (by kernel_rfl) (by kernel_rfl) (by kernel_rfl) (fun _ _ _ h => h) (Or.inl ⟨by rfl, ?hy360⟩) hHeld ?r360
                case hy360 => (intro w hSw; (try dsimp only at hSw); subst hSw; go_simp <;> with_reducible rfl)
                simp only [Act.put, List.setIfInBounds_toArray, List.set_cons_zero, List.set_cons_succ]
                refine AnyU.take (i := 10) (v := ?v361) rfl (by kernel_rfl) (by kernel_rfl) (by kernel_rfl) (by kernel_rfl) (fun _ _ _ h => h) (Or.inl ⟨by rfl, ?hy361⟩) hHeld ?r361
                case hy361 => (intro w hSw; (try dsimp only at hSw); subst hSw; go_simp <;> with_reducible rfl)
                simp only [Act.put, List.setIfInBounds_toArray, List.set_cons_zero, List.set_cons_succ]
                refine AnyU.take (i := 11) (v := ?v362) rfl (by kernel_rfl) (by kernel_rfl) (by kernel_rfl) (by kernel_rfl) (fun _ _ _ h => h) (Or.inl ⟨by rfl, ?hy362⟩) hHeld ?r362
                case hy362 => (intro w hSw; (try dsimp only at hSw); subst hSw; go_simp <;> with_reducible rfl)
                simp only [Act.put, List.setIfInBounds_toArray, List.set_cons_zero, List.set_cons_succ]
                clear hHeld
                refine AnyU.over (by kernel_rfl) ?_ _
                refine noOut_normal ?_
                generalize Wr.drew = Wd at *
                clear t0 t1 a0 m0 m1 m2 u0 u1 u2 y5 hge hki hne hmx
                obtain ⟨t0, t1, t2⟩ := HT5.out.cells
                have HT6 := hide (HT5.out.next (k + 1))
                have HX6 := hide (HX5.out.set ⟨tc + 1, 0, none⟩ rfl (.int .i64 ((k + 1 : Nat) : Int)))
                have hkk : ((k + 1 : Nat) : Int) = (k : Int) + 1 := by omega
                have HA6 := hide (HA5.out.turns (Turns.of_set Wd ⟨tc + 1, 0, none⟩ (.int .i64 ((k + 1 : Nat) : Int))) (fun j hj e => by
                  have h1 := HFL.out.ask.lt
                  have h2 := HTC.out
                  have e1 : j = tc + 1 := e
                  omega))
                rw [hkk] at HT6 HX6 HA6
                obtain ⟨r0, r1, _⟩ := HT6.out.cells
                obtain ⟨a0, _, _⟩ := HA6.out.cells
                rw [hkk] at r1
                clear hkk
                by_cases hkl : (k : Int) + 1 = lv
                · have elv : ((k : Int) + 1 == lv) = true := by rw [beq_iff_eq]; exact hkl
                  have HKL := hide hkl
                  clear hkl
                  gi_wp2_with fail
                  refine ⟨by first | exact HX6.out | exact HX6.out.mono (fun _ h => .inl h), ⟨rfl, rfl, ?_, ?_⟩, ?_⟩
                  · rw [HLN.out]; have := HKL.out; omega
                  · have := HKL.out; omega
                  · rw [HLN.out]; exact HT6.out
                · have elv : ((k : Int) + 1 == lv) = false := by rw [beq_eq_false_iff_ne]; exact hkl
                  have HKL := hide hkl
                  clear hkl
                  gi_wp2_with fail
                  refine ⟨by first | exact HX6.out | exact HX6.out.mono (fun _ h => .inl h), fun _ => ?_, ?_⟩
                  · rw [HLN.out]; have := HKL.out; have := HLV.out (by first | rfl | trivial); omega
                  · rw [HLN.out]; exact HT6.out
              case done_350 =>
                rintro D0 xs WT0 hD hS ⟨hlv, hti⟩ hK
                have hxl : xs.length = fn := by rw [hS, ← HFE.out]
                rw [hxl] at hlv hti
                have hFW := HFL.out.below hti.bel
                have HKD0 := hide hK
                have HTW0 := hide hti.bel
                have HDW0 : Hid (w8.heap.size ≤ D0) := hide (by have := HZT.out; have := HTC.out; omega)
                obtain ⟨t0, t1, _⟩ := hti.cells
                obtain ⟨a0, _, _⟩ := hFW.ask.cells
                have y5 := cell_of_row _ _ 0 _ _ (0, 0) hFW.xq
                simp only [List.getElem?_toArray, List.getElem?_cons_zero] at y5
                have HF0 := hide hFW
                clear hFW hti hK hD
                gi_upto_region 26 with fail
                gi_cut [133] from 136 (fun z wx => z = .bool false ∧ WT0 = wx)
                case first =>
                  as_aux_lemma =>
                    by_cases h0 : 0 < lv
                    · have hlf : (fn : Int) < lv := by have := hlv (by first | rfl | trivial); omega
                      have e1 : decide ((0 : Int) < lv) = true := decide_eq_true h0
                      have e6 : min lv (fn : Int) = (fn : Int) := Int.min_eq_right (by omega)
                      clear hlv hlf h0
                      gi_wp2_with fail
                      all_goals (
                        gi_meet
                        exact ⟨rfl, rfl⟩)
                    · have e1 : decide ((0 : Int) < lv) = false := decide_eq_false h0
                      have e2 : decide (lv ≤ (0 : Int)) = true := decide_eq_true (by omega)
                      clear hlv h0
                      gi_wp2_with fail
                      all_goals (
                        gi_meet
                        exact ⟨rfl, rfl⟩)
                case rest =>
                  obtain ⟨rfl, rfl⟩ := hcut
                  gi_wp2_with fail
                  rw [roundsIn_succ]
                  have HT1 := hide (TurnF.start WT0 1)
                  clear y5 t0 t1 a0 HZT HTI HTC
                  gi_wp2_with fail
                  generalize (WT0.alloc (.cells #[.int .i64 1] 3)).alloc (.cells #[.int .i64 0] 3) = ws1 at *
                  replace HFL := HF0
                  clear HF0
                  obtain ⟨tc, htc⟩ : ∃ tc, tc = WT0.heap.size := ⟨_, rfl⟩
                  have HZT : Hid (ws1.heap.size = tc + 2) := hide (by rw [htc]; exact HT1.out.2)
                  have HTI := hide HT1.out.1
                  have HTC := hide htc
                  rw [← htc] at HTI ⊢
                  clear htc HT1
                  refine wpIn_rangeSeqL (α := Trd) (encs := encF) (E := fun pre x _ => pre ++ [x] <+: FillsA b s) (S := fun xs => xs = FillsA b s) (Sp := fun pre => pre <+: FillsA b s) (gf := 37) (lb := #[.pointer (some ⟨f, 0, none⟩), .pointer (some ⟨f + 1, 0, none⟩)]) rfl (enters_of Try.func37 (by kernel_rfl) rfl) (fun i => i = tc + 1) (fun _ _ => False)
                    (fun h => by have := HZT.out; omega) (fun h => by have := HZT.out; omega) (fun _ _ _ _ _ h => h.elim)
                    (fun W hb hz => HFL.out.seq (HTI.out.bel.trans (hb.mono HTI.out.bel.size)) (fun i hi => by have := HZT.out; have := HTC.out; rcases hi with hi | hi <;> omega))
                    (fun _ => rfl)
                    (InvF 1 lv WT0 tc) (StopF 1 lv WT0 tc)
                    (fun s X Y hs' hb' => ⟨hs'.1, hs'.2.low (by have := HZT.out; omega) (by have := HZT.out; omega) hb'⟩) (fun c' s X Y hs' hb' => ⟨hs'.1, hs'.2.low (by have := HZT.out; omega) (by have := HZT.out; omega) hb'⟩) ⟨fun _ => by simp only [List.length_nil]; omega, HTI.out⟩
                    ?a1_400 (fun x W => W.alloc (.cells #[.int .i64 x.1.1, .int .i64 x.2.1.1, .int .i64 x.2.2] 55)) (fun x W => (Below.refl _ _).alloc (Nat.le_refl _) _) 7 ?assign_400 ?body_400 ?done_400 ?stop_400
                  case assign_400 =>
                    rintro l' pre x W K he hK
                    clear he
                    simp only [encF]
                    gi_wp2
                    exact hK
                  case body_400 =>
                    rintro l' pre x W0 Wr ⟨hlv, hti⟩ hE hsz hsz2 hsame
                    obtain ⟨k, hk⟩ : ∃ k, k = pre.length := ⟨_, rfl⟩
                    rw [← hk] at hlv hti
                    have HK := hide hk
                    have hpk := preF_at hE
                    rw [← hk] at hpk
                    have hfill : Wr.heap[W0.heap.size]? = some (.cells #[.int .i64 x.1.1, .int .i64 x.2.1.1, .int .i64 x.2.2] 55 (0, 0)) := (hsame _ (by omega)).trans (heap_alloc_new W0 _)
                    have hkn : k < fn := by rw [HFE.out]; exact hpk.2
                    obtain ⟨⟨x0, x1⟩, ⟨y0, y1⟩, m⟩ := x
                    simp only at hfill
                    have hFr := HFL.out.below hti.bel
                    obtain ⟨z0, z1, z2⟩ := flatF_at _ _ _ hpk.1
                    have ho5 := hFr.o5
                    have hxq := hFr.xq
                    obtain ⟨g5, cg5, hv5⟩ := own_form' ho5 (by omega)
                    injection hv5 with hA5 hB5 hC5
                    rw [hA5, hC5] at ho5 hxq
                    have m0 := (ho5.cellAt (k * 3) (by omega)).trans z0
                    have m1 := (ho5.cellAt (k * 3 + 1) (by omega)).trans z1
                    have m2 := (ho5.cellAt (k * 3 + 2) (by omega)).trans z2
                    have u0 := cell_of_row _ _ 0 _ _ (0, 0) hfill
                    have u1 := cell_of_row _ _ 1 _ _ (0, 0) hfill
                    have u2 := cell_of_row _ _ 2 _ _ (0, 0) hfill
                    have y5 := cell_of_row _ _ 0 _ _ (0, 0) hxq
                    simp only [List.getElem?_toArray, List.getElem?_cons_zero, List.getElem?_cons_succ] at u0 u1 u2 y5 m0 m1 m2
                    obtain ⟨t0, t1, t2⟩ := hti.cells
                    obtain ⟨a0, _, _⟩ := hFr.ask.cells
                    have hge : decide ((fn : Int) ≤ (k : Int)) = false := decide_eq_false (by omega)
                    have hki : (k : Int) < (fn : Int) := by omega
                    have hne := ne_fill x0 y0 m
                    have hwk : IntKind.i64.wrap ((k : Int) + 1) = (k : Int) + 1 := Go.IntWalk.i64_in _ (by have := HFN.out; omega)
                    have HT5 : Hid (TurnF WT0 tc (tc + 1) 1 k Wr.drew) := hide (hti.below (below_drewN (Below.refl _ _) 1))
                    have HX5 : Hid (OutP (fun i => i = tc + 1) Wr Wr.drew) := hide (OutP.of_below (below_drewN (Below.refl _ _) 1))
                    have HA5 : Hid (AskF w lv false Wr.drew) := hide (hFr.ask.below (below_drewN (Below.refl _ _) 1))
                    have HLV := hide hlv
                    have HLN : Hid ((pre ++ [((x0, x1), (y0, y1), m)]).length = k + 1) := hide (by rw [List.length_append, ← HK.out]; rfl)
                    have hmx : Try.prog.follows .mixedOrders = true := by kernel_rfl
                    clear hk hti hsame hsz hsz2 hE hpk hFr ho5 hxq hA5 hB5 hC5 hlv hfill z0 z1 z2 t2 hkn
                    gi_upto_region 22 with fail
                    refine wpIn_region_U 12 (fun X => X = Wr.drew) hmx (by kernel_rfl) rfl (fun hHeld => ?_)
                    refine AnyU.take (i := 0) (v := ?v401) rfl (by kernel_rfl) (by kernel_rfl) (by kernel_rfl) (by kernel_rfl) (fun _ _ _ h => h) (Or.inl ⟨by rfl, ?hy401⟩) hHeld ?r401
                    case hy401 => (intro w hSw; (try dsimp only at hSw); subst hSw; go_simp <;> with_reducible rfl)
                    simp only [Act.put, List.setIfInBounds_toArray, List.set_cons_zero, List.set_cons_succ]
                    refine AnyU.take (i := 1) (v := ?v402) rfl (by kernel_rfl) (by kernel_rfl) (by kernel_rfl) (by kernel_rfl) (fun _ _ _ h => h) (Or.inl ⟨by rfl, ?hy402⟩) hHeld ?r402
                    case hy402 => (intro w hSw; (try dsimp only at hSw); subst hSw; go_simp <;> with_reducible rfl)
                    simp only [Act.put, List.setIfInBounds_toArray, List.set_cons_zero, List.set_cons_succ]
                    refine AnyU.take (i := 2) (v := ?v403) rfl (by kernel_rfl) (by kernel_rfl) (by kernel_rfl) (by kernel_rfl) (fun _ _ _ h => h) (Or.inl ⟨by rfl, ?hy403⟩) hHeld ?r403
                    case hy403 => (intro w hSw; (try dsimp only at hSw); subst hSw; go_simp <;> with_reducible rfl)
                    simp only [Act.put, List.setIfInBounds_toArray, List.set_cons_zero, List.set_cons_succ]
                    refine AnyU.take (i := 3) (v := .bool false) rfl (by kernel_rfl) (by kernel_rfl) (by kernel_rfl) (by kernel_rfl) (fun _ _ _ h => h) (Or.inl ⟨by rfl, ?hy404⟩) hHeld ?r404
                    case hy404 => (intro w hSw; (try dsimp only at hSw); subst hSw; go_simp <;> first | with_reducible rfl | exact hge | omega)
                    simp only [Act.put, List.setIfInBounds_toArray, List.set_cons_zero, List.set_cons_succ]
                    refine AnyU.take (i := 4) (v := ?v405) rfl (by kernel_rfl) (by kernel_rfl) (by kernel_rfl) (by kernel_rfl) (fun _ _ _ h => h) (Or.inl ⟨by rfl, ?hy405⟩) hHeld ?r405
                    case hy405 => (intro w hSw; (try dsimp only at hSw); subst hSw; go_simp <;> with_reducible rfl)
                    simp only [Act.put, List.setIfInBounds_toArray, List.set_cons_zero, List.set_cons_succ]
                    refine AnyU.take (i := 5) (v := ?v406) rfl (by kernel_rfl) (by kernel_rfl) (by kernel_rfl) (by kernel_rfl) (fun _ _ _ h => h) (Or.inl ⟨by rfl, ?hy406⟩) hHeld ?r406
                    case hy406 => (intro w hSw; (try dsimp only at hSw); subst hSw; go_simp <;> with_reducible rfl)
                    simp only [Act.put, List.setIfInBounds_toArray, List.set_cons_zero, List.set_cons_succ]
                    refine AnyU.take (i := 6) (v := ?v407) rfl (by kernel_rfl) (by kernel_rfl) (by kernel_rfl) (by kernel_rfl) (fun _ _ _ h => h) (Or.inl ⟨by rfl, ?hy407⟩) hHeld ?r407
                    case hy407 => (intro w hSw; (try dsimp only at hSw); subst hSw; go_simp <;> with_reducible rfl)
                    simp only [Act.put, List.setIfInBounds_toArray, List.set_cons_zero, List.set_cons_succ]
                    refine AnyU.take (i := 7) (v := ?v408) rfl (by kernel_rfl) (by kernel_rfl) (by kernel_rfl) (by kernel_rfl) (fun _ _ _ h => h) (Or.inl ⟨by rfl, ?hy408⟩) hHeld ?r408
                    case hy408 => (intro w hSw; (try dsimp only at hSw); subst hSw; go_simp <;> with_reducible rfl)
                    simp only [Act.put, List.setIfInBounds_toArray, List.set_cons_zero, List.set_cons_succ]
                    refine AnyU.take (i := 8) (v := ?v409) rfl (by kernel_rfl) (by kernel_rfl) (by kernel_rfl) (by kernel_rfl) (fun _ _ _ h => h) (Or.inl ⟨by rfl, ?hy409⟩) hHeld ?r409
                    case hy409 => (intro w hSw; (try dsimp only at hSw); subst hSw; go_simp <;> with_reducible rfl)
                    simp only [Act.put, List.setIfInBounds_toArray, List.set_cons_zero, List.set_cons_succ]
                    refine AnyU.take (i := 9) (v := ?v410) rfl (by kernel_rfl) (by kernel_rfl) (by kernel_rfl) (by kernel_rfl) (fun _ _ _ h => h) (Or.inl ⟨by rfl, ?hy410⟩) hHeld ?r410
                    case hy410 => (intro w hSw; (try dsimp only at hSw); subst hSw; go_simp <;> with_reducible rfl)
                    simp only [Act.put, List.setIfInBounds_toArray, List.set_cons_zero, List.set_cons_succ]
                    refine AnyU.take (i := 10) (v := ?v411) rfl (by kernel_rfl) (by kernel_rfl) (by kernel_rfl) (by kernel_rfl) (fun _ _ _ h => h) (Or.inl ⟨by rfl, ?hy411⟩) hHeld ?r411
                    case hy411 => (intro w hSw; (try dsimp only at hSw); subst hSw; go_simp <;> with_reducible rfl)
                    simp only [Act.put, List.setIfInBounds_toArray, List.set_cons_zero, List.set_cons_succ]
                    refine AnyU.take (i := 11) (v := ?v412) rfl (by kernel_rfl) (by kernel_rfl) (by kernel_rfl) (by kernel_rfl) (fun _ _ _ h => h) (Or.inl ⟨by rfl, ?hy412⟩) hHeld ?r412
                    case hy412 => (intro w hSw; (try dsimp only at hSw); subst hSw; go_simp <;> with_reducible rfl)
                    simp only [Act.put, List.setIfInBounds_toArray, List.set_cons_zero, List.set_cons_succ]
                    clear hHeld
                    refine AnyU.over (by kernel_rfl) ?_ _
                    refine noOut_normal ?_
                    generalize Wr.drew = Wd at *
                    clear t0 t1 a0 m0 m1 m2 u0 u1 u2 y5 hge hki hne hmx
                    obtain ⟨t0, t1, t2⟩ := HT5.out.cells
                    have HT6 := hide (HT5.out.next (k + 1))
                    have HX6 := hide (HX5.out.set ⟨tc + 1, 0, none⟩ rfl (.int .i64 ((k + 1 : Nat) : Int)))
                    have hkk : ((k + 1 : Nat) : Int) = (k : Int) + 1 := by omega
                    have HA6 := hide (HA5.out.turns (Turns.of_set Wd ⟨tc + 1, 0, none⟩ (.int .i64 ((k + 1 : Nat) : Int))) (fun j hj e => by
                      have h1 := HFL.out.ask.lt
                      have h2 := HTC.out
                      have e1 : j = tc + 1 := e
                      omega))
                    rw [hkk] at HT6 HX6 HA6
                    obtain ⟨r0, r1, _⟩ := HT6.out.cells
                    obtain ⟨a0, _, _⟩ := HA6.out.cells
                    rw [hkk] at r1
                    clear hkk
                    gi_wp2_with fail
                    refine ⟨by first | exact HX6.out | exact HX6.out.mono (fun _ h => .inl h), fun h => absurd h (by decide), ?_⟩
                    rw [HLN.out]
                    exact HT6.out
                  case done_400 =>
                    rintro D1 xs WT1 hD hS ⟨hlv, hti⟩ hK
                    have hxl : xs.length = fn := by rw [hS, ← HFE.out]
                    rw [hxl] at hlv hti
                    have HF1 := hide (HFL.out.below hti.bel)
                    have HKD1 := hide hK
                    have HTW1 := hide hti.bel
                    have HDW1 : Hid (WT0.heap.size ≤ D1) := hide (by have := HZT.out; have := HTC.out; omega)
                    obtain ⟨t0, t1, _⟩ := hti.cells
                    obtain ⟨a0, _, _⟩ := HF1.out.ask.cells
                    have y5 := cell_of_row _ _ 0 _ _ (0, 0) HF1.out.xq
                    simp only [List.getElem?_toArray, List.getElem?_cons_zero] at y5
                    have e4 : ((fn : Int) != (fn : Int)) = false := by simp
                    clear hti hK hD hlv
                    gi_wp2_with fail
                    rw [roundsIn_succ]
                    clear y5 t0 t1 a0 e4 HZT HTI HTC
                    gi_wp2_with fail
                    have HBk : Hid (Below WT1.heap.size WT1 (WT1.alloc (.cells #[.int .i64 2] 3))) := hide ((Below.refl _ _).alloc (Nat.le_refl _) _)
                    generalize WT1.alloc (.cells #[.int .i64 2] 3) = wk at *
                    refine ⟨trivial, (callsIn_wide.2 (known_any wk)).mono ?_⟩
                    rintro e wz ⟨rfl, hbz⟩
                    simp only
                    have HBz : Hid (Below WT1.heap.size WT1 wz) := hide (HBk.out.trans (hbz.mono HBk.out.size))
                    have HAz := hide (HF1.out.ask.below HBz.out)
                    have HK0z := hide ((HBz.out.block _ (Nat.lt_of_lt_of_le (lt_of_block HKD0.out) HTW1.out.size)).trans ((HTW1.out.block _ (lt_of_block HKD0.out)).trans HKD0.out))
                    have HK1z := hide ((HBz.out.block _ (lt_of_block HKD1.out)).trans HKD1.out)
                    have HA10 := hide (HAz.out.says true)
                    have HL0 : Hid (w.heap.size + 2 ≤ D0 ∧ w.heap.size + 2 ≤ D1 ∧ D0 ≠ D1) := hide (by
                      have h1 := HA8.out
                      have h2 := HDW0.out
                      have h3 := HDW1.out
                      have h4 := lt_of_block HKD0.out
                      have h5 := HTW0.out.size
                      omega)
                    have HK0s := hide ((Below.heap_setCell wz ⟨w.heap.size + 1, 0, none⟩ (.bool true) D0 (by have := HL0.out; show D0 ≠ w.heap.size + 1; omega)).trans HK0z.out)
                    have HK1s := hide ((Below.heap_setCell wz ⟨w.heap.size + 1, 0, none⟩ (.bool true) D1 (by have := HL0.out; show D1 ≠ w.heap.size + 1; omega)).trans HK1z.out)
                    clear hbz
                    obtain ⟨_, x4, x5⟩ := HAz.out.cells
                    gi_wp2_with fail
                    exact askf_end HA10.out HL0.out.1 HL0.out.2.1 HL0.out.2.2 HK0s.out HK1s.out (fun W' h => by simp [results, Try.results4, go_sem, h])
                  case stop_400 =>
                    rintro D1 c' pre WT1 hD hpre ⟨⟨rfl, hT, hkl, hl0⟩, hti⟩ hK
                    exact absurd hT (by decide)
              case stop_350 =>
                rintro D0 c' pre WT0 hD hpre ⟨⟨rfl, hT, hkl, hl0⟩, hti⟩ hK
                have hkf : pre.length ≤ fn := by rw [HFE.out]; exact hpre.length_le
                generalize pre.length = kx at *
                clear hpre hT
                have hFW := HFL.out.below hti.bel
                have HKD0 := hide hK
                have HTW0 := hide hti.bel
                have HDW0 : Hid (w8.heap.size ≤ D0) := hide (by have := HZT.out; have := HTC.out; omega)
                obtain ⟨t0, t1, _⟩ := hti.cells
                obtain ⟨a0, _, _⟩ := hFW.ask.cells
                have y5 := cell_of_row _ _ 0 _ _ (0, 0) hFW.xq
                simp only [List.getElem?_toArray, List.getElem?_cons_zero] at y5
                have HF0 := hide hFW
                clear hFW hti hK hD
                gi_upto_region 26 with fail
                gi_cut [133] from 136 (fun z wx => z = .bool false ∧ WT0 = wx)
                case first =>
                  as_aux_lemma =>
                    subst hkl
                    have e1 : decide ((0 : Int) < (kx : Int)) = true := decide_eq_true hl0
                    have e6 : min (kx : Int) (fn : Int) = (kx : Int) := Int.min_eq_left (by omega)
                    have e0 : kx ≠ 0 := by omega
                    clear hl0 hkf
                    gi_wp2_with fail
                    all_goals (
                      gi_meet
                      exact ⟨rfl, rfl⟩)
                case rest =>
                  obtain ⟨rfl, rfl⟩ := hcut
                  gi_wp2_with fail
                  rw [roundsIn_succ]
                  have HT1 := hide (TurnF.start WT0 1)
                  clear y5 t0 t1 a0 HZT HTI HTC
                  gi_wp2_with fail
                  generalize (WT0.alloc (.cells #[.int .i64 1] 3)).alloc (.cells #[.int .i64 0] 3) = ws1 at *
                  replace HFL := HF0
                  clear HF0
                  obtain ⟨tc, htc⟩ : ∃ tc, tc = WT0.heap.size := ⟨_, rfl⟩
                  have HZT : Hid (ws1.heap.size = tc + 2) := hide (by rw [htc]; exact HT1.out.2)
                  have HTI := hide HT1.out.1
                  have HTC := hide htc
                  rw [← htc] at HTI ⊢
                  clear htc HT1
                  refine wpIn_rangeSeqL (α := Trd) (encs := encF) (E := fun pre x _ => pre ++ [x] <+: FillsA b s) (S := fun xs => xs = FillsA b s) (Sp := fun pre => pre <+: FillsA b s) (gf := 37) (lb := #[.pointer (some ⟨f, 0, none⟩), .pointer (some ⟨f + 1, 0, none⟩)]) rfl (enters_of Try.func37 (by kernel_rfl) rfl) (fun i => i = tc + 1) (fun _ _ => False)
                    (fun h => by have := HZT.out; omega) (fun h => by have := HZT.out; omega) (fun _ _ _ _ _ h => h.elim)
                    (fun W hb hz => HFL.out.seq (HTI.out.bel.trans (hb.mono HTI.out.bel.size)) (fun i hi => by have := HZT.out; have := HTC.out; rcases hi with hi | hi <;> omega))
                    (fun _ => rfl)
                    (InvF 1 lv WT0 tc) (StopF 1 lv WT0 tc)
                    (fun s X Y hs' hb' => ⟨hs'.1, hs'.2.low (by have := HZT.out; omega) (by have := HZT.out; omega) hb'⟩) (fun c' s X Y hs' hb' => ⟨hs'.1, hs'.2.low (by have := HZT.out; omega) (by have := HZT.out; omega) hb'⟩) ⟨fun _ => by simp only [List.length_nil]; omega, HTI.out⟩
                    ?a1_450 (fun x W => W.alloc (.cells #[.int .i64 x.1.1, .int .i64 x.2.1.1, .int .i64 x.2.2] 55)) (fun x W => (Below.refl _ _).alloc (Nat.le_refl _) _) 7 ?assign_450 ?body_450 ?done_450 ?stop_450
                  case assign_450 =>
                    rintro l' pre x W K he hK
                    clear he
                    simp only [encF]
                    gi_wp2
                    exact hK
                  case body_450 =>
                    rintro l' pre x W0 Wr ⟨hlv, hti⟩ hE hsz hsz2 hsame
                    obtain ⟨k, hk⟩ : ∃ k, k = pre.length := ⟨_, rfl⟩
                    rw [← hk] at hlv hti
                    have HK := hide hk
                    have hpk := preF_at hE
                    rw [← hk] at hpk
                    have hfill : Wr.heap[W0.heap.size]? = some (.cells #[.int .i64 x.1.1, .int .i64 x.2.1.1, .int .i64 x.2.2] 55 (0, 0)) := (hsame _ (by omega)).trans (heap_alloc_new W0 _)
                    have hkn : k < fn := by rw [HFE.out]; exact hpk.2
                    obtain ⟨⟨x0, x1⟩, ⟨y0, y1⟩, m⟩ := x
                    simp only at hfill
                    have hFr := HFL.out.below hti.bel
                    obtain ⟨z0, z1, z2⟩ := flatF_at _ _ _ hpk.1
                    have ho5 := hFr.o5
                    have hxq := hFr.xq
                    obtain ⟨g5, cg5, hv5⟩ := own_form' ho5 (by omega)
                    injection hv5 with hA5 hB5 hC5
                    rw [hA5, hC5] at ho5 hxq
                    have m0 := (ho5.cellAt (k * 3) (by omega)).trans z0
                    have m1 := (ho5.cellAt (k * 3 + 1) (by omega)).trans z1
                    have m2 := (ho5.cellAt (k * 3 + 2) (by omega)).trans z2
                    have u0 := cell_of_row _ _ 0 _ _ (0, 0) hfill
                    have u1 := cell_of_row _ _ 1 _ _ (0, 0) hfill
                    have u2 := cell_of_row _ _ 2 _ _ (0, 0) hfill
                    have y5 := cell_of_row _ _ 0 _ _ (0, 0) hxq
                    simp only [List.getElem?_toArray, List.getElem?_cons_zero, List.getElem?_cons_succ] at u0 u1 u2 y5 m0 m1 m2
                    obtain ⟨t0, t1, t2⟩ := hti.cells
                    obtain ⟨a0, _, _⟩ := hFr.ask.cells
                    have hge : decide ((fn : Int) ≤ (k : Int)) = false := decide_eq_false (by omega)
                    have hki : (k : Int) < (fn : Int) := by omega
                    have hne := ne_fill x0 y0 m
                    have hwk : IntKind.i64.wrap ((k : Int) + 1) = (k : Int) + 1 := Go.IntWalk.i64_in _ (by have := HFN.out; omega)
                    have HT5 : Hid (TurnF WT0 tc (tc + 1) 1 k Wr.drew) := hide (hti.below (below_drewN (Below.refl _ _) 1))
                    have HX5 : Hid (OutP (fun i => i = tc + 1) Wr Wr.drew) := hide (OutP.of_below (below_drewN (Below.refl _ _) 1))
                    have HA5 : Hid (AskF w lv false Wr.drew) := hide (hFr.ask.below (below_drewN (Below.refl _ _) 1))
                    have HLV := hide hlv
                    have HLN : Hid ((pre ++ [((x0, x1), (y0, y1), m)]).length = k + 1) := hide (by rw [List.length_append, ← HK.out]; rfl)
                    have hmx : Try.prog.follows .mixedOrders = true := by kernel_rfl
                    clear hk hti hsame hsz hsz2 hE hpk hFr ho5 hxq hA5 hB5 hC5 hlv hfill z0 z1 z2 t2 hkn
                    gi_upto_region 22 with fail
                    refine wpIn_region_U 12 (fun X => X = Wr.drew) hmx (by kernel_rfl) rfl (fun hHeld => ?_)
                    refine AnyU.take (i := 0) (v := ?v451) rfl (by kernel_rfl) (by kernel_rfl) (by kernel_rfl) (by kernel_rfl) (fun _ _ _ h => h) (Or.inl ⟨by rfl, ?hy451⟩) hHeld ?r451
                    case hy451 => (intro w hSw; (try dsimp only at hSw); subst hSw; go_simp <;> with_reducible rfl)
                    simp only [Act.put, List.setIfInBounds_toArray, List.set_cons_zero, List.set_cons_succ]
                    refine AnyU.take (i := 1) (v := ?v452) rfl (by kernel_rfl) (by kernel_rfl) (by kernel_rfl) (by kernel_rfl) (fun _ _ _ h => h) (Or.inl ⟨by rfl, ?hy452⟩) hHeld ?r452
                    case hy452 => (intro w hSw; (try dsimp only at hSw); subst hSw; go_simp <;> with_reducible rfl)
                    simp only [Act.put, List.setIfInBounds_toArray, List.set_cons_zero, List.set_cons_succ]
                    refine AnyU.take (i := 2) (v := ?v453) rfl (by kernel_rfl) (by kernel_rfl) (by kernel_rfl) (by kernel_rfl) (fun _ _ _ h => h) (Or.inl ⟨by rfl, ?hy453⟩) hHeld ?r453
                    case hy453 => (intro w hSw; (try dsimp only at hSw); subst hSw; go_simp <;> with_reducible rfl)
                    simp only [Act.put, List.setIfInBounds_toArray, List.set_cons_zero, List.set_cons_succ]
                    refine AnyU.take (i := 3) (v := .bool false) rfl (by kernel_rfl) (by kernel_rfl) (by kernel_rfl) (by kernel_rfl) (fun _ _ _ h => h) (Or.inl ⟨by rfl, ?hy454⟩) hHeld ?r454
                    case hy454 => (intro w hSw; (try dsimp only at hSw); subst hSw; go_simp <;> first | with_reducible rfl | exact hge | omega)
                    simp only [Act.put, List.setIfInBounds_toArray, List.set_cons_zero, List.set_cons_succ]
                    refine AnyU.take (i := 4) (v := ?v455) rfl (by kernel_rfl) (by kernel_rfl) (by kernel_rfl) (by kernel_rfl) (fun _ _ _ h => h) (Or.inl ⟨by rfl, ?hy455⟩) hHeld ?r455
                    case hy455 => (intro w hSw; (try dsimp only at hSw); subst hSw; go_simp <;> with_reducible rfl)
                    simp only [Act.put, List.setIfInBounds_toArray, List.set_cons_zero, List.set_cons_succ]
                    refine AnyU.take (i := 5) (v := ?v456) rfl (by kernel_rfl) (by kernel_rfl) (by kernel_rfl) (by kernel_rfl) (fun _ _ _ h => h) (Or.inl ⟨by rfl, ?hy456⟩) hHeld ?r456
                    case hy456 => (intro w hSw; (try dsimp only at hSw); subst hSw; go_simp <;> with_reducible rfl)
                    simp only [Act.put, List.setIfInBounds_toArray, List.set_cons_zero, List.set_cons_succ]
                    refine AnyU.take (i := 6) (v := ?v457) rfl (by kernel_rfl) (by kernel_rfl) (by kernel_rfl) (by kernel_rfl) (fun _ _ _ h => h) (Or.inl ⟨by rfl, ?hy457⟩) hHeld ?r457
                    case hy457 => (intro w hSw; (try dsimp only at hSw); subst hSw; go_simp <;> with_reducible rfl)
                    simp only [Act.put, List.setIfInBounds_toArray, List.set_cons_zero, List.set_cons_succ]
                    refine AnyU.take (i := 7) (v := ?v458) rfl (by kernel_rfl) (by kernel_rfl) (by kernel_rfl) (by kernel_rfl) (fun _ _ _ h => h) (Or.inl ⟨by rfl, ?hy458⟩) hHeld ?r458
                    case hy458 => (intro w hSw; (try dsimp only at hSw); subst hSw; go_simp <;> with_reducible rfl)
                    simp only [Act.put, List.setIfInBounds_toArray, List.set_cons_zero, List.set_cons_succ]
                    refine AnyU.take (i := 8) (v := ?v459) rfl (by kernel_rfl) (by kernel_rfl) (by kernel_rfl) (by kernel_rfl) (fun _ _ _ h => h) (Or.inl ⟨by rfl, ?hy459⟩) hHeld ?r459
                    case hy459 => (intro w hSw; (try dsimp only at hSw); subst hSw; go_simp <;> with_reducible rfl)
                    simp only [Act.put, List.setIfInBounds_toArray, List.set_cons_zero, List.set_cons_succ]
                    refine AnyU.take (i := 9) (v := ?v460) rfl (by kernel_rfl) (by kernel_rfl) (by kernel_rfl) (by kernel_rfl) (fun _ _ _ h => h) (Or.inl ⟨by rfl, ?hy460⟩) hHeld ?r460
                    case hy460 => (intro w hSw; (try dsimp only at hSw); subst hSw; go_simp <;> with_reducible rfl)
                    simp only [Act.put, List.setIfInBounds_toArray, List.set_cons_zero, List.set_cons_succ]
                    refine AnyU.take (i := 10) (v := ?v461) rfl (by kernel_rfl) (by kernel_rfl) (by kernel_rfl) (by kernel_rfl) (fun _ _ _ h => h) (Or.inl ⟨by rfl, ?hy461⟩) hHeld ?r461
                    case hy461 => (intro w hSw; (try dsimp only at hSw); subst hSw; go_simp <;> with_reducible rfl)
                    simp only [Act.put, List.setIfInBounds_toArray, List.set_cons_zero, List.set_cons_succ]
                    refine AnyU.take (i := 11) (v := ?v462) rfl (by kernel_rfl) (by kernel_rfl) (by kernel_rfl) (by kernel_rfl) (fun _ _ _ h => h) (Or.inl ⟨by rfl, ?hy462⟩) hHeld ?r462
                    case hy462 => (intro w hSw; (try dsimp only at hSw); subst hSw; go_simp <;> with_reducible rfl)
                    simp only [Act.put, List.setIfInBounds_toArray, List.set_cons_zero, List.set_cons_succ]
                    clear hHeld
                    refine AnyU.over (by kernel_rfl) ?_ _
                    refine noOut_normal ?_
                    generalize Wr.drew = Wd at *
                    clear t0 t1 a0 m0 m1 m2 u0 u1 u2 y5 hge hki hne hmx
                    obtain ⟨t0, t1, t2⟩ := HT5.out.cells
                    have HT6 := hide (HT5.out.next (k + 1))
                    have HX6 := hide (HX5.out.set ⟨tc + 1, 0, none⟩ rfl (.int .i64 ((k + 1 : Nat) : Int)))
                    have hkk : ((k + 1 : Nat) : Int) = (k : Int) + 1 := by omega
                    have HA6 := hide (HA5.out.turns (Turns.of_set Wd ⟨tc + 1, 0, none⟩ (.int .i64 ((k + 1 : Nat) : Int))) (fun j hj e => by
                      have h1 := HFL.out.ask.lt
                      have h2 := HTC.out
                      have e1 : j = tc + 1 := e
                      omega))
                    rw [hkk] at HT6 HX6 HA6
                    obtain ⟨r0, r1, _⟩ := HT6.out.cells
                    obtain ⟨a0, _, _⟩ := HA6.out.cells
                    rw [hkk] at r1
                    clear hkk
                    gi_wp2_with fail
                    refine ⟨by first | exact HX6.out | exact HX6.out.mono (fun _ h => .inl h), fun h => absurd h (by decide), ?_⟩
                    rw [HLN.out]
                    exact HT6.out
                  case done_450 =>
                    rintro D1 xs WT1 hD hS ⟨hlv, hti⟩ hK
                    have hxl : xs.length = fn := by rw [hS, ← HFE.out]
                    rw [hxl] at hlv hti
                    have HF1 := hide (HFL.out.below hti.bel)
                    have HKD1 := hide hK
                    have HTW1 := hide hti.bel
                    have HDW1 : Hid (WT0.heap.size ≤ D1) := hide (by have := HZT.out; have := HTC.out; omega)
                    obtain ⟨t0, t1, _⟩ := hti.cells
                    obtain ⟨a0, _, _⟩ := HF1.out.ask.cells
                    have y5 := cell_of_row _ _ 0 _ _ (0, 0) HF1.out.xq
                    simp only [List.getElem?_toArray, List.getElem?_cons_zero] at y5
                    have e4 : ((fn : Int) != (fn : Int)) = false := by simp
                    clear hti hK hD hlv
                    gi_wp2_with fail
                    rw [roundsIn_succ]
                    clear y5 t0 t1 a0 e4 HZT HTI HTC
                    gi_wp2_with fail
                    have HBk : Hid (Below WT1.heap.size WT1 (WT1.alloc (.cells #[.int .i64 2] 3))) := hide ((Below.refl _ _).alloc (Nat.le_refl _) _)
                    generalize WT1.alloc (.cells #[.int .i64 2] 3) = wk at *
                    refine ⟨trivial, (callsIn_wide.2 (known_any wk)).mono ?_⟩
                    rintro e wz ⟨rfl, hbz⟩
                    simp only
                    have HBz : Hid (Below WT1.heap.size WT1 wz) := hide (HBk.out.trans (hbz.mono HBk.out.size))
                    have HAz := hide (HF1.out.ask.below HBz.out)
                    have HK0z := hide ((HBz.out.block _ (Nat.lt_of_lt_of_le (lt_of_block HKD0.out) HTW1.out.size)).trans ((HTW1.out.block _ (lt_of_block HKD0.out)).trans HKD0.out))
                    have HK1z := hide ((HBz.out.block _ (lt_of_block HKD1.out)).trans HKD1.out)
                    have HA10 := hide (HAz.out.says true)
                    have HL0 : Hid (w.heap.size + 2 ≤ D0 ∧ w.heap.size + 2 ≤ D1 ∧ D0 ≠ D1) := hide (by
                      have h1 := HA8.out
                      have h2 := HDW0.out
                      have h3 := HDW1.out
                      have h4 := lt_of_block HKD0.out
                      have h5 := HTW0.out.size
                      omega)
                    have HK0s := hide ((Below.heap_setCell wz ⟨w.heap.size + 1, 0, none⟩ (.bool true) D0 (by have := HL0.out; show D0 ≠ w.heap.size + 1; omega)).trans HK0z.out)
                    have HK1s := hide ((Below.heap_setCell wz ⟨w.heap.size + 1, 0, none⟩ (.bool true) D1 (by have := HL0.out; show D1 ≠ w.heap.size + 1; omega)).trans HK1z.out)
                    clear hbz
                    obtain ⟨_, x4, x5⟩ := HAz.out.cells
                    gi_wp2_with fail
                    exact askf_end HA10.out HL0.out.1 HL0.out.2.1 HL0.out.2.2 HK0s.out HK1s.out (fun W' h => by simp [results, Try.results4, go_sem, h])
                  case stop_450 =>
                    rintro D1 c' pre WT1 hD hpre ⟨⟨rfl, hT, hkl, hl0⟩, hti⟩ hK
                    exact absurd hT (by decide)
    · gi_wp2_with fail
      refine ⟨trivial, (callsIn_wide.2 (known_any w1)).mono ?_⟩
      rintro e w3 ⟨rfl, hb3⟩
      have HR3 := hide (HA1.out.below hb3)
      clear hb3
      obtain ⟨x0, x1, x2⟩ := HR3.out.cells
      have HR4 := hide (HR3.out.says true)
      gi_wp2_with fail
      exact askf_ret HR4.out (fun W' h => by simp [results, Try.results4, go_sem, h])
end Go.Proofs.Ytogicdljbnllgaa
