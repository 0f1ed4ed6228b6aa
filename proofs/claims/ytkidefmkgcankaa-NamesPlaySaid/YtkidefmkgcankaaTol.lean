/- The walk of gavellaw06.told: what a table tells of itself is what the document's list holds. -/
import Derived.Test.YtkidefmkgcankaaLst
import Derived.Test.YtkidefmkgcankaaNsq
import Derived.Test.YtkidefmkgcankaaSeqB
import Derived.Test.YtkidefmkgcankaaInC
import Derived.Sort.CutIn
import Derived.Sort.BigQuietIn
import Derived.LoopIn
import Derived.LoopNIn
namespace Go.Proofs.Ytkidefmkgcankaa
open Go.RowKit Go.Maps Go.Shelf
open Go.ChangeMaps Go.WideMaps

attribute [local go_sem] Oper.semAt_some

/-- The cells of a turn: its number, how many came so far. -/
structure TurnT (wb : World) (tc kc : Nat) (T : Int) (k : Nat) (W : World) : Prop where
  bel : Below wb.heap.size wb W
  t : W.heap[tc]? = some (.cells #[.int .i64 T] 3 (0, 0))
  k : W.heap[kc]? = some (.cells #[.int .i64 (k : Int)] 3 (0, 0))
  lo : wb.heap.size ≤ tc ∧ wb.heap.size ≤ kc ∧ tc ≠ kc
section
variable {wb W W' : World} {tc kc : Nat} {T : Int} {k : Nat}
theorem TurnT.below (h : TurnT wb tc kc T k W) (hb : Below W.heap.size W W') : TurnT wb tc kc T k W' :=
  ⟨h.bel.trans (hb.mono h.bel.size), (hb.block _ (lt_of_block h.t)).trans h.t, (hb.block _ (lt_of_block h.k)).trans h.k, h.lo⟩
theorem TurnT.next (h : TurnT wb tc kc T k W) (k' : Nat) : TurnT wb tc kc T k' (W.setCell ⟨kc, 0, none⟩ (.int .i64 (k' : Int))) :=
  ⟨h.bel.setCell h.lo.2.1 _, (Below.heap_setCell W _ _ _ h.lo.2.2).trans h.t, setCell_block h.k 0 _, h.lo⟩
theorem TurnT.cells (h : TurnT wb tc kc T k W) : W.cell? ⟨tc, 0, none⟩ = some (.int .i64 T) ∧ W.cell? ⟨kc, 0, none⟩ = some (.int .i64 (k : Int)) ∧ W.frozen? ⟨kc, 0, none⟩ = false :=
  ⟨cell_of_row W _ 0 _ _ (0, 0) h.t, cell_of_row W _ 0 _ _ (0, 0) h.k, frozen_of_row W _ 0 _ _ h.k⟩
theorem TurnT.start (wb : World) (T : Int) : TurnT wb wb.heap.size (wb.heap.size + 1) T 0 ((wb.alloc (.cells #[.int .i64 T] 3)).alloc (.cells #[.int .i64 0] 3)) ∧ ((wb.alloc (.cells #[.int .i64 T] 3)).alloc (.cells #[.int .i64 0] 3)).heap.size = wb.heap.size + 2 :=
  ⟨⟨((Below.refl _ _).alloc (Nat.le_refl _) _).alloc (by simp) _, (Below.heap_alloc _ _ _ (by simp)).trans (heap_alloc_new wb _), by
    have := heap_alloc_new (wb.alloc (.cells #[.int .i64 T] 3)) (.cells #[.int .i64 0] 3)
    simpa using this, by omega⟩, by simp⟩
theorem TurnT.grown (h : TurnT wb tc kc T k W) {row : Option Nat} (hg : W.grownBy W' row) (hr : ∀ r, row = some r → wb.heap.size ≤ r ∧ ∃ o : Obj, W.heap[r]? = some o ∧ o.isCells = false) : TurnT wb tc kc T k W' := by
  have key : ∀ {k t : Nat} {cs : Array Value} {fr : Nat × Nat}, W.heap[k]? = some (.cells cs t fr) → some k ≠ row := fun hk e => by
    obtain ⟨o, h1, h2⟩ := (hr _ e.symm).2
    rw [hk] at h1
    injection h1 with h1
    subst h1
    cases h2
  exact ⟨h.bel.grown hg h.bel.size (fun r e => (hr r e).1), (hg.block _ (lt_of_block h.t) (key h.t)).trans h.t, (hg.block _ (lt_of_block h.k) (key h.k)).trans h.k, h.lo⟩
end
def InvT (T lv : Int) (wb : World) (tc : Nat) (pre : List (Nat × ByteArray)) (W : World) : Prop := (T = 0 → lv ≤ 0 ∨ (pre.length : Int) < lv) ∧ TurnT wb tc (tc + 1) T pre.length W
def StopT (T lv : Int) (wb : World) (tc : Nat) (c' : Code) (pre : List (Nat × ByteArray)) (W : World) : Prop := (c' = .exit 2 ∧ T = 0 ∧ (pre.length : Int) = lv ∧ 0 < lv) ∧ TurnT wb tc (tc + 1) T pre.length W

/-- What told holds from its start on. -/
structure TlI (w : World) (p m q : Nat) (v vd : Value) (most most2 lv : Int) (l : List ByteArray) (W : World) : Prop where
  b4 : W.heap[w.heap.size]? = some (.cells #[.pointer (some ⟨q, 0, none⟩)] 34 (0, 0))
  b5 : W.heap[w.heap.size + 1]? = some (.cells #[.int .i64 lv] 3 (0, 0))
  b6 : W.heap[w.heap.size + 2]? = some (.cells #[.bool false] 4 (0, 0))
  ca : ∃ B, NT W B p v m l most
  da : ∃ B, DocT W B q vd l most2
  bel : Below w.heap.size w W
section
variable {w W W' : World} {p m q : Nat} {v vd : Value} {most most2 lv : Int} {l : List ByteArray}
theorem TlI.below (h : TlI w p m q v vd most most2 lv l W) (hb : Below W.heap.size W W') : TlI w p m q v vd most most2 lv l W' :=
  ⟨(hb.block _ (lt_of_block h.b4)).trans h.b4, (hb.block _ (lt_of_block h.b5)).trans h.b5, (hb.block _ (lt_of_block h.b6)).trans h.b6, h.ca.imp fun _ hc => hc.below hb, h.da.imp fun _ hd => hd.below hb, h.bel.trans (hb.mono h.bel.size)⟩
theorem TlI.cells (h : TlI w p m q v vd most most2 lv l W) : W.cell? ⟨w.heap.size, 0, none⟩ = some (.pointer (some ⟨q, 0, none⟩)) ∧ W.cell? ⟨w.heap.size + 1, 0, none⟩ = some (.int .i64 lv) ∧ W.cell? ⟨w.heap.size + 2, 0, none⟩ = some (.bool false) ∧ W.frozen? ⟨w.heap.size + 2, 0, none⟩ = false ∧ W.cell? ⟨q, 0, none⟩ = some vd := by
  obtain ⟨_, hd⟩ := h.da
  exact ⟨cell_of_row W _ 0 _ _ (0, 0) h.b4, cell_of_row W _ 0 _ _ (0, 0) h.b5, cell_of_row W _ 0 _ _ (0, 0) h.b6, frozen_of_row W _ 0 _ _ h.b6, hd.cells.1⟩
theorem TlI.at_ (h : TlI w p m q v vd most most2 lv l W) {A : Option Addr} {n c : Nat} (hv : vd = .slice A n c) (k : Nat) (hk : k < l.length) : ∃ g o, A = some ⟨g, o, none⟩ ∧ W.cell? ⟨g, o + k, none⟩ = some (.string (l.getD k ⟨#[]⟩)) := by
  obtain ⟨_, hd⟩ := h.da
  subst hv
  have hx : l[k]? = some (l.getD k ⟨#[]⟩) := by rw [List.getD_eq_getElem?_getD, List.getElem?_eq_getElem hk]; rfl
  obtain ⟨g, o, e, _, hc⟩ := hd.row.text hx
  exact ⟨g, o, e, hc⟩
theorem TlI.yes (h : TlI w p m q v vd most most2 lv l W) : (W.setCell ⟨w.heap.size + 2, 0, none⟩ (.bool true)).cell? ⟨w.heap.size + 2, 0, none⟩ = some (.bool true) ∧ Below w.heap.size w (W.setCell ⟨w.heap.size + 2, 0, none⟩ (.bool true)) :=
  ⟨cell_of_row _ _ 0 _ _ (0, 0) (setCell_block h.b6 0 _), h.bel.setCell (by show w.heap.size ≤ w.heap.size + 2; omega) _⟩
theorem TlI.len_q (h : TlI w p m q v vd most most2 lv l W) (n : Nat) : Calls Try.prog 18 #[.pointer (some ⟨p, 0, none⟩)] (W.drewN n) fun e w' => e = .returned (.int .i64 l.length) ∧ ∃ k, w' = W.drewN k := by
  obtain ⟨_, hc⟩ := (h.below (bel_drewN (Below.refl _ W) n)).ca
  exact (len_any hc).mono fun _ _ ⟨he, hw⟩ => ⟨he, n, hw.symm⟩
end
theorem three_new (w : World) (o1 o2 o3 : Obj) : (((w.alloc o1).alloc o2).alloc o3).heap[w.heap.size]? = some o1 ∧ (((w.alloc o1).alloc o2).alloc o3).heap[w.heap.size + 1]? = some o2 ∧ (((w.alloc o1).alloc o2).alloc o3).heap[w.heap.size + 2]? = some o3 ∧ Below w.heap.size w (((w.alloc o1).alloc o2).alloc o3) := by
  refine ⟨(Below.heap_alloc _ _ _ (by simp; omega)).trans ((Below.heap_alloc _ _ _ (by simp)).trans (heap_alloc_new w o1)), ?_, ?_, (((Below.refl _ _).alloc (Nat.le_refl _) _).alloc (by simp) _).alloc (by simp; omega) _⟩
  · have := heap_alloc_new (w.alloc o1) o2
    exact (Below.heap_alloc _ _ _ (by simp)).trans (by simpa using this)
  · have := heap_alloc_new ((w.alloc o1).alloc o2) o3
    simpa using this
theorem told_end {fn : Func} {tmps : Array Value} {w W : World} {D0 D1 : Nat} (hy : W.cell? ⟨w.heap.size + 2, 0, none⟩ = some (.bool true) ∧ Below w.heap.size w W) (h0 : w.heap.size + 2 < D0) (h1 : w.heap.size + 2 < D1) (hne : D0 ≠ D1) (hK0 : W.heap[D0]? = some (.deferred (some []))) (hK1 : W.heap[D1]? = some (.deferred (some [])))
    (hr : ∀ W', W'.cell? ⟨w.heap.size + 2, 0, none⟩ = some (.bool true) → (results fn tmps).run Try.prog W' = .ok (.bool true) W') : LeavesInM Fence.wide 9 Try.prog fn tmps (BelowPost (.bool true) w) [{ target := .collected D1, args := #[] }, { target := .collected D0, args := #[] }] .returning W := by
  have hK0' : (W.putObj D1 (.deferred none)).heap[D0]? = some (.deferred (some [])) := (World.putObj_heap_other hne).trans hK0
  have hc1 : (W.putObj D1 (.deferred none)).cell? ⟨w.heap.size + 2, 0, none⟩ = some (.bool true) := (World.cell?_of_block (w := W) (World.putObj_heap_other (show w.heap.size + 2 ≠ D1 by omega))).trans hy.1
  have hc2 : ((W.putObj D1 (.deferred none)).putObj D0 (.deferred none)).cell? ⟨w.heap.size + 2, 0, none⟩ = some (.bool true) := (World.cell?_of_block (w := W.putObj D1 (.deferred none)) (World.putObj_heap_other (show w.heap.size + 2 ≠ D0 by omega))).trans hc1
  have hb1 : Below w.heap.size w (W.putObj D1 (.deferred none)) := hy.2.grown (grownBy_putObj' W D1 _) hy.2.size (fun k e => by injection e with e; omega)
  have hb2 : Below w.heap.size w ((W.putObj D1 (.deferred none)).putObj D0 (.deferred none)) := hb1.grown (grownBy_putObj' _ D0 _) hb1.size (fun k e => by injection e with e; omega)
  exact ⟨by simp, .inl ⟨D1, _, rfl, run_takeDeferred hK1, by simp, .inl ⟨D0, _, rfl, run_takeDeferred hK0', ⟨.bool true, hr _ hc2, rfl, hb2⟩⟩⟩⟩
set_option maxRecDepth 100000 in
set_option maxHeartbeats 64000000 in
theorem told_any {w : World} {B B' p m q : Nat} {v vd : Value} {most most2 : Int} {l : List ByteArray} (h : NT w B p v m l most) (hd : DocT w B' q vd l most2) (lv : Int) :
    Calls Try.prog 15 #[.pointer (some ⟨p, 0, none⟩), .pointer (some ⟨q, 0, none⟩), .int .i64 lv] w (BelowPost (.bool true) w) := by
  obtain ⟨y4, y5, y6, yb⟩ := three_new w (.cells #[.pointer (some ⟨q, 0, none⟩)] 34) (.cells #[.int .i64 lv] 3) (.cells #[.bool false] 4)
  obtain ⟨AD, cD, hvd, _, _, _⟩ := hd.row.rd
  have HI1 : Hid (TlI w p m q v vd most most2 lv l (((w.alloc (.cells #[.pointer (some ⟨q, 0, none⟩)] 34)).alloc (.cells #[.int .i64 lv] 3)).alloc (.cells #[.bool false] 4))) := hide ⟨y4, y5, y6, ⟨B, h.below yb⟩, ⟨B', hd.below yb⟩, yb⟩
  have HVD := hide hvd
  have HSL : Hid (l.length ≤ 2000000) := hide (by have := h.lenN; omega)
  clear y4 y5 y6 yb h hd hvd
  refine (callsIn_wide (n := 9)).1 ?_
  refine callsIn_of_wp_marks Try.func15 rfl trivial ?_ rfl
  simp only [Try.ntmps15, List.size_toArray, List.length_cons, List.length_nil, Nat.reduceAdd, Nat.reduceSub, Array.replicate_succ, Array.replicate_zero, List.push_toArray, List.append_toArray, List.nil_append, List.cons_append]
  gi_wp2_with fail
  generalize ((w.alloc (.cells #[.pointer (some ⟨q, 0, none⟩)] 34)).alloc (.cells #[.int .i64 lv] 3)).alloc (.cells #[.bool false] 4) = w1 at *
  obtain ⟨_, hca⟩ := HI1.out.ca
  have HAL := hide (all_any hca)
  clear hca
  refine ⟨trivial, ?_⟩
  gi_at_call 38
  refine (callsIn_wide.2 HAL.out).mono ?_
  rintro e w4 ⟨bA, AL, cL, rfl, hbA, hcA, hownA, hb4⟩
  have HI4 := hide (HI1.out.below hb4)
  have HXA := hide hcA
  have HRA : Hid (Reads w4 w4.heap.size 1 AL l.length (l.map Value.string)) := hide (Reads.of_own hownA)
  have HHP : Hid (∀ g, AL.map Addr.block = some g → g < w4.heap.size) := hide (fun g e => by
    cases AL with
    | none => cases e
    | some a => exact (hownA.lt g e).2)
  have HW4 : Hid (w.heap.size + 3 ≤ w4.heap.size) := hide (lt_of_block HI4.out.b6)
  clear hbA hcA hownA hb4 HAL HI1
  obtain ⟨c4, c5, c6, f6, q1⟩ := HI4.out.cells
  rw [HVD.out] at q1
  have hll : ((l.length : Int) != (l.length : Int)) = false := by simp
  have hfe : ∀ {W : World}, (binOp .eql 85 (.func (.func 48) #[] #[.pointer (some ⟨bA, 0, none⟩)]) .nilFunc).run Try.prog W = .ok (.bool false) W := rfl
  gi_wp2_with fail
  gi_upto_region 2 with fail
  gi_cut [25] from 14 (fun z wx => z = .bool false ∧ Below w4.heap.size w4 wx)
  case first =>
    have HLQ := hide HI4.out.len_q
    obtain ⟨P, hP⟩ : ∃ P : World → Prop, P = fun W => W.cell? ⟨w.heap.size, 0, none⟩ = some (.pointer (some ⟨q, 0, none⟩)) ∧ W.cell? ⟨q, 0, none⟩ = some (.slice AD l.length cD) := ⟨_, rfl⟩
    have HP0 : Hid (∀ n, P (w4.drewN n)) := hide (fun n => by rw [hP]; exact ⟨c4, q1⟩)
    have hP0 := HP0.out 1
    clear c4 c5 c6 f6 q1
    gi_wp2_with fail
    refine wpIn_mono (Q := NoPanic _) ?_ NoPanic.imp
    refine wpIn_wide.2 ?_
    refine wp_region_U 12 P (by kernel_rfl) hP0 (fun hHeld => ?_)
    refine AnyU.take (i := 0) (v := ?v1) rfl (by kernel_rfl) (by kernel_rfl) (by kernel_rfl) (by kernel_rfl) (fun _ _ _ h => h) (Or.inl ⟨by rfl, ?hy1⟩) hHeld ?r1
    case hy1 => (intro w hSw; (try dsimp only at hSw); rw [hP] at hSw; obtain ⟨z0, z1⟩ := hSw; go_simp <;> with_reducible rfl)
    simp only [Act.put, List.setIfInBounds_toArray, List.set_cons_zero, List.set_cons_succ]
    refine AnyU.take (i := 1) (v := .bool false) rfl (by kernel_rfl) (by kernel_rfl) (by kernel_rfl) (by kernel_rfl) (fun _ _ _ h => h) (Or.inl ⟨by rfl, ?hy2⟩) hHeld ?r2
    case hy2 => (intro w hSw; (try dsimp only at hSw); rw [hP] at hSw; obtain ⟨z0, z1⟩ := hSw; go_simp <;> first | with_reducible rfl | exact hfe | omega)
    simp only [Act.put, List.setIfInBounds_toArray, List.set_cons_zero, List.set_cons_succ]
    refine AnyU.take (i := 2) (v := ?v3) rfl (by kernel_rfl) (by kernel_rfl) (by kernel_rfl) (by kernel_rfl) (fun _ _ _ h => h) (Or.inl ⟨by rfl, ?hy3⟩) hHeld ?r3
    case hy3 => (intro w hSw; (try dsimp only at hSw); rw [hP] at hSw; obtain ⟨z0, z1⟩ := hSw; go_simp <;> with_reducible rfl)
    simp only [Act.put, List.setIfInBounds_toArray, List.set_cons_zero, List.set_cons_succ]
    refine AnyU.take (i := 3) (v := ?v4) rfl (by kernel_rfl) (by kernel_rfl) (by kernel_rfl) (by kernel_rfl) (fun _ _ _ h => h) (Or.inl ⟨by rfl, ?hy4⟩) hHeld ?r4
    case hy4 => (intro w hSw; (try dsimp only at hSw); rw [hP] at hSw; obtain ⟨z0, z1⟩ := hSw; go_simp <;> with_reducible rfl)
    simp only [Act.put, List.setIfInBounds_toArray, List.set_cons_zero, List.set_cons_succ]
    refine AnyU.take (i := 5) (v := ?v5) rfl (by kernel_rfl) (by kernel_rfl) (by kernel_rfl) (by kernel_rfl) (fun _ _ _ h => h) (Or.inl ⟨by rfl, ?hy5⟩) hHeld ?r5
    case hy5 => (intro w hSw; (try dsimp only at hSw); rw [hP] at hSw; obtain ⟨z0, z1⟩ := hSw; go_simp <;> with_reducible rfl)
    simp only [Act.put, List.setIfInBounds_toArray, List.set_cons_zero, List.set_cons_succ]
    refine AnyU.take (i := 6) (v := ?v6) rfl (by kernel_rfl) (by kernel_rfl) (by kernel_rfl) (by kernel_rfl) (fun _ _ _ h => h) (Or.inl ⟨by rfl, ?hy6⟩) hHeld ?r6
    case hy6 => (intro w hSw; (try dsimp only at hSw); rw [hP] at hSw; obtain ⟨z0, z1⟩ := hSw; go_simp <;> with_reducible rfl)
    simp only [Act.put, List.setIfInBounds_toArray, List.set_cons_zero, List.set_cons_succ]
    refine AnyU.take (i := 7) (v := ?v7) rfl (by kernel_rfl) (by kernel_rfl) (by kernel_rfl) (by kernel_rfl) (fun _ _ _ h => h) (Or.inl ⟨by rfl, ?hy7⟩) hHeld ?r7
    case hy7 => (intro w hSw; (try dsimp only at hSw); rw [hP] at hSw; obtain ⟨z0, z1⟩ := hSw; go_simp <;> with_reducible rfl)
    simp only [Act.put, List.setIfInBounds_toArray, List.set_cons_zero, List.set_cons_succ]
    refine AnyU.take (i := 8) (v := ?v8) rfl (by kernel_rfl) (by kernel_rfl) (by kernel_rfl) (by kernel_rfl) (fun _ _ _ h => h) (Or.inl ⟨by rfl, ?hy8⟩) hHeld ?r8
    case hy8 => (intro w hSw; (try dsimp only at hSw); rw [hP] at hSw; obtain ⟨z0, z1⟩ := hSw; go_simp <;> with_reducible rfl)
    simp only [Act.put, List.setIfInBounds_toArray, List.set_cons_zero, List.set_cons_succ]
    refine AnyU.take (i := 9) (v := ?v9) rfl (by kernel_rfl) (by kernel_rfl) (by kernel_rfl) (by kernel_rfl) (fun _ _ _ h => h) (Or.inl ⟨by rfl, ?hy9⟩) hHeld ?r9
    case hy9 => (intro w hSw; (try dsimp only at hSw); rw [hP] at hSw; obtain ⟨z0, z1⟩ := hSw; go_simp <;> with_reducible rfl)
    simp only [Act.put, List.setIfInBounds_toArray, List.set_cons_zero, List.set_cons_succ]
    refine AnyU.next (js := [4]) (by kernel_rfl) (by simp) (NextU.cons rfl (fun K hK => ?_) NextU.nil)
    go_simp
    refine (HLQ.out 1).mono ?_
    rintro _ _ ⟨rfl, k1, rfl⟩
    refine hK.out _ _ (fun _ => HP0.out k1) (fun hHeld => ?_)
    try simp only [Act.put, List.setIfInBounds_toArray, List.set_cons_zero, List.set_cons_succ]
    clear hK K
    have hHeld := hHeld (by decide)
    refine AnyU.take (i := 10) (v := .bool false) rfl (by kernel_rfl) (by kernel_rfl) (by kernel_rfl) (by kernel_rfl) (fun _ _ _ h => h) (Or.inl ⟨by rfl, ?hy10⟩) hHeld ?r10
    case hy10 => (intro w hSw; (try dsimp only at hSw); rw [hP] at hSw; obtain ⟨z0, z1⟩ := hSw; go_simp <;> first | with_reducible rfl | exact hll | omega)
    simp only [Act.put, List.setIfInBounds_toArray, List.set_cons_zero, List.set_cons_succ]
    refine AnyU.take (i := 11) (v := ?v11) rfl (by kernel_rfl) (by kernel_rfl) (by kernel_rfl) (by kernel_rfl) (fun _ _ _ h => h) (Or.inl ⟨by rfl, ?hy11⟩) hHeld ?r11
    case hy11 => (intro w hSw; (try dsimp only at hSw); rw [hP] at hSw; obtain ⟨z0, z1⟩ := hSw; go_simp <;> with_reducible rfl)
    simp only [Act.put, List.setIfInBounds_toArray, List.set_cons_zero, List.set_cons_succ]
    clear hHeld
    refine AnyU.over (by kernel_rfl) ?_ _
    refine NoPanic.normal ?_
    gi_wp2
    gi_meet
    exact ⟨rfl, bel_drewN (Below.refl _ _) _⟩
  case rest =>
    obtain ⟨rfl, hB5⟩ := hcut
    rename World => w5
    have HB4r := hide hB5
    have HI5 := hide (HI4.out.below hB5)
    clear hB5 c4 c5 c6 f6 q1
    gi_wp2_with fail
    have HT0 := hide (TurnT.start w5 0)
    refine wpIn_loop_rounds 3 ?_
    rw [roundsIn_succ]
    gi_wp2_with fail
    have HIB := HI5
    generalize (w5.alloc (.cells #[.int .i64 0] 3)).alloc (.cells #[.int .i64 0] 3) = ws200 at *
    obtain ⟨tc, htc⟩ : ∃ tc, tc = w5.heap.size := ⟨_, rfl⟩
    have HZT : Hid (ws200.heap.size = tc + 2) := hide (by rw [htc]; exact HT0.out.2)
    have HTI := hide HT0.out.1
    have HTC := hide htc
    rw [← htc] at HTI ⊢
    have HTW4 : Hid (w4.heap.size ≤ tc) := hide (by rw [htc]; exact HB4r.out.size)
    clear htc HT0
    refine wpIn_rangeSeqB (α := Nat × ByteArray) (encs := encN) (E := NextN l) (S := fun xs => xs = enumL l l.length) (Sp := fun pre => pre = enumL l pre.length ∧ pre.length ≤ l.length ∧ 0 < pre.length) (gf := 48) (lb := #[.pointer (some ⟨bA, 0, none⟩)]) rfl (enters_of Try.func48 (by kernel_rfl) rfl) (fun g => g = tc + 1) (fun h => by have := HZT.out; omega) (fun h => by have := HZT.out; omega)
      (fun W2 hb hz => names_seq (((HB4r.out.trans ((HTI.out.bel.trans (hb.mono HTI.out.bel.size)).mono HB4r.out.size)).block _ (lt_of_block HXA.out)).trans HXA.out) (HRA.out.below (HB4r.out.trans ((HTI.out.bel.trans (hb.mono HTI.out.bel.size)).mono HB4r.out.size))) (by have := HZT.out; have := HTW4.out; omega) HSL.out (fun g hg e => by have := HHP.out g e; have := HTW4.out; have := HZT.out; rcases hg with hg | hg <;> omega)) (fun _ => rfl)
      (InvT 0 lv w5 tc) (StopT 0 lv w5 tc)
      (fun s X Y row hs hg hr => ⟨hs.1, hs.2.grown hg (fun r e => by have := hr r e; have := HZT.out; have := HTC.out; exact ⟨by omega, (hr r e).2⟩)⟩) (fun c' s X Y row hs hg hr => ⟨hs.1, hs.2.grown hg (fun r e => by have := hr r e; have := HZT.out; have := HTC.out; exact ⟨by omega, (hr r e).2⟩)⟩) ⟨fun _ => by simp only [List.length_nil]; omega, HTI.out⟩
      ?a1_200 (fun _ W => W) (fun _ W => Below.refl _ _) 9 ?assign_200 ?body_200 ?done_200 ?stop_200
    case assign_200 =>
      intro l' pre d W' K he hK
      clear he
      simp only [encN]
      gi_wp2
      exact hK
    case body_200 =>
      rintro l' pre d W0 Wr ⟨Wb, ⟨hlv, hti0⟩, hzb, hbb⟩ ⟨hpre, hlt, hx⟩ hsz hzA hnew
      have HTR := hide (hti0.below hbb)
      obtain ⟨k, hk⟩ : ∃ k, k = pre.length := ⟨_, rfl⟩
      rw [← hk] at hlv HTR hlt hx
      have HKP : Hid ((pre ++ [d]).length = k + 1) := hide (by simp [hk])
      have HGD := hide hx
      have HLV := hide hlv
      have HIR := hide (HIB.out.below HTR.out.bel)
      clear hnew hzA hti0 hlv hk hpre hbb hzb hsz
      obtain ⟨c4, c5, c6, f6, q1⟩ := HIR.out.cells
      rw [HVD.out] at q1
      obtain ⟨gS, oS, hAD, s0⟩ := HIR.out.at_ HVD.out k hlt
      rw [hAD] at q1
      have hee : ((l.getD k ⟨#[]⟩).toList == (l.getD k ⟨#[]⟩).toList) = true := by simp
      obtain ⟨t0, t1, t2⟩ := HTR.out.cells
      have hkl1 : ¬ l.length ≤ k := by omega
      have hkl2 : decide (l.length ≤ k) = false := by simpa using hkl1
      have hkl3 : (k : Int) < (l.length : Int) := by omega
      have hkl4 : ¬ ((l.length : Int) ≤ (k : Int)) := by omega
      have hk0 : (0 : Int) ≤ (k : Int) := by omega
      have hk100 : (k : Int) ≤ 2000000 := by have := HSL.out; omega
      have HADH := hide hAD
      rw [HGD.out] at HKP ⊢
      generalize l.getD k ⟨#[]⟩ = nm at *
      clear hx hlt hAD
      gi_wp2_with fail
      refine wpIn_region_quietG (by kernel_rfl) (by kernel_rfl) (by kernel_rfl) ?_
      repeat (go_big_quiet_step (fail))
      refine wpQuiet_nil ?_
      rintro _ ⟨nq, rfl⟩
      have HT2 := hide (HTR.out.below (bel_drewN (Below.refl _ _) nq))
      have HI2 := hide (HIR.out.below (bel_drewN (Below.refl _ _) nq))
      have HO2 : Hid (OutP (fun g => g = tc + 1) Wr (Wr.drewN nq)) := hide ((OutP.refl _ _).drewN nq)
      clear c4 c5 c6 f6 q1 s0 t0 t1 t2 HTR HIR hkl1 hkl2 hkl3 hkl4 hee
      generalize Wr.drewN nq = W2 at *
      have HT3 := hide (HT2.out.next (k + 1))
      have HO3 := hide (HO2.out.set ⟨tc + 1, 0, none⟩ rfl (.int .i64 ((k + 1 : Nat) : Int)))
      have HI3 := hide (HIB.out.below HT3.out.bel)
      have hkk : ((k + 1 : Nat) : Int) = (k : Int) + 1 := by omega
      rw [hkk] at HT3 HO3 HI3
      obtain ⟨t0, t1, t2⟩ := HT2.out.cells
      obtain ⟨r0, r1, _⟩ := HT3.out.cells
      rw [hkk] at r1
      obtain ⟨_, a5, _, _, _⟩ := HI3.out.cells
      clear hkk
      by_cases hkl : (k : Int) + 1 = lv
      · have elv : ((k : Int) + 1 == lv) = true := by rw [beq_iff_eq]; exact hkl
        have HKL := hide hkl
        clear hkl
        gi_wp2_with fail
        refine ⟨HO3.out, ⟨rfl, rfl, ?_, ?_⟩, ?_⟩
        · rw [HKP.out]; have := HKL.out; omega
        · have := HKL.out; omega
        · rw [HKP.out]; exact HT3.out
      · have elv : ((k : Int) + 1 == lv) = false := by rw [beq_eq_false_iff_ne]; exact hkl
        have HKL := hide hkl
        clear hkl
        gi_wp2_with fail
        refine ⟨HO3.out, fun _ => ?_, ?_⟩
        · rw [HKP.out]; have := HKL.out; have := HLV.out (by first | rfl | trivial); omega
        · rw [HKP.out]; exact HT3.out
    case done_200 =>
      rintro D0 xs WT0 hD hxs ⟨hlv, hti⟩ hK
      subst hxs
      rw [enumL_len] at hti hlv
      have HKD0 := hide hK
      have HTW0 := hide hti.bel
      have HDW0 : Hid (w4.heap.size ≤ D0) := hide (by have := HZT.out; have := HTW4.out; omega)
      have HT5 := hide hti
      have HIX := hide (HIB.out.below hti.bel)
      obtain ⟨t0, t1, _⟩ := hti.cells
      obtain ⟨c4, c5, _, _, q1⟩ := HIX.out.cells
      rw [HVD.out] at q1
      have HFW : Hid (∀ n, Below WT0.heap.size WT0 (WT0.drewN n)) := hide (fun n => bel_drewN (Below.refl _ _) n)
      gi_upto_region 15 with fail
      gi_cut [93] from 65 (fun z wx => z = .bool false ∧ WT0.drew = wx)
      case first =>
        obtain ⟨P, hP⟩ : ∃ P : World → Prop, P = fun W => W.cell? ⟨tc, 0, none⟩ = some (.int .i64 0) ∧ W.cell? ⟨tc + 1, 0, none⟩ = some (.int .i64 (l.length : Int)) ∧ W.cell? ⟨w.heap.size, 0, none⟩ = some (.pointer (some ⟨q, 0, none⟩)) ∧ W.cell? ⟨q, 0, none⟩ = some (.slice AD l.length cD) ∧ W.cell? ⟨w.heap.size + 1, 0, none⟩ = some (.int .i64 lv) := ⟨_, rfl⟩
        have hP0 : P WT0.drew := by rw [hP]; exact ⟨t0, t1, c4, q1, c5⟩
        have hkk : ((l.length : Int) != (l.length : Int)) = false := by simp
        clear t0 t1 c4 q1 c5
        gi_wp2_with fail
        refine wpIn_mono (Q := NoPanic _) ?_ NoPanic.imp
        refine wpIn_wide.2 ?_
        refine wp_region_U 29 P (by kernel_rfl) hP0 (fun hHeld => ?_)
        refine AnyU.take (i := 0) (v := ?v20101) rfl (by kernel_rfl) (by kernel_rfl) (by kernel_rfl) (by kernel_rfl) (fun _ _ _ h => h) (Or.inl ⟨by rfl, ?hy20101⟩) hHeld ?r20101
        case hy20101 => (intro w hSw; (try dsimp only at hSw); rw [hP] at hSw; obtain ⟨z0, z1, z2, z3, z4⟩ := hSw; go_simp <;> with_reducible rfl)
        simp only [Act.put, List.setIfInBounds_toArray, List.set_cons_zero, List.set_cons_succ]
        refine AnyU.take (i := 1) (v := ?v20102) rfl (by kernel_rfl) (by kernel_rfl) (by kernel_rfl) (by kernel_rfl) (fun _ _ _ h => h) (Or.inl ⟨by rfl, ?hy20102⟩) hHeld ?r20102
        case hy20102 => (intro w hSw; (try dsimp only at hSw); rw [hP] at hSw; obtain ⟨z0, z1, z2, z3, z4⟩ := hSw; go_simp <;> with_reducible rfl)
        simp only [Act.put, List.setIfInBounds_toArray, List.set_cons_zero, List.set_cons_succ]
        refine AnyU.take (i := 2) (v := ?v20103) rfl (by kernel_rfl) (by kernel_rfl) (by kernel_rfl) (by kernel_rfl) (fun _ _ _ h => h) (Or.inl ⟨by rfl, ?hy20103⟩) hHeld ?r20103
        case hy20103 => (intro w hSw; (try dsimp only at hSw); rw [hP] at hSw; obtain ⟨z0, z1, z2, z3, z4⟩ := hSw; go_simp <;> with_reducible rfl)
        simp only [Act.put, List.setIfInBounds_toArray, List.set_cons_zero, List.set_cons_succ]
        refine AnyU.take (i := 3) (v := undef) rfl (by kernel_rfl) (by kernel_rfl) (by kernel_rfl) (by kernel_rfl) (fun _ _ _ h => h) (Or.inr ⟨by rfl, rfl⟩) hHeld ?_
        simp only [Act.put, List.setIfInBounds_toArray, List.set_cons_zero, List.set_cons_succ]
        refine AnyU.take (i := 4) (v := undef) rfl (by kernel_rfl) (by kernel_rfl) (by kernel_rfl) (by kernel_rfl) (fun _ _ _ h => h) (Or.inr ⟨by rfl, rfl⟩) hHeld ?_
        simp only [Act.put, List.setIfInBounds_toArray, List.set_cons_zero, List.set_cons_succ]
        refine AnyU.take (i := 5) (v := undef) rfl (by kernel_rfl) (by kernel_rfl) (by kernel_rfl) (by kernel_rfl) (fun _ _ _ h => h) (Or.inr ⟨by rfl, rfl⟩) hHeld ?_
        simp only [Act.put, List.setIfInBounds_toArray, List.set_cons_zero, List.set_cons_succ]
        refine AnyU.take (i := 6) (v := undef) rfl (by kernel_rfl) (by kernel_rfl) (by kernel_rfl) (by kernel_rfl) (fun _ _ _ h => h) (Or.inr ⟨by rfl, rfl⟩) hHeld ?_
        simp only [Act.put, List.setIfInBounds_toArray, List.set_cons_zero, List.set_cons_succ]
        refine AnyU.take (i := 7) (v := undef) rfl (by kernel_rfl) (by kernel_rfl) (by kernel_rfl) (by kernel_rfl) (fun _ _ _ h => h) (Or.inr ⟨by rfl, rfl⟩) hHeld ?_
        simp only [Act.put, List.setIfInBounds_toArray, List.set_cons_zero, List.set_cons_succ]
        refine AnyU.take (i := 8) (v := undef) rfl (by kernel_rfl) (by kernel_rfl) (by kernel_rfl) (by kernel_rfl) (fun _ _ _ h => h) (Or.inr ⟨by rfl, rfl⟩) hHeld ?_
        simp only [Act.put, List.setIfInBounds_toArray, List.set_cons_zero, List.set_cons_succ]
        refine AnyU.take (i := 9) (v := undef) rfl (by kernel_rfl) (by kernel_rfl) (by kernel_rfl) (by kernel_rfl) (fun _ _ _ h => h) (Or.inr ⟨by rfl, rfl⟩) hHeld ?_
        simp only [Act.put, List.setIfInBounds_toArray, List.set_cons_zero, List.set_cons_succ]
        refine AnyU.take (i := 10) (v := ?v20111) rfl (by kernel_rfl) (by kernel_rfl) (by kernel_rfl) (by kernel_rfl) (fun _ _ _ h => h) (Or.inl ⟨by rfl, ?hy20111⟩) hHeld ?r20111
        case hy20111 => (intro w hSw; (try dsimp only at hSw); rw [hP] at hSw; obtain ⟨z0, z1, z2, z3, z4⟩ := hSw; go_simp <;> with_reducible rfl)
        simp only [Act.put, List.setIfInBounds_toArray, List.set_cons_zero, List.set_cons_succ]
        refine AnyU.take (i := 11) (v := ?v20112) rfl (by kernel_rfl) (by kernel_rfl) (by kernel_rfl) (by kernel_rfl) (fun _ _ _ h => h) (Or.inl ⟨by rfl, ?hy20112⟩) hHeld ?r20112
        case hy20112 => (intro w hSw; (try dsimp only at hSw); rw [hP] at hSw; obtain ⟨z0, z1, z2, z3, z4⟩ := hSw; go_simp <;> with_reducible rfl)
        simp only [Act.put, List.setIfInBounds_toArray, List.set_cons_zero, List.set_cons_succ]
        refine AnyU.take (i := 12) (v := ?v20113) rfl (by kernel_rfl) (by kernel_rfl) (by kernel_rfl) (by kernel_rfl) (fun _ _ _ h => h) (Or.inl ⟨by rfl, ?hy20113⟩) hHeld ?r20113
        case hy20113 => (intro w hSw; (try dsimp only at hSw); rw [hP] at hSw; obtain ⟨z0, z1, z2, z3, z4⟩ := hSw; go_simp <;> with_reducible rfl)
        simp only [Act.put, List.setIfInBounds_toArray, List.set_cons_zero, List.set_cons_succ]
        refine AnyU.take (i := 13) (v := ?v20114) rfl (by kernel_rfl) (by kernel_rfl) (by kernel_rfl) (by kernel_rfl) (fun _ _ _ h => h) (Or.inl ⟨by rfl, ?hy20114⟩) hHeld ?r20114
        case hy20114 => (intro w hSw; (try dsimp only at hSw); rw [hP] at hSw; obtain ⟨z0, z1, z2, z3, z4⟩ := hSw; go_simp <;> with_reducible rfl)
        simp only [Act.put, List.setIfInBounds_toArray, List.set_cons_zero, List.set_cons_succ]
        refine AnyU.take (i := 14) (v := ?v20115) rfl (by kernel_rfl) (by kernel_rfl) (by kernel_rfl) (by kernel_rfl) (fun _ _ _ h => h) (Or.inl ⟨by rfl, ?hy20115⟩) hHeld ?r20115
        case hy20115 => (intro w hSw; (try dsimp only at hSw); rw [hP] at hSw; obtain ⟨z0, z1, z2, z3, z4⟩ := hSw; go_simp <;> with_reducible rfl)
        simp only [Act.put, List.setIfInBounds_toArray, List.set_cons_zero, List.set_cons_succ]
        refine AnyU.take (i := 15) (v := ?v20116) rfl (by kernel_rfl) (by kernel_rfl) (by kernel_rfl) (by kernel_rfl) (fun _ _ _ h => h) (Or.inl ⟨by rfl, ?hy20116⟩) hHeld ?r20116
        case hy20116 => (intro w hSw; (try dsimp only at hSw); rw [hP] at hSw; obtain ⟨z0, z1, z2, z3, z4⟩ := hSw; go_simp <;> with_reducible rfl)
        simp only [Act.put, List.setIfInBounds_toArray, List.set_cons_zero, List.set_cons_succ]
        refine AnyU.take (i := 16) (v := ?v20117) rfl (by kernel_rfl) (by kernel_rfl) (by kernel_rfl) (by kernel_rfl) (fun _ _ _ h => h) (Or.inl ⟨by rfl, ?hy20117⟩) hHeld ?r20117
        case hy20117 => (intro w hSw; (try dsimp only at hSw); rw [hP] at hSw; obtain ⟨z0, z1, z2, z3, z4⟩ := hSw; go_simp <;> with_reducible rfl)
        simp only [Act.put, List.setIfInBounds_toArray, List.set_cons_zero, List.set_cons_succ]
        refine AnyU.take (i := 17) (v := ?v20118) rfl (by kernel_rfl) (by kernel_rfl) (by kernel_rfl) (by kernel_rfl) (fun _ _ _ h => h) (Or.inl ⟨by rfl, ?hy20118⟩) hHeld ?r20118
        case hy20118 => (intro w hSw; (try dsimp only at hSw); rw [hP] at hSw; obtain ⟨z0, z1, z2, z3, z4⟩ := hSw; go_simp <;> with_reducible rfl)
        simp only [Act.put, List.setIfInBounds_toArray, List.set_cons_zero, List.set_cons_succ]
        refine AnyU.take (i := 18) (v := ?v20119) rfl (by kernel_rfl) (by kernel_rfl) (by kernel_rfl) (by kernel_rfl) (fun _ _ _ h => h) (Or.inl ⟨by rfl, ?hy20119⟩) hHeld ?r20119
        case hy20119 => (intro w hSw; (try dsimp only at hSw); rw [hP] at hSw; obtain ⟨z0, z1, z2, z3, z4⟩ := hSw; go_simp <;> with_reducible rfl)
        simp only [Act.put, List.setIfInBounds_toArray, List.set_cons_zero, List.set_cons_succ]
        refine AnyU.take (i := 19) (v := ?v20120) rfl (by kernel_rfl) (by kernel_rfl) (by kernel_rfl) (by kernel_rfl) (fun _ _ _ h => h) (Or.inl ⟨by rfl, ?hy20120⟩) hHeld ?r20120
        case hy20120 => (intro w hSw; (try dsimp only at hSw); rw [hP] at hSw; obtain ⟨z0, z1, z2, z3, z4⟩ := hSw; go_simp <;> with_reducible rfl)
        simp only [Act.put, List.setIfInBounds_toArray, List.set_cons_zero, List.set_cons_succ]
        refine AnyU.take (i := 20) (v := ?v20121) rfl (by kernel_rfl) (by kernel_rfl) (by kernel_rfl) (by kernel_rfl) (fun _ _ _ h => h) (Or.inl ⟨by rfl, ?hy20121⟩) hHeld ?r20121
        case hy20121 => (intro w hSw; (try dsimp only at hSw); rw [hP] at hSw; obtain ⟨z0, z1, z2, z3, z4⟩ := hSw; go_simp <;> with_reducible rfl)
        simp only [Act.put, List.setIfInBounds_toArray, List.set_cons_zero, List.set_cons_succ]
        refine AnyU.take (i := 21) (v := .bool false) rfl (by kernel_rfl) (by kernel_rfl) (by kernel_rfl) (by kernel_rfl) (fun _ _ _ h => h) (Or.inl ⟨by rfl, ?hy20122⟩) hHeld ?r20122
        case hy20122 => (intro w hSw; (try dsimp only at hSw); rw [hP] at hSw; obtain ⟨z0, z1, z2, z3, z4⟩ := hSw; go_simp <;> first | with_reducible rfl | exact hkk | omega)
        simp only [Act.put, List.setIfInBounds_toArray, List.set_cons_zero, List.set_cons_succ]
        refine AnyU.take (i := 22) (v := ?v20123) rfl (by kernel_rfl) (by kernel_rfl) (by kernel_rfl) (by kernel_rfl) (fun _ _ _ h => h) (Or.inl ⟨by rfl, ?hy20123⟩) hHeld ?r20123
        case hy20123 => (intro w hSw; (try dsimp only at hSw); rw [hP] at hSw; obtain ⟨z0, z1, z2, z3, z4⟩ := hSw; go_simp <;> with_reducible rfl)
        simp only [Act.put, List.setIfInBounds_toArray, List.set_cons_zero, List.set_cons_succ]
        refine AnyU.take (i := 23) (v := ?v20124) rfl (by kernel_rfl) (by kernel_rfl) (by kernel_rfl) (by kernel_rfl) (fun _ _ _ h => h) (Or.inl ⟨by rfl, ?hy20124⟩) hHeld ?r20124
        case hy20124 => (intro w hSw; (try dsimp only at hSw); rw [hP] at hSw; obtain ⟨z0, z1, z2, z3, z4⟩ := hSw; go_simp <;> with_reducible rfl)
        simp only [Act.put, List.setIfInBounds_toArray, List.set_cons_zero, List.set_cons_succ]
        refine AnyU.take (i := 24) (v := undef) rfl (by kernel_rfl) (by kernel_rfl) (by kernel_rfl) (by kernel_rfl) (fun _ _ _ h => h) (Or.inr ⟨by rfl, rfl⟩) hHeld ?_
        simp only [Act.put, List.setIfInBounds_toArray, List.set_cons_zero, List.set_cons_succ]
        refine AnyU.take (i := 25) (v := undef) rfl (by kernel_rfl) (by kernel_rfl) (by kernel_rfl) (by kernel_rfl) (fun _ _ _ h => h) (Or.inr ⟨by rfl, rfl⟩) hHeld ?_
        simp only [Act.put, List.setIfInBounds_toArray, List.set_cons_zero, List.set_cons_succ]
        refine AnyU.take (i := 26) (v := undef) rfl (by kernel_rfl) (by kernel_rfl) (by kernel_rfl) (by kernel_rfl) (fun _ _ _ h => h) (Or.inr ⟨by rfl, rfl⟩) hHeld ?_
        simp only [Act.put, List.setIfInBounds_toArray, List.set_cons_zero, List.set_cons_succ]
        refine AnyU.take (i := 27) (v := ?v20128) rfl (by kernel_rfl) (by kernel_rfl) (by kernel_rfl) (by kernel_rfl) (fun _ _ _ h => h) (Or.inl ⟨by rfl, ?hy20128⟩) hHeld ?r20128
        case hy20128 => (intro w hSw; (try dsimp only at hSw); rw [hP] at hSw; obtain ⟨z0, z1, z2, z3, z4⟩ := hSw; go_simp <;> with_reducible rfl)
        simp only [Act.put, List.setIfInBounds_toArray, List.set_cons_zero, List.set_cons_succ]
        refine AnyU.take (i := 28) (v := ?v20129) rfl (by kernel_rfl) (by kernel_rfl) (by kernel_rfl) (by kernel_rfl) (fun _ _ _ h => h) (Or.inl ⟨by rfl, ?hy20129⟩) hHeld ?r20129
        case hy20129 => (intro w hSw; (try dsimp only at hSw); rw [hP] at hSw; obtain ⟨z0, z1, z2, z3, z4⟩ := hSw; go_simp <;> with_reducible rfl)
        simp only [Act.put, List.setIfInBounds_toArray, List.set_cons_zero, List.set_cons_succ]
        clear hHeld
        refine AnyU.over (by kernel_rfl) ?_ _
        refine NoPanic.normal ?_
        gi_wp2
        gi_meet
        exact ⟨rfl, rfl⟩
      case rest =>
        obtain ⟨rfl, rfl⟩ := hcut
        have HBD : Hid (Below WT0.heap.size WT0 WT0.drew) := hide (bel_drewN (Below.refl _ _) 1)
        have HTD := hide (HT5.out.below HBD.out)
        obtain ⟨t0, t1, _⟩ := HTD.out.cells
        have HIB2 := hide (HIX.out.below HBD.out)
        have HB4r2 : Hid (Below w4.heap.size w4 WT0.drew) := hide (HB4r.out.trans ((HTW0.out.trans (HBD.out.mono HTW0.out.size)).mono HB4r.out.size))
        have HKD0d : Hid (WT0.drew.heap[D0]? = some (.deferred (some []))) := hide HKD0.out
        generalize WT0.drew = WX at *
        replace HIB := HIB2
        replace HB4r := HB4r2
        replace HKD0 := HKD0d
        clear HT5 HIX HTD HIB2 HB4r2 HTW0 HBD HKD0d
        gi_wp2_with fail
        rw [roundsIn_succ]
        have HT1 := hide (TurnT.start WX 1)
        clear t0 t1 HZT HTI HTC HTW4
        gi_wp2_with fail
        generalize (WX.alloc (.cells #[.int .i64 1] 3)).alloc (.cells #[.int .i64 0] 3) = ws203 at *
        obtain ⟨tc, htc⟩ : ∃ tc, tc = WX.heap.size := ⟨_, rfl⟩
        have HZT : Hid (ws203.heap.size = tc + 2) := hide (by rw [htc]; exact HT1.out.2)
        have HTI := hide HT1.out.1
        have HTC := hide htc
        rw [← htc] at HTI ⊢
        have HTW4 : Hid (w4.heap.size ≤ tc) := hide (by rw [htc]; exact HB4r.out.size)
        clear htc HT1
        refine wpIn_rangeSeqB (α := Nat × ByteArray) (encs := encN) (E := NextN l) (S := fun xs => xs = enumL l l.length) (Sp := fun pre => pre = enumL l pre.length ∧ pre.length ≤ l.length ∧ 0 < pre.length) (gf := 48) (lb := #[.pointer (some ⟨bA, 0, none⟩)]) rfl (enters_of Try.func48 (by kernel_rfl) rfl) (fun g => g = tc + 1) (fun h => by have := HZT.out; omega) (fun h => by have := HZT.out; omega)
          (fun W2 hb hz => names_seq (((HB4r.out.trans ((HTI.out.bel.trans (hb.mono HTI.out.bel.size)).mono HB4r.out.size)).block _ (lt_of_block HXA.out)).trans HXA.out) (HRA.out.below (HB4r.out.trans ((HTI.out.bel.trans (hb.mono HTI.out.bel.size)).mono HB4r.out.size))) (by have := HZT.out; have := HTW4.out; omega) HSL.out (fun g hg e => by have := HHP.out g e; have := HTW4.out; have := HZT.out; rcases hg with hg | hg <;> omega)) (fun _ => rfl)
          (InvT 1 lv WX tc) (StopT 1 lv WX tc)
          (fun s X Y row hs hg hr => ⟨hs.1, hs.2.grown hg (fun r e => by have := hr r e; have := HZT.out; have := HTC.out; exact ⟨by omega, (hr r e).2⟩)⟩) (fun c' s X Y row hs hg hr => ⟨hs.1, hs.2.grown hg (fun r e => by have := hr r e; have := HZT.out; have := HTC.out; exact ⟨by omega, (hr r e).2⟩)⟩) ⟨fun _ => by simp only [List.length_nil]; omega, HTI.out⟩
          ?a1_203 (fun _ W => W) (fun _ W => Below.refl _ _) 9 ?assign_203 ?body_203 ?done_203 ?stop_203
        case assign_203 =>
          intro l' pre d W' K he hK
          clear he
          simp only [encN]
          gi_wp2
          exact hK
        case body_203 =>
          rintro l' pre d W0 Wr ⟨Wb, ⟨hlv, hti0⟩, hzb, hbb⟩ ⟨hpre, hlt, hx⟩ hsz hzA hnew
          have HTR := hide (hti0.below hbb)
          obtain ⟨k, hk⟩ : ∃ k, k = pre.length := ⟨_, rfl⟩
          rw [← hk] at hlv HTR hlt hx
          have HKP : Hid ((pre ++ [d]).length = k + 1) := hide (by simp [hk])
          have HGD := hide hx
          have HLV := hide hlv
          have HIR := hide (HIB.out.below HTR.out.bel)
          clear hnew hzA hti0 hlv hk hpre hbb hzb hsz
          obtain ⟨c4, c5, c6, f6, q1⟩ := HIR.out.cells
          rw [HVD.out] at q1
          obtain ⟨gS, oS, hAD, s0⟩ := HIR.out.at_ HVD.out k hlt
          rw [hAD] at q1
          have hee : ((l.getD k ⟨#[]⟩).toList == (l.getD k ⟨#[]⟩).toList) = true := by simp
          obtain ⟨t0, t1, t2⟩ := HTR.out.cells
          have hkl1 : ¬ l.length ≤ k := by omega
          have hkl2 : decide (l.length ≤ k) = false := by simpa using hkl1
          have hkl3 : (k : Int) < (l.length : Int) := by omega
          have hkl4 : ¬ ((l.length : Int) ≤ (k : Int)) := by omega
          have hk0 : (0 : Int) ≤ (k : Int) := by omega
          have hk100 : (k : Int) ≤ 2000000 := by have := HSL.out; omega
          have HADH := hide hAD
          rw [HGD.out] at HKP ⊢
          generalize l.getD k ⟨#[]⟩ = nm at *
          clear hx hlt hAD
          gi_wp2_with fail
          refine wpIn_region_quietG (by kernel_rfl) (by kernel_rfl) (by kernel_rfl) ?_
          repeat (go_big_quiet_step (fail))
          refine wpQuiet_nil ?_
          rintro _ ⟨nq, rfl⟩
          have HT2 := hide (HTR.out.below (bel_drewN (Below.refl _ _) nq))
          have HI2 := hide (HIR.out.below (bel_drewN (Below.refl _ _) nq))
          have HO2 : Hid (OutP (fun g => g = tc + 1) Wr (Wr.drewN nq)) := hide ((OutP.refl _ _).drewN nq)
          clear c4 c5 c6 f6 q1 s0 t0 t1 t2 HTR HIR hkl1 hkl2 hkl3 hkl4 hee
          generalize Wr.drewN nq = W2 at *
          have HT3 := hide (HT2.out.next (k + 1))
          have HO3 := hide (HO2.out.set ⟨tc + 1, 0, none⟩ rfl (.int .i64 ((k + 1 : Nat) : Int)))
          have HI3 := hide (HIB.out.below HT3.out.bel)
          have hkk : ((k + 1 : Nat) : Int) = (k : Int) + 1 := by omega
          rw [hkk] at HT3 HO3 HI3
          obtain ⟨t0, t1, t2⟩ := HT2.out.cells
          obtain ⟨r0, r1, _⟩ := HT3.out.cells
          rw [hkk] at r1
          obtain ⟨_, a5, _, _, _⟩ := HI3.out.cells
          clear hkk
          gi_wp2_with fail
          refine ⟨HO3.out, fun h => absurd h (by decide), ?_⟩
          rw [HKP.out]
          exact HT3.out
        case done_203 =>
          rintro D1 xs WT1 hD hxs ⟨_, hti⟩ hK
          subst hxs
          rw [enumL_len] at hti
          have HKD1 := hide hK
          have HTW1 := hide hti.bel
          have HDW1 : Hid (WX.heap.size ≤ D1) := hide (by have := HZT.out; have := HTC.out; omega)
          have HT5 := hide hti
          have HIX := hide (HIB.out.below hti.bel)
          obtain ⟨t0, t1, _⟩ := hti.cells
          obtain ⟨c4, _, _, _, q1⟩ := HIX.out.cells
          rw [HVD.out] at q1
          have hkk : ((l.length : Int) != (l.length : Int)) = false := by simp
          obtain ⟨P, hP⟩ : ∃ P : World → Prop, P = fun W => W.cell? ⟨tc, 0, none⟩ = some (.int .i64 1) ∧ W.cell? ⟨tc + 1, 0, none⟩ = some (.int .i64 (l.length : Int)) ∧ W.cell? ⟨w.heap.size, 0, none⟩ = some (.pointer (some ⟨q, 0, none⟩)) ∧ W.cell? ⟨q, 0, none⟩ = some (.slice AD l.length cD) := ⟨_, rfl⟩
          have hP0 : P WT1.drew := by rw [hP]; exact ⟨t0, t1, c4, q1⟩
          clear t0 t1 c4 q1
          gi_wp2_with fail
          refine wpIn_mono (Q := NoPanic _) ?_ NoPanic.imp
          refine wpIn_wide.2 ?_
          refine wp_region_U 29 P (by kernel_rfl) hP0 (fun hHeld => ?_)
          refine AnyU.take (i := 0) (v := ?v20301) rfl (by kernel_rfl) (by kernel_rfl) (by kernel_rfl) (by kernel_rfl) (fun _ _ _ h => h) (Or.inl ⟨by rfl, ?hy20301⟩) hHeld ?r20301
          case hy20301 => (intro w hSw; (try dsimp only at hSw); rw [hP] at hSw; obtain ⟨z0, z1, z2, z3⟩ := hSw; go_simp <;> with_reducible rfl)
          simp only [Act.put, List.setIfInBounds_toArray, List.set_cons_zero, List.set_cons_succ]
          refine AnyU.take (i := 1) (v := ?v20302) rfl (by kernel_rfl) (by kernel_rfl) (by kernel_rfl) (by kernel_rfl) (fun _ _ _ h => h) (Or.inl ⟨by rfl, ?hy20302⟩) hHeld ?r20302
          case hy20302 => (intro w hSw; (try dsimp only at hSw); rw [hP] at hSw; obtain ⟨z0, z1, z2, z3⟩ := hSw; go_simp <;> with_reducible rfl)
          simp only [Act.put, List.setIfInBounds_toArray, List.set_cons_zero, List.set_cons_succ]
          refine AnyU.take (i := 2) (v := ?v20303) rfl (by kernel_rfl) (by kernel_rfl) (by kernel_rfl) (by kernel_rfl) (fun _ _ _ h => h) (Or.inl ⟨by rfl, ?hy20303⟩) hHeld ?r20303
          case hy20303 => (intro w hSw; (try dsimp only at hSw); rw [hP] at hSw; obtain ⟨z0, z1, z2, z3⟩ := hSw; go_simp <;> with_reducible rfl)
          simp only [Act.put, List.setIfInBounds_toArray, List.set_cons_zero, List.set_cons_succ]
          refine AnyU.take (i := 3) (v := ?v20304) rfl (by kernel_rfl) (by kernel_rfl) (by kernel_rfl) (by kernel_rfl) (fun _ _ _ h => h) (Or.inl ⟨by rfl, ?hy20304⟩) hHeld ?r20304
          case hy20304 => (intro w hSw; (try dsimp only at hSw); rw [hP] at hSw; obtain ⟨z0, z1, z2, z3⟩ := hSw; go_simp <;> with_reducible rfl)
          simp only [Act.put, List.setIfInBounds_toArray, List.set_cons_zero, List.set_cons_succ]
          refine AnyU.take (i := 4) (v := ?v20305) rfl (by kernel_rfl) (by kernel_rfl) (by kernel_rfl) (by kernel_rfl) (fun _ _ _ h => h) (Or.inl ⟨by rfl, ?hy20305⟩) hHeld ?r20305
          case hy20305 => (intro w hSw; (try dsimp only at hSw); rw [hP] at hSw; obtain ⟨z0, z1, z2, z3⟩ := hSw; go_simp <;> with_reducible rfl)
          simp only [Act.put, List.setIfInBounds_toArray, List.set_cons_zero, List.set_cons_succ]
          refine AnyU.take (i := 5) (v := ?v20306) rfl (by kernel_rfl) (by kernel_rfl) (by kernel_rfl) (by kernel_rfl) (fun _ _ _ h => h) (Or.inl ⟨by rfl, ?hy20306⟩) hHeld ?r20306
          case hy20306 => (intro w hSw; (try dsimp only at hSw); rw [hP] at hSw; obtain ⟨z0, z1, z2, z3⟩ := hSw; go_simp <;> with_reducible rfl)
          simp only [Act.put, List.setIfInBounds_toArray, List.set_cons_zero, List.set_cons_succ]
          refine AnyU.take (i := 6) (v := ?v20307) rfl (by kernel_rfl) (by kernel_rfl) (by kernel_rfl) (by kernel_rfl) (fun _ _ _ h => h) (Or.inl ⟨by rfl, ?hy20307⟩) hHeld ?r20307
          case hy20307 => (intro w hSw; (try dsimp only at hSw); rw [hP] at hSw; obtain ⟨z0, z1, z2, z3⟩ := hSw; go_simp <;> with_reducible rfl)
          simp only [Act.put, List.setIfInBounds_toArray, List.set_cons_zero, List.set_cons_succ]
          refine AnyU.take (i := 7) (v := ?v20308) rfl (by kernel_rfl) (by kernel_rfl) (by kernel_rfl) (by kernel_rfl) (fun _ _ _ h => h) (Or.inl ⟨by rfl, ?hy20308⟩) hHeld ?r20308
          case hy20308 => (intro w hSw; (try dsimp only at hSw); rw [hP] at hSw; obtain ⟨z0, z1, z2, z3⟩ := hSw; go_simp <;> with_reducible rfl)
          simp only [Act.put, List.setIfInBounds_toArray, List.set_cons_zero, List.set_cons_succ]
          refine AnyU.take (i := 8) (v := ?v20309) rfl (by kernel_rfl) (by kernel_rfl) (by kernel_rfl) (by kernel_rfl) (fun _ _ _ h => h) (Or.inl ⟨by rfl, ?hy20309⟩) hHeld ?r20309
          case hy20309 => (intro w hSw; (try dsimp only at hSw); rw [hP] at hSw; obtain ⟨z0, z1, z2, z3⟩ := hSw; go_simp <;> with_reducible rfl)
          simp only [Act.put, List.setIfInBounds_toArray, List.set_cons_zero, List.set_cons_succ]
          refine AnyU.take (i := 9) (v := .bool false) rfl (by kernel_rfl) (by kernel_rfl) (by kernel_rfl) (by kernel_rfl) (fun _ _ _ h => h) (Or.inl ⟨by rfl, ?hy20310⟩) hHeld ?r20310
          case hy20310 => (intro w hSw; (try dsimp only at hSw); rw [hP] at hSw; obtain ⟨z0, z1, z2, z3⟩ := hSw; go_simp <;> first | with_reducible rfl | exact hkk | omega)
          simp only [Act.put, List.setIfInBounds_toArray, List.set_cons_zero, List.set_cons_succ]
          refine AnyU.take (i := 10) (v := ?v20311) rfl (by kernel_rfl) (by kernel_rfl) (by kernel_rfl) (by kernel_rfl) (fun _ _ _ h => h) (Or.inl ⟨by rfl, ?hy20311⟩) hHeld ?r20311
          case hy20311 => (intro w hSw; (try dsimp only at hSw); rw [hP] at hSw; obtain ⟨z0, z1, z2, z3⟩ := hSw; go_simp <;> with_reducible rfl)
          simp only [Act.put, List.setIfInBounds_toArray, List.set_cons_zero, List.set_cons_succ]
          refine AnyU.take (i := 11) (v := ?v20312) rfl (by kernel_rfl) (by kernel_rfl) (by kernel_rfl) (by kernel_rfl) (fun _ _ _ h => h) (Or.inl ⟨by rfl, ?hy20312⟩) hHeld ?r20312
          case hy20312 => (intro w hSw; (try dsimp only at hSw); rw [hP] at hSw; obtain ⟨z0, z1, z2, z3⟩ := hSw; go_simp <;> with_reducible rfl)
          simp only [Act.put, List.setIfInBounds_toArray, List.set_cons_zero, List.set_cons_succ]
          refine AnyU.take (i := 12) (v := ?v20313) rfl (by kernel_rfl) (by kernel_rfl) (by kernel_rfl) (by kernel_rfl) (fun _ _ _ h => h) (Or.inl ⟨by rfl, ?hy20313⟩) hHeld ?r20313
          case hy20313 => (intro w hSw; (try dsimp only at hSw); rw [hP] at hSw; obtain ⟨z0, z1, z2, z3⟩ := hSw; go_simp <;> with_reducible rfl)
          simp only [Act.put, List.setIfInBounds_toArray, List.set_cons_zero, List.set_cons_succ]
          refine AnyU.take (i := 13) (v := ?v20314) rfl (by kernel_rfl) (by kernel_rfl) (by kernel_rfl) (by kernel_rfl) (fun _ _ _ h => h) (Or.inl ⟨by rfl, ?hy20314⟩) hHeld ?r20314
          case hy20314 => (intro w hSw; (try dsimp only at hSw); rw [hP] at hSw; obtain ⟨z0, z1, z2, z3⟩ := hSw; go_simp <;> with_reducible rfl)
          simp only [Act.put, List.setIfInBounds_toArray, List.set_cons_zero, List.set_cons_succ]
          refine AnyU.take (i := 14) (v := ?v20315) rfl (by kernel_rfl) (by kernel_rfl) (by kernel_rfl) (by kernel_rfl) (fun _ _ _ h => h) (Or.inl ⟨by rfl, ?hy20315⟩) hHeld ?r20315
          case hy20315 => (intro w hSw; (try dsimp only at hSw); rw [hP] at hSw; obtain ⟨z0, z1, z2, z3⟩ := hSw; go_simp <;> with_reducible rfl)
          simp only [Act.put, List.setIfInBounds_toArray, List.set_cons_zero, List.set_cons_succ]
          refine AnyU.take (i := 15) (v := undef) rfl (by kernel_rfl) (by kernel_rfl) (by kernel_rfl) (by kernel_rfl) (fun _ _ _ h => h) (Or.inr ⟨by rfl, rfl⟩) hHeld ?_
          simp only [Act.put, List.setIfInBounds_toArray, List.set_cons_zero, List.set_cons_succ]
          refine AnyU.take (i := 16) (v := undef) rfl (by kernel_rfl) (by kernel_rfl) (by kernel_rfl) (by kernel_rfl) (fun _ _ _ h => h) (Or.inr ⟨by rfl, rfl⟩) hHeld ?_
          simp only [Act.put, List.setIfInBounds_toArray, List.set_cons_zero, List.set_cons_succ]
          refine AnyU.take (i := 17) (v := undef) rfl (by kernel_rfl) (by kernel_rfl) (by kernel_rfl) (by kernel_rfl) (fun _ _ _ h => h) (Or.inr ⟨by rfl, rfl⟩) hHeld ?_
          simp only [Act.put, List.setIfInBounds_toArray, List.set_cons_zero, List.set_cons_succ]
          refine AnyU.take (i := 18) (v := undef) rfl (by kernel_rfl) (by kernel_rfl) (by kernel_rfl) (by kernel_rfl) (fun _ _ _ h => h) (Or.inr ⟨by rfl, rfl⟩) hHeld ?_
          simp only [Act.put, List.setIfInBounds_toArray, List.set_cons_zero, List.set_cons_succ]
          refine AnyU.take (i := 19) (v := undef) rfl (by kernel_rfl) (by kernel_rfl) (by kernel_rfl) (by kernel_rfl) (fun _ _ _ h => h) (Or.inr ⟨by rfl, rfl⟩) hHeld ?_
          simp only [Act.put, List.setIfInBounds_toArray, List.set_cons_zero, List.set_cons_succ]
          refine AnyU.take (i := 20) (v := undef) rfl (by kernel_rfl) (by kernel_rfl) (by kernel_rfl) (by kernel_rfl) (fun _ _ _ h => h) (Or.inr ⟨by rfl, rfl⟩) hHeld ?_
          simp only [Act.put, List.setIfInBounds_toArray, List.set_cons_zero, List.set_cons_succ]
          refine AnyU.take (i := 21) (v := undef) rfl (by kernel_rfl) (by kernel_rfl) (by kernel_rfl) (by kernel_rfl) (fun _ _ _ h => h) (Or.inr ⟨by rfl, rfl⟩) hHeld ?_
          simp only [Act.put, List.setIfInBounds_toArray, List.set_cons_zero, List.set_cons_succ]
          refine AnyU.take (i := 22) (v := ?v20323) rfl (by kernel_rfl) (by kernel_rfl) (by kernel_rfl) (by kernel_rfl) (fun _ _ _ h => h) (Or.inl ⟨by rfl, ?hy20323⟩) hHeld ?r20323
          case hy20323 => (intro w hSw; (try dsimp only at hSw); rw [hP] at hSw; obtain ⟨z0, z1, z2, z3⟩ := hSw; go_simp <;> with_reducible rfl)
          simp only [Act.put, List.setIfInBounds_toArray, List.set_cons_zero, List.set_cons_succ]
          refine AnyU.take (i := 23) (v := ?v20324) rfl (by kernel_rfl) (by kernel_rfl) (by kernel_rfl) (by kernel_rfl) (fun _ _ _ h => h) (Or.inl ⟨by rfl, ?hy20324⟩) hHeld ?r20324
          case hy20324 => (intro w hSw; (try dsimp only at hSw); rw [hP] at hSw; obtain ⟨z0, z1, z2, z3⟩ := hSw; go_simp <;> with_reducible rfl)
          simp only [Act.put, List.setIfInBounds_toArray, List.set_cons_zero, List.set_cons_succ]
          refine AnyU.take (i := 24) (v := undef) rfl (by kernel_rfl) (by kernel_rfl) (by kernel_rfl) (by kernel_rfl) (fun _ _ _ h => h) (Or.inr ⟨by rfl, rfl⟩) hHeld ?_
          simp only [Act.put, List.setIfInBounds_toArray, List.set_cons_zero, List.set_cons_succ]
          refine AnyU.take (i := 25) (v := undef) rfl (by kernel_rfl) (by kernel_rfl) (by kernel_rfl) (by kernel_rfl) (fun _ _ _ h => h) (Or.inr ⟨by rfl, rfl⟩) hHeld ?_
          simp only [Act.put, List.setIfInBounds_toArray, List.set_cons_zero, List.set_cons_succ]
          refine AnyU.take (i := 26) (v := undef) rfl (by kernel_rfl) (by kernel_rfl) (by kernel_rfl) (by kernel_rfl) (fun _ _ _ h => h) (Or.inr ⟨by rfl, rfl⟩) hHeld ?_
          simp only [Act.put, List.setIfInBounds_toArray, List.set_cons_zero, List.set_cons_succ]
          refine AnyU.take (i := 27) (v := ?v20328) rfl (by kernel_rfl) (by kernel_rfl) (by kernel_rfl) (by kernel_rfl) (fun _ _ _ h => h) (Or.inl ⟨by rfl, ?hy20328⟩) hHeld ?r20328
          case hy20328 => (intro w hSw; (try dsimp only at hSw); rw [hP] at hSw; obtain ⟨z0, z1, z2, z3⟩ := hSw; go_simp <;> with_reducible rfl)
          simp only [Act.put, List.setIfInBounds_toArray, List.set_cons_zero, List.set_cons_succ]
          refine AnyU.take (i := 28) (v := ?v20329) rfl (by kernel_rfl) (by kernel_rfl) (by kernel_rfl) (by kernel_rfl) (fun _ _ _ h => h) (Or.inl ⟨by rfl, ?hy20329⟩) hHeld ?r20329
          case hy20329 => (intro w hSw; (try dsimp only at hSw); rw [hP] at hSw; obtain ⟨z0, z1, z2, z3⟩ := hSw; go_simp <;> with_reducible rfl)
          simp only [Act.put, List.setIfInBounds_toArray, List.set_cons_zero, List.set_cons_succ]
          clear hHeld
          refine AnyU.over (by kernel_rfl) ?_ _
          refine NoPanic.normal ?_
          have HBD : Hid (Below WT1.heap.size WT1 WT1.drew) := hide (bel_drewN (Below.refl _ _) 1)
          have HTD := hide (HT5.out.below HBD.out)
          have HIZ := hide (HIX.out.below HBD.out)
          have HKD1d : Hid (WT1.drew.heap[D1]? = some (.deferred (some []))) := hide HKD1.out
          have HKD0d : Hid (WT1.drew.heap[D0]? = some (.deferred (some []))) := hide ((HTW1.out.block _ (lt_of_block HKD0.out)).trans HKD0.out)
          obtain ⟨t0, t1, _⟩ := HTD.out.cells
          have HLTD : Hid (D0 < WX.heap.size) := hide (lt_of_block HKD0.out)
          generalize WT1.drew = WY at *
          clear hP0 hP
          gi_wp2_with fail
          rw [roundsIn_succ]
          have HBk : Hid (Below WY.heap.size WY (WY.alloc (.cells #[.int .i64 2] 3))) := hide ((Below.refl _ _).alloc (Nat.le_refl _) _)
          have HIk := hide (HIZ.out.below HBk.out)
          have HK0 := hide ((HBk.out.block _ (lt_of_block HKD0d.out)).trans HKD0d.out)
          have HK1 := hide ((HBk.out.block _ (lt_of_block HKD1d.out)).trans HKD1d.out)
          obtain ⟨_, _, c6, f6, _⟩ := HIk.out.cells
          clear t0 t1
          gi_wp2_with fail
          have hK1' := (KeepsOthers.setCell (WY.alloc (.cells #[.int .i64 2] 3)) ⟨w.heap.size + 2, 0, none⟩ (.bool true)).same D1 _ HK1.out rfl
          have hK0' := (KeepsOthers.setCell (WY.alloc (.cells #[.int .i64 2] 3)) ⟨w.heap.size + 2, 0, none⟩ (.bool true)).same D0 _ HK0.out rfl
          exact told_end (HIk.out.yes) (by have := HDW0.out; have := HW4.out; omega) (by have := HDW1.out; have := HLTD.out; have := HDW0.out; have := HW4.out; omega) (by have := HDW1.out; have := HLTD.out; omega) hK0' hK1' (fun W' h => by simp [results, Try.results15, go_sem, h])
        case stop_203 =>
          rintro D1 c' pre WT1 hD hpre ⟨⟨rfl, hT, hkl, hl0⟩, hti⟩ hK
          exact absurd hT (by decide)
    case stop_200 =>
      rintro D0 c' pre WT0 hD ⟨hpre, hple, hp0⟩ ⟨⟨rfl, _, hkl, hl0⟩, hti⟩ hK
      generalize pre.length = kx at *
      clear hpre
      have HKD0 := hide hK
      have HTW0 := hide hti.bel
      have HDW0 : Hid (w4.heap.size ≤ D0) := hide (by have := HZT.out; have := HTW4.out; omega)
      have HT5 := hide hti
      have HIX := hide (HIB.out.below hti.bel)
      obtain ⟨t0, t1, _⟩ := hti.cells
      obtain ⟨c4, c5, _, _, q1⟩ := HIX.out.cells
      rw [HVD.out] at q1
      gi_upto_region 15 with fail
      gi_cut [93] from 65 (fun z wx => z = .bool false ∧ WT0.drew = wx)
      case first =>
        subst hkl
        by_cases hks : kx = l.length
        · have hks2 : l.length = kx := hks.symm
          rw [hks2] at q1
          clear hks hks2
          obtain ⟨P, hP⟩ : ∃ P : World → Prop, P = fun W => W.cell? ⟨tc, 0, none⟩ = some (.int .i64 0) ∧ W.cell? ⟨tc + 1, 0, none⟩ = some (.int .i64 (kx : Int)) ∧ W.cell? ⟨w.heap.size, 0, none⟩ = some (.pointer (some ⟨q, 0, none⟩)) ∧ W.cell? ⟨q, 0, none⟩ = some (.slice AD kx cD) ∧ W.cell? ⟨w.heap.size + 1, 0, none⟩ = some (.int .i64 (kx : Int)) := ⟨_, rfl⟩
          have hP0 : P WT0.drew := by rw [hP]; exact ⟨t0, t1, c4, q1, c5⟩
          have hkk : ((kx : Int) != (kx : Int)) = false := by simp
          clear t0 t1 c4 q1 c5
          gi_wp2_with fail
          refine wpIn_mono (Q := NoPanic _) ?_ NoPanic.imp
          refine wpIn_wide.2 ?_
          refine wp_region_U 29 P (by kernel_rfl) hP0 (fun hHeld => ?_)
          refine AnyU.take (i := 0) (v := ?v25001) rfl (by kernel_rfl) (by kernel_rfl) (by kernel_rfl) (by kernel_rfl) (fun _ _ _ h => h) (Or.inl ⟨by rfl, ?hy25001⟩) hHeld ?r25001
          case hy25001 => (intro w hSw; (try dsimp only at hSw); rw [hP] at hSw; obtain ⟨z0, z1, z2, z3, z4⟩ := hSw; go_simp <;> with_reducible rfl)
          simp only [Act.put, List.setIfInBounds_toArray, List.set_cons_zero, List.set_cons_succ]
          refine AnyU.take (i := 1) (v := ?v25002) rfl (by kernel_rfl) (by kernel_rfl) (by kernel_rfl) (by kernel_rfl) (fun _ _ _ h => h) (Or.inl ⟨by rfl, ?hy25002⟩) hHeld ?r25002
          case hy25002 => (intro w hSw; (try dsimp only at hSw); rw [hP] at hSw; obtain ⟨z0, z1, z2, z3, z4⟩ := hSw; go_simp <;> with_reducible rfl)
          simp only [Act.put, List.setIfInBounds_toArray, List.set_cons_zero, List.set_cons_succ]
          refine AnyU.take (i := 2) (v := ?v25003) rfl (by kernel_rfl) (by kernel_rfl) (by kernel_rfl) (by kernel_rfl) (fun _ _ _ h => h) (Or.inl ⟨by rfl, ?hy25003⟩) hHeld ?r25003
          case hy25003 => (intro w hSw; (try dsimp only at hSw); rw [hP] at hSw; obtain ⟨z0, z1, z2, z3, z4⟩ := hSw; go_simp <;> with_reducible rfl)
          simp only [Act.put, List.setIfInBounds_toArray, List.set_cons_zero, List.set_cons_succ]
          refine AnyU.take (i := 3) (v := undef) rfl (by kernel_rfl) (by kernel_rfl) (by kernel_rfl) (by kernel_rfl) (fun _ _ _ h => h) (Or.inr ⟨by rfl, rfl⟩) hHeld ?_
          simp only [Act.put, List.setIfInBounds_toArray, List.set_cons_zero, List.set_cons_succ]
          refine AnyU.take (i := 4) (v := undef) rfl (by kernel_rfl) (by kernel_rfl) (by kernel_rfl) (by kernel_rfl) (fun _ _ _ h => h) (Or.inr ⟨by rfl, rfl⟩) hHeld ?_
          simp only [Act.put, List.setIfInBounds_toArray, List.set_cons_zero, List.set_cons_succ]
          refine AnyU.take (i := 5) (v := undef) rfl (by kernel_rfl) (by kernel_rfl) (by kernel_rfl) (by kernel_rfl) (fun _ _ _ h => h) (Or.inr ⟨by rfl, rfl⟩) hHeld ?_
          simp only [Act.put, List.setIfInBounds_toArray, List.set_cons_zero, List.set_cons_succ]
          refine AnyU.take (i := 6) (v := undef) rfl (by kernel_rfl) (by kernel_rfl) (by kernel_rfl) (by kernel_rfl) (fun _ _ _ h => h) (Or.inr ⟨by rfl, rfl⟩) hHeld ?_
          simp only [Act.put, List.setIfInBounds_toArray, List.set_cons_zero, List.set_cons_succ]
          refine AnyU.take (i := 7) (v := undef) rfl (by kernel_rfl) (by kernel_rfl) (by kernel_rfl) (by kernel_rfl) (fun _ _ _ h => h) (Or.inr ⟨by rfl, rfl⟩) hHeld ?_
          simp only [Act.put, List.setIfInBounds_toArray, List.set_cons_zero, List.set_cons_succ]
          refine AnyU.take (i := 8) (v := undef) rfl (by kernel_rfl) (by kernel_rfl) (by kernel_rfl) (by kernel_rfl) (fun _ _ _ h => h) (Or.inr ⟨by rfl, rfl⟩) hHeld ?_
          simp only [Act.put, List.setIfInBounds_toArray, List.set_cons_zero, List.set_cons_succ]
          refine AnyU.take (i := 9) (v := undef) rfl (by kernel_rfl) (by kernel_rfl) (by kernel_rfl) (by kernel_rfl) (fun _ _ _ h => h) (Or.inr ⟨by rfl, rfl⟩) hHeld ?_
          simp only [Act.put, List.setIfInBounds_toArray, List.set_cons_zero, List.set_cons_succ]
          refine AnyU.take (i := 10) (v := ?v25011) rfl (by kernel_rfl) (by kernel_rfl) (by kernel_rfl) (by kernel_rfl) (fun _ _ _ h => h) (Or.inl ⟨by rfl, ?hy25011⟩) hHeld ?r25011
          case hy25011 => (intro w hSw; (try dsimp only at hSw); rw [hP] at hSw; obtain ⟨z0, z1, z2, z3, z4⟩ := hSw; go_simp <;> with_reducible rfl)
          simp only [Act.put, List.setIfInBounds_toArray, List.set_cons_zero, List.set_cons_succ]
          refine AnyU.take (i := 11) (v := ?v25012) rfl (by kernel_rfl) (by kernel_rfl) (by kernel_rfl) (by kernel_rfl) (fun _ _ _ h => h) (Or.inl ⟨by rfl, ?hy25012⟩) hHeld ?r25012
          case hy25012 => (intro w hSw; (try dsimp only at hSw); rw [hP] at hSw; obtain ⟨z0, z1, z2, z3, z4⟩ := hSw; go_simp <;> with_reducible rfl)
          simp only [Act.put, List.setIfInBounds_toArray, List.set_cons_zero, List.set_cons_succ]
          refine AnyU.take (i := 12) (v := ?v25013) rfl (by kernel_rfl) (by kernel_rfl) (by kernel_rfl) (by kernel_rfl) (fun _ _ _ h => h) (Or.inl ⟨by rfl, ?hy25013⟩) hHeld ?r25013
          case hy25013 => (intro w hSw; (try dsimp only at hSw); rw [hP] at hSw; obtain ⟨z0, z1, z2, z3, z4⟩ := hSw; go_simp <;> with_reducible rfl)
          simp only [Act.put, List.setIfInBounds_toArray, List.set_cons_zero, List.set_cons_succ]
          refine AnyU.take (i := 13) (v := ?v25014) rfl (by kernel_rfl) (by kernel_rfl) (by kernel_rfl) (by kernel_rfl) (fun _ _ _ h => h) (Or.inl ⟨by rfl, ?hy25014⟩) hHeld ?r25014
          case hy25014 => (intro w hSw; (try dsimp only at hSw); rw [hP] at hSw; obtain ⟨z0, z1, z2, z3, z4⟩ := hSw; go_simp <;> with_reducible rfl)
          simp only [Act.put, List.setIfInBounds_toArray, List.set_cons_zero, List.set_cons_succ]
          refine AnyU.take (i := 14) (v := ?v25015) rfl (by kernel_rfl) (by kernel_rfl) (by kernel_rfl) (by kernel_rfl) (fun _ _ _ h => h) (Or.inl ⟨by rfl, ?hy25015⟩) hHeld ?r25015
          case hy25015 => (intro w hSw; (try dsimp only at hSw); rw [hP] at hSw; obtain ⟨z0, z1, z2, z3, z4⟩ := hSw; go_simp <;> with_reducible rfl)
          simp only [Act.put, List.setIfInBounds_toArray, List.set_cons_zero, List.set_cons_succ]
          refine AnyU.take (i := 15) (v := ?v25016) rfl (by kernel_rfl) (by kernel_rfl) (by kernel_rfl) (by kernel_rfl) (fun _ _ _ h => h) (Or.inl ⟨by rfl, ?hy25016⟩) hHeld ?r25016
          case hy25016 => (intro w hSw; (try dsimp only at hSw); rw [hP] at hSw; obtain ⟨z0, z1, z2, z3, z4⟩ := hSw; go_simp <;> with_reducible rfl)
          simp only [Act.put, List.setIfInBounds_toArray, List.set_cons_zero, List.set_cons_succ]
          refine AnyU.take (i := 16) (v := ?v25017) rfl (by kernel_rfl) (by kernel_rfl) (by kernel_rfl) (by kernel_rfl) (fun _ _ _ h => h) (Or.inl ⟨by rfl, ?hy25017⟩) hHeld ?r25017
          case hy25017 => (intro w hSw; (try dsimp only at hSw); rw [hP] at hSw; obtain ⟨z0, z1, z2, z3, z4⟩ := hSw; go_simp <;> with_reducible rfl)
          simp only [Act.put, List.setIfInBounds_toArray, List.set_cons_zero, List.set_cons_succ]
          refine AnyU.take (i := 17) (v := ?v25018) rfl (by kernel_rfl) (by kernel_rfl) (by kernel_rfl) (by kernel_rfl) (fun _ _ _ h => h) (Or.inl ⟨by rfl, ?hy25018⟩) hHeld ?r25018
          case hy25018 => (intro w hSw; (try dsimp only at hSw); rw [hP] at hSw; obtain ⟨z0, z1, z2, z3, z4⟩ := hSw; go_simp <;> with_reducible rfl)
          simp only [Act.put, List.setIfInBounds_toArray, List.set_cons_zero, List.set_cons_succ]
          refine AnyU.take (i := 18) (v := ?v25019) rfl (by kernel_rfl) (by kernel_rfl) (by kernel_rfl) (by kernel_rfl) (fun _ _ _ h => h) (Or.inl ⟨by rfl, ?hy25019⟩) hHeld ?r25019
          case hy25019 => (intro w hSw; (try dsimp only at hSw); rw [hP] at hSw; obtain ⟨z0, z1, z2, z3, z4⟩ := hSw; go_simp <;> with_reducible rfl)
          simp only [Act.put, List.setIfInBounds_toArray, List.set_cons_zero, List.set_cons_succ]
          refine AnyU.take (i := 19) (v := ?v25020) rfl (by kernel_rfl) (by kernel_rfl) (by kernel_rfl) (by kernel_rfl) (fun _ _ _ h => h) (Or.inl ⟨by rfl, ?hy25020⟩) hHeld ?r25020
          case hy25020 => (intro w hSw; (try dsimp only at hSw); rw [hP] at hSw; obtain ⟨z0, z1, z2, z3, z4⟩ := hSw; go_simp <;> with_reducible rfl)
          simp only [Act.put, List.setIfInBounds_toArray, List.set_cons_zero, List.set_cons_succ]
          refine AnyU.take (i := 20) (v := ?v25021) rfl (by kernel_rfl) (by kernel_rfl) (by kernel_rfl) (by kernel_rfl) (fun _ _ _ h => h) (Or.inl ⟨by rfl, ?hy25021⟩) hHeld ?r25021
          case hy25021 => (intro w hSw; (try dsimp only at hSw); rw [hP] at hSw; obtain ⟨z0, z1, z2, z3, z4⟩ := hSw; go_simp <;> with_reducible rfl)
          simp only [Act.put, List.setIfInBounds_toArray, List.set_cons_zero, List.set_cons_succ]
          refine AnyU.take (i := 21) (v := .bool false) rfl (by kernel_rfl) (by kernel_rfl) (by kernel_rfl) (by kernel_rfl) (fun _ _ _ h => h) (Or.inl ⟨by rfl, ?hy25022⟩) hHeld ?r25022
          case hy25022 => (intro w hSw; (try dsimp only at hSw); rw [hP] at hSw; obtain ⟨z0, z1, z2, z3, z4⟩ := hSw; go_simp <;> first | with_reducible rfl | exact hkk | omega)
          simp only [Act.put, List.setIfInBounds_toArray, List.set_cons_zero, List.set_cons_succ]
          refine AnyU.take (i := 22) (v := ?v25023) rfl (by kernel_rfl) (by kernel_rfl) (by kernel_rfl) (by kernel_rfl) (fun _ _ _ h => h) (Or.inl ⟨by rfl, ?hy25023⟩) hHeld ?r25023
          case hy25023 => (intro w hSw; (try dsimp only at hSw); rw [hP] at hSw; obtain ⟨z0, z1, z2, z3, z4⟩ := hSw; go_simp <;> with_reducible rfl)
          simp only [Act.put, List.setIfInBounds_toArray, List.set_cons_zero, List.set_cons_succ]
          refine AnyU.take (i := 23) (v := ?v25024) rfl (by kernel_rfl) (by kernel_rfl) (by kernel_rfl) (by kernel_rfl) (fun _ _ _ h => h) (Or.inl ⟨by rfl, ?hy25024⟩) hHeld ?r25024
          case hy25024 => (intro w hSw; (try dsimp only at hSw); rw [hP] at hSw; obtain ⟨z0, z1, z2, z3, z4⟩ := hSw; go_simp <;> with_reducible rfl)
          simp only [Act.put, List.setIfInBounds_toArray, List.set_cons_zero, List.set_cons_succ]
          refine AnyU.take (i := 24) (v := undef) rfl (by kernel_rfl) (by kernel_rfl) (by kernel_rfl) (by kernel_rfl) (fun _ _ _ h => h) (Or.inr ⟨by rfl, rfl⟩) hHeld ?_
          simp only [Act.put, List.setIfInBounds_toArray, List.set_cons_zero, List.set_cons_succ]
          refine AnyU.take (i := 25) (v := undef) rfl (by kernel_rfl) (by kernel_rfl) (by kernel_rfl) (by kernel_rfl) (fun _ _ _ h => h) (Or.inr ⟨by rfl, rfl⟩) hHeld ?_
          simp only [Act.put, List.setIfInBounds_toArray, List.set_cons_zero, List.set_cons_succ]
          refine AnyU.take (i := 26) (v := undef) rfl (by kernel_rfl) (by kernel_rfl) (by kernel_rfl) (by kernel_rfl) (fun _ _ _ h => h) (Or.inr ⟨by rfl, rfl⟩) hHeld ?_
          simp only [Act.put, List.setIfInBounds_toArray, List.set_cons_zero, List.set_cons_succ]
          refine AnyU.take (i := 27) (v := ?v25028) rfl (by kernel_rfl) (by kernel_rfl) (by kernel_rfl) (by kernel_rfl) (fun _ _ _ h => h) (Or.inl ⟨by rfl, ?hy25028⟩) hHeld ?r25028
          case hy25028 => (intro w hSw; (try dsimp only at hSw); rw [hP] at hSw; obtain ⟨z0, z1, z2, z3, z4⟩ := hSw; go_simp <;> with_reducible rfl)
          simp only [Act.put, List.setIfInBounds_toArray, List.set_cons_zero, List.set_cons_succ]
          refine AnyU.take (i := 28) (v := ?v25029) rfl (by kernel_rfl) (by kernel_rfl) (by kernel_rfl) (by kernel_rfl) (fun _ _ _ h => h) (Or.inl ⟨by rfl, ?hy25029⟩) hHeld ?r25029
          case hy25029 => (intro w hSw; (try dsimp only at hSw); rw [hP] at hSw; obtain ⟨z0, z1, z2, z3, z4⟩ := hSw; go_simp <;> with_reducible rfl)
          simp only [Act.put, List.setIfInBounds_toArray, List.set_cons_zero, List.set_cons_succ]
          clear hHeld
          refine AnyU.over (by kernel_rfl) ?_ _
          refine NoPanic.normal ?_
          gi_wp2
          gi_meet
          exact ⟨rfl, rfl⟩
        · have hnl : ((kx : Int) != (l.length : Int)) = true := by rw [bne_iff_ne]; omega
          have HNL := hide hnl
          have HKS := hide hks
          clear hnl hks hple hp0 hl0
          obtain ⟨P, hP⟩ : ∃ P : World → Prop, P = fun W => W.cell? ⟨tc, 0, none⟩ = some (.int .i64 0) ∧ W.cell? ⟨tc + 1, 0, none⟩ = some (.int .i64 (kx : Int)) ∧ W.cell? ⟨w.heap.size, 0, none⟩ = some (.pointer (some ⟨q, 0, none⟩)) ∧ W.cell? ⟨q, 0, none⟩ = some (.slice AD l.length cD) ∧ W.cell? ⟨w.heap.size + 1, 0, none⟩ = some (.int .i64 (kx : Int)) := ⟨_, rfl⟩
          have hP0 : P WT0.drew := by rw [hP]; exact ⟨t0, t1, c4, q1, c5⟩
          have hkk : ((kx : Int) != (kx : Int)) = false := by simp
          clear t0 t1 c4 q1 c5
          gi_wp2_with fail
          refine wpIn_mono (Q := NoPanic _) ?_ NoPanic.imp
          refine wpIn_wide.2 ?_
          refine wp_region_U 29 P (by kernel_rfl) hP0 (fun hHeld => ?_)
          refine AnyU.take (i := 0) (v := ?v125001) rfl (by kernel_rfl) (by kernel_rfl) (by kernel_rfl) (by kernel_rfl) (fun _ _ _ h => h) (Or.inl ⟨by rfl, ?hy125001⟩) hHeld ?r125001
          case hy125001 => (intro w hSw; (try dsimp only at hSw); rw [hP] at hSw; obtain ⟨z0, z1, z2, z3, z4⟩ := hSw; go_simp <;> with_reducible rfl)
          simp only [Act.put, List.setIfInBounds_toArray, List.set_cons_zero, List.set_cons_succ]
          refine AnyU.take (i := 1) (v := ?v125002) rfl (by kernel_rfl) (by kernel_rfl) (by kernel_rfl) (by kernel_rfl) (fun _ _ _ h => h) (Or.inl ⟨by rfl, ?hy125002⟩) hHeld ?r125002
          case hy125002 => (intro w hSw; (try dsimp only at hSw); rw [hP] at hSw; obtain ⟨z0, z1, z2, z3, z4⟩ := hSw; go_simp <;> with_reducible rfl)
          simp only [Act.put, List.setIfInBounds_toArray, List.set_cons_zero, List.set_cons_succ]
          refine AnyU.take (i := 2) (v := ?v125003) rfl (by kernel_rfl) (by kernel_rfl) (by kernel_rfl) (by kernel_rfl) (fun _ _ _ h => h) (Or.inl ⟨by rfl, ?hy125003⟩) hHeld ?r125003
          case hy125003 => (intro w hSw; (try dsimp only at hSw); rw [hP] at hSw; obtain ⟨z0, z1, z2, z3, z4⟩ := hSw; go_simp <;> with_reducible rfl)
          simp only [Act.put, List.setIfInBounds_toArray, List.set_cons_zero, List.set_cons_succ]
          refine AnyU.take (i := 3) (v := undef) rfl (by kernel_rfl) (by kernel_rfl) (by kernel_rfl) (by kernel_rfl) (fun _ _ _ h => h) (Or.inr ⟨by rfl, rfl⟩) hHeld ?_
          simp only [Act.put, List.setIfInBounds_toArray, List.set_cons_zero, List.set_cons_succ]
          refine AnyU.take (i := 4) (v := undef) rfl (by kernel_rfl) (by kernel_rfl) (by kernel_rfl) (by kernel_rfl) (fun _ _ _ h => h) (Or.inr ⟨by rfl, rfl⟩) hHeld ?_
          simp only [Act.put, List.setIfInBounds_toArray, List.set_cons_zero, List.set_cons_succ]
          refine AnyU.take (i := 5) (v := undef) rfl (by kernel_rfl) (by kernel_rfl) (by kernel_rfl) (by kernel_rfl) (fun _ _ _ h => h) (Or.inr ⟨by rfl, rfl⟩) hHeld ?_
          simp only [Act.put, List.setIfInBounds_toArray, List.set_cons_zero, List.set_cons_succ]
          refine AnyU.take (i := 6) (v := undef) rfl (by kernel_rfl) (by kernel_rfl) (by kernel_rfl) (by kernel_rfl) (fun _ _ _ h => h) (Or.inr ⟨by rfl, rfl⟩) hHeld ?_
          simp only [Act.put, List.setIfInBounds_toArray, List.set_cons_zero, List.set_cons_succ]
          refine AnyU.take (i := 7) (v := undef) rfl (by kernel_rfl) (by kernel_rfl) (by kernel_rfl) (by kernel_rfl) (fun _ _ _ h => h) (Or.inr ⟨by rfl, rfl⟩) hHeld ?_
          simp only [Act.put, List.setIfInBounds_toArray, List.set_cons_zero, List.set_cons_succ]
          refine AnyU.take (i := 8) (v := undef) rfl (by kernel_rfl) (by kernel_rfl) (by kernel_rfl) (by kernel_rfl) (fun _ _ _ h => h) (Or.inr ⟨by rfl, rfl⟩) hHeld ?_
          simp only [Act.put, List.setIfInBounds_toArray, List.set_cons_zero, List.set_cons_succ]
          refine AnyU.take (i := 9) (v := undef) rfl (by kernel_rfl) (by kernel_rfl) (by kernel_rfl) (by kernel_rfl) (fun _ _ _ h => h) (Or.inr ⟨by rfl, rfl⟩) hHeld ?_
          simp only [Act.put, List.setIfInBounds_toArray, List.set_cons_zero, List.set_cons_succ]
          refine AnyU.take (i := 10) (v := ?v125011) rfl (by kernel_rfl) (by kernel_rfl) (by kernel_rfl) (by kernel_rfl) (fun _ _ _ h => h) (Or.inl ⟨by rfl, ?hy125011⟩) hHeld ?r125011
          case hy125011 => (intro w hSw; (try dsimp only at hSw); rw [hP] at hSw; obtain ⟨z0, z1, z2, z3, z4⟩ := hSw; go_simp <;> with_reducible rfl)
          simp only [Act.put, List.setIfInBounds_toArray, List.set_cons_zero, List.set_cons_succ]
          refine AnyU.take (i := 11) (v := ?v125012) rfl (by kernel_rfl) (by kernel_rfl) (by kernel_rfl) (by kernel_rfl) (fun _ _ _ h => h) (Or.inl ⟨by rfl, ?hy125012⟩) hHeld ?r125012
          case hy125012 => (intro w hSw; (try dsimp only at hSw); rw [hP] at hSw; obtain ⟨z0, z1, z2, z3, z4⟩ := hSw; go_simp <;> with_reducible rfl)
          simp only [Act.put, List.setIfInBounds_toArray, List.set_cons_zero, List.set_cons_succ]
          refine AnyU.take (i := 12) (v := ?v125013) rfl (by kernel_rfl) (by kernel_rfl) (by kernel_rfl) (by kernel_rfl) (fun _ _ _ h => h) (Or.inl ⟨by rfl, ?hy125013⟩) hHeld ?r125013
          case hy125013 => (intro w hSw; (try dsimp only at hSw); rw [hP] at hSw; obtain ⟨z0, z1, z2, z3, z4⟩ := hSw; go_simp <;> with_reducible rfl)
          simp only [Act.put, List.setIfInBounds_toArray, List.set_cons_zero, List.set_cons_succ]
          refine AnyU.take (i := 13) (v := ?v125014) rfl (by kernel_rfl) (by kernel_rfl) (by kernel_rfl) (by kernel_rfl) (fun _ _ _ h => h) (Or.inl ⟨by rfl, ?hy125014⟩) hHeld ?r125014
          case hy125014 => (intro w hSw; (try dsimp only at hSw); rw [hP] at hSw; obtain ⟨z0, z1, z2, z3, z4⟩ := hSw; go_simp <;> with_reducible rfl)
          simp only [Act.put, List.setIfInBounds_toArray, List.set_cons_zero, List.set_cons_succ]
          refine AnyU.take (i := 14) (v := ?v125015) rfl (by kernel_rfl) (by kernel_rfl) (by kernel_rfl) (by kernel_rfl) (fun _ _ _ h => h) (Or.inl ⟨by rfl, ?hy125015⟩) hHeld ?r125015
          case hy125015 => (intro w hSw; (try dsimp only at hSw); rw [hP] at hSw; obtain ⟨z0, z1, z2, z3, z4⟩ := hSw; go_simp <;> with_reducible rfl)
          simp only [Act.put, List.setIfInBounds_toArray, List.set_cons_zero, List.set_cons_succ]
          refine AnyU.take (i := 15) (v := ?v125016) rfl (by kernel_rfl) (by kernel_rfl) (by kernel_rfl) (by kernel_rfl) (fun _ _ _ h => h) (Or.inl ⟨by rfl, ?hy125016⟩) hHeld ?r125016
          case hy125016 => (intro w hSw; (try dsimp only at hSw); rw [hP] at hSw; obtain ⟨z0, z1, z2, z3, z4⟩ := hSw; go_simp <;> with_reducible rfl)
          simp only [Act.put, List.setIfInBounds_toArray, List.set_cons_zero, List.set_cons_succ]
          refine AnyU.take (i := 16) (v := ?v125017) rfl (by kernel_rfl) (by kernel_rfl) (by kernel_rfl) (by kernel_rfl) (fun _ _ _ h => h) (Or.inl ⟨by rfl, ?hy125017⟩) hHeld ?r125017
          case hy125017 => (intro w hSw; (try dsimp only at hSw); rw [hP] at hSw; obtain ⟨z0, z1, z2, z3, z4⟩ := hSw; go_simp <;> with_reducible rfl)
          simp only [Act.put, List.setIfInBounds_toArray, List.set_cons_zero, List.set_cons_succ]
          refine AnyU.take (i := 17) (v := ?v125018) rfl (by kernel_rfl) (by kernel_rfl) (by kernel_rfl) (by kernel_rfl) (fun _ _ _ h => h) (Or.inl ⟨by rfl, ?hy125018⟩) hHeld ?r125018
          case hy125018 => (intro w hSw; (try dsimp only at hSw); rw [hP] at hSw; obtain ⟨z0, z1, z2, z3, z4⟩ := hSw; go_simp <;> with_reducible rfl)
          simp only [Act.put, List.setIfInBounds_toArray, List.set_cons_zero, List.set_cons_succ]
          refine AnyU.take (i := 18) (v := ?v125019) rfl (by kernel_rfl) (by kernel_rfl) (by kernel_rfl) (by kernel_rfl) (fun _ _ _ h => h) (Or.inl ⟨by rfl, ?hy125019⟩) hHeld ?r125019
          case hy125019 => (intro w hSw; (try dsimp only at hSw); rw [hP] at hSw; obtain ⟨z0, z1, z2, z3, z4⟩ := hSw; go_simp <;> with_reducible rfl)
          simp only [Act.put, List.setIfInBounds_toArray, List.set_cons_zero, List.set_cons_succ]
          refine AnyU.take (i := 19) (v := ?v125020) rfl (by kernel_rfl) (by kernel_rfl) (by kernel_rfl) (by kernel_rfl) (fun _ _ _ h => h) (Or.inl ⟨by rfl, ?hy125020⟩) hHeld ?r125020
          case hy125020 => (intro w hSw; (try dsimp only at hSw); rw [hP] at hSw; obtain ⟨z0, z1, z2, z3, z4⟩ := hSw; go_simp <;> with_reducible rfl)
          simp only [Act.put, List.setIfInBounds_toArray, List.set_cons_zero, List.set_cons_succ]
          refine AnyU.take (i := 20) (v := ?v125021) rfl (by kernel_rfl) (by kernel_rfl) (by kernel_rfl) (by kernel_rfl) (fun _ _ _ h => h) (Or.inl ⟨by rfl, ?hy125021⟩) hHeld ?r125021
          case hy125021 => (intro w hSw; (try dsimp only at hSw); rw [hP] at hSw; obtain ⟨z0, z1, z2, z3, z4⟩ := hSw; go_simp <;> with_reducible rfl)
          simp only [Act.put, List.setIfInBounds_toArray, List.set_cons_zero, List.set_cons_succ]
          refine AnyU.take (i := 21) (v := .bool true) rfl (by kernel_rfl) (by kernel_rfl) (by kernel_rfl) (by kernel_rfl) (fun _ _ _ h => h) (Or.inl ⟨by rfl, ?hyX1250⟩) hHeld ?rX1250
          case hyX1250 => (intro w hSw; (try dsimp only at hSw); rw [hP] at hSw; obtain ⟨z0, z1, z2, z3, z4⟩ := hSw; go_simp <;> first | with_reducible rfl | exact HNL.out | exact HKS.out | (have := HKS.out; simp; omega))
          simp only [Act.put, List.setIfInBounds_toArray, List.set_cons_zero, List.set_cons_succ]
          refine AnyU.take (i := 22) (v := ?v125022) rfl (by kernel_rfl) (by kernel_rfl) (by kernel_rfl) (by kernel_rfl) (fun _ _ _ h => h) (Or.inl ⟨by rfl, ?hy125022⟩) hHeld ?r125022
          case hy125022 => (intro w hSw; (try dsimp only at hSw); rw [hP] at hSw; obtain ⟨z0, z1, z2, z3, z4⟩ := hSw; go_simp <;> with_reducible rfl)
          simp only [Act.put, List.setIfInBounds_toArray, List.set_cons_zero, List.set_cons_succ]
          refine AnyU.take (i := 23) (v := ?v125023) rfl (by kernel_rfl) (by kernel_rfl) (by kernel_rfl) (by kernel_rfl) (fun _ _ _ h => h) (Or.inl ⟨by rfl, ?hy125023⟩) hHeld ?r125023
          case hy125023 => (intro w hSw; (try dsimp only at hSw); rw [hP] at hSw; obtain ⟨z0, z1, z2, z3, z4⟩ := hSw; go_simp <;> with_reducible rfl)
          simp only [Act.put, List.setIfInBounds_toArray, List.set_cons_zero, List.set_cons_succ]
          refine AnyU.take (i := 24) (v := ?v125024) rfl (by kernel_rfl) (by kernel_rfl) (by kernel_rfl) (by kernel_rfl) (fun _ _ _ h => h) (Or.inl ⟨by rfl, ?hy125024⟩) hHeld ?r125024
          case hy125024 => (intro w hSw; (try dsimp only at hSw); rw [hP] at hSw; obtain ⟨z0, z1, z2, z3, z4⟩ := hSw; go_simp <;> with_reducible rfl)
          simp only [Act.put, List.setIfInBounds_toArray, List.set_cons_zero, List.set_cons_succ]
          refine AnyU.take (i := 25) (v := ?v125025) rfl (by kernel_rfl) (by kernel_rfl) (by kernel_rfl) (by kernel_rfl) (fun _ _ _ h => h) (Or.inl ⟨by rfl, ?hy125025⟩) hHeld ?r125025
          case hy125025 => (intro w hSw; (try dsimp only at hSw); rw [hP] at hSw; obtain ⟨z0, z1, z2, z3, z4⟩ := hSw; go_simp <;> with_reducible rfl)
          simp only [Act.put, List.setIfInBounds_toArray, List.set_cons_zero, List.set_cons_succ]
          refine AnyU.take (i := 26) (v := .bool false) rfl (by kernel_rfl) (by kernel_rfl) (by kernel_rfl) (by kernel_rfl) (fun _ _ _ h => h) (Or.inl ⟨by rfl, ?hy125026⟩) hHeld ?r125026
          case hy125026 => (intro w hSw; (try dsimp only at hSw); rw [hP] at hSw; obtain ⟨z0, z1, z2, z3, z4⟩ := hSw; go_simp <;> first | with_reducible rfl | exact hkk | omega)
          simp only [Act.put, List.setIfInBounds_toArray, List.set_cons_zero, List.set_cons_succ]
          refine AnyU.take (i := 27) (v := ?v125027) rfl (by kernel_rfl) (by kernel_rfl) (by kernel_rfl) (by kernel_rfl) (fun _ _ _ h => h) (Or.inl ⟨by rfl, ?hy125027⟩) hHeld ?r125027
          case hy125027 => (intro w hSw; (try dsimp only at hSw); rw [hP] at hSw; obtain ⟨z0, z1, z2, z3, z4⟩ := hSw; go_simp <;> with_reducible rfl)
          simp only [Act.put, List.setIfInBounds_toArray, List.set_cons_zero, List.set_cons_succ]
          refine AnyU.take (i := 28) (v := ?v125028) rfl (by kernel_rfl) (by kernel_rfl) (by kernel_rfl) (by kernel_rfl) (fun _ _ _ h => h) (Or.inl ⟨by rfl, ?hy125028⟩) hHeld ?r125028
          case hy125028 => (intro w hSw; (try dsimp only at hSw); rw [hP] at hSw; obtain ⟨z0, z1, z2, z3, z4⟩ := hSw; go_simp <;> with_reducible rfl)
          simp only [Act.put, List.setIfInBounds_toArray, List.set_cons_zero, List.set_cons_succ]
          clear hHeld
          refine AnyU.over (by kernel_rfl) ?_ _
          refine NoPanic.normal ?_
          gi_wp2
          gi_meet
          exact ⟨rfl, rfl⟩
      case rest =>
        obtain ⟨rfl, rfl⟩ := hcut
        have HBD : Hid (Below WT0.heap.size WT0 WT0.drew) := hide (bel_drewN (Below.refl _ _) 1)
        have HTD := hide (HT5.out.below HBD.out)
        obtain ⟨t0, t1, _⟩ := HTD.out.cells
        have HIB2 := hide (HIX.out.below HBD.out)
        have HB4r2 : Hid (Below w4.heap.size w4 WT0.drew) := hide (HB4r.out.trans ((HTW0.out.trans (HBD.out.mono HTW0.out.size)).mono HB4r.out.size))
        have HKD0d : Hid (WT0.drew.heap[D0]? = some (.deferred (some []))) := hide HKD0.out
        generalize WT0.drew = WX at *
        replace HIB := HIB2
        replace HB4r := HB4r2
        replace HKD0 := HKD0d
        clear HT5 HIX HTD HIB2 HB4r2 HTW0 HBD HKD0d
        gi_wp2_with fail
        rw [roundsIn_succ]
        have HT1 := hide (TurnT.start WX 1)
        clear t0 t1 HZT HTI HTC HTW4
        gi_wp2_with fail
        generalize (WX.alloc (.cells #[.int .i64 1] 3)).alloc (.cells #[.int .i64 0] 3) = ws252 at *
        obtain ⟨tc, htc⟩ : ∃ tc, tc = WX.heap.size := ⟨_, rfl⟩
        have HZT : Hid (ws252.heap.size = tc + 2) := hide (by rw [htc]; exact HT1.out.2)
        have HTI := hide HT1.out.1
        have HTC := hide htc
        rw [← htc] at HTI ⊢
        have HTW4 : Hid (w4.heap.size ≤ tc) := hide (by rw [htc]; exact HB4r.out.size)
        clear htc HT1
        refine wpIn_rangeSeqB (α := Nat × ByteArray) (encs := encN) (E := NextN l) (S := fun xs => xs = enumL l l.length) (Sp := fun pre => pre = enumL l pre.length ∧ pre.length ≤ l.length ∧ 0 < pre.length) (gf := 48) (lb := #[.pointer (some ⟨bA, 0, none⟩)]) rfl (enters_of Try.func48 (by kernel_rfl) rfl) (fun g => g = tc + 1) (fun h => by have := HZT.out; omega) (fun h => by have := HZT.out; omega)
          (fun W2 hb hz => names_seq (((HB4r.out.trans ((HTI.out.bel.trans (hb.mono HTI.out.bel.size)).mono HB4r.out.size)).block _ (lt_of_block HXA.out)).trans HXA.out) (HRA.out.below (HB4r.out.trans ((HTI.out.bel.trans (hb.mono HTI.out.bel.size)).mono HB4r.out.size))) (by have := HZT.out; have := HTW4.out; omega) HSL.out (fun g hg e => by have := HHP.out g e; have := HTW4.out; have := HZT.out; rcases hg with hg | hg <;> omega)) (fun _ => rfl)
          (InvT 1 lv WX tc) (StopT 1 lv WX tc)
          (fun s X Y row hs hg hr => ⟨hs.1, hs.2.grown hg (fun r e => by have := hr r e; have := HZT.out; have := HTC.out; exact ⟨by omega, (hr r e).2⟩)⟩) (fun c' s X Y row hs hg hr => ⟨hs.1, hs.2.grown hg (fun r e => by have := hr r e; have := HZT.out; have := HTC.out; exact ⟨by omega, (hr r e).2⟩)⟩) ⟨fun _ => by simp only [List.length_nil]; omega, HTI.out⟩
          ?a1_252 (fun _ W => W) (fun _ W => Below.refl _ _) 9 ?assign_252 ?body_252 ?done_252 ?stop_252
        case assign_252 =>
          intro l' pre d W' K he hK
          clear he
          simp only [encN]
          gi_wp2
          exact hK
        case body_252 =>
          rintro l' pre d W0 Wr ⟨Wb, ⟨hlv, hti0⟩, hzb, hbb⟩ ⟨hpre, hlt, hx⟩ hsz hzA hnew
          have HTR := hide (hti0.below hbb)
          obtain ⟨k, hk⟩ : ∃ k, k = pre.length := ⟨_, rfl⟩
          rw [← hk] at hlv HTR hlt hx
          have HKP : Hid ((pre ++ [d]).length = k + 1) := hide (by simp [hk])
          have HGD := hide hx
          have HLV := hide hlv
          have HIR := hide (HIB.out.below HTR.out.bel)
          clear hnew hzA hti0 hlv hk hpre hbb hzb hsz
          obtain ⟨c4, c5, c6, f6, q1⟩ := HIR.out.cells
          rw [HVD.out] at q1
          obtain ⟨gS, oS, hAD, s0⟩ := HIR.out.at_ HVD.out k hlt
          rw [hAD] at q1
          have hee : ((l.getD k ⟨#[]⟩).toList == (l.getD k ⟨#[]⟩).toList) = true := by simp
          obtain ⟨t0, t1, t2⟩ := HTR.out.cells
          have hkl1 : ¬ l.length ≤ k := by omega
          have hkl2 : decide (l.length ≤ k) = false := by simpa using hkl1
          have hkl3 : (k : Int) < (l.length : Int) := by omega
          have hkl4 : ¬ ((l.length : Int) ≤ (k : Int)) := by omega
          have hk0 : (0 : Int) ≤ (k : Int) := by omega
          have hk100 : (k : Int) ≤ 2000000 := by have := HSL.out; omega
          have HADH := hide hAD
          rw [HGD.out] at HKP ⊢
          generalize l.getD k ⟨#[]⟩ = nm at *
          clear hx hlt hAD
          gi_wp2_with fail
          refine wpIn_region_quietG (by kernel_rfl) (by kernel_rfl) (by kernel_rfl) ?_
          repeat (go_big_quiet_step (fail))
          refine wpQuiet_nil ?_
          rintro _ ⟨nq, rfl⟩
          have HT2 := hide (HTR.out.below (bel_drewN (Below.refl _ _) nq))
          have HI2 := hide (HIR.out.below (bel_drewN (Below.refl _ _) nq))
          have HO2 : Hid (OutP (fun g => g = tc + 1) Wr (Wr.drewN nq)) := hide ((OutP.refl _ _).drewN nq)
          clear c4 c5 c6 f6 q1 s0 t0 t1 t2 HTR HIR hkl1 hkl2 hkl3 hkl4 hee
          generalize Wr.drewN nq = W2 at *
          have HT3 := hide (HT2.out.next (k + 1))
          have HO3 := hide (HO2.out.set ⟨tc + 1, 0, none⟩ rfl (.int .i64 ((k + 1 : Nat) : Int)))
          have HI3 := hide (HIB.out.below HT3.out.bel)
          have hkk : ((k + 1 : Nat) : Int) = (k : Int) + 1 := by omega
          rw [hkk] at HT3 HO3 HI3
          obtain ⟨t0, t1, t2⟩ := HT2.out.cells
          obtain ⟨r0, r1, _⟩ := HT3.out.cells
          rw [hkk] at r1
          obtain ⟨_, a5, _, _, _⟩ := HI3.out.cells
          clear hkk
          gi_wp2_with fail
          refine ⟨HO3.out, fun h => absurd h (by decide), ?_⟩
          rw [HKP.out]
          exact HT3.out
        case done_252 =>
          rintro D1 xs WT1 hD hxs ⟨_, hti⟩ hK
          subst hxs
          rw [enumL_len] at hti
          have HKD1 := hide hK
          have HTW1 := hide hti.bel
          have HDW1 : Hid (WX.heap.size ≤ D1) := hide (by have := HZT.out; have := HTC.out; omega)
          have HT5 := hide hti
          have HIX := hide (HIB.out.below hti.bel)
          obtain ⟨t0, t1, _⟩ := hti.cells
          obtain ⟨c4, _, _, _, q1⟩ := HIX.out.cells
          rw [HVD.out] at q1
          have hkk : ((l.length : Int) != (l.length : Int)) = false := by simp
          obtain ⟨P, hP⟩ : ∃ P : World → Prop, P = fun W => W.cell? ⟨tc, 0, none⟩ = some (.int .i64 1) ∧ W.cell? ⟨tc + 1, 0, none⟩ = some (.int .i64 (l.length : Int)) ∧ W.cell? ⟨w.heap.size, 0, none⟩ = some (.pointer (some ⟨q, 0, none⟩)) ∧ W.cell? ⟨q, 0, none⟩ = some (.slice AD l.length cD) := ⟨_, rfl⟩
          have hP0 : P WT1.drew := by rw [hP]; exact ⟨t0, t1, c4, q1⟩
          clear t0 t1 c4 q1
          gi_wp2_with fail
          refine wpIn_mono (Q := NoPanic _) ?_ NoPanic.imp
          refine wpIn_wide.2 ?_
          refine wp_region_U 29 P (by kernel_rfl) hP0 (fun hHeld => ?_)
          refine AnyU.take (i := 0) (v := ?v25201) rfl (by kernel_rfl) (by kernel_rfl) (by kernel_rfl) (by kernel_rfl) (fun _ _ _ h => h) (Or.inl ⟨by rfl, ?hy25201⟩) hHeld ?r25201
          case hy25201 => (intro w hSw; (try dsimp only at hSw); rw [hP] at hSw; obtain ⟨z0, z1, z2, z3⟩ := hSw; go_simp <;> with_reducible rfl)
          simp only [Act.put, List.setIfInBounds_toArray, List.set_cons_zero, List.set_cons_succ]
          refine AnyU.take (i := 1) (v := ?v25202) rfl (by kernel_rfl) (by kernel_rfl) (by kernel_rfl) (by kernel_rfl) (fun _ _ _ h => h) (Or.inl ⟨by rfl, ?hy25202⟩) hHeld ?r25202
          case hy25202 => (intro w hSw; (try dsimp only at hSw); rw [hP] at hSw; obtain ⟨z0, z1, z2, z3⟩ := hSw; go_simp <;> with_reducible rfl)
          simp only [Act.put, List.setIfInBounds_toArray, List.set_cons_zero, List.set_cons_succ]
          refine AnyU.take (i := 2) (v := ?v25203) rfl (by kernel_rfl) (by kernel_rfl) (by kernel_rfl) (by kernel_rfl) (fun _ _ _ h => h) (Or.inl ⟨by rfl, ?hy25203⟩) hHeld ?r25203
          case hy25203 => (intro w hSw; (try dsimp only at hSw); rw [hP] at hSw; obtain ⟨z0, z1, z2, z3⟩ := hSw; go_simp <;> with_reducible rfl)
          simp only [Act.put, List.setIfInBounds_toArray, List.set_cons_zero, List.set_cons_succ]
          refine AnyU.take (i := 3) (v := ?v25204) rfl (by kernel_rfl) (by kernel_rfl) (by kernel_rfl) (by kernel_rfl) (fun _ _ _ h => h) (Or.inl ⟨by rfl, ?hy25204⟩) hHeld ?r25204
          case hy25204 => (intro w hSw; (try dsimp only at hSw); rw [hP] at hSw; obtain ⟨z0, z1, z2, z3⟩ := hSw; go_simp <;> with_reducible rfl)
          simp only [Act.put, List.setIfInBounds_toArray, List.set_cons_zero, List.set_cons_succ]
          refine AnyU.take (i := 4) (v := ?v25205) rfl (by kernel_rfl) (by kernel_rfl) (by kernel_rfl) (by kernel_rfl) (fun _ _ _ h => h) (Or.inl ⟨by rfl, ?hy25205⟩) hHeld ?r25205
          case hy25205 => (intro w hSw; (try dsimp only at hSw); rw [hP] at hSw; obtain ⟨z0, z1, z2, z3⟩ := hSw; go_simp <;> with_reducible rfl)
          simp only [Act.put, List.setIfInBounds_toArray, List.set_cons_zero, List.set_cons_succ]
          refine AnyU.take (i := 5) (v := ?v25206) rfl (by kernel_rfl) (by kernel_rfl) (by kernel_rfl) (by kernel_rfl) (fun _ _ _ h => h) (Or.inl ⟨by rfl, ?hy25206⟩) hHeld ?r25206
          case hy25206 => (intro w hSw; (try dsimp only at hSw); rw [hP] at hSw; obtain ⟨z0, z1, z2, z3⟩ := hSw; go_simp <;> with_reducible rfl)
          simp only [Act.put, List.setIfInBounds_toArray, List.set_cons_zero, List.set_cons_succ]
          refine AnyU.take (i := 6) (v := ?v25207) rfl (by kernel_rfl) (by kernel_rfl) (by kernel_rfl) (by kernel_rfl) (fun _ _ _ h => h) (Or.inl ⟨by rfl, ?hy25207⟩) hHeld ?r25207
          case hy25207 => (intro w hSw; (try dsimp only at hSw); rw [hP] at hSw; obtain ⟨z0, z1, z2, z3⟩ := hSw; go_simp <;> with_reducible rfl)
          simp only [Act.put, List.setIfInBounds_toArray, List.set_cons_zero, List.set_cons_succ]
          refine AnyU.take (i := 7) (v := ?v25208) rfl (by kernel_rfl) (by kernel_rfl) (by kernel_rfl) (by kernel_rfl) (fun _ _ _ h => h) (Or.inl ⟨by rfl, ?hy25208⟩) hHeld ?r25208
          case hy25208 => (intro w hSw; (try dsimp only at hSw); rw [hP] at hSw; obtain ⟨z0, z1, z2, z3⟩ := hSw; go_simp <;> with_reducible rfl)
          simp only [Act.put, List.setIfInBounds_toArray, List.set_cons_zero, List.set_cons_succ]
          refine AnyU.take (i := 8) (v := ?v25209) rfl (by kernel_rfl) (by kernel_rfl) (by kernel_rfl) (by kernel_rfl) (fun _ _ _ h => h) (Or.inl ⟨by rfl, ?hy25209⟩) hHeld ?r25209
          case hy25209 => (intro w hSw; (try dsimp only at hSw); rw [hP] at hSw; obtain ⟨z0, z1, z2, z3⟩ := hSw; go_simp <;> with_reducible rfl)
          simp only [Act.put, List.setIfInBounds_toArray, List.set_cons_zero, List.set_cons_succ]
          refine AnyU.take (i := 9) (v := .bool false) rfl (by kernel_rfl) (by kernel_rfl) (by kernel_rfl) (by kernel_rfl) (fun _ _ _ h => h) (Or.inl ⟨by rfl, ?hy25210⟩) hHeld ?r25210
          case hy25210 => (intro w hSw; (try dsimp only at hSw); rw [hP] at hSw; obtain ⟨z0, z1, z2, z3⟩ := hSw; go_simp <;> first | with_reducible rfl | exact hkk | omega)
          simp only [Act.put, List.setIfInBounds_toArray, List.set_cons_zero, List.set_cons_succ]
          refine AnyU.take (i := 10) (v := ?v25211) rfl (by kernel_rfl) (by kernel_rfl) (by kernel_rfl) (by kernel_rfl) (fun _ _ _ h => h) (Or.inl ⟨by rfl, ?hy25211⟩) hHeld ?r25211
          case hy25211 => (intro w hSw; (try dsimp only at hSw); rw [hP] at hSw; obtain ⟨z0, z1, z2, z3⟩ := hSw; go_simp <;> with_reducible rfl)
          simp only [Act.put, List.setIfInBounds_toArray, List.set_cons_zero, List.set_cons_succ]
          refine AnyU.take (i := 11) (v := ?v25212) rfl (by kernel_rfl) (by kernel_rfl) (by kernel_rfl) (by kernel_rfl) (fun _ _ _ h => h) (Or.inl ⟨by rfl, ?hy25212⟩) hHeld ?r25212
          case hy25212 => (intro w hSw; (try dsimp only at hSw); rw [hP] at hSw; obtain ⟨z0, z1, z2, z3⟩ := hSw; go_simp <;> with_reducible rfl)
          simp only [Act.put, List.setIfInBounds_toArray, List.set_cons_zero, List.set_cons_succ]
          refine AnyU.take (i := 12) (v := ?v25213) rfl (by kernel_rfl) (by kernel_rfl) (by kernel_rfl) (by kernel_rfl) (fun _ _ _ h => h) (Or.inl ⟨by rfl, ?hy25213⟩) hHeld ?r25213
          case hy25213 => (intro w hSw; (try dsimp only at hSw); rw [hP] at hSw; obtain ⟨z0, z1, z2, z3⟩ := hSw; go_simp <;> with_reducible rfl)
          simp only [Act.put, List.setIfInBounds_toArray, List.set_cons_zero, List.set_cons_succ]
          refine AnyU.take (i := 13) (v := ?v25214) rfl (by kernel_rfl) (by kernel_rfl) (by kernel_rfl) (by kernel_rfl) (fun _ _ _ h => h) (Or.inl ⟨by rfl, ?hy25214⟩) hHeld ?r25214
          case hy25214 => (intro w hSw; (try dsimp only at hSw); rw [hP] at hSw; obtain ⟨z0, z1, z2, z3⟩ := hSw; go_simp <;> with_reducible rfl)
          simp only [Act.put, List.setIfInBounds_toArray, List.set_cons_zero, List.set_cons_succ]
          refine AnyU.take (i := 14) (v := ?v25215) rfl (by kernel_rfl) (by kernel_rfl) (by kernel_rfl) (by kernel_rfl) (fun _ _ _ h => h) (Or.inl ⟨by rfl, ?hy25215⟩) hHeld ?r25215
          case hy25215 => (intro w hSw; (try dsimp only at hSw); rw [hP] at hSw; obtain ⟨z0, z1, z2, z3⟩ := hSw; go_simp <;> with_reducible rfl)
          simp only [Act.put, List.setIfInBounds_toArray, List.set_cons_zero, List.set_cons_succ]
          refine AnyU.take (i := 15) (v := undef) rfl (by kernel_rfl) (by kernel_rfl) (by kernel_rfl) (by kernel_rfl) (fun _ _ _ h => h) (Or.inr ⟨by rfl, rfl⟩) hHeld ?_
          simp only [Act.put, List.setIfInBounds_toArray, List.set_cons_zero, List.set_cons_succ]
          refine AnyU.take (i := 16) (v := undef) rfl (by kernel_rfl) (by kernel_rfl) (by kernel_rfl) (by kernel_rfl) (fun _ _ _ h => h) (Or.inr ⟨by rfl, rfl⟩) hHeld ?_
          simp only [Act.put, List.setIfInBounds_toArray, List.set_cons_zero, List.set_cons_succ]
          refine AnyU.take (i := 17) (v := undef) rfl (by kernel_rfl) (by kernel_rfl) (by kernel_rfl) (by kernel_rfl) (fun _ _ _ h => h) (Or.inr ⟨by rfl, rfl⟩) hHeld ?_
          simp only [Act.put, List.setIfInBounds_toArray, List.set_cons_zero, List.set_cons_succ]
          refine AnyU.take (i := 18) (v := undef) rfl (by kernel_rfl) (by kernel_rfl) (by kernel_rfl) (by kernel_rfl) (fun _ _ _ h => h) (Or.inr ⟨by rfl, rfl⟩) hHeld ?_
          simp only [Act.put, List.setIfInBounds_toArray, List.set_cons_zero, List.set_cons_succ]
          refine AnyU.take (i := 19) (v := undef) rfl (by kernel_rfl) (by kernel_rfl) (by kernel_rfl) (by kernel_rfl) (fun _ _ _ h => h) (Or.inr ⟨by rfl, rfl⟩) hHeld ?_
          simp only [Act.put, List.setIfInBounds_toArray, List.set_cons_zero, List.set_cons_succ]
          refine AnyU.take (i := 20) (v := undef) rfl (by kernel_rfl) (by kernel_rfl) (by kernel_rfl) (by kernel_rfl) (fun _ _ _ h => h) (Or.inr ⟨by rfl, rfl⟩) hHeld ?_
          simp only [Act.put, List.setIfInBounds_toArray, List.set_cons_zero, List.set_cons_succ]
          refine AnyU.take (i := 21) (v := undef) rfl (by kernel_rfl) (by kernel_rfl) (by kernel_rfl) (by kernel_rfl) (fun _ _ _ h => h) (Or.inr ⟨by rfl, rfl⟩) hHeld ?_
          simp only [Act.put, List.setIfInBounds_toArray, List.set_cons_zero, List.set_cons_succ]
          refine AnyU.take (i := 22) (v := ?v25223) rfl (by kernel_rfl) (by kernel_rfl) (by kernel_rfl) (by kernel_rfl) (fun _ _ _ h => h) (Or.inl ⟨by rfl, ?hy25223⟩) hHeld ?r25223
          case hy25223 => (intro w hSw; (try dsimp only at hSw); rw [hP] at hSw; obtain ⟨z0, z1, z2, z3⟩ := hSw; go_simp <;> with_reducible rfl)
          simp only [Act.put, List.setIfInBounds_toArray, List.set_cons_zero, List.set_cons_succ]
          refine AnyU.take (i := 23) (v := ?v25224) rfl (by kernel_rfl) (by kernel_rfl) (by kernel_rfl) (by kernel_rfl) (fun _ _ _ h => h) (Or.inl ⟨by rfl, ?hy25224⟩) hHeld ?r25224
          case hy25224 => (intro w hSw; (try dsimp only at hSw); rw [hP] at hSw; obtain ⟨z0, z1, z2, z3⟩ := hSw; go_simp <;> with_reducible rfl)
          simp only [Act.put, List.setIfInBounds_toArray, List.set_cons_zero, List.set_cons_succ]
          refine AnyU.take (i := 24) (v := undef) rfl (by kernel_rfl) (by kernel_rfl) (by kernel_rfl) (by kernel_rfl) (fun _ _ _ h => h) (Or.inr ⟨by rfl, rfl⟩) hHeld ?_
          simp only [Act.put, List.setIfInBounds_toArray, List.set_cons_zero, List.set_cons_succ]
          refine AnyU.take (i := 25) (v := undef) rfl (by kernel_rfl) (by kernel_rfl) (by kernel_rfl) (by kernel_rfl) (fun _ _ _ h => h) (Or.inr ⟨by rfl, rfl⟩) hHeld ?_
          simp only [Act.put, List.setIfInBounds_toArray, List.set_cons_zero, List.set_cons_succ]
          refine AnyU.take (i := 26) (v := undef) rfl (by kernel_rfl) (by kernel_rfl) (by kernel_rfl) (by kernel_rfl) (fun _ _ _ h => h) (Or.inr ⟨by rfl, rfl⟩) hHeld ?_
          simp only [Act.put, List.setIfInBounds_toArray, List.set_cons_zero, List.set_cons_succ]
          refine AnyU.take (i := 27) (v := ?v25228) rfl (by kernel_rfl) (by kernel_rfl) (by kernel_rfl) (by kernel_rfl) (fun _ _ _ h => h) (Or.inl ⟨by rfl, ?hy25228⟩) hHeld ?r25228
          case hy25228 => (intro w hSw; (try dsimp only at hSw); rw [hP] at hSw; obtain ⟨z0, z1, z2, z3⟩ := hSw; go_simp <;> with_reducible rfl)
          simp only [Act.put, List.setIfInBounds_toArray, List.set_cons_zero, List.set_cons_succ]
          refine AnyU.take (i := 28) (v := ?v25229) rfl (by kernel_rfl) (by kernel_rfl) (by kernel_rfl) (by kernel_rfl) (fun _ _ _ h => h) (Or.inl ⟨by rfl, ?hy25229⟩) hHeld ?r25229
          case hy25229 => (intro w hSw; (try dsimp only at hSw); rw [hP] at hSw; obtain ⟨z0, z1, z2, z3⟩ := hSw; go_simp <;> with_reducible rfl)
          simp only [Act.put, List.setIfInBounds_toArray, List.set_cons_zero, List.set_cons_succ]
          clear hHeld
          refine AnyU.over (by kernel_rfl) ?_ _
          refine NoPanic.normal ?_
          have HBD : Hid (Below WT1.heap.size WT1 WT1.drew) := hide (bel_drewN (Below.refl _ _) 1)
          have HTD := hide (HT5.out.below HBD.out)
          have HIZ := hide (HIX.out.below HBD.out)
          have HKD1d : Hid (WT1.drew.heap[D1]? = some (.deferred (some []))) := hide HKD1.out
          have HKD0d : Hid (WT1.drew.heap[D0]? = some (.deferred (some []))) := hide ((HTW1.out.block _ (lt_of_block HKD0.out)).trans HKD0.out)
          obtain ⟨t0, t1, _⟩ := HTD.out.cells
          have HLTD : Hid (D0 < WX.heap.size) := hide (lt_of_block HKD0.out)
          generalize WT1.drew = WY at *
          clear hP0 hP
          gi_wp2_with fail
          rw [roundsIn_succ]
          have HBk : Hid (Below WY.heap.size WY (WY.alloc (.cells #[.int .i64 2] 3))) := hide ((Below.refl _ _).alloc (Nat.le_refl _) _)
          have HIk := hide (HIZ.out.below HBk.out)
          have HK0 := hide ((HBk.out.block _ (lt_of_block HKD0d.out)).trans HKD0d.out)
          have HK1 := hide ((HBk.out.block _ (lt_of_block HKD1d.out)).trans HKD1d.out)
          obtain ⟨_, _, c6, f6, _⟩ := HIk.out.cells
          clear t0 t1
          gi_wp2_with fail
          have hK1' := (KeepsOthers.setCell (WY.alloc (.cells #[.int .i64 2] 3)) ⟨w.heap.size + 2, 0, none⟩ (.bool true)).same D1 _ HK1.out rfl
          have hK0' := (KeepsOthers.setCell (WY.alloc (.cells #[.int .i64 2] 3)) ⟨w.heap.size + 2, 0, none⟩ (.bool true)).same D0 _ HK0.out rfl
          exact told_end (HIk.out.yes) (by have := HDW0.out; have := HW4.out; omega) (by have := HDW1.out; have := HLTD.out; have := HDW0.out; have := HW4.out; omega) (by have := HDW1.out; have := HLTD.out; omega) hK0' hK1' (fun W' h => by simp [results, Try.results15, go_sem, h])
        case stop_252 =>
          rintro D1 c' pre WT1 hD hpre ⟨⟨rfl, hT, hkl, hl0⟩, hti⟩ hK
          exact absurd hT (by decide)
end Go.Proofs.Ytkidefmkgcankaa
