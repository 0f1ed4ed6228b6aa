/- The walk of gavellaw03.told: what a calendar tells of itself is what the document's tells. -/
import Derived.Test.YtdaicdaakegdmaaCpy
import Derived.Test.YtdaicdaakegdmaaKno
import Derived.Sort.CutIn
import Derived.Sort.BigQuietIn
import Derived.LoopIn
import Derived.LoopNIn
namespace Go.Proofs.Ytdaicdaakegdmaa
open Go.RowKit Go.Maps Go.Shelf
open Go.ChangeMaps Go.WideMaps

attribute [local go_sem] Oper.semAt_some

/-- The cells of a turn: its number, how many came so far. -/
structure TurnT (wb : World) (tc kc : Nat) (T : Int) (k : Nat) (W : World) : Prop where
  bel : Below wb.heap.size wb W
  t : W.heap[tc]? = some (.cells #[.int .i64 T] 3 (0, 0))
  k : W.heap[kc]? = some (.cells #[.int .i64 (k : Int)] 3 (0, 0))
  lo : wb.heap.size ≤ tc ∧ wb.heap.size ≤ kc ∧ tc ≠ kc
section
variable {wb W W' : World} {tc kc : Nat} {T : Int} {k : Nat}
theorem TurnT.below (h : TurnT wb tc kc T k W) (hb : Below W.heap.size W W') : TurnT wb tc kc T k W' :=
  ⟨h.bel.trans (hb.mono h.bel.size), (hb.block _ (lt_of_block h.t)).trans h.t, (hb.block _ (lt_of_block h.k)).trans h.k, h.lo⟩
theorem TurnT.next (h : TurnT wb tc kc T k W) (k' : Nat) : TurnT wb tc kc T k' (W.setCell ⟨kc, 0, none⟩ (.int .i64 (k' : Int))) :=
  ⟨h.bel.setCell h.lo.2.1 _, (Below.heap_setCell W _ _ _ h.lo.2.2).trans h.t, setCell_block h.k 0 _, h.lo⟩
theorem TurnT.cells (h : TurnT wb tc kc T k W) : W.cell? ⟨tc, 0, none⟩ = some (.int .i64 T) ∧ W.cell? ⟨kc, 0, none⟩ = some (.int .i64 (k : Int)) ∧ W.frozen? ⟨kc, 0, none⟩ = false :=
  ⟨cell_of_row W _ 0 _ _ (0, 0) h.t, cell_of_row W _ 0 _ _ (0, 0) h.k, frozen_of_row W _ 0 _ _ h.k⟩
theorem TurnT.start (wb : World) (T : Int) : TurnT wb wb.heap.size (wb.heap.size + 1) T 0 ((wb.alloc (.cells #[.int .i64 T] 3)).alloc (.cells #[.int .i64 0] 3)) ∧ ((wb.alloc (.cells #[.int .i64 T] 3)).alloc (.cells #[.int .i64 0] 3)).heap.size = wb.heap.size + 2 :=
  ⟨⟨((Below.refl _ _).alloc (Nat.le_refl _) _).alloc (by simp) _, (Below.heap_alloc _ _ _ (by simp)).trans (heap_alloc_new wb _), by
    have := heap_alloc_new (wb.alloc (.cells #[.int .i64 T] 3)) (.cells #[.int .i64 0] 3)
    simpa using this, by omega⟩, by simp⟩
theorem TurnT.grown (h : TurnT wb tc kc T k W) {row : Option Nat} (hg : W.grownBy W' row) (hr : ∀ r, row = some r → wb.heap.size ≤ r ∧ ∃ o : Obj, W.heap[r]? = some o ∧ o.isCells = false) : TurnT wb tc kc T k W' := by
  have key : ∀ {k t : Nat} {cs : Array Value} {fr : Nat × Nat}, W.heap[k]? = some (.cells cs t fr) → some k ≠ row := fun hk e => by
    obtain ⟨o, h1, h2⟩ := (hr _ e.symm).2
    rw [hk] at h1
    injection h1 with h1
    subst h1
    cases h2
  exact ⟨h.bel.grown hg h.bel.size (fun r e => (hr r e).1), (hg.block _ (lt_of_block h.t) (key h.t)).trans h.t, (hg.block _ (lt_of_block h.k) (key h.k)).trans h.k, h.lo⟩
end
def InvT (T lv : Int) (wb : World) (tc : Nat) (pre : List Du) (W : World) : Prop := (T = 0 → lv ≤ 0 ∨ (pre.length : Int) < lv) ∧ TurnT wb tc (tc + 1) T pre.length W
def StopT (T lv : Int) (wb : World) (tc : Nat) (c' : Code) (pre : List Du) (W : World) : Prop := (c' = .exit 2 ∧ T = 0 ∧ (pre.length : Int) = lv ∧ 0 < lv) ∧ TurnT wb tc (tc + 1) T pre.length W

/-- What told holds from its start on. -/
structure TlI (w : World) (p r x m q : Nat) (v vd : Value) (now lv : Int) (l S : List Du) (W : World) : Prop where
  b4 : W.heap[w.heap.size]? = some (.cells #[.pointer (some ⟨q, 0, none⟩)] 38 (0, 0))
  b5 : W.heap[w.heap.size + 1]? = some (.cells #[.int .i64 lv] 2 (0, 0))
  b6 : W.heap[w.heap.size + 2]? = some (.cells #[.bool false] 4 (0, 0))
  ca : ∃ B, Cal W B p r x m v now l
  re : RelD l S
  da : ∃ B, DocW W B q now vd S
  bel : Below w.heap.size w W
section
variable {w W W' : World} {p r x m q : Nat} {v vd : Value} {now lv : Int} {l S : List Du}
theorem TlI.below (h : TlI w p r x m q v vd now lv l S W) (hb : Below W.heap.size W W') : TlI w p r x m q v vd now lv l S W' :=
  ⟨(hb.block _ (lt_of_block h.b4)).trans h.b4, (hb.block _ (lt_of_block h.b5)).trans h.b5, (hb.block _ (lt_of_block h.b6)).trans h.b6, h.ca.imp fun _ hc => CalF.below hc hb, h.re, h.da.imp fun _ hd => hd.below hb, h.bel.trans (hb.mono h.bel.size)⟩
theorem TlI.cells (h : TlI w p r x m q v vd now lv l S W) : W.cell? ⟨w.heap.size, 0, none⟩ = some (.pointer (some ⟨q, 0, none⟩)) ∧ W.cell? ⟨w.heap.size + 1, 0, none⟩ = some (.int .i64 lv) ∧ W.cell? ⟨w.heap.size + 2, 0, none⟩ = some (.bool false) ∧ W.frozen? ⟨w.heap.size + 2, 0, none⟩ = false ∧ W.cell? ⟨q, 0, none⟩ = some (.int .i64 now) ∧ W.cell? ⟨q, 1, none⟩ = some vd := by
  obtain ⟨_, hd⟩ := h.da
  exact ⟨cell_of_row W _ 0 _ _ (0, 0) h.b4, cell_of_row W _ 0 _ _ (0, 0) h.b5, cell_of_row W _ 0 _ _ (0, 0) h.b6, frozen_of_row W _ 0 _ _ h.b6, hd.cells.1, hd.cells.2⟩
theorem TlI.at_ (h : TlI w p r x m q v vd now lv l S W) {A : Option Addr} {n c : Nat} (hv : vd = .slice A n c) (k : Nat) (hk : k < S.length) : ∃ g o, A = some ⟨g, o, none⟩ ∧ W.cell? ⟨g, o + k * 2, none⟩ = some (.int .i64 (gD S k).1) ∧ W.cell? ⟨g, o + k * 2 + 1, none⟩ = some (.int .i64 (gD S k).2) := by
  obtain ⟨_, hd⟩ := h.da
  obtain ⟨A', c', e, _, _, hr⟩ := hd.row.rd
  rw [hv] at e
  injection e with e1 e2 e3
  subst e1
  obtain ⟨g, o, e, hg, hc⟩ := hr.2 (by omega)
  have := flatD_at S k hk
  exact ⟨g, o, e, hc _ _ this.1, hc _ _ this.2⟩
theorem TlI.yes (h : TlI w p r x m q v vd now lv l S W) : (W.setCell ⟨w.heap.size + 2, 0, none⟩ (.bool true)).cell? ⟨w.heap.size + 2, 0, none⟩ = some (.bool true) ∧ Below w.heap.size w (W.setCell ⟨w.heap.size + 2, 0, none⟩ (.bool true)) :=
  ⟨cell_of_row _ _ 0 _ _ (0, 0) (setCell_block h.b6 0 _), h.bel.setCell (by show w.heap.size ≤ w.heap.size + 2; omega) _⟩
theorem TlI.now_q (h : TlI w p r x m q v vd now lv l S W) (n : Nat) : Calls Try.prog 24 #[.pointer (some ⟨p, 0, none⟩)] (W.drewN n) fun e w' => e = .returned (.int .i64 now) ∧ ∃ k, w' = W.drewN k := by
  obtain ⟨_, hc⟩ := (h.below (below_drewN (Below.refl _ W) n)).ca
  exact (now_any hc).mono fun _ _ ⟨he, hw⟩ => ⟨he, n, hw.symm⟩
theorem TlI.len_q (h : TlI w p r x m q v vd now lv l S W) (n : Nat) : Calls Try.prog 11 #[.pointer (some ⟨p, 0, none⟩)] (W.drewN n) fun e w' => e = .returned (.int .i64 S.length) ∧ ∃ k, w' = W.drewN k := by
  obtain ⟨_, hc⟩ := (h.below (below_drewN (Below.refl _ W) n)).ca
  rw [← h.re.length]
  exact (len_any hc).mono fun _ _ ⟨he, hw⟩ => ⟨he, n, hw.symm⟩
end
theorem three_new (w : World) (o1 o2 o3 : Obj) : (((w.alloc o1).alloc o2).alloc o3).heap[w.heap.size]? = some o1 ∧ (((w.alloc o1).alloc o2).alloc o3).heap[w.heap.size + 1]? = some o2 ∧ (((w.alloc o1).alloc o2).alloc o3).heap[w.heap.size + 2]? = some o3 ∧ Below w.heap.size w (((w.alloc o1).alloc o2).alloc o3) := by
  refine ⟨(Below.heap_alloc _ _ _ (by simp; omega)).trans ((Below.heap_alloc _ _ _ (by simp)).trans (heap_alloc_new w o1)), ?_, ?_, (((Below.refl _ _).alloc (Nat.le_refl _) _).alloc (by simp) _).alloc (by simp; omega) _⟩
  · have := heap_alloc_new (w.alloc o1) o2
    exact (Below.heap_alloc _ _ _ (by simp)).trans (by simpa using this)
  · have := heap_alloc_new ((w.alloc o1).alloc o2) o3
    simpa using this
theorem told_end {fn : Func} {tmps : Array Value} {w W : World} {D0 D1 : Nat} (hy : W.cell? ⟨w.heap.size + 2, 0, none⟩ = some (.bool true) ∧ Below w.heap.size w W) (h0 : w.heap.size + 2 < D0) (h1 : w.heap.size + 2 < D1) (hne : D0 ≠ D1) (hK0 : W.heap[D0]? = some (.deferred (some []))) (hK1 : W.heap[D1]? = some (.deferred (some [])))
    (hr : ∀ W', W'.cell? ⟨w.heap.size + 2, 0, none⟩ = some (.bool true) → (results fn tmps).run Try.prog W' = .ok (.bool true) W') : LeavesInM Fence.wide 9 Try.prog fn tmps (ValB (.bool true) w) [{ target := .collected D1, args := #[] }, { target := .collected D0, args := #[] }] .returning W := by
  have hK0' : (W.putObj D1 (.deferred none)).heap[D0]? = some (.deferred (some [])) := (World.putObj_heap_other hne).trans hK0
  have hc1 : (W.putObj D1 (.deferred none)).cell? ⟨w.heap.size + 2, 0, none⟩ = some (.bool true) := (World.cell?_of_block (w := W) (World.putObj_heap_other (show w.heap.size + 2 ≠ D1 by omega))).trans hy.1
  have hc2 : ((W.putObj D1 (.deferred none)).putObj D0 (.deferred none)).cell? ⟨w.heap.size + 2, 0, none⟩ = some (.bool true) := (World.cell?_of_block (w := W.putObj D1 (.deferred none)) (World.putObj_heap_other (show w.heap.size + 2 ≠ D0 by omega))).trans hc1
  have hb1 : Below w.heap.size w (W.putObj D1 (.deferred none)) := hy.2.grown (grownBy_putObj' W D1 _) hy.2.size (fun k e => by injection e with e; omega)
  have hb2 : Below w.heap.size w ((W.putObj D1 (.deferred none)).putObj D0 (.deferred none)) := hb1.grown (grownBy_putObj' _ D0 _) hb1.size (fun k e => by injection e with e; omega)
  exact ⟨by simp, .inl ⟨D1, _, rfl, run_takeDeferred hK1, by simp, .inl ⟨D0, _, rfl, run_takeDeferred hK0', ⟨.bool true, hr _ hc2, rfl, hb2⟩⟩⟩⟩
set_option maxRecDepth 100000 in
set_option maxHeartbeats 64000000 in
theorem told_any {w : World} {B B' p r x m q : Nat} {v vd : Value} {now : Int} {l S : List Du} (h : Cal w B p r x m v now l) (hS : RelD l S) (hd : DocW w B' q now vd S) (hl : S.length ≤ 800000) (lv : Int) :
    Calls Try.prog 22 #[.pointer (some ⟨p, 0, none⟩), .pointer (some ⟨q, 0, none⟩), .int .i64 lv] w (ValB (.bool true) w) := by
  obtain ⟨y4, y5, y6, yb⟩ := three_new w (.cells #[.pointer (some ⟨q, 0, none⟩)] 38) (.cells #[.int .i64 lv] 2) (.cells #[.bool false] 4)
  obtain ⟨AD, cD, hvd, _, _, _⟩ := hd.row.rd
  have HI1 : Hid (TlI w p r x m q v vd now lv l S (((w.alloc (.cells #[.pointer (some ⟨q, 0, none⟩)] 38)).alloc (.cells #[.int .i64 lv] 2)).alloc (.cells #[.bool false] 4))) := hide ⟨y4, y5, y6, ⟨B, CalF.below h yb⟩, hS, ⟨B', hd.below yb⟩, yb⟩
  have HVD := hide hvd
  have HSL := hide hl
  clear y4 y5 y6 yb h hS hd hvd hl
  refine (callsIn_wide (n := 9)).1 ?_
  refine callsIn_of_wp_marks Try.func22 rfl trivial ?_ rfl
  simp only [Try.ntmps22, List.size_toArray, List.length_cons, List.length_nil, Nat.reduceAdd, Nat.reduceSub, Array.replicate_succ, Array.replicate_zero, List.push_toArray, List.append_toArray, List.nil_append, List.cons_append]
  gi_wp2_with fail
  generalize ((w.alloc (.cells #[.pointer (some ⟨q, 0, none⟩)] 38)).alloc (.cells #[.int .i64 lv] 2)).alloc (.cells #[.bool false] 4) = w1 at *
  obtain ⟨_, hca⟩ := HI1.out.ca
  have HNX := hide (next_any hca HI1.out.re)
  rw [nextV_eq] at HNX
  clear hca
  refine ⟨trivial, ?_⟩
  gi_at_call 12
  refine (callsIn_wide.2 HNX.out).mono ?_
  rintro _ w2 ⟨rfl, hb2⟩
  have HB3 : Hid (Below w2.heap.size w2 (w2.alloc (.cells #[.int .i64 (hdD S).1, .int .i64 (hdD S).2] 30))) := hide ((Below.refl _ _).alloc (Nat.le_refl _) _)
  have HX3 := hide (heap_alloc_new w2 (.cells #[.int .i64 (hdD S).1, .int .i64 (hdD S).2] 30))
  have HI3 := hide ((HI1.out.below hb2).below HB3.out)
  clear hb2 HNX HI1
  obtain ⟨b7, hb7⟩ : ∃ b7, b7 = w2.heap.size := ⟨_, rfl⟩
  gi_wp2_with fail
  rw [← hb7] at HX3 ⊢
  generalize w2.alloc (.cells #[.int .i64 (hdD S).1, .int .i64 (hdD S).2] 30) = w3 at *
  clear hb7 HB3
  obtain ⟨c4, c5, c6, f6, q0, q1⟩ := HI3.out.cells
  rw [HVD.out] at q1
  have d0 := cell_of_row w3 b7 0 _ _ (0, 0) HX3.out
  have d1 := cell_of_row w3 b7 1 _ _ (0, 0) HX3.out
  simp only [List.getElem?_toArray, List.getElem?_cons_zero, List.getElem?_cons_succ] at d0 d1
  have hnn : (now != now) = false := by simp
  have hll : ((S.length : Int) != (S.length : Int)) = false := by simp
  gi_upto_region 2 with fail
  gi_cut [66] from 18 (fun z wx => z = .bool false ∧ TlI w p r x m q v vd now lv l S wx)
  case first =>
    have HFIN : Hid (∀ n, TlI w p r x m q v vd now lv l S (w3.drewN n)) := hide (fun n => HI3.out.below (below_drewN (Below.refl _ _) n))
    have HNQ := hide HI3.out.now_q
    have HLQ := hide HI3.out.len_q
    cases S with
    | nil =>
      have ha : anyD [] = false := rfl
      have hh : hdD [] = (0, 0) := rfl
      rw [hh] at d0 d1
      simp only at d0 d1
      have hgt : decide ((0 : Int) < ((([] : List Du).length : Nat) : Int)) = false := rfl
      have hne : ((0 : Int) != 0) = false := rfl
      obtain ⟨P, hP⟩ : ∃ P : World → Prop, P = fun W => W.cell? ⟨w.heap.size, 0, none⟩ = some (.pointer (some ⟨q, 0, none⟩)) ∧ W.cell? ⟨q, 0, none⟩ = some (.int .i64 now) ∧ W.cell? ⟨q, 1, none⟩ = some (.slice AD ([] : List Du).length cD) ∧ W.cell? ⟨b7, 0, none⟩ = some (.int .i64 0) ∧ W.cell? ⟨b7, 1, none⟩ = some (.int .i64 0) := ⟨_, rfl⟩
      have HP0 : Hid (∀ n, P (w3.drewN n)) := hide (fun n => by rw [hP]; exact ⟨c4, q0, q1, d0, d1⟩)
      have hP0 := HP0.out 1
      clear c4 q0 q1 d0 d1
      gi_wp2_with fail
      refine wpIn_mono (Q := NoPanic _) ?_ NoPanic.imp
      refine wpIn_wide.2 ?_
      refine wp_region_U 49 P (by kernel_rfl) hP0 (fun hHeld => ?_)
      refine AnyU.take (i := 0) (v := ?v1) rfl (by kernel_rfl) (by kernel_rfl) (by kernel_rfl) (by kernel_rfl) (fun _ _ _ h => h) (Or.inl ⟨by rfl, ?hy1⟩) hHeld ?r1
      case hy1 => (intro w hSw; (try dsimp only at hSw); rw [hP] at hSw; obtain ⟨z0, z1, z2, z3, z4⟩ := hSw; go_simp <;> with_reducible rfl)
      simp only [Act.put, List.setIfInBounds_toArray, List.set_cons_zero, List.set_cons_succ]
      refine AnyU.take (i := 2) (v := ?v2) rfl (by kernel_rfl) (by kernel_rfl) (by kernel_rfl) (by kernel_rfl) (fun _ _ _ h => h) (Or.inl ⟨by rfl, ?hy2⟩) hHeld ?r2
      case hy2 => (intro w hSw; (try dsimp only at hSw); rw [hP] at hSw; obtain ⟨z0, z1, z2, z3, z4⟩ := hSw; go_simp <;> with_reducible rfl)
      simp only [Act.put, List.setIfInBounds_toArray, List.set_cons_zero, List.set_cons_succ]
      refine AnyU.take (i := 3) (v := ?v3) rfl (by kernel_rfl) (by kernel_rfl) (by kernel_rfl) (by kernel_rfl) (fun _ _ _ h => h) (Or.inl ⟨by rfl, ?hy3⟩) hHeld ?r3
      case hy3 => (intro w hSw; (try dsimp only at hSw); rw [hP] at hSw; obtain ⟨z0, z1, z2, z3, z4⟩ := hSw; go_simp <;> with_reducible rfl)
      simp only [Act.put, List.setIfInBounds_toArray, List.set_cons_zero, List.set_cons_succ]
      refine AnyU.take (i := 4) (v := ?v4) rfl (by kernel_rfl) (by kernel_rfl) (by kernel_rfl) (by kernel_rfl) (fun _ _ _ h => h) (Or.inl ⟨by rfl, ?hy4⟩) hHeld ?r4
      case hy4 => (intro w hSw; (try dsimp only at hSw); rw [hP] at hSw; obtain ⟨z0, z1, z2, z3, z4⟩ := hSw; go_simp <;> with_reducible rfl)
      simp only [Act.put, List.setIfInBounds_toArray, List.set_cons_zero, List.set_cons_succ]
      refine AnyU.take (i := 5) (v := ?v5) rfl (by kernel_rfl) (by kernel_rfl) (by kernel_rfl) (by kernel_rfl) (fun _ _ _ h => h) (Or.inl ⟨by rfl, ?hy5⟩) hHeld ?r5
      case hy5 => (intro w hSw; (try dsimp only at hSw); rw [hP] at hSw; obtain ⟨z0, z1, z2, z3, z4⟩ := hSw; go_simp <;> with_reducible rfl)
      simp only [Act.put, List.setIfInBounds_toArray, List.set_cons_zero, List.set_cons_succ]
      refine AnyU.next (js := [1]) (by kernel_rfl) (by simp) (NextU.cons rfl (fun K hK => ?_) NextU.nil)
      go_simp
      refine (HNQ.out 1).mono ?_
      rintro _ _ ⟨rfl, k1, rfl⟩
      refine hK.out _ _ (fun _ => HP0.out k1) (fun hHeld => ?_)
      try simp only [Act.put, List.setIfInBounds_toArray, List.set_cons_zero, List.set_cons_succ]
      clear hK K
      have hHeld := hHeld (by decide)
      refine AnyU.take (i := 6) (v := .bool false) rfl (by kernel_rfl) (by kernel_rfl) (by kernel_rfl) (by kernel_rfl) (fun _ _ _ h => h) (Or.inl ⟨by rfl, ?hy6⟩) hHeld ?r6
      case hy6 => (intro w hSw; (try dsimp only at hSw); rw [hP] at hSw; obtain ⟨z0, z1, z2, z3, z4⟩ := hSw; go_simp <;> first | with_reducible rfl | exact hnn | omega)
      simp only [Act.put, List.setIfInBounds_toArray, List.set_cons_zero, List.set_cons_succ]
      refine AnyU.take (i := 7) (v := ?v7) rfl (by kernel_rfl) (by kernel_rfl) (by kernel_rfl) (by kernel_rfl) (fun _ _ _ h => h) (Or.inl ⟨by rfl, ?hy7⟩) hHeld ?r7
      case hy7 => (intro w hSw; (try dsimp only at hSw); rw [hP] at hSw; obtain ⟨z0, z1, z2, z3, z4⟩ := hSw; go_simp <;> with_reducible rfl)
      simp only [Act.put, List.setIfInBounds_toArray, List.set_cons_zero, List.set_cons_succ]
      refine AnyU.take (i := 8) (v := ?v8) rfl (by kernel_rfl) (by kernel_rfl) (by kernel_rfl) (by kernel_rfl) (fun _ _ _ h => h) (Or.inl ⟨by rfl, ?hy8⟩) hHeld ?r8
      case hy8 => (intro w hSw; (try dsimp only at hSw); rw [hP] at hSw; obtain ⟨z0, z1, z2, z3, z4⟩ := hSw; go_simp <;> with_reducible rfl)
      simp only [Act.put, List.setIfInBounds_toArray, List.set_cons_zero, List.set_cons_succ]
      refine AnyU.take (i := 10) (v := ?v9) rfl (by kernel_rfl) (by kernel_rfl) (by kernel_rfl) (by kernel_rfl) (fun _ _ _ h => h) (Or.inl ⟨by rfl, ?hy9⟩) hHeld ?r9
      case hy9 => (intro w hSw; (try dsimp only at hSw); rw [hP] at hSw; obtain ⟨z0, z1, z2, z3, z4⟩ := hSw; go_simp <;> with_reducible rfl)
      simp only [Act.put, List.setIfInBounds_toArray, List.set_cons_zero, List.set_cons_succ]
      refine AnyU.take (i := 11) (v := ?v10) rfl (by kernel_rfl) (by kernel_rfl) (by kernel_rfl) (by kernel_rfl) (fun _ _ _ h => h) (Or.inl ⟨by rfl, ?hy10⟩) hHeld ?r10
      case hy10 => (intro w hSw; (try dsimp only at hSw); rw [hP] at hSw; obtain ⟨z0, z1, z2, z3, z4⟩ := hSw; go_simp <;> with_reducible rfl)
      simp only [Act.put, List.setIfInBounds_toArray, List.set_cons_zero, List.set_cons_succ]
      refine AnyU.take (i := 12) (v := ?v11) rfl (by kernel_rfl) (by kernel_rfl) (by kernel_rfl) (by kernel_rfl) (fun _ _ _ h => h) (Or.inl ⟨by rfl, ?hy11⟩) hHeld ?r11
      case hy11 => (intro w hSw; (try dsimp only at hSw); rw [hP] at hSw; obtain ⟨z0, z1, z2, z3, z4⟩ := hSw; go_simp <;> with_reducible rfl)
      simp only [Act.put, List.setIfInBounds_toArray, List.set_cons_zero, List.set_cons_succ]
      refine AnyU.take (i := 13) (v := ?v12) rfl (by kernel_rfl) (by kernel_rfl) (by kernel_rfl) (by kernel_rfl) (fun _ _ _ h => h) (Or.inl ⟨by rfl, ?hy12⟩) hHeld ?r12
      case hy12 => (intro w hSw; (try dsimp only at hSw); rw [hP] at hSw; obtain ⟨z0, z1, z2, z3, z4⟩ := hSw; go_simp <;> with_reducible rfl)
      simp only [Act.put, List.setIfInBounds_toArray, List.set_cons_zero, List.set_cons_succ]
      refine AnyU.take (i := 14) (v := ?v13) rfl (by kernel_rfl) (by kernel_rfl) (by kernel_rfl) (by kernel_rfl) (fun _ _ _ h => h) (Or.inl ⟨by rfl, ?hy13⟩) hHeld ?r13
      case hy13 => (intro w hSw; (try dsimp only at hSw); rw [hP] at hSw; obtain ⟨z0, z1, z2, z3, z4⟩ := hSw; go_simp <;> with_reducible rfl)
      simp only [Act.put, List.setIfInBounds_toArray, List.set_cons_zero, List.set_cons_succ]
      refine AnyU.next (js := [9]) (by kernel_rfl) (by simp) (NextU.cons rfl (fun K hK => ?_) NextU.nil)
      go_simp
      refine (HLQ.out k1).mono ?_
      rintro _ _ ⟨rfl, k2, rfl⟩
      refine hK.out _ _ (fun _ => HP0.out k2) (fun hHeld => ?_)
      try simp only [Act.put, List.setIfInBounds_toArray, List.set_cons_zero, List.set_cons_succ]
      clear hK K
      have hHeld := hHeld (by decide)
      refine AnyU.take (i := 15) (v := .bool false) rfl (by kernel_rfl) (by kernel_rfl) (by kernel_rfl) (by kernel_rfl) (fun _ _ _ h => h) (Or.inl ⟨by rfl, ?hy14⟩) hHeld ?r14
      case hy14 => (intro w hSw; (try dsimp only at hSw); rw [hP] at hSw; obtain ⟨z0, z1, z2, z3, z4⟩ := hSw; go_simp <;> first | with_reducible rfl | exact hll | omega)
      simp only [Act.put, List.setIfInBounds_toArray, List.set_cons_zero, List.set_cons_succ]
      refine AnyU.take (i := 16) (v := ?v15) rfl (by kernel_rfl) (by kernel_rfl) (by kernel_rfl) (by kernel_rfl) (fun _ _ _ h => h) (Or.inl ⟨by rfl, ?hy15⟩) hHeld ?r15
      case hy15 => (intro w hSw; (try dsimp only at hSw); rw [hP] at hSw; obtain ⟨z0, z1, z2, z3, z4⟩ := hSw; go_simp <;> with_reducible rfl)
      simp only [Act.put, List.setIfInBounds_toArray, List.set_cons_zero, List.set_cons_succ]
      refine AnyU.take (i := 17) (v := ?v16) rfl (by kernel_rfl) (by kernel_rfl) (by kernel_rfl) (by kernel_rfl) (fun _ _ _ h => h) (Or.inl ⟨by rfl, ?hy16⟩) hHeld ?r16
      case hy16 => (intro w hSw; (try dsimp only at hSw); rw [hP] at hSw; obtain ⟨z0, z1, z2, z3, z4⟩ := hSw; go_simp <;> with_reducible rfl)
      simp only [Act.put, List.setIfInBounds_toArray, List.set_cons_zero, List.set_cons_succ]
      refine AnyU.take (i := 18) (v := ?v17) rfl (by kernel_rfl) (by kernel_rfl) (by kernel_rfl) (by kernel_rfl) (fun _ _ _ h => h) (Or.inl ⟨by rfl, ?hy17⟩) hHeld ?r17
      case hy17 => (intro w hSw; (try dsimp only at hSw); rw [hP] at hSw; obtain ⟨z0, z1, z2, z3, z4⟩ := hSw; go_simp <;> with_reducible rfl)
      simp only [Act.put, List.setIfInBounds_toArray, List.set_cons_zero, List.set_cons_succ]
      refine AnyU.take (i := 19) (v := ?v18) rfl (by kernel_rfl) (by kernel_rfl) (by kernel_rfl) (by kernel_rfl) (fun _ _ _ h => h) (Or.inl ⟨by rfl, ?hy18⟩) hHeld ?r18
      case hy18 => (intro w hSw; (try dsimp only at hSw); rw [hP] at hSw; obtain ⟨z0, z1, z2, z3, z4⟩ := hSw; go_simp <;> with_reducible rfl)
      simp only [Act.put, List.setIfInBounds_toArray, List.set_cons_zero, List.set_cons_succ]
      refine AnyU.take (i := 20) (v := ?v19) rfl (by kernel_rfl) (by kernel_rfl) (by kernel_rfl) (by kernel_rfl) (fun _ _ _ h => h) (Or.inl ⟨by rfl, ?hy19⟩) hHeld ?r19
      case hy19 => (intro w hSw; (try dsimp only at hSw); rw [hP] at hSw; obtain ⟨z0, z1, z2, z3, z4⟩ := hSw; go_simp <;> with_reducible rfl)
      simp only [Act.put, List.setIfInBounds_toArray, List.set_cons_zero, List.set_cons_succ]
      refine AnyU.take (i := 21) (v := ?v20) rfl (by kernel_rfl) (by kernel_rfl) (by kernel_rfl) (by kernel_rfl) (fun _ _ _ h => h) (Or.inl ⟨by rfl, ?hy20⟩) hHeld ?r20
      case hy20 => (intro w hSw; (try dsimp only at hSw); rw [hP] at hSw; obtain ⟨z0, z1, z2, z3, z4⟩ := hSw; go_simp <;> with_reducible rfl)
      simp only [Act.put, List.setIfInBounds_toArray, List.set_cons_zero, List.set_cons_succ]
      refine AnyU.take (i := 22) (v := ?v21) rfl (by kernel_rfl) (by kernel_rfl) (by kernel_rfl) (by kernel_rfl) (fun _ _ _ h => h) (Or.inl ⟨by rfl, ?hy21⟩) hHeld ?r21
      case hy21 => (intro w hSw; (try dsimp only at hSw); rw [hP] at hSw; obtain ⟨z0, z1, z2, z3, z4⟩ := hSw; go_simp <;> with_reducible rfl)
      simp only [Act.put, List.setIfInBounds_toArray, List.set_cons_zero, List.set_cons_succ]
      refine AnyU.take (i := 23) (v := ?v22) rfl (by kernel_rfl) (by kernel_rfl) (by kernel_rfl) (by kernel_rfl) (fun _ _ _ h => h) (Or.inl ⟨by rfl, ?hy22⟩) hHeld ?r22
      case hy22 => (intro w hSw; (try dsimp only at hSw); rw [hP] at hSw; obtain ⟨z0, z1, z2, z3, z4⟩ := hSw; go_simp <;> with_reducible rfl)
      simp only [Act.put, List.setIfInBounds_toArray, List.set_cons_zero, List.set_cons_succ]
      refine AnyU.take (i := 24) (v := .bool false) rfl (by kernel_rfl) (by kernel_rfl) (by kernel_rfl) (by kernel_rfl) (fun _ _ _ h => h) (Or.inl ⟨by rfl, ?hy23⟩) hHeld ?r23
      case hy23 => (intro w hSw; (try dsimp only at hSw); rw [hP] at hSw; obtain ⟨z0, z1, z2, z3, z4⟩ := hSw; go_simp <;> first | with_reducible rfl | exact hgt | omega)
      simp only [Act.put, List.setIfInBounds_toArray, List.set_cons_zero, List.set_cons_succ]
      refine AnyU.take (i := 25) (v := ?v24) rfl (by kernel_rfl) (by kernel_rfl) (by kernel_rfl) (by kernel_rfl) (fun _ _ _ h => h) (Or.inl ⟨by rfl, ?hy24⟩) hHeld ?r24
      case hy24 => (intro w hSw; (try dsimp only at hSw); rw [hP] at hSw; obtain ⟨z0, z1, z2, z3, z4⟩ := hSw; go_simp <;> with_reducible rfl)
      simp only [Act.put, List.setIfInBounds_toArray, List.set_cons_zero, List.set_cons_succ]
      refine AnyU.take (i := 26) (v := ?v25) rfl (by kernel_rfl) (by kernel_rfl) (by kernel_rfl) (by kernel_rfl) (fun _ _ _ h => h) (Or.inl ⟨by rfl, ?hy25⟩) hHeld ?r25
      case hy25 => (intro w hSw; (try dsimp only at hSw); rw [hP] at hSw; obtain ⟨z0, z1, z2, z3, z4⟩ := hSw; go_simp <;> with_reducible rfl)
      simp only [Act.put, List.setIfInBounds_toArray, List.set_cons_zero, List.set_cons_succ]
      refine AnyU.take (i := 27) (v := ?v26) rfl (by kernel_rfl) (by kernel_rfl) (by kernel_rfl) (by kernel_rfl) (fun _ _ _ h => h) (Or.inl ⟨by rfl, ?hy26⟩) hHeld ?r26
      case hy26 => (intro w hSw; (try dsimp only at hSw); rw [hP] at hSw; obtain ⟨z0, z1, z2, z3, z4⟩ := hSw; go_simp <;> with_reducible rfl)
      simp only [Act.put, List.setIfInBounds_toArray, List.set_cons_zero, List.set_cons_succ]
      refine AnyU.take (i := 28) (v := ?v27) rfl (by kernel_rfl) (by kernel_rfl) (by kernel_rfl) (by kernel_rfl) (fun _ _ _ h => h) (Or.inl ⟨by rfl, ?hy27⟩) hHeld ?r27
      case hy27 => (intro w hSw; (try dsimp only at hSw); rw [hP] at hSw; obtain ⟨z0, z1, z2, z3, z4⟩ := hSw; go_simp <;> with_reducible rfl)
      simp only [Act.put, List.setIfInBounds_toArray, List.set_cons_zero, List.set_cons_succ]
      refine AnyU.take (i := 29) (v := ?v28) rfl (by kernel_rfl) (by kernel_rfl) (by kernel_rfl) (by kernel_rfl) (fun _ _ _ h => h) (Or.inl ⟨by rfl, ?hy28⟩) hHeld ?r28
      case hy28 => (intro w hSw; (try dsimp only at hSw); rw [hP] at hSw; obtain ⟨z0, z1, z2, z3, z4⟩ := hSw; go_simp <;> with_reducible rfl)
      simp only [Act.put, List.setIfInBounds_toArray, List.set_cons_zero, List.set_cons_succ]
      refine AnyU.take (i := 30) (v := undef) rfl (by kernel_rfl) (by kernel_rfl) (by kernel_rfl) (by kernel_rfl) (fun _ _ _ h => h) (Or.inr ⟨by rfl, rfl⟩) hHeld ?_
      simp only [Act.put, List.setIfInBounds_toArray, List.set_cons_zero, List.set_cons_succ]
      refine AnyU.take (i := 31) (v := undef) rfl (by kernel_rfl) (by kernel_rfl) (by kernel_rfl) (by kernel_rfl) (fun _ _ _ h => h) (Or.inr ⟨by rfl, rfl⟩) hHeld ?_
      simp only [Act.put, List.setIfInBounds_toArray, List.set_cons_zero, List.set_cons_succ]
      refine AnyU.take (i := 32) (v := undef) rfl (by kernel_rfl) (by kernel_rfl) (by kernel_rfl) (by kernel_rfl) (fun _ _ _ h => h) (Or.inr ⟨by rfl, rfl⟩) hHeld ?_
      simp only [Act.put, List.setIfInBounds_toArray, List.set_cons_zero, List.set_cons_succ]
      refine AnyU.take (i := 33) (v := undef) rfl (by kernel_rfl) (by kernel_rfl) (by kernel_rfl) (by kernel_rfl) (fun _ _ _ h => h) (Or.inr ⟨by rfl, rfl⟩) hHeld ?_
      simp only [Act.put, List.setIfInBounds_toArray, List.set_cons_zero, List.set_cons_succ]
      refine AnyU.take (i := 34) (v := undef) rfl (by kernel_rfl) (by kernel_rfl) (by kernel_rfl) (by kernel_rfl) (fun _ _ _ h => h) (Or.inr ⟨by rfl, rfl⟩) hHeld ?_
      simp only [Act.put, List.setIfInBounds_toArray, List.set_cons_zero, List.set_cons_succ]
      refine AnyU.take (i := 35) (v := undef) rfl (by kernel_rfl) (by kernel_rfl) (by kernel_rfl) (by kernel_rfl) (fun _ _ _ h => h) (Or.inr ⟨by rfl, rfl⟩) hHeld ?_
      simp only [Act.put, List.setIfInBounds_toArray, List.set_cons_zero, List.set_cons_succ]
      refine AnyU.take (i := 36) (v := undef) rfl (by kernel_rfl) (by kernel_rfl) (by kernel_rfl) (by kernel_rfl) (fun _ _ _ h => h) (Or.inr ⟨by rfl, rfl⟩) hHeld ?_
      simp only [Act.put, List.setIfInBounds_toArray, List.set_cons_zero, List.set_cons_succ]
      refine AnyU.take (i := 37) (v := undef) rfl (by kernel_rfl) (by kernel_rfl) (by kernel_rfl) (by kernel_rfl) (fun _ _ _ h => h) (Or.inr ⟨by rfl, rfl⟩) hHeld ?_
      simp only [Act.put, List.setIfInBounds_toArray, List.set_cons_zero, List.set_cons_succ]
      refine AnyU.take (i := 38) (v := ?v37) rfl (by kernel_rfl) (by kernel_rfl) (by kernel_rfl) (by kernel_rfl) (fun _ _ _ h => h) (Or.inl ⟨by rfl, ?hy37⟩) hHeld ?r37
      case hy37 => (intro w hSw; (try dsimp only at hSw); rw [hP] at hSw; obtain ⟨z0, z1, z2, z3, z4⟩ := hSw; go_simp <;> with_reducible rfl)
      simp only [Act.put, List.setIfInBounds_toArray, List.set_cons_zero, List.set_cons_succ]
      refine AnyU.take (i := 39) (v := ?v38) rfl (by kernel_rfl) (by kernel_rfl) (by kernel_rfl) (by kernel_rfl) (fun _ _ _ h => h) (Or.inl ⟨by rfl, ?hy38⟩) hHeld ?r38
      case hy38 => (intro w hSw; (try dsimp only at hSw); rw [hP] at hSw; obtain ⟨z0, z1, z2, z3, z4⟩ := hSw; go_simp <;> with_reducible rfl)
      simp only [Act.put, List.setIfInBounds_toArray, List.set_cons_zero, List.set_cons_succ]
      refine AnyU.take (i := 40) (v := ?v39) rfl (by kernel_rfl) (by kernel_rfl) (by kernel_rfl) (by kernel_rfl) (fun _ _ _ h => h) (Or.inl ⟨by rfl, ?hy39⟩) hHeld ?r39
      case hy39 => (intro w hSw; (try dsimp only at hSw); rw [hP] at hSw; obtain ⟨z0, z1, z2, z3, z4⟩ := hSw; go_simp <;> with_reducible rfl)
      simp only [Act.put, List.setIfInBounds_toArray, List.set_cons_zero, List.set_cons_succ]
      refine AnyU.take (i := 41) (v := ?v40) rfl (by kernel_rfl) (by kernel_rfl) (by kernel_rfl) (by kernel_rfl) (fun _ _ _ h => h) (Or.inl ⟨by rfl, ?hy40⟩) hHeld ?r40
      case hy40 => (intro w hSw; (try dsimp only at hSw); rw [hP] at hSw; obtain ⟨z0, z1, z2, z3, z4⟩ := hSw; go_simp <;> with_reducible rfl)
      simp only [Act.put, List.setIfInBounds_toArray, List.set_cons_zero, List.set_cons_succ]
      refine AnyU.take (i := 42) (v := ?v41) rfl (by kernel_rfl) (by kernel_rfl) (by kernel_rfl) (by kernel_rfl) (fun _ _ _ h => h) (Or.inl ⟨by rfl, ?hy41⟩) hHeld ?r41
      case hy41 => (intro w hSw; (try dsimp only at hSw); rw [hP] at hSw; obtain ⟨z0, z1, z2, z3, z4⟩ := hSw; go_simp <;> with_reducible rfl)
      simp only [Act.put, List.setIfInBounds_toArray, List.set_cons_zero, List.set_cons_succ]
      refine AnyU.take (i := 43) (v := ?v42) rfl (by kernel_rfl) (by kernel_rfl) (by kernel_rfl) (by kernel_rfl) (fun _ _ _ h => h) (Or.inl ⟨by rfl, ?hy42⟩) hHeld ?r42
      case hy42 => (intro w hSw; (try dsimp only at hSw); rw [hP] at hSw; obtain ⟨z0, z1, z2, z3, z4⟩ := hSw; go_simp <;> with_reducible rfl)
      simp only [Act.put, List.setIfInBounds_toArray, List.set_cons_zero, List.set_cons_succ]
      refine AnyU.take (i := 44) (v := ?v43) rfl (by kernel_rfl) (by kernel_rfl) (by kernel_rfl) (by kernel_rfl) (fun _ _ _ h => h) (Or.inl ⟨by rfl, ?hy43⟩) hHeld ?r43
      case hy43 => (intro w hSw; (try dsimp only at hSw); rw [hP] at hSw; obtain ⟨z0, z1, z2, z3, z4⟩ := hSw; go_simp <;> with_reducible rfl)
      simp only [Act.put, List.setIfInBounds_toArray, List.set_cons_zero, List.set_cons_succ]
      refine AnyU.take (i := 45) (v := ?v44) rfl (by kernel_rfl) (by kernel_rfl) (by kernel_rfl) (by kernel_rfl) (fun _ _ _ h => h) (Or.inl ⟨by rfl, ?hy44⟩) hHeld ?r44
      case hy44 => (intro w hSw; (try dsimp only at hSw); rw [hP] at hSw; obtain ⟨z0, z1, z2, z3, z4⟩ := hSw; go_simp <;> with_reducible rfl)
      simp only [Act.put, List.setIfInBounds_toArray, List.set_cons_zero, List.set_cons_succ]
      refine AnyU.take (i := 46) (v := .bool false) rfl (by kernel_rfl) (by kernel_rfl) (by kernel_rfl) (by kernel_rfl) (fun _ _ _ h => h) (Or.inl ⟨by rfl, ?hy45⟩) hHeld ?r45
      case hy45 => (intro w hSw; (try dsimp only at hSw); rw [hP] at hSw; obtain ⟨z0, z1, z2, z3, z4⟩ := hSw; go_simp <;> first | with_reducible rfl | exact hne | omega)
      simp only [Act.put, List.setIfInBounds_toArray, List.set_cons_zero, List.set_cons_succ]
      refine AnyU.take (i := 47) (v := ?v46) rfl (by kernel_rfl) (by kernel_rfl) (by kernel_rfl) (by kernel_rfl) (fun _ _ _ h => h) (Or.inl ⟨by rfl, ?hy46⟩) hHeld ?r46
      case hy46 => (intro w hSw; (try dsimp only at hSw); rw [hP] at hSw; obtain ⟨z0, z1, z2, z3, z4⟩ := hSw; go_simp <;> with_reducible rfl)
      simp only [Act.put, List.setIfInBounds_toArray, List.set_cons_zero, List.set_cons_succ]
      refine AnyU.take (i := 48) (v := ?v47) rfl (by kernel_rfl) (by kernel_rfl) (by kernel_rfl) (by kernel_rfl) (fun _ _ _ h => h) (Or.inl ⟨by rfl, ?hy47⟩) hHeld ?r47
      case hy47 => (intro w hSw; (try dsimp only at hSw); rw [hP] at hSw; obtain ⟨z0, z1, z2, z3, z4⟩ := hSw; go_simp <;> with_reducible rfl)
      simp only [Act.put, List.setIfInBounds_toArray, List.set_cons_zero, List.set_cons_succ]
      clear hHeld
      refine AnyU.over (by kernel_rfl) ?_ _
      refine NoPanic.normal ?_
      gi_wp2
      gi_meet
      exact ⟨rfl, HFIN.out _⟩
    | cons e S =>
      obtain ⟨e1, e2⟩ := e
      have ha : anyD ((e1, e2) :: S) = true := rfl
      have hh : hdD ((e1, e2) :: S) = (e1, e2) := rfl
      rw [hh] at d0 d1
      simp only at d0 d1
      obtain ⟨gS, oS, rfl, s0, s1⟩ := HI3.out.at_ HVD.out 0 (by simp)
      simp only [Nat.zero_mul, Nat.add_zero] at s0 s1
      have s0 : w3.cell? ⟨gS, oS, none⟩ = some (.int .i64 e1) := s0
      have s1 : w3.cell? ⟨gS, oS + 1, none⟩ = some (.int .i64 e2) := s1
      have hgt : decide ((0 : Int) < ((((e1, e2) :: S : List Du).length : Nat) : Int)) = true := by simp
      have hl0 : (0 : Int) < ((((e1, e2) :: S : List Du).length : Nat) : Int) := by simp
      have hne : ((e1, e2) != (e1, e2)) = false := by simp
      obtain ⟨P, hP⟩ : ∃ P : World → Prop, P = fun W => W.cell? ⟨w.heap.size, 0, none⟩ = some (.pointer (some ⟨q, 0, none⟩)) ∧ W.cell? ⟨q, 0, none⟩ = some (.int .i64 now) ∧ W.cell? ⟨q, 1, none⟩ = some (.slice (some ⟨gS, oS, none⟩) ((e1, e2) :: S : List Du).length cD) ∧ W.cell? ⟨b7, 0, none⟩ = some (.int .i64 e1) ∧ W.cell? ⟨b7, 1, none⟩ = some (.int .i64 e2) ∧ W.cell? ⟨gS, oS, none⟩ = some (.int .i64 e1) ∧ W.cell? ⟨gS, oS + 1, none⟩ = some (.int .i64 e2) := ⟨_, rfl⟩
      have HP0 : Hid (∀ n, P (w3.drewN n)) := hide (fun n => by rw [hP]; exact ⟨c4, q0, q1, d0, d1, s0, s1⟩)
      have hP0 := HP0.out 1
      clear c4 q0 q1 d0 d1 s0 s1
      gi_wp2_with fail
      refine wpIn_mono (Q := NoPanic _) ?_ NoPanic.imp
      refine wpIn_wide.2 ?_
      refine wp_region_U 49 P (by kernel_rfl) hP0 (fun hHeld => ?_)
      refine AnyU.take (i := 0) (v := ?v101) rfl (by kernel_rfl) (by kernel_rfl) (by kernel_rfl) (by kernel_rfl) (fun _ _ _ h => h) (Or.inl ⟨by rfl, ?hy101⟩) hHeld ?r101
      case hy101 => (intro w hSw; (try dsimp only at hSw); rw [hP] at hSw; obtain ⟨z0, z1, z2, z3, z4, z5, z6⟩ := hSw; go_simp <;> with_reducible rfl)
      simp only [Act.put, List.setIfInBounds_toArray, List.set_cons_zero, List.set_cons_succ]
      refine AnyU.take (i := 2) (v := ?v102) rfl (by kernel_rfl) (by kernel_rfl) (by kernel_rfl) (by kernel_rfl) (fun _ _ _ h => h) (Or.inl ⟨by rfl, ?hy102⟩) hHeld ?r102
      case hy102 => (intro w hSw; (try dsimp only at hSw); rw [hP] at hSw; obtain ⟨z0, z1, z2, z3, z4, z5, z6⟩ := hSw; go_simp <;> with_reducible rfl)
      simp only [Act.put, List.setIfInBounds_toArray, List.set_cons_zero, List.set_cons_succ]
      refine AnyU.take (i := 3) (v := ?v103) rfl (by kernel_rfl) (by kernel_rfl) (by kernel_rfl) (by kernel_rfl) (fun _ _ _ h => h) (Or.inl ⟨by rfl, ?hy103⟩) hHeld ?r103
      case hy103 => (intro w hSw; (try dsimp only at hSw); rw [hP] at hSw; obtain ⟨z0, z1, z2, z3, z4, z5, z6⟩ := hSw; go_simp <;> with_reducible rfl)
      simp only [Act.put, List.setIfInBounds_toArray, List.set_cons_zero, List.set_cons_succ]
      refine AnyU.take (i := 4) (v := ?v104) rfl (by kernel_rfl) (by kernel_rfl) (by kernel_rfl) (by kernel_rfl) (fun _ _ _ h => h) (Or.inl ⟨by rfl, ?hy104⟩) hHeld ?r104
      case hy104 => (intro w hSw; (try dsimp only at hSw); rw [hP] at hSw; obtain ⟨z0, z1, z2, z3, z4, z5, z6⟩ := hSw; go_simp <;> with_reducible rfl)
      simp only [Act.put, List.setIfInBounds_toArray, List.set_cons_zero, List.set_cons_succ]
      refine AnyU.take (i := 5) (v := ?v105) rfl (by kernel_rfl) (by kernel_rfl) (by kernel_rfl) (by kernel_rfl) (fun _ _ _ h => h) (Or.inl ⟨by rfl, ?hy105⟩) hHeld ?r105
      case hy105 => (intro w hSw; (try dsimp only at hSw); rw [hP] at hSw; obtain ⟨z0, z1, z2, z3, z4, z5, z6⟩ := hSw; go_simp <;> with_reducible rfl)
      simp only [Act.put, List.setIfInBounds_toArray, List.set_cons_zero, List.set_cons_succ]
      refine AnyU.next (js := [1]) (by kernel_rfl) (by simp) (NextU.cons rfl (fun K hK => ?_) NextU.nil)
      go_simp
      refine (HNQ.out 1).mono ?_
      rintro _ _ ⟨rfl, k1, rfl⟩
      refine hK.out _ _ (fun _ => HP0.out k1) (fun hHeld => ?_)
      try simp only [Act.put, List.setIfInBounds_toArray, List.set_cons_zero, List.set_cons_succ]
      clear hK K
      have hHeld := hHeld (by decide)
      refine AnyU.take (i := 6) (v := .bool false) rfl (by kernel_rfl) (by kernel_rfl) (by kernel_rfl) (by kernel_rfl) (fun _ _ _ h => h) (Or.inl ⟨by rfl, ?hy106⟩) hHeld ?r106
      case hy106 => (intro w hSw; (try dsimp only at hSw); rw [hP] at hSw; obtain ⟨z0, z1, z2, z3, z4, z5, z6⟩ := hSw; go_simp <;> first | with_reducible rfl | exact hnn | omega)
      simp only [Act.put, List.setIfInBounds_toArray, List.set_cons_zero, List.set_cons_succ]
      refine AnyU.take (i := 7) (v := ?v107) rfl (by kernel_rfl) (by kernel_rfl) (by kernel_rfl) (by kernel_rfl) (fun _ _ _ h => h) (Or.inl ⟨by rfl, ?hy107⟩) hHeld ?r107
      case hy107 => (intro w hSw; (try dsimp only at hSw); rw [hP] at hSw; obtain ⟨z0, z1, z2, z3, z4, z5, z6⟩ := hSw; go_simp <;> with_reducible rfl)
      simp only [Act.put, List.setIfInBounds_toArray, List.set_cons_zero, List.set_cons_succ]
      refine AnyU.take (i := 8) (v := ?v108) rfl (by kernel_rfl) (by kernel_rfl) (by kernel_rfl) (by kernel_rfl) (fun _ _ _ h => h) (Or.inl ⟨by rfl, ?hy108⟩) hHeld ?r108
      case hy108 => (intro w hSw; (try dsimp only at hSw); rw [hP] at hSw; obtain ⟨z0, z1, z2, z3, z4, z5, z6⟩ := hSw; go_simp <;> with_reducible rfl)
      simp only [Act.put, List.setIfInBounds_toArray, List.set_cons_zero, List.set_cons_succ]
      refine AnyU.take (i := 10) (v := ?v109) rfl (by kernel_rfl) (by kernel_rfl) (by kernel_rfl) (by kernel_rfl) (fun _ _ _ h => h) (Or.inl ⟨by rfl, ?hy109⟩) hHeld ?r109
      case hy109 => (intro w hSw; (try dsimp only at hSw); rw [hP] at hSw; obtain ⟨z0, z1, z2, z3, z4, z5, z6⟩ := hSw; go_simp <;> with_reducible rfl)
      simp only [Act.put, List.setIfInBounds_toArray, List.set_cons_zero, List.set_cons_succ]
      refine AnyU.take (i := 11) (v := ?v110) rfl (by kernel_rfl) (by kernel_rfl) (by kernel_rfl) (by kernel_rfl) (fun _ _ _ h => h) (Or.inl ⟨by rfl, ?hy110⟩) hHeld ?r110
      case hy110 => (intro w hSw; (try dsimp only at hSw); rw [hP] at hSw; obtain ⟨z0, z1, z2, z3, z4, z5, z6⟩ := hSw; go_simp <;> with_reducible rfl)
      simp only [Act.put, List.setIfInBounds_toArray, List.set_cons_zero, List.set_cons_succ]
      refine AnyU.take (i := 12) (v := ?v111) rfl (by kernel_rfl) (by kernel_rfl) (by kernel_rfl) (by kernel_rfl) (fun _ _ _ h => h) (Or.inl ⟨by rfl, ?hy111⟩) hHeld ?r111
      case hy111 => (intro w hSw; (try dsimp only at hSw); rw [hP] at hSw; obtain ⟨z0, z1, z2, z3, z4, z5, z6⟩ := hSw; go_simp <;> with_reducible rfl)
      simp only [Act.put, List.setIfInBounds_toArray, List.set_cons_zero, List.set_cons_succ]
      refine AnyU.take (i := 13) (v := ?v112) rfl (by kernel_rfl) (by kernel_rfl) (by kernel_rfl) (by kernel_rfl) (fun _ _ _ h => h) (Or.inl ⟨by rfl, ?hy112⟩) hHeld ?r112
      case hy112 => (intro w hSw; (try dsimp only at hSw); rw [hP] at hSw; obtain ⟨z0, z1, z2, z3, z4, z5, z6⟩ := hSw; go_simp <;> with_reducible rfl)
      simp only [Act.put, List.setIfInBounds_toArray, List.set_cons_zero, List.set_cons_succ]
      refine AnyU.take (i := 14) (v := ?v113) rfl (by kernel_rfl) (by kernel_rfl) (by kernel_rfl) (by kernel_rfl) (fun _ _ _ h => h) (Or.inl ⟨by rfl, ?hy113⟩) hHeld ?r113
      case hy113 => (intro w hSw; (try dsimp only at hSw); rw [hP] at hSw; obtain ⟨z0, z1, z2, z3, z4, z5, z6⟩ := hSw; go_simp <;> with_reducible rfl)
      simp only [Act.put, List.setIfInBounds_toArray, List.set_cons_zero, List.set_cons_succ]
      refine AnyU.next (js := [9]) (by kernel_rfl) (by simp) (NextU.cons rfl (fun K hK => ?_) NextU.nil)
      go_simp
      refine (HLQ.out k1).mono ?_
      rintro _ _ ⟨rfl, k2, rfl⟩
      refine hK.out _ _ (fun _ => HP0.out k2) (fun hHeld => ?_)
      try simp only [Act.put, List.setIfInBounds_toArray, List.set_cons_zero, List.set_cons_succ]
      clear hK K
      have hHeld := hHeld (by decide)
      refine AnyU.take (i := 15) (v := .bool false) rfl (by kernel_rfl) (by kernel_rfl) (by kernel_rfl) (by kernel_rfl) (fun _ _ _ h => h) (Or.inl ⟨by rfl, ?hy114⟩) hHeld ?r114
      case hy114 => (intro w hSw; (try dsimp only at hSw); rw [hP] at hSw; obtain ⟨z0, z1, z2, z3, z4, z5, z6⟩ := hSw; go_simp <;> first | with_reducible rfl | exact hll | omega)
      simp only [Act.put, List.setIfInBounds_toArray, List.set_cons_zero, List.set_cons_succ]
      refine AnyU.take (i := 16) (v := ?v115) rfl (by kernel_rfl) (by kernel_rfl) (by kernel_rfl) (by kernel_rfl) (fun _ _ _ h => h) (Or.inl ⟨by rfl, ?hy115⟩) hHeld ?r115
      case hy115 => (intro w hSw; (try dsimp only at hSw); rw [hP] at hSw; obtain ⟨z0, z1, z2, z3, z4, z5, z6⟩ := hSw; go_simp <;> with_reducible rfl)
      simp only [Act.put, List.setIfInBounds_toArray, List.set_cons_zero, List.set_cons_succ]
      refine AnyU.take (i := 17) (v := ?v116) rfl (by kernel_rfl) (by kernel_rfl) (by kernel_rfl) (by kernel_rfl) (fun _ _ _ h => h) (Or.inl ⟨by rfl, ?hy116⟩) hHeld ?r116
      case hy116 => (intro w hSw; (try dsimp only at hSw); rw [hP] at hSw; obtain ⟨z0, z1, z2, z3, z4, z5, z6⟩ := hSw; go_simp <;> with_reducible rfl)
      simp only [Act.put, List.setIfInBounds_toArray, List.set_cons_zero, List.set_cons_succ]
      refine AnyU.take (i := 18) (v := ?v117) rfl (by kernel_rfl) (by kernel_rfl) (by kernel_rfl) (by kernel_rfl) (fun _ _ _ h => h) (Or.inl ⟨by rfl, ?hy117⟩) hHeld ?r117
      case hy117 => (intro w hSw; (try dsimp only at hSw); rw [hP] at hSw; obtain ⟨z0, z1, z2, z3, z4, z5, z6⟩ := hSw; go_simp <;> with_reducible rfl)
      simp only [Act.put, List.setIfInBounds_toArray, List.set_cons_zero, List.set_cons_succ]
      refine AnyU.take (i := 19) (v := ?v118) rfl (by kernel_rfl) (by kernel_rfl) (by kernel_rfl) (by kernel_rfl) (fun _ _ _ h => h) (Or.inl ⟨by rfl, ?hy118⟩) hHeld ?r118
      case hy118 => (intro w hSw; (try dsimp only at hSw); rw [hP] at hSw; obtain ⟨z0, z1, z2, z3, z4, z5, z6⟩ := hSw; go_simp <;> with_reducible rfl)
      simp only [Act.put, List.setIfInBounds_toArray, List.set_cons_zero, List.set_cons_succ]
      refine AnyU.take (i := 20) (v := ?v119) rfl (by kernel_rfl) (by kernel_rfl) (by kernel_rfl) (by kernel_rfl) (fun _ _ _ h => h) (Or.inl ⟨by rfl, ?hy119⟩) hHeld ?r119
      case hy119 => (intro w hSw; (try dsimp only at hSw); rw [hP] at hSw; obtain ⟨z0, z1, z2, z3, z4, z5, z6⟩ := hSw; go_simp <;> with_reducible rfl)
      simp only [Act.put, List.setIfInBounds_toArray, List.set_cons_zero, List.set_cons_succ]
      refine AnyU.take (i := 21) (v := ?v120) rfl (by kernel_rfl) (by kernel_rfl) (by kernel_rfl) (by kernel_rfl) (fun _ _ _ h => h) (Or.inl ⟨by rfl, ?hy120⟩) hHeld ?r120
      case hy120 => (intro w hSw; (try dsimp only at hSw); rw [hP] at hSw; obtain ⟨z0, z1, z2, z3, z4, z5, z6⟩ := hSw; go_simp <;> with_reducible rfl)
      simp only [Act.put, List.setIfInBounds_toArray, List.set_cons_zero, List.set_cons_succ]
      refine AnyU.take (i := 22) (v := ?v121) rfl (by kernel_rfl) (by kernel_rfl) (by kernel_rfl) (by kernel_rfl) (fun _ _ _ h => h) (Or.inl ⟨by rfl, ?hy121⟩) hHeld ?r121
      case hy121 => (intro w hSw; (try dsimp only at hSw); rw [hP] at hSw; obtain ⟨z0, z1, z2, z3, z4, z5, z6⟩ := hSw; go_simp <;> with_reducible rfl)
      simp only [Act.put, List.setIfInBounds_toArray, List.set_cons_zero, List.set_cons_succ]
      refine AnyU.take (i := 23) (v := ?v122) rfl (by kernel_rfl) (by kernel_rfl) (by kernel_rfl) (by kernel_rfl) (fun _ _ _ h => h) (Or.inl ⟨by rfl, ?hy122⟩) hHeld ?r122
      case hy122 => (intro w hSw; (try dsimp only at hSw); rw [hP] at hSw; obtain ⟨z0, z1, z2, z3, z4, z5, z6⟩ := hSw; go_simp <;> with_reducible rfl)
      simp only [Act.put, List.setIfInBounds_toArray, List.set_cons_zero, List.set_cons_succ]
      refine AnyU.take (i := 24) (v := .bool true) rfl (by kernel_rfl) (by kernel_rfl) (by kernel_rfl) (by kernel_rfl) (fun _ _ _ h => h) (Or.inl ⟨by rfl, ?hy123⟩) hHeld ?r123
      case hy123 => (intro w hSw; (try dsimp only at hSw); rw [hP] at hSw; obtain ⟨z0, z1, z2, z3, z4, z5, z6⟩ := hSw; go_simp <;> first | with_reducible rfl | exact hgt | omega)
      simp only [Act.put, List.setIfInBounds_toArray, List.set_cons_zero, List.set_cons_succ]
      refine AnyU.take (i := 25) (v := ?v124) rfl (by kernel_rfl) (by kernel_rfl) (by kernel_rfl) (by kernel_rfl) (fun _ _ _ h => h) (Or.inl ⟨by rfl, ?hy124⟩) hHeld ?r124
      case hy124 => (intro w hSw; (try dsimp only at hSw); rw [hP] at hSw; obtain ⟨z0, z1, z2, z3, z4, z5, z6⟩ := hSw; go_simp <;> with_reducible rfl)
      simp only [Act.put, List.setIfInBounds_toArray, List.set_cons_zero, List.set_cons_succ]
      refine AnyU.take (i := 26) (v := ?v125) rfl (by kernel_rfl) (by kernel_rfl) (by kernel_rfl) (by kernel_rfl) (fun _ _ _ h => h) (Or.inl ⟨by rfl, ?hy125⟩) hHeld ?r125
      case hy125 => (intro w hSw; (try dsimp only at hSw); rw [hP] at hSw; obtain ⟨z0, z1, z2, z3, z4, z5, z6⟩ := hSw; go_simp <;> with_reducible rfl)
      simp only [Act.put, List.setIfInBounds_toArray, List.set_cons_zero, List.set_cons_succ]
      refine AnyU.take (i := 27) (v := ?v126) rfl (by kernel_rfl) (by kernel_rfl) (by kernel_rfl) (by kernel_rfl) (fun _ _ _ h => h) (Or.inl ⟨by rfl, ?hy126⟩) hHeld ?r126
      case hy126 => (intro w hSw; (try dsimp only at hSw); rw [hP] at hSw; obtain ⟨z0, z1, z2, z3, z4, z5, z6⟩ := hSw; go_simp <;> with_reducible rfl)
      simp only [Act.put, List.setIfInBounds_toArray, List.set_cons_zero, List.set_cons_succ]
      refine AnyU.take (i := 28) (v := ?v127) rfl (by kernel_rfl) (by kernel_rfl) (by kernel_rfl) (by kernel_rfl) (fun _ _ _ h => h) (Or.inl ⟨by rfl, ?hy127⟩) hHeld ?r127
      case hy127 => (intro w hSw; (try dsimp only at hSw); rw [hP] at hSw; obtain ⟨z0, z1, z2, z3, z4, z5, z6⟩ := hSw; go_simp <;> with_reducible rfl)
      simp only [Act.put, List.setIfInBounds_toArray, List.set_cons_zero, List.set_cons_succ]
      refine AnyU.take (i := 29) (v := ?v128) rfl (by kernel_rfl) (by kernel_rfl) (by kernel_rfl) (by kernel_rfl) (fun _ _ _ h => h) (Or.inl ⟨by rfl, ?hy128⟩) hHeld ?r128
      case hy128 => (intro w hSw; (try dsimp only at hSw); rw [hP] at hSw; obtain ⟨z0, z1, z2, z3, z4, z5, z6⟩ := hSw; go_simp <;> with_reducible rfl)
      simp only [Act.put, List.setIfInBounds_toArray, List.set_cons_zero, List.set_cons_succ]
      refine AnyU.take (i := 30) (v := ?v129) rfl (by kernel_rfl) (by kernel_rfl) (by kernel_rfl) (by kernel_rfl) (fun _ _ _ h => h) (Or.inl ⟨by rfl, ?hy129⟩) hHeld ?r129
      case hy129 => (intro w hSw; (try dsimp only at hSw); rw [hP] at hSw; obtain ⟨z0, z1, z2, z3, z4, z5, z6⟩ := hSw; go_simp <;> with_reducible rfl)
      simp only [Act.put, List.setIfInBounds_toArray, List.set_cons_zero, List.set_cons_succ]
      refine AnyU.take (i := 31) (v := ?v130) rfl (by kernel_rfl) (by kernel_rfl) (by kernel_rfl) (by kernel_rfl) (fun _ _ _ h => h) (Or.inl ⟨by rfl, ?hy130⟩) hHeld ?r130
      case hy130 => (intro w hSw; (try dsimp only at hSw); rw [hP] at hSw; obtain ⟨z0, z1, z2, z3, z4, z5, z6⟩ := hSw; go_simp <;> with_reducible rfl)
      simp only [Act.put, List.setIfInBounds_toArray, List.set_cons_zero, List.set_cons_succ]
      refine AnyU.take (i := 32) (v := ?v131) rfl (by kernel_rfl) (by kernel_rfl) (by kernel_rfl) (by kernel_rfl) (fun _ _ _ h => h) (Or.inl ⟨by rfl, ?hy131⟩) hHeld ?r131
      case hy131 => (intro w hSw; (try dsimp only at hSw); rw [hP] at hSw; obtain ⟨z0, z1, z2, z3, z4, z5, z6⟩ := hSw; go_simp <;> with_reducible rfl)
      simp only [Act.put, List.setIfInBounds_toArray, List.set_cons_zero, List.set_cons_succ]
      refine AnyU.take (i := 33) (v := ?v132) rfl (by kernel_rfl) (by kernel_rfl) (by kernel_rfl) (by kernel_rfl) (fun _ _ _ h => h) (Or.inl ⟨by rfl, ?hy132⟩) hHeld ?r132
      case hy132 => (intro w hSw; (try dsimp only at hSw); rw [hP] at hSw; obtain ⟨z0, z1, z2, z3, z4, z5, z6⟩ := hSw; go_simp <;> with_reducible rfl)
      simp only [Act.put, List.setIfInBounds_toArray, List.set_cons_zero, List.set_cons_succ]
      refine AnyU.take (i := 34) (v := ?v133) rfl (by kernel_rfl) (by kernel_rfl) (by kernel_rfl) (by kernel_rfl) (fun _ _ _ h => h) (Or.inl ⟨by rfl, ?hy133⟩) hHeld ?r133
      case hy133 => (intro w hSw; (try dsimp only at hSw); rw [hP] at hSw; obtain ⟨z0, z1, z2, z3, z4, z5, z6⟩ := hSw; go_simp <;> with_reducible rfl)
      simp only [Act.put, List.setIfInBounds_toArray, List.set_cons_zero, List.set_cons_succ]
      refine AnyU.take (i := 35) (v := ?v134) rfl (by kernel_rfl) (by kernel_rfl) (by kernel_rfl) (by kernel_rfl) (fun _ _ _ h => h) (Or.inl ⟨by rfl, ?hy134⟩) hHeld ?r134
      case hy134 => (intro w hSw; (try dsimp only at hSw); rw [hP] at hSw; obtain ⟨z0, z1, z2, z3, z4, z5, z6⟩ := hSw; go_simp <;> with_reducible rfl)
      simp only [Act.put, List.setIfInBounds_toArray, List.set_cons_zero, List.set_cons_succ]
      refine AnyU.take (i := 36) (v := ?v135) rfl (by kernel_rfl) (by kernel_rfl) (by kernel_rfl) (by kernel_rfl) (fun _ _ _ h => h) (Or.inl ⟨by rfl, ?hy135⟩) hHeld ?r135
      case hy135 => (intro w hSw; (try dsimp only at hSw); rw [hP] at hSw; obtain ⟨z0, z1, z2, z3, z4, z5, z6⟩ := hSw; go_simp <;> with_reducible rfl)
      simp only [Act.put, List.setIfInBounds_toArray, List.set_cons_zero, List.set_cons_succ]
      refine AnyU.take (i := 37) (v := .bool false) rfl (by kernel_rfl) (by kernel_rfl) (by kernel_rfl) (by kernel_rfl) (fun _ _ _ h => h) (Or.inl ⟨by rfl, ?hy136⟩) hHeld ?r136
      case hy136 => (intro w hSw; (try dsimp only at hSw); rw [hP] at hSw; obtain ⟨z0, z1, z2, z3, z4, z5, z6⟩ := hSw; go_simp <;> first | with_reducible rfl | exact hne | omega)
      simp only [Act.put, List.setIfInBounds_toArray, List.set_cons_zero, List.set_cons_succ]
      refine AnyU.take (i := 38) (v := ?v137) rfl (by kernel_rfl) (by kernel_rfl) (by kernel_rfl) (by kernel_rfl) (fun _ _ _ h => h) (Or.inl ⟨by rfl, ?hy137⟩) hHeld ?r137
      case hy137 => (intro w hSw; (try dsimp only at hSw); rw [hP] at hSw; obtain ⟨z0, z1, z2, z3, z4, z5, z6⟩ := hSw; go_simp <;> with_reducible rfl)
      simp only [Act.put, List.setIfInBounds_toArray, List.set_cons_zero, List.set_cons_succ]
      refine AnyU.take (i := 39) (v := ?v138) rfl (by kernel_rfl) (by kernel_rfl) (by kernel_rfl) (by kernel_rfl) (fun _ _ _ h => h) (Or.inl ⟨by rfl, ?hy138⟩) hHeld ?r138
      case hy138 => (intro w hSw; (try dsimp only at hSw); rw [hP] at hSw; obtain ⟨z0, z1, z2, z3, z4, z5, z6⟩ := hSw; go_simp <;> with_reducible rfl)
      simp only [Act.put, List.setIfInBounds_toArray, List.set_cons_zero, List.set_cons_succ]
      refine AnyU.take (i := 40) (v := ?v139) rfl (by kernel_rfl) (by kernel_rfl) (by kernel_rfl) (by kernel_rfl) (fun _ _ _ h => h) (Or.inl ⟨by rfl, ?hy139⟩) hHeld ?r139
      case hy139 => (intro w hSw; (try dsimp only at hSw); rw [hP] at hSw; obtain ⟨z0, z1, z2, z3, z4, z5, z6⟩ := hSw; go_simp <;> with_reducible rfl)
      simp only [Act.put, List.setIfInBounds_toArray, List.set_cons_zero, List.set_cons_succ]
      refine AnyU.take (i := 41) (v := ?v140) rfl (by kernel_rfl) (by kernel_rfl) (by kernel_rfl) (by kernel_rfl) (fun _ _ _ h => h) (Or.inl ⟨by rfl, ?hy140⟩) hHeld ?r140
      case hy140 => (intro w hSw; (try dsimp only at hSw); rw [hP] at hSw; obtain ⟨z0, z1, z2, z3, z4, z5, z6⟩ := hSw; go_simp <;> with_reducible rfl)
      simp only [Act.put, List.setIfInBounds_toArray, List.set_cons_zero, List.set_cons_succ]
      refine AnyU.take (i := 42) (v := ?v141) rfl (by kernel_rfl) (by kernel_rfl) (by kernel_rfl) (by kernel_rfl) (fun _ _ _ h => h) (Or.inl ⟨by rfl, ?hy141⟩) hHeld ?r141
      case hy141 => (intro w hSw; (try dsimp only at hSw); rw [hP] at hSw; obtain ⟨z0, z1, z2, z3, z4, z5, z6⟩ := hSw; go_simp <;> with_reducible rfl)
      simp only [Act.put, List.setIfInBounds_toArray, List.set_cons_zero, List.set_cons_succ]
      refine AnyU.take (i := 43) (v := ?v142) rfl (by kernel_rfl) (by kernel_rfl) (by kernel_rfl) (by kernel_rfl) (fun _ _ _ h => h) (Or.inl ⟨by rfl, ?hy142⟩) hHeld ?r142
      case hy142 => (intro w hSw; (try dsimp only at hSw); rw [hP] at hSw; obtain ⟨z0, z1, z2, z3, z4, z5, z6⟩ := hSw; go_simp <;> with_reducible rfl)
      simp only [Act.put, List.setIfInBounds_toArray, List.set_cons_zero, List.set_cons_succ]
      refine AnyU.take (i := 44) (v := undef) rfl (by kernel_rfl) (by kernel_rfl) (by kernel_rfl) (by kernel_rfl) (fun _ _ _ h => h) (Or.inr ⟨by rfl, rfl⟩) hHeld ?_
      simp only [Act.put, List.setIfInBounds_toArray, List.set_cons_zero, List.set_cons_succ]
      refine AnyU.take (i := 45) (v := undef) rfl (by kernel_rfl) (by kernel_rfl) (by kernel_rfl) (by kernel_rfl) (fun _ _ _ h => h) (Or.inr ⟨by rfl, rfl⟩) hHeld ?_
      simp only [Act.put, List.setIfInBounds_toArray, List.set_cons_zero, List.set_cons_succ]
      refine AnyU.take (i := 46) (v := undef) rfl (by kernel_rfl) (by kernel_rfl) (by kernel_rfl) (by kernel_rfl) (fun _ _ _ h => h) (Or.inr ⟨by rfl, rfl⟩) hHeld ?_
      simp only [Act.put, List.setIfInBounds_toArray, List.set_cons_zero, List.set_cons_succ]
      refine AnyU.take (i := 47) (v := ?v146) rfl (by kernel_rfl) (by kernel_rfl) (by kernel_rfl) (by kernel_rfl) (fun _ _ _ h => h) (Or.inl ⟨by rfl, ?hy146⟩) hHeld ?r146
      case hy146 => (intro w hSw; (try dsimp only at hSw); rw [hP] at hSw; obtain ⟨z0, z1, z2, z3, z4, z5, z6⟩ := hSw; go_simp <;> with_reducible rfl)
      simp only [Act.put, List.setIfInBounds_toArray, List.set_cons_zero, List.set_cons_succ]
      refine AnyU.take (i := 48) (v := ?v147) rfl (by kernel_rfl) (by kernel_rfl) (by kernel_rfl) (by kernel_rfl) (fun _ _ _ h => h) (Or.inl ⟨by rfl, ?hy147⟩) hHeld ?r147
      case hy147 => (intro w hSw; (try dsimp only at hSw); rw [hP] at hSw; obtain ⟨z0, z1, z2, z3, z4, z5, z6⟩ := hSw; go_simp <;> with_reducible rfl)
      simp only [Act.put, List.setIfInBounds_toArray, List.set_cons_zero, List.set_cons_succ]
      clear hHeld
      refine AnyU.over (by kernel_rfl) ?_ _
      refine NoPanic.normal ?_
      gi_wp2
      gi_meet
      exact ⟨rfl, HFIN.out _⟩
  case rest =>
    obtain ⟨rfl, hI⟩ := hcut
    have HI := hide hI
    obtain ⟨_, hca⟩ := hI.ca
    have HAL := hide (all_any hca hI.re)
    have hfe : ∀ (W : World) (b : Nat), (binOp .eql 42 (.func (.func 37) #[] #[.pointer (some ⟨b, 0, none⟩)]) .nilFunc).run Try.prog W = .ok (.bool false) W := fun _ _ => rfl
    clear hI hca HX3 HI3 c4 c5 c6 f6 q0 q1 d0 d1
    gi_wp2_with fail
    refine ⟨trivial, ?_⟩
    gi_at_call 15
    refine (callsIn_wide.2 HAL.out).mono ?_
    rintro e w4 ⟨bA, AL, cL, rfl, hbA, hcA, hownA, hb4⟩
    have HI4 := hide (HI.out.below hb4)
    have HXA := hide hcA
    have HRA : Hid (Reads w4 w4.heap.size 2 AL S.length (flatD S)) := hide (Reads.of_own hownA)
    have HHP : Hid (∀ g, AL.map Addr.block = some g → g < w4.heap.size) := hide (fun g e => by
      obtain ⟨_, _, hAL, _, hAL2⟩ := own_form2 hownA
      injection hAL with hAL _ _
      subst hAL
      rcases hAL2 with ⟨rfl, _, _⟩ | ⟨bb, oo, rfl⟩
      · cases e
      · injection e with e
        have e' : bb = g := e
        subst e'
        exact (hownA.lt bb rfl).2)
    have HW4 : Hid (w.heap.size + 3 ≤ w4.heap.size) := hide (lt_of_block HI4.out.b6)
    have HB4r : Hid (Below w4.heap.size w4 w4) := hide (Below.refl _ _)
    clear hbA hcA hownA hb4 HAL
    gi_wp2_with fail
    have HT0 := hide (TurnT.start w4 0)
    refine wpIn_loop_rounds 3 ?_
    rw [roundsIn_succ]
    gi_wp2_with fail
    have HIB := HI4
    generalize (w4.alloc (.cells #[.int .i64 0] 3)).alloc (.cells #[.int .i64 0] 3) = ws200 at *
    obtain ⟨tc, htc⟩ : ∃ tc, tc = w4.heap.size := ⟨_, rfl⟩
    have HZT : Hid (ws200.heap.size = tc + 2) := hide (by rw [htc]; exact HT0.out.2)
    have HTI := hide HT0.out.1
    have HTC := hide htc
    rw [← htc] at HTI ⊢
    have HTW4 : Hid (w4.heap.size ≤ tc) := hide (by rw [htc]; exact HB4r.out.size)
    clear htc HT0
    refine wpIn_rangeSeqB (α := Du) (encs := encD) (gf := 37) (lb := #[.pointer (some ⟨bA, 0, none⟩)]) rfl (enters_of Try.func37 (by kernel_rfl) rfl) (fun g => g = tc + 1) (fun h => by have := HZT.out; omega) (fun h => by have := HZT.out; omega)
      (fun W2 hb hz => dues_seq (((HB4r.out.trans ((HTI.out.bel.trans (hb.mono HTI.out.bel.size)).mono HB4r.out.size)).block _ (lt_of_block HXA.out)).trans HXA.out) (HRA.out.below (HB4r.out.trans ((HTI.out.bel.trans (hb.mono HTI.out.bel.size)).mono HB4r.out.size))) (by have := HZT.out; have := HTW4.out; omega) (by have := HSL.out; omega) (fun g hg e => by have := HHP.out g e; have := HTW4.out; have := HZT.out; rcases hg with hg | hg <;> omega)) (fun _ => rfl)
      (InvT 0 lv w4 tc) (StopT 0 lv w4 tc)
      (fun s X Y row hs hg hr => ⟨hs.1, hs.2.grown hg (fun r e => by have := hr r e; have := HZT.out; have := HTC.out; exact ⟨by omega, (hr r e).2⟩)⟩) (fun c' s X Y row hs hg hr => ⟨hs.1, hs.2.grown hg (fun r e => by have := hr r e; have := HZT.out; have := HTC.out; exact ⟨by omega, (hr r e).2⟩)⟩) ⟨fun _ => by simp only [List.length_nil]; omega, HTI.out⟩
      ?a1_200 (fun x W => W.alloc (.cells #[.int .i64 x.1, .int .i64 x.2] 30)) (fun x W => (Below.refl _ _).alloc (Nat.le_refl _) _) 9 ?assign_200 ?body_200 ?done_200 ?stop_200
    case assign_200 =>
      intro l' pre d W' K he hK
      clear he
      simp only [encD]
      gi_wp2
      exact hK
    case body_200 =>
      rintro l' pre d W0 Wr ⟨Wb, ⟨hlv, hti0⟩, hzb, hbb⟩ ⟨hpre, hlt, hx⟩ hsz hzA hnew
      have HTR := hide (hti0.below hbb)
      obtain ⟨k, hk⟩ : ∃ k, k = pre.length := ⟨_, rfl⟩
      rw [← hk] at hlv HTR hlt hx
      have HKP : Hid ((pre ++ [d]).length = k + 1) := hide (by simp [hk])
      have HBN : Hid (Wr.heap[W0.heap.size]? = some (.cells #[.int .i64 d.1, .int .i64 d.2] 30 (0, 0))) := hide ((hnew _ (Nat.le_refl _)).trans (heap_alloc_new W0 _))
      have HGD := hide hx
      have HLV := hide hlv
      have HIR := hide (HIB.out.below HTR.out.bel)
      generalize W0.heap.size = b11 at *
      clear hnew hzA hti0 hlv hk hpre hbb hzb hsz
      obtain ⟨c4, c5, c6, f6, q0, q1⟩ := HIR.out.cells
      rw [HVD.out] at q1
      obtain ⟨gS, oS, hAD, s0, s1⟩ := HIR.out.at_ HVD.out k hlt
      rw [hAD] at q1
      rw [← HGD.out] at s0 s1
      obtain ⟨t0, t1, t2⟩ := HTR.out.cells
      have e0 := cell_of_row Wr b11 0 _ _ (0, 0) HBN.out
      have e1 := cell_of_row Wr b11 1 _ _ (0, 0) HBN.out
      simp only [List.getElem?_toArray, List.getElem?_cons_zero, List.getElem?_cons_succ] at e0 e1
      have hkl1 : ¬ S.length ≤ k := by omega
      have hkl2 : decide (S.length ≤ k) = false := by simpa using hkl1
      have hkl3 : (k : Int) < (S.length : Int) := by omega
      have hkl4 : ¬ ((S.length : Int) ≤ (k : Int)) := by omega
      have hk0 : (0 : Int) ≤ (k : Int) := by omega
      have hk100 : (k : Int) ≤ 1000000 := by have := HSL.out; omega
      have HADH := hide hAD
      obtain ⟨x1, x2⟩ := d
      simp only at s0 s1 e0 e1
      clear hx hlt hAD
      gi_wp2_with fail
      refine wpIn_region_quietG (by kernel_rfl) (by kernel_rfl) (by kernel_rfl) ?_
      repeat (go_big_quiet_step (fail))
      refine wpQuiet_nil ?_
      rintro _ ⟨nq, rfl⟩
      have HT2 := hide (HTR.out.below (below_drewN (Below.refl _ _) nq))
      have HI2 := hide (HIR.out.below (below_drewN (Below.refl _ _) nq))
      have HO2 : Hid (OutP (fun g => g = tc + 1) Wr (Wr.drewN nq)) := hide ((OutP.refl _ _).drewN nq)
      clear c4 c5 c6 f6 q0 q1 s0 s1 t0 t1 t2 e0 e1 HTR HIR HBN hkl1 hkl2 hkl3 hkl4
      generalize Wr.drewN nq = W2 at *
      have HT3 := hide (HT2.out.next (k + 1))
      have HO3 := hide (HO2.out.set ⟨tc + 1, 0, none⟩ rfl (.int .i64 ((k + 1 : Nat) : Int)))
      have HI3 := hide (HIB.out.below HT3.out.bel)
      have hkk : ((k + 1 : Nat) : Int) = (k : Int) + 1 := by omega
      rw [hkk] at HT3 HO3 HI3
      obtain ⟨t0, t1, t2⟩ := HT2.out.cells
      obtain ⟨r0, r1, _⟩ := HT3.out.cells
      rw [hkk] at r1
      obtain ⟨_, a5, _, _, _, _⟩ := HI3.out.cells
      clear hkk
      by_cases hkl : (k : Int) + 1 = lv
      · have elv : ((k : Int) + 1 == lv) = true := by rw [beq_iff_eq]; exact hkl
        have HKL := hide hkl
        clear hkl
        gi_wp2_with fail
        refine ⟨HO3.out, ⟨rfl, rfl, ?_, ?_⟩, ?_⟩
        · rw [HKP.out]; have := HKL.out; omega
        · have := HKL.out; omega
        · rw [HKP.out]; exact HT3.out
      · have elv : ((k : Int) + 1 == lv) = false := by rw [beq_eq_false_iff_ne]; exact hkl
        have HKL := hide hkl
        clear hkl
        gi_wp2_with fail
        refine ⟨HO3.out, fun _ => ?_, ?_⟩
        · rw [HKP.out]; have := HKL.out; have := HLV.out (by first | rfl | trivial); omega
        · rw [HKP.out]; exact HT3.out
    case done_200 =>
      rintro D0 xs WT0 hD hxs ⟨hlv, hti⟩ hK
      obtain rfl : S = xs := hxs.symm
      have HKD0 := hide hK
      have HTW0 := hide hti.bel
      have HDW0 : Hid (w4.heap.size ≤ D0) := hide (by have := HZT.out; have := HTC.out; omega)
      have HT5 := hide hti
      have HIX := hide (HIB.out.below hti.bel)
      obtain ⟨t0, t1, _⟩ := hti.cells
      obtain ⟨c4, c5, _, _, _, q1⟩ := HIX.out.cells
      rw [HVD.out] at q1
      have HFW : Hid (∀ n, Below WT0.heap.size WT0 (WT0.drewN n)) := hide (fun n => below_drewN (Below.refl _ _) n)
      gi_upto_region 17 with fail
      gi_cut [132] from 104 (fun z wx => z = .bool false ∧ WT0.drew = wx)
      case first =>
        obtain ⟨P, hP⟩ : ∃ P : World → Prop, P = fun W => W.cell? ⟨tc, 0, none⟩ = some (.int .i64 0) ∧ W.cell? ⟨tc + 1, 0, none⟩ = some (.int .i64 (S.length : Int)) ∧ W.cell? ⟨w.heap.size, 0, none⟩ = some (.pointer (some ⟨q, 0, none⟩)) ∧ W.cell? ⟨q, 1, none⟩ = some (.slice AD S.length cD) ∧ W.cell? ⟨w.heap.size + 1, 0, none⟩ = some (.int .i64 lv) := ⟨_, rfl⟩
        have hP0 : P WT0.drew := by rw [hP]; exact ⟨t0, t1, c4, q1, c5⟩
        have hkk : ((S.length : Int) != (S.length : Int)) = false := by simp
        clear t0 t1 c4 q1 c5
        gi_wp2_with fail
        refine wpIn_mono (Q := NoPanic _) ?_ NoPanic.imp
        refine wpIn_wide.2 ?_
        refine wp_region_U 29 P (by kernel_rfl) hP0 (fun hHeld => ?_)
        refine AnyU.take (i := 0) (v := ?v20101) rfl (by kernel_rfl) (by kernel_rfl) (by kernel_rfl) (by kernel_rfl) (fun _ _ _ h => h) (Or.inl ⟨by rfl, ?hy20101⟩) hHeld ?r20101
        case hy20101 => (intro w hSw; (try dsimp only at hSw); rw [hP] at hSw; obtain ⟨z0, z1, z2, z3, z4⟩ := hSw; go_simp <;> with_reducible rfl)
        simp only [Act.put, List.setIfInBounds_toArray, List.set_cons_zero, List.set_cons_succ]
        refine AnyU.take (i := 1) (v := ?v20102) rfl (by kernel_rfl) (by kernel_rfl) (by kernel_rfl) (by kernel_rfl) (fun _ _ _ h => h) (Or.inl ⟨by rfl, ?hy20102⟩) hHeld ?r20102
        case hy20102 => (intro w hSw; (try dsimp only at hSw); rw [hP] at hSw; obtain ⟨z0, z1, z2, z3, z4⟩ := hSw; go_simp <;> with_reducible rfl)
        simp only [Act.put, List.setIfInBounds_toArray, List.set_cons_zero, List.set_cons_succ]
        refine AnyU.take (i := 2) (v := ?v20103) rfl (by kernel_rfl) (by kernel_rfl) (by kernel_rfl) (by kernel_rfl) (fun _ _ _ h => h) (Or.inl ⟨by rfl, ?hy20103⟩) hHeld ?r20103
        case hy20103 => (intro w hSw; (try dsimp only at hSw); rw [hP] at hSw; obtain ⟨z0, z1, z2, z3, z4⟩ := hSw; go_simp <;> with_reducible rfl)
        simp only [Act.put, List.setIfInBounds_toArray, List.set_cons_zero, List.set_cons_succ]
        refine AnyU.take (i := 3) (v := undef) rfl (by kernel_rfl) (by kernel_rfl) (by kernel_rfl) (by kernel_rfl) (fun _ _ _ h => h) (Or.inr ⟨by rfl, rfl⟩) hHeld ?_
        simp only [Act.put, List.setIfInBounds_toArray, List.set_cons_zero, List.set_cons_succ]
        refine AnyU.take (i := 4) (v := undef) rfl (by kernel_rfl) (by kernel_rfl) (by kernel_rfl) (by kernel_rfl) (fun _ _ _ h => h) (Or.inr ⟨by rfl, rfl⟩) hHeld ?_
        simp only [Act.put, List.setIfInBounds_toArray, List.set_cons_zero, List.set_cons_succ]
        refine AnyU.take (i := 5) (v := undef) rfl (by kernel_rfl) (by kernel_rfl) (by kernel_rfl) (by kernel_rfl) (fun _ _ _ h => h) (Or.inr ⟨by rfl, rfl⟩) hHeld ?_
        simp only [Act.put, List.setIfInBounds_toArray, List.set_cons_zero, List.set_cons_succ]
        refine AnyU.take (i := 6) (v := undef) rfl (by kernel_rfl) (by kernel_rfl) (by kernel_rfl) (by kernel_rfl) (fun _ _ _ h => h) (Or.inr ⟨by rfl, rfl⟩) hHeld ?_
        simp only [Act.put, List.setIfInBounds_toArray, List.set_cons_zero, List.set_cons_succ]
        refine AnyU.take (i := 7) (v := undef) rfl (by kernel_rfl) (by kernel_rfl) (by kernel_rfl) (by kernel_rfl) (fun _ _ _ h => h) (Or.inr ⟨by rfl, rfl⟩) hHeld ?_
        simp only [Act.put, List.setIfInBounds_toArray, List.set_cons_zero, List.set_cons_succ]
        refine AnyU.take (i := 8) (v := undef) rfl (by kernel_rfl) (by kernel_rfl) (by kernel_rfl) (by kernel_rfl) (fun _ _ _ h => h) (Or.inr ⟨by rfl, rfl⟩) hHeld ?_
        simp only [Act.put, List.setIfInBounds_toArray, List.set_cons_zero, List.set_cons_succ]
        refine AnyU.take (i := 9) (v := undef) rfl (by kernel_rfl) (by kernel_rfl) (by kernel_rfl) (by kernel_rfl) (fun _ _ _ h => h) (Or.inr ⟨by rfl, rfl⟩) hHeld ?_
        simp only [Act.put, List.setIfInBounds_toArray, List.set_cons_zero, List.set_cons_succ]
        refine AnyU.take (i := 10) (v := ?v20111) rfl (by kernel_rfl) (by kernel_rfl) (by kernel_rfl) (by kernel_rfl) (fun _ _ _ h => h) (Or.inl ⟨by rfl, ?hy20111⟩) hHeld ?r20111
        case hy20111 => (intro w hSw; (try dsimp only at hSw); rw [hP] at hSw; obtain ⟨z0, z1, z2, z3, z4⟩ := hSw; go_simp <;> with_reducible rfl)
        simp only [Act.put, List.setIfInBounds_toArray, List.set_cons_zero, List.set_cons_succ]
        refine AnyU.take (i := 11) (v := ?v20112) rfl (by kernel_rfl) (by kernel_rfl) (by kernel_rfl) (by kernel_rfl) (fun _ _ _ h => h) (Or.inl ⟨by rfl, ?hy20112⟩) hHeld ?r20112
        case hy20112 => (intro w hSw; (try dsimp only at hSw); rw [hP] at hSw; obtain ⟨z0, z1, z2, z3, z4⟩ := hSw; go_simp <;> with_reducible rfl)
        simp only [Act.put, List.setIfInBounds_toArray, List.set_cons_zero, List.set_cons_succ]
        refine AnyU.take (i := 12) (v := ?v20113) rfl (by kernel_rfl) (by kernel_rfl) (by kernel_rfl) (by kernel_rfl) (fun _ _ _ h => h) (Or.inl ⟨by rfl, ?hy20113⟩) hHeld ?r20113
        case hy20113 => (intro w hSw; (try dsimp only at hSw); rw [hP] at hSw; obtain ⟨z0, z1, z2, z3, z4⟩ := hSw; go_simp <;> with_reducible rfl)
        simp only [Act.put, List.setIfInBounds_toArray, List.set_cons_zero, List.set_cons_succ]
        refine AnyU.take (i := 13) (v := ?v20114) rfl (by kernel_rfl) (by kernel_rfl) (by kernel_rfl) (by kernel_rfl) (fun _ _ _ h => h) (Or.inl ⟨by rfl, ?hy20114⟩) hHeld ?r20114
        case hy20114 => (intro w hSw; (try dsimp only at hSw); rw [hP] at hSw; obtain ⟨z0, z1, z2, z3, z4⟩ := hSw; go_simp <;> with_reducible rfl)
        simp only [Act.put, List.setIfInBounds_toArray, List.set_cons_zero, List.set_cons_succ]
        refine AnyU.take (i := 14) (v := ?v20115) rfl (by kernel_rfl) (by kernel_rfl) (by kernel_rfl) (by kernel_rfl) (fun _ _ _ h => h) (Or.inl ⟨by rfl, ?hy20115⟩) hHeld ?r20115
        case hy20115 => (intro w hSw; (try dsimp only at hSw); rw [hP] at hSw; obtain ⟨z0, z1, z2, z3, z4⟩ := hSw; go_simp <;> with_reducible rfl)
        simp only [Act.put, List.setIfInBounds_toArray, List.set_cons_zero, List.set_cons_succ]
        refine AnyU.take (i := 15) (v := ?v20116) rfl (by kernel_rfl) (by kernel_rfl) (by kernel_rfl) (by kernel_rfl) (fun _ _ _ h => h) (Or.inl ⟨by rfl, ?hy20116⟩) hHeld ?r20116
        case hy20116 => (intro w hSw; (try dsimp only at hSw); rw [hP] at hSw; obtain ⟨z0, z1, z2, z3, z4⟩ := hSw; go_simp <;> with_reducible rfl)
        simp only [Act.put, List.setIfInBounds_toArray, List.set_cons_zero, List.set_cons_succ]
        refine AnyU.take (i := 16) (v := ?v20117) rfl (by kernel_rfl) (by kernel_rfl) (by kernel_rfl) (by kernel_rfl) (fun _ _ _ h => h) (Or.inl ⟨by rfl, ?hy20117⟩) hHeld ?r20117
        case hy20117 => (intro w hSw; (try dsimp only at hSw); rw [hP] at hSw; obtain ⟨z0, z1, z2, z3, z4⟩ := hSw; go_simp <;> with_reducible rfl)
        simp only [Act.put, List.setIfInBounds_toArray, List.set_cons_zero, List.set_cons_succ]
        refine AnyU.take (i := 17) (v := ?v20118) rfl (by kernel_rfl) (by kernel_rfl) (by kernel_rfl) (by kernel_rfl) (fun _ _ _ h => h) (Or.inl ⟨by rfl, ?hy20118⟩) hHeld ?r20118
        case hy20118 => (intro w hSw; (try dsimp only at hSw); rw [hP] at hSw; obtain ⟨z0, z1, z2, z3, z4⟩ := hSw; go_simp <;> with_reducible rfl)
        simp only [Act.put, List.setIfInBounds_toArray, List.set_cons_zero, List.set_cons_succ]
        refine AnyU.take (i := 18) (v := ?v20119) rfl (by kernel_rfl) (by kernel_rfl) (by kernel_rfl) (by kernel_rfl) (fun _ _ _ h => h) (Or.inl ⟨by rfl, ?hy20119⟩) hHeld ?r20119
        case hy20119 => (intro w hSw; (try dsimp only at hSw); rw [hP] at hSw; obtain ⟨z0, z1, z2, z3, z4⟩ := hSw; go_simp <;> with_reducible rfl)
        simp only [Act.put, List.setIfInBounds_toArray, List.set_cons_zero, List.set_cons_succ]
        refine AnyU.take (i := 19) (v := ?v20120) rfl (by kernel_rfl) (by kernel_rfl) (by kernel_rfl) (by kernel_rfl) (fun _ _ _ h => h) (Or.inl ⟨by rfl, ?hy20120⟩) hHeld ?r20120
        case hy20120 => (intro w hSw; (try dsimp only at hSw); rw [hP] at hSw; obtain ⟨z0, z1, z2, z3, z4⟩ := hSw; go_simp <;> with_reducible rfl)
        simp only [Act.put, List.setIfInBounds_toArray, List.set_cons_zero, List.set_cons_succ]
        refine AnyU.take (i := 20) (v := ?v20121) rfl (by kernel_rfl) (by kernel_rfl) (by kernel_rfl) (by kernel_rfl) (fun _ _ _ h => h) (Or.inl ⟨by rfl, ?hy20121⟩) hHeld ?r20121
        case hy20121 => (intro w hSw; (try dsimp only at hSw); rw [hP] at hSw; obtain ⟨z0, z1, z2, z3, z4⟩ := hSw; go_simp <;> with_reducible rfl)
        simp only [Act.put, List.setIfInBounds_toArray, List.set_cons_zero, List.set_cons_succ]
        refine AnyU.take (i := 21) (v := .bool false) rfl (by kernel_rfl) (by kernel_rfl) (by kernel_rfl) (by kernel_rfl) (fun _ _ _ h => h) (Or.inl ⟨by rfl, ?hy20122⟩) hHeld ?r20122
        case hy20122 => (intro w hSw; (try dsimp only at hSw); rw [hP] at hSw; obtain ⟨z0, z1, z2, z3, z4⟩ := hSw; go_simp <;> first | with_reducible rfl | exact hkk | omega)
        simp only [Act.put, List.setIfInBounds_toArray, List.set_cons_zero, List.set_cons_succ]
        refine AnyU.take (i := 22) (v := ?v20123) rfl (by kernel_rfl) (by kernel_rfl) (by kernel_rfl) (by kernel_rfl) (fun _ _ _ h => h) (Or.inl ⟨by rfl, ?hy20123⟩) hHeld ?r20123
        case hy20123 => (intro w hSw; (try dsimp only at hSw); rw [hP] at hSw; obtain ⟨z0, z1, z2, z3, z4⟩ := hSw; go_simp <;> with_reducible rfl)
        simp only [Act.put, List.setIfInBounds_toArray, List.set_cons_zero, List.set_cons_succ]
        refine AnyU.take (i := 23) (v := ?v20124) rfl (by kernel_rfl) (by kernel_rfl) (by kernel_rfl) (by kernel_rfl) (fun _ _ _ h => h) (Or.inl ⟨by rfl, ?hy20124⟩) hHeld ?r20124
        case hy20124 => (intro w hSw; (try dsimp only at hSw); rw [hP] at hSw; obtain ⟨z0, z1, z2, z3, z4⟩ := hSw; go_simp <;> with_reducible rfl)
        simp only [Act.put, List.setIfInBounds_toArray, List.set_cons_zero, List.set_cons_succ]
        refine AnyU.take (i := 24) (v := undef) rfl (by kernel_rfl) (by kernel_rfl) (by kernel_rfl) (by kernel_rfl) (fun _ _ _ h => h) (Or.inr ⟨by rfl, rfl⟩) hHeld ?_
        simp only [Act.put, List.setIfInBounds_toArray, List.set_cons_zero, List.set_cons_succ]
        refine AnyU.take (i := 25) (v := undef) rfl (by kernel_rfl) (by kernel_rfl) (by kernel_rfl) (by kernel_rfl) (fun _ _ _ h => h) (Or.inr ⟨by rfl, rfl⟩) hHeld ?_
        simp only [Act.put, List.setIfInBounds_toArray, List.set_cons_zero, List.set_cons_succ]
        refine AnyU.take (i := 26) (v := undef) rfl (by kernel_rfl) (by kernel_rfl) (by kernel_rfl) (by kernel_rfl) (fun _ _ _ h => h) (Or.inr ⟨by rfl, rfl⟩) hHeld ?_
        simp only [Act.put, List.setIfInBounds_toArray, List.set_cons_zero, List.set_cons_succ]
        refine AnyU.take (i := 27) (v := ?v20128) rfl (by kernel_rfl) (by kernel_rfl) (by kernel_rfl) (by kernel_rfl) (fun _ _ _ h => h) (Or.inl ⟨by rfl, ?hy20128⟩) hHeld ?r20128
        case hy20128 => (intro w hSw; (try dsimp only at hSw); rw [hP] at hSw; obtain ⟨z0, z1, z2, z3, z4⟩ := hSw; go_simp <;> with_reducible rfl)
        simp only [Act.put, List.setIfInBounds_toArray, List.set_cons_zero, List.set_cons_succ]
        refine AnyU.take (i := 28) (v := ?v20129) rfl (by kernel_rfl) (by kernel_rfl) (by kernel_rfl) (by kernel_rfl) (fun _ _ _ h => h) (Or.inl ⟨by rfl, ?hy20129⟩) hHeld ?r20129
        case hy20129 => (intro w hSw; (try dsimp only at hSw); rw [hP] at hSw; obtain ⟨z0, z1, z2, z3, z4⟩ := hSw; go_simp <;> with_reducible rfl)
        simp only [Act.put, List.setIfInBounds_toArray, List.set_cons_zero, List.set_cons_succ]
        clear hHeld
        refine AnyU.over (by kernel_rfl) ?_ _
        refine NoPanic.normal ?_
        gi_wp2
        gi_meet
        exact ⟨rfl, rfl⟩
      case rest =>
        obtain ⟨rfl, rfl⟩ := hcut
        have HBD : Hid (Below WT0.heap.size WT0 WT0.drew) := hide (below_drewN (Below.refl _ _) 1)
        have HTD := hide (HT5.out.below HBD.out)
        obtain ⟨t0, t1, _⟩ := HTD.out.cells
        have HIB2 := hide (HIX.out.below HBD.out)
        have HB4r2 : Hid (Below w4.heap.size w4 WT0.drew) := hide (HB4r.out.trans ((HTW0.out.trans (HBD.out.mono HTW0.out.size)).mono HB4r.out.size))
        have HKD0d : Hid (WT0.drew.heap[D0]? = some (.deferred (some []))) := hide HKD0.out
        generalize WT0.drew = WX at *
        replace HIB := HIB2
        replace HB4r := HB4r2
        replace HKD0 := HKD0d
        clear HT5 HIX HTD HIB2 HB4r2 HTW0 HBD HKD0d
        gi_wp2_with fail
        rw [roundsIn_succ]
        have HT1 := hide (TurnT.start WX 1)
        clear t0 t1 HZT HTI HTC HTW4
        gi_wp2_with fail
        generalize (WX.alloc (.cells #[.int .i64 1] 3)).alloc (.cells #[.int .i64 0] 3) = ws203 at *
        obtain ⟨tc, htc⟩ : ∃ tc, tc = WX.heap.size := ⟨_, rfl⟩
        have HZT : Hid (ws203.heap.size = tc + 2) := hide (by rw [htc]; exact HT1.out.2)
        have HTI := hide HT1.out.1
        have HTC := hide htc
        rw [← htc] at HTI ⊢
        have HTW4 : Hid (w4.heap.size ≤ tc) := hide (by rw [htc]; exact HB4r.out.size)
        clear htc HT1
        refine wpIn_rangeSeqB (α := Du) (encs := encD) (gf := 37) (lb := #[.pointer (some ⟨bA, 0, none⟩)]) rfl (enters_of Try.func37 (by kernel_rfl) rfl) (fun g => g = tc + 1) (fun h => by have := HZT.out; omega) (fun h => by have := HZT.out; omega)
          (fun W2 hb hz => dues_seq (((HB4r.out.trans ((HTI.out.bel.trans (hb.mono HTI.out.bel.size)).mono HB4r.out.size)).block _ (lt_of_block HXA.out)).trans HXA.out) (HRA.out.below (HB4r.out.trans ((HTI.out.bel.trans (hb.mono HTI.out.bel.size)).mono HB4r.out.size))) (by have := HZT.out; have := HTW4.out; omega) (by have := HSL.out; omega) (fun g hg e => by have := HHP.out g e; have := HTW4.out; have := HZT.out; rcases hg with hg | hg <;> omega)) (fun _ => rfl)
          (InvT 1 lv WX tc) (StopT 1 lv WX tc)
          (fun s X Y row hs hg hr => ⟨hs.1, hs.2.grown hg (fun r e => by have := hr r e; have := HZT.out; have := HTC.out; exact ⟨by omega, (hr r e).2⟩)⟩) (fun c' s X Y row hs hg hr => ⟨hs.1, hs.2.grown hg (fun r e => by have := hr r e; have := HZT.out; have := HTC.out; exact ⟨by omega, (hr r e).2⟩)⟩) ⟨fun _ => by simp only [List.length_nil]; omega, HTI.out⟩
          ?a1_203 (fun x W => W.alloc (.cells #[.int .i64 x.1, .int .i64 x.2] 30)) (fun x W => (Below.refl _ _).alloc (Nat.le_refl _) _) 9 ?assign_203 ?body_203 ?done_203 ?stop_203
        case assign_203 =>
          intro l' pre d W' K he hK
          clear he
          simp only [encD]
          gi_wp2
          exact hK
        case body_203 =>
          rintro l' pre d W0 Wr ⟨Wb, ⟨hlv, hti0⟩, hzb, hbb⟩ ⟨hpre, hlt, hx⟩ hsz hzA hnew
          have HTR := hide (hti0.below hbb)
          obtain ⟨k, hk⟩ : ∃ k, k = pre.length := ⟨_, rfl⟩
          rw [← hk] at hlv HTR hlt hx
          have HKP : Hid ((pre ++ [d]).length = k + 1) := hide (by simp [hk])
          have HBN : Hid (Wr.heap[W0.heap.size]? = some (.cells #[.int .i64 d.1, .int .i64 d.2] 30 (0, 0))) := hide ((hnew _ (Nat.le_refl _)).trans (heap_alloc_new W0 _))
          have HGD := hide hx
          have HLV := hide hlv
          have HIR := hide (HIB.out.below HTR.out.bel)
          generalize W0.heap.size = b11 at *
          clear hnew hzA hti0 hlv hk hpre hbb hzb hsz
          obtain ⟨c4, c5, c6, f6, q0, q1⟩ := HIR.out.cells
          rw [HVD.out] at q1
          obtain ⟨gS, oS, hAD, s0, s1⟩ := HIR.out.at_ HVD.out k hlt
          rw [hAD] at q1
          rw [← HGD.out] at s0 s1
          obtain ⟨t0, t1, t2⟩ := HTR.out.cells
          have e0 := cell_of_row Wr b11 0 _ _ (0, 0) HBN.out
          have e1 := cell_of_row Wr b11 1 _ _ (0, 0) HBN.out
          simp only [List.getElem?_toArray, List.getElem?_cons_zero, List.getElem?_cons_succ] at e0 e1
          have hkl1 : ¬ S.length ≤ k := by omega
          have hkl2 : decide (S.length ≤ k) = false := by simpa using hkl1
          have hkl3 : (k : Int) < (S.length : Int) := by omega
          have hkl4 : ¬ ((S.length : Int) ≤ (k : Int)) := by omega
          have hk0 : (0 : Int) ≤ (k : Int) := by omega
          have hk100 : (k : Int) ≤ 1000000 := by have := HSL.out; omega
          have HADH := hide hAD
          obtain ⟨x1, x2⟩ := d
          simp only at s0 s1 e0 e1
          clear hx hlt hAD
          gi_wp2_with fail
          refine wpIn_region_quietG (by kernel_rfl) (by kernel_rfl) (by kernel_rfl) ?_
          repeat (go_big_quiet_step (fail))
          refine wpQuiet_nil ?_
          rintro _ ⟨nq, rfl⟩
          have HT2 := hide (HTR.out.below (below_drewN (Below.refl _ _) nq))
          have HI2 := hide (HIR.out.below (below_drewN (Below.refl _ _) nq))
          have HO2 : Hid (OutP (fun g => g = tc + 1) Wr (Wr.drewN nq)) := hide ((OutP.refl _ _).drewN nq)
          clear c4 c5 c6 f6 q0 q1 s0 s1 t0 t1 t2 e0 e1 HTR HIR HBN hkl1 hkl2 hkl3 hkl4
          generalize Wr.drewN nq = W2 at *
          have HT3 := hide (HT2.out.next (k + 1))
          have HO3 := hide (HO2.out.set ⟨tc + 1, 0, none⟩ rfl (.int .i64 ((k + 1 : Nat) : Int)))
          have HI3 := hide (HIB.out.below HT3.out.bel)
          have hkk : ((k + 1 : Nat) : Int) = (k : Int) + 1 := by omega
          rw [hkk] at HT3 HO3 HI3
          obtain ⟨t0, t1, t2⟩ := HT2.out.cells
          obtain ⟨r0, r1, _⟩ := HT3.out.cells
          rw [hkk] at r1
          obtain ⟨_, a5, _, _, _, _⟩ := HI3.out.cells
          clear hkk
          gi_wp2_with fail
          refine ⟨HO3.out, fun h => absurd h (by decide), ?_⟩
          rw [HKP.out]
          exact HT3.out
        case done_203 =>
          rintro D1 xs WT1 hD hxs ⟨_, hti⟩ hK
          obtain rfl : S = xs := hxs.symm
          have HKD1 := hide hK
          have HTW1 := hide hti.bel
          have HDW1 : Hid (WX.heap.size ≤ D1) := hide (by have := HZT.out; have := HTC.out; omega)
          have HT5 := hide hti
          have HIX := hide (HIB.out.below hti.bel)
          obtain ⟨t0, t1, _⟩ := hti.cells
          obtain ⟨c4, _, _, _, _, q1⟩ := HIX.out.cells
          rw [HVD.out] at q1
          have hkk : ((S.length : Int) != (S.length : Int)) = false := by simp
          obtain ⟨P, hP⟩ : ∃ P : World → Prop, P = fun W => W.cell? ⟨tc, 0, none⟩ = some (.int .i64 1) ∧ W.cell? ⟨tc + 1, 0, none⟩ = some (.int .i64 (S.length : Int)) ∧ W.cell? ⟨w.heap.size, 0, none⟩ = some (.pointer (some ⟨q, 0, none⟩)) ∧ W.cell? ⟨q, 1, none⟩ = some (.slice AD S.length cD) := ⟨_, rfl⟩
          have hP0 : P WT1.drew := by rw [hP]; exact ⟨t0, t1, c4, q1⟩
          clear t0 t1 c4 q1
          gi_wp2_with fail
          refine wpIn_mono (Q := NoPanic _) ?_ NoPanic.imp
          refine wpIn_wide.2 ?_
          refine wp_region_U 29 P (by kernel_rfl) hP0 (fun hHeld => ?_)
          refine AnyU.take (i := 0) (v := ?v20301) rfl (by kernel_rfl) (by kernel_rfl) (by kernel_rfl) (by kernel_rfl) (fun _ _ _ h => h) (Or.inl ⟨by rfl, ?hy20301⟩) hHeld ?r20301
          case hy20301 => (intro w hSw; (try dsimp only at hSw); rw [hP] at hSw; obtain ⟨z0, z1, z2, z3⟩ := hSw; go_simp <;> with_reducible rfl)
          simp only [Act.put, List.setIfInBounds_toArray, List.set_cons_zero, List.set_cons_succ]
          refine AnyU.take (i := 1) (v := ?v20302) rfl (by kernel_rfl) (by kernel_rfl) (by kernel_rfl) (by kernel_rfl) (fun _ _ _ h => h) (Or.inl ⟨by rfl, ?hy20302⟩) hHeld ?r20302
          case hy20302 => (intro w hSw; (try dsimp only at hSw); rw [hP] at hSw; obtain ⟨z0, z1, z2, z3⟩ := hSw; go_simp <;> with_reducible rfl)
          simp only [Act.put, List.setIfInBounds_toArray, List.set_cons_zero, List.set_cons_succ]
          refine AnyU.take (i := 2) (v := ?v20303) rfl (by kernel_rfl) (by kernel_rfl) (by kernel_rfl) (by kernel_rfl) (fun _ _ _ h => h) (Or.inl ⟨by rfl, ?hy20303⟩) hHeld ?r20303
          case hy20303 => (intro w hSw; (try dsimp only at hSw); rw [hP] at hSw; obtain ⟨z0, z1, z2, z3⟩ := hSw; go_simp <;> with_reducible rfl)
          simp only [Act.put, List.setIfInBounds_toArray, List.set_cons_zero, List.set_cons_succ]
          refine AnyU.take (i := 3) (v := ?v20304) rfl (by kernel_rfl) (by kernel_rfl) (by kernel_rfl) (by kernel_rfl) (fun _ _ _ h => h) (Or.inl ⟨by rfl, ?hy20304⟩) hHeld ?r20304
          case hy20304 => (intro w hSw; (try dsimp only at hSw); rw [hP] at hSw; obtain ⟨z0, z1, z2, z3⟩ := hSw; go_simp <;> with_reducible rfl)
          simp only [Act.put, List.setIfInBounds_toArray, List.set_cons_zero, List.set_cons_succ]
          refine AnyU.take (i := 4) (v := ?v20305) rfl (by kernel_rfl) (by kernel_rfl) (by kernel_rfl) (by kernel_rfl) (fun _ _ _ h => h) (Or.inl ⟨by rfl, ?hy20305⟩) hHeld ?r20305
          case hy20305 => (intro w hSw; (try dsimp only at hSw); rw [hP] at hSw; obtain ⟨z0, z1, z2, z3⟩ := hSw; go_simp <;> with_reducible rfl)
          simp only [Act.put, List.setIfInBounds_toArray, List.set_cons_zero, List.set_cons_succ]
          refine AnyU.take (i := 5) (v := ?v20306) rfl (by kernel_rfl) (by kernel_rfl) (by kernel_rfl) (by kernel_rfl) (fun _ _ _ h => h) (Or.inl ⟨by rfl, ?hy20306⟩) hHeld ?r20306
          case hy20306 => (intro w hSw; (try dsimp only at hSw); rw [hP] at hSw; obtain ⟨z0, z1, z2, z3⟩ := hSw; go_simp <;> with_reducible rfl)
          simp only [Act.put, List.setIfInBounds_toArray, List.set_cons_zero, List.set_cons_succ]
          refine AnyU.take (i := 6) (v := ?v20307) rfl (by kernel_rfl) (by kernel_rfl) (by kernel_rfl) (by kernel_rfl) (fun _ _ _ h => h) (Or.inl ⟨by rfl, ?hy20307⟩) hHeld ?r20307
          case hy20307 => (intro w hSw; (try dsimp only at hSw); rw [hP] at hSw; obtain ⟨z0, z1, z2, z3⟩ := hSw; go_simp <;> with_reducible rfl)
          simp only [Act.put, List.setIfInBounds_toArray, List.set_cons_zero, List.set_cons_succ]
          refine AnyU.take (i := 7) (v := ?v20308) rfl (by kernel_rfl) (by kernel_rfl) (by kernel_rfl) (by kernel_rfl) (fun _ _ _ h => h) (Or.inl ⟨by rfl, ?hy20308⟩) hHeld ?r20308
          case hy20308 => (intro w hSw; (try dsimp only at hSw); rw [hP] at hSw; obtain ⟨z0, z1, z2, z3⟩ := hSw; go_simp <;> with_reducible rfl)
          simp only [Act.put, List.setIfInBounds_toArray, List.set_cons_zero, List.set_cons_succ]
          refine AnyU.take (i := 8) (v := ?v20309) rfl (by kernel_rfl) (by kernel_rfl) (by kernel_rfl) (by kernel_rfl) (fun _ _ _ h => h) (Or.inl ⟨by rfl, ?hy20309⟩) hHeld ?r20309
          case hy20309 => (intro w hSw; (try dsimp only at hSw); rw [hP] at hSw; obtain ⟨z0, z1, z2, z3⟩ := hSw; go_simp <;> with_reducible rfl)
          simp only [Act.put, List.setIfInBounds_toArray, List.set_cons_zero, List.set_cons_succ]
          refine AnyU.take (i := 9) (v := .bool false) rfl (by kernel_rfl) (by kernel_rfl) (by kernel_rfl) (by kernel_rfl) (fun _ _ _ h => h) (Or.inl ⟨by rfl, ?hy20310⟩) hHeld ?r20310
          case hy20310 => (intro w hSw; (try dsimp only at hSw); rw [hP] at hSw; obtain ⟨z0, z1, z2, z3⟩ := hSw; go_simp <;> first | with_reducible rfl | exact hkk | omega)
          simp only [Act.put, List.setIfInBounds_toArray, List.set_cons_zero, List.set_cons_succ]
          refine AnyU.take (i := 10) (v := ?v20311) rfl (by kernel_rfl) (by kernel_rfl) (by kernel_rfl) (by kernel_rfl) (fun _ _ _ h => h) (Or.inl ⟨by rfl, ?hy20311⟩) hHeld ?r20311
          case hy20311 => (intro w hSw; (try dsimp only at hSw); rw [hP] at hSw; obtain ⟨z0, z1, z2, z3⟩ := hSw; go_simp <;> with_reducible rfl)
          simp only [Act.put, List.setIfInBounds_toArray, List.set_cons_zero, List.set_cons_succ]
          refine AnyU.take (i := 11) (v := ?v20312) rfl (by kernel_rfl) (by kernel_rfl) (by kernel_rfl) (by kernel_rfl) (fun _ _ _ h => h) (Or.inl ⟨by rfl, ?hy20312⟩) hHeld ?r20312
          case hy20312 => (intro w hSw; (try dsimp only at hSw); rw [hP] at hSw; obtain ⟨z0, z1, z2, z3⟩ := hSw; go_simp <;> with_reducible rfl)
          simp only [Act.put, List.setIfInBounds_toArray, List.set_cons_zero, List.set_cons_succ]
          refine AnyU.take (i := 12) (v := ?v20313) rfl (by kernel_rfl) (by kernel_rfl) (by kernel_rfl) (by kernel_rfl) (fun _ _ _ h => h) (Or.inl ⟨by rfl, ?hy20313⟩) hHeld ?r20313
          case hy20313 => (intro w hSw; (try dsimp only at hSw); rw [hP] at hSw; obtain ⟨z0, z1, z2, z3⟩ := hSw; go_simp <;> with_reducible rfl)
          simp only [Act.put, List.setIfInBounds_toArray, List.set_cons_zero, List.set_cons_succ]
          refine AnyU.take (i := 13) (v := ?v20314) rfl (by kernel_rfl) (by kernel_rfl) (by kernel_rfl) (by kernel_rfl) (fun _ _ _ h => h) (Or.inl ⟨by rfl, ?hy20314⟩) hHeld ?r20314
          case hy20314 => (intro w hSw; (try dsimp only at hSw); rw [hP] at hSw; obtain ⟨z0, z1, z2, z3⟩ := hSw; go_simp <;> with_reducible rfl)
          simp only [Act.put, List.setIfInBounds_toArray, List.set_cons_zero, List.set_cons_succ]
          refine AnyU.take (i := 14) (v := ?v20315) rfl (by kernel_rfl) (by kernel_rfl) (by kernel_rfl) (by kernel_rfl) (fun _ _ _ h => h) (Or.inl ⟨by rfl, ?hy20315⟩) hHeld ?r20315
          case hy20315 => (intro w hSw; (try dsimp only at hSw); rw [hP] at hSw; obtain ⟨z0, z1, z2, z3⟩ := hSw; go_simp <;> with_reducible rfl)
          simp only [Act.put, List.setIfInBounds_toArray, List.set_cons_zero, List.set_cons_succ]
          refine AnyU.take (i := 15) (v := undef) rfl (by kernel_rfl) (by kernel_rfl) (by kernel_rfl) (by kernel_rfl) (fun _ _ _ h => h) (Or.inr ⟨by rfl, rfl⟩) hHeld ?_
          simp only [Act.put, List.setIfInBounds_toArray, List.set_cons_zero, List.set_cons_succ]
          refine AnyU.take (i := 16) (v := undef) rfl (by kernel_rfl) (by kernel_rfl) (by kernel_rfl) (by kernel_rfl) (fun _ _ _ h => h) (Or.inr ⟨by rfl, rfl⟩) hHeld ?_
          simp only [Act.put, List.setIfInBounds_toArray, List.set_cons_zero, List.set_cons_succ]
          refine AnyU.take (i := 17) (v := undef) rfl (by kernel_rfl) (by kernel_rfl) (by kernel_rfl) (by kernel_rfl) (fun _ _ _ h => h) (Or.inr ⟨by rfl, rfl⟩) hHeld ?_
          simp only [Act.put, List.setIfInBounds_toArray, List.set_cons_zero, List.set_cons_succ]
          refine AnyU.take (i := 18) (v := undef) rfl (by kernel_rfl) (by kernel_rfl) (by kernel_rfl) (by kernel_rfl) (fun _ _ _ h => h) (Or.inr ⟨by rfl, rfl⟩) hHeld ?_
          simp only [Act.put, List.setIfInBounds_toArray, List.set_cons_zero, List.set_cons_succ]
          refine AnyU.take (i := 19) (v := undef) rfl (by kernel_rfl) (by kernel_rfl) (by kernel_rfl) (by kernel_rfl) (fun _ _ _ h => h) (Or.inr ⟨by rfl, rfl⟩) hHeld ?_
          simp only [Act.put, List.setIfInBounds_toArray, List.set_cons_zero, List.set_cons_succ]
          refine AnyU.take (i := 20) (v := undef) rfl (by kernel_rfl) (by kernel_rfl) (by kernel_rfl) (by kernel_rfl) (fun _ _ _ h => h) (Or.inr ⟨by rfl, rfl⟩) hHeld ?_
          simp only [Act.put, List.setIfInBounds_toArray, List.set_cons_zero, List.set_cons_succ]
          refine AnyU.take (i := 21) (v := undef) rfl (by kernel_rfl) (by kernel_rfl) (by kernel_rfl) (by kernel_rfl) (fun _ _ _ h => h) (Or.inr ⟨by rfl, rfl⟩) hHeld ?_
          simp only [Act.put, List.setIfInBounds_toArray, List.set_cons_zero, List.set_cons_succ]
          refine AnyU.take (i := 22) (v := ?v20323) rfl (by kernel_rfl) (by kernel_rfl) (by kernel_rfl) (by kernel_rfl) (fun _ _ _ h => h) (Or.inl ⟨by rfl, ?hy20323⟩) hHeld ?r20323
          case hy20323 => (intro w hSw; (try dsimp only at hSw); rw [hP] at hSw; obtain ⟨z0, z1, z2, z3⟩ := hSw; go_simp <;> with_reducible rfl)
          simp only [Act.put, List.setIfInBounds_toArray, List.set_cons_zero, List.set_cons_succ]
          refine AnyU.take (i := 23) (v := ?v20324) rfl (by kernel_rfl) (by kernel_rfl) (by kernel_rfl) (by kernel_rfl) (fun _ _ _ h => h) (Or.inl ⟨by rfl, ?hy20324⟩) hHeld ?r20324
          case hy20324 => (intro w hSw; (try dsimp only at hSw); rw [hP] at hSw; obtain ⟨z0, z1, z2, z3⟩ := hSw; go_simp <;> with_reducible rfl)
          simp only [Act.put, List.setIfInBounds_toArray, List.set_cons_zero, List.set_cons_succ]
          refine AnyU.take (i := 24) (v := undef) rfl (by kernel_rfl) (by kernel_rfl) (by kernel_rfl) (by kernel_rfl) (fun _ _ _ h => h) (Or.inr ⟨by rfl, rfl⟩) hHeld ?_
          simp only [Act.put, List.setIfInBounds_toArray, List.set_cons_zero, List.set_cons_succ]
          refine AnyU.take (i := 25) (v := undef) rfl (by kernel_rfl) (by kernel_rfl) (by kernel_rfl) (by kernel_rfl) (fun _ _ _ h => h) (Or.inr ⟨by rfl, rfl⟩) hHeld ?_
          simp only [Act.put, List.setIfInBounds_toArray, List.set_cons_zero, List.set_cons_succ]
          refine AnyU.take (i := 26) (v := undef) rfl (by kernel_rfl) (by kernel_rfl) (by kernel_rfl) (by kernel_rfl) (fun _ _ _ h => h) (Or.inr ⟨by rfl, rfl⟩) hHeld ?_
          simp only [Act.put, List.setIfInBounds_toArray, List.set_cons_zero, List.set_cons_succ]
          refine AnyU.take (i := 27) (v := ?v20328) rfl (by kernel_rfl) (by kernel_rfl) (by kernel_rfl) (by kernel_rfl) (fun _ _ _ h => h) (Or.inl ⟨by rfl, ?hy20328⟩) hHeld ?r20328
          case hy20328 => (intro w hSw; (try dsimp only at hSw); rw [hP] at hSw; obtain ⟨z0, z1, z2, z3⟩ := hSw; go_simp <;> with_reducible rfl)
          simp only [Act.put, List.setIfInBounds_toArray, List.set_cons_zero, List.set_cons_succ]
          refine AnyU.take (i := 28) (v := ?v20329) rfl (by kernel_rfl) (by kernel_rfl) (by kernel_rfl) (by kernel_rfl) (fun _ _ _ h => h) (Or.inl ⟨by rfl, ?hy20329⟩) hHeld ?r20329
          case hy20329 => (intro w hSw; (try dsimp only at hSw); rw [hP] at hSw; obtain ⟨z0, z1, z2, z3⟩ := hSw; go_simp <;> with_reducible rfl)
          simp only [Act.put, List.setIfInBounds_toArray, List.set_cons_zero, List.set_cons_succ]
          clear hHeld
          refine AnyU.over (by kernel_rfl) ?_ _
          refine NoPanic.normal ?_
          have HBD : Hid (Below WT1.heap.size WT1 WT1.drew) := hide (below_drewN (Below.refl _ _) 1)
          have HTD := hide (HT5.out.below HBD.out)
          have HIZ := hide (HIX.out.below HBD.out)
          have HKD1d : Hid (WT1.drew.heap[D1]? = some (.deferred (some []))) := hide HKD1.out
          have HKD0d : Hid (WT1.drew.heap[D0]? = some (.deferred (some []))) := hide ((HTW1.out.block _ (lt_of_block HKD0.out)).trans HKD0.out)
          obtain ⟨t0, t1, _⟩ := HTD.out.cells
          have HLTD : Hid (D0 < WX.heap.size) := hide (lt_of_block HKD0.out)
          generalize WT1.drew = WY at *
          clear hP0 hP
          gi_wp2_with fail
          rw [roundsIn_succ]
          have HBk : Hid (Below WY.heap.size WY (WY.alloc (.cells #[.int .i64 2] 3))) := hide ((Below.refl _ _).alloc (Nat.le_refl _) _)
          have HIk := hide (HIZ.out.below HBk.out)
          have HK0 := hide ((HBk.out.block _ (lt_of_block HKD0d.out)).trans HKD0d.out)
          have HK1 := hide ((HBk.out.block _ (lt_of_block HKD1d.out)).trans HKD1d.out)
          obtain ⟨_, _, c6, f6, _, _⟩ := HIk.out.cells
          clear t0 t1
          gi_wp2_with fail
          have hK1' := (KeepsOthers.setCell (WY.alloc (.cells #[.int .i64 2] 3)) ⟨w.heap.size + 2, 0, none⟩ (.bool true)).same D1 _ HK1.out rfl
          have hK0' := (KeepsOthers.setCell (WY.alloc (.cells #[.int .i64 2] 3)) ⟨w.heap.size + 2, 0, none⟩ (.bool true)).same D0 _ HK0.out rfl
          exact told_end (HIk.out.yes) (by have := HDW0.out; have := HW4.out; omega) (by have := HDW1.out; have := HLTD.out; have := HDW0.out; have := HW4.out; omega) (by have := HDW1.out; have := HLTD.out; omega) hK0' hK1' (fun W' h => by simp [results, Try.results22, go_sem, h])
        case stop_203 =>
          rintro D1 c' pre WT1 hD hpre ⟨⟨rfl, hT, hkl, hl0⟩, hti⟩ hK
          exact absurd hT (by decide)
    case stop_200 =>
      rintro D0 c' pre WT0 hD ⟨hpre, hple, hp0⟩ ⟨⟨rfl, _, hkl, hl0⟩, hti⟩ hK
      generalize pre.length = kx at *
      clear hpre
      have HKD0 := hide hK
      have HTW0 := hide hti.bel
      have HDW0 : Hid (w4.heap.size ≤ D0) := hide (by have := HZT.out; have := HTC.out; omega)
      have HT5 := hide hti
      have HIX := hide (HIB.out.below hti.bel)
      obtain ⟨t0, t1, _⟩ := hti.cells
      obtain ⟨c4, c5, _, _, _, q1⟩ := HIX.out.cells
      rw [HVD.out] at q1
      gi_upto_region 17 with fail
      gi_cut [132] from 104 (fun z wx => z = .bool false ∧ WT0.drew = wx)
      case first =>
        subst hkl
        by_cases hks : kx = S.length
        · have hks2 : S.length = kx := hks.symm
          rw [hks2] at q1
          clear hks hks2
          obtain ⟨P, hP⟩ : ∃ P : World → Prop, P = fun W => W.cell? ⟨tc, 0, none⟩ = some (.int .i64 0) ∧ W.cell? ⟨tc + 1, 0, none⟩ = some (.int .i64 (kx : Int)) ∧ W.cell? ⟨w.heap.size, 0, none⟩ = some (.pointer (some ⟨q, 0, none⟩)) ∧ W.cell? ⟨q, 1, none⟩ = some (.slice AD kx cD) ∧ W.cell? ⟨w.heap.size + 1, 0, none⟩ = some (.int .i64 (kx : Int)) := ⟨_, rfl⟩
          have hP0 : P WT0.drew := by rw [hP]; exact ⟨t0, t1, c4, q1, c5⟩
          have hkk : ((kx : Int) != (kx : Int)) = false := by simp
          clear t0 t1 c4 q1 c5
          gi_wp2_with fail
          refine wpIn_mono (Q := NoPanic _) ?_ NoPanic.imp
          refine wpIn_wide.2 ?_
          refine wp_region_U 29 P (by kernel_rfl) hP0 (fun hHeld => ?_)
          refine AnyU.take (i := 0) (v := ?v25001) rfl (by kernel_rfl) (by kernel_rfl) (by kernel_rfl) (by kernel_rfl) (fun _ _ _ h => h) (Or.inl ⟨by rfl, ?hy25001⟩) hHeld ?r25001
          case hy25001 => (intro w hSw; (try dsimp only at hSw); rw [hP] at hSw; obtain ⟨z0, z1, z2, z3, z4⟩ := hSw; go_simp <;> with_reducible rfl)
          simp only [Act.put, List.setIfInBounds_toArray, List.set_cons_zero, List.set_cons_succ]
          refine AnyU.take (i := 1) (v := ?v25002) rfl (by kernel_rfl) (by kernel_rfl) (by kernel_rfl) (by kernel_rfl) (fun _ _ _ h => h) (Or.inl ⟨by rfl, ?hy25002⟩) hHeld ?r25002
          case hy25002 => (intro w hSw; (try dsimp only at hSw); rw [hP] at hSw; obtain ⟨z0, z1, z2, z3, z4⟩ := hSw; go_simp <;> with_reducible rfl)
          simp only [Act.put, List.setIfInBounds_toArray, List.set_cons_zero, List.set_cons_succ]
          refine AnyU.take (i := 2) (v := ?v25003) rfl (by kernel_rfl) (by kernel_rfl) (by kernel_rfl) (by kernel_rfl) (fun _ _ _ h => h) (Or.inl ⟨by rfl, ?hy25003⟩) hHeld ?r25003
          case hy25003 => (intro w hSw; (try dsimp only at hSw); rw [hP] at hSw; obtain ⟨z0, z1, z2, z3, z4⟩ := hSw; go_simp <;> with_reducible rfl)
          simp only [Act.put, List.setIfInBounds_toArray, List.set_cons_zero, List.set_cons_succ]
          refine AnyU.take (i := 3) (v := undef) rfl (by kernel_rfl) (by kernel_rfl) (by kernel_rfl) (by kernel_rfl) (fun _ _ _ h => h) (Or.inr ⟨by rfl, rfl⟩) hHeld ?_
          simp only [Act.put, List.setIfInBounds_toArray, List.set_cons_zero, List.set_cons_succ]
          refine AnyU.take (i := 4) (v := undef) rfl (by kernel_rfl) (by kernel_rfl) (by kernel_rfl) (by kernel_rfl) (fun _ _ _ h => h) (Or.inr ⟨by rfl, rfl⟩) hHeld ?_
          simp only [Act.put, List.setIfInBounds_toArray, List.set_cons_zero, List.set_cons_succ]
          refine AnyU.take (i := 5) (v := undef) rfl (by kernel_rfl) (by kernel_rfl) (by kernel_rfl) (by kernel_rfl) (fun _ _ _ h => h) (Or.inr ⟨by rfl, rfl⟩) hHeld ?_
          simp only [Act.put, List.setIfInBounds_toArray, List.set_cons_zero, List.set_cons_succ]
          refine AnyU.take (i := 6) (v := undef) rfl (by kernel_rfl) (by kernel_rfl) (by kernel_rfl) (by kernel_rfl) (fun _ _ _ h => h) (Or.inr ⟨by rfl, rfl⟩) hHeld ?_
          simp only [Act.put, List.setIfInBounds_toArray, List.set_cons_zero, List.set_cons_succ]
          refine AnyU.take (i := 7) (v := undef) rfl (by kernel_rfl) (by kernel_rfl) (by kernel_rfl) (by kernel_rfl) (fun _ _ _ h => h) (Or.inr ⟨by rfl, rfl⟩) hHeld ?_
          simp only [Act.put, List.setIfInBounds_toArray, List.set_cons_zero, List.set_cons_succ]
          refine AnyU.take (i := 8) (v := undef) rfl (by kernel_rfl) (by kernel_rfl) (by kernel_rfl) (by kernel_rfl) (fun _ _ _ h => h) (Or.inr ⟨by rfl, rfl⟩) hHeld ?_
          simp only [Act.put, List.setIfInBounds_toArray, List.set_cons_zero, List.set_cons_succ]
          refine AnyU.take (i := 9) (v := undef) rfl (by kernel_rfl) (by kernel_rfl) (by kernel_rfl) (by kernel_rfl) (fun _ _ _ h => h) (Or.inr ⟨by rfl, rfl⟩) hHeld ?_
          simp only [Act.put, List.setIfInBounds_toArray, List.set_cons_zero, List.set_cons_succ]
          refine AnyU.take (i := 10) (v := ?v25011) rfl (by kernel_rfl) (by kernel_rfl) (by kernel_rfl) (by kernel_rfl) (fun _ _ _ h => h) (Or.inl ⟨by rfl, ?hy25011⟩) hHeld ?r25011
          case hy25011 => (intro w hSw; (try dsimp only at hSw); rw [hP] at hSw; obtain ⟨z0, z1, z2, z3, z4⟩ := hSw; go_simp <;> with_reducible rfl)
          simp only [Act.put, List.setIfInBounds_toArray, List.set_cons_zero, List.set_cons_succ]
          refine AnyU.take (i := 11) (v := ?v25012) rfl (by kernel_rfl) (by kernel_rfl) (by kernel_rfl) (by kernel_rfl) (fun _ _ _ h => h) (Or.inl ⟨by rfl, ?hy25012⟩) hHeld ?r25012
          case hy25012 => (intro w hSw; (try dsimp only at hSw); rw [hP] at hSw; obtain ⟨z0, z1, z2, z3, z4⟩ := hSw; go_simp <;> with_reducible rfl)
          simp only [Act.put, List.setIfInBounds_toArray, List.set_cons_zero, List.set_cons_succ]
          refine AnyU.take (i := 12) (v := ?v25013) rfl (by kernel_rfl) (by kernel_rfl) (by kernel_rfl) (by kernel_rfl) (fun _ _ _ h => h) (Or.inl ⟨by rfl, ?hy25013⟩) hHeld ?r25013
          case hy25013 => (intro w hSw; (try dsimp only at hSw); rw [hP] at hSw; obtain ⟨z0, z1, z2, z3, z4⟩ := hSw; go_simp <;> with_reducible rfl)
          simp only [Act.put, List.setIfInBounds_toArray, List.set_cons_zero, List.set_cons_succ]
          refine AnyU.take (i := 13) (v := ?v25014) rfl (by kernel_rfl) (by kernel_rfl) (by kernel_rfl) (by kernel_rfl) (fun _ _ _ h => h) (Or.inl ⟨by rfl, ?hy25014⟩) hHeld ?r25014
          case hy25014 => (intro w hSw; (try dsimp only at hSw); rw [hP] at hSw; obtain ⟨z0, z1, z2, z3, z4⟩ := hSw; go_simp <;> with_reducible rfl)
          simp only [Act.put, List.setIfInBounds_toArray, List.set_cons_zero, List.set_cons_succ]
          refine AnyU.take (i := 14) (v := ?v25015) rfl (by kernel_rfl) (by kernel_rfl) (by kernel_rfl) (by kernel_rfl) (fun _ _ _ h => h) (Or.inl ⟨by rfl, ?hy25015⟩) hHeld ?r25015
          case hy25015 => (intro w hSw; (try dsimp only at hSw); rw [hP] at hSw; obtain ⟨z0, z1, z2, z3, z4⟩ := hSw; go_simp <;> with_reducible rfl)
          simp only [Act.put, List.setIfInBounds_toArray, List.set_cons_zero, List.set_cons_succ]
          refine AnyU.take (i := 15) (v := ?v25016) rfl (by kernel_rfl) (by kernel_rfl) (by kernel_rfl) (by kernel_rfl) (fun _ _ _ h => h) (Or.inl ⟨by rfl, ?hy25016⟩) hHeld ?r25016
          case hy25016 => (intro w hSw; (try dsimp only at hSw); rw [hP] at hSw; obtain ⟨z0, z1, z2, z3, z4⟩ := hSw; go_simp <;> with_reducible rfl)
          simp only [Act.put, List.setIfInBounds_toArray, List.set_cons_zero, List.set_cons_succ]
          refine AnyU.take (i := 16) (v := ?v25017) rfl (by kernel_rfl) (by kernel_rfl) (by kernel_rfl) (by kernel_rfl) (fun _ _ _ h => h) (Or.inl ⟨by rfl, ?hy25017⟩) hHeld ?r25017
          case hy25017 => (intro w hSw; (try dsimp only at hSw); rw [hP] at hSw; obtain ⟨z0, z1, z2, z3, z4⟩ := hSw; go_simp <;> with_reducible rfl)
          simp only [Act.put, List.setIfInBounds_toArray, List.set_cons_zero, List.set_cons_succ]
          refine AnyU.take (i := 17) (v := ?v25018) rfl (by kernel_rfl) (by kernel_rfl) (by kernel_rfl) (by kernel_rfl) (fun _ _ _ h => h) (Or.inl ⟨by rfl, ?hy25018⟩) hHeld ?r25018
          case hy25018 => (intro w hSw; (try dsimp only at hSw); rw [hP] at hSw; obtain ⟨z0, z1, z2, z3, z4⟩ := hSw; go_simp <;> with_reducible rfl)
          simp only [Act.put, List.setIfInBounds_toArray, List.set_cons_zero, List.set_cons_succ]
          refine AnyU.take (i := 18) (v := ?v25019) rfl (by kernel_rfl) (by kernel_rfl) (by kernel_rfl) (by kernel_rfl) (fun _ _ _ h => h) (Or.inl ⟨by rfl, ?hy25019⟩) hHeld ?r25019
          case hy25019 => (intro w hSw; (try dsimp only at hSw); rw [hP] at hSw; obtain ⟨z0, z1, z2, z3, z4⟩ := hSw; go_simp <;> with_reducible rfl)
          simp only [Act.put, List.setIfInBounds_toArray, List.set_cons_zero, List.set_cons_succ]
          refine AnyU.take (i := 19) (v := ?v25020) rfl (by kernel_rfl) (by kernel_rfl) (by kernel_rfl) (by kernel_rfl) (fun _ _ _ h => h) (Or.inl ⟨by rfl, ?hy25020⟩) hHeld ?r25020
          case hy25020 => (intro w hSw; (try dsimp only at hSw); rw [hP] at hSw; obtain ⟨z0, z1, z2, z3, z4⟩ := hSw; go_simp <;> with_reducible rfl)
          simp only [Act.put, List.setIfInBounds_toArray, List.set_cons_zero, List.set_cons_succ]
          refine AnyU.take (i := 20) (v := ?v25021) rfl (by kernel_rfl) (by kernel_rfl) (by kernel_rfl) (by kernel_rfl) (fun _ _ _ h => h) (Or.inl ⟨by rfl, ?hy25021⟩) hHeld ?r25021
          case hy25021 => (intro w hSw; (try dsimp only at hSw); rw [hP] at hSw; obtain ⟨z0, z1, z2, z3, z4⟩ := hSw; go_simp <;> with_reducible rfl)
          simp only [Act.put, List.setIfInBounds_toArray, List.set_cons_zero, List.set_cons_succ]
          refine AnyU.take (i := 21) (v := .bool false) rfl (by kernel_rfl) (by kernel_rfl) (by kernel_rfl) (by kernel_rfl) (fun _ _ _ h => h) (Or.inl ⟨by rfl, ?hy25022⟩) hHeld ?r25022
          case hy25022 => (intro w hSw; (try dsimp only at hSw); rw [hP] at hSw; obtain ⟨z0, z1, z2, z3, z4⟩ := hSw; go_simp <;> first | with_reducible rfl | exact hkk | omega)
          simp only [Act.put, List.setIfInBounds_toArray, List.set_cons_zero, List.set_cons_succ]
          refine AnyU.take (i := 22) (v := ?v25023) rfl (by kernel_rfl) (by kernel_rfl) (by kernel_rfl) (by kernel_rfl) (fun _ _ _ h => h) (Or.inl ⟨by rfl, ?hy25023⟩) hHeld ?r25023
          case hy25023 => (intro w hSw; (try dsimp only at hSw); rw [hP] at hSw; obtain ⟨z0, z1, z2, z3, z4⟩ := hSw; go_simp <;> with_reducible rfl)
          simp only [Act.put, List.setIfInBounds_toArray, List.set_cons_zero, List.set_cons_succ]
          refine AnyU.take (i := 23) (v := ?v25024) rfl (by kernel_rfl) (by kernel_rfl) (by kernel_rfl) (by kernel_rfl) (fun _ _ _ h => h) (Or.inl ⟨by rfl, ?hy25024⟩) hHeld ?r25024
          case hy25024 => (intro w hSw; (try dsimp only at hSw); rw [hP] at hSw; obtain ⟨z0, z1, z2, z3, z4⟩ := hSw; go_simp <;> with_reducible rfl)
          simp only [Act.put, List.setIfInBounds_toArray, List.set_cons_zero, List.set_cons_succ]
          refine AnyU.take (i := 24) (v := undef) rfl (by kernel_rfl) (by kernel_rfl) (by kernel_rfl) (by kernel_rfl) (fun _ _ _ h => h) (Or.inr ⟨by rfl, rfl⟩) hHeld ?_
          simp only [Act.put, List.setIfInBounds_toArray, List.set_cons_zero, List.set_cons_succ]
          refine AnyU.take (i := 25) (v := undef) rfl (by kernel_rfl) (by kernel_rfl) (by kernel_rfl) (by kernel_rfl) (fun _ _ _ h => h) (Or.inr ⟨by rfl, rfl⟩) hHeld ?_
          simp only [Act.put, List.setIfInBounds_toArray, List.set_cons_zero, List.set_cons_succ]
          refine AnyU.take (i := 26) (v := undef) rfl (by kernel_rfl) (by kernel_rfl) (by kernel_rfl) (by kernel_rfl) (fun _ _ _ h => h) (Or.inr ⟨by rfl, rfl⟩) hHeld ?_
          simp only [Act.put, List.setIfInBounds_toArray, List.set_cons_zero, List.set_cons_succ]
          refine AnyU.take (i := 27) (v := ?v25028) rfl (by kernel_rfl) (by kernel_rfl) (by kernel_rfl) (by kernel_rfl) (fun _ _ _ h => h) (Or.inl ⟨by rfl, ?hy25028⟩) hHeld ?r25028
          case hy25028 => (intro w hSw; (try dsimp only at hSw); rw [hP] at hSw; obtain ⟨z0, z1, z2, z3, z4⟩ := hSw; go_simp <;> with_reducible rfl)
          simp only [Act.put, List.setIfInBounds_toArray, List.set_cons_zero, List.set_cons_succ]
          refine AnyU.take (i := 28) (v := ?v25029) rfl (by kernel_rfl) (by kernel_rfl) (by kernel_rfl) (by kernel_rfl) (fun _ _ _ h => h) (Or.inl ⟨by rfl, ?hy25029⟩) hHeld ?r25029
          case hy25029 => (intro w hSw; (try dsimp only at hSw); rw [hP] at hSw; obtain ⟨z0, z1, z2, z3, z4⟩ := hSw; go_simp <;> with_reducible rfl)
          simp only [Act.put, List.setIfInBounds_toArray, List.set_cons_zero, List.set_cons_succ]
          clear hHeld
          refine AnyU.over (by kernel_rfl) ?_ _
          refine NoPanic.normal ?_
          gi_wp2
          gi_meet
          exact ⟨rfl, rfl⟩
        · have hnl : ((kx : Int) != (S.length : Int)) = true := by rw [bne_iff_ne]; omega
          have HNL := hide hnl
          have HKS := hide hks
          clear hnl hks hple hp0 hl0
          obtain ⟨P, hP⟩ : ∃ P : World → Prop, P = fun W => W.cell? ⟨tc, 0, none⟩ = some (.int .i64 0) ∧ W.cell? ⟨tc + 1, 0, none⟩ = some (.int .i64 (kx : Int)) ∧ W.cell? ⟨w.heap.size, 0, none⟩ = some (.pointer (some ⟨q, 0, none⟩)) ∧ W.cell? ⟨q, 1, none⟩ = some (.slice AD S.length cD) ∧ W.cell? ⟨w.heap.size + 1, 0, none⟩ = some (.int .i64 (kx : Int)) := ⟨_, rfl⟩
          have hP0 : P WT0.drew := by rw [hP]; exact ⟨t0, t1, c4, q1, c5⟩
          have hkk : ((kx : Int) != (kx : Int)) = false := by simp
          clear t0 t1 c4 q1 c5
          gi_wp2_with fail
          refine wpIn_mono (Q := NoPanic _) ?_ NoPanic.imp
          refine wpIn_wide.2 ?_
          refine wp_region_U 29 P (by kernel_rfl) hP0 (fun hHeld => ?_)
          refine AnyU.take (i := 0) (v := ?v125001) rfl (by kernel_rfl) (by kernel_rfl) (by kernel_rfl) (by kernel_rfl) (fun _ _ _ h => h) (Or.inl ⟨by rfl, ?hy125001⟩) hHeld ?r125001
          case hy125001 => (intro w hSw; (try dsimp only at hSw); rw [hP] at hSw; obtain ⟨z0, z1, z2, z3, z4⟩ := hSw; go_simp <;> with_reducible rfl)
          simp only [Act.put, List.setIfInBounds_toArray, List.set_cons_zero, List.set_cons_succ]
          refine AnyU.take (i := 1) (v := ?v125002) rfl (by kernel_rfl) (by kernel_rfl) (by kernel_rfl) (by kernel_rfl) (fun _ _ _ h => h) (Or.inl ⟨by rfl, ?hy125002⟩) hHeld ?r125002
          case hy125002 => (intro w hSw; (try dsimp only at hSw); rw [hP] at hSw; obtain ⟨z0, z1, z2, z3, z4⟩ := hSw; go_simp <;> with_reducible rfl)
          simp only [Act.put, List.setIfInBounds_toArray, List.set_cons_zero, List.set_cons_succ]
          refine AnyU.take (i := 2) (v := ?v125003) rfl (by kernel_rfl) (by kernel_rfl) (by kernel_rfl) (by kernel_rfl) (fun _ _ _ h => h) (Or.inl ⟨by rfl, ?hy125003⟩) hHeld ?r125003
          case hy125003 => (intro w hSw; (try dsimp only at hSw); rw [hP] at hSw; obtain ⟨z0, z1, z2, z3, z4⟩ := hSw; go_simp <;> with_reducible rfl)
          simp only [Act.put, List.setIfInBounds_toArray, List.set_cons_zero, List.set_cons_succ]
          refine AnyU.take (i := 3) (v := undef) rfl (by kernel_rfl) (by kernel_rfl) (by kernel_rfl) (by kernel_rfl) (fun _ _ _ h => h) (Or.inr ⟨by rfl, rfl⟩) hHeld ?_
          simp only [Act.put, List.setIfInBounds_toArray, List.set_cons_zero, List.set_cons_succ]
          refine AnyU.take (i := 4) (v := undef) rfl (by kernel_rfl) (by kernel_rfl) (by kernel_rfl) (by kernel_rfl) (fun _ _ _ h => h) (Or.inr ⟨by rfl, rfl⟩) hHeld ?_
          simp only [Act.put, List.setIfInBounds_toArray, List.set_cons_zero, List.set_cons_succ]
          refine AnyU.take (i := 5) (v := undef) rfl (by kernel_rfl) (by kernel_rfl) (by kernel_rfl) (by kernel_rfl) (fun _ _ _ h => h) (Or.inr ⟨by rfl, rfl⟩) hHeld ?_
          simp only [Act.put, List.setIfInBounds_toArray, List.set_cons_zero, List.set_cons_succ]
          refine AnyU.take (i := 6) (v := undef) rfl (by kernel_rfl) (by kernel_rfl) (by kernel_rfl) (by kernel_rfl) (fun _ _ _ h => h) (Or.inr ⟨by rfl, rfl⟩) hHeld ?_
          simp only [Act.put, List.setIfInBounds_toArray, List.set_cons_zero, List.set_cons_succ]
          refine AnyU.take (i := 7) (v := undef) rfl (by kernel_rfl) (by kernel_rfl) (by kernel_rfl) (by kernel_rfl) (fun _ _ _ h => h) (Or.inr ⟨by rfl, rfl⟩) hHeld ?_
          simp only [Act.put, List.setIfInBounds_toArray, List.set_cons_zero, List.set_cons_succ]
          refine AnyU.take (i := 8) (v := undef) rfl (by kernel_rfl) (by kernel_rfl) (by kernel_rfl) (by kernel_rfl) (fun _ _ _ h => h) (Or.inr ⟨by rfl, rfl⟩) hHeld ?_
          simp only [Act.put, List.setIfInBounds_toArray, List.set_cons_zero, List.set_cons_succ]
          refine AnyU.take (i := 9) (v := undef) rfl (by kernel_rfl) (by kernel_rfl) (by kernel_rfl) (by kernel_rfl) (fun _ _ _ h => h) (Or.inr ⟨by rfl, rfl⟩) hHeld ?_
          simp only [Act.put, List.setIfInBounds_toArray, List.set_cons_zero, List.set_cons_succ]
          refine AnyU.take (i := 10) (v := ?v125011) rfl (by kernel_rfl) (by kernel_rfl) (by kernel_rfl) (by kernel_rfl) (fun _ _ _ h => h) (Or.inl ⟨by rfl, ?hy125011⟩) hHeld ?r125011
          case hy125011 => (intro w hSw; (try dsimp only at hSw); rw [hP] at hSw; obtain ⟨z0, z1, z2, z3, z4⟩ := hSw; go_simp <;> with_reducible rfl)
          simp only [Act.put, List.setIfInBounds_toArray, List.set_cons_zero, List.set_cons_succ]
          refine AnyU.take (i := 11) (v := ?v125012) rfl (by kernel_rfl) (by kernel_rfl) (by kernel_rfl) (by kernel_rfl) (fun _ _ _ h => h) (Or.inl ⟨by rfl, ?hy125012⟩) hHeld ?r125012
          case hy125012 => (intro w hSw; (try dsimp only at hSw); rw [hP] at hSw; obtain ⟨z0, z1, z2, z3, z4⟩ := hSw; go_simp <;> with_reducible rfl)
          simp only [Act.put, List.setIfInBounds_toArray, List.set_cons_zero, List.set_cons_succ]
          refine AnyU.take (i := 12) (v := ?v125013) rfl (by kernel_rfl) (by kernel_rfl) (by kernel_rfl) (by kernel_rfl) (fun _ _ _ h => h) (Or.inl ⟨by rfl, ?hy125013⟩) hHeld ?r125013
          case hy125013 => (intro w hSw; (try dsimp only at hSw); rw [hP] at hSw; obtain ⟨z0, z1, z2, z3, z4⟩ := hSw; go_simp <;> with_reducible rfl)
          simp only [Act.put, List.setIfInBounds_toArray, List.set_cons_zero, List.set_cons_succ]
          refine AnyU.take (i := 13) (v := ?v125014) rfl (by kernel_rfl) (by kernel_rfl) (by kernel_rfl) (by kernel_rfl) (fun _ _ _ h => h) (Or.inl ⟨by rfl, ?hy125014⟩) hHeld ?r125014
          case hy125014 => (intro w hSw; (try dsimp only at hSw); rw [hP] at hSw; obtain ⟨z0, z1, z2, z3, z4⟩ := hSw; go_simp <;> with_reducible rfl)
          simp only [Act.put, List.setIfInBounds_toArray, List.set_cons_zero, List.set_cons_succ]
          refine AnyU.take (i := 14) (v := ?v125015) rfl (by kernel_rfl) (by kernel_rfl) (by kernel_rfl) (by kernel_rfl) (fun _ _ _ h => h) (Or.inl ⟨by rfl, ?hy125015⟩) hHeld ?r125015
          case hy125015 => (intro w hSw; (try dsimp only at hSw); rw [hP] at hSw; obtain ⟨z0, z1, z2, z3, z4⟩ := hSw; go_simp <;> with_reducible rfl)
          simp only [Act.put, List.setIfInBounds_toArray, List.set_cons_zero, List.set_cons_succ]
          refine AnyU.take (i := 15) (v := ?v125016) rfl (by kernel_rfl) (by kernel_rfl) (by kernel_rfl) (by kernel_rfl) (fun _ _ _ h => h) (Or.inl ⟨by rfl, ?hy125016⟩) hHeld ?r125016
          case hy125016 => (intro w hSw; (try dsimp only at hSw); rw [hP] at hSw; obtain ⟨z0, z1, z2, z3, z4⟩ := hSw; go_simp <;> with_reducible rfl)
          simp only [Act.put, List.setIfInBounds_toArray, List.set_cons_zero, List.set_cons_succ]
          refine AnyU.take (i := 16) (v := ?v125017) rfl (by kernel_rfl) (by kernel_rfl) (by kernel_rfl) (by kernel_rfl) (fun _ _ _ h => h) (Or.inl ⟨by rfl, ?hy125017⟩) hHeld ?r125017
          case hy125017 => (intro w hSw; (try dsimp only at hSw); rw [hP] at hSw; obtain ⟨z0, z1, z2, z3, z4⟩ := hSw; go_simp <;> with_reducible rfl)
          simp only [Act.put, List.setIfInBounds_toArray, List.set_cons_zero, List.set_cons_succ]
          refine AnyU.take (i := 17) (v := ?v125018) rfl (by kernel_rfl) (by kernel_rfl) (by kernel_rfl) (by kernel_rfl) (fun _ _ _ h => h) (Or.inl ⟨by rfl, ?hy125018⟩) hHeld ?r125018
          case hy125018 => (intro w hSw; (try dsimp only at hSw); rw [hP] at hSw; obtain ⟨z0, z1, z2, z3, z4⟩ := hSw; go_simp <;> with_reducible rfl)
          simp only [Act.put, List.setIfInBounds_toArray, List.set_cons_zero, List.set_cons_succ]
          refine AnyU.take (i := 18) (v := ?v125019) rfl (by kernel_rfl) (by kernel_rfl) (by kernel_rfl) (by kernel_rfl) (fun _ _ _ h => h) (Or.inl ⟨by rfl, ?hy125019⟩) hHeld ?r125019
          case hy125019 => (intro w hSw; (try dsimp only at hSw); rw [hP] at hSw; obtain ⟨z0, z1, z2, z3, z4⟩ := hSw; go_simp <;> with_reducible rfl)
          simp only [Act.put, List.setIfInBounds_toArray, List.set_cons_zero, List.set_cons_succ]
          refine AnyU.take (i := 19) (v := ?v125020) rfl (by kernel_rfl) (by kernel_rfl) (by kernel_rfl) (by kernel_rfl) (fun _ _ _ h => h) (Or.inl ⟨by rfl, ?hy125020⟩) hHeld ?r125020
          case hy125020 => (intro w hSw; (try dsimp only at hSw); rw [hP] at hSw; obtain ⟨z0, z1, z2, z3, z4⟩ := hSw; go_simp <;> with_reducible rfl)
          simp only [Act.put, List.setIfInBounds_toArray, List.set_cons_zero, List.set_cons_succ]
          refine AnyU.take (i := 20) (v := ?v125021) rfl (by kernel_rfl) (by kernel_rfl) (by kernel_rfl) (by kernel_rfl) (fun _ _ _ h => h) (Or.inl ⟨by rfl, ?hy125021⟩) hHeld ?r125021
          case hy125021 => (intro w hSw; (try dsimp only at hSw); rw [hP] at hSw; obtain ⟨z0, z1, z2, z3, z4⟩ := hSw; go_simp <;> with_reducible rfl)
          simp only [Act.put, List.setIfInBounds_toArray, List.set_cons_zero, List.set_cons_succ]
          refine AnyU.take (i := 21) (v := .bool true) rfl (by kernel_rfl) (by kernel_rfl) (by kernel_rfl) (by kernel_rfl) (fun _ _ _ h => h) (Or.inl ⟨by rfl, ?hyX1250⟩) hHeld ?rX1250
          case hyX1250 => (intro w hSw; (try dsimp only at hSw); rw [hP] at hSw; obtain ⟨z0, z1, z2, z3, z4⟩ := hSw; go_simp <;> first | with_reducible rfl | exact HNL.out | exact HKS.out | (have := HKS.out; simp; omega))
          simp only [Act.put, List.setIfInBounds_toArray, List.set_cons_zero, List.set_cons_succ]
          refine AnyU.take (i := 22) (v := ?v125022) rfl (by kernel_rfl) (by kernel_rfl) (by kernel_rfl) (by kernel_rfl) (fun _ _ _ h => h) (Or.inl ⟨by rfl, ?hy125022⟩) hHeld ?r125022
          case hy125022 => (intro w hSw; (try dsimp only at hSw); rw [hP] at hSw; obtain ⟨z0, z1, z2, z3, z4⟩ := hSw; go_simp <;> with_reducible rfl)
          simp only [Act.put, List.setIfInBounds_toArray, List.set_cons_zero, List.set_cons_succ]
          refine AnyU.take (i := 23) (v := ?v125023) rfl (by kernel_rfl) (by kernel_rfl) (by kernel_rfl) (by kernel_rfl) (fun _ _ _ h => h) (Or.inl ⟨by rfl, ?hy125023⟩) hHeld ?r125023
          case hy125023 => (intro w hSw; (try dsimp only at hSw); rw [hP] at hSw; obtain ⟨z0, z1, z2, z3, z4⟩ := hSw; go_simp <;> with_reducible rfl)
          simp only [Act.put, List.setIfInBounds_toArray, List.set_cons_zero, List.set_cons_succ]
          refine AnyU.take (i := 24) (v := ?v125024) rfl (by kernel_rfl) (by kernel_rfl) (by kernel_rfl) (by kernel_rfl) (fun _ _ _ h => h) (Or.inl ⟨by rfl, ?hy125024⟩) hHeld ?r125024
          case hy125024 => (intro w hSw; (try dsimp only at hSw); rw [hP] at hSw; obtain ⟨z0, z1, z2, z3, z4⟩ := hSw; go_simp <;> with_reducible rfl)
          simp only [Act.put, List.setIfInBounds_toArray, List.set_cons_zero, List.set_cons_succ]
          refine AnyU.take (i := 25) (v := ?v125025) rfl (by kernel_rfl) (by kernel_rfl) (by kernel_rfl) (by kernel_rfl) (fun _ _ _ h => h) (Or.inl ⟨by rfl, ?hy125025⟩) hHeld ?r125025
          case hy125025 => (intro w hSw; (try dsimp only at hSw); rw [hP] at hSw; obtain ⟨z0, z1, z2, z3, z4⟩ := hSw; go_simp <;> with_reducible rfl)
          simp only [Act.put, List.setIfInBounds_toArray, List.set_cons_zero, List.set_cons_succ]
          refine AnyU.take (i := 26) (v := .bool false) rfl (by kernel_rfl) (by kernel_rfl) (by kernel_rfl) (by kernel_rfl) (fun _ _ _ h => h) (Or.inl ⟨by rfl, ?hy125026⟩) hHeld ?r125026
          case hy125026 => (intro w hSw; (try dsimp only at hSw); rw [hP] at hSw; obtain ⟨z0, z1, z2, z3, z4⟩ := hSw; go_simp <;> first | with_reducible rfl | exact hkk | omega)
          simp only [Act.put, List.setIfInBounds_toArray, List.set_cons_zero, List.set_cons_succ]
          refine AnyU.take (i := 27) (v := ?v125027) rfl (by kernel_rfl) (by kernel_rfl) (by kernel_rfl) (by kernel_rfl) (fun _ _ _ h => h) (Or.inl ⟨by rfl, ?hy125027⟩) hHeld ?r125027
          case hy125027 => (intro w hSw; (try dsimp only at hSw); rw [hP] at hSw; obtain ⟨z0, z1, z2, z3, z4⟩ := hSw; go_simp <;> with_reducible rfl)
          simp only [Act.put, List.setIfInBounds_toArray, List.set_cons_zero, List.set_cons_succ]
          refine AnyU.take (i := 28) (v := ?v125028) rfl (by kernel_rfl) (by kernel_rfl) (by kernel_rfl) (by kernel_rfl) (fun _ _ _ h => h) (Or.inl ⟨by rfl, ?hy125028⟩) hHeld ?r125028
          case hy125028 => (intro w hSw; (try dsimp only at hSw); rw [hP] at hSw; obtain ⟨z0, z1, z2, z3, z4⟩ := hSw; go_simp <;> with_reducible rfl)
          simp only [Act.put, List.setIfInBounds_toArray, List.set_cons_zero, List.set_cons_succ]
          clear hHeld
          refine AnyU.over (by kernel_rfl) ?_ _
          refine NoPanic.normal ?_
          gi_wp2
          gi_meet
          exact ⟨rfl, rfl⟩
      case rest =>
        obtain ⟨rfl, rfl⟩ := hcut
        have HBD : Hid (Below WT0.heap.size WT0 WT0.drew) := hide (below_drewN (Below.refl _ _) 1)
        have HTD := hide (HT5.out.below HBD.out)
        obtain ⟨t0, t1, _⟩ := HTD.out.cells
        have HIB2 := hide (HIX.out.below HBD.out)
        have HB4r2 : Hid (Below w4.heap.size w4 WT0.drew) := hide (HB4r.out.trans ((HTW0.out.trans (HBD.out.mono HTW0.out.size)).mono HB4r.out.size))
        have HKD0d : Hid (WT0.drew.heap[D0]? = some (.deferred (some []))) := hide HKD0.out
        generalize WT0.drew = WX at *
        replace HIB := HIB2
        replace HB4r := HB4r2
        replace HKD0 := HKD0d
        clear HT5 HIX HTD HIB2 HB4r2 HTW0 HBD HKD0d
        gi_wp2_with fail
        rw [roundsIn_succ]
        have HT1 := hide (TurnT.start WX 1)
        clear t0 t1 HZT HTI HTC HTW4
        gi_wp2_with fail
        generalize (WX.alloc (.cells #[.int .i64 1] 3)).alloc (.cells #[.int .i64 0] 3) = ws252 at *
        obtain ⟨tc, htc⟩ : ∃ tc, tc = WX.heap.size := ⟨_, rfl⟩
        have HZT : Hid (ws252.heap.size = tc + 2) := hide (by rw [htc]; exact HT1.out.2)
        have HTI := hide HT1.out.1
        have HTC := hide htc
        rw [← htc] at HTI ⊢
        have HTW4 : Hid (w4.heap.size ≤ tc) := hide (by rw [htc]; exact HB4r.out.size)
        clear htc HT1
        refine wpIn_rangeSeqB (α := Du) (encs := encD) (gf := 37) (lb := #[.pointer (some ⟨bA, 0, none⟩)]) rfl (enters_of Try.func37 (by kernel_rfl) rfl) (fun g => g = tc + 1) (fun h => by have := HZT.out; omega) (fun h => by have := HZT.out; omega)
          (fun W2 hb hz => dues_seq (((HB4r.out.trans ((HTI.out.bel.trans (hb.mono HTI.out.bel.size)).mono HB4r.out.size)).block _ (lt_of_block HXA.out)).trans HXA.out) (HRA.out.below (HB4r.out.trans ((HTI.out.bel.trans (hb.mono HTI.out.bel.size)).mono HB4r.out.size))) (by have := HZT.out; have := HTW4.out; omega) (by have := HSL.out; omega) (fun g hg e => by have := HHP.out g e; have := HTW4.out; have := HZT.out; rcases hg with hg | hg <;> omega)) (fun _ => rfl)
          (InvT 1 lv WX tc) (StopT 1 lv WX tc)
          (fun s X Y row hs hg hr => ⟨hs.1, hs.2.grown hg (fun r e => by have := hr r e; have := HZT.out; have := HTC.out; exact ⟨by omega, (hr r e).2⟩)⟩) (fun c' s X Y row hs hg hr => ⟨hs.1, hs.2.grown hg (fun r e => by have := hr r e; have := HZT.out; have := HTC.out; exact ⟨by omega, (hr r e).2⟩)⟩) ⟨fun _ => by simp only [List.length_nil]; omega, HTI.out⟩
          ?a1_252 (fun x W => W.alloc (.cells #[.int .i64 x.1, .int .i64 x.2] 30)) (fun x W => (Below.refl _ _).alloc (Nat.le_refl _) _) 9 ?assign_252 ?body_252 ?done_252 ?stop_252
        case assign_252 =>
          intro l' pre d W' K he hK
          clear he
          simp only [encD]
          gi_wp2
          exact hK
        case body_252 =>
          rintro l' pre d W0 Wr ⟨Wb, ⟨hlv, hti0⟩, hzb, hbb⟩ ⟨hpre, hlt, hx⟩ hsz hzA hnew
          have HTR := hide (hti0.below hbb)
          obtain ⟨k, hk⟩ : ∃ k, k = pre.length := ⟨_, rfl⟩
          rw [← hk] at hlv HTR hlt hx
          have HKP : Hid ((pre ++ [d]).length = k + 1) := hide (by simp [hk])
          have HBN : Hid (Wr.heap[W0.heap.size]? = some (.cells #[.int .i64 d.1, .int .i64 d.2] 30 (0, 0))) := hide ((hnew _ (Nat.le_refl _)).trans (heap_alloc_new W0 _))
          have HGD := hide hx
          have HLV := hide hlv
          have HIR := hide (HIB.out.below HTR.out.bel)
          generalize W0.heap.size = b11 at *
          clear hnew hzA hti0 hlv hk hpre hbb hzb hsz
          obtain ⟨c4, c5, c6, f6, q0, q1⟩ := HIR.out.cells
          rw [HVD.out] at q1
          obtain ⟨gS, oS, hAD, s0, s1⟩ := HIR.out.at_ HVD.out k hlt
          rw [hAD] at q1
          rw [← HGD.out] at s0 s1
          obtain ⟨t0, t1, t2⟩ := HTR.out.cells
          have e0 := cell_of_row Wr b11 0 _ _ (0, 0) HBN.out
          have e1 := cell_of_row Wr b11 1 _ _ (0, 0) HBN.out
          simp only [List.getElem?_toArray, List.getElem?_cons_zero, List.getElem?_cons_succ] at e0 e1
          have hkl1 : ¬ S.length ≤ k := by omega
          have hkl2 : decide (S.length ≤ k) = false := by simpa using hkl1
          have hkl3 : (k : Int) < (S.length : Int) := by omega
          have hkl4 : ¬ ((S.length : Int) ≤ (k : Int)) := by omega
          have hk0 : (0 : Int) ≤ (k : Int) := by omega
          have hk100 : (k : Int) ≤ 1000000 := by have := HSL.out; omega
          have HADH := hide hAD
          obtain ⟨x1, x2⟩ := d
          simp only at s0 s1 e0 e1
          clear hx hlt hAD
          gi_wp2_with fail
          refine wpIn_region_quietG (by kernel_rfl) (by kernel_rfl) (by kernel_rfl) ?_
          repeat (go_big_quiet_step (fail))
          refine wpQuiet_nil ?_
          rintro _ ⟨nq, rfl⟩
          have HT2 := hide (HTR.out.below (below_drewN (Below.refl _ _) nq))
          have HI2 := hide (HIR.out.below (below_drewN (Below.refl _ _) nq))
          have HO2 : Hid (OutP (fun g => g = tc + 1) Wr (Wr.drewN nq)) := hide ((OutP.refl _ _).drewN nq)
          clear c4 c5 c6 f6 q0 q1 s0 s1 t0 t1 t2 e0 e1 HTR HIR HBN hkl1 hkl2 hkl3 hkl4
          generalize Wr.drewN nq = W2 at *
          have HT3 := hide (HT2.out.next (k + 1))
          have HO3 := hide (HO2.out.set ⟨tc + 1, 0, none⟩ rfl (.int .i64 ((k + 1 : Nat) : Int)))
          have HI3 := hide (HIB.out.below HT3.out.bel)
          have hkk : ((k + 1 : Nat) : Int) = (k : Int) + 1 := by omega
          rw [hkk] at HT3 HO3 HI3
          obtain ⟨t0, t1, t2⟩ := HT2.out.cells
          obtain ⟨r0, r1, _⟩ := HT3.out.cells
          rw [hkk] at r1
          obtain ⟨_, a5, _, _, _, _⟩ := HI3.out.cells
          clear hkk
          gi_wp2_with fail
          refine ⟨HO3.out, fun h => absurd h (by decide), ?_⟩
          rw [HKP.out]
          exact HT3.out
        case done_252 =>
          rintro D1 xs WT1 hD hxs ⟨_, hti⟩ hK
          obtain rfl : S = xs := hxs.symm
          have HKD1 := hide hK
          have HTW1 := hide hti.bel
          have HDW1 : Hid (WX.heap.size ≤ D1) := hide (by have := HZT.out; have := HTC.out; omega)
          have HT5 := hide hti
          have HIX := hide (HIB.out.below hti.bel)
          obtain ⟨t0, t1, _⟩ := hti.cells
          obtain ⟨c4, _, _, _, _, q1⟩ := HIX.out.cells
          rw [HVD.out] at q1
          have hkk : ((S.length : Int) != (S.length : Int)) = false := by simp
          obtain ⟨P, hP⟩ : ∃ P : World → Prop, P = fun W => W.cell? ⟨tc, 0, none⟩ = some (.int .i64 1) ∧ W.cell? ⟨tc + 1, 0, none⟩ = some (.int .i64 (S.length : Int)) ∧ W.cell? ⟨w.heap.size, 0, none⟩ = some (.pointer (some ⟨q, 0, none⟩)) ∧ W.cell? ⟨q, 1, none⟩ = some (.slice AD S.length cD) := ⟨_, rfl⟩
          have hP0 : P WT1.drew := by rw [hP]; exact ⟨t0, t1, c4, q1⟩
          clear t0 t1 c4 q1
          gi_wp2_with fail
          refine wpIn_mono (Q := NoPanic _) ?_ NoPanic.imp
          refine wpIn_wide.2 ?_
          refine wp_region_U 29 P (by kernel_rfl) hP0 (fun hHeld => ?_)
          refine AnyU.take (i := 0) (v := ?v25201) rfl (by kernel_rfl) (by kernel_rfl) (by kernel_rfl) (by kernel_rfl) (fun _ _ _ h => h) (Or.inl ⟨by rfl, ?hy25201⟩) hHeld ?r25201
          case hy25201 => (intro w hSw; (try dsimp only at hSw); rw [hP] at hSw; obtain ⟨z0, z1, z2, z3⟩ := hSw; go_simp <;> with_reducible rfl)
          simp only [Act.put, List.setIfInBounds_toArray, List.set_cons_zero, List.set_cons_succ]
          refine AnyU.take (i := 1) (v := ?v25202) rfl (by kernel_rfl) (by kernel_rfl) (by kernel_rfl) (by kernel_rfl) (fun _ _ _ h => h) (Or.inl ⟨by rfl, ?hy25202⟩) hHeld ?r25202
          case hy25202 => (intro w hSw; (try dsimp only at hSw); rw [hP] at hSw; obtain ⟨z0, z1, z2, z3⟩ := hSw; go_simp <;> with_reducible rfl)
          simp only [Act.put, List.setIfInBounds_toArray, List.set_cons_zero, List.set_cons_succ]
          refine AnyU.take (i := 2) (v := ?v25203) rfl (by kernel_rfl) (by kernel_rfl) (by kernel_rfl) (by kernel_rfl) (fun _ _ _ h => h) (Or.inl ⟨by rfl, ?hy25203⟩) hHeld ?r25203
          case hy25203 => (intro w hSw; (try dsimp only at hSw); rw [hP] at hSw; obtain ⟨z0, z1, z2, z3⟩ := hSw; go_simp <;> with_reducible rfl)
          simp only [Act.put, List.setIfInBounds_toArray, List.set_cons_zero, List.set_cons_succ]
          refine AnyU.take (i := 3) (v := ?v25204) rfl (by kernel_rfl) (by kernel_rfl) (by kernel_rfl) (by kernel_rfl) (fun _ _ _ h => h) (Or.inl ⟨by rfl, ?hy25204⟩) hHeld ?r25204
          case hy25204 => (intro w hSw; (try dsimp only at hSw); rw [hP] at hSw; obtain ⟨z0, z1, z2, z3⟩ := hSw; go_simp <;> with_reducible rfl)
          simp only [Act.put, List.setIfInBounds_toArray, List.set_cons_zero, List.set_cons_succ]
          refine AnyU.take (i := 4) (v := ?v25205) rfl (by kernel_rfl) (by kernel_rfl) (by kernel_rfl) (by kernel_rfl) (fun _ _ _ h => h) (Or.inl ⟨by rfl, ?hy25205⟩) hHeld ?r25205
          case hy25205 => (intro w hSw; (try dsimp only at hSw); rw [hP] at hSw; obtain ⟨z0, z1, z2, z3⟩ := hSw; go_simp <;> with_reducible rfl)
          simp only [Act.put, List.setIfInBounds_toArray, List.set_cons_zero, List.set_cons_succ]
          refine AnyU.take (i := 5) (v := ?v25206) rfl (by kernel_rfl) (by kernel_rfl) (by kernel_rfl) (by kernel_rfl) (fun _ _ _ h => h) (Or.inl ⟨by rfl, ?hy25206⟩) hHeld ?r25206
          case hy25206 => (intro w hSw; (try dsimp only at hSw); rw [hP] at hSw; obtain ⟨z0, z1, z2, z3⟩ := hSw; go_simp <;> with_reducible rfl)
          simp only [Act.put, List.setIfInBounds_toArray, List.set_cons_zero, List.set_cons_succ]
          refine AnyU.take (i := 6) (v := ?v25207) rfl (by kernel_rfl) (by kernel_rfl) (by kernel_rfl) (by kernel_rfl) (fun _ _ _ h => h) (Or.inl ⟨by rfl, ?hy25207⟩) hHeld ?r25207
          case hy25207 => (intro w hSw; (try dsimp only at hSw); rw [hP] at hSw; obtain ⟨z0, z1, z2, z3⟩ := hSw; go_simp <;> with_reducible rfl)
          simp only [Act.put, List.setIfInBounds_toArray, List.set_cons_zero, List.set_cons_succ]
          refine AnyU.take (i := 7) (v := ?v25208) rfl (by kernel_rfl) (by kernel_rfl) (by kernel_rfl) (by kernel_rfl) (fun _ _ _ h => h) (Or.inl ⟨by rfl, ?hy25208⟩) hHeld ?r25208
          case hy25208 => (intro w hSw; (try dsimp only at hSw); rw [hP] at hSw; obtain ⟨z0, z1, z2, z3⟩ := hSw; go_simp <;> with_reducible rfl)
          simp only [Act.put, List.setIfInBounds_toArray, List.set_cons_zero, List.set_cons_succ]
          refine AnyU.take (i := 8) (v := ?v25209) rfl (by kernel_rfl) (by kernel_rfl) (by kernel_rfl) (by kernel_rfl) (fun _ _ _ h => h) (Or.inl ⟨by rfl, ?hy25209⟩) hHeld ?r25209
          case hy25209 => (intro w hSw; (try dsimp only at hSw); rw [hP] at hSw; obtain ⟨z0, z1, z2, z3⟩ := hSw; go_simp <;> with_reducible rfl)
          simp only [Act.put, List.setIfInBounds_toArray, List.set_cons_zero, List.set_cons_succ]
          refine AnyU.take (i := 9) (v := .bool false) rfl (by kernel_rfl) (by kernel_rfl) (by kernel_rfl) (by kernel_rfl) (fun _ _ _ h => h) (Or.inl ⟨by rfl, ?hy25210⟩) hHeld ?r25210
          case hy25210 => (intro w hSw; (try dsimp only at hSw); rw [hP] at hSw; obtain ⟨z0, z1, z2, z3⟩ := hSw; go_simp <;> first | with_reducible rfl | exact hkk | omega)
          simp only [Act.put, List.setIfInBounds_toArray, List.set_cons_zero, List.set_cons_succ]
          refine AnyU.take (i := 10) (v := ?v25211) rfl (by kernel_rfl) (by kernel_rfl) (by kernel_rfl) (by kernel_rfl) (fun _ _ _ h => h) (Or.inl ⟨by rfl, ?hy25211⟩) hHeld ?r25211
          case hy25211 => (intro w hSw; (try dsimp only at hSw); rw [hP] at hSw; obtain ⟨z0, z1, z2, z3⟩ := hSw; go_simp <;> with_reducible rfl)
          simp only [Act.put, List.setIfInBounds_toArray, List.set_cons_zero, List.set_cons_succ]
          refine AnyU.take (i := 11) (v := ?v25212) rfl (by kernel_rfl) (by kernel_rfl) (by kernel_rfl) (by kernel_rfl) (fun _ _ _ h => h) (Or.inl ⟨by rfl, ?hy25212⟩) hHeld ?r25212
          case hy25212 => (intro w hSw; (try dsimp only at hSw); rw [hP] at hSw; obtain ⟨z0, z1, z2, z3⟩ := hSw; go_simp <;> with_reducible rfl)
          simp only [Act.put, List.setIfInBounds_toArray, List.set_cons_zero, List.set_cons_succ]
          refine AnyU.take (i := 12) (v := ?v25213) rfl (by kernel_rfl) (by kernel_rfl) (by kernel_rfl) (by kernel_rfl) (fun _ _ _ h => h) (Or.inl ⟨by rfl, ?hy25213⟩) hHeld ?r25213
          case hy25213 => (intro w hSw; (try dsimp only at hSw); rw [hP] at hSw; obtain ⟨z0, z1, z2, z3⟩ := hSw; go_simp <;> with_reducible rfl)
          simp only [Act.put, List.setIfInBounds_toArray, List.set_cons_zero, List.set_cons_succ]
          refine AnyU.take (i := 13) (v := ?v25214) rfl (by kernel_rfl) (by kernel_rfl) (by kernel_rfl) (by kernel_rfl) (fun _ _ _ h => h) (Or.inl ⟨by rfl, ?hy25214⟩) hHeld ?r25214
          case hy25214 => (intro w hSw; (try dsimp only at hSw); rw [hP] at hSw; obtain ⟨z0, z1, z2, z3⟩ := hSw; go_simp <;> with_reducible rfl)
          simp only [Act.put, List.setIfInBounds_toArray, List.set_cons_zero, List.set_cons_succ]
          refine AnyU.take (i := 14) (v := ?v25215) rfl (by kernel_rfl) (by kernel_rfl) (by kernel_rfl) (by kernel_rfl) (fun _ _ _ h => h) (Or.inl ⟨by rfl, ?hy25215⟩) hHeld ?r25215
          case hy25215 => (intro w hSw; (try dsimp only at hSw); rw [hP] at hSw; obtain ⟨z0, z1, z2, z3⟩ := hSw; go_simp <;> with_reducible rfl)
          simp only [Act.put, List.setIfInBounds_toArray, List.set_cons_zero, List.set_cons_succ]
          refine AnyU.take (i := 15) (v := undef) rfl (by kernel_rfl) (by kernel_rfl) (by kernel_rfl) (by kernel_rfl) (fun _ _ _ h => h) (Or.inr ⟨by rfl, rfl⟩) hHeld ?_
          simp only [Act.put, List.setIfInBounds_toArray, List.set_cons_zero, List.set_cons_succ]
          refine AnyU.take (i := 16) (v := undef) rfl (by kernel_rfl) (by kernel_rfl) (by kernel_rfl) (by kernel_rfl) (fun _ _ _ h => h) (Or.inr ⟨by rfl, rfl⟩) hHeld ?_
          simp only [Act.put, List.setIfInBounds_toArray, List.set_cons_zero, List.set_cons_succ]
          refine AnyU.take (i := 17) (v := undef) rfl (by kernel_rfl) (by kernel_rfl) (by kernel_rfl) (by kernel_rfl) (fun _ _ _ h => h) (Or.inr ⟨by rfl, rfl⟩) hHeld ?_
          simp only [Act.put, List.setIfInBounds_toArray, List.set_cons_zero, List.set_cons_succ]
          refine AnyU.take (i := 18) (v := undef) rfl (by kernel_rfl) (by kernel_rfl) (by kernel_rfl) (by kernel_rfl) (fun _ _ _ h => h) (Or.inr ⟨by rfl, rfl⟩) hHeld ?_
          simp only [Act.put, List.setIfInBounds_toArray, List.set_cons_zero, List.set_cons_succ]
          refine AnyU.take (i := 19) (v := undef) rfl (by kernel_rfl) (by kernel_rfl) (by kernel_rfl) (by kernel_rfl) (fun _ _ _ h => h) (Or.inr ⟨by rfl, rfl⟩) hHeld ?_
          simp only [Act.put, List.setIfInBounds_toArray, List.set_cons_zero, List.set_cons_succ]
          refine AnyU.take (i := 20) (v := undef) rfl (by kernel_rfl) (by kernel_rfl) (by kernel_rfl) (by kernel_rfl) (fun _ _ _ h => h) (Or.inr ⟨by rfl, rfl⟩) hHeld ?_
          simp only [Act.put, List.setIfInBounds_toArray, List.set_cons_zero, List.set_cons_succ]
          refine AnyU.take (i := 21) (v := undef) rfl (by kernel_rfl) (by kernel_rfl) (by kernel_rfl) (by kernel_rfl) (fun _ _ _ h => h) (Or.inr ⟨by rfl, rfl⟩) hHeld ?_
          simp only [Act.put, List.setIfInBounds_toArray, List.set_cons_zero, List.set_cons_succ]
          refine AnyU.take (i := 22) (v := ?v25223) rfl (by kernel_rfl) (by kernel_rfl) (by kernel_rfl) (by kernel_rfl) (fun _ _ _ h => h) (Or.inl ⟨by rfl, ?hy25223⟩) hHeld ?r25223
          case hy25223 => (intro w hSw; (try dsimp only at hSw); rw [hP] at hSw; obtain ⟨z0, z1, z2, z3⟩ := hSw; go_simp <;> with_reducible rfl)
          simp only [Act.put, List.setIfInBounds_toArray, List.set_cons_zero, List.set_cons_succ]
          refine AnyU.take (i := 23) (v := ?v25224) rfl (by kernel_rfl) (by kernel_rfl) (by kernel_rfl) (by kernel_rfl) (fun _ _ _ h => h) (Or.inl ⟨by rfl, ?hy25224⟩) hHeld ?r25224
          case hy25224 => (intro w hSw; (try dsimp only at hSw); rw [hP] at hSw; obtain ⟨z0, z1, z2, z3⟩ := hSw; go_simp <;> with_reducible rfl)
          simp only [Act.put, List.setIfInBounds_toArray, List.set_cons_zero, List.set_cons_succ]
          refine AnyU.take (i := 24) (v := undef) rfl (by kernel_rfl) (by kernel_rfl) (by kernel_rfl) (by kernel_rfl) (fun _ _ _ h => h) (Or.inr ⟨by rfl, rfl⟩) hHeld ?_
          simp only [Act.put, List.setIfInBounds_toArray, List.set_cons_zero, List.set_cons_succ]
          refine AnyU.take (i := 25) (v := undef) rfl (by kernel_rfl) (by kernel_rfl) (by kernel_rfl) (by kernel_rfl) (fun _ _ _ h => h) (Or.inr ⟨by rfl, rfl⟩) hHeld ?_
          simp only [Act.put, List.setIfInBounds_toArray, List.set_cons_zero, List.set_cons_succ]
          refine AnyU.take (i := 26) (v := undef) rfl (by kernel_rfl) (by kernel_rfl) (by kernel_rfl) (by kernel_rfl) (fun _ _ _ h => h) (Or.inr ⟨by rfl, rfl⟩) hHeld ?_
          simp only [Act.put, List.setIfInBounds_toArray, List.set_cons_zero, List.set_cons_succ]
          refine AnyU.take (i := 27) (v := ?v25228) rfl (by kernel_rfl) (by kernel_rfl) (by kernel_rfl) (by kernel_rfl) (fun _ _ _ h => h) (Or.inl ⟨by rfl, ?hy25228⟩) hHeld ?r25228
          case hy25228 => (intro w hSw; (try dsimp only at hSw); rw [hP] at hSw; obtain ⟨z0, z1, z2, z3⟩ := hSw; go_simp <;> with_reducible rfl)
          simp only [Act.put, List.setIfInBounds_toArray, List.set_cons_zero, List.set_cons_succ]
          refine AnyU.take (i := 28) (v := ?v25229) rfl (by kernel_rfl) (by kernel_rfl) (by kernel_rfl) (by kernel_rfl) (fun _ _ _ h => h) (Or.inl ⟨by rfl, ?hy25229⟩) hHeld ?r25229
          case hy25229 => (intro w hSw; (try dsimp only at hSw); rw [hP] at hSw; obtain ⟨z0, z1, z2, z3⟩ := hSw; go_simp <;> with_reducible rfl)
          simp only [Act.put, List.setIfInBounds_toArray, List.set_cons_zero, List.set_cons_succ]
          clear hHeld
          refine AnyU.over (by kernel_rfl) ?_ _
          refine NoPanic.normal ?_
          have HBD : Hid (Below WT1.heap.size WT1 WT1.drew) := hide (below_drewN (Below.refl _ _) 1)
          have HTD := hide (HT5.out.below HBD.out)
          have HIZ := hide (HIX.out.below HBD.out)
          have HKD1d : Hid (WT1.drew.heap[D1]? = some (.deferred (some []))) := hide HKD1.out
          have HKD0d : Hid (WT1.drew.heap[D0]? = some (.deferred (some []))) := hide ((HTW1.out.block _ (lt_of_block HKD0.out)).trans HKD0.out)
          obtain ⟨t0, t1, _⟩ := HTD.out.cells
          have HLTD : Hid (D0 < WX.heap.size) := hide (lt_of_block HKD0.out)
          generalize WT1.drew = WY at *
          clear hP0 hP
          gi_wp2_with fail
          rw [roundsIn_succ]
          have HBk : Hid (Below WY.heap.size WY (WY.alloc (.cells #[.int .i64 2] 3))) := hide ((Below.refl _ _).alloc (Nat.le_refl _) _)
          have HIk := hide (HIZ.out.below HBk.out)
          have HK0 := hide ((HBk.out.block _ (lt_of_block HKD0d.out)).trans HKD0d.out)
          have HK1 := hide ((HBk.out.block _ (lt_of_block HKD1d.out)).trans HKD1d.out)
          obtain ⟨_, _, c6, f6, _, _⟩ := HIk.out.cells
          clear t0 t1
          gi_wp2_with fail
          have hK1' := (KeepsOthers.setCell (WY.alloc (.cells #[.int .i64 2] 3)) ⟨w.heap.size + 2, 0, none⟩ (.bool true)).same D1 _ HK1.out rfl
          have hK0' := (KeepsOthers.setCell (WY.alloc (.cells #[.int .i64 2] 3)) ⟨w.heap.size + 2, 0, none⟩ (.bool true)).same D0 _ HK0.out rfl
          exact told_end (HIk.out.yes) (by have := HDW0.out; have := HW4.out; omega) (by have := HDW1.out; have := HLTD.out; have := HDW0.out; have := HW4.out; omega) (by have := HDW1.out; have := HLTD.out; omega) hK0' hK1' (fun W' h => by simp [results, Try.results22, go_sem, h])
        case stop_252 =>
          rintro D1 c' pre WT1 hD hpre ⟨⟨rfl, hT, hkl, hl0⟩, hti⟩ hK
          exact absurd hT (by decide)
end Go.Proofs.Ytdaicdaakegdmaa
