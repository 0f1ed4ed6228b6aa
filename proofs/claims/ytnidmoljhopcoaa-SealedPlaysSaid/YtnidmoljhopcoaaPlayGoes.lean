/- The walk of gavellaw11.goes: a going over a box tells its bids. -/
import Derived.Test.YtnidmoljhopcoaaPlayAll
import Derived.Test.YtnidmoljhopcoaaSeqA
import Derived.Test.YtnidmoljhopcoaaPlayRef
namespace Go.Proofs.Ytnidmoljhopcoaa
open Go.RowKit Go.Shelf

attribute [local go_sem] Oper.semAt_some

theorem own_blk {β : Type} {B k : Nat} {o : Obj} (hk : k < B) : OwnFrom B (fun (_ : β) W => W.heap[k]? = some o) := fun _ A C row hs hg hr => (hg.block k (lt_of_block hs) (fun e => by have := (hr k e.symm).1; omega)).trans hs
theorem four (w : World) (o0 o1 o2 o3 : Obj) :
    ((((w.alloc o0).alloc o1).alloc o2).alloc o3).heap[w.heap.size]? = some o0 ∧ ((((w.alloc o0).alloc o1).alloc o2).alloc o3).heap[w.heap.size + 1]? = some o1 ∧ ((((w.alloc o0).alloc o1).alloc o2).alloc o3).heap[w.heap.size + 1 + 1]? = some o2 ∧
    ((((w.alloc o0).alloc o1).alloc o2).alloc o3).heap[w.heap.size + 1 + 1 + 1]? = some o3 ∧ ((((w.alloc o0).alloc o1).alloc o2).alloc o3).heap.size = w.heap.size + 4 := by
  refine ⟨?_, ?_, ?_, ?_, by simp⟩
  · rw [Below.heap_alloc _ _ _ (by simp <;> omega), Below.heap_alloc _ _ _ (by simp <;> omega), Below.heap_alloc _ _ _ (by simp)]
    exact heap_alloc_new w o0
  · rw [Below.heap_alloc _ _ _ (by simp <;> omega), Below.heap_alloc _ _ _ (by simp)]
    have := heap_alloc_new (w.alloc o0) o1
    simpa using this
  · rw [Below.heap_alloc _ _ _ (by simp)]
    have := heap_alloc_new ((w.alloc o0).alloc o1) o2
    simpa using this
  · have := heap_alloc_new (((w.alloc o0).alloc o1).alloc o2) o3
    simpa using this

/-- What the going over's own variables hold. -/
structure GI (w : World) (A : Option Addr) (m c : Nat) (q : Int) (k : Int) (W : World) : Prop where
  bel : Below w.heap.size w W
  b0 : W.heap[w.heap.size]? = some (.cells #[.slice A m c] 22 (0, 0))
  b1 : W.heap[w.heap.size + 1]? = some (.cells #[.int .i64 q] 3 (0, 0))
  b2 : W.heap[w.heap.size + 1 + 1]? = some (.cells #[.bool false] 4 (0, 0))
  b3 : W.heap[w.heap.size + 1 + 1 + 1]? = some (.cells #[.int .i64 k] 3 (0, 0))
theorem GI.below {w W W' : World} {A : Option Addr} {m c : Nat} {q k : Int} (h : GI w A m c q k W) (hb : Below W.heap.size W W') : GI w A m c q k W' :=
  ⟨h.bel.trans (hb.mono h.bel.size), (hb.block _ (lt_of_block h.b0)).trans h.b0, (hb.block _ (lt_of_block h.b1)).trans h.b1, (hb.block _ (lt_of_block h.b2)).trans h.b2, (hb.block _ (lt_of_block h.b3)).trans h.b3⟩
theorem GI.own {w W W' : World} {B : Nat} {A : Option Addr} {m c : Nat} {q k : Int} {row : Option Nat} (h : GI w A m c q k W) (hB : w.heap.size + 4 ≤ B) (hg : W.grownBy W' row) (hr : ∀ r, row = some r → B ≤ r) : GI w A m c q k W' := by
  have key : ∀ {j : Nat} {o : Obj}, j < w.heap.size + 4 → W.heap[j]? = some o → W'.heap[j]? = some o := fun hj ho => (hg.block _ (lt_of_block ho) (fun e => by have := hr _ e.symm; omega)).trans ho
  exact ⟨h.bel.grown hg h.bel.size (fun k e => by have := hr k e; omega), key (by omega) h.b0, key (by omega) h.b1, key (by omega) h.b2, key (by omega) h.b3⟩
theorem GI.cells {w W : World} {A : Option Addr} {m c : Nat} {q k : Int} (h : GI w A m c q k W) : W.cell? ⟨w.heap.size, 0, none⟩ = some (.slice A m c) ∧ W.cell? ⟨w.heap.size + 1, 0, none⟩ = some (.int .i64 q) ∧
    W.cell? ⟨w.heap.size + 1 + 1, 0, none⟩ = some (.bool false) ∧ W.cell? ⟨w.heap.size + 1 + 1 + 1, 0, none⟩ = some (.int .i64 k) ∧ W.frozen? ⟨w.heap.size + 1 + 1, 0, none⟩ = false ∧ W.frozen? ⟨w.heap.size + 1 + 1 + 1, 0, none⟩ = false :=
  ⟨cell_of_row W _ 0 _ _ (0, 0) h.b0, cell_of_row W _ 0 _ _ (0, 0) h.b1, cell_of_row W _ 0 _ _ (0, 0) h.b2, cell_of_row W _ 0 _ _ (0, 0) h.b3, frozen_of_row W _ 0 _ _ h.b2, frozen_of_row W _ 0 _ _ h.b3⟩
theorem GI.next {w W : World} {A : Option Addr} {m c : Nat} {q k : Int} (h : GI w A m c q k W) (k' : Int) : GI w A m c q k' (W.setCell ⟨w.heap.size + 1 + 1 + 1, 0, none⟩ (.int .i64 k')) := by
  have key : ∀ {j : Nat} {o : Obj}, j ≠ w.heap.size + 1 + 1 + 1 → W.heap[j]? = some o → (W.setCell ⟨w.heap.size + 1 + 1 + 1, 0, none⟩ (.int .i64 k')).heap[j]? = some o := fun hj ho => (Below.heap_setCell W _ _ _ hj).trans ho
  exact ⟨h.bel.setCell (by show w.heap.size ≤ w.heap.size + 1 + 1 + 1; omega) _, key (by omega) h.b0, key (by omega) h.b1, key (by omega) h.b2, setCell_block h.b3 0 _⟩

theorem goes_end {fn : Func} {tmps : Array Value} {w W : World} {D : Nat} (hD : w.heap.size + 4 ≤ D) (hK : W.heap[D]? = some (.deferred (some []))) (hB : Below w.heap.size w W) (hb : W.heap[w.heap.size + 1 + 1]? = some (.cells #[.bool true] 4 (0, 0)))
    (hr : ∀ W', W'.cell? ⟨w.heap.size + 1 + 1, 0, none⟩ = some (.bool true) → (results fn tmps).run Try.prog W' = .ok (.bool true) W') : LeavesInM Fence.wide 9 Try.prog fn tmps (ValPost (.bool true) w) [{ target := .collected D, args := #[] }] .returning W := by
  have hb2 : (W.putObj D (.deferred none)).heap[w.heap.size + 1 + 1]? = some (.cells #[.bool true] 4 (0, 0)) := (World.putObj_heap_other (by omega)).trans hb
  exact ⟨by simp, .inl ⟨D, _, rfl, run_takeDeferred hK, ⟨.bool true, hr _ (cell_of_row _ _ 0 _ _ (0, 0) hb2), rfl, hB.grown (grownBy_putObj' W D _) hB.size (fun k e => by injection e with e; omega)⟩⟩⟩

set_option maxRecDepth 100000 in
set_option maxHeartbeats 8000000 in
theorem goes_any {B qb bc : Nat} {v : Value} {floor : Int} (l : List (Int × Int)) (hl : l.length ≤ 1000000) (A : Option Addr) (c : Nat) (q : Int) (w : World) (hc : w.heap[bc]? = some (.cells #[.pointer (some ⟨qb, 0, none⟩)] 39 (0, 0)))
    (hbx : BoxOf w B qb v floor l) (hl2 : Bids w w.heap.size A l) :
    Calls Try.prog 14 #[.func (.func 37) #[] #[.pointer (some ⟨bc, 0, none⟩)], .slice A l.length c, .int .i64 q] w (ValPost (.bool true) w) := by
  have hfn := func_eq_nil (.func 37) #[] #[.pointer (some ⟨bc, 0, none⟩)]
  have hat := hl2.at_
  refine (callsIn_wide (n := 9)).1 ?_
  refine callsIn_of_wp_marks Try.func14 rfl trivial ?_ rfl
  simp only [Try.ntmps14, List.size_toArray, List.length_cons, List.length_nil, Nat.reduceAdd, Nat.reduceSub, Array.replicate_succ, Array.replicate_zero, List.push_toArray, List.append_toArray, List.nil_append, List.cons_append]
  have HAT := hide hat
  have HL2 := hide hl2
  have HBX := hide hbx
  have HC := hide hc
  clear hat hl2 hbx hc
  gi_wp2_with fail
  have hv := four w (.cells #[.slice A l.length c] 22) (.cells #[.int .i64 q] 3) (.cells #[.bool false] 4) (.cells #[.int .i64 0] 3)
  have hB4 : Below w.heap.size w ((((w.alloc (.cells #[.slice A l.length c] 22)).alloc (.cells #[.int .i64 q] 3)).alloc (.cells #[.bool false] 4)).alloc (.cells #[.int .i64 0] 3)) := ((((Below.refl _ _).alloc (Nat.le_refl _) _).alloc (by simp) _).alloc (by simp; omega) _).alloc (by simp; omega) _
  have HG : Hid (GI w A l.length c q 0 ((((w.alloc (.cells #[.slice A l.length c] 22)).alloc (.cells #[.int .i64 q] 3)).alloc (.cells #[.bool false] 4)).alloc (.cells #[.int .i64 0] 3))) := hide ⟨hB4, hv.1, hv.2.1, hv.2.2.1, hv.2.2.2.1⟩
  have HB4 := hide hB4
  have hz4 := hv.2.2.2.2
  clear hv hB4 hfn
  generalize (((w.alloc (.cells #[.slice A l.length c] 22)).alloc (.cells #[.int .i64 q] 3)).alloc (.cells #[.bool false] 4)).alloc (.cells #[.int .i64 0] 3) = w4 at *
  refine wpIn_rangeSeqA (α := Int × Int) (encs := encB) (gf := 37) (lb := #[.pointer (some ⟨bc, 0, none⟩)]) rfl (enters_of Try.func37 (by kernel_rfl) rfl) (fun k => w.heap.size ≤ k ∧ k < w.heap.size + 4) (fun h => by omega) (fun h => by omega)
    (fun W2 hb hz => all_seq (l := l) (bc := bc) (q := qb) (v := v) (floor := floor) (B := B) ((hb.block _ (by have := lt_of_block HC.out; omega)).trans ((HB4.out.block _ (lt_of_block HC.out)).trans HC.out)) (BoxOf.below (BoxOf.below HBX.out HB4.out) hb) hl (fun k hk => by omega)) (fun _ => rfl)
    (fun pre W' => GI w A l.length c q pre.length W') (fun c' pre W' => c' = .ret ∧ Below w.heap.size w W' ∧ W'.heap[w.heap.size + 1 + 1]? = some (.cells #[.bool true] 4 (0, 0)))
    (fun s X Y row hs hg hr => hs.own (B := w4.heap.size) (by omega) hg (fun r e => (hr r e).1)) (fun c' s X Y row hs hg hr => ⟨hs.1, hs.2.1.grown hg hs.2.1.size (fun r e => by have := (hr r e).1; omega), (hg.block _ (lt_of_block hs.2.2) (fun e => by have := (hr _ e.symm).1; omega)).trans hs.2.2⟩) HG.out
    (fun x W => { tmps := #[.func (.func 37) #[] #[.pointer (some ⟨bc, 0, none⟩)], .slice A l.length c, .int .i64 q, undef, .pointer (some ⟨w.heap.size, 0, none⟩), .pointer (some ⟨w.heap.size + 1, 0, none⟩), .pointer (some ⟨w.heap.size + 1 + 1, 0, none⟩), .pointer (some ⟨w.heap.size + 1 + 1 + 1, 0, none⟩), .pointer (some ⟨W.heap.size, 0, none⟩), .func (.func 37) #[] #[.pointer (some ⟨bc, 0, none⟩)], .bool false, .func (.func 37) #[] #[.pointer (some ⟨bc, 0, none⟩)], .agg #[.int .i64 x.1, .int .i64 x.2], undef, undef, undef, undef, undef, undef, undef, undef, undef, undef, undef, undef, undef, undef, undef, undef, undef, undef, undef, undef, undef], defers := [] }) (fun x W => W.alloc (.cells #[.int .i64 x.1, .int .i64 x.2] 33)) (fun x W => (Below.refl _ _).alloc (Nat.le_refl _) _) 7 ?assign ?body ?done ?stop
  case assign =>
    intro l' pre x W' K he hK
    clear he
    obtain ⟨x1, x2⟩ := x
    simp only [encB]
    gi_wp2
    exact hK
  case body =>
    rintro l' pre x W0 Wr hgi ⟨hpre, hx⟩ hsz hzA hnew
    obtain ⟨k, hk⟩ : ∃ k, k = pre.length := ⟨_, rfl⟩
    rw [← hk] at hx hgi
    have hkl : k < l.length := (List.getElem?_eq_some_iff.1 hx).1
    obtain ⟨b, o, hAe, hbB, hcl⟩ := HAT.out (by omega)
    obtain ⟨hc0, hc1⟩ := hcl k x hx
    have g0 := (hgi.bel.cell (p := ⟨b, o + k * 2, none⟩) hbB).trans hc0
    have g1 := (hgi.bel.cell (p := ⟨b, o + k * 2 + 1, none⟩) hbB).trans hc1
    have hbn : Wr.heap[W0.heap.size]? = some (.cells #[.int .i64 x.1, .int .i64 x.2] 33 (0, 0)) := (hnew _ (Nat.le_refl _)).trans (heap_alloc_new W0 _)
    have e0 := cell_of_row Wr W0.heap.size 0 _ _ (0, 0) hbn
    have e1 := cell_of_row Wr W0.heap.size 1 _ _ (0, 0) hbn
    simp at e0 e1
    have HGI := hide hgi
    obtain ⟨d0, d1, d2, d3, f2, f3⟩ := hgi.cells
    have HPL := hide hk
    have HX := hide hx
    have hwk : IntKind.i64.wrap ((k : Int) + 1) = (k : Int) + 1 := Go.IntWalk.i64_in _ (by omega)
    have hmx : Try.prog.follows .mixedOrders = true := by kernel_rfl
    have hgn := (HGI.out.below ((Below.refl _ _).drew)).next ((k : Int) + 1)
    have HGN := hide hgn
    obtain ⟨h0, h1, h2, h3, i2, _⟩ := hgn.cells
    have HON : Hid (OutP (fun k => w.heap.size ≤ k ∧ k < w.heap.size + 4) Wr (Wr.drew.setCell ⟨w.heap.size + 1 + 1 + 1, 0, none⟩ (.int .i64 ((k : Int) + 1)))) := hide ((OutP.of_below ((Below.refl _ _).drew)).set ⟨w.heap.size + 1 + 1 + 1, 0, none⟩ ⟨by show w.heap.size ≤ w.heap.size + 1 + 1 + 1; omega, by show w.heap.size + 1 + 1 + 1 < w.heap.size + 4; omega⟩ _)
    have HBT : Hid ((((Wr.drew.setCell ⟨w.heap.size + 1 + 1 + 1, 0, none⟩ (.int .i64 ((k : Int) + 1))).setCell ⟨w.heap.size + 1 + 1, 0, none⟩ (.bool true)).heap[w.heap.size + 1 + 1]? = some (.cells #[.bool true] 4 (0, 0)))) := hide (setCell_block HGN.out.b2 0 _)
    have hkl1 : ¬ l.length ≤ k := by omega
    have hkl2 : decide (l.length ≤ k) = false := by simpa using hkl1
    have hkl3 : (k : Int) < (l.length : Int) := by omega
    have hkl4 : ¬ ((l.length : Int) ≤ (k : Int)) := by omega
    obtain ⟨x1, x2⟩ := x
    have HAE := hide hAe
    subst hAe
    clear hx hgi hk hcl hc0 hc1 hnew hzA hbn hgn HGI HL2 HAT
    simp only at g0 g1 e0 e1
    by_cases hxq : (k : Int) + 1 = q
    · subst hxq
      have hq1 : ((k : Int) + 1 == (k : Int) + 1) = true := by simp
      gi_wp2_with fail
      trace_state
      gi_region_with_o (fail)
      all_goals (
        gi_wp2
        exact ⟨HON.out.set ⟨w.heap.size + 1 + 1, 0, none⟩ ⟨by show w.heap.size ≤ w.heap.size + 1 + 1; omega, by show w.heap.size + 1 + 1 < w.heap.size + 4; omega⟩ _, rfl, HGN.out.bel.setCell (by show w.heap.size ≤ w.heap.size + 1 + 1; omega) _, HBT.out⟩)
    · have hq1 : ((k : Int) + 1 == q) = false := by simpa using hxq
      gi_wp2_with fail
      gi_region_with_o (fail)
      all_goals (
        gi_wp2
        refine ⟨HON.out, ?_⟩
        show GI w _ l.length c q ((pre ++ [(x1, x2)]).length : Nat) _
        rw [List.length_append, List.length_singleton, ← HPL.out]
        exact HGN.out)
  case done =>
    rintro D xs W' hD rfl hgi hK
    have HGI := hide hgi
    obtain ⟨d0, d1, d2, d3, f2, f3⟩ := hgi.cells
    have HK := hide hK
    have hmx : Try.prog.follows .mixedOrders = true := by kernel_rfl
    have HBT : Hid ((W'.setCell ⟨w.heap.size + 1 + 1, 0, none⟩ (.bool true)).heap[w.heap.size + 1 + 1]? = some (.cells #[.bool true] 4 (0, 0))) := hide (setCell_block hgi.b2 0 _)
    have HKF : Hid ((W'.setCell ⟨w.heap.size + 1 + 1, 0, none⟩ (.bool true)).heap[D]? = some (.deferred (some []))) := hide ((Below.heap_setCell _ _ _ _ (by show D ≠ w.heap.size + 1 + 1; omega)).trans hK)
    have HBF : Hid (Below w.heap.size w (W'.setCell ⟨w.heap.size + 1 + 1, 0, none⟩ (.bool true))) := hide (hgi.bel.setCell (by show w.heap.size ≤ w.heap.size + 1 + 1; omega) _)
    clear hgi hK HL2 HAT
    gi_wp2_with fail
    exact goes_end (by omega) HKF.out HBF.out HBT.out (fun W' h => by simp [results, Try.results14, go_sem, h])
  case stop =>
    rintro D c' pre W' hD hpre ⟨rfl, hb, hbt⟩ hK
    have d2 := cell_of_row W' _ 0 _ _ (0, 0) hbt
    have HB := hide hb
    have HK := hide hK
    have HBT := hide hbt
    clear hb hbt hK hpre
    gi_wp2
    exact goes_end (by omega) HK.out HB.out HBT.out (fun W' h => by simp [results, Try.results14, go_sem, h])
end Go.Proofs.Ytnidmoljhopcoaa
