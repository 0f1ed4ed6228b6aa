/- The walk of call.Clear's closure: a trade is put down. -/
import Derived.Test.YtogicdljbnllgaaWalk
namespace Go.Proofs.Ytogicdljbnllgaa
open Go.Shelf Go.RowKit Go.Lib Go.Sort Go.Proofs

def rowI (l : List Int) : Array Value := (l.map (Value.int .i64)).toArray
theorem rowI_set (l : List Int) (i : Nat) (z : Int) : (rowI l).setIfInBounds i (.int .i64 z) = rowI (l.set i z) := by
  unfold rowI
  rw [List.setIfInBounds_toArray, List.map_set]
theorem rowI_at {l : List Int} {i : Nat} {z : Int} (h : l[i]? = some z) : (rowI l)[i]? = some (.int .i64 z) := by
  unfold rowI
  rw [List.getElem?_toArray, List.getElem?_map, h]
  rfl
/-- What a call comes to, in memory. -/
structure Cld (q g1 g2 : Nat) (pr tr lo hi : Int) (l1 l2 : List Int) (W : World) : Prop where
  bq : W.heap[q]? = some (.cells #[.int .i64 pr, .int .i64 tr, .int .i64 lo, .int .i64 hi, .slice (some ⟨g1, 0, none⟩) l1.length l1.length, .slice (some ⟨g2, 0, none⟩) l2.length l2.length] 28 (0, 0))
  b1 : W.heap[g1]? = some (.cells (rowI l1) 3 (0, 0))
  b2 : W.heap[g2]? = some (.cells (rowI l2) 3 (0, 0))
section
variable {q g1 g2 : Nat} {pr tr lo hi : Int} {l1 l2 : List Int} {W W' : World}
theorem Cld.below {B : Nat} (h : Cld q g1 g2 pr tr lo hi l1 l2 W) (hb : Below B W W') (hq : q < B) (h1 : g1 < B) (h2 : g2 < B) : Cld q g1 g2 pr tr lo hi l1 l2 W' :=
  ⟨(hb.block _ hq).trans h.bq, (hb.block _ h1).trans h.b1, (hb.block _ h2).trans h.b2⟩
theorem Cld.up (h : Cld q g1 g2 pr tr lo hi l1 l2 W) (hb : Below W.heap.size W W') : Cld q g1 g2 pr tr lo hi l1 l2 W' := h.below hb (lt_of_block h.bq) (lt_of_block h.b1) (lt_of_block h.b2)
theorem Cld.cells (h : Cld q g1 g2 pr tr lo hi l1 l2 W) : W.cell? ⟨q, 0, none⟩ = some (.int .i64 pr) ∧ W.cell? ⟨q, 1, none⟩ = some (.int .i64 tr) ∧ W.cell? ⟨q, 2, none⟩ = some (.int .i64 lo) ∧ W.cell? ⟨q, 3, none⟩ = some (.int .i64 hi) ∧ W.cell? ⟨q, 4, none⟩ = some (.slice (some ⟨g1, 0, none⟩) l1.length l1.length) ∧ W.cell? ⟨q, 5, none⟩ = some (.slice (some ⟨g2, 0, none⟩) l2.length l2.length) :=
  ⟨cell_of_row W _ 0 _ _ (0, 0) h.bq, cell_of_row W _ 1 _ _ (0, 0) h.bq, cell_of_row W _ 2 _ _ (0, 0) h.bq, cell_of_row W _ 3 _ _ (0, 0) h.bq, cell_of_row W _ 4 _ _ (0, 0) h.bq, cell_of_row W _ 5 _ _ (0, 0) h.bq⟩
theorem Cld.row1 (h : Cld q g1 g2 pr tr lo hi l1 l2 W) {i : Nat} {z : Int} (hz : l1[i]? = some z) : W.cell? ⟨g1, i, none⟩ = some (.int .i64 z) :=
  (cell_of_row W _ i _ _ (0, 0) h.b1).trans (rowI_at hz)
theorem Cld.row2 (h : Cld q g1 g2 pr tr lo hi l1 l2 W) {i : Nat} {z : Int} (hz : l2[i]? = some z) : W.cell? ⟨g2, i, none⟩ = some (.int .i64 z) :=
  (cell_of_row W _ i _ _ (0, 0) h.b2).trans (rowI_at hz)
theorem Cld.set1 (h : Cld q g1 g2 pr tr lo hi l1 l2 W) (h1 : q ≠ g1) (h2 : g1 ≠ g2) (i : Nat) (z : Int) : Cld q g1 g2 pr tr lo hi (l1.set i z) l2 (W.setCell ⟨g1, i, none⟩ (.int .i64 z)) :=
  ⟨by rw [List.length_set]; exact (Below.heap_setCell W _ _ _ h1).trans h.bq, by rw [← rowI_set]; exact setCell_block h.b1 i _, (Below.heap_setCell W _ _ _ (Ne.symm h2)).trans h.b2⟩
theorem Cld.set2 (h : Cld q g1 g2 pr tr lo hi l1 l2 W) (h1 : q ≠ g2) (h2 : g1 ≠ g2) (i : Nat) (z : Int) : Cld q g1 g2 pr tr lo hi l1 (l2.set i z) (W.setCell ⟨g2, i, none⟩ (.int .i64 z)) :=
  ⟨by rw [List.length_set]; exact (Below.heap_setCell W _ _ _ h1).trans h.bq, (Below.heap_setCell W _ _ _ h2).trans h.b1, by rw [← rowI_set]; exact setCell_block h.b2 i _⟩
theorem Cld.setq (h : Cld q g1 g2 pr tr lo hi l1 l2 W) (h1 : q ≠ g1) (h2 : q ≠ g2) (z : Int) : Cld q g1 g2 z tr lo hi l1 l2 (W.setCell ⟨q, 0, none⟩ (.int .i64 z)) ∧ Cld q g1 g2 pr z lo hi l1 l2 (W.setCell ⟨q, 1, none⟩ (.int .i64 z)) ∧ Cld q g1 g2 pr tr z hi l1 l2 (W.setCell ⟨q, 2, none⟩ (.int .i64 z)) ∧ Cld q g1 g2 pr tr lo z l1 l2 (W.setCell ⟨q, 3, none⟩ (.int .i64 z)) :=
  ⟨⟨setCell_block h.bq 0 _, (Below.heap_setCell W _ _ _ (Ne.symm h1)).trans h.b1, (Below.heap_setCell W _ _ _ (Ne.symm h2)).trans h.b2⟩, ⟨setCell_block h.bq 1 _, (Below.heap_setCell W _ _ _ (Ne.symm h1)).trans h.b1, (Below.heap_setCell W _ _ _ (Ne.symm h2)).trans h.b2⟩,
    ⟨setCell_block h.bq 2 _, (Below.heap_setCell W _ _ _ (Ne.symm h1)).trans h.b1, (Below.heap_setCell W _ _ _ (Ne.symm h2)).trans h.b2⟩, ⟨setCell_block h.bq 3 _, (Below.heap_setCell W _ _ _ (Ne.symm h1)).trans h.b1, (Below.heap_setCell W _ _ _ (Ne.symm h2)).trans h.b2⟩⟩
theorem Cld.frozen (h : Cld q g1 g2 pr tr lo hi l1 l2 W) : (∀ i, W.frozen? ⟨q, i, none⟩ = false) ∧ (∀ i, W.frozen? ⟨g1, i, none⟩ = false) ∧ (∀ i, W.frozen? ⟨g2, i, none⟩ = false) :=
  ⟨fun i => frozen_of_row W _ i _ _ h.bq, fun i => frozen_of_row W _ i _ _ h.b1, fun i => frozen_of_row W _ i _ _ h.b2⟩
end
theorem two_boxes (w : World) (o0 o1 : Obj) : ((w.alloc o0).alloc o1).heap[w.heap.size]? = some o0 ∧ ((w.alloc o0).alloc o1).heap[w.heap.size + 1]? = some o1 ∧ Below w.heap.size w ((w.alloc o0).alloc o1) :=
  ⟨(Below.heap_alloc _ _ _ (by simp)).trans (heap_alloc_new w _), by simpa using heap_alloc_new (w.alloc o0) o1, ((Below.refl _ _).alloc (Nat.le_refl _) _).alloc (by simp) _⟩
/-- No block but three has turned. -/
abbrev T3 (q g1 g2 : Nat) (w w' : World) : Prop := Turns (fun b => b = q ∨ b = g1 ∨ b = g2) w w'

set_option maxRecDepth 100000 in
set_option maxHeartbeats 4000000 in
theorem clear1_any (q g1 g2 : Nat) (n1 : q ≠ g1) (n2 : q ≠ g2) (n3 : g1 ≠ g2) (pr tr lo hi : Int) (l1 l2 : List Int) (i k : Nat) (bc sc n z1 z2 : Int) (W : World) (h : Cld q g1 g2 pr tr lo hi l1 l2 W) (hz1 : l1[i]? = some z1) (hz2 : l2[k]? = some z2)
    (hl : l1.length ≤ 1000000 ∧ l2.length ≤ 1000000) (hn : 0 ≤ n ∧ n ≤ 64) (ht : 0 ≤ tr ∧ tr ≤ 1000000000 ∧ 0 ≤ z1 ∧ z1 ≤ 1000000000 ∧ 0 ≤ z2 ∧ z2 ≤ 1000000000) :
    Calls Try.prog 27 #[.agg #[.int .i64 (i : Int), .int .i64 bc], .agg #[.int .i64 (k : Int), .int .i64 sc], .int .i64 n, .pointer (some ⟨q, 0, none⟩)] W (fun e W' => e = .returned (.bool true) ∧ T3 q g1 g2 W W' ∧ Cld q g1 g2 pr (tr + n) sc bc (l1.set i (z1 + n)) (l2.set k (z2 + n)) W') := by
  have HH := hide h
  have hi1 : i < l1.length := (List.getElem?_eq_some_iff.1 hz1).1
  have hk1 : k < l2.length := (List.getElem?_eq_some_iff.1 hz2).1
  have hii : (i : Int) < (l1.length : Int) := by omega
  have hkk : (k : Int) < (l2.length : Int) := by omega
  have HZ1 := hide hz1
  have HZ2 := hide hz2
  have HL := hide hl
  have HNE : Hid ((W.heap.size ≠ q ∧ W.heap.size + 1 ≠ q) ∧ (W.heap.size ≠ g1 ∧ W.heap.size + 1 ≠ g1) ∧ (W.heap.size ≠ g2 ∧ W.heap.size + 1 ≠ g2)) := hide (by have h1 := lt_of_block h.bq; have h2 := lt_of_block h.b1; have h3 := lt_of_block h.b2; omega)
  have e1 : wrap64 (z1 + n) = z1 + n := by unfold wrap64; omega
  have e2 : wrap64 (z2 + n) = z2 + n := by unfold wrap64; omega
  have e3 : wrap64 (tr + n) = tr + n := by unfold wrap64; omega
  clear h hl hn ht hz1 hz2 hi1 hk1
  go_enter Try.func27, Try.ntmps27
  go_upto_region 1 with fail
  obtain ⟨t0, t1, t2⟩ := two_boxes W (.cells #[.int .i64 (i : Int), .int .i64 bc] 68) (.cells #[.int .i64 (k : Int), .int .i64 sc] 68)
  have HT0 := hide t0
  have HT1 := hide t1
  have HT2 := hide t2
  clear t0 t1 t2
  generalize (W.alloc (.cells #[.int .i64 (i : Int), .int .i64 bc] 68)).alloc (.cells #[.int .i64 (k : Int), .int .i64 sc] 68) = w1 at *
  have HC1 := hide (HH.out.up HT2.out)
  obtain ⟨c0, c1, c2, c3, c4, c5⟩ := HC1.out.cells
  have r1 := HC1.out.row1 HZ1.out
  obtain ⟨f0, f1, f2⟩ := HC1.out.frozen
  have x0 := cell_of_row w1 (W.heap.size) 0 _ _ (0, 0) HT0.out
  simp only [List.getElem?_toArray, List.getElem?_cons_zero, List.getElem?_cons_succ] at x0
  go_upto_region 2 with fail
  have HC2 := hide (HC1.out.set1 n1 n3 i (z1 + n))
  have HB0 := hide ((Below.heap_setCell w1 ⟨g1, i, none⟩ (.int .i64 (z1 + n)) _ (HNE.out.2.1.1)).trans HT0.out)
  have HB1 := hide ((Below.heap_setCell w1 ⟨g1, i, none⟩ (.int .i64 (z1 + n)) _ (HNE.out.2.1.2)).trans HT1.out)
  have HS2 : Hid (T3 q g1 g2 W (w1.setCell ⟨g1, i, none⟩ (.int .i64 (z1 + n)))) := hide ((Turns.of_below HT2.out).trans ((Turns.of_set w1 ⟨g1, i, none⟩ _).mono (fun b _ e => .inr (.inl e))))
  clear c0 c1 c2 c3 c4 c5 f0 f1 f2 x0 r1 HC1 HT0 HT1 HT2 e1
  generalize w1.setCell ⟨g1, i, none⟩ (.int .i64 (z1 + n)) = w2 at *
  obtain ⟨c0, c1, c2, c3, c4, c5⟩ := HC2.out.cells
  have r1 := HC2.out.row2 HZ2.out
  obtain ⟨f0, f1, f2⟩ := HC2.out.frozen
  have x0 := cell_of_row w2 (W.heap.size + 1) 0 _ _ (0, 0) HB1.out
  simp only [List.getElem?_toArray, List.getElem?_cons_zero, List.getElem?_cons_succ] at x0
  go_upto_region 3 with fail
  have HC3 := hide (HC2.out.set2 n2 n3 k (z2 + n))
  have HB0' := hide ((Below.heap_setCell w2 ⟨g2, k, none⟩ (.int .i64 (z2 + n)) _ (HNE.out.2.2.1)).trans HB0.out)
  have HB1' := hide ((Below.heap_setCell w2 ⟨g2, k, none⟩ (.int .i64 (z2 + n)) _ (HNE.out.2.2.2)).trans HB1.out)
  have HS3 : Hid (T3 q g1 g2 W (w2.setCell ⟨g2, k, none⟩ (.int .i64 (z2 + n)))) := hide (HS2.out.trans ((Turns.of_set w2 ⟨g2, k, none⟩ _).mono (fun b _ e => .inr (.inr e))))
  clear c0 c1 c2 c3 c4 c5 f0 f1 f2 x0 r1 HC2 HB0 HB1 HS2 e2
  generalize w2.setCell ⟨g2, k, none⟩ (.int .i64 (z2 + n)) = w3 at *
  obtain ⟨c0, c1, c2, c3, c4, c5⟩ := HC3.out.cells
  obtain ⟨f0, f1, f2⟩ := HC3.out.frozen
  go_upto_region 4 with fail
  have HC4 := hide (HC3.out.setq n1 n2 (tr + n)).2.1
  have HB0 := hide ((Below.heap_setCell w3 ⟨q, 1, none⟩ (.int .i64 (tr + n)) _ (HNE.out.1.1)).trans HB0'.out)
  have HB1 := hide ((Below.heap_setCell w3 ⟨q, 1, none⟩ (.int .i64 (tr + n)) _ (HNE.out.1.2)).trans HB1'.out)
  have HS4 : Hid (T3 q g1 g2 W (w3.setCell ⟨q, 1, none⟩ (.int .i64 (tr + n)))) := hide (HS3.out.trans ((Turns.of_set w3 ⟨q, 1, none⟩ _).mono (fun b _ e => .inl e)))
  clear c0 c1 c2 c3 c4 c5 f0 f1 f2 HC3 HB0' HB1' HS3 e3
  generalize w3.setCell ⟨q, 1, none⟩ (.int .i64 (tr + n)) = w4 at *
  have hS0 : w4.cell? ⟨W.heap.size, 1, none⟩ = some (.int .i64 bc) ∧ w4.cell? ⟨W.heap.size + 1, 1, none⟩ = some (.int .i64 sc) := ⟨cell_of_row w4 _ 1 _ _ (0, 0) HB0.out, cell_of_row w4 _ 1 _ _ (0, 0) HB1.out⟩
  refine wp_region_U 8 (fun X => X.cell? ⟨W.heap.size, 1, none⟩ = some (.int .i64 bc) ∧ X.cell? ⟨W.heap.size + 1, 1, none⟩ = some (.int .i64 sc)) rfl hS0 (fun hHeld => ?_)
  refine AnyU.take (i := 0) (v := ?v301) rfl (by kernel_rfl) (by kernel_rfl) (by kernel_rfl) (by kernel_rfl) (fun _ _ _ h => h) (Or.inl ⟨by rfl, ?hy301⟩) hHeld ?r301
  case hy301 => (intro w hSw; (try dsimp only at hSw); go_simp <;> with_reducible rfl)
  simp only [Act.put, List.setIfInBounds_toArray, List.set_cons_zero, List.set_cons_succ]
  refine AnyU.take (i := 1) (v := ?v302) rfl (by kernel_rfl) (by kernel_rfl) (by kernel_rfl) (by kernel_rfl) (fun _ _ _ h => h) (Or.inl ⟨by rfl, ?hy302⟩) hHeld ?r302
  case hy302 => (intro w hSw; (try dsimp only at hSw); go_simp <;> with_reducible rfl)
  simp only [Act.put, List.setIfInBounds_toArray, List.set_cons_zero, List.set_cons_succ]
  refine AnyU.take (i := 2) (v := ?v303) rfl (by kernel_rfl) (by kernel_rfl) (by kernel_rfl) (by kernel_rfl) (fun _ _ _ h => h) (Or.inl ⟨by rfl, ?hy303⟩) hHeld ?r303
  case hy303 => (intro w hSw; (try dsimp only at hSw); go_simp <;> with_reducible rfl)
  simp only [Act.put, List.setIfInBounds_toArray, List.set_cons_zero, List.set_cons_succ]
  refine AnyU.take (i := 3) (v := ?v304) rfl (by kernel_rfl) (by kernel_rfl) (by kernel_rfl) (by kernel_rfl) (fun _ _ _ h => h) (Or.inl ⟨by rfl, ?hy304⟩) hHeld ?r304
  case hy304 => (intro w hSw; (try dsimp only at hSw); go_simp <;> with_reducible rfl)
  simp only [Act.put, List.setIfInBounds_toArray, List.set_cons_zero, List.set_cons_succ]
  refine AnyU.take (i := 4) (v := ?v305) rfl (by kernel_rfl) (by kernel_rfl) (by kernel_rfl) (by kernel_rfl) (fun _ _ _ h => h) (Or.inl ⟨by rfl, ?hy305⟩) hHeld ?r305
  case hy305 => (intro w hSw; (try dsimp only at hSw); go_simp <;> with_reducible rfl)
  simp only [Act.put, List.setIfInBounds_toArray, List.set_cons_zero, List.set_cons_succ]
  refine AnyU.next (js := [5]) (by kernel_rfl) (by simp) (NextU.cons rfl (fun K hK => ?_) NextU.nil)
  obtain ⟨c0, c1, c2, c3, c4, c5⟩ := HC4.out.cells
  obtain ⟨f0, f1, f2⟩ := HC4.out.frozen
  have HNQ : Hid (W.heap.size ≠ q ∧ W.heap.size + 1 ≠ q) := hide (by have := lt_of_block HH.out.bq; omega)
  clear hHeld hS0
  go_wp2_with fail
  have HC5 := hide (HC4.out.setq n1 n2 sc).2.2.1
  have HD0 := hide ((Below.heap_setCell w4 ⟨q, 2, none⟩ (.int .i64 sc) _ HNQ.out.1).trans HB0.out)
  have HD1 := hide ((Below.heap_setCell w4 ⟨q, 2, none⟩ (.int .i64 sc) _ HNQ.out.2).trans HB1.out)
  have HS5 : Hid (T3 q g1 g2 W (w4.setCell ⟨q, 2, none⟩ (.int .i64 sc))) := hide (HS4.out.trans ((Turns.of_set w4 ⟨q, 2, none⟩ _).mono (fun b _ e => .inl e)))
  clear c0 c1 c2 c3 c4 c5 f0 f1 f2 HC4 HB0 HB1 HS4
  generalize w4.setCell ⟨q, 2, none⟩ (.int .i64 sc) = w5 at *
  refine hK.out _ _ (fun _ => ⟨cell_of_row w5 _ 1 _ _ (0, 0) HD0.out, cell_of_row w5 _ 1 _ _ (0, 0) HD1.out⟩) (fun hHeld => ?_)
  replace hHeld := hHeld (by decide)
  try simp only [Act.put, List.setIfInBounds_toArray, List.set_cons_zero, List.set_cons_succ]
  refine AnyU.take (i := 6) (v := ?v306) rfl (by kernel_rfl) (by kernel_rfl) (by kernel_rfl) (by kernel_rfl) (fun _ _ _ h => h) (Or.inl ⟨by rfl, ?hy306⟩) hHeld ?r306
  case hy306 => (intro w hSw; (try dsimp only at hSw); go_simp <;> with_reducible rfl)
  simp only [Act.put, List.setIfInBounds_toArray, List.set_cons_zero, List.set_cons_succ]
  refine AnyU.next (js := [7]) (by kernel_rfl) (by simp) (NextU.cons rfl (fun K hK => ?_) NextU.nil)
  obtain ⟨c0, c1, c2, c3, c4, c5⟩ := HC5.out.cells
  obtain ⟨f0, f1, f2⟩ := HC5.out.frozen
  clear hHeld
  go_simp
  have HC6 := hide (HC5.out.setq n1 n2 bc).2.2.2
  have HE0 := hide ((Below.heap_setCell w5 ⟨q, 3, none⟩ (.int .i64 bc) _ HNQ.out.1).trans HD0.out)
  have HE1 := hide ((Below.heap_setCell w5 ⟨q, 3, none⟩ (.int .i64 bc) _ HNQ.out.2).trans HD1.out)
  have HS6 : Hid (T3 q g1 g2 W (w5.setCell ⟨q, 3, none⟩ (.int .i64 bc))) := hide (HS5.out.trans ((Turns.of_set w5 ⟨q, 3, none⟩ _).mono (fun b _ e => .inl e)))
  clear c0 c1 c2 c3 c4 c5 f0 f1 f2 HC5 HD0 HD1 HS5
  generalize w5.setCell ⟨q, 3, none⟩ (.int .i64 bc) = w6 at *
  refine hK.out _ _ (fun _ => ⟨cell_of_row w6 _ 1 _ _ (0, 0) HE0.out, cell_of_row w6 _ 1 _ _ (0, 0) HE1.out⟩) (fun hHeld => ?_)
  replace hHeld := hHeld (by decide)
  try simp only [Act.put, List.setIfInBounds_toArray, List.set_cons_zero, List.set_cons_succ]
  refine AnyU.over (by kernel_rfl) ?_ _
  go_wp2_with fail
  go_ret
  exact ⟨rfl, ⟨HS6.out.os, HS6.out.tape, HS6.out.output, HS6.out.size, HS6.out.block⟩, ⟨HC6.out.bq, HC6.out.b1, HC6.out.b2⟩⟩
end Go.Proofs.Ytogicdljbnllgaa
