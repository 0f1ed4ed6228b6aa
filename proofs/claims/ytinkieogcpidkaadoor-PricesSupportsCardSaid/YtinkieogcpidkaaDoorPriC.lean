/- The walk of a board's cost. -/
import Derived.Test.YtinkieogcpidkaaDoorPri
import Derived.TacticsInMore
import Derived.Sort.CutIn
import Derived.Sort.BigQuietIn
namespace Go.Proofs.YtinkieogcpidkaaDoor
open Go.RowKit Go.Maps Go.Shelf
open Go.ChangeMaps Go.WideMaps

attribute [local go_sem] Oper.semAt_some

/-- What the going over a set's goods holds: the board's pointer, the sum so far. -/
structure CoI (w : World) (bb : Nat) (cnt : Nat → Int) (s : Int) (W : World) : Prop where
  bel : Below w.heap.size w W
  ptr : W.cell? ⟨w.heap.size, 0, none⟩ = some (.pointer (some ⟨bb, 0, none⟩))
  sum : W.cell? ⟨w.heap.size + 1, 0, none⟩ = some (.int .i64 s) ∧ W.frozen? ⟨w.heap.size + 1, 0, none⟩ = false
  brd : W.heap[bb]? = some (.cells (rowC cnt) 76 (0, 0))
  tab : TabW W
  lt : bb < w.heap.size
section
variable {w W W' : World} {bb : Nat} {cnt : Nat → Int} {s : Int}
theorem CoI.own {row : Option Nat} {B : Nat} (h : CoI w bb cnt s W) (hB : w.heap.size + 1 < B) (hg : W.grownBy W' row) (hr : ∀ r, row = some r → B ≤ r ∧ ∃ o : Obj, W.heap[r]? = some o ∧ o.isCells = false) : CoI w bb cnt s W' := by
  have hr2 := fun r e => (hr r e).2
  refine ⟨h.bel.grown hg h.bel.size (fun k e => Nat.le_trans (by omega) (hr k e).1), cell_kept h.ptr hg hr2, ⟨cell_kept h.sum.1 hg hr2, (frozen_kept h.sum.1 hg hr2).trans h.sum.2⟩, ?_, fun j hj => cell_kept (h.tab j hj) hg hr2, h.lt⟩
  exact (hg.block _ (lt_of_block h.brd) (fun e => by have := (hr _ e.symm).1; have := h.lt; omega)).trans h.brd
theorem CoI.below (h : CoI w bb cnt s W) (hb : Below W.heap.size W W') : CoI w bb cnt s W' := by
  have hl := World.block_lt_of_cell? W _ h.sum.1
  have hl2 := World.block_lt_of_cell? W _ h.ptr
  exact ⟨h.bel.trans (hb.mono h.bel.size), (hb.cell hl2).trans h.ptr, ⟨(hb.cell hl).trans h.sum.1, (World.frozen?_of_block (hb.block _ hl)).trans h.sum.2⟩, (hb.block _ (lt_of_block h.brd)).trans h.brd, h.tab.below hb, h.lt⟩
theorem CoI.bump (h : CoI w bb cnt s W) (hT : 0 < w.heap.size) (s' : Int) : CoI w bb cnt s' (W.setCell ⟨w.heap.size + 1, 0, none⟩ (.int .i64 s')).drew := by
  have hb := (h.bel.setCell (p := ⟨w.heap.size + 1, 0, none⟩) (Nat.le_succ _) (.int .i64 s')).drew
  refine ⟨hb, ?_, ⟨?_, ?_⟩, ?_, ?_, h.lt⟩
  · show (W.setCell ⟨w.heap.size + 1, 0, none⟩ (.int .i64 s')).cell? _ = _
    rw [World.cell?_setCell_other _ _ _ _ (fun e => by simp at e), h.ptr]
  · show (W.setCell ⟨w.heap.size + 1, 0, none⟩ (.int .i64 s')).cell? _ = _
    refine World.cell?_setCell_same' _ _ _ ?_
    rw [h.sum.1]
    rfl
  · show (W.setCell ⟨w.heap.size + 1, 0, none⟩ (.int .i64 s')).frozen? _ = _
    rw [World.frozen?_setCell]
    exact h.sum.2
  · show (W.setCell ⟨w.heap.size + 1, 0, none⟩ (.int .i64 s')).heap[bb]? = _
    rw [Below.heap_setCell _ _ _ _ (by have := h.lt; show bb ≠ w.heap.size + 1; omega)]
    exact h.brd
  · have h1 : TabW (W.setCell ⟨w.heap.size + 1, 0, none⟩ (.int .i64 s')) := h.tab.keep grown_setW (fun e => by have := Option.some.inj e; simp only at this; omega)
    exact h1
theorem KT.one (hT : 0 < w.heap.size) (a : Value) : KT W (W.setCell ⟨w.heap.size + 1, 0, none⟩ a).drew := fun h => by
  have h1 : TabW (W.setCell ⟨w.heap.size + 1, 0, none⟩ a) := h.keep grown_setW (fun e => by have := Option.some.inj e; simp only at this; omega)
  exact h1
end
theorem index_board (cnt : Nat → Int) (W : World) (bb : Nat) {j : Nat} (hj : j < 32) (h : W.heap[bb]? = some (.cells (rowC cnt) 76 (0, 0))) : W.cell? ⟨bb, j, none⟩ = some (.int .i64 (cnt j)) := by
  rw [cell_of_row W bb j _ _ (0, 0) h, rowC_at _ hj]

set_option maxRecDepth 100000 in
set_option maxHeartbeats 4000000 in
theorem cost_any (bb : Nat) (cnt : Nat → Int) (g : Nat) (hg : g < 4294967296) (w : World) (h : w.heap[bb]? = some (.cells (rowC cnt) 76 (0, 0))) (hT : TabW w) :
    Calls Tryd.prog 46 #[.pointer (some ⟨bb, 0, none⟩), .int .u32 (g : Int)] w (ValPost (.int .i64 (costC cnt g)) w) := by
  have HT := hide hT
  have HBR := hide h
  clear h hT
  refine (callsIn_wide (n := 5)).1 ?_
  refine callsIn_of_wp_marks Tryd.func46 rfl trivial ?_ rfl
  simp only [Tryd.ntmps46, List.size_toArray, List.length_cons, List.length_nil, Nat.reduceAdd, Nat.reduceSub, Array.replicate_succ, Array.replicate_zero, List.push_toArray, List.append_toArray, List.nil_append, List.cons_append]
  gi_upto_region 2 with fail
  have HST : Hid (CoI w bb cnt 0 ((w.alloc (.cells #[.pointer (some ⟨bb, 0, none⟩)] 89)).alloc (.cells #[.int .i64 0] 2))) := hide (by
    have hb : Below w.heap.size w ((w.alloc (.cells #[.pointer (some ⟨bb, 0, none⟩)] 89)).alloc (.cells #[.int .i64 0] 2)) := ((Below.refl _ _).alloc (Nat.le_refl _) _).alloc (by simp) _
    have h1 : ∀ o1 o2, ((w.alloc o1).alloc o2).heap[w.heap.size]? = some o1 ∧ ((w.alloc o1).alloc o2).heap[w.heap.size + 1]? = some o2 := fun o1 o2 => ⟨by
      rw [Below.heap_alloc _ _ _ (by simp)]; exact heap_alloc_new w _, by
      have := heap_alloc_new (w.alloc o1) o2
      simpa using this⟩
    exact ⟨hb, cell_of_row _ _ 0 _ _ (0, 0) (h1 _ _).1, ⟨cell_of_row _ _ 0 _ _ (0, 0) (h1 _ _).2, frozen_of_row _ _ _ _ _ (h1 _ _).2⟩, (hb.block _ (lt_of_block HBR.out)).trans HBR.out, HT.out.below hb, lt_of_block HBR.out⟩)
  generalize (w.alloc (.cells #[.pointer (some ⟨bb, 0, none⟩)] 89)).alloc (.cells #[.int .i64 0] 2) = w1 at *
  gi_wp2_with (refine ⟨trivial, ?_⟩; gi_at_call 55; refine (callsIn_wide.2 (each_any g w1)).mono ?_; rintro e _ ⟨rfl, rfl⟩)
  have HBQ : Hid (Below w1.heap.size w1 (w1.alloc (.cells #[.int .u32 (g : Int)] 26))) := hide ((Below.refl _ _).alloc (Nat.le_refl _) _)
  have HIQ := hide (HST.out.below HBQ.out)
  have hbq : (w1.alloc (.cells #[.int .u32 (g : Int)] 26)).heap[w1.heap.size]? = some (.cells #[.int .u32 (g : Int)] 26 (0, 0)) := heap_alloc_new w1 _
  have hszw : w.heap.size + 1 < w1.heap.size := World.block_lt_of_cell? _ _ HST.out.sum.1
  have hszq : (w1.alloc (.cells #[.int .u32 (g : Int)] 26)).heap.size = w1.heap.size + 1 := by simp
  generalize w1.alloc (.cells #[.int .u32 (g : Int)] 26) = wq at *
  refine wpIn_rangeFunc_ownF (α := Fin 32) (encs := encE) (Kp := KT) rfl (by omega) (gf := 61) (lb := #[.pointer (some ⟨w1.heap.size, 0, none⟩)]) rfl trivial (enters_of Tryd.func61 (by kernel_rfl) rfl)
    (each_stops (k := 2) w1.heap.size g hg wq hbq HIQ.out.tab) (fun h k => KT.t h k) (fun W l o o' _ h hc _ => KT.b W l o o' h hc) (Below.refl _ _) (fun _ => rfl)
    (fun pre W => CoI w bb cnt (addC cnt pre) W) (fun _ _ _ => False)
    (fun s W W' row hs hg hr => hs.own (by omega) hg hr) (fun _ _ _ _ _ hs _ _ => hs) HIQ.out
    (fun x => { tmps := #[.pointer (some ⟨bb, 0, none⟩), .int .u32 (g : Int), .pointer (some ⟨w.heap.size, 0, none⟩), undef, .int .i64 0, .pointer (some ⟨w.heap.size + 1, 0, none⟩), .int .i64 (x.val : Int), .int .u32 (g : Int), .func (.func 61) #[] #[.pointer (some ⟨w1.heap.size, 0, none⟩)], .int .i64 (x.val : Int), undef, undef, undef, undef, undef, undef, undef, undef], defers := [] }) ?assign ?body ?done ?stop
  case assign =>
    intro l x W K hK
    simp only [encE]
    gi_wp2
    exact hK
  case body =>
    rintro l pre x W hI3 hpl
    have HI3 := hide hI3
    have k0 := hI3.ptr
    obtain ⟨k1, k2⟩ := hI3.sum
    have k3 := index_board cnt W bb x.2 hI3.brd
    obtain ⟨s, hs⟩ : ∃ s, s = addC cnt pre := ⟨_, rfl⟩
    obtain ⟨s', hs'⟩ : ∃ s', IntKind.i64.wrap (s + cnt x.val) = s' := ⟨_, rfl⟩
    rw [← hs] at k1 HI3
    have HS : Hid (addC cnt (pre ++ [x]) = s') := hide (by rw [addC_snoc, ← hs]; exact hs')
    have hx32 : (x.val : Int) < 32 := by have := x.2; omega
    have hmx : Tryd.prog.follows .mixedOrders = true := by kernel_rfl
    clear hI3 hs
    gi_wp2
    gi_region_with_o (fail)
    all_goals gi_wp2
    all_goals
      refine ⟨(KeepsOthers.setCell _ _ _).trans (KeepsOthers.drew _), KT.one HT.out.lt _, ?_⟩
      show CoI w bb cnt (addC cnt (pre ++ [x])) _
      rw [HS.out]
      exact HI3.out.bump HT.out.lt s'
  case done =>
    rintro D xs W hD rfl hI2 hK
    have HI2 := hide hI2
    have HK := hide hK
    have HD : Hid (w.heap.size ≤ D) := hide (by omega)
    obtain ⟨k1, _⟩ := hI2.sum
    clear hI2 hK
    gi_wp2_with fail
    refine leaves_marks [D] W (MarkOk.cons (MarkOk.nil _ _) HD.out HK.out (by simp)) (fun w' hw' => ⟨_, by simp [results, Tryd.results46, go_sem]; rfl, rfl, HI2.out.bel.trans hw'⟩)
  case stop =>
    rintro D c pre W _ _ h _
    exact h.elim
end Go.Proofs.YtinkieogcpidkaaDoor
