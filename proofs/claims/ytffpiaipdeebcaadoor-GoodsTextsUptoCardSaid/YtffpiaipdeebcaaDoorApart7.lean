/- The walk of goods.Apart: are sets apart? -/
import Derived.Test.YtffpiaipdeebcaaDoorEach
import Derived.Test.YtffpiaipdeebcaaDoorGdP
namespace Go.Proofs.YtffpiaipdeebcaaDoor
open Go.RowKit Go.Shelf

attribute [local go_sem] Oper.semAt_some

def marksOf (Ds : List Nat) : List Deferred := Ds.map fun D => { target := .collected D, args := #[] }
/-- Ds are the marks' blocks, each one shut and empty. -/
structure MarkOk (B : Nat) (Ds : List Nat) (W : World) : Prop where
  nodup : Ds.Nodup
  blk : ∀ D ∈ Ds, B ≤ D ∧ W.heap[D]? = some (.deferred (some []))
theorem MarkOk.nil (B : Nat) (W : World) : MarkOk B [] W := ⟨List.nodup_nil, fun D h => by cases h⟩
theorem MarkOk.cons {B D : Nat} {Ds : List Nat} {W : World} (h : MarkOk B Ds W) (hB : B ≤ D) (hD : W.heap[D]? = some (.deferred (some []))) (hn : D ∉ Ds) : MarkOk B (D :: Ds) W :=
  ⟨List.nodup_cons.2 ⟨hn, h.nodup⟩, fun E hE => by
    rcases List.mem_cons.1 hE with rfl | hE
    · exact ⟨hB, hD⟩
    · exact h.blk E hE⟩
theorem MarkOk.keep {B : Nat} {Ds : List Nat} {W W' : World} (h : MarkOk B Ds W) (hk : ∀ D, B ≤ D → W.heap[D]? = some (.deferred (some [])) → W'.heap[D]? = W.heap[D]?) : MarkOk B Ds W' :=
  ⟨h.nodup, fun D hD => ⟨(h.blk D hD).1, (hk D (h.blk D hD).1 (h.blk D hD).2).trans (h.blk D hD).2⟩⟩
theorem leaves_marks {F : Fence} {n : Nat} {fn : Func} {tmps : Array Value} {R : Ending → World → Prop} {B : Nat} : ∀ (Ds : List Nat) (w : World), MarkOk B Ds w →
    (∀ w', Below B w w' → LeavesIn F n Tryd.prog fn tmps R [] .returning w') → LeavesInM F n Tryd.prog fn tmps R (marksOf Ds) .returning w
  | [], w, _, h => h w (Below.refl _ _)
  | D :: Ds, w, hm, h => by
    have hD := hm.blk D (List.mem_cons_self ..)
    have hn := (List.nodup_cons.1 hm.nodup)
    have hb : Below B w (w.putObj D (.deferred none)) := (Below.refl B w).grown (grownBy_putObj' w D _) (by have := (Array.getElem?_eq_some_iff.1 hD.2).1; omega) (fun k e => by injection e with e; omega)
    refine ⟨by simp, .inl ⟨D, _, rfl, run_takeDeferred hD.2, ?_⟩⟩
    refine leaves_marks Ds _ ⟨hn.2, fun E hE => ?_⟩ (fun w' hw' => h w' (hb.trans hw'))
    have hE' := hm.blk E (List.mem_cons_of_mem _ hE)
    refine ⟨hE'.1, ?_⟩
    rw [World.putObj_heap_other (by rintro rfl; exact hn.1 hE)]
    exact hE'.2

/-- In how many sets a good is. -/
def cntAt (gs : List Nat) (i : Nat) : Nat := (gs.filter (·.testBit i)).length
theorem cnt_snoc (gs : List Nat) (g i : Nat) : cntAt (gs ++ [g]) i = cntAt gs i + if g.testBit i then 1 else 0 := by
  unfold cntAt
  rw [List.filter_append, List.length_append]
  congr 1
  by_cases h : g.testBit i <;> simp [h]
def apartB (gs : List Nat) : Bool := (List.range 32).all fun i => decide (cntAt gs i ≤ 1)
abbrev gV (g : Nat) : Value := .int .u32 (g : Int)

def rowC (cnt : Nat → Int) : Array Value := ((List.range 32).map fun j => Value.int .i64 (cnt j)).toArray
theorem rowC_at (cnt : Nat → Int) {j : Nat} (hj : j < 32) : (rowC cnt)[j]? = some (.int .i64 (cnt j)) := by simp [rowC, hj]
theorem rowC_set (cnt : Nat → Int) (x : Nat) (v : Int) : (rowC cnt).setIfInBounds x (.int .i64 v) = rowC (fun j => if j = x then v else cnt j) := by
  apply Array.ext_getElem?
  intro i
  rw [Array.getElem?_setIfInBounds]
  by_cases hi : i < 32
  · rw [rowC_at _ hi, rowC_at _ hi]
    by_cases h : x = i
    · subst h
      simp [rowC, hi]
    · rw [if_neg h, if_neg (Ne.symm h)]
  · by_cases h : x = i
    · subst h
      simp [rowC, hi]
    · simp [rowC, hi, h]
theorem rowC_same {cnt cnt' : Nat → Int} (he : ∀ j, j < 32 → cnt' j = cnt j) : rowC cnt' = rowC cnt := by
  unfold rowC
  congr 1
  apply List.map_congr_left
  intro j hj
  rw [he j (List.mem_range.1 hj)]
theorem index_row (cnt : Nat → Int) (W : World) {j : Nat} (hj : j < 32) : (Instr.index 80 (.agg (rowC cnt)) (.int .i64 (j : Int))).run Tryd.prog W = .ok (.int .i64 (cnt j)) W := by
  have h1 : (0 : Int) ≤ j ∧ (j : Int) < (32 : Nat) := by omega
  have h2 := rowC_at cnt hj
  have h3 : (sizeOf 3).run Tryd.prog W = .ok 1 W := by kernel_rfl
  have h4 : (isAgg 3).run Tryd.prog W = .ok false W := by kernel_rfl
  simp [Instr.index, run_underlying Tryd.underlying80, asIntOf, go_sem, h1, h2, h3, h4, part]
  omega
section
variable {F : Fence} {n : Nat} {P : Program} {ops : Array Oper} {Q : Exit → Act → World → Prop} {a : Act} {w : World} {rest : List Oper} {o : Oper}
/-- A variable of an array's or struct's type is loaded whole. -/
theorem wpListIn_load_row (hro : F.round = none) (hgd : o.guard = none) (ty : TypeId) (x : Operand) (ho : o.op = .load ty x)
    (g : Nat) (hx : a.eval x = .pointer (some ⟨g, 0, none⟩)) (t : TypeId) (cs : Array Value) (fr : Nat × Nat) (d : TypeDesc) (hg : w.heap[g]? = some (.cells cs t fr))
    (hu : P.underlying ty = some d) (hd : (match d with | .struct _ | .array _ _ => true | _ => false) = true) (hi : (P.info? ty).map (·.size) = some cs.size)
    (h : wpListIn F n P ops Q rest (a.put o.dst (.agg cs)) w) : wpListIn F n P ops Q (o :: rest) a w := by
  refine wpListIn_plain hgd fun K hK => ⟨fun f hf => ?_, ?_⟩
  · simp [Oper.about, ho] at hf
  · have hrun : (o.semAt F.round a.eval).run P w = .ok (.value (.agg cs)) w := by
      rw [hro, Oper.semAt_none]
      unfold execOp
      simp only [ho, hx, Instr.loadAt, Instr.sureAddr, Sem.run_bind, Sem.run_pure, Result.andThen_ok, run_loadVar_row w g t ty cs fr d hg hu hd hi]
    rw [hrun]
    exact hK _ _ h
end

/-- What Apart's loop holds: the counts, the sum, what lay. -/
structure ApI (w : World) (cnt : Nat → Int) (Ds : List Nat) (W : World) : Prop where
  bel : Below w.heap.size w W
  blk : W.heap[w.heap.size]? = some (.cells (rowC cnt) 80 (0, 0))
  sum : W.cell? ⟨w.heap.size + 1, 0, none⟩ = some (.int .u32 (setC cnt : Nat)) ∧ W.frozen? ⟨w.heap.size + 1, 0, none⟩ = false
  tab : TabW W
  mark : MarkOk (w.heap.size + 2) Ds W

theorem grown_setW {w : World} {p : Addr} {u : Value} : w.grownBy (w.setCell p u) (some p.block) :=
  ⟨rfl, rfl, rfl, by simp [World.setCell], fun i _ hne => Below.heap_setCell w p u i (fun e => hne (by rw [e]))⟩
theorem ApI.own {w W W' : World} {cnt : Nat → Int} {Ds : List Nat} {row : Option Nat} {B : Nat} (h : ApI w cnt Ds W) (hB : w.heap.size < B) (hD : ∀ D ∈ Ds, D < B) (hg : W.grownBy W' row) (hr : ∀ r, row = some r → B ≤ r ∧ ∃ o : Obj, W.heap[r]? = some o ∧ o.isCells = false) : ApI w cnt Ds W' := by
  have hr2 := fun r e => (hr r e).2
  refine ⟨h.bel.grown hg h.bel.size (fun k e => Nat.le_trans (Nat.le_of_lt hB) (hr k e).1), (hg.block _ (lt_of_block h.blk) (fun e => by have := (hr _ e.symm).1; omega)).trans h.blk, ?_, fun j hj => cell_kept (h.tab j hj) hg hr2, ⟨h.mark.nodup, fun D hm => ⟨(h.mark.blk D hm).1, ?_⟩⟩⟩
  · obtain ⟨h1, h2⟩ := h.sum
    exact ⟨cell_kept h1 hg hr2, (frozen_kept h1 hg hr2).trans h2⟩
  · have hb := (h.mark.blk D hm).2
    exact (hg.block D (lt_of_block hb) (fun e => by have := (hr D e.symm).1; have := hD D hm; omega)).trans hb
theorem ApI.below {w W W' : World} {cnt : Nat → Int} {Ds : List Nat} (h : ApI w cnt Ds W) (hb : Below W.heap.size W W') : ApI w cnt Ds W' := by
  refine ⟨h.bel.trans (hb.mono h.bel.size), (hb.block _ (lt_of_block h.blk)).trans h.blk, ?_, h.tab.below hb, ⟨h.mark.nodup, fun D hm => ⟨(h.mark.blk D hm).1, (hb.block D (lt_of_block (h.mark.blk D hm).2)).trans (h.mark.blk D hm).2⟩⟩⟩
  · obtain ⟨h1, h2⟩ := h.sum
    have hl := World.block_lt_of_cell? W _ h1
    have e := hb.block _ hl
    exact ⟨(hb.cell hl).trans h1, (World.frozen?_of_block e).trans h2⟩
theorem ApI.same {w W : World} {cnt cnt' : Nat → Int} {Ds : List Nat} (h : ApI w cnt Ds W) (he : ∀ j, j < 32 → cnt' j = cnt j) : ApI w cnt' Ds W :=
  ⟨h.bel, by rw [rowC_same he]; exact h.blk, by rw [setC_same he]; exact h.sum, h.tab, h.mark⟩

theorem ApI.bump {w W : World} {cnt : Nat → Int} {Ds : List Nat} (h : ApI w cnt Ds W) (hT : 0 < w.heap.size) (x : Nat) (hx : x < 32) (v : Int) (hv : 0 < v) :
    ApI w (fun j => if j = x then v else cnt j) Ds ((W.setCell ⟨w.heap.size, x, none⟩ (.int .i64 v)).setCell ⟨w.heap.size + 1, 0, none⟩ (.int .u32 (setC cnt ||| 2 ^ x : Nat))).drew := by
  have hd : ∀ {A B : World} {n : Nat} , Below n A B → Below n A B.drew := fun h => h.drew
  obtain ⟨hu1, hu2⟩ := h.sum
  have hcb := setC_bump cnt hx hv
  have hlt := World.block_lt_of_cell? W _ hu1
  refine ⟨((h.bel.setCell (Nat.le_refl _) _).setCell (by show w.heap.size ≤ w.heap.size + 1; omega) _).drew, ?_, ⟨?_, ?_⟩, ?_, h.mark.keep (fun D hD hb => ?_)⟩
  · show ((W.setCell ⟨w.heap.size, x, none⟩ (.int .i64 v)).setCell ⟨w.heap.size + 1, 0, none⟩ (.int .u32 (setC cnt ||| 2 ^ x : Nat))).heap[w.heap.size]? = _
    rw [Below.heap_setCell _ _ _ _ (by simp), setCell_block h.blk, rowC_set]
  · show ((W.setCell ⟨w.heap.size, x, none⟩ (.int .i64 v)).setCell ⟨w.heap.size + 1, 0, none⟩ (.int .u32 (setC cnt ||| 2 ^ x : Nat))).cell? _ = _
    rw [hcb]
    refine World.cell?_setCell_same' _ _ _ ?_
    rw [World.cell?_setCell_other _ _ _ _ (fun e => by simp at e), hu1]
    rfl
  · show ((W.setCell ⟨w.heap.size, x, none⟩ (.int .i64 v)).setCell ⟨w.heap.size + 1, 0, none⟩ (.int .u32 (setC cnt ||| 2 ^ x : Nat))).frozen? _ = _
    rw [World.frozen?_setCell, World.frozen?_setCell]
    exact hu2
  · have h1 : TabW (W.setCell ⟨w.heap.size, x, none⟩ (.int .i64 v)) := h.tab.keep grown_setW (fun e => by have := Option.some.inj e; simp only at this; omega)
    have h2 : TabW ((W.setCell ⟨w.heap.size, x, none⟩ (.int .i64 v)).setCell ⟨w.heap.size + 1, 0, none⟩ (.int .u32 (setC cnt ||| 2 ^ x : Nat))) := h1.keep grown_setW (fun e => by simp at e)
    exact h2
  · show ((W.setCell ⟨w.heap.size, x, none⟩ (.int .i64 v)).setCell ⟨w.heap.size + 1, 0, none⟩ (.int .u32 (setC cnt ||| 2 ^ x : Nat))).heap[D]? = _
    rw [Below.heap_setCell _ _ _ _ (by simp; omega), Below.heap_setCell _ _ _ _ (by simp; omega)]
theorem KT.two {w W : World} (hT : 0 < w.heap.size) (x : Nat) (a b : Value) : KT W ((W.setCell ⟨w.heap.size, x, none⟩ a).setCell ⟨w.heap.size + 1, 0, none⟩ b).drew := fun h => by
  have h1 : TabW (W.setCell ⟨w.heap.size, x, none⟩ a) := h.keep grown_setW (fun e => by have := Option.some.inj e; simp only at this; omega)
  have h2 : TabW ((W.setCell ⟨w.heap.size, x, none⟩ a).setCell ⟨w.heap.size + 1, 0, none⟩ b) := h1.keep grown_setW (fun e => by simp at e)
  exact h2

def ApartPost (gs : List Nat) (w : World) (e : Ending) (w' : World) : Prop := e = .returned (.tuple #[.int .u32 (if apartB gs then (setC fun j => (cntAt gs j : Nat)) else 0 : Nat), .bool (apartB gs)]) ∧ Below w.heap.size w w'
set_option maxRecDepth 100000 in
set_option maxHeartbeats 4000000 in
theorem apart_any (A : Option Addr) (c : Nat) (gs : List Nat) (w : World) (h : One gV w w.heap.size A gs) (hl : gs.length ≤ 140737488355328) (hg : ∀ g ∈ gs, g < 4294967296) (hT : TabW w) :
    Calls Tryd.prog 13 #[.slice A gs.length c] w (ApartPost gs w) := by
  have hat := One.at_ h
  have HT := hide hT
  have HG := hide hg
  clear h hT hg
  refine (callsIn_wide (n := 5)).1 ?_
  refine callsIn_of_wp_marks Tryd.func13 rfl trivial ?_ rfl
  simp only [Tryd.ntmps13, List.size_toArray, List.length_cons, List.length_nil, Nat.reduceAdd, Nat.reduceSub, Array.replicate_succ, Array.replicate_zero, List.push_toArray, List.append_toArray, List.nil_append, List.cons_append]
  gi_wp2_with fail
  have HST : Hid (ApI w (fun j => (cntAt (gs.take 0) j : Nat)) [] ((w.alloc (.cells #[.int .i64 0, .int .i64 0, .int .i64 0, .int .i64 0, .int .i64 0, .int .i64 0, .int .i64 0, .int .i64 0, .int .i64 0, .int .i64 0, .int .i64 0, .int .i64 0, .int .i64 0, .int .i64 0, .int .i64 0, .int .i64 0, .int .i64 0, .int .i64 0, .int .i64 0, .int .i64 0, .int .i64 0, .int .i64 0, .int .i64 0, .int .i64 0, .int .i64 0, .int .i64 0, .int .i64 0, .int .i64 0, .int .i64 0, .int .i64 0, .int .i64 0, .int .i64 0] 80)).alloc (.cells #[.int .u32 0] 25))) := hide (by
    have hb : Below w.heap.size w ((w.alloc (.cells #[.int .i64 0, .int .i64 0, .int .i64 0, .int .i64 0, .int .i64 0, .int .i64 0, .int .i64 0, .int .i64 0, .int .i64 0, .int .i64 0, .int .i64 0, .int .i64 0, .int .i64 0, .int .i64 0, .int .i64 0, .int .i64 0, .int .i64 0, .int .i64 0, .int .i64 0, .int .i64 0, .int .i64 0, .int .i64 0, .int .i64 0, .int .i64 0, .int .i64 0, .int .i64 0, .int .i64 0, .int .i64 0, .int .i64 0, .int .i64 0, .int .i64 0, .int .i64 0] 80)).alloc (.cells #[.int .u32 0] 25)) := ((Below.refl _ _).alloc (Nat.le_refl _) _).alloc (by simp) _
    have h1 : ∀ o1 o2, ((w.alloc o1).alloc o2).heap[w.heap.size]? = some o1 ∧ ((w.alloc o1).alloc o2).heap[w.heap.size + 1]? = some o2 := fun o1 o2 => ⟨by
      rw [Below.heap_alloc _ _ _ (by simp)]; exact heap_alloc_new w _, by
      have := heap_alloc_new (w.alloc o1) o2
      simpa using this⟩
    exact ⟨hb, (h1 _ _).1, ⟨by rw [show (setC fun j => (cntAt (gs.take 0) j : Nat)) = 0 from setC_zero]; exact cell_of_row _ _ 0 _ _ (0, 0) (h1 _ _).2, frozen_of_row _ _ _ _ _ (h1 _ _).2⟩, HT.out.below hb, MarkOk.nil _ _⟩)
  generalize ((w.alloc (.cells #[.int .i64 0, .int .i64 0, .int .i64 0, .int .i64 0, .int .i64 0, .int .i64 0, .int .i64 0, .int .i64 0, .int .i64 0, .int .i64 0, .int .i64 0, .int .i64 0, .int .i64 0, .int .i64 0, .int .i64 0, .int .i64 0, .int .i64 0, .int .i64 0, .int .i64 0, .int .i64 0, .int .i64 0, .int .i64 0, .int .i64 0, .int .i64 0, .int .i64 0, .int .i64 0, .int .i64 0, .int .i64 0, .int .i64 0, .int .i64 0, .int .i64 0, .int .i64 0] 80)).alloc (.cells #[.int .u32 0] 25)) = w1 at *
  refine wpIn_loop (fun a' wr => ∃ (i : Nat) (u7 u14 u15 u16 u17 u18 u29 : Value) (Ds : List Nat), a' = { tmps := #[.slice A gs.length c, undef, .int .u32 0, .bool false, .pointer (some ⟨w.heap.size, 0, none⟩), .pointer (some ⟨w.heap.size + 1, 0, none⟩), undef, u7, undef, undef, undef, .slice A gs.length c, .int .i64 gs.length, .int .i64 i, u14, u15, u16, u17, u18, undef, undef, undef, undef, undef, undef, undef, undef, undef, undef, u29, undef, undef, undef, undef, undef, undef, undef, undef], defers := marksOf Ds } ∧ i ≤ gs.length ∧ ApI w (fun j => (cntAt (gs.take i) j : Nat)) Ds wr) (fun a' _ => gs.length - (intOf (a'.tmps.getD 13 undef)).toNat) ⟨0, undef, undef, undef, undef, undef, undef, undef, [], rfl, Nat.zero_le _, HST.out⟩ ?_
  rintro a' wr ⟨i, u7, u14, u15, u16, u17, u18, u29, Ds, rfl, hi, hI⟩
  have HI := hide hI
  clear hI
  by_cases hlt : i < gs.length
  · obtain ⟨bb, bo, rfl, hbB, hc⟩ := hat (by omega)
    obtain ⟨g, hgx⟩ : ∃ g, gs[i]? = some g := ⟨gs[i], List.getElem?_eq_getElem hlt⟩
    have d0 : wr.cell? ⟨bb, bo + i, none⟩ = some (.int .u32 (g : Int)) := (HI.out.bel.cell (p := ⟨bb, bo + i, none⟩) hbB).trans (hc i g hgx)
    have hg32 : g < 4294967296 := HG.out g (List.mem_of_getElem? hgx)
    have HTK : Hid (gs.take (i + 1) = gs.take i ++ [g]) := hide (by rw [List.take_add_one, hgx]; rfl)
    have hil : (i : Int) < (gs.length : Int) := by omega
    clear hc hgx
    gi_wp2_with (refine ⟨trivial, ?_⟩; gi_at_call 29; refine (callsIn_wide.2 (each_any g wr)).mono ?_; rintro e _ ⟨rfl, rfl⟩)
    have HBQ : Hid (Below wr.heap.size wr (wr.alloc (.cells #[.int .u32 (g : Int)] 25))) := hide ((Below.refl _ _).alloc (Nat.le_refl _) _)
    have HIQ := hide (HI.out.below HBQ.out)
    have hbq : (wr.alloc (.cells #[.int .u32 (g : Int)] 25)).heap[wr.heap.size]? = some (.cells #[.int .u32 (g : Int)] 25 (0, 0)) := heap_alloc_new wr _
    have hszw := HI.out.bel.size
    have hDs : ∀ D ∈ Ds, D < wr.heap.size := fun D hm => lt_of_block (HI.out.mark.blk D hm).2
    have HDS := hide hDs
    have hszq : (wr.alloc (.cells #[.int .u32 (g : Int)] 25)).heap.size = wr.heap.size + 1 := by simp
    generalize wr.alloc (.cells #[.int .u32 (g : Int)] 25) = wq at *
    refine wpIn_rangeFunc_ownF (α := Fin 32) (encs := encE) (Kp := KT) rfl (by omega) (gf := 49) (lb := #[.pointer (some ⟨wr.heap.size, 0, none⟩)]) rfl trivial (enters_of Tryd.func49 (by kernel_rfl) rfl)
      (each_stops (k := 2) wr.heap.size g hg32 wq hbq HIQ.out.tab) (fun h k => KT.t h k) (fun W l o o' _ h hc _ => KT.b W l o o' h hc) (Below.refl _ _) (fun _ => rfl)
      (fun pre W => ApI w (fun j => (cntAt (gs.take i) j : Nat) + (pre.countP (fun y => decide (y.val = j)) : Nat)) Ds W) (fun _ _ _ => False)
      (fun s W W' row hs hg hr => hs.own (by omega) (fun D hm => by have := HDS.out D hm; omega) hg hr) (fun _ _ _ _ _ hs _ _ => hs)
      (HIQ.out.same (fun j _ => by simp)) (fun x => { tmps := #[.slice (some ⟨bb, bo, none⟩) gs.length c, undef, .int .u32 0, .bool false, .pointer (some ⟨w.heap.size, 0, none⟩), .pointer (some ⟨w.heap.size + 1, 0, none⟩), undef, .int .u32 (g : Int), .int .i64 (x.val : Int), undef, undef, .slice (some ⟨bb, bo, none⟩) gs.length c, .int .i64 gs.length, .int .i64 i, .bool true, .pointer (some ⟨bb, bo + i, none⟩), .int .u32 (g : Int), .int .u32 (g : Int), .func (.func 49) #[] #[.pointer (some ⟨wr.heap.size, 0, none⟩)], .int .i64 (x.val : Int), undef, undef, undef, undef, undef, undef, undef, undef, undef, u29, undef, undef, undef, undef, undef, undef, undef, undef], defers := [] }) ?assign ?body ?done ?stop
    case assign =>
      intro l x W K hK
      simp only [encE]
      gi_wp2
      exact hK
    case body =>
      rintro l pre x W hI3 hpl
      have HI3 := hide hI3
      obtain ⟨v, hv⟩ : ∃ v : Int, v = (cntAt (gs.take i) x.val : Nat) + (pre.countP (fun y => decide (y.val = x.val)) : Nat) := ⟨_, rfl⟩
      have k1 : W.cell? ⟨w.heap.size, x.val, none⟩ = some (.int .i64 v) := by rw [cell_of_row _ _ _ _ _ _ hI3.blk, rowC_at _ x.2, hv]
      have k2 : W.frozen? ⟨w.heap.size, x.val, none⟩ = false := frozen_of_row _ _ _ _ _ hI3.blk
      obtain ⟨s1, s2⟩ := hI3.sum
      obtain ⟨sc, hsc⟩ : ∃ sc, (setC fun j => (cntAt (gs.take i) j : Nat) + (pre.countP (fun y => decide (y.val = j)) : Nat)) = sc := ⟨_, rfl⟩
      have hsl : sc < 4294967296 := by rw [← hsc]; exact setC_lt _
      rw [hsc] at s1
      have HSC := hide hsc
      obtain ⟨q2, hq2⟩ : ∃ q2 : Nat, 2 ^ x.val = q2 := ⟨_, rfl⟩
      have hq3 : q2 < 4294967296 := by
        have h : 2 ^ x.val < 2 ^ 32 := Nat.pow_lt_pow_right (by omega) x.2
        rw [← hq2]
        exact h
      have hq4 : ((2 : Int) ^ x.val) = (q2 : Int) := by rw [← hq2]; push_cast; rfl
      have hsh : IntKind.u32.wrap ((2 : Int) ^ x.val) = (q2 : Int) := by rw [hq4]; exact Go.IntWalk.u32_in _ (by omega)
      have hor := u32_or_nat sc q2 hsl hq3
      have HQ := hide hq2
      clear hsc hsl hq2 hq3 hq4
      have hvb : 0 ≤ v ∧ v ≤ 140737488355400 := by
        have h1 : cntAt (gs.take i) x.val ≤ (gs.take i).length := List.length_filter_le _ _
        have h2 := List.countP_le_length (p := fun y : Fin 32 => decide (y.val = x.val)) (l := pre)
        rw [List.length_take] at h1
        omega
      have hw1 : IntKind.i64.wrap (v + 1) = v + 1 := Go.IntWalk.i64_in _ (by omega)
      have hx32 : (x.val : Int) < 32 := by have := x.2; omega
      have HV := hide hv
      have HVB := hide hvb
      have hmx : Tryd.prog.follows .mixedOrders = true := by kernel_rfl
      clear hI3 hv hvb
      gi_wp2
      gi_region_with_o (fail)
      all_goals gi_wp2
      all_goals
        have hbump := HI3.out.bump HT.out.lt x.val x.2 (v + 1) (by have := HVB.out; omega)
        rw [HSC.out, HQ.out] at hbump
        refine ⟨((KeepsOthers.setCell _ _ _).trans (KeepsOthers.setCell _ _ _)).trans (KeepsOthers.drew _), KT.two HT.out.lt _ _ _, hbump.same (fun j hj => ?_)⟩
        simp only [List.countP_append, List.countP_cons, List.countP_nil]
        by_cases hjx : j = x.val
        · rw [if_pos hjx, hjx, HV.out]
          simp
          omega
        · have hxj : ¬ x.val = j := fun e => hjx e.symm
          rw [if_neg hjx]
          simp [hxj]
    case done =>
      rintro D xs W hD rfl hI2 hK
      have HI2 := hide hI2
      have HK := hide hK
      clear hI2 hK
      gi_wp2
      refine ⟨⟨i + 1, _, _, _, _, _, _, _, D :: Ds, rfl, by omega, ?_⟩, by simp [intOf]; omega⟩
      have hm := HI2.out.mark
      have hsz : w.heap.size + 2 ≤ wr.heap.size := by
        exact World.block_lt_of_cell? wr _ HI.out.sum.1
      have hI4 := HI2.out.same (cnt' := fun j => (cntAt (gs.take (i + 1)) j : Nat)) (fun j hj => by
        show (cntAt (gs.take (i + 1)) j : Int) = _
        rw [HTK.out, cnt_snoc]
        have h1 := each_count 33 0 g hg32 (Nat.one_dvd _) rfl ⟨j, hj⟩
        have h2 : (eachF 33 g).countP (fun y => decide (y.val = j)) = (eachF 33 g).count ⟨j, hj⟩ := by
          unfold List.count
          apply List.countP_congr
          intro y _
          simp [Fin.ext_iff]
        rw [h2, h1]
        simp only
        split <;> simp)
      exact ⟨hI4.bel, hI4.blk, hI4.sum, hI4.tab, hm.cons (by omega) HK.out (fun h => by have := HDS.out D h; omega)⟩
    case stop =>
      rintro D c pre W _ _ h _
      exact h.elim
  · obtain rfl : i = gs.length := by omega
    obtain ⟨cf, hcf⟩ : ∃ cf : Nat → Int, ∀ j, cf j = (cntAt gs j : Nat) := ⟨_, fun _ => rfl⟩
    have HIE : Hid (ApI w cf Ds wr) := hide (HI.out.same (fun j _ => by rw [hcf, List.take_of_length_le (Nat.le_refl _)]))
    have HCF := hide hcf
    obtain ⟨hs1, hs2⟩ := HIE.out.sum
    have HSU : Hid (setC cf = setC fun j => (cntAt gs j : Nat)) := hide (by congr 1; funext j; exact hcf j)
    rw [HSU.out] at hs1
    obtain ⟨us, hus⟩ : ∃ us, (setC fun j => (cntAt gs j : Nat)) = us := ⟨_, rfl⟩
    rw [hus] at hs1
    have HUS := hide hus
    clear hus
    clear HI hcf
    have hblk := HIE.out.blk
    gi_wp2_with (refine wpListIn_load_row rfl rfl 80 (.tmp 4) rfl w.heap.size rfl 80 (rowC cf) (0, 0) _ hblk Tryd.underlying80 rfl (by kernel_rfl) ?_)
    gi_loopw [31] (fun iv wl => ∃ j : Nat, j ≤ 32 ∧ iv = .int .i64 j ∧ (∀ t, t < j → cf t ≤ 1) ∧ wr = wl) (fun iv _ => 32 - (intOf iv).toNat)
    case atStart => exact ⟨0, by omega, rfl, fun t ht => absurd ht (by omega), by trivial⟩
    case round =>
      obtain ⟨j, hj, rfl, hall, rfl⟩ := hrel
      have HALL := hide hall
      clear hall
      by_cases hjl : j < 32
      · have hidx := rowC_at cf hjl
        have hji : (j : Int) < 32 := by omega
        have hix := fun W => index_row cf W hjl
        by_cases hc1 : 1 < cf j
        · have HAP : Hid (apartB gs = false) := hide (by
            unfold apartB
            rw [List.all_eq_false]
            have := HCF.out j
            exact ⟨j, List.mem_range.2 hjl, by simp; omega⟩)
          gi_wp2
          refine leaves_marks Ds wr HIE.out.mark (fun w' hw' => ⟨.tuple #[.int .u32 0, .bool false], by simp [results, Tryd.results13, go_sem], by rw [HAP.out]; rfl, HIE.out.bel.trans (hw'.mono (by omega))⟩)
        · have hc2 : cf j ≤ 1 := by omega
          gi_wp2
          go_roundw
          case rel =>
            refine ⟨j + 1, by omega, by go_num, fun t ht => ?_, by trivial⟩
            rcases Nat.lt_or_ge t j with h | h
            · exact HALL.out t h
            · obtain rfl : t = j := by omega
              exact hc2
          case measure => simp [intOf]; omega
      · obtain rfl : j = 32 := by omega
        have HAP : Hid (apartB gs = true) := hide (by
          unfold apartB
          rw [List.all_eq_true]
          intro t ht
          have h1 := HALL.out t (List.mem_range.1 ht)
          have h2 := HCF.out t
          simp
          omega)
        gi_wp2
        refine leaves_marks Ds wr HIE.out.mark (fun w' hw' => ⟨.tuple #[.int .u32 us, .bool true], by simp [results, Tryd.results13, go_sem], by rw [HAP.out, if_pos rfl, HUS.out], HIE.out.bel.trans (hw'.mono (by omega))⟩)
end Go.Proofs.YtffpiaipdeebcaaDoor
