/- The descent: plain; and the walk of one try. -/
import Derived.Test.YtinkieogcpidkaaDoorPriF4
import Derived.Test.YtinkieogcpidkaaDoorTurns
namespace Go.Proofs.YtinkieogcpidkaaDoor
open Go.RowKit Go.Maps Go.Shelf
open Go.ChangeMaps Go.WideMaps

abbrev maxC : Int := 1099511627776
/-- One try: a good dearer by so much. -/
def tryD (ls : List (List Offer)) (al g : Nat) (d : Int) (p : List Int) (now : Int) : Bool × List Int × Int :=
  if decide (0 ≤ IntKind.i64.wrap (cntP p g + d)) && decide (IntKind.i64.wrap (cntP p g + d) ≤ maxC) then
    if restC (cntP (p.set g (IntKind.i64.wrap (cntP p g + d)))) al ls 0 < now then (true, p.set g (IntKind.i64.wrap (cntP p g + d)), restC (cntP (p.set g (IntKind.i64.wrap (cntP p g + d)))) al ls 0)
    else (false, p, now)
  else (false, p, now)
theorem rowC_put {p : List Int} (hp : p.length = 32) (g : Nat) (v : Int) : (rowC (cntP p)).setIfInBounds g (.int .i64 v) = rowC (cntP (p.set g v)) := by
  rw [rowC_set]
  refine rowC_same (fun j hj => ?_)
  unfold cntP
  rw [List.getD_eq_getElem?_getD, List.getD_eq_getElem?_getD, List.getElem?_set]
  by_cases h : g = j
  · subst h
    simp [hp, hj]
  · rw [if_neg h]
    simp [Ne.symm h]
/-- What the descent stands on. -/
structure DsI (S bb xc ac nc : Nat) (n : Int) (A : Option Addr) (c : Nat) (hs : List Hdr) (ls : List (List Offer)) (al : Nat) (p : List Int) (now : Int) (W : World) : Prop where
  brd : W.heap[bb]? = some (.cells (rowC (cntP p)) 76 (0, 0))
  box : W.heap[xc]? = some (.cells #[.int .i64 n, .slice A ls.length c] 24 (0, 0))
  all : W.heap[ac]? = some (.cells #[.int .u32 (al : Int)] 26 (0, 0))
  now : W.heap[nc]? = some (.cells #[.int .i64 now] 2 (0, 0))
  tab : TabW W
  buys : Buys W S A hs ls
  len : p.length = 32
  lo : S ≤ xc ∧ xc < bb ∧ bb < ac ∧ ac < nc ∧ 0 < S
section
variable {S bb xc ac nc : Nat} {n : Int} {A : Option Addr} {c : Nat} {hs : List Hdr} {ls : List (List Offer)} {al : Nat} {p : List Int} {now : Int} {W W' : World}
theorem DsI.below (h : DsI S bb xc ac nc n A c hs ls al p now W) (hb : Below W.heap.size W W') : DsI S bb xc ac nc n A c hs ls al p now W' := by
  have h1 := lt_of_block h.now
  exact ⟨(hb.block _ (lt_of_block h.brd)).trans h.brd, (hb.block _ (lt_of_block h.box)).trans h.box, (hb.block _ (lt_of_block h.all)).trans h.all, (hb.block _ (lt_of_block h.now)).trans h.now, h.tab.below hb, h.buys.below (hb.mono (by have := h.lo; omega)), h.len, h.lo⟩
theorem DsI.put (h : DsI S bb xc ac nc n A c hs ls al p now W) (g : Nat) (v : Int) : DsI S bb xc ac nc n A c hs ls al (p.set g v) now (W.setCell ⟨bb, g, none⟩ (.int .i64 v)) := by
  have hl := h.lo
  refine ⟨?_, (Below.heap_setCell _ _ _ _ (by show xc ≠ bb; omega)).trans h.box, (Below.heap_setCell _ _ _ _ (by show ac ≠ bb; omega)).trans h.all, (Below.heap_setCell _ _ _ _ (by show nc ≠ bb; omega)).trans h.now, ?_, ?_, by rw [List.length_set, h.len], h.lo⟩
  · rw [setCell_block h.brd, rowC_put h.len]
  · exact h.tab.keep grown_setW (fun e => by have := Option.some.inj e; simp only at this; omega)
  · exact h.buys.below ((Below.refl _ _).setCell (by show S ≤ bb; omega) _)
theorem DsI.back (h : DsI S bb xc ac nc n A c hs ls al p now W) {q : List Int} (hq : q.length = 32) : DsI S bb xc ac nc n A c hs ls al q now (W.setRow bb (rowC (cntP q))) := by
  have hl := h.lo
  have hb : Below bb W (W.setRow bb (rowC (cntP q))) := below_setRow (Below.refl _ _) (Nat.le_refl _) _
  refine ⟨setRow_heap _ _ _ _ _ _ h.brd, (setRow_other _ _ _ _ (by omega)).trans h.box, (setRow_other _ _ _ _ (by omega)).trans h.all, (setRow_other _ _ _ _ (by omega)).trans h.now, ?_, h.buys.below (hb.mono (by omega)), hq, h.lo⟩
  exact h.tab.cells (fun a ha _ => hb.cell (by rw [ha]; omega))
theorem DsI.told (h : DsI S bb xc ac nc n A c hs ls al p now W) (now' : Int) : DsI S bb xc ac nc n A c hs ls al p now' (W.setCell ⟨nc, 0, none⟩ (.int .i64 now')) := by
  have hl := h.lo
  refine ⟨(Below.heap_setCell _ _ _ _ (by show bb ≠ nc; omega)).trans h.brd, (Below.heap_setCell _ _ _ _ (by show xc ≠ nc; omega)).trans h.box, (Below.heap_setCell _ _ _ _ (by show ac ≠ nc; omega)).trans h.all, setCell_block h.now 0 _, ?_, ?_, h.len, h.lo⟩
  · exact h.tab.keep grown_setW (fun e => by have := Option.some.inj e; simp only at this; omega)
  · exact h.buys.below ((Below.refl _ _).setCell (by show S ≤ nc; omega) _)
end

theorem turns_row (W : World) (bb : Nat) (r : Array Value) (nc : Nat) : Turns (fun k => k = bb ∨ k = nc) W (W.setRow bb r) :=
  ⟨rfl, rfl, rfl, by simp [World.setRow], fun k _ hn => setRow_other W bb k r (fun e => hn (.inl e))⟩
def TryPost (S bb xc ac nc : Nat) (n : Int) (A : Option Addr) (c : Nat) (hs : List Hdr) (ls : List (List Offer)) (al : Nat) (r : Bool × List Int × Int) (W : World) (e : Ending) (W' : World) : Prop :=
  e = .returned (.bool r.1) ∧ DsI S bb xc ac nc n A c hs ls al r.2.1 r.2.2 W' ∧ Turns (fun k => k = bb ∨ k = nc) W W'
set_option maxRecDepth 100000 in
set_option maxHeartbeats 4000000 in
theorem try_any (S bb xc ac nc : Nat) (n : Int) (A : Option Addr) (c : Nat) (hs : List Hdr) (ls : List (List Offer)) (al : Nat) (hal : al < 4294967296) (p : List Int) (now : Int) (g : Nat) (hg : g < 32) (d : Int) (w : World)
    (h : DsI S bb xc ac nc n A c hs ls al p now w) (hc : ls.length ≤ c) (hl : ls.length ≤ 1000000) (hls : BLens ls) (hw : BWide ls) :
    Calls Tryd.prog 54 #[.int .i64 g, .int .i64 d, .pointer (some ⟨bb, 0, none⟩), .pointer (some ⟨xc, 0, none⟩), .pointer (some ⟨ac, 0, none⟩), .pointer (some ⟨nc, 0, none⟩)] w (TryPost S bb xc ac nc n A c hs ls al (tryD ls al g d p now) w) := by
  have HI := hide h
  have HRS := hide (fun q W (hI : DsI S bb xc ac nc n A c hs ls al q now W) => rest_any bb (cntP q) n A c hs ls 0 (Nat.zero_le _) al hal W hI.brd hI.tab (hI.buys.more (by have h1 := lt_of_block hI.now; have h2 := hI.lo; omega)) hc hl hls hw)
  have hlen := h.len
  obtain ⟨v, hv⟩ : ∃ v, IntKind.i64.wrap (cntP p g + d) = v := ⟨_, rfl⟩
  obtain ⟨nx, hnx⟩ : ∃ nx, restC (cntP (p.set g v)) al ls 0 = nx := ⟨_, rfl⟩
  have HT1 : Hid (0 ≤ v → v ≤ maxC → nx < now → tryD ls al g d p now = (true, p.set g v, nx)) := hide (fun h1 h2 h3 => by
    unfold tryD
    rw [hv, hnx, decide_eq_true h1, decide_eq_true h2, if_pos (by rfl), if_pos h3])
  have HT2 : Hid (0 ≤ v → v ≤ maxC → ¬ nx < now → tryD ls al g d p now = (false, p, now)) := hide (fun h1 h2 h3 => by
    unfold tryD
    rw [hv, hnx, decide_eq_true h1, decide_eq_true h2, if_pos (by rfl), if_neg h3])
  have HT3 : Hid (¬ (0 ≤ v ∧ v ≤ maxC) → tryD ls al g d p now = (false, p, now)) := hide (fun h1 => by
    unfold tryD
    rw [hv, if_neg (by simpa using h1)])
  have HNX := hide hnx
  have HCG : Hid (w.cell? ⟨bb, g, none⟩ = some (.int .i64 (cntP p g))) := hide (index_board (cntP p) w bb hg h.brd)
  have hgi : (g : Int) < 32 := by omega
  obtain ⟨was, hwas⟩ : ∃ was, cntP p g = was := ⟨_, rfl⟩
  rw [hwas] at hv HCG
  clear h hls hw hnx
  go_enter Tryd.func54, Tryd.ntmps54
  simp only [instV] at *
  go_upto_region 2 with (first
    | (refine wpList_load_row rfl 76 (.tmp 2) rfl bb rfl 76 (rowC (cntP p)) (0, 0) _ HI.out.brd bUnd rfl (by rw [bInfo, rowC_size]) ?_)
    | (refine wpList_store_row rfl 76 (.tmp 9) (.tmp 11) rfl w.heap.size (rowC (cntP p)) rfl rfl 76 _ (heap_alloc_new w _) (by rw [bInfo, rowC_size]) (by rw [rowC_size]; rfl) (rowC_one _) ?_; rw [zeroC, board_alloc]))
  have HBA : Hid (Below w.heap.size w (w.alloc (.cells (rowC (cntP p)) 76))) := hide ((Below.refl _ _).alloc (Nat.le_refl _) _)
  have HWA : Hid ((w.alloc (.cells (rowC (cntP p)) 76)).heap[w.heap.size]? = some (.cells (rowC (cntP p)) 76 (0, 0))) := hide (heap_alloc_new w _)
  generalize w.alloc (.cells (rowC (cntP p)) 76) = w1 at *
  have HI1 := hide (HI.out.below HBA.out)
  have hcg := (HBA.out.cell (World.block_lt_of_cell? _ _ HCG.out)).trans HCG.out
  have hfz := frozen_of_row w1 bb g _ _ HI1.out.brd
  have hbb : Hid (bb < w.heap.size) := hide (lt_of_block HI.out.brd)
  have HI2 := hide (HI1.out.put g v)
  have HWA2 : Hid ((w1.setCell ⟨bb, g, none⟩ (.int .i64 v)).heap[w.heap.size]? = some (.cells (rowC (cntP p)) 76 (0, 0))) := hide ((Below.heap_setCell w1 _ _ _ (by have := hbb.out; show w.heap.size ≠ bb; omega)).trans HWA.out)
  have HTU2 : Hid (Turns (fun k => k = bb ∨ k = nc) w (w1.setCell ⟨bb, g, none⟩ (.int .i64 v))) := hide ((Turns.of_below HBA.out).trans ((Turns.of_set w1 ⟨bb, g, none⟩ (.int .i64 v)).mono (fun k _ e => .inl e)))
  go_upto_region 3 with fail
  clear hcg hfz
  generalize w1.setCell ⟨bb, g, none⟩ (.int .i64 v) = w2 at *
  have hcv : w2.cell? ⟨bb, g, none⟩ = some (.int .i64 v) := by
    have h1 := index_board (cntP (p.set g v)) w2 bb hg HI2.out.brd
    rw [h1]
    unfold cntP
    rw [List.getD_eq_getElem?_getD, List.getElem?_set]
    simp [hlen, hg]
  by_cases h1 : 0 ≤ v
  case neg =>
    have e1 : decide (0 ≤ v) = false := decide_eq_false h1
    have HE := hide (HT3.out (fun h => h1 h.1))
    clear hv hwas
    go_wp2_with (first
    | (refine wpList_load_row rfl 76 (.tmp 9) rfl w.heap.size rfl 76 (rowC (cntP p)) (0, 0) _ HWA2.out bUnd rfl (by rw [bInfo, rowC_size]) ?_)
    | (refine wpList_store_row rfl 76 (.tmp 2) (.tmp 35) rfl bb (rowC (cntP p)) rfl rfl 76 (rowC (cntP (p.set g v))) HI2.out.brd (by rw [bInfo, rowC_size]) (by rw [rowC_size, rowC_size]) (rowC_one _) ?_))
    go_ret
    refine ⟨by rw [HE.out]; rfl, by rw [HE.out]; exact HI2.out.back hlen, HTU2.out.trans (turns_row w2 bb _ nc)⟩
  have e1 : decide (0 ≤ v) = true := decide_eq_true h1
  by_cases h2 : v ≤ 1099511627776
  case neg =>
    have e2 : decide (v ≤ 1099511627776) = false := decide_eq_false h2
    have HE := hide (HT3.out (fun h => h2 h.2))
    clear hv hwas
    go_wp2_with (first
    | (refine wpList_load_row rfl 76 (.tmp 9) rfl w.heap.size rfl 76 (rowC (cntP p)) (0, 0) _ HWA2.out bUnd rfl (by rw [bInfo, rowC_size]) ?_)
    | (refine wpList_store_row rfl 76 (.tmp 2) (.tmp 35) rfl bb (rowC (cntP p)) rfl rfl 76 (rowC (cntP (p.set g v))) HI2.out.brd (by rw [bInfo, rowC_size]) (by rw [rowC_size, rowC_size]) (rowC_one _) ?_))
    go_ret
    refine ⟨by rw [HE.out]; rfl, by rw [HE.out]; exact HI2.out.back hlen, HTU2.out.trans (turns_row w2 bb _ nc)⟩
  have e2 : decide (v ≤ 1099511627776) = true := decide_eq_true h2
  have HR2 := hide (HRS.out (p.set g v) w2 HI2.out)
  rw [HNX.out] at HR2
  have b0 := cell_of_row _ _ 0 _ _ (0, 0) HI2.out.box
  have b1 := cell_of_row _ _ 1 _ _ (0, 0) HI2.out.box
  have a0 := cell_of_row _ _ 0 _ _ (0, 0) HI2.out.all
  simp only [List.getElem?_toArray, List.getElem?_cons_zero, List.getElem?_cons_succ] at b0 b1 a0
  clear hv hwas
  go_upto_region 5 with (go_at_call 38; refine (HR2.out).mono ?_; rintro e w3 ⟨rfl, hb3⟩; have HB3 := hide hb3; clear hb3)
  clear b0 b1 a0 hcv HR2
  have HI3 := hide (HI2.out.below HB3.out)
  have HWA3 := hide ((HB3.out.block _ (lt_of_block HWA2.out)).trans HWA2.out)
  have HTU3 := hide (HTU2.out.trans (Turns.of_below HB3.out))
  have n0 := cell_of_row _ _ 0 _ _ (0, 0) HI3.out.now
  have n1 := frozen_of_row _ nc 0 _ _ HI3.out.now
  simp only [List.getElem?_toArray, List.getElem?_cons_zero, List.getElem?_cons_succ] at n0
  by_cases h3 : nx < now
  case neg =>
    have e3 : decide (nx < now) = false := decide_eq_false h3
    have HE := hide (HT2.out h1 h2 (by omega))
    go_wp2_with (first
    | (refine wpList_load_row rfl 76 (.tmp 9) rfl w.heap.size rfl 76 (rowC (cntP p)) (0, 0) _ HWA3.out bUnd rfl (by rw [bInfo, rowC_size]) ?_)
    | (refine wpList_store_row rfl 76 (.tmp 2) (.tmp 35) rfl bb (rowC (cntP p)) rfl rfl 76 (rowC (cntP (p.set g v))) HI3.out.brd (by rw [bInfo, rowC_size]) (by rw [rowC_size, rowC_size]) (rowC_one _) ?_))
    go_ret
    refine ⟨by rw [HE.out]; rfl, by rw [HE.out]; exact HI3.out.back hlen, HTU3.out.trans (turns_row w3 bb _ nc)⟩
  have e3 : decide (nx < now) = true := decide_eq_true h3
  have HE := hide (HT1.out h1 h2 h3)
  have HI4 := hide (HI3.out.told nx)
  go_wp2_with fail
  go_ret
  exact ⟨by rw [HE.out]; rfl, by rw [HE.out]; exact HI4.out, HTU3.out.trans ((Turns.of_set w3 ⟨nc, 0, none⟩ (.int .i64 nx)).mono (fun k _ e => .inr e))⟩
end Go.Proofs.YtinkieogcpidkaaDoor
