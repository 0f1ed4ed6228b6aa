/- The walks of prices.Bound, Gain, Cost, Supports. -/
import Derived.Test.YtinkieogcpidkaaDoorPriR
namespace Go.Proofs.YtinkieogcpidkaaDoor
open Go.RowKit Go.Maps Go.Shelf
open Go.ChangeMaps Go.WideMaps

def boundE (n : Int) (ls : List (List Offer)) (p : List Int) : Int × Int := restE n ls 0 (allI n) p
def supE (n : Int) (ls : List (List Offer)) (zs : List Int) (p : List Int) : Bool × Int :=
  if (boundE n ls p).2 ≠ 0 then (false, (boundE n ls p).2) else (decide (choiceE n ls zs = 0 ∧ choiceC n ls zs = (boundE n ls p).1), choiceE n ls zs)

set_option maxRecDepth 100000 in
set_option maxHeartbeats 4000000 in
theorem boundP_any (n : Int) (A : Option Addr) (c : Nat) (hs : List Hdr) (ls : List (List Offer)) (P : Option Addr) (pc : Nat) (p : List Int) (w : World) (hT : TabW w)
    (hB : Buys w w.heap.size A hs ls) (hc : ls.length ≤ c) (hl : ls.length ≤ 1000000) (hls : BLens ls) (hw : BWide ls) (hp : One intV w w.heap.size P p) (hpl : p.length ≤ 1000000) (hpz : P = none → pc = 0) :
    Calls Tryd.prog 11 #[instV n A ls.length c, .slice P p.length pc] w (ValPost (.tuple #[.int .i64 (boundE n ls p).1, .int .i64 (boundE n ls p).2]) w) := by
  have HB0 : Hid (Below w.heap.size w (w.alloc (.cells #[.int .i64 n, .slice A ls.length c] 24))) := hide ((Below.refl _ _).alloc (Nat.le_refl _) _)
  have HX0 : Hid ((w.alloc (.cells #[.int .i64 n, .slice A ls.length c] 24)).heap[w.heap.size]? = some (.cells #[.int .i64 n, .slice A ls.length c] 24 (0, 0))) := hide (heap_alloc_new w _)
  have HRS := hide (fun W (hb : Below w.heap.size w W) => restP_any n A c hs ls 0 (allI n) (allI_lt n) P pc p W (hT.below hb) (hB.up hb) hc hl hls hw (hp.up hb) hpl hpz)
  unfold RestPost at HRS
  unfold boundE
  obtain ⟨⟨r1, r2⟩, hr⟩ : ∃ r, restE n ls 0 (allI n) p = r := ⟨_, rfl⟩
  rw [hr] at HRS
  rw [hr]
  have HALL := hide (fun W => all_any n W)
  unfold AllPost at HALL
  generalize allI n = al at *
  generalize allE n = ae at *
  clear hB hp hT hls hw hr
  simp only [instV] at *
  go_enter Tryd.func11, Tryd.ntmps11
  go_upto_region 1 with fail
  generalize w.alloc (.cells #[.int .i64 n, .slice A ls.length c] 24) = w0 at *
  have x0 := cell_of_row _ _ 0 _ _ (0, 0) HX0.out
  have x1 := cell_of_row _ _ 1 _ _ (0, 0) HX0.out
  simp only [List.getElem?_toArray, List.getElem?_cons_zero, List.getElem?_cons_succ] at x0 x1
  have HR0 := hide (HRS.out w0 HB0.out)
  go_wp2_with (first
    | (go_at_call 32; refine (HALL.out _).mono ?_; rintro e w2 ⟨rfl, rfl⟩)
    | (go_at_call 13; refine (HR0.out).mono ?_; rintro e w3 ⟨rfl, hb3⟩; have HB3 := hide (HB0.out.trans (hb3.mono HB0.out.size)); clear hb3))
  go_ret2
  exact ⟨rfl, HB3.out⟩

set_option maxRecDepth 100000 in
set_option maxHeartbeats 4000000 in
theorem gainP_any (A : Option Addr) (c : Nat) (l : List Offer) (P : Option Addr) (pc : Nat) (p : List Int) (free : Nat) (hf : free < 4294967296) (w : World) (hT : TabW w)
    (ho : Offs w w.heap.size A l) (hl : l.length ≤ 1000000) (hw : OWide l) (hp : One intV w w.heap.size P p) (hpl : p.length ≤ 1000000) (hpz : P = none → pc = 0) :
    Calls Tryd.prog 25 #[.slice A l.length c, .slice P p.length pc, .int .u32 (free : Int)] w (ValPost (.tuple #[.int .i64 (gainC (cntP p) free l).1, .int .i64 (gainC (cntP p) free l).2]) w) := by
  have HLD := hide (laid_any P pc p w hp hpl hpz)
  have HGN : Hid (∀ w2, Below w.heap.size w w2 → w2.heap[w2.heap.size - 1]? = some (.cells (rowC (cntP p)) 76 (0, 0)) → Calls Tryd.prog 45 #[.pointer (some ⟨w2.heap.size - 1, 0, none⟩), .slice A l.length c, .int .u32 (free : Int)] w2 (ValPost (.tuple #[.int .i64 (gainC (cntP p) free l).1, .int .i64 (gainC (cntP p) free l).2]) w2)) :=
    hide (fun w2 hb h2 => gain_any _ (cntP p) A c l free hf w2 h2 (hT.below hb) (ho.up hb) hl hw)
  obtain ⟨⟨r1, r2⟩, hr⟩ : ∃ r, gainC (cntP p) free l = r := ⟨_, rfl⟩
  rw [hr] at HGN
  rw [hr]
  clear hT ho hw hp hr
  go_enter Tryd.func25, Tryd.ntmps25
  go_wp2_with (first
    | (go_at_call 37; refine (HLD.out).mono ?_; rintro e w2 ⟨rfl, hb2⟩; have HB2 := hide hb2; clear hb2)
    | (refine wpList_store_row rfl 76 (.tmp 8) (.tmp 10) rfl w2.heap.size (rowC (cntP p)) rfl rfl 76 _ (heap_alloc_new w2 _) (by rw [bInfo, rowC_size]) (by rw [rowC_size]; rfl) (rowC_one _) ?_; rw [zeroC, board_alloc]
       have HBA : Hid (Below w2.heap.size w2 (w2.alloc (.cells (rowC (cntP p)) 76))) := hide ((Below.refl _ _).alloc (Nat.le_refl _) _)
       have HB3 := hide (HB2.out.trans (HBA.out.mono HB2.out.size))
       have HG3 := hide (HGN.out (w2.alloc (.cells (rowC (cntP p)) 76)) HB3.out (by
         have := heap_alloc_new w2 (.cells (rowC (cntP p)) 76)
         simpa using this))
       rw [show (w2.alloc (.cells (rowC (cntP p)) 76)).heap.size - 1 = w2.heap.size by simp] at HG3
       generalize w2.alloc (.cells (rowC (cntP p)) 76) = w3 at *)
    | (go_at_call 45; refine (HG3.out).mono ?_; rintro e w4 ⟨rfl, hb4⟩; have HB4 := hide (HB3.out.trans (hb4.mono HB3.out.size)); clear hb4))
  go_ret2
  exact ⟨rfl, HB4.out⟩

set_option maxRecDepth 100000 in
set_option maxHeartbeats 4000000 in
theorem costP_any (P : Option Addr) (pc : Nat) (p : List Int) (g : Nat) (hg : g < 4294967296) (w : World) (hT : TabW w) (hp : One intV w w.heap.size P p) (hpl : p.length ≤ 1000000) (hpz : P = none → pc = 0) :
    Calls Tryd.prog 27 #[.slice P p.length pc, .int .u32 (g : Int)] w (ValPost (.int .i64 (costC (cntP p) g)) w) := by
  have HLD := hide (laid_any P pc p w hp hpl hpz)
  have HGN : Hid (∀ w2, Below w.heap.size w w2 → w2.heap[w2.heap.size - 1]? = some (.cells (rowC (cntP p)) 76 (0, 0)) → Calls Tryd.prog 46 #[.pointer (some ⟨w2.heap.size - 1, 0, none⟩), .int .u32 (g : Int)] w2 (ValPost (.int .i64 (costC (cntP p) g)) w2)) :=
    hide (fun w2 hb h2 => cost_any _ (cntP p) g hg w2 h2 (hT.below hb))
  obtain ⟨r1, hr⟩ : ∃ r, costC (cntP p) g = r := ⟨_, rfl⟩
  rw [hr] at HGN
  rw [hr]
  clear hT hp hr
  go_enter Tryd.func27, Tryd.ntmps27
  go_wp2_with (first
    | (go_at_call 37; refine (HLD.out).mono ?_; rintro e w2 ⟨rfl, hb2⟩; have HB2 := hide hb2; clear hb2)
    | (refine wpList_store_row rfl 76 (.tmp 5) (.tmp 7) rfl w2.heap.size (rowC (cntP p)) rfl rfl 76 _ (heap_alloc_new w2 _) (by rw [bInfo, rowC_size]) (by rw [rowC_size]; rfl) (rowC_one _) ?_; rw [zeroC, board_alloc]
       have HBA : Hid (Below w2.heap.size w2 (w2.alloc (.cells (rowC (cntP p)) 76))) := hide ((Below.refl _ _).alloc (Nat.le_refl _) _)
       have HB3 := hide (HB2.out.trans (HBA.out.mono HB2.out.size))
       have HG3 := hide (HGN.out (w2.alloc (.cells (rowC (cntP p)) 76)) HB3.out (by
         have := heap_alloc_new w2 (.cells (rowC (cntP p)) 76)
         simpa using this))
       rw [show (w2.alloc (.cells (rowC (cntP p)) 76)).heap.size - 1 = w2.heap.size by simp] at HG3
       generalize w2.alloc (.cells (rowC (cntP p)) 76) = w3 at *)
    | (go_at_call 46; refine (HG3.out).mono ?_; rintro e w4 ⟨rfl, hb4⟩; have HB4 := hide (HB3.out.trans (hb4.mono HB3.out.size)); clear hb4))
  go_ret
  exact ⟨rfl, HB4.out⟩
end Go.Proofs.YtinkieogcpidkaaDoor
