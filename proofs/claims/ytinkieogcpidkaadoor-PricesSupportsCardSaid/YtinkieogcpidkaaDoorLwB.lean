/- The walk of the law PricesBounds. -/
import Derived.Test.YtinkieogcpidkaaDoorSta
import Derived.Test.YtinkieogcpidkaaDoorGrt
namespace Go.Proofs.YtinkieogcpidkaaDoor
open Go.RowKit Go.Maps Go.Shelf
open Go.ChangeMaps Go.WideMaps

theorem OwnM.base {w : World} {B B' : Nat} {A : Option Addr} {c : Nat} {hs : List Hdr} {ls : List (List Offer)} (h : OwnM w B A c hs ls) (hB : B' ≤ B) : OwnM w B' A c hs ls :=
  ⟨h.len, own_base h.hdr hB, fun i a l ha hl => own_base (h.row i a l ha hl) hB⟩
/-- What the laws hold: their boxes, the instance given, the numbers lent. -/
structure LwS (w w0 : World) (n : Int) (ls : List (List Offer)) (q : Nat) (A2 : Option Addr) (c2 : Nat) (hs2 : List Hdr) (gm cm : Nat) (p : List Int) (W : World) : Prop where
  bel : Below w.heap.size w W
  keep : Below w0.heap.size w0 W
  y : W.heap[q]? = some (.cells #[.int .i64 n, .slice A2 ls.length c2] 24 (0, 0))
  own : OwnM W w.heap.size A2 c2 hs2 ls
  m : W.ownsRow w.heap.size 2 1 (.slice (some ⟨gm, 0, none⟩) (p.length + 1) cm) (p.length + 1) ((p ++ [4242]).map intV)
section
variable {w w0 W W' : World} {n : Int} {A A2 : Option Addr} {c c2 : Nat} {ls : List (List Offer)} {hs2 : List Hdr} {q gm cm : Nat} {p : List Int}
theorem LwS.below (h : LwS w w0 n ls q A2 c2 hs2 gm cm p W) (hb : Below W.heap.size W W') : LwS w w0 n ls q A2 c2 hs2 gm cm p W' :=
  ⟨h.bel.trans (hb.mono h.bel.size), h.keep.trans (hb.mono h.keep.size), (hb.block _ (lt_of_block h.y)).trans h.y, h.own.below hb, own_below h.m hb (Nat.le_refl _)⟩
theorem LwS.ints (h : LwS w w0 n ls q A2 c2 hs2 gm cm p W) : One intV W W.heap.size (some ⟨gm, 0, none⟩) (p ++ [4242]) ∧ One intV W W.heap.size (some ⟨gm, 0, none⟩) p := by
  have h1 := Reads.of_own h.m
  have h2 := h1.front (k := p.length) (by omega)
  refine ⟨?_, ?_⟩
  · unfold One
    rw [List.length_append]
    exact h1
  · unfold One
    rw [Nat.mul_one, List.map_append, List.take_left' (by simp)] at h2
    exact h2
theorem LwS.cells (h : LwS w w0 n ls q A2 c2 hs2 gm cm p W) (hx : w0.heap[w.heap.size]? = some (.cells #[.int .i64 n, .slice A ls.length c] 24 (0, 0))) :
    W.cell? ⟨w.heap.size, 0, none⟩ = some (.int .i64 n) ∧ W.cell? ⟨w.heap.size, 1, none⟩ = some (.slice A ls.length c) ∧ W.cell? ⟨q, 0, none⟩ = some (.int .i64 n) ∧ W.cell? ⟨q, 1, none⟩ = some (.slice A2 ls.length c2) :=
  have h1 := (h.keep.block _ (lt_of_block hx)).trans hx
  ⟨cell_of_row W _ 0 _ _ (0, 0) h1, cell_of_row W _ 1 _ _ (0, 0) h1, cell_of_row W _ 0 _ _ (0, 0) h.y, cell_of_row W _ 1 _ _ (0, 0) h.y⟩
theorem LwS.part (h : LwS w w0 n ls q A2 c2 hs2 gm cm p W) {b : Nat} {k : Int} {free : Nat} (hx : w0.heap[b]? = some (.cells #[.int .i64 k, .int .u32 (free : Int)] 28 (0, 0))) :
    W.cell? ⟨b, 0, none⟩ = some (.int .i64 k) ∧ W.cell? ⟨b, 1, none⟩ = some (.int .u32 (free : Int)) :=
  have h1 := (h.keep.block _ (lt_of_block hx)).trans hx
  ⟨cell_of_row W _ 0 _ _ (0, 0) h1, cell_of_row W _ 1 _ _ (0, 0) h1⟩
end

set_option maxRecDepth 100000 in
set_option maxHeartbeats 16000000 in
theorem boundsLaw_any (n : Int) (A : Option Addr) (c : Nat) (hs : List Hdr) (ls : List (List Offer)) (k : Int) (free : Nat) (hf : free < 4294967296) (P : Option Addr) (pc : Nat) (l : List Int) (w : World) (hT : TabW w)
    (hB : Buys w w.heap.size A hs ls) (hlm : (ls.length : Int) ≤ 9223372036854775807) (hw : BWide ls) (hl : One intV w w.heap.size P l) :
    Calls Tryd.prog 3 #[instV n A ls.length c, .agg #[.int .i64 k, .int .u32 (free : Int)], .slice P l.length pc] w (ValPost (.bool true) w) := by
  have HT := hide hT
  have HBY := hide hB
  have HL := hide hl
  have HW := hide hw
  have HWK := hide (fun W (hb : Below w.heap.size w W) => works_any W (hT.below hb))
  have HGR := hide (fun W (hb : Below w.heap.size w W) => great_any n A c hs ls W (hB.up hb) hlm)
  have HB0 : Hid (Below w.heap.size w ((w.alloc (.cells #[.int .i64 n, .slice A ls.length c] 24)).alloc (.cells #[.int .i64 k, .int .u32 (free : Int)] 28))) := hide (((Below.refl _ _).alloc (Nat.le_refl _) _).alloc (by simp) _)
  have HX0 : Hid (((w.alloc (.cells #[.int .i64 n, .slice A ls.length c] 24)).alloc (.cells #[.int .i64 k, .int .u32 (free : Int)] 28)).heap[w.heap.size]? = some (.cells #[.int .i64 n, .slice A ls.length c] 24 (0, 0))) := hide (by rw [Below.heap_alloc _ _ _ (by simp)]; exact heap_alloc_new w _)
  have HP0 : Hid (((w.alloc (.cells #[.int .i64 n, .slice A ls.length c] 24)).alloc (.cells #[.int .i64 k, .int .u32 (free : Int)] 28)).heap[w.heap.size + 1]? = some (.cells #[.int .i64 k, .int .u32 (free : Int)] 28 (0, 0))) := hide (by
    have := heap_alloc_new (w.alloc (.cells #[.int .i64 n, .slice A ls.length c] 24)) (.cells #[.int .i64 k, .int .u32 (free : Int)] 28)
    simpa using this)
  clear hT hB hl hw
  simp only [instV] at *
  go_enter Tryd.func3, Tryd.ntmps3
  go_upto_region 1 with fail
  generalize (w.alloc (.cells #[.int .i64 n, .slice A ls.length c] 24)).alloc (.cells #[.int .i64 k, .int .u32 (free : Int)] 28) = w0 at *
  have HB := hide HB0.out
  have HK0 : Hid (Below w0.heap.size w0 w0) := hide (Below.refl _ _)
  have x0 := cell_of_row _ _ 0 _ _ (0, 0) HX0.out
  have x1 := cell_of_row _ _ 1 _ _ (0, 0) HX0.out
  simp only [List.getElem?_toArray, List.getElem?_cons_zero, List.getElem?_cons_succ] at x0 x1
  have HG := hide (HGR.out w0 HB.out)
  cases hgr : greatB ls
  case true =>
    rw [hgr] at HG
    clear hgr
    go_wp2_with (first | (go_at_call 7; refine (HG.out).mono ?_; rintro e w1 ⟨rfl, hb1⟩; have HB := hide (HB.out.trans (hb1.mono HB.out.size)); clear hb1) | (go_at_call 8; refine (HWK.out _ HB.out).mono ?_; rintro e wz ⟨rfl, hbz⟩; have HBZ := hide (HB.out.trans (hbz.mono HB.out.size)); clear hbz))
    go_ret
    exact ⟨rfl, HBZ.out⟩
  rw [hgr] at HG
  have HNO := hide (great_no hgr)
  clear hgr
  by_cases h2 : 100 < l.length
  · have h2i : (100 : Int) < (l.length : Int) := by omega
    go_wp2_with (first | (go_at_call 7; refine (HG.out).mono ?_; rintro e w1 ⟨rfl, hb1⟩; have HB := hide (HB.out.trans (hb1.mono HB.out.size)); clear hb1) | (go_at_call 8; refine (HWK.out _ HB.out).mono ?_; rintro e wz ⟨rfl, hbz⟩; have HBZ := hide (HB.out.trans (hbz.mono HB.out.size)); clear hbz))
    go_ret
    exact ⟨rfl, HBZ.out⟩
  have h2i : ¬ ((100 : Int) < (l.length : Int)) := by omega
  have hl60 : ls.length ≤ 60 := HNO.out.1
  have hl6 : ls.length ≤ 1000000 := by omega
  have hp6 : l.length ≤ 1000000 := by omega
  have HBL : Hid (BLens ls) := hide (fun l hl => by have := HNO.out.2 l hl; omega)
  have HGV := hide (fun W (hb : Below w.heap.size w W) => given_any n A c hs ls W (HBY.out.up hb) hl60 HNO.out.2)
  have HLE := hide (fun W (hb : Below w.heap.size w W) => lent_any P pc l W (HL.out.up hb) hp6)
  unfold GivenPost at HGV
  unfold LentP at HLE
  simp only [instV] at HGV
  go_upto_region 3 with (go_at_call 7; refine (HG.out).mono ?_; rintro e w1 ⟨rfl, hb1⟩; have HB := hide (HB.out.trans (hb1.mono HB.out.size)); have HK0 := hide hb1; clear hb1)
  clear x0 x1
  have x0 := cell_of_row _ _ 0 _ _ (0, 0) ((HK0.out.block _ (lt_of_block HX0.out)).trans HX0.out)
  have x1 := cell_of_row _ _ 1 _ _ (0, 0) ((HK0.out.block _ (lt_of_block HX0.out)).trans HX0.out)
  simp only [List.getElem?_toArray, List.getElem?_cons_zero, List.getElem?_cons_succ] at x0 x1
  go_upto_region 4 with (first
    | (go_at_call 9; refine (HGV.out _ HB.out).mono ?_; rintro e w2 ⟨A2, c2, hs2, rfl, hown, hb2⟩; have HO2 := hide (hown.base HB.out.size); have HB := hide (HB.out.trans (hb2.mono HB.out.size)); have HK0 := hide (HK0.out.trans (hb2.mono HK0.out.size)); clear hown hb2)
    | (go_at_call 10; refine (HLE.out _ HB.out).mono ?_; rintro e w3 ⟨gm, cm, rfl, hown, hb3, hcm⟩; have HM3 := hide (own_base hown HB.out.size); have HO3 := hide (HO2.out.below hb3); have HB := hide (HB.out.trans (hb3.mono HB.out.size)); have HK0 := hide (HK0.out.trans (hb3.mono HK0.out.size)); have HCM := hide hcm; clear hown hb3 hcm))
  have HS : Hid (LwS w w0 n ls w3.heap.size A2 c2 hs2 gm cm l (w3.alloc (.cells #[.int .i64 n, .slice A2 ls.length c2] 24))) := hide (by
    have hb := (Below.refl w3.heap.size w3).alloc (Nat.le_refl _) (.cells #[.int .i64 n, .slice A2 ls.length c2] 24)
    exact ⟨HB.out.trans (hb.mono HB.out.size), HK0.out.trans (hb.mono HK0.out.size), heap_alloc_new w3 _, HO3.out.below hb, own_below HM3.out hb (Nat.le_refl _)⟩)
  obtain ⟨q, hq⟩ : ∃ q, q = w3.heap.size := ⟨_, rfl⟩
  rw [← hq] at HS ⊢
  generalize w3.alloc (.cells #[.int .i64 n, .slice A2 ls.length c2] 24) = w4 at *
  clear hq x0 x1 HB HK0 HO2 HO3 HM3 HG HGV HLE HGR
  obtain ⟨⟨bv, be⟩, hbb⟩ : ∃ r, boundE n ls l = r := ⟨_, rfl⟩
  obtain ⟨⟨rv, re⟩, hrr⟩ : ∃ r, restE n ls k free l = r := ⟨_, rfl⟩
  have HF1 := hide (fun W (h : LwS w w0 n ls q A2 c2 hs2 gm cm l W) => boundP_any n A2 c2 hs2 ls (some ⟨gm, 0, none⟩) cm l W (HT.out.below h.bel) h.own.buys h.own.cap hl6 HBL.out HW.out h.ints.2 hp6 (fun e => by cases e))
  have HF2 := hide (fun W (h : LwS w w0 n ls q A2 c2 hs2 gm cm l W) => refBound_any n A c hs ls P pc l W (HBY.out.up h.bel) hl6 HBL.out HW.out (HL.out.up h.bel) hp6)
  have HF3 := hide (fun W (h : LwS w w0 n ls q A2 c2 hs2 gm cm l W) => restP_any n A2 c2 hs2 ls k free hf (some ⟨gm, 0, none⟩) cm l W (HT.out.below h.bel) h.own.buys h.own.cap hl6 HBL.out HW.out h.ints.2 hp6 (fun e => by cases e))
  have HF4 := hide (fun W (h : LwS w w0 n ls q A2 c2 hs2 gm cm l W) => refRest_any n A c hs ls k free hf P pc l W (HBY.out.up h.bel) hl6 HBL.out HW.out (HL.out.up h.bel) hp6)
  unfold RestPost at HF3 HF4
  rw [hbb] at HF1 HF2
  rw [hrr] at HF3 HF4
  have HSY := hide (fun W (h : LwS w w0 n ls q A2 c2 hs2 gm cm l W) => stays_any n w.heap.size A2 c2 hs2 A c hs ls W h.own (HBY.out.up h.bel) hl60 HNO.out.2)
  have HKP := hide (fun W (h : LwS w w0 n ls q A2 c2 hs2 gm cm l W) => kept_any gm cm P pc l W h.ints.1 (HL.out.up h.bel) HCM.out hp6)
  have HNM := hide (fun n W => num_any n W)
  simp only [instV] at HF1 HF2 HF3 HF4 HSY
  clear hbb hrr
  obtain ⟨x0, x1, y0, y1⟩ := HS.out.cells HX0.out
  obtain ⟨p0, p1⟩ := HS.out.part HP0.out
  go_upto_region 5 with (go_at_call 11; refine (HF1.out _ HS.out).mono ?_; rintro e wn ⟨rfl, hb⟩; have HS := hide (HS.out.below hb); clear hb; clear x0 x1 y0 y1; obtain ⟨x0, x1, y0, y1⟩ := HS.out.cells HX0.out; clear p0 p1; obtain ⟨p0, p1⟩ := HS.out.part HP0.out)
  go_upto_region 6 with (go_at_call 12; refine (HF2.out _ HS.out).mono ?_; rintro e wn ⟨rfl, hb⟩; have HS := hide (HS.out.below hb); clear hb; clear x0 x1 y0 y1; obtain ⟨x0, x1, y0, y1⟩ := HS.out.cells HX0.out; clear p0 p1; obtain ⟨p0, p1⟩ := HS.out.part HP0.out)
  go_upto_region 7 with (go_at_call 13; refine (HF3.out _ HS.out).mono ?_; rintro e wn ⟨rfl, hb⟩; have HS := hide (HS.out.below hb); clear hb; clear x0 x1 y0 y1; obtain ⟨x0, x1, y0, y1⟩ := HS.out.cells HX0.out; clear p0 p1; obtain ⟨p0, p1⟩ := HS.out.part HP0.out)
  go_upto_region 8 with (go_at_call 14; refine (HF4.out _ HS.out).mono ?_; rintro e wn ⟨rfl, hb⟩; have HS := hide (HS.out.below hb); clear hb; clear x0 x1 y0 y1; obtain ⟨x0, x1, y0, y1⟩ := HS.out.cells HX0.out)
  go_wp2_with (first
    | (go_at_call 15; refine (HNM.out _ _).mono ?_; rintro e wn ⟨rfl, hb⟩; have HS := hide (HS.out.below hb); clear hb; clear x0 x1 y0 y1; obtain ⟨x0, x1, y0, y1⟩ := HS.out.cells HX0.out)
    | (go_at_call 16; refine (HSY.out _ HS.out).mono ?_; rintro e wn ⟨rfl, hb⟩; have HS := hide (HS.out.below hb); clear hb; clear x0 x1 y0 y1; obtain ⟨x0, x1, y0, y1⟩ := HS.out.cells HX0.out)
    | (go_at_call 17; refine (HKP.out _ HS.out).mono ?_; rintro e wn ⟨rfl, hb⟩; have HS := hide (HS.out.below hb); clear hb; clear x0 x1 y0 y1; obtain ⟨x0, x1, y0, y1⟩ := HS.out.cells HX0.out)
    | (go_at_call 8; refine (HWK.out _ HS.out.bel).mono ?_; rintro e wn ⟨rfl, hb⟩; have HS := hide (HS.out.below hb); clear hb))
  go_ret
  exact ⟨rfl, HS.out.bel⟩
end Go.Proofs.YtinkieogcpidkaaDoor
