/- The walk of the law PricesHold. -/
import Derived.Test.YtinkieogcpidkaaDoorHoldD
import Derived.Test.YtinkieogcpidkaaDoorGrt
import Derived.Test.YtinkieogcpidkaaDoorGreat
namespace Go.Proofs.YtinkieogcpidkaaDoor
open Go.RowKit Go.Maps Go.Shelf
open Go.ChangeMaps Go.WideMaps

theorem made_i64 (N : Nat) : madeCells #[.int .i64 0] N = ((List.replicate N (0 : Int)).map intV).toArray := by
  unfold madeCells
  apply Array.ext_getElem?
  intro i
  simp only [List.getElem?_toArray, List.getElem?_map, Array.getElem?_map, Array.getElem?_range]
  by_cases h : i < N
  · simp [h, List.getElem?_replicate, Nat.mod_one]
  · simp [h, List.getElem?_replicate]
theorem rep_i64 (N : Nat) : ((List.replicate N (0 : Int)).map intV).toArray = Array.replicate N (.int .i64 0) := by simp
theorem make_i64 (N : Nat) (hN : N ≤ 1000000) (W : World) : (Instr.makeSlice 29 (.int .i64 (N : Int)) (.int .i64 (N : Int))).run Tryd.prog W = .ok (.slice (some ⟨W.heap.size, 0, none⟩) N N) (W.alloc (.cells (Array.replicate N (.int .i64 0)) 2)) := by
  obtain ⟨i0, hi, hz, hs, hb⟩ := info_parts infoI64
  have := run_make (P := Tryd.prog) W 29 2 i0 _ Tryd.underlying29 hi hz .i64 .i64 (N : Int) (N : Int) (by omega) (Int.le_refl _) (by rw [hb]; omega) (by omega)
  have e : madeCells (Value.int .i64 0).cells N = ((List.replicate N (0 : Int)).map intV).toArray := made_i64 N
  rw [Int.toNat_natCast, hs, Nat.mul_one, e, rep_i64] at this
  exact this
/-- What the law holds: the instance in its box, its own prices. -/
structure HoS (w : World) (n : Int) (A : Option Addr) (c m : Nat) (gp : Nat) (p : List Int) (W : World) : Prop where
  bel : Below w.heap.size w W
  box : W.heap[w.heap.size]? = some (.cells #[.int .i64 n, .slice A m c] 24 (0, 0))
  row : W.heap[gp]? = some (.cells (p.map intV).toArray 2 (0, 0))
  lo : w.heap.size < gp
theorem row_some {w : World} {B e : Nat} {size n : Nat} {A : Option Addr} {c : Nat} {xs : List Value} (h : w.ownsRow B e size (.slice A n c) n xs) (hn : 0 < n) : ∃ g, A = some ⟨g, 0, none⟩ := by
  rcases h.2 with ⟨h1, h2⟩ | ⟨g, cap, cur, hv, _⟩
  · omega
  · exact ⟨g, by injection hv⟩
theorem hbound_any (nn : Nat) (A : Option Addr) (c : Nat) (hs : List Hdr) (ls : List (List Offer)) (h0 : instE nn ls = 0) (hc : ls.length ≤ c) (hl : ls.length ≤ 1000000) (hls : BLens ls) (hw : BWide ls) (z : List Int) (zl : z.length = nn) (zb : ∀ x ∈ z, 0 ≤ x ∧ x ≤ 1099511627776) (hnn : nn ≤ 10) (Q : Addr) (qc : Nat) (W : World) (hT : TabW W) (hB : Buys W W.heap.size A hs ls) (h1 : One intV W W.heap.size (some Q) z) :
    Calls Tryd.prog 11 #[.agg #[.int .i64 nn, .slice A ls.length c], .slice (some Q) nn qc] W (ValPost (.tuple #[.int .i64 (restC (cntP z) (allG nn) ls 0), .int .i64 0]) W) := by
  have h := boundP_any nn A c hs ls (some Q) qc z W hT hB hc hl hls hw h1 (by omega) (fun e => by cases e)
  rw [bound_some (priE_ok h0 (by omega) zb), zl] at h
  exact h
theorem hrest_any (nn : Nat) (A : Option Addr) (c : Nat) (hs : List Hdr) (ls : List (List Offer)) (h0 : instE nn ls = 0) (hc : ls.length ≤ c) (hl : ls.length ≤ 1000000) (hls : BLens ls) (hw : BWide ls) (z : List Int) (zl : z.length = nn) (zb : ∀ x ∈ z, 0 ≤ x ∧ x ≤ 1099511627776) (hnn : nn ≤ 10) (Q : Addr) (qc : Nat) (k : Nat) (hk : k ≤ ls.length) (free : Nat) (hf : free < 4294967296) (hwi : withinB free (allG nn) = true) (W : World) (hT : TabW W) (hB : Buys W W.heap.size A hs ls) (h1 : One intV W W.heap.size (some Q) z) :
    Calls Tryd.prog 13 #[.agg #[.int .i64 nn, .slice A ls.length c], .int .i64 k, .int .u32 (free : Int), .slice (some Q) nn qc] W (ValPost (.tuple #[.int .i64 (restC (cntP z) free ls k), .int .i64 0]) W) := by
  have h := restP_any nn A c hs ls k free hf (some Q) qc z W hT hB hc hl hls hw h1 (by omega) (fun e => by cases e)
  have ha : allI (nn : Int) = allG nn := by unfold allI; rw [if_neg (by omega)]; rfl
  unfold RestPost restE at h
  rw [if_neg (by rw [priE_ok h0 (by omega) zb]; simp), if_neg (by rw [ha, hwi]; simp; omega), zl] at h
  exact h
theorem hdesc_any (nn : Nat) (h1 : 1 ≤ nn ∧ nn ≤ 10) (A : Option Addr) (c : Nat) (hs : List Hdr) (ls : List (List Offer)) (h0 : instE nn ls = 0) (hc : ls.length ≤ c) (hl : ls.length ≤ 1000000) (hls : BLens ls) (hw : BWide ls) (W : World) (hT : TabW W) (hB : Buys W W.heap.size A hs ls) :
    Calls Tryd.prog 21 #[.agg #[.int .i64 nn, .slice A ls.length c]] W (fun e w' => ∃ g qc, e = .returned (.tuple #[.slice (some ⟨g, 0, none⟩) nn qc, .int .i64 (descD nn ls).2, .int .i64 0]) ∧ One intV w' w'.heap.size (some ⟨g, 0, none⟩) ((descD nn ls).1.take nn) ∧ Below W.heap.size W w') := by
  refine (descend2_any nn A c hs ls W hT hB hc hl hls hw).mono ?_
  rintro e w' ⟨hb, ⟨h, _⟩ | ⟨_, QA, qc, rfl, hq⟩⟩
  · exact absurd h0 h
  · obtain ⟨g, rfl⟩ := row_some hq (by show 0 < nn; omega)
    exact ⟨g, qc, rfl, One.of_own hq (by show ((descD nn ls).1.take nn).length = nn; rw [List.length_take, desc_len]; omega), hb⟩
/-- What the greatest offers of the first come to. -/
def grS (ls : List (List Offer)) (k : Nat) : Int := ((ls.take k).map fun l => (greatL l).1).sum
theorem grS_next {ls : List (List Offer)} {k : Nat} {l : List Offer} (h : ls[k]? = some l) : grS ls (k + 1) = grS ls k + (greatL l).1 := by
  unfold grS
  rw [List.take_add_one, h]
  simp
theorem grS_bd {n : Int} {ls : List (List Offer)} (hi : OkI n ls) : ∀ k, k ≤ ls.length → 0 ≤ grS ls k ∧ grS ls k ≤ k * 1099511627776
  | 0, _ => by simp [grS]
  | k + 1, hk => by
    have h := grS_bd hi k (by omega)
    obtain ⟨l, hl⟩ : ∃ l, ls[k]? = some l := ⟨ls[k], List.getElem?_eq_getElem (by omega)⟩
    have hr := hi.row l (List.mem_of_getElem? hl)
    have hg := gain_great hr.1 hr.2
    have hb := gain_bd okC_zero (free := allG n.toNat) hr.1
    rw [grS_next hl]
    omega
section
variable {w W W' : World} {n : Int} {A : Option Addr} {c m gp : Nat} {p : List Int}
theorem HoS.below (h : HoS w n A c m gp p W) (hb : Below W.heap.size W W') : HoS w n A c m gp p W' :=
  ⟨h.bel.trans (hb.mono h.bel.size), (hb.block _ (lt_of_block h.box)).trans h.box, (hb.block _ (lt_of_block h.row)).trans h.row, h.lo⟩
theorem HoS.set (h : HoS w n A c m gp p W) (i : Nat) (v : Int) : HoS w n A c m gp (p.set i v) (W.setCell ⟨gp, i, none⟩ (.int .i64 v)) := by
  have hl := h.lo
  refine ⟨h.bel.setCell (by show w.heap.size ≤ gp; omega) _, (Below.heap_setCell _ _ _ _ (by show w.heap.size ≠ gp; omega)).trans h.box, ?_, h.lo⟩
  rw [setCell_block h.row]
  congr 2
  apply Array.ext_getElem?
  intro j
  rw [Array.getElem?_setIfInBounds, List.getElem?_toArray, List.getElem?_toArray, List.getElem?_map, List.getElem?_map, List.getElem?_set]
  by_cases hj : i = j
  · subst hj
    simp
  · simp [hj]
theorem HoS.cells (h : HoS w n A c m gp p W) : W.cell? ⟨w.heap.size, 0, none⟩ = some (.int .i64 n) ∧ W.cell? ⟨w.heap.size, 1, none⟩ = some (.slice A m c) :=
  ⟨cell_of_row W _ 0 _ _ (0, 0) h.box, cell_of_row W _ 1 _ _ (0, 0) h.box⟩
theorem HoS.drew1 (h : HoS w n A c m gp p W) : HoS w n A c m gp p W.drew := ⟨h.bel.drew, h.box, h.row, h.lo⟩
theorem HoS.ints (h : HoS w n A c m gp p W) : One intV W W.heap.size (some ⟨gp, 0, none⟩) p := reads_row (xs := p.map intV) h.row (by simp)
end

set_option maxRecDepth 100000 in
set_option maxHeartbeats 16000000 in
theorem holdLaw_any (n : Int) (A : Option Addr) (c : Nat) (hs : List Hdr) (ls : List (List Offer)) (Z : Option Addr) (zc : Nat) (zs : List Int) (P : Option Addr) (pc : Nat) (l : List Int) (w : World) (hT : TabW w)
    (hB : Buys w w.heap.size A hs ls) (hc : ls.length ≤ c) (hlm : (ls.length : Int) ≤ 9223372036854775807) (hw : BWide ls) (hz : One intV w w.heap.size Z zs) (hl : One intV w w.heap.size P l) :
    Calls Tryd.prog 5 #[instV n A ls.length c, .slice Z zs.length zc, .slice P l.length pc] w (ValPost (.bool true) w) := by
  have HT := hide hT
  have HBY := hide hB
  have HZ := hide hz
  have HL := hide hl
  have HW := hide hw
  have HWK := hide (fun W (hb : Below w.heap.size w W) => works_any W (hT.below hb))
  have HGR := hide (fun W (hb : Below w.heap.size w W) => great_any n A c hs ls W (hB.up hb) hlm)
  have HIN := hide (fun W (hb : Below w.heap.size w W) (h1 : ls.length ≤ 1000000) (h2 : BLens ls) => inst08_any n A c hs ls W (hB.up hb) h1 h2 hw)
  have HB : Hid (Below w.heap.size w (w.alloc (.cells #[.int .i64 n, .slice A ls.length c] 24))) := hide ((Below.refl _ _).alloc (Nat.le_refl _) _)
  have HX : Hid ((w.alloc (.cells #[.int .i64 n, .slice A ls.length c] 24)).heap[w.heap.size]? = some (.cells #[.int .i64 n, .slice A ls.length c] 24 (0, 0))) := hide (heap_alloc_new w _)
  clear hT hB hz hl hw
  simp only [instV] at *
  go_enter Tryd.func5, Tryd.ntmps5
  go_upto_region 1 with fail
  generalize w.alloc (.cells #[.int .i64 n, .slice A ls.length c] 24) = w0 at *
  have x0 := cell_of_row _ _ 0 _ _ (0, 0) HX.out
  have x1 := cell_of_row _ _ 1 _ _ (0, 0) HX.out
  simp only [List.getElem?_toArray, List.getElem?_cons_zero, List.getElem?_cons_succ] at x0 x1
  have HG := hide (HGR.out w0 HB.out)
  cases hgr : greatB ls
  case true =>
    rw [hgr] at HG
    clear hgr
    go_wp2_with (first | (go_at_call 7; refine (HG.out).mono ?_; rintro e w1 ⟨rfl, hb1⟩; have HB := hide (HB.out.trans (hb1.mono HB.out.size)); clear hb1) | (go_at_call 8; refine (HWK.out _ HB.out).mono ?_; rintro e wz ⟨rfl, hbz⟩; have HBZ := hide (HB.out.trans (hbz.mono HB.out.size)); clear hbz))
    go_ret
    exact ⟨rfl, HBZ.out⟩
  rw [hgr] at HG
  have HNO := hide (great_no hgr)
  clear hgr
  by_cases h1 : 100 < zs.length
  · have h1i : (100 : Int) < (zs.length : Int) := by omega
    go_wp2_with (first | (go_at_call 7; refine (HG.out).mono ?_; rintro e w1 ⟨rfl, hb1⟩; have HB := hide (HB.out.trans (hb1.mono HB.out.size)); clear hb1) | (go_at_call 8; refine (HWK.out _ HB.out).mono ?_; rintro e wz ⟨rfl, hbz⟩; have HBZ := hide (HB.out.trans (hbz.mono HB.out.size)); clear hbz))
    go_ret
    exact ⟨rfl, HBZ.out⟩
  have h1i : ¬ ((100 : Int) < (zs.length : Int)) := by omega
  by_cases h2 : 100 < l.length
  · have h2i : (100 : Int) < (l.length : Int) := by omega
    go_wp2_with (first | (go_at_call 7; refine (HG.out).mono ?_; rintro e w1 ⟨rfl, hb1⟩; have HB := hide (HB.out.trans (hb1.mono HB.out.size)); clear hb1) | (go_at_call 8; refine (HWK.out _ HB.out).mono ?_; rintro e wz ⟨rfl, hbz⟩; have HBZ := hide (HB.out.trans (hbz.mono HB.out.size)); clear hbz))
    go_ret
    exact ⟨rfl, HBZ.out⟩
  have h2i : ¬ ((100 : Int) < (l.length : Int)) := by omega
  have hl60 : ls.length ≤ 1000000 := by have := HNO.out.1; omega
  have HBL : Hid (BLens ls) := hide (fun l hl => by have := HNO.out.2 l hl; omega)
  have hz100 : zs.length * 8 ≤ 140737488351232 := by omega
  have HI := hide (fun W hb => HIN.out W hb hl60 HBL.out)
  unfold IntPost at HI
  by_cases h0 : instE n ls = 0
  case neg =>
    obtain ⟨ie, hie⟩ : ∃ ie, instE n ls = ie := ⟨_, rfl⟩
    rw [hie] at HI h0
    have hne : (ie != 0) = true := by simpa using h0
    clear hie h0
    go_wp2_with (first | (go_at_call 7; refine (HG.out).mono ?_; rintro e w1 ⟨rfl, hb1⟩; have HB := hide (HB.out.trans (hb1.mono HB.out.size)); have x0 := cell_of_row _ _ 0 _ _ (0, 0) ((hb1.block _ (lt_of_block HX.out)).trans HX.out); have x1 := cell_of_row _ _ 1 _ _ (0, 0) ((hb1.block _ (lt_of_block HX.out)).trans HX.out); simp only [List.getElem?_toArray, List.getElem?_cons_zero, List.getElem?_cons_succ] at x0 x1; clear hb1) | (go_at_call 20; refine (HI.out _ HB.out).mono ?_; rintro e w1 ⟨rfl, hb1⟩; have HB := hide (HB.out.trans (hb1.mono HB.out.size)); clear hb1) | (go_at_call 8; refine (HWK.out _ HB.out).mono ?_; rintro e wz ⟨rfl, hbz⟩; have HBZ := hide (HB.out.trans (hbz.mono HB.out.size)); clear hbz))
    go_ret
    exact ⟨rfl, HBZ.out⟩
  rw [h0] at HI
  have H0 := hide h0
  have HOK := hide (okI_of HW.out h0)
  have hn := HOK.out.nb
  obtain ⟨nn, rfl⟩ := Int.eq_ofNat_of_zero_le (show 0 ≤ n by omega)
  clear h0
  go_upto_region 3 with (first
    | (go_at_call 7; refine (HG.out).mono ?_; rintro e w1 ⟨rfl, hb1⟩; have HB := hide (HB.out.trans (hb1.mono HB.out.size)); have HX := hide ((hb1.block _ (lt_of_block HX.out)).trans HX.out); clear x0 x1; have x0 := cell_of_row _ _ 0 _ _ (0, 0) HX.out; have x1 := cell_of_row _ _ 1 _ _ (0, 0) HX.out; simp only [List.getElem?_toArray, List.getElem?_cons_zero, List.getElem?_cons_succ] at x0 x1; clear hb1)
    | (go_at_call 20; refine (HI.out _ HB.out).mono ?_; rintro e w1 ⟨rfl, hb1⟩; have HB := hide (HB.out.trans (hb1.mono HB.out.size)); have HX := hide ((hb1.block _ (lt_of_block HX.out)).trans HX.out); clear x0 x1; have x0 := cell_of_row _ _ 0 _ _ (0, 0) HX.out; have x1 := cell_of_row _ _ 1 _ _ (0, 0) HX.out; simp only [List.getElem?_toArray, List.getElem?_cons_zero, List.getElem?_cons_succ] at x0 x1; clear hb1))
  have hmk := make_i64 nn (by omega)
  have HA : Hid (HoS w nn A c ls.length w1.heap.size (List.replicate nn 0) (w1.alloc (.cells (Array.replicate nn (.int .i64 0)) 2))) := hide (by
    have hb := (Below.refl w1.heap.size w1).alloc (Nat.le_refl _) (.cells (Array.replicate nn (.int .i64 0)) 2)
    exact ⟨HB.out.trans (hb.mono HB.out.size), (hb.block _ (lt_of_block HX.out)).trans HX.out, by rw [rep_i64]; exact heap_alloc_new w1 _, lt_of_block HX.out⟩)
  go_upto_region 5 with fail
  clear x0 x1
  obtain ⟨gp, hgp⟩ : ∃ gp, gp = w1.heap.size := ⟨_, rfl⟩
  rw [← hgp] at HA ⊢
  generalize w1.alloc (.cells (Array.replicate nn (.int .i64 0)) 2) = w2 at *
  clear hgp HX HB HG HI HIN HGR
  go_loopw [8] (fun iv wr => ∃ (k : Nat) (p : List Int), k ≤ nn ∧ iv = .int .i64 k ∧ p.length = nn ∧ (∀ x ∈ p, 0 ≤ x ∧ x ≤ 1099511627776) ∧ HoS w nn A c ls.length gp p wr) (fun iv _ => nn - (intOf iv).toNat)
  case atStart => exact ⟨0, List.replicate nn 0, Nat.zero_le _, rfl, List.length_replicate, fun x hx => by rw [List.eq_of_mem_replicate hx]; decide, HA.out⟩
  case round =>
    clear HA
    obtain ⟨k, p, hk, rfl, hpl, hpb, hs⟩ := hrel
    have HS := hide hs
    have HPB := hide hpb
    have HPL := hide hpl
    clear hs hpb hpl
    obtain ⟨G, hG⟩ : ∃ G : Bool, G = true ↔ (k < nn ∧ k < l.length) := by
      rcases Classical.em (k < nn ∧ k < l.length) with h | h
      · exact ⟨true, fun _ => h, fun _ => rfl⟩
      · exact ⟨false, (fun e => by cases e), (fun e => absurd e h)⟩
    have HG := hide hG
    clear hG
    go_upto_region 5 with fail
    go_cut [63] from 54 to 63 (fun z wx => z = .bool G ∧ wr = wx)
    case first =>
      by_cases g1 : k < nn
      · have g1i : (k : Int) < (nn : Int) := by omega
        by_cases g2 : k < l.length
        · have g2i : (k : Int) < (l.length : Int) := by omega
          obtain rfl : G = true := HG.out.2 ⟨g1, g2⟩
          go_wp2_with fail
          go_meet
          exact ⟨rfl, rfl⟩
        · have g2i : ¬ ((k : Int) < (l.length : Int)) := by omega
          obtain rfl : G = false := by rw [← Bool.not_eq_true, HG.out]; exact fun h => g2 h.2
          go_wp2_with fail
          go_meet
          exact ⟨rfl, rfl⟩
      · have g1i : ¬ ((k : Int) < (nn : Int)) := by omega
        obtain rfl : G = false := by rw [← Bool.not_eq_true, HG.out]; exact fun h => g1 h.1
        go_wp2_with fail
        go_meet
        exact ⟨rfl, rfl⟩
    case rest =>
    obtain ⟨rfl, rfl⟩ := hcut
    cases G
    case true =>
      obtain ⟨hkn, hkl⟩ := HG.out.1 rfl
      have hkni : (k : Int) < (nn : Int) := by omega
      have hkli : (k : Int) < (l.length : Int) := by omega
      obtain ⟨b, o, rfl, hbB, hcc⟩ := One.at_ HL.out (by omega)
      obtain ⟨x, hx⟩ : ∃ x, l[k]? = some x := ⟨l[k], List.getElem?_eq_getElem hkl⟩
      have d0 := (HS.out.bel.cell (p := ⟨b, o + k, none⟩) hbB).trans (hcc k x hx)
      clear hcc hx
      by_cases q1 : 0 ≤ x
      · have e1 : decide (0 ≤ x) = true := decide_eq_true q1
        by_cases q2 : x ≤ 1099511627776
        · have e2 : decide (x ≤ 1099511627776) = true := decide_eq_true q2
          have HS2 := hide (HS.out.set k x)
          have hcp : ∃ u, wr.cell? ⟨gp, k, none⟩ = some u := ⟨_, (cell_of_row wr gp k _ _ (0, 0) HS.out.row).trans (by rw [List.getElem?_toArray, List.getElem?_map, List.getElem?_eq_getElem (show k < p.length by have := HPL.out; omega)]; rfl)⟩
          obtain ⟨u, hu⟩ := hcp
          have hfz := frozen_of_row wr gp k _ _ HS.out.row
          go_wp2_with fail
          go_roundw
          case rel => exact ⟨k + 1, p.set k x, by omega, by go_num, by rw [List.length_set]; exact HPL.out, (fun y hy => by
            rcases List.mem_or_eq_of_mem_set hy with h | h
            · exact HPB.out y h
            · rw [h]; exact ⟨q1, q2⟩), HS2.out⟩
          case measure => simp [intOf]; omega
        · have e2 : decide (x ≤ 1099511627776) = false := decide_eq_false q2
          go_wp2_with fail
          go_roundw
          case rel => exact ⟨k + 1, p, by omega, by go_num, HPL.out, HPB.out, HS.out⟩
          case measure => simp [intOf]; omega
      · have e1 : decide (0 ≤ x) = false := decide_eq_false q1
        go_wp2_with fail
        go_roundw
        case rel => exact ⟨k + 1, p, by omega, by go_num, HPL.out, HPB.out, HS.out⟩
        case measure => simp [intOf]; omega
    case false =>
      clear hk HG
      have hnn := HOK.out.nb
      have HNN : Hid (1 ≤ nn ∧ nn ≤ 10) := hide (by omega)
      clear hnn
      obtain ⟨al, hal⟩ : ∃ al, al = allG nn := ⟨_, rfl⟩
      have HAL := hide hal
      have HAB : Hid (al < 4294967296) := hide (by rw [hal]; exact HOK.out.all)
      obtain ⟨B, hB⟩ : ∃ B, B = restC (cntP p) al ls 0 := ⟨_, rfl⟩
      have HBV := hide hB
      have HBP : Hid (∀ W, HoS w nn A c ls.length gp p W → _) := hide (fun W h => hbound_any nn A c hs ls H0.out hc hl60 HBL.out HW.out p HPL.out HPB.out HNN.out.2 ⟨gp, 0, none⟩ nn W (HT.out.below h.bel) (HBY.out.up h.bel) h.ints)
      rw [← hal, ← hB] at HBP
      clear hB hal
      go_upto_region 9 with fail
      have HS := hide HS.out
      have hx := HS.out.cells
      obtain ⟨x0, x1⟩ := hx
      go_upto_region 10 with (go_at_call 11; refine (HBP.out _ HS.out).mono ?_; rintro e w4 ⟨rfl, hb1⟩; have HS := hide (HS.out.below hb1); clear hb1)
      clear x0 x1
      have hx := HS.out.drew1.cells
      obtain ⟨x0, x1⟩ := hx
      have hS0 := And.intro x0 x1
      refine wp_region_U 10 (fun X => X.cell? ⟨w.heap.size, 0, none⟩ = some (.int .i64 (nn : Int)) ∧ X.cell? ⟨w.heap.size, 1, none⟩ = some (.slice A ls.length c)) rfl hS0 (fun hHeld => ?_)
      clear x0 x1
      refine AnyU.take (i := 0) (v := ?v1) rfl (by kernel_rfl) (by kernel_rfl) (by kernel_rfl) (by kernel_rfl) (fun _ _ _ h => h) (Or.inl ⟨by rfl, ?hy1⟩) hHeld ?r1
      case hy1 => (intro w hSw; (try dsimp only at hSw); go_simp <;> with_reducible rfl)
      simp only [Act.put, List.setIfInBounds_toArray, List.set_cons_zero, List.set_cons_succ]
      refine AnyU.take (i := 1) (v := ?v2) rfl (by kernel_rfl) (by kernel_rfl) (by kernel_rfl) (by kernel_rfl) (fun _ _ _ h => h) (Or.inl ⟨by rfl, ?hy2⟩) hHeld ?r2
      case hy2 => (intro w hSw; (try dsimp only at hSw); go_simp <;> with_reducible rfl)
      simp only [Act.put, List.setIfInBounds_toArray, List.set_cons_zero, List.set_cons_succ]
      refine AnyU.take (i := 2) (v := ?v3) rfl (by kernel_rfl) (by kernel_rfl) (by kernel_rfl) (by kernel_rfl) (fun _ _ _ h => h) (Or.inl ⟨by rfl, ?hy3⟩) hHeld ?r3
      case hy3 => (intro w hSw; (try dsimp only at hSw); go_simp <;> with_reducible rfl)
      simp only [Act.put, List.setIfInBounds_toArray, List.set_cons_zero, List.set_cons_succ]
      have HS5 : Hid (HoS w nn A c ls.length gp p ((w4.alloc (.cells (Array.replicate nn (.int .i64 0)) 2)).drew)) := hide (HS.out.drew1.below ((Below.refl _ _).alloc (Nat.le_refl _) _))
      have HZR : Hid (((w4.alloc (.cells (Array.replicate nn (.int .i64 0)) 2)).drew).heap[w4.heap.size]? = some (.cells ((List.replicate nn (0 : Int)).map intV).toArray 2 (0, 0))) := hide (by rw [rep_i64]; exact heap_alloc_new w4.drew _)
      have hx := HS5.out.cells
      obtain ⟨x0, x1⟩ := hx
      have hS5 := And.intro x0 x1
      clear x0 x1
      refine AnyU.next (js := [3]) (by kernel_rfl) (by simp) (NextU.cons rfl (fun K hK => ?_) NextU.nil)
      go_simp
      refine hK.out _ _ (fun _ => hS5) (fun hHeld => ?_)
      replace hHeld := hHeld (by decide)
      try simp only [Act.put, List.setIfInBounds_toArray, List.set_cons_zero, List.set_cons_succ]
      generalize (w4.alloc (.cells (Array.replicate nn (.int .i64 0)) 2)).drew = w5 at *
      have HB0 := hide (hbound_any nn A c hs ls H0.out hc hl60 HBL.out HW.out (List.replicate nn 0) List.length_replicate (fun x hx => by rw [List.eq_of_mem_replicate hx]; decide) HNN.out.2 ⟨w4.heap.size, 0, none⟩ nn w5 (HT.out.below HS5.out.bel) (HBY.out.up HS5.out.bel) (reads_row HZR.out (by simp)))
      rw [cnt_rep, ← HAL.out] at HB0
      obtain ⟨R0, hR0⟩ : ∃ R0, R0 = restC (fun _ => 0) al ls 0 := ⟨_, rfl⟩
      have HR0 := hide hR0
      rw [← hR0] at HB0
      clear hR0
      refine AnyU.next (js := [4]) (by kernel_rfl) (by simp) (NextU.cons rfl (fun K hK => ?_) NextU.nil)
      go_simp
      refine (HB0.out).mono ?_
      rintro e w6 ⟨rfl, hb6⟩
      have HS6 := hide (HS5.out.below hb6)
      clear hb6 hS0 hS5 HB0 HZR HS5 HS hHeld
      have hx := HS6.out.cells
      obtain ⟨x0, x1⟩ := hx
      have hS6 := And.intro x0 x1
      go_wp2_with fail
      refine hK.out _ _ (fun _ => hS6) (fun hHeld => ?_)
      replace hHeld := hHeld (by decide)
      try simp only [Act.put, List.setIfInBounds_toArray, List.set_cons_zero, List.set_cons_succ]
      clear hS6
      refine AnyU.take (i := 5) (v := ?v4) rfl (by kernel_rfl) (by kernel_rfl) (by kernel_rfl) (by kernel_rfl) (fun _ _ _ h => h) (Or.inl ⟨by rfl, ?hy4⟩) hHeld ?r4
      case hy4 => (intro w hSw; (try dsimp only at hSw); go_simp <;> with_reducible rfl)
      simp only [Act.put, List.setIfInBounds_toArray, List.set_cons_zero, List.set_cons_succ]
      refine AnyU.take (i := 6) (v := ?v5) rfl (by kernel_rfl) (by kernel_rfl) (by kernel_rfl) (by kernel_rfl) (fun _ _ _ h => h) (Or.inl ⟨by rfl, ?hy5⟩) hHeld ?r5
      case hy5 => (intro w hSw; (try dsimp only at hSw); go_simp <;> with_reducible rfl)
      simp only [Act.put, List.setIfInBounds_toArray, List.set_cons_zero, List.set_cons_succ]
      refine AnyU.take (i := 7) (v := ?v6) rfl (by kernel_rfl) (by kernel_rfl) (by kernel_rfl) (by kernel_rfl) (fun _ _ _ h => h) (Or.inl ⟨by rfl, ?hy6⟩) hHeld ?r6
      case hy6 => (intro w hSw; (try dsimp only at hSw); go_simp <;> with_reducible rfl)
      simp only [Act.put, List.setIfInBounds_toArray, List.set_cons_zero, List.set_cons_succ]
      refine AnyU.take (i := 8) (v := ?v7) rfl (by kernel_rfl) (by kernel_rfl) (by kernel_rfl) (by kernel_rfl) (fun _ _ _ h => h) (Or.inl ⟨by rfl, ?hy7⟩) hHeld ?r7
      case hy7 => (intro w hSw; (try dsimp only at hSw); go_simp <;> with_reducible rfl)
      simp only [Act.put, List.setIfInBounds_toArray, List.set_cons_zero, List.set_cons_succ]
      refine AnyU.take (i := 9) (v := ?v8) rfl (by kernel_rfl) (by kernel_rfl) (by kernel_rfl) (by kernel_rfl) (fun _ _ _ h => h) (Or.inl ⟨by rfl, ?hy8⟩) hHeld ?r8
      case hy8 => (intro w hSw; (try dsimp only at hSw); go_simp <;> with_reducible rfl)
      simp only [Act.put, List.setIfInBounds_toArray, List.set_cons_zero, List.set_cons_succ]
      clear hHeld hK K
      refine AnyU.over (by kernel_rfl) ?_ _
      have HDS := hide (fun W (h : HoS w nn A c ls.length gp p W) => hdesc_any nn HNN.out A c hs ls H0.out hc hl60 HBL.out HW.out W (HT.out.below h.bel) (HBY.out.up h.bel))
      have hdk := desc_ok HOK.out
      rw [Int.toNat_natCast, ← HAL.out, ← HR0.out] at hdk
      have HDK := hide hdk.1
      have HDL := hide hdk.2
      obtain ⟨q, hq⟩ : ∃ q, (descD nn ls).1.take nn = q := ⟨_, rfl⟩
      have HQL : Hid (q.length = nn) := hide (by rw [← hq, List.length_take, HDK.out.len]; have := HNN.out; omega)
      have HQB : Hid (∀ x ∈ q, 0 ≤ x ∧ x ≤ 1099511627776) := hide (by rw [← hq]; exact take_bd HDK.out.bd nn)
      have HQC : Hid (restC (cntP q) al ls 0 = (descD nn ls).2) := hide (by rw [← hq, cntP_take HDK.out.out]; exact HDK.out.now.symm)
      have HCD : Hid (∃ cd, OkC cd ∧ restC cd al ls 0 = (descD nn ls).2) := hide ⟨_, HDK.out.bd, HDK.out.now.symm⟩
      obtain ⟨dd, hdd⟩ : ∃ dd, (descD nn ls).2 = dd := ⟨_, rfl⟩
      rw [hq, hdd] at HDS
      rw [hdd] at HQC HCD HDL
      have hle : ¬ (R0 < dd) := by have := HDL.out; omega
      have HBQ := hide (fun W (h : HoS w nn A c ls.length gp p W) g qc (h1 : One intV W W.heap.size (some ⟨g, 0, none⟩) q) => hbound_any nn A c hs ls H0.out hc hl60 HBL.out HW.out q HQL.out HQB.out HNN.out.2 ⟨g, 0, none⟩ qc W (HT.out.below h.bel) (HBY.out.up h.bel) h1)
      rw [← HAL.out, HQC.out] at HBQ
      have HNM := hide (fun n W => num_any n W)
      clear hdk hq hdd HDK
      rename_i HSold
      go_upto_region 12 with (go_at_call 21; refine (HDS.out _ HS6.out).mono ?_; rintro e w7 ⟨g7, qc, rfl, hq7, hb7⟩; have HS7 := hide (HS6.out.below hb7); have HQ7 := hide hq7; clear hb7 hq7)
      clear x0 x1 HS6 HDS
      have hx := HS7.out.cells
      obtain ⟨x0, x1⟩ := hx
      go_upto_region 13 with (go_at_call 11; refine (HBQ.out _ HS7.out g7 qc HQ7.out).mono ?_; rintro e w8 ⟨rfl, hb8⟩; have HS8 := hide (HS7.out.below hb8); clear hb8)
      clear x0 x1 HS7 HQ7 HBQ
      go_upto_region 15 with (go_at_call 15; refine (HNM.out _ _).mono ?_; rintro e w8 ⟨rfl, hb8⟩; have HS8 := hide (HS8.out.below hb8); clear hb8)
      go_upto_region 17 with fail
      go_loopw [18, 19] (fun sv iv wr => ∃ m : Nat, m ≤ ls.length ∧ sv = .int .i64 (grS ls m) ∧ iv = .int .i64 m ∧ HoS w nn A c ls.length gp p wr) (fun _ iv _ => ls.length - (intOf iv).toNat)
      case atStart => exact ⟨0, Nat.zero_le _, rfl, rfl, HS8.out⟩
      case round =>
      clear HS8
      obtain ⟨m, hm, rfl, rfl, hs9⟩ := hrel
      have HS := hide hs9
      have hx := HS.out.cells
      obtain ⟨x0, x1⟩ := hx
      clear hs9
      by_cases hlt : m < ls.length
      case pos =>
        obtain ⟨b, o, rfl, hbB, hcc⟩ := HBY.out.at_ (by omega)
        obtain ⟨a, l1, ha, hl1, ho, _⟩ := HBY.out.get (i := m) hlt
        obtain ⟨a1, a2⟩ := a
        have d0 := (HS.out.bel.cell (p := ⟨b, o + m, none⟩) hbB).trans (hcc m _ l1 ha hl1)
        have hmi : (m : Int) < (ls.length : Int) := by omega
        have hlen := HBL.out l1 (List.mem_of_getElem? hl1)
        have HGT := hide (refgreat8_any a1 a2 l1 wr (ho.up HS.out.bel) hlen (HW.out l1 (List.mem_of_getElem? hl1)))
        have HGX : Hid (grS ls (m + 1) = grS ls m + (greatL l1).1) := hide (grS_next hl1)
        have hbd := grS_bd HOK.out (m + 1) hlt
        have hl32 := HOK.out.len
        have hbd2 : -9223372036854775808 ≤ grS ls (m + 1) ∧ grS ls (m + 1) ≤ 9223372036854775807 := by omega
        obtain ⟨sm, hsm⟩ : ∃ sm, grS ls m = sm := ⟨_, rfl⟩
        obtain ⟨⟨gv, ga⟩, hgg⟩ : ∃ r, greatL l1 = r := ⟨_, rfl⟩
        rw [hgg] at HGT HGX
        rw [hsm] at HGX
        have hwr : IntKind.i64.wrap (sm + gv) = sm + gv := Go.IntWalk.i64_in _ (by rw [HGX.out] at hbd2; exact hbd2)
        rw [hsm]
        clear hbd hbd2 hl32 hcc ha hl1 ho hgg hsm
        simp only at d0
        go_wp2_with (go_at_call 22; refine (HGT.out).mono ?_; rintro e w9 ⟨rfl, hb9⟩; have HS9 := hide (HS.out.below hb9); clear hb9)
        go_roundw
        case rel => exact ⟨m + 1, by omega, by first | rw [HGX.out] | (rw [HGX.out]; exact congrArg (Value.int .i64) hwr), by go_num, HS9.out⟩
        case measure => simp [intOf]; omega
      case neg =>
      obtain rfl : m = ls.length := by omega
      have hgr : grS ls ls.length = R0 := by
        rw [HR0.out, HAL.out]
        have h := rest_zero HOK.out
        rw [Int.toNat_natCast] at h
        rw [h]
        unfold grS
        rw [List.take_length]
      rw [hgr]
      clear hgr hm hlt
      go_upto_region 23 with fail
      have HCH := hide (fun W (h : HoS w nn A c ls.length gp p W) => refchoice_any nn A c hs ls Z zc zs W (HBY.out.up h.bel) hl60 HBL.out HW.out (HZ.out.up h.bel) hz100)
      have hwb := fun hz => worth_le HOK.out (okC_of HPB.out) (zs := zs) hz H0.out
      have hwd := fun hz => (by
        obtain ⟨cd, hcd, he⟩ := HCD.out
        have h := worth_le HOK.out hcd (zs := zs) hz H0.out
        rw [Int.toNat_natCast, ← HAL.out, he] at h
        exact h : choiceC nn ls zs ≤ dd)
      rw [Int.toNat_natCast, ← HAL.out, ← HBV.out] at hwb
      obtain ⟨ce, hce⟩ : ∃ ce, choiceE nn ls zs = ce := ⟨_, rfl⟩
      obtain ⟨cc, hcc⟩ : ∃ cc, choiceC nn ls zs = cc := ⟨_, rfl⟩
      rw [hce, hcc] at HCH hwb hwd
      simp only [instV] at HCH
      clear hce hcc HBP HDL HQC HQB HQL HCD
      go_upto_region 24 with (go_at_call 23; refine (HCH.out _ HS.out).mono ?_; rintro e w10 ⟨rfl, hb10⟩; have HS := hide (HS.out.below hb10); clear hb10)
      clear x0 x1 HCH
      go_cut [178] from 167 to 178 (fun z wx => z = .bool false ∧ w10 = wx)
      case first =>
        by_cases hz : ce = 0
        · have h1 : ¬ (B < cc) := by have := hwb hz; omega
          have h2 : ¬ (dd < cc) := by have := hwd hz; omega
          clear hwb hwd
          subst hz
          go_wp2_with fail
          go_meet
          exact ⟨rfl, rfl⟩
        · have hz1 : decide (ce = 0) = false := decide_eq_false hz
          have hz2 : (ce == 0) = false := by simpa using hz
          clear hwb hwd
          go_wp2_with fail
          go_meet
          exact ⟨rfl, rfl⟩
      case rest =>
      obtain ⟨rfl, rfl⟩ := hcut
      clear hwb hwd
      have HRP := hide (fun k hk free hf hwi W (h : HoS w nn A c ls.length gp p W) => hrest_any nn A c hs ls H0.out hc hl60 HBL.out HW.out p HPL.out HPB.out HNN.out.2 ⟨gp, 0, none⟩ nn k hk free hf hwi W (HT.out.below h.bel) (HBY.out.up h.bel) h.ints)
      have HALW : Hid (withinB al (allG nn) = true) := hide (by rw [← HAL.out]; exact (withinB_iff _ _ HAB.out HAB.out).2 (fun _ h => h))
      have HRA : Hid (∀ W, HoS w nn A c ls.length gp p W → Calls Tryd.prog 13 #[.agg #[.int .i64 nn, .slice A ls.length c], .int .i64 0, .int .u32 (al : Int), .slice (some ⟨gp, 0, none⟩) nn nn] W (ValPost (.tuple #[.int .i64 B, .int .i64 0]) W)) := hide (fun W h => by
        have h1 := HRP.out 0 (Nat.zero_le _) al HAB.out HALW.out W h
        rw [← HBV.out] at h1
        exact h1)
      have HALL := hide (fun W => all08_any nn (by omega) (by omega) W)
      rw [Int.toNat_natCast, ← HAL.out] at HALL
      have hx := HS.out.cells
      obtain ⟨x0, x1⟩ := hx
      go_upto_region 27 with (go_at_call 24; refine (HALL.out _).mono ?_; rintro e w11 ⟨rfl, rfl⟩)
      clear HALL
      go_upto_region 28 with (go_at_call 13; refine (HRA.out _ HS.out).mono ?_; rintro e w12 ⟨rfl, hb12⟩; have HS := hide (HS.out.below hb12); clear hb12)
      clear HRA x0 x1
      go_upto_region 31 with (go_at_call 15; refine (HNM.out _ _).mono ?_; rintro e w13 ⟨rfl, hb13⟩; have HS := hide (HS.out.below hb13); clear hb13)
      go_loopw [25, 27] (fun lv kv wr => ∃ m : Nat, m ≤ ls.length ∧ lv = .int .i64 (restC (cntP p) al ls m) ∧ kv = .int .i64 ((m + 1 : Nat) : Int) ∧ HoS w nn A c ls.length gp p wr) (fun _ kv _ => ls.length + 1 - (intOf kv).toNat)
      case atStart => exact ⟨0, Nat.zero_le _, by rw [← HBV.out], rfl, HS.out⟩
      case round =>
      clear HS
      obtain ⟨m, hm, rfl, rfl, hs9⟩ := hrel
      have HS := hide hs9
      have hx := HS.out.cells
      obtain ⟨x0, x1⟩ := hx
      clear hs9
      by_cases hlt : m < ls.length
      case pos =>
        have hmi : ((m + 1 : Nat) : Int) ≤ (ls.length : Int) := by omega
        have HRK := hide (HRP.out (m + 1) hlt al HAB.out HALW.out)
        have hle2 := rest_next (okC_of HPB.out) HAB.out (fun l hl => (HOK.out.row l hl).1) HOK.out.len hlt
        obtain ⟨rm, hrm⟩ : ∃ r, restC (cntP p) al ls m = r := ⟨_, rfl⟩
        obtain ⟨rn, hrn⟩ : ∃ r, restC (cntP p) al ls (m + 1) = r := ⟨_, rfl⟩
        rw [hrn] at HRK
        rw [hrm, hrn] at hle2
        rw [hrm]
        have hno : ¬ (rm < rn) := by omega
        have HRN := hide hrn
        clear hle2 hrm hrn
        go_wp2_with (first
          | (go_at_call 13; refine (HRK.out _ HS.out).mono ?_; rintro e w12 ⟨rfl, hb12⟩; have HS := hide (HS.out.below hb12); clear hb12)
          | (go_at_call 15; refine (HNM.out _ _).mono ?_; rintro e w13 ⟨rfl, hb13⟩; have HS := hide (HS.out.below hb13); clear hb13))
        go_roundw
        case rel => exact ⟨m + 1, hlt, by rw [HRN.out], by go_num, HS.out⟩
        case measure => simp [intOf]; omega
      case neg =>
      obtain rfl : m = ls.length := by omega
      have hmi : ¬ (((ls.length + 1 : Nat) : Int) ≤ (ls.length : Int)) := by omega
      clear hm hlt
      go_upto_region 38 with fail
      clear x0 x1
      go_loopw [30] (fun kv wr => ∃ m : Nat, m ≤ nn ∧ kv = .int .i64 (m : Int) ∧ HoS w nn A c ls.length gp p wr) (fun kv _ => nn - (intOf kv).toNat)
      case atStart => exact ⟨0, Nat.zero_le _, rfl, HS.out⟩
      case round =>
      clear HS
      obtain ⟨m, hm, rfl, hs9⟩ := hrel
      have HS := hide hs9
      have hx := HS.out.cells
      obtain ⟨x0, x1⟩ := hx
      clear hs9
      by_cases hlt : m < nn
      case neg =>
        obtain rfl : m = nn := by omega
        go_wp2_with (go_at_call 8; refine (HWK.out _ HS.out.bel).mono ?_; rintro e wz ⟨rfl, hbz⟩; have HBZ := hide (HS.out.bel.trans (hbz.mono HS.out.bel.size)); clear hbz)
        go_ret
        exact ⟨rfl, HBZ.out⟩
      case pos =>
      have hmi : (m : Int) < (nn : Int) := by omega
      go_upto_region 40 with fail
      have hx := HS.out.drew1.cells
      clear x0 x1
      obtain ⟨x0, x1⟩ := hx
      have hS0 := And.intro x0 x1
      obtain ⟨q2, hq2⟩ : ∃ q2 : Nat, 2 ^ m = q2 := ⟨_, rfl⟩
      have hq3 : q2 < 4294967296 := by
        have := Nat.pow_le_pow_right (n := 2) (by omega) (show m ≤ 31 by have := HNN.out; omega)
        have h4 : 2 ^ 31 = 2147483648 := rfl
        omega
      have hq4 : ((2 : Int) ^ m) = (q2 : Int) := by rw [← hq2]; push_cast; rfl
      have hsh : IntKind.u32.wrap ((2 : Int) ^ m) = (q2 : Int) := by rw [hq4]; exact Go.IntWalk.u32_in _ (by omega)
      have han := andNot_lessG al q2 HAB.out hq3
      have HFL : Hid (lessG al q2 < 4294967296) := hide (lessG_lt al q2 HAB.out)
      have hbits : ∀ i, (lessG al q2).testBit i = true → al.testBit i = true := fun i h => by
        rw [lessG_bit al q2 i HAB.out hq3] at h
        exact (Bool.and_eq_true_iff.1 h).1
      have HFW : Hid (withinB (lessG al q2) (allG nn) = true) := hide (by
        rw [← HAL.out]
        exact (withinB_iff _ _ HFL.out HAB.out).2 hbits)
      have HRK := hide (HRP.out 0 (Nat.zero_le _) (lessG al q2) HFL.out HFW.out)
      have hle2 := rest_less (okC_of HPB.out) HFL.out HAB.out hbits (fun l hl => (HOK.out.row l hl).1) HOK.out.len
      rw [← HBV.out] at hle2
      obtain ⟨rn, hrn⟩ : ∃ r, restC (cntP p) (lessG al q2) ls 0 = r := ⟨_, rfl⟩
      rw [hrn] at HRK hle2
      have hno : ¬ (B < rn) := by omega
      obtain ⟨lg, hlg⟩ : ∃ lg, lessG al q2 = lg := ⟨_, rfl⟩
      rw [hlg] at HRK han
      clear hrn hle2 HFW hbits HFL hq2 hq3 hq4 hlg
      refine wp_region_U 12 (fun X => X.cell? ⟨w.heap.size, 0, none⟩ = some (.int .i64 (nn : Int)) ∧ X.cell? ⟨w.heap.size, 1, none⟩ = some (.slice A ls.length c)) rfl hS0 (fun hHeld => ?_)
      clear x0 x1
      refine AnyU.take (i := 0) (v := ?v9) rfl (by kernel_rfl) (by kernel_rfl) (by kernel_rfl) (by kernel_rfl) (fun _ _ _ h => h) (Or.inl ⟨by rfl, ?hy9⟩) hHeld ?r9
      case hy9 => (intro w hSw; (try dsimp only at hSw); go_simp <;> with_reducible rfl)
      simp only [Act.put, List.setIfInBounds_toArray, List.set_cons_zero, List.set_cons_succ]
      refine AnyU.take (i := 1) (v := ?v10) rfl (by kernel_rfl) (by kernel_rfl) (by kernel_rfl) (by kernel_rfl) (fun _ _ _ h => h) (Or.inl ⟨by rfl, ?hy10⟩) hHeld ?r10
      case hy10 => (intro w hSw; (try dsimp only at hSw); go_simp <;> with_reducible rfl)
      simp only [Act.put, List.setIfInBounds_toArray, List.set_cons_zero, List.set_cons_succ]
      refine AnyU.take (i := 2) (v := ?v11) rfl (by kernel_rfl) (by kernel_rfl) (by kernel_rfl) (by kernel_rfl) (fun _ _ _ h => h) (Or.inl ⟨by rfl, ?hy11⟩) hHeld ?r11
      case hy11 => (intro w hSw; (try dsimp only at hSw); go_simp <;> with_reducible rfl)
      simp only [Act.put, List.setIfInBounds_toArray, List.set_cons_zero, List.set_cons_succ]
      refine AnyU.take (i := 3) (v := ?v12) rfl (by kernel_rfl) (by kernel_rfl) (by kernel_rfl) (by kernel_rfl) (fun _ _ _ h => h) (Or.inl ⟨by rfl, ?hy12⟩) hHeld ?r12
      case hy12 => (intro w hSw; (try dsimp only at hSw); go_simp <;> with_reducible rfl)
      simp only [Act.put, List.setIfInBounds_toArray, List.set_cons_zero, List.set_cons_succ]
      refine AnyU.take (i := 4) (v := ?v13) rfl (by kernel_rfl) (by kernel_rfl) (by kernel_rfl) (by kernel_rfl) (fun _ _ _ h => h) (Or.inl ⟨by rfl, ?hy13⟩) hHeld ?r13
      case hy13 => (intro w hSw; (try dsimp only at hSw); go_simp <;> with_reducible rfl)
      simp only [Act.put, List.setIfInBounds_toArray, List.set_cons_zero, List.set_cons_succ]
      refine AnyU.take (i := 5) (v := ?v14) rfl (by kernel_rfl) (by kernel_rfl) (by kernel_rfl) (by kernel_rfl) (fun _ _ _ h => h) (Or.inl ⟨by rfl, ?hy14⟩) hHeld ?r14
      case hy14 => (intro w hSw; (try dsimp only at hSw); go_simp <;> with_reducible rfl)
      simp only [Act.put, List.setIfInBounds_toArray, List.set_cons_zero, List.set_cons_succ]
      have HRK2 : Hid (Calls Tryd.prog 13 #[.agg #[.int .i64 nn, .slice A ls.length c], .int .i64 0, .int .u32 (lg : Int), .slice (some ⟨gp, 0, none⟩) nn nn] wr.drew (ValPost (.tuple #[.int .i64 rn, .int .i64 0]) wr.drew)) := hide (HRK.out _ HS.out.drew1)
      refine AnyU.next (js := [6]) (by kernel_rfl) (by simp) (NextU.cons rfl (fun K hK => ?_) NextU.nil)
      go_simp
      refine (HRK2.out).mono ?_
      rintro e w12 ⟨rfl, hb12⟩
      have HS2 := hide (HS.out.drew1.below hb12)
      have hx := HS2.out.cells
      obtain ⟨x0, x1⟩ := hx
      have hS6 := And.intro x0 x1
      clear hb12 hS0 HRK HRK2 HS hHeld
      go_wp2_with fail
      refine hK.out _ _ (fun _ => hS6) (fun hHeld => ?_)
      replace hHeld := hHeld (by decide)
      try simp only [Act.put, List.setIfInBounds_toArray, List.set_cons_zero, List.set_cons_succ]
      clear hS6
      refine AnyU.take (i := 7) (v := ?v15) rfl (by kernel_rfl) (by kernel_rfl) (by kernel_rfl) (by kernel_rfl) (fun _ _ _ h => h) (Or.inl ⟨by rfl, ?hy15⟩) hHeld ?r15
      case hy15 => (intro w hSw; (try dsimp only at hSw); go_simp <;> with_reducible rfl)
      simp only [Act.put, List.setIfInBounds_toArray, List.set_cons_zero, List.set_cons_succ]
      refine AnyU.take (i := 8) (v := ?v16) rfl (by kernel_rfl) (by kernel_rfl) (by kernel_rfl) (by kernel_rfl) (fun _ _ _ h => h) (Or.inl ⟨by rfl, ?hy16⟩) hHeld ?r16
      case hy16 => (intro w hSw; (try dsimp only at hSw); go_simp <;> with_reducible rfl)
      simp only [Act.put, List.setIfInBounds_toArray, List.set_cons_zero, List.set_cons_succ]
      refine AnyU.take (i := 9) (v := ?v17) rfl (by kernel_rfl) (by kernel_rfl) (by kernel_rfl) (by kernel_rfl) (fun _ _ _ h => h) (Or.inl ⟨by rfl, ?hy17⟩) hHeld ?r17
      case hy17 => (intro w hSw; (try dsimp only at hSw); go_simp <;> with_reducible rfl)
      simp only [Act.put, List.setIfInBounds_toArray, List.set_cons_zero, List.set_cons_succ]
      refine AnyU.take (i := 10) (v := ?v18) rfl (by kernel_rfl) (by kernel_rfl) (by kernel_rfl) (by kernel_rfl) (fun _ _ _ h => h) (Or.inl ⟨by rfl, ?hy18⟩) hHeld ?r18
      case hy18 => (intro w hSw; (try dsimp only at hSw); go_simp <;> with_reducible rfl)
      simp only [Act.put, List.setIfInBounds_toArray, List.set_cons_zero, List.set_cons_succ]
      refine AnyU.take (i := 11) (v := ?v19) rfl (by kernel_rfl) (by kernel_rfl) (by kernel_rfl) (by kernel_rfl) (fun _ _ _ h => h) (Or.inl ⟨by rfl, ?hy19⟩) hHeld ?r19
      case hy19 => (intro w hSw; (try dsimp only at hSw); go_simp <;> with_reducible rfl)
      simp only [Act.put, List.setIfInBounds_toArray, List.set_cons_zero, List.set_cons_succ]
      clear hHeld hK K
      refine AnyU.over (by kernel_rfl) ?_ _
      go_wp2_with (go_at_call 15; refine (HNM.out _ _).mono ?_; rintro e w13 ⟨rfl, hb13⟩; have HS2 := hide (HS2.out.below hb13); clear hb13)
      go_roundw
      case rel => exact ⟨m + 1, by omega, by go_num, HS2.out⟩
      case measure => simp [intOf]; omega
end Go.Proofs.YtinkieogcpidkaaDoor
