/- The walk of goods.chosen: the offers of a choice. -/
import Derived.Test.YtffpiaipdeebcaaDoorGCheck
import Derived.Laws.OwnMore
namespace Go.Proofs.YtffpiaipdeebcaaDoor
open Go.RowKit

/-- What a number picks out of a list. -/
def pickO (l : List Offer) (z : Int) : Offer := if 0 ≤ z then (l[z.toNat]?).getD (0, 0) else (0, 0)
def okZ (l : List Offer) (z : Int) : Bool := decide (-1 ≤ z) && decide (z < l.length)
def outL (ls : List (List Offer)) (zs : List Int) : List Offer := List.zipWith pickO ls zs
def chE (ls : List (List Offer)) (zs : List Int) : Int :=
  if zs.length ≠ ls.length then 170 else if (List.zipWith okZ ls zs).all id = false then 170 else if apartB ((outL ls zs).map Prod.fst) then 0 else 170
/-- The offers of the first k, the others none. -/
def outK (ls : List (List Offer)) (zs : List Int) (k : Nat) : List Offer := outL (ls.take k) (zs.take k) ++ List.replicate (ls.length - k) (0, 0)
section
variable {ls : List (List Offer)} {zs : List Int} {k : Nat} {l : List Offer} {z : Int}
theorem outK_len (hz : zs.length = ls.length) (hk : k ≤ ls.length) : (outK ls zs k).length = ls.length := by
  simp [outK, outL]
  omega
theorem outK_zero : outK ls zs 0 = List.replicate ls.length (0, 0) := by simp [outK, outL]
theorem outK_all (hz : zs.length = ls.length) : outK ls zs ls.length = outL ls zs := by
  unfold outK
  rw [List.take_of_length_le (Nat.le_refl _), List.take_of_length_le (by omega)]
  simp
theorem outK_step (hz : zs.length = ls.length) (hl : ls[k]? = some l) (hzk : zs[k]? = some z) : outK ls zs (k + 1) = (outK ls zs k).set k (pickO l z) := by
  have hk : k < ls.length := (List.getElem?_eq_some_iff.1 hl).1
  have h1 : outL (ls.take (k + 1)) (zs.take (k + 1)) = outL (ls.take k) (zs.take k) ++ [pickO l z] := by
    unfold outL
    rw [List.take_add_one, List.take_add_one, hl, hzk, Option.toList_some, Option.toList_some, List.zipWith_append (by simp; omega)]
    rfl
  have h2 : (outL (ls.take k) (zs.take k)).length = k := by simp [outL]; omega
  unfold outK
  rw [h1, List.set_append_right _ _ (by omega), h2, Nat.sub_self, show ls.length - k = (ls.length - (k + 1)) + 1 by omega, List.replicate_succ, List.set_cons_zero, List.append_assoc]
  rfl
theorem outK_none (hz : zs.length = ls.length) (hl : ls[k]? = some l) (hzk : zs[k]? = some z) (hneg : z < 0) : outK ls zs (k + 1) = outK ls zs k := by
  have hk : k < ls.length := (List.getElem?_eq_some_iff.1 hl).1
  rw [outK_step hz hl hzk]
  have h2 : (outL (ls.take k) (zs.take k)).length = k := by simp [outL]; omega
  apply List.ext_getElem?
  intro i
  rw [List.getElem?_set]
  split
  · rename_i e
    subst e
    rw [if_pos (by rw [outK_len hz (by omega)]; exact hk)]
    unfold outK pickO
    rw [List.getElem?_append_right (by omega), h2, Nat.sub_self, if_neg (by omega), show ls.length - k = (ls.length - (k + 1)) + 1 by omega]
    rfl
  · rfl
end
theorem made2 (N : Nat) : (madeCells #[.int .u32 0, .int .i64 0] (N * 2)).toList = cells2 offV (List.replicate N (0, 0)) := by
  induction N with
  | zero => simp [madeCells, cells2]
  | succ N ih =>
    have h1 : (madeCells #[.int .u32 0, .int .i64 0] ((N + 1) * 2)).toList = (madeCells #[.int .u32 0, .int .i64 0] (N * 2)).toList ++ [.int .u32 0, .int .i64 0] := by
      unfold madeCells
      rw [show (N + 1) * 2 = N * 2 + 1 + 1 by omega]
      simp only [Array.toList_map, Array.toList_range, List.range_succ, List.map_append, List.append_assoc]
      congr 1
      simp
    rw [h1, ih, List.replicate_succ', cells2_append]
    rfl
theorem made1 (N : Nat) : (madeCells #[.int .u32 0] N).toList = (List.replicate N (0 : Nat)).map gV := by
  unfold madeCells
  apply List.ext_getElem?
  intro i
  simp only [Array.toList_map, Array.toList_range, List.getElem?_map]
  by_cases h : i < N
  · simp [h, List.getElem?_replicate, Nat.mod_one]
  · simp [h, List.getElem?_replicate]

theorem grown_trans' {w w' w'' : World} {r : Option Nat} (h : w.grownBy w' r) (h' : w'.grownBy w'' r) : w.grownBy w'' r :=
  ⟨h'.os.trans h.os, h'.tape.trans h.tape, h'.output.trans h.output, Nat.le_trans h.size h'.size, fun k hk hr => (h'.block k (Nat.lt_of_lt_of_le hk h.size) hr).trans (h.block k hk hr)⟩
theorem infoG : EI Tryd.prog 25 (.int .u32 0) 1 4 := by unfold EI; kernel_rfl
theorem make_two (N : Nat) (hN : N ≤ 1000000) (W : World) : (Instr.makeSlice 63 (.int .i64 (N : Int)) (.int .i64 (N : Int))).run Tryd.prog W = .ok (.slice (some ⟨W.heap.size, 0, none⟩) N N) (W.alloc (.cells (madeCells #[.int .u32 0, .int .i64 0] (N * 2)) 74)) := by
  obtain ⟨i0, hi, hz, hs, hb⟩ := info_parts infoO
  have := run_make (P := Tryd.prog) W 63 74 i0 _ Tryd.underlying63 hi hz .i64 .i64 (N : Int) (N : Int) (by omega) (Int.le_refl _) (by rw [hb]; omega) (by omega)
  rw [Int.toNat_natCast, hs] at this
  exact this
theorem make_one (N : Nat) (hN : N ≤ 1000000) (W : World) : (Instr.makeSlice 23 (.int .i64 (N : Int)) (.int .i64 (N : Int))).run Tryd.prog W = .ok (.slice (some ⟨W.heap.size, 0, none⟩) N N) (W.alloc (.cells (madeCells #[.int .u32 0] N) 25)) := by
  obtain ⟨i0, hi, hz, hs, hb⟩ := info_parts infoG
  have := run_make (P := Tryd.prog) W 23 25 i0 _ Tryd.underlying23 hi hz .i64 .i64 (N : Int) (N : Int) (by omega) (Int.le_refl _) (by rw [hb]; omega) (by omega)
  rw [Int.toNat_natCast, hs, Nat.mul_one] at this
  exact this
def ChosenPost (ls : List (List Offer)) (zs : List Int) (w : World) (e : Ending) (w' : World) : Prop :=
  (chE ls zs ≠ 0 ∧ e = .returned (.tuple #[.slice none 0 0, .int .i64 (chE ls zs)]) ∧ Below w.heap.size w w') ∨
  (chE ls zs = 0 ∧ ∃ A c, e = .returned (.tuple #[.slice A ls.length c, .int .i64 0]) ∧ Offs w' w'.heap.size A (outL ls zs) ∧ (outL ls zs).length = ls.length ∧ Below w.heap.size w w')

set_option maxRecDepth 100000 in
set_option maxHeartbeats 4000000 in
theorem chosen_any (n : Int) (A : Option Addr) (c : Nat) (hs : List Hdr) (ls : List (List Offer)) (Z : Option Addr) (zc : Nat) (zs : List Int) (w : World) (h : Buys w w.heap.size A hs ls) (hok : instE n ls = 0) (hw : BWide ls)
    (hz : One intV w w.heap.size Z zs) (hzl : zs.length * 8 ≤ 140737488351232) (hT : TabW w) :
    Calls Tryd.prog 48 #[instV n A ls.length c, .slice Z zs.length zc] w (ChosenPost ls zs w) := by
  have HB : Hid (Below w.heap.size w (w.alloc (.cells #[.int .i64 n, .slice A ls.length c] 49))) := hide ((Below.refl _ _).alloc (Nat.le_refl _) _)
  have HX : Hid ((w.alloc (.cells #[.int .i64 n, .slice A ls.length c] 49)).heap[w.heap.size]? = some (.cells #[.int .i64 n, .slice A ls.length c] 49 (0, 0))) := hide (heap_alloc_new w _)
  have HCK := hide (gcheck_ok n A c hs ls _ (h.up HB.out) hok hw)
  have hI := instE_ok.1 hok
  have hfew : ls.length ≤ 32 := hI.2.1
  have HG := hide (instE_good hw hok)
  have HA := hide h
  have HZS := hide hz
  have HTB := hide hT
  clear h hok hw hz hT hI
  simp only [instV] at *
  by_cases hlen : zs.length = ls.length
  · have hmk2 := make_two zs.length (by have := hfew; omega)
    have hmk1 := make_one zs.length (by have := hfew; omega)
    have HLEN := hide hlen
    have hne : (((zs.length : Nat) : Int) != (ls.length : Int)) = false := by simp; omega
    clear hlen
    go_enter Tryd.func48, Tryd.ntmps48
    go_wp2_with fail
    refine (HCK.out).mono ?_
    rintro e w1 ⟨rfl, hb1⟩
    have HX1 : Hid (w1.heap[w.heap.size]? = some (.cells #[.int .i64 n, .slice A ls.length c] 49 (0, 0))) := hide ((hb1.block _ (lt_of_block HX.out)).trans HX.out)
    have HB1 : Hid (Below w.heap.size w w1) := hide (HB.out.trans (hb1.mono HB.out.size))
    have x1 : w1.cell? ⟨w.heap.size, 1, none⟩ = some (.slice A ls.length c) := cell_of_row w1 w.heap.size 1 _ _ (0, 0) HX1.out
    clear hb1
    go_upto_region 8 with fail
    have HBM : Hid (Below w1.heap.size w1 ((w1.alloc (.cells (madeCells #[.int .u32 0, .int .i64 0] (zs.length * 2)) 74)).alloc (.cells (madeCells #[.int .u32 0] zs.length) 25))) := hide (((Below.refl _ _).alloc (Nat.le_refl _) _).alloc (by simp) _)
    have HOG : Hid (((w1.alloc (.cells (madeCells #[.int .u32 0, .int .i64 0] (zs.length * 2)) 74)).alloc (.cells (madeCells #[.int .u32 0] zs.length) 25)).ownsRow w1.heap.size 74 2 (.slice (some ⟨w1.heap.size, 0, none⟩) zs.length zs.length) zs.length (cells2 offV (outK ls zs 0))) := hide ⟨by rw [cells2_length, outK_zero, List.length_replicate, HLEN.out], .inr ⟨w1.heap.size, zs.length, _, rfl, Nat.le_refl _, (Below.heap_alloc _ _ _ (by simp)).trans (heap_alloc_new w1 _), Nat.le_refl _, by unfold maxLen; omega, size_madeCells _ _, by
      rw [made2, outK_zero, ← HLEN.out, List.take_of_length_le (by rw [cells2_length, List.length_replicate]; exact Nat.le_refl _)]⟩⟩
    have HOH : Hid (((w1.alloc (.cells (madeCells #[.int .u32 0, .int .i64 0] (zs.length * 2)) 74)).alloc (.cells (madeCells #[.int .u32 0] zs.length) 25)).ownsRow w1.heap.size 25 1 (.slice (some ⟨w1.heap.size + 1, 0, none⟩) zs.length zs.length) zs.length (((outK ls zs 0).map Prod.fst).map gV)) := hide ⟨by rw [List.length_map, List.length_map, outK_zero, List.length_replicate, HLEN.out, Nat.mul_one], .inr ⟨w1.heap.size + 1, zs.length, _, rfl, by omega, by
      have := heap_alloc_new (w1.alloc (.cells (madeCells #[.int .u32 0, .int .i64 0] (zs.length * 2)) 74)) (.cells (madeCells #[.int .u32 0] zs.length) 25)
      rw [World.size_alloc] at this
      exact this, Nat.le_refl _, by unfold maxLen; omega, by rw [size_madeCells, Nat.mul_one], by
      rw [made1, outK_zero, ← HLEN.out]
      simp [List.map_replicate]⟩⟩
    have HXM : Hid (((w1.alloc (.cells (madeCells #[.int .u32 0, .int .i64 0] (zs.length * 2)) 74)).alloc (.cells (madeCells #[.int .u32 0] zs.length) 25)).heap[w.heap.size]? = some (.cells #[.int .i64 n, .slice A ls.length c] 49 (0, 0))) := hide ((HBM.out.block _ (lt_of_block HX1.out)).trans HX1.out)
    have HBM2 : Hid (Below w.heap.size w ((w1.alloc (.cells (madeCells #[.int .u32 0, .int .i64 0] (zs.length * 2)) 74)).alloc (.cells (madeCells #[.int .u32 0] zs.length) 25))) := hide (HB1.out.trans (HBM.out.mono HB1.out.size))
    have HTM : Hid (TabW ((w1.alloc (.cells (madeCells #[.int .u32 0, .int .i64 0] (zs.length * 2)) 74)).alloc (.cells (madeCells #[.int .u32 0] zs.length) 25))) := hide (HTB.out.below HBM2.out)
    have HX1L : Hid (w.heap.size < w1.heap.size) := hide (lt_of_block HX1.out)
    generalize ((w1.alloc (.cells (madeCells #[.int .u32 0, .int .i64 0] (zs.length * 2)) 74)).alloc (.cells (madeCells #[.int .u32 0] zs.length) 25)) = w3 at *
    clear x1 hmk1 hmk2
    go_wp2_with fail
    go_loopw [38] (fun iv wr => ∃ k : Nat, k ≤ zs.length ∧ iv = .int .i64 k ∧ (∀ (j : Nat) l z, j < k → ls[j]? = some l → zs[j]? = some z → okZ l z = true) ∧ wr.ownsRow w1.heap.size 74 2 (.slice (some ⟨w1.heap.size, 0, none⟩) zs.length zs.length) zs.length (cells2 offV (outK ls zs k)) ∧ wr.ownsRow w1.heap.size 25 1 (.slice (some ⟨w1.heap.size + 1, 0, none⟩) zs.length zs.length) zs.length (((outK ls zs k).map Prod.fst).map gV) ∧ wr.heap[w.heap.size]? = some (.cells #[.int .i64 n, .slice A ls.length c] 49 (0, 0)) ∧ Below w.heap.size w wr ∧ TabW wr) (fun iv _ => zs.length - (intOf iv).toNat)
    case atStart => exact ⟨0, Nat.zero_le _, rfl, fun j l z hj => absurd hj (by omega), HOG.out, HOH.out, HXM.out, HBM2.out, HTM.out⟩
    case round =>
      obtain ⟨k, hk, rfl, hall, hog, hoh, hx, hb, ht⟩ := hrel
      have HALL := hide hall
      have HG1 := hide hog
      have HH1 := hide hoh
      have HXR := hide hx
      have HBR := hide hb
      have HTR := hide ht
      have x1 : wr.cell? ⟨w.heap.size, 1, none⟩ = some (.slice A ls.length c) := cell_of_row wr w.heap.size 1 _ _ (0, 0) hx
      clear hall hog hoh hx hb ht
      by_cases hlt : k < zs.length
      · have hkl : k < ls.length := by rw [← HLEN.out]; exact hlt
        obtain ⟨⟨a1, a2⟩, l, ha, hlx, hro, hca⟩ := HA.out.get hkl
        obtain ⟨bb, bo, rfl, hbB, hat⟩ := HA.out.at_ (by omega)
        obtain ⟨zb, zo, rfl, hzB, hzat⟩ := One.at_ HZS.out (by omega)
        obtain ⟨z, hzx⟩ : ∃ z, zs[k]? = some z := ⟨zs[k], List.getElem?_eq_getElem hlt⟩
        have z1 : wr.cell? ⟨bb, bo + k, none⟩ = some (.slice a1 l.length a2) := (HBR.out.cell (p := ⟨bb, bo + k, none⟩) hbB).trans (hat k _ l ha hlx)
        have z2 : wr.cell? ⟨zb, zo + k, none⟩ = some (.int .i64 z) := (HBR.out.cell (p := ⟨zb, zo + k, none⟩) hzB).trans (hzat k z hzx)
        have HRO := hide (hro.up HBR.out)
        have HLX := hide hlx
        have HZX := hide hzx
        have hki : (k : Int) < (zs.length : Int) := by omega
        have hki2 : (k : Int) < (ls.length : Int) := by omega
        clear hat hzat ha hlx hro hca hzx
        by_cases hz1 : okZ l z = true
        · have hzb : -1 ≤ z ∧ z < l.length := by simpa [okZ] using hz1
          have hz2 := hzb.1
          have hz3 := hzb.2
          have HSTEP := hide (outK_step (k := k) HLEN.out HLX.out HZX.out)
          have HNEXT : Hid (∀ (j : Nat) l z, j < k + 1 → ls[j]? = some l → zs[j]? = some z → okZ l z = true) := hide (fun j l' z' hj h1 h2 => by
            rcases Nat.lt_or_ge j k with h | h
            · exact HALL.out j l' z' h h1 h2
            · obtain rfl : j = k := by omega
              have e1 := HLX.out
              have e2 := HZX.out
              rw [h1] at e1
              rw [h2] at e2
              injection e1 with e1
              injection e2 with e2
              rw [e1, e2]
              exact hz1)
          clear hzb
          by_cases hneg : z < 0
          · obtain rfl : z = -1 := by omega
            have HNO := hide (outK_none (k := k) HLEN.out HLX.out HZX.out hneg)
            clear hneg hz1 hz2 hz3
            go_wp2_with fail
            go_roundw
            case rel => exact ⟨k + 1, by omega, by go_num, HNEXT.out, by rw [HNO.out]; exact HG1.out, by rw [HNO.out]; exact HH1.out, HXR.out, HBR.out, HTR.out⟩
            case measure => simp [intOf]; omega
          · obtain ⟨q, rfl⟩ : ∃ q : Nat, z = q := ⟨z.toNat, by omega⟩
            have hql : q < l.length := by omega
            obtain ⟨b1, o1, hA1, hbl1, hat1⟩ := Offs.at_ HRO.out (by omega)
            have ha1 : a1 = some ⟨b1, o1, none⟩ := hA1
            subst ha1
            obtain ⟨d0, d1⟩ := hat1 q l[q] (List.getElem?_eq_getElem hql)
            have hpk : Hid (pickO l (q : Int) = l[q]) := hide (by simp [pickO, hql])
            generalize l[q] = x at *
            obtain ⟨xg, xc⟩ := x
            simp only at d0 d1
            have HPK := hpk
            have hlk : k < (outK ls zs k).length := by rw [outK_len HLEN.out (by omega)]; exact hkl
            obtain ⟨y0, y1⟩ := cells2_at (f := offV) (outK ls zs k) k _ (List.getElem?_eq_getElem hlk)
            have c0 : wr.cell? ⟨w1.heap.size, k * 2, none⟩ = some (offV (outK ls zs k)[k]).1 := (HG1.out.cellAt (k * 2) (by omega)).trans y0
            have c1 : wr.cell? ⟨w1.heap.size, k * 2 + 1, none⟩ = some (offV (outK ls zs k)[k]).2 := (HG1.out.cellAt (k * 2 + 1) (by omega)).trans y1
            have f0 := HG1.out.frozenAt (k * 2)
            have f1 := HG1.out.frozenAt (k * 2 + 1)
            have hs1 := HG1.out.stored (k * 2) (.int .u32 (xg : Int))
            have hs2 := hs1.1.stored (k * 2 + 1) (.int .i64 xc)
            have hset := cells2_set (f := offV) (outK ls zs k) k (xg, xc) hlk
            have HO5 : Hid (((wr.setCell ⟨w1.heap.size, k * 2, none⟩ (.int .u32 (xg : Int))).setCell ⟨w1.heap.size, k * 2 + 1, none⟩ (.int .i64 xc)).ownsRow w1.heap.size 74 2 (.slice (some ⟨w1.heap.size, 0, none⟩) zs.length zs.length) zs.length (cells2 offV (outK ls zs (k + 1)))) := hide (by
              rw [HSTEP.out, HPK.out, ← hset]
              exact hs2.1)
            have HG5 : Hid (wr.grownBy ((wr.setCell ⟨w1.heap.size, k * 2, none⟩ (.int .u32 (xg : Int))).setCell ⟨w1.heap.size, k * 2 + 1, none⟩ (.int .i64 xc)) (some w1.heap.size)) := hide (grown_trans' hs1.2 hs2.2)
            generalize (offV (outK ls zs k)[k]).1 = v0 at c0
            generalize (offV (outK ls zs k)[k]).2 = v1 at c1
            clear hs1 hs2 hset y0 y1 hlk hA1 hbl1 hat1 hpk
            go_upto_region 15 with fail
            have HH5 := hide (own_far HH1.out HG5.out (.inl (by simp [Value.ownBlock])))
            have HX5 := hide ((HG5.out.block _ (lt_of_block HXR.out) (by have := HX1L.out; simp; omega)).trans HXR.out)
            have HB5 := hide (HBR.out.grown HG5.out HBR.out.size (fun j hj => by have := HX1L.out; injection hj with hj; omega))
            have HT5 := hide (HTR.out.keep HG5.out (fun e => by have := HX1L.out; have := Option.some.inj e; omega))
            have HNB : Hid ((((wr.setCell ⟨w1.heap.size, k * 2, none⟩ (.int .u32 (xg : Int))).setCell ⟨w1.heap.size, k * 2 + 1, none⟩ (.int .i64 xc)).cell? ⟨w1.heap.size, k * 2, none⟩ = some (.int .u32 (xg : Int)))) := hide (by
              rw [World.cell?_setCell_other _ _ _ _ (fun e => by injection e; omega)]
              exact World.cell?_setCell_same' _ _ _ (by rw [c0]; rfl))
            clear c0 c1 f0 f1 d0 d1 z1 z2 x1
            generalize (wr.setCell ⟨w1.heap.size, k * 2, none⟩ (.int .u32 (xg : Int))).setCell ⟨w1.heap.size, k * 2 + 1, none⟩ (.int .i64 xc) = w5 at *
            have c0 := HNB.out
            have hlk : k < (((outK ls zs k).map Prod.fst).map gV).length := by rw [List.length_map, List.length_map, outK_len HLEN.out (by omega)]; exact hkl
            have c1 : w5.cell? ⟨w1.heap.size + 1, k, none⟩ = some (((outK ls zs k).map Prod.fst).map gV)[k] := (HH5.out.cellAt k (by omega)).trans (List.getElem?_eq_getElem hlk)
            have f1 := HH5.out.frozenAt k
            have hs3 := HH5.out.stored k (.int .u32 (xg : Int))
            have HH6 : Hid ((w5.setCell ⟨w1.heap.size + 1, k, none⟩ (.int .u32 (xg : Int))).ownsRow w1.heap.size 25 1 (.slice (some ⟨w1.heap.size + 1, 0, none⟩) zs.length zs.length) zs.length (((outK ls zs (k + 1)).map Prod.fst).map gV)) := hide (by
              rw [HSTEP.out, HPK.out, List.map_set, List.map_set]
              exact hs3.1)
            have HG6 : Hid (w5.grownBy (w5.setCell ⟨w1.heap.size + 1, k, none⟩ (.int .u32 (xg : Int))) (some (w1.heap.size + 1))) := hide hs3.2
            generalize (((outK ls zs k).map Prod.fst).map gV)[k] = v2 at c1
            clear hs3 hlk
            go_upto_region 16 with fail
            have HO6 := hide (own_far HO5.out HG6.out (.inl (by simp [Value.ownBlock])))
            have HX6 := hide ((HG6.out.block _ (lt_of_block HX5.out) (by have := HX1L.out; simp; omega)).trans HX5.out)
            have HB6 := hide (HB5.out.grown HG6.out HB5.out.size (fun j hj => by have := HX1L.out; injection hj with hj; omega))
            have HT6 := hide (HT5.out.keep HG6.out (fun e => by have := Option.some.inj e; omega))
            clear c0 c1 f1
            generalize w5.setCell ⟨w1.heap.size + 1, k, none⟩ (.int .u32 (xg : Int)) = w6 at *
            go_wp2_with fail
            go_roundw
            case rel => exact ⟨k + 1, by omega, by go_num, HNEXT.out, HO6.out, HH6.out, HX6.out, HB6.out, HT6.out⟩
            case measure => simp [intOf]; omega
        · have HC : Hid (chE ls zs = 170) := hide (by
            unfold chE
            rw [if_neg (by simp [HLEN.out]), if_pos]
            rw [List.all_eq_false]
            refine ⟨okZ l z, List.mem_of_getElem? (i := k) (by rw [List.getElem?_zipWith, HLX.out, HZX.out]), by simpa using hz1⟩)
          have hbz : z < -1 ∨ ((l.length : Int) ≤ z ∧ -1 ≤ z) := by
            simp only [okZ, Bool.and_eq_true, decide_eq_true_eq] at hz1
            omega
          clear hz1
          rcases hbz with hbz | ⟨hbz, hbz2⟩
          all_goals
            go_wp2_with fail
            refine bodyPost_ret (v := .tuple #[.slice none 0 0, .int .i64 170]) (by simp [results, Tryd.results48, go_sem]) rfl ?_
            exact .inl ⟨by rw [HC.out]; decide, by rw [HC.out], HBR.out⟩
      · obtain rfl : k = zs.length := by omega
        have HALLZ : Hid ((List.zipWith okZ ls zs).all id = true) := hide (by
          rw [List.all_eq_true]
          intro b hb
          obtain ⟨i, hi⟩ := List.getElem?_of_mem hb
          rw [List.getElem?_zipWith] at hi
          cases h1 : ls[i]? with
          | none => rw [h1] at hi; simp at hi
          | some l =>
            cases h2 : zs[i]? with
            | none => rw [h1, h2] at hi; simp at hi
            | some z =>
              rw [h1, h2] at hi
              injection hi with hi
              rw [← hi]
              exact HALL.out i l z (List.getElem?_eq_some_iff.1 h2).1 h1 h2)
        have HOA : Hid (outK ls zs zs.length = outL ls zs) := hide (by rw [HLEN.out]; exact outK_all HLEN.out)
        have HSM : Hid (∀ g ∈ (outL ls zs).map Prod.fst, g < 4294967296) := hide (by
          intro g hg
          obtain ⟨o, ho, rfl⟩ := List.mem_map.1 hg
          obtain ⟨i, hi⟩ := List.getElem?_of_mem ho
          unfold outL at hi
          rw [List.getElem?_zipWith] at hi
          cases h1 : ls[i]? with
          | none => rw [h1] at hi; simp at hi
          | some l =>
            cases h2 : zs[i]? with
            | none => rw [h1, h2] at hi; simp at hi
            | some z =>
              rw [h1, h2] at hi
              injection hi with hi
              rw [← hi]
              unfold pickO
              split
              · cases h3 : l[z.toNat]? with
                | none => simp
                | some o' => simp; exact (HG.out.good l (List.mem_of_getElem? h1) o' (List.mem_of_getElem? h3)).2.1
              · simp)
        have hll : ((outL ls zs).map Prod.fst).length = zs.length := by simp [outL, HLEN.out]
        have HAP0 := apart_any (some ⟨w1.heap.size + 1, 0, none⟩) zs.length ((outL ls zs).map Prod.fst) wr (One.of_own (n := zs.length) (by rw [← HOA.out]; exact HH1.out) hll) (by have := hll; have := HLEN.out; omega) HSM.out HTR.out
        rw [hll] at HAP0
        have HAP := hide HAP0
        clear hll HAP0
        go_wp2_with fail
        refine (HAP.out).mono ?_
        rintro e w4 ⟨⟨u, rfl⟩, hb4⟩
        have HB4 : Hid (Below w.heap.size w w4) := hide (HBR.out.trans (hb4.mono HBR.out.size))
        have HOF : Hid (Offs w4 w4.heap.size (some ⟨w1.heap.size, 0, none⟩) (outL ls zs)) := hide (by
          have h1 : Offs wr wr.heap.size (some ⟨w1.heap.size, 0, none⟩) (outL ls zs) := Two.of_own (n := zs.length) (by rw [← HOA.out]; exact HG1.out) (by simp [outL, HLEN.out])
          exact h1.up hb4)
        have HCE : Hid (chE ls zs = if apartB ((outL ls zs).map Prod.fst) then 0 else 170) := hide (by
          unfold chE
          rw [if_neg (by simp [HLEN.out]), if_neg (by rw [HALLZ.out]; simp)])
        clear hb4 x1
        generalize hap : apartB ((outL ls zs).map Prod.fst) = ap at *
        clear hap
        cases ap
        · go_wp2_with fail
          refine bodyPost_ret (v := .tuple #[.slice none 0 0, .int .i64 170]) (by simp [results, Tryd.results48, go_sem]) rfl ?_
          have hce := HCE.out
          simp only [Bool.false_eq_true, if_false] at hce
          exact .inl ⟨by rw [hce]; decide, by rw [hce], HB4.out⟩
        · go_wp2_with fail
          refine bodyPost_ret (v := .tuple #[.slice (some ⟨w1.heap.size, 0, none⟩) zs.length zs.length, .int .i64 0]) (by simp [results, Tryd.results48, go_sem]) rfl ?_
          have hce := HCE.out
          simp only [if_true] at hce
          exact .inr ⟨hce, some ⟨w1.heap.size, 0, none⟩, zs.length, by rw [HLEN.out], HOF.out, by simp [outL, HLEN.out], HB4.out⟩
  · have HC : Hid (chE ls zs = 170) := hide (by unfold chE; rw [if_pos hlen])
    have hne : (((zs.length : Nat) : Int) != (ls.length : Int)) = true := by simp; omega
    clear hlen
    go_enter Tryd.func48, Tryd.ntmps48
    go_wp2_with fail
    refine (HCK.out).mono ?_
    rintro e w1 ⟨rfl, hb1⟩
    have HX1 : Hid (w1.heap[w.heap.size]? = some (.cells #[.int .i64 n, .slice A ls.length c] 49 (0, 0))) := hide ((hb1.block _ (lt_of_block HX.out)).trans HX.out)
    have HB1 : Hid (Below w.heap.size w w1) := hide (HB.out.trans (hb1.mono HB.out.size))
    have x1 : w1.cell? ⟨w.heap.size, 1, none⟩ = some (.slice A ls.length c) := cell_of_row w1 w.heap.size 1 _ _ (0, 0) HX1.out
    clear hb1
    go_wp2_with fail
    refine bodyPost_ret (v := .tuple #[.slice none 0 0, .int .i64 170]) (by simp [results, Tryd.results48, go_sem]) rfl ?_
    exact .inl ⟨by rw [HC.out]; decide, by rw [HC.out], HB1.out⟩
end Go.Proofs.YtffpiaipdeebcaaDoor
