/- gavelref07.Check of any instance. -/
import Derived.Test.YtffpiaipdeebcaaDoorGcF
import Derived.Test.YtffpiaipdeebcaaDoorGd3
namespace Go.Proofs.YtffpiaipdeebcaaDoor
open Go.RowKit

/-- How far the document's scan of a buyer's offers has come. -/
theorem idx_from {p : Offer → Bool} {l : List Offer} {j : Nat} (hno : ∀ (i : Nat) y, i < j → l[i]? = some y → p y = false) (hj : j = l.length) : ¬ 0 ≤ idxTo p l := by
  rw [idxTo_miss (fun i y hi hy => hno i y (by omega) hy)]
  decide
set_option maxRecDepth 100000 in
set_option maxHeartbeats 4000000 in
theorem refcheck_any (n : Int) (A : Option Addr) (c : Nat) (hs : List Hdr) (ls : List (List Offer)) (w : World) (h : Buys w w.heap.size A hs ls) (hw : BWide ls) :
    Calls Tryd.prog 35 #[instV n A ls.length c] w (ValPost (checkV n ls) w) := by
  have HAL := hide (fun W => refall_any n W)
  have hlt := allI_lt n
  unfold SamePost at HAL
  have HA := hide h
  have HW := hide hw
  have HCT : Hid (checkT n ls = if n < 1 ∨ 10 < n then (0, 0, 2) else if 32 < ls.length then (32, 0, 2) else firstBad (allI n) 0 ls) := hide rfl
  obtain ⟨al, hal⟩ : ∃ al, allI n = al := ⟨_, rfl⟩
  obtain ⟨r, hr⟩ : ∃ r, checkT n ls = r := ⟨_, rfl⟩
  unfold checkV
  rw [hal] at HAL hlt HCT
  rw [hr] at HCT ⊢
  have HWI := hide (fun a (ha : a < 4294967296) W => refwithin_any a al ha hlt W)
  unfold ValPost at HWI
  have HB : Hid (Below w.heap.size w (w.alloc (.cells #[.int .i64 n, .slice A ls.length c] 49))) := hide ((Below.refl _ _).alloc (Nat.le_refl _) _)
  have HX := hide (heap_alloc_new w (.cells #[.int .i64 n, .slice A ls.length c] 49))
  obtain ⟨ae, hae⟩ : ∃ ae, allE n = ae := ⟨_, rfl⟩
  rw [hae] at HAL
  clear h hw hal hlt hr hae
  simp only [instV]
  go_enter Tryd.func35, Tryd.ntmps35
  go_upto_region 1 with fail
  generalize w.alloc (.cells #[.int .i64 n, .slice A ls.length c] 49) = w1 at *
  have x0 := cell_of_row _ _ 0 _ _ (0, 0) HX.out
  have x1 := cell_of_row _ _ 1 _ _ (0, 0) HX.out
  simp only [List.getElem?_toArray, List.getElem?_cons_zero, List.getElem?_cons_succ] at x0 x1
  by_cases h1 : n < 1
  · have d1 : decide (n < 1) = true := decide_eq_true h1
    have HR : Hid (r = (0, 0, 2)) := hide (by rw [HCT.out, if_pos (by omega)])
    clear h1
    go_wp2_with fail
    refine bodyPost_ret (v := .tuple #[.int .i64 0, .int .i64 0, .int .i64 2]) (by simp [results, Tryd.results35, go_sem]) rfl ?_
    rw [HR.out]
    exact ⟨rfl, HB.out⟩
  · have d1 : decide (n < 1) = false := decide_eq_false h1
    by_cases h2 : 10 < n
    · have d2 : decide (10 < n) = true := decide_eq_true h2
      have HR : Hid (r = (0, 0, 2)) := hide (by rw [HCT.out, if_pos (by omega)])
      clear h1 h2
      go_wp2_with fail
      refine bodyPost_ret (v := .tuple #[.int .i64 0, .int .i64 0, .int .i64 2]) (by simp [results, Tryd.results35, go_sem]) rfl ?_
      rw [HR.out]
      exact ⟨rfl, HB.out⟩
    · have d2 : decide (10 < n) = false := decide_eq_false h2
      by_cases h3 : 32 < ls.length
      · have d3 : decide ((32 : Int) < (ls.length : Int)) = true := decide_eq_true (by omega)
        have HR : Hid (r = (32, 0, 2)) := hide (by rw [HCT.out, if_neg (by omega), if_pos h3])
        clear h1 h2 h3
        go_wp2_with fail
        refine bodyPost_ret (v := .tuple #[.int .i64 32, .int .i64 0, .int .i64 2]) (by simp [results, Tryd.results35, go_sem]) rfl ?_
        rw [HR.out]
        exact ⟨rfl, HB.out⟩
      · have d3 : decide ((32 : Int) < (ls.length : Int)) = false := decide_eq_false (by omega)
        have HR : Hid (r = firstBad al 0 ls) := hide (by rw [HCT.out, if_neg (by omega), if_neg h3])
        have hl32 : ls.length ≤ 32 := by omega
        clear h1 h2 h3
        go_wp2_with (go_at_call 12; refine (HAL.out _).mono ?_; rintro e _ ⟨rfl, rfl⟩)
        clear x0 x1 d1 d2 d3
        go_loopw [7] (fun iv wr => ∃ k : Nat, k ≤ ls.length ∧ iv = .int .i64 k ∧ r = firstBad al k (ls.drop k) ∧ Below w1.heap.size w1 wr) (fun iv _ => ls.length - (intOf iv).toNat)
        case atStart => exact ⟨0, Nat.zero_le _, rfl, HR.out, Below.refl _ _⟩
        case round =>
          obtain ⟨k, hk, rfl, hre, hb⟩ := hrel
          have HRE := hide hre
          have HBR := hide hb
          have HBW : Hid (Below w.heap.size w wr) := hide (HB.out.trans (hb.mono HB.out.size))
          have HXR := hide ((hb.block _ (lt_of_block HX.out)).trans HX.out)
          have x1 := cell_of_row _ _ 1 _ _ (0, 0) HXR.out
          simp only [List.getElem?_toArray, List.getElem?_cons_zero, List.getElem?_cons_succ] at x1
          clear hb hre HR
          by_cases hlt : k < ls.length
          · obtain ⟨⟨a1, a2⟩, l, ha, hlx, hro, hca⟩ := HA.out.get hlt
            obtain ⟨bb, bo, rfl, hbB, hat⟩ := HA.out.at_ (by omega)
            have hz1 := hat k _ l ha hlx
            have z1 : wr.cell? ⟨bb, bo + k, none⟩ = some (.slice a1 l.length a2) := (HBW.out.cell (p := ⟨bb, bo + k, none⟩) hbB).trans hz1
            have HZ1 := hide hz1
            have hmem := List.mem_of_getElem? hlx
            have hki : (k : Int) < (ls.length : Int) := by omega
            have HKL : Hid (k < ls.length) := hide hlt
            have HDR : Hid (r = if 8 < l.length then ((k : Int), 8, 2) else if 0 ≤ idxTo (badO al) l then ((k : Int), idxTo (badO al) l, 2) else firstBad al (k + 1) (ls.drop (k + 1))) := hide (by
              rw [HRE.out, List.drop_eq_getElem_cons hlt, show ls[k] = l from (List.getElem?_eq_some_iff.1 hlx).2, firstBad])
            have HWL := hide (HW.out l hmem)
            have HRO := hide hro
            clear hat ha hlx hro hca hmem hz1
            by_cases h8 : 8 < l.length
            · have d8 : decide ((8 : Int) < (l.length : Int)) = true := decide_eq_true (by omega)
              have HR : Hid (r = ((k : Int), 8, 2)) := hide (by rw [HDR.out, if_pos h8])
              clear h8
              go_wp2_with fail
              refine bodyPost_ret (v := .tuple #[.int .i64 k, .int .i64 8, .int .i64 2]) (by simp [results, Tryd.results35, go_sem]) rfl ?_
              rw [HR.out]
              exact ⟨rfl, HBW.out⟩
            · have d8 : decide ((8 : Int) < (l.length : Int)) = false := decide_eq_false (by omega)
              have HR8 : Hid (r = if 0 ≤ idxTo (badO al) l then ((k : Int), idxTo (badO al) l, 2) else firstBad al (k + 1) (ls.drop (k + 1))) := hide (by rw [HDR.out, if_neg h8])
              have HL8 : Hid (l.length ≤ 8) := hide (by omega)
              clear h8
              go_wp2_with fail
              clear x1 z1 d8
              go_loopw [8] (fun jv W => ∃ j : Nat, j ≤ l.length ∧ jv = .int .i64 j ∧ (∀ (i : Nat) y, i < j → l[i]? = some y → badO al y = false) ∧ Below wr.heap.size wr W) (fun jv _ => l.length - (intOf jv).toNat)
              case atStart => exact ⟨0, Nat.zero_le _, rfl, fun i y hi => absurd hi (by omega), Below.refl _ _⟩
              case round =>
                rename World => wi
                obtain ⟨j, hj, rfl, hno, hb⟩ := hrel
                have HNO := hide hno
                have HBI := hide hb
                have HBJ : Hid (Below w.heap.size w wi) := hide (HBW.out.trans (hb.mono HBW.out.size))
                have hxi := (hb.block _ (lt_of_block HXR.out)).trans HXR.out
                have x1 := cell_of_row _ _ 1 _ _ (0, 0) hxi
                simp only [List.getElem?_toArray, List.getElem?_cons_zero, List.getElem?_cons_succ] at x1
                have z1 : wi.cell? ⟨bb, bo + k, none⟩ = some (.slice a1 l.length a2) := (HBJ.out.cell (p := ⟨bb, bo + k, none⟩) hbB).trans HZ1.out
                clear hno hb hxi
                by_cases hjl : j < l.length
                · obtain ⟨b1, o1, rfl, hbl1, hat1⟩ := Offs.at_ HRO.out (by omega)
                  obtain ⟨x, hx⟩ : ∃ x, l[j]? = some x := ⟨l[j], List.getElem?_eq_getElem hjl⟩
                  obtain ⟨e0, e1⟩ := hat1 j x hx
                  have y0 := (HBJ.out.cell (p := ⟨b1, o1 + j * 2, none⟩) hbl1).trans e0
                  have y1 := (HBJ.out.cell (p := ⟨b1, o1 + j * 2 + 1, none⟩) hbl1).trans e1
                  have hxw := (HWL.out x (List.mem_of_getElem? hx)).1
                  have HXX := hide hx
                  obtain ⟨xg, xc⟩ := x
                  simp only at y0 y1 hxw
                  have hji : (j : Int) < (l.length : Int) := by omega
                  have HJL : Hid (j < l.length) := hide hjl
                  have hwj : IntKind.i64.wrap ((j : Int) + 1) = (j : Int) + 1 := Go.IntWalk.i64_in _ (by have := HL8.out; omega)
                  have HWX := hide (fun W => HWI.out xg hxw W)
                  have h0 : badO al (xg, xc) = (((xg : Int) == 0) || !withinB xg al || decide (xc < 1) || decide (1099511627776 < xc)) := by unfold badO; rw [u32_beq]
                  have HBO := hide h0
                  have HBA := hide (HBI.out.alloc HBI.out.size (.cells #[.int .u32 (xg : Int), .int .i64 xc] 74))
                  have HNB := hide (heap_alloc_new wi (.cells #[.int .u32 (xg : Int), .int .i64 xc] 74))
                  clear e0 e1 hat1 hx h0
                  generalize withinB xg al = wi0 at *
                  go_upto_region 15 with fail
                  generalize wi.alloc (.cells #[.int .u32 (xg : Int), .int .i64 xc] 74) = w5 at *
                  have q0 := cell_of_row _ _ 0 _ _ (0, 0) HNB.out
                  have q1 := cell_of_row _ _ 1 _ _ (0, 0) HNB.out
                  simp only [List.getElem?_toArray, List.getElem?_cons_zero, List.getElem?_cons_succ] at q0 q1
                  have HSZ : Hid (wi.heap.size < w5.heap.size) := hide (lt_of_block HNB.out)
                  by_cases hbad : badO al (xg, xc) = true
                  · have HIX : Hid (r = ((k : Int), (j : Int), 2)) := hide (by
                      have := idxTo_hit HXX.out hbad HNO.out
                      rw [HR8.out, this, if_pos (by omega)])
                    have hbo := HBO.out
                    rw [hbad] at hbo
                    clear hbad
                    cases hb0 : ((xg : Int) == 0)
                    · cases wi0
                      · clear hbo
                        go_wp2_with (go_at_call 19; refine (HWX.out _).mono ?_; rintro e w6 ⟨rfl, hb6⟩; have HB6 := hide (HBA.out.trans (hb6.mono HBA.out.size)); have q1 := cell_of_row _ _ 1 _ _ (0, 0) ((hb6.block _ (lt_of_block HNB.out)).trans HNB.out); simp only [List.getElem?_toArray, List.getElem?_cons_zero, List.getElem?_cons_succ] at q1; clear hb6)
                        refine bodyPost_ret (v := .tuple #[.int .i64 k, .int .i64 j, .int .i64 2]) (by simp [results, Tryd.results35, go_sem]) rfl ?_
                        rw [HIX.out]
                        exact ⟨rfl, HBW.out.trans (HB6.out.mono HBW.out.size)⟩
                      · cases hb2 : decide (xc < 1)
                        · cases hb3 : decide (1099511627776 < xc)
                          · rw [hb0, hb2, hb3] at hbo; cases hbo
                          · clear hbo
                            go_wp2_with (go_at_call 19; refine (HWX.out _).mono ?_; rintro e w6 ⟨rfl, hb6⟩; have HB6 := hide (HBA.out.trans (hb6.mono HBA.out.size)); have q1 := cell_of_row _ _ 1 _ _ (0, 0) ((hb6.block _ (lt_of_block HNB.out)).trans HNB.out); simp only [List.getElem?_toArray, List.getElem?_cons_zero, List.getElem?_cons_succ] at q1; clear hb6)
                            refine bodyPost_ret (v := .tuple #[.int .i64 k, .int .i64 j, .int .i64 2]) (by simp [results, Tryd.results35, go_sem]) rfl ?_
                            rw [HIX.out]
                            exact ⟨rfl, HBW.out.trans (HB6.out.mono HBW.out.size)⟩
                        · clear hbo
                          go_wp2_with (go_at_call 19; refine (HWX.out _).mono ?_; rintro e w6 ⟨rfl, hb6⟩; have HB6 := hide (HBA.out.trans (hb6.mono HBA.out.size)); have q1 := cell_of_row _ _ 1 _ _ (0, 0) ((hb6.block _ (lt_of_block HNB.out)).trans HNB.out); simp only [List.getElem?_toArray, List.getElem?_cons_zero, List.getElem?_cons_succ] at q1; clear hb6)
                          refine bodyPost_ret (v := .tuple #[.int .i64 k, .int .i64 j, .int .i64 2]) (by simp [results, Tryd.results35, go_sem]) rfl ?_
                          rw [HIX.out]
                          exact ⟨rfl, HBW.out.trans (HB6.out.mono HBW.out.size)⟩
                    · clear hbo
                      go_wp2_with (go_at_call 19; refine (HWX.out _).mono ?_; rintro e w6 ⟨rfl, hb6⟩; have HB6 := hide (HBA.out.trans (hb6.mono HBA.out.size)); have q1 := cell_of_row _ _ 1 _ _ (0, 0) ((hb6.block _ (lt_of_block HNB.out)).trans HNB.out); simp only [List.getElem?_toArray, List.getElem?_cons_zero, List.getElem?_cons_succ] at q1; clear hb6)
                      refine bodyPost_ret (v := .tuple #[.int .i64 k, .int .i64 j, .int .i64 2]) (by simp [results, Tryd.results35, go_sem]) rfl ?_
                      rw [HIX.out]
                      exact ⟨rfl, HBW.out.trans (HBA.out.mono HBW.out.size)⟩
                  · have hb0 : badO al (xg, xc) = false := by simpa using hbad
                    have HNX := hide (no_next HNO.out HXX.out hb0)
                    have hbo := HBO.out
                    rw [hb0] at hbo
                    clear hbad hb0
                    simp only [Bool.false_eq, Bool.or_eq_false_iff] at hbo
                    obtain ⟨⟨⟨b0, b1⟩, b2⟩, b3⟩ := hbo
                    have b1' : wi0 = true := by simpa using b1
                    subst b1'
                    go_wp2_with (go_at_call 19; refine (HWX.out _).mono ?_; rintro e w6 ⟨rfl, hb6⟩; have HB6 := hide (HBA.out.trans (hb6.mono HBA.out.size)); have q1 := cell_of_row _ _ 1 _ _ (0, 0) ((hb6.block _ (lt_of_block HNB.out)).trans HNB.out); simp only [List.getElem?_toArray, List.getElem?_cons_zero, List.getElem?_cons_succ] at q1; clear hb6)
                    go_roundw
                    case rel => exact ⟨j + 1, HJL.out, by have := HJL.out; have := HL8.out; go_num, HNX.out, HB6.out⟩
                    case measure => have := HJL.out; have := HL8.out; simp [intOf]; omega
                · obtain rfl : j = l.length := by omega
                  have HR : Hid (r = firstBad al (k + 1) (ls.drop (k + 1))) := hide (by rw [HR8.out, if_neg (idx_from HNO.out rfl)])
                  go_wp2_with fail
                  go_roundw
                  case rel => exact ⟨k + 1, by have := HKL.out; omega, by go_num, HR.out, HBR.out.trans (HBI.out.mono HBR.out.size)⟩
                  case measure => have := HKL.out; simp [intOf]; omega
          · obtain rfl : k = ls.length := by omega
            have HR : Hid (r = (0, 0, 0)) := hide (by rw [HRE.out, List.drop_length]; rfl)
            go_wp2_with fail
            refine bodyPost_ret (v := .tuple #[.int .i64 0, .int .i64 0, .int .i64 0]) (by simp [results, Tryd.results35, go_sem]) rfl ?_
            rw [HR.out]
            exact ⟨rfl, HBW.out⟩
end Go.Proofs.YtffpiaipdeebcaaDoor
