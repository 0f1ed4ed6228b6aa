/- The law GoodsParts: its walk. -/
import Derived.Test.YtffpiaipdeebcaaDoorGpW
namespace Go.Proofs.YtffpiaipdeebcaaDoor
open Go.RowKit Go.Maps Go.Shelf
open Go.ChangeMaps Go.WideMaps

set_option maxRecDepth 100000 in
set_option maxHeartbeats 8000000 in
theorem partsLaw_any (n : Int) (A : Option Addr) (c : Nat) (hs : List Hdr) (ls : List (List Offer)) (Z : Option Addr) (zc : Nat) (zs : List Int) (w : World) (h : Buys w w.heap.size A hs ls) (hw : BWide ls)
    (hz : One intV w w.heap.size Z zs) (hzl : zs.length * 8 ≤ 140737488351232) (hT : TabW w) (hM : MlW w) :
    Calls Tryd.prog 5 #[instV n A ls.length c, .slice Z zs.length zc] w (ValPost (.bool true) w) := by
  have HKN := hide (fun W (hb : Below w.heap.size w W) => known_any W (hT.below hb) (hM.below hb))
  have HNM := hide (fun n W => num_any n W)
  unfold SamePost at HNM
  have HWO := hide (fun W (hb : Below w.heap.size w W) => worth_all n A c hs ls Z zc zs W (h.up hb) hw (hz.up hb) hzl (hT.below hb))
  have HTK := hide (fun W (hb : Below w.heap.size w W) => taken_all n A c hs ls Z zc zs W (h.up hb) hw (hz.up hb) hzl (hT.below hb))
  have HWG := hide (fun W (hb : Below w.heap.size w W) (g c' : Nat) (zs' : List Int) (h1 : One intV W W.heap.size (some ⟨g, 0, none⟩) zs') (h2 : zs'.length * 8 ≤ 140737488351232) => worth_all n A c hs ls (some ⟨g, 0, none⟩) c' zs' W (h.up hb) hw h1 h2 (hT.below hb))
  have HT := hide hT
  have HZS := hide hz
  have HW := hide hw
  have HH := hide h
  unfold TakenAP at HTK
  have HB0 : Hid (Below w.heap.size w (w.alloc (.cells #[.int .i64 n, .slice A ls.length c] 49))) := hide ((Below.refl _ _).alloc (Nat.le_refl _) _)
  have HX0 : Hid ((w.alloc (.cells #[.int .i64 n, .slice A ls.length c] 49)).heap[w.heap.size]? = some (.cells #[.int .i64 n, .slice A ls.length c] 49 (0, 0))) := hide (heap_alloc_new w _)
  obtain ⟨ce, hce⟩ : ∃ ce, chErr n ls zs = ce := ⟨_, rfl⟩
  obtain ⟨T, hTL⟩ : ∃ T, chTaken n ls zs = T := ⟨_, rfl⟩
  obtain ⟨wo, hwo⟩ : ∃ wo, chWorth n ls zs = wo := ⟨_, rfl⟩
  rw [hce, hwo] at HWO
  rw [hce, hTL] at HTK
  have HCE := hide hce
  have HTL := hide hTL
  have HWV := hide hwo
  clear h hw hz hT hM hce hTL hwo
  simp only [instV] at *
  go_enter Tryd.func5, Tryd.ntmps5
  go_upto_region 3 with (go_at_call 22; refine (HKN.out _ HB0.out).mono ?_; rintro e w1 ⟨rfl, hb1⟩; have HB1 := hide (HB0.out.trans (hb1.mono HB0.out.size)); have HX1 := hide ((hb1.block _ (lt_of_block HX0.out)).trans HX0.out); clear hb1)
  have x0 := cell_of_row _ _ 0 _ _ (0, 0) HX1.out
  have x1 := cell_of_row _ _ 1 _ _ (0, 0) HX1.out
  simp only [List.getElem?_toArray, List.getElem?_cons_zero, List.getElem?_cons_succ] at x0 x1
  go_upto_region 4 with (go_at_call 27; refine (HWO.out _ HB1.out).mono ?_; rintro e w2 ⟨rfl, hb2⟩; have HB2 := hide (HB1.out.trans (hb2.mono HB1.out.size)); have HX2 := hide ((hb2.block _ (lt_of_block HX1.out)).trans HX1.out); clear hb2)
  clear x0 x1
  have x0 := cell_of_row _ _ 0 _ _ (0, 0) HX2.out
  have x1 := cell_of_row _ _ 1 _ _ (0, 0) HX2.out
  simp only [List.getElem?_toArray, List.getElem?_cons_zero, List.getElem?_cons_succ] at x0 x1
  go_upto_region 5 with (go_at_call 28; refine (HTK.out _ HB2.out).mono ?_; rintro e w3 ⟨A3, c3, rfl, ho3, hb3⟩; have HO3 := hide ho3; have HB3 := hide (HB2.out.trans (hb3.mono HB2.out.size)); have HX3 := hide ((hb3.block _ (lt_of_block HX2.out)).trans HX2.out); clear hb3 ho3)
  clear x0 x1
  by_cases hbad : ce = 0
  · subst hbad
    obtain ⟨hok, hch⟩ : instE n ls = 0 ∧ chE ls zs = 0 := by
      have := HCE.out
      unfold chErr at this
      by_cases h : instE n ls ≠ 0
      · rw [if_pos h] at this; cases this
      · rw [if_neg h] at this; exact ⟨by simpa using h, this⟩
    have hlen := (chE_zero.1 hch).1
    have hm32 : ls.length ≤ 32 := (instE_ok.1 hok).2.1
    have HTE : Hid (T = (outL ls zs).map (·.1)) := hide (by rw [← HTL.out]; unfold chTaken; rw [HCE.out, if_neg (by simp)])
    have HWE : Hid (wo = sumC (outL ls zs)) := hide (by rw [← HWV.out]; unfold chWorth; rw [HCE.out, if_neg (by simp)])
    have HTN : Hid (T.length = zs.length) := hide (by rw [HTE.out, List.length_map, outL_len hlen, hlen])
    have HCH := hide hch
    have HOK := hide hok
    have HLN := hide hlen
    clear hok hch hlen
    rw [HTN.out] at HO3 ⊢
    go_upto_region 9 with (go_at_call 15; refine (HNM.out _ _).mono ?_; rintro e w7 ⟨rfl, rfl⟩)
    go_wp2_with fail
    have HMZ : Hid (zs.length ≤ 32) := hide (by rw [HLN.out]; exact hm32)
    have hmk := make_int7 zs.length (by have := HMZ.out; omega)
    have HOB := hide (outL_bd (instE_good HW.out HOK.out).good zs)
    have HOL : Hid ((outL ls zs).length = zs.length) := hide (by rw [outL_len HLN.out, HLN.out])
    have HAP := hide (chE_zero.1 HCH.out).2.2
    have HTW : Hid (∀ g ∈ T, g < 4294967296) := hide (by
      rw [HTE.out]
      intro g hg
      obtain ⟨o, ho, rfl⟩ := List.mem_map.1 hg
      exact outL_wide HW.out zs o ho)
    have HPL := hide (fun b z (hb : zs[b]? = some z) => parts_all HOK.out HCH.out hb)
    rw [← HTE.out] at HAP
    have HTO : Hid (∀ (k : Nat) (o : Offer), (outL ls zs)[k]? = some o → T[k]? = some o.1) := hide (fun k o ho => by rw [HTE.out, List.getElem?_map, ho]; rfl)
    have G1 := hide (ints_oneP zs)
    have G2 : Hid (0 + zs.length ≤ maxLen) := hide (by unfold maxLen; have := HMZ.out; omega)
    have G3 : Hid ((0 + zs.length) * 8 ≤ 140737488355328) := hide (by have := HMZ.out; omega)
    clear hm32 HOK HCH HTE HW HKN HWO HTK HTL HWV HCE HX0 HX1 HX2 HB0 HB1 HB2
    obtain ⟨out, hout⟩ : ∃ out, outL ls zs = out := ⟨_, rfl⟩
    rw [hout] at HOB HOL HWE HPL HTO
    obtain rfl : wo = sumC out := HWE.out
    clear hout HWE
    have HSB := hide (fun k => sumC_bd (out.take k) (fun o ho => HOB.out o (List.mem_of_mem_take ho)))
    have HMB := hide (fun k => manyL_le (T.take k))
    have HCN := hide (fun g hg W => count_any g hg W)
    unfold ValPost at HCN
    go_loopw [9, 10, 11] (fun sv mv iv wr => ∃ k : Nat, k ≤ zs.length ∧ iv = .int .i64 k ∧ sv = .int .i64 (sumC (out.take k)) ∧ mv = .int .i64 (manyL (T.take k) : Nat) ∧ Below w3.heap.size w3 wr) (fun _ _ iv _ => zs.length - (intOf iv).toNat)
    case atStart => exact ⟨0, Nat.zero_le _, rfl, rfl, rfl, Below.refl _ _⟩
    case round =>
      obtain ⟨k, hk, rfl, rfl, rfl, hb⟩ := hrel
      have HBR := hide hb
      have HOR := hide (own_below HO3.out hb (Nat.le_refl _))
      have HBW := hide (HB3.out.trans (hb.mono HB3.out.size))
      have HXR := hide ((hb.block _ (lt_of_block HX3.out)).trans HX3.out)
      clear hb
      by_cases hlt : k < zs.length
      · obtain ⟨z, hzx⟩ : ∃ z, zs[k]? = some z := ⟨zs[k], List.getElem?_eq_getElem hlt⟩
        have hki : (k : Int) < (zs.length : Int) := by omega
        have HZX := hide hzx
        have HLT := hide hlt
        clear hzx
        go_upto_region 13 with fail
        go_cut [12, 13] from 68 to 72 (fun av bv wx => ∃ gA gL cL, av = .slice (some ⟨gA, 0, none⟩) zs.length zs.length ∧ bv = .slice (some ⟨gL, 0, none⟩) zs.length cL ∧ RowsP wr zs.length gA zs.length (fillL zs.length 0) gL cL zs wx)
        case first =>
          have hBD : Below wr.heap.size wr wr.drew := (Below.refl _ _).drew
          have HC0 : Hid (∀ ob, (wr.alloc ob).drew.heap[wr.heap.size]? = some ob) := hide (fun ob => heap_alloc_new wr ob)
          refine wp_region_U 7 (fun _ => True) rfl trivial (fun hHeld => ?_)
          refine AnyU.take (i := 0) (v := ?v1) rfl (by kernel_rfl) (by kernel_rfl) (by kernel_rfl) (by kernel_rfl) (fun _ _ _ h => h) (Or.inl ⟨by rfl, ?hy1⟩) hHeld ?r1
          case hy1 => (intro w hSw; (try dsimp only at hSw); go_simp <;> with_reducible rfl)
          simp only [Act.put, List.setIfInBounds_toArray, List.set_cons_zero, List.set_cons_succ]
          refine AnyU.take (i := 1) (v := ?v2) rfl (by kernel_rfl) (by kernel_rfl) (by kernel_rfl) (by kernel_rfl) (fun _ _ _ h => h) (Or.inl ⟨by rfl, ?hy2⟩) hHeld ?r2
          case hy2 => (intro w hSw; (try dsimp only at hSw); go_simp <;> with_reducible rfl)
          simp only [Act.put, List.setIfInBounds_toArray, List.set_cons_zero, List.set_cons_succ]
          refine AnyU.take (i := 3) (v := ?v3) rfl (by kernel_rfl) (by kernel_rfl) (by kernel_rfl) (by kernel_rfl) (fun _ _ _ h => h) (Or.inl ⟨by rfl, ?hy3⟩) hHeld ?r3
          case hy3 => (intro w hSw; (try dsimp only at hSw); go_simp <;> with_reducible rfl)
          simp only [Act.put, List.setIfInBounds_toArray, List.set_cons_zero, List.set_cons_succ]
          refine AnyU.next (js := [2, 4]) (by kernel_rfl) (by simp) (NextU.cons rfl (fun K hK => ?_) (NextU.cons rfl (fun K hK => ?_) NextU.nil))
          · go_simp
            refine hK.out _ _ (fun _ => trivial) (fun hHeld => ?_)
            replace hHeld := hHeld (by decide)
            try simp only [Act.put, List.setIfInBounds_toArray, List.set_cons_zero, List.set_cons_succ]
            refine AnyU.next (js := [4]) (by kernel_rfl) (by simp) (NextU.cons rfl (fun K hK => ?_) NextU.nil)
            refine step_append_any rfl (.const (.slice none 0 0)) (.tmp 71) 22 rfl _ 3 _ 1 8 infoN7 Tryd.underlying22 rfl (by decide) _ 0 [] rfl (World.ownsRow_nil _ _ _ _) _ Z zs.length zc (zs.map intV) rfl (HZS.out.up (HBW.out.trans (((Below.refl _ _).alloc (Nat.le_refl _) _).drew.mono HBW.out.size))) G1.out G2.out G3.out (Nat.le_refl _) ?_; intro v1 w5 hown1 hg1 _; rw [Nat.zero_add, List.nil_append] at hown1; obtain ⟨A5, c5, hv5, _⟩ := own_sh hown1; subst hv5
            refine hK.out _ _ (fun _ => trivial) (fun hHeld => ?_)
            replace hHeld := hHeld (by decide)
            try simp only [Act.put, List.setIfInBounds_toArray, List.set_cons_zero, List.set_cons_succ]
            refine AnyU.next (js := [5]) (by kernel_rfl) (by simp) (NextU.cons rfl (fun K hK => ?_) NextU.nil)
            go_simp
            refine hK.out _ _ (fun _ => trivial) (fun hHeld => ?_)
            replace hHeld := hHeld (by decide)
            try simp only [Act.put, List.setIfInBounds_toArray, List.set_cons_zero, List.set_cons_succ]
            refine AnyU.next (js := [6]) (by kernel_rfl) (by simp) (NextU.cons rfl (fun K hK => ?_) NextU.nil)
            go_simp
            refine hK.out _ _ (fun _ => trivial) (fun hHeld => ?_)
            replace hHeld := hHeld (by decide)
            try simp only [Act.put, List.setIfInBounds_toArray, List.set_cons_zero, List.set_cons_succ]
            refine AnyU.over (by kernel_rfl) ?_ _
            go_wp2_with fail
            go_meet
            have hb5 : Below wr.heap.size wr w5 := (((Below.refl _ _).alloc (Nat.le_refl _) _).drew).grown hg1 (by simp) (fun j hj => by cases hj)
            have hc5 : w5.heap[wr.heap.size]? = some (.cells (Array.replicate zs.length (intV 0)) 3 (0, 0)) := (hg1.block _ (by simp) (fun e => by cases e)).trans (HC0.out _)
            obtain ⟨gL, hA, hrow⟩ := rows_mk hb5 hc5 (Nat.le_refl _) (own_base hown1 (by simp)) (fun e => by have := (hown1.lt _ e).1; simp at this; omega) (by omega) HMZ.out
            exact ⟨wr.heap.size, gL, c5, rfl, by rw [hA], hrow⟩
          · refine step_append_any rfl (.const (.slice none 0 0)) (.tmp 71) 22 rfl _ 3 _ 1 8 infoN7 Tryd.underlying22 rfl (by decide) _ 0 [] rfl (World.ownsRow_nil _ _ _ _) _ Z zs.length zc (zs.map intV) rfl (HZS.out.up (HBW.out.trans (hBD.mono HBW.out.size))) G1.out G2.out G3.out (Nat.le_refl _) ?_; intro v1 w5 hown1 hg1 _; rw [Nat.zero_add, List.nil_append] at hown1; obtain ⟨A5, c5, hv5, _⟩ := own_sh hown1; subst hv5
            refine hK.out _ _ (fun _ => trivial) (fun hHeld => ?_)
            replace hHeld := hHeld (by decide)
            try simp only [Act.put, List.setIfInBounds_toArray, List.set_cons_zero, List.set_cons_succ]
            refine AnyU.next (js := [2]) (by kernel_rfl) (by simp) (NextU.cons rfl (fun K hK => ?_) NextU.nil)
            go_simp
            refine hK.out _ _ (fun _ => trivial) (fun hHeld => ?_)
            replace hHeld := hHeld (by decide)
            try simp only [Act.put, List.setIfInBounds_toArray, List.set_cons_zero, List.set_cons_succ]
            refine AnyU.next (js := [5]) (by kernel_rfl) (by simp) (NextU.cons rfl (fun K hK => ?_) NextU.nil)
            go_simp
            refine hK.out _ _ (fun _ => trivial) (fun hHeld => ?_)
            replace hHeld := hHeld (by decide)
            try simp only [Act.put, List.setIfInBounds_toArray, List.set_cons_zero, List.set_cons_succ]
            refine AnyU.next (js := [6]) (by kernel_rfl) (by simp) (NextU.cons rfl (fun K hK => ?_) NextU.nil)
            go_simp
            refine hK.out _ _ (fun _ => trivial) (fun hHeld => ?_)
            replace hHeld := hHeld (by decide)
            try simp only [Act.put, List.setIfInBounds_toArray, List.set_cons_zero, List.set_cons_succ]
            refine AnyU.over (by kernel_rfl) ?_ _
            go_wp2_with fail
            go_meet
            have hb5 : Below wr.heap.size wr w5 := hBD.grown hg1 (Nat.le_refl _) (fun j hj => by cases hj)
            have hba : Below w5.heap.size w5 (w5.alloc (.cells (Array.replicate zs.length (intV 0)) 3)) := (Below.refl _ _).alloc (Nat.le_refl _) _
            obtain ⟨gL, hA, hrow⟩ := rows_mk (hb5.trans (hba.mono hb5.size)) (heap_alloc_new w5 _) hb5.size (own_base (own_below hown1 hba (Nat.le_refl _)) (Nat.le_refl _)) (fun e => by have := (hown1.lt _ e).2; omega) (by omega) HMZ.out
            exact ⟨w5.heap.size, gL, c5, rfl, by rw [hA], hrow⟩
        case rest =>
          obtain ⟨gA, gL, cL, rfl, rfl, hrows⟩ := hcut
          have HRW := hide hrows
          clear hrows hmk
          go_wp2_with fail
          go_loopw [14] (fun jv W => ∃ j : Nat, j ≤ zs.length ∧ jv = .int .i64 j ∧ RowsP wr zs.length gA zs.length (fillL zs.length j) gL cL zs W) (fun jv _ => zs.length - (intOf jv).toNat)
          case atStart => exact ⟨0, Nat.zero_le _, rfl, HRW.out⟩
          case round =>
            rename World => wi
            obtain ⟨j, hj, rfl, hrw⟩ := hrel
            have HR := hide hrw
            clear hrw
            by_cases hjl : j < zs.length
            · obtain ⟨⟨v0, e0⟩, f0⟩ := HR.out.cellA hjl
              have hji : (j : Int) < (zs.length : Int) := by omega
              have HR2 := hide (HR.out.setA j (-1))
              rw [← fill_step hjl] at HR2
              go_wp2_with fail
              go_roundw
              case rel => exact ⟨j + 1, by omega, by go_num, HR2.out⟩
              case measure => simp [intOf]; omega
            · obtain rfl : j = zs.length := by omega
              rw [fill_all] at HR
              obtain ⟨bb, bo, rfl, hbB, hcc⟩ := One.at_ HZS.out (by omega)
              have d1 : wi.cell? ⟨bb, bo + k, none⟩ = some (.int .i64 z) := ((HBW.out.trans (HR.out.bel.mono HBW.out.size)).cell (p := ⟨bb, bo + k, none⟩) hbB).trans (hcc k z HZX.out)
              obtain ⟨⟨v0, e0⟩, f0⟩ := HR.out.cellA HLT.out
              have HR3 := hide (HR.out.setA k z)
              obtain ⟨⟨v1, e1⟩, f1⟩ := HR3.out.cellL HLT.out
              have HR4 := hide (HR3.out.setL k (-1))
              obtain ⟨o, hpo, hp1, hp2, hp3, hp4⟩ := HPL.out k z HZX.out
              have hx4 := (HR4.out.bel.block _ (lt_of_block HXR.out)).trans HXR.out
              have x0 := cell_of_row _ _ 0 _ _ (0, 0) hx4
              have x1 := cell_of_row _ _ 1 _ _ (0, 0) hx4
              simp only [List.getElem?_toArray, List.getElem?_cons_zero, List.getElem?_cons_succ] at x0 x1
              have HX4 := hide hx4
              have HB4 := hide (HBW.out.trans (HR4.out.bel.mono HBW.out.size))
              have hw5 := HWG.out _ HB4.out gA zs.length (aloneL zs.length k z) HR4.out.oneA (by simp; omega)
              rw [hp1, hp2, show (aloneL zs.length k z).length = zs.length by simp] at hw5
              have HW5 := hide hw5
              have HTK2 := hide (HTO.out k o hpo)
              have HPO := hide hpo
              clear hcc hx4 hw5 hp1 hp2 hpo HR HR3
              go_upto_region 19 with fail
              generalize (wi.setCell ⟨gA, k, none⟩ (.int .i64 z)).setCell ⟨gL, k, none⟩ (.int .i64 (-1)) = w4 at *
              clear d1 e0 f0 e1 f1
              unfold ValPost at HW5
              go_upto_region 20 with (go_at_call 27; refine (HW5.out).mono ?_; rintro e w5 ⟨rfl, hb5⟩; have HR5 := hide (HR4.out.below hb5); have HX5 := hide ((hb5.block _ (lt_of_block HX4.out)).trans HX4.out); have HB5 := hide (HB4.out.trans (hb5.mono HB4.out.size)); clear hb5 x0 x1 HW5; have x0 := cell_of_row _ _ 0 _ _ (0, 0) HX5.out; have x1 := cell_of_row _ _ 1 _ _ (0, 0) HX5.out; simp only [List.getElem?_toArray, List.getElem?_cons_zero, List.getElem?_cons_succ] at x0 x1)
              have hw6 := HWG.out _ HB5.out gL cL (zs.set k (-1)) HR5.out.oneL (by simp; omega)
              rw [hp3, hp4, show (zs.set k (-1)).length = zs.length by simp] at hw6
              have HW6 := hide hw6
              unfold ValPost at HW6
              clear hw6 hp3 hp4
              go_upto_region 21 with (go_at_call 27; refine (HW6.out).mono ?_; rintro e w6 ⟨rfl, hb6⟩; have HB6 := hide (HB5.out.trans (hb6.mono HB5.out.size)); have HR6 := hide (HR5.out.bel.trans (hb6.mono HR5.out.bel.size)); clear hb6 x0 x1 HW6)
              obtain ⟨og, oc⟩ := o
              have hob := HOB.out _ (List.mem_of_getElem? HPO.out)
              have hsw := HSB.out zs.length
              rw [← HOL.out, List.take_of_length_le (Nat.le_refl _)] at hsw
              have hsk := HSB.out k
              have hskl : (out.take k).length ≤ 32 := by rw [List.length_take, HOL.out]; have := HMZ.out; omega
              have hmk1 := HMB.out k
              have hmkl : (T.take k).length ≤ 32 := by rw [List.length_take, HTN.out]; have := HMZ.out; omega
              have holn := HOL.out
              have hmzl := HMZ.out
              have hcl := eachL_len og
              simp only at hob HTK2
              have hw1 : IntKind.i64.wrap (oc + (sumC out - oc)) = sumC out := by rw [show oc + (sumC out - oc) = sumC out by omega]; exact Go.IntWalk.i64_in _ (by omega)
              have hw2 : IntKind.i64.wrap (sumC (out.take k) + oc) = sumC (out.take k) + oc := Go.IntWalk.i64_in _ (by omega)
              have hw3 : IntKind.i64.wrap ((manyL (T.take k) : Int) + ((eachL og).length : Int)) = (manyL (T.take k) : Int) + ((eachL og).length : Int) := Go.IntWalk.i64_in _ (by omega)
              have HS1 : Hid (sumC (out.take (k + 1)) = sumC (out.take k) + oc) := hide (by rw [List.take_add_one, HPO.out]; exact sumC_snoc _ _)
              have HM1 : Hid (manyL (T.take (k + 1)) = manyL (T.take k) + (eachL og).length) := hide (by rw [List.take_add_one, HTK2.out]; exact manyL_snoc _ _)
              have HB7 : Hid (Below w3.heap.size w3 w6) := hide (HBR.out.trans (HR6.out.mono HBR.out.size))
              have ho6 := own_below HO3.out HB7.out (Nat.le_refl _)
              obtain ⟨tb, tof, rfl, htB, htc⟩ := One.at_ (One.of_own ho6 HTN.out) (by rw [HTN.out]; omega)
              have d2 := htc k og HTK2.out
              have HCC := hide (HCN.out og (HTW.out og (List.mem_of_getElem? HTK2.out)) w6)
              have hki : (k : Int) < (zs.length : Int) := by have := HLT.out; omega
              clear hob hsw hsk hskl hmk1 hmkl htc ho6 htB hbB hmzl holn
              go_wp2_with (first
                | (go_at_call 15; refine (HNM.out _ _).mono ?_; rintro e w7 ⟨rfl, rfl⟩)
                | (go_at_call 20; refine (HCC.out).mono ?_; rintro e w7 ⟨rfl, hb7⟩; have HB8 := hide (HB7.out.trans (hb7.mono HB7.out.size)); clear hb7))
              go_roundw
              case rel => exact ⟨k + 1, by have := HLT.out; omega, by go_num, by rw [HS1.out], by rw [HM1.out, Int.natCast_add], HB8.out⟩
              case measure => simp [intOf]; have := HLT.out; omega
      · obtain rfl : k = zs.length := by omega
        rw [show out.take zs.length = out by rw [← HOL.out]; exact List.take_of_length_le (Nat.le_refl _), show T.take zs.length = T by rw [← HTN.out]; exact List.take_of_length_le (Nat.le_refl _)]
        have HAA := hide ((apart_any A3 c3 T wr (One.of_own HOR.out HTN.out) (by rw [HTN.out]; omega) HTW.out (HT.out.below HBW.out)).mono fun e w' h => apartG_post h)
        obtain ⟨hm1, hm2⟩ := many_law HAP.out
        obtain ⟨⟨ag, ab⟩, hag⟩ : ∃ r, apartG T = r := ⟨_, rfl⟩
        have hal : ag < 4294967296 := by
          have : ag = (apartG T).1 := by rw [hag]
          rw [this]
          unfold apartG
          split
          · exact setC_lt _
          · decide
        rw [hag] at HAA hm1 hm2
        rw [HTN.out] at HAA
        simp only at hm1 hm2
        subst hm2
        have HCA := hide (fun W => HCN.out ag hal W)
        rw [hm1] at HCA
        unfold ValPost at HAA
        clear hm1 hag hal hk
        go_wp2_with (first
          | (go_at_call 13; refine (HAA.out).mono ?_; rintro e w7 ⟨rfl, hb7⟩; have HB8 := hide (HBW.out.trans (hb7.mono HBW.out.size)); clear hb7)
          | (go_at_call 20; refine (HCA.out _).mono ?_; rintro e w8 ⟨rfl, hb8⟩; have HB9 := hide (HB8.out.trans (hb8.mono HB8.out.size)); clear hb8))
        go_ret
        exact ⟨rfl, HB9.out⟩
  · have hw0 : wo = 0 := by rw [← HWV.out]; unfold chWorth; rw [HCE.out, if_pos hbad]
    have hT0 : T = [] := by rw [← HTL.out]; unfold chTaken; rw [HCE.out, if_pos hbad]
    subst hw0 hT0
    have d0 : (ce == 0) = false := by simpa using hbad
    have d1 : (ce != 0) = true := by simpa using hbad
    clear hbad
    go_wp2_with (go_at_call 15; refine (HNM.out _ _).mono ?_; rintro e w7 ⟨rfl, rfl⟩)
    go_ret
    exact ⟨rfl, HB3.out⟩
end Go.Proofs.YtffpiaipdeebcaaDoor
