/- The walk of the reference of layer 15: Part. -/
import Derived.Test.YtkjmpenaifhfjaaRef15
namespace Go.Proofs.Ytkjmpenaifhfjaa
open Go.RowKit Go.Maps
open Go.ChangeMaps Go.WideMaps

set_option maxRecDepth 100000 in
set_option maxHeartbeats 8000000 in
theorem refpart_good (nn : Nat) (A : Option Addr) (c : Nat) (hs : List Hdr) (ls : List (List Offer)) (k f : Nat) (w : World) (h : Buys w w.heap.size A hs ls) (hl : ls.length ≤ 1000000) (hls : BLens ls) (hw : BWide ls) (hI : GoodI (nn : Int) ls) (hk : k ≤ ls.length) (hf : f < 2 ^ nn)
    (hm : mayE (nn : Int) ls (k : Int) f = 0) :
    Calls Try.prog 13 #[instV (nn : Int) A ls.length c, .int .i64 (k : Int), .int .u32 (f : Int)] w (ClearPost ((choiceK ls k f, bestW (ls.drop k) f), 0) w) := by
  have hn : nn ≤ 10 := by have := hI.hi; omega
  have hp2 : 2 ^ nn ≤ 1024 := by have := pow_small (nn : Int) hI.hi; rwa [Int.toNat_natCast] at this
  have HB : Hid (Below w.heap.size w ((w.alloc (.cells #[.int .i64 (nn : Int), .slice A ls.length c] 24)).alloc (.cells #[.slice none 0 0, .int .i64 0] 35))) := hide (((Below.refl _ _).alloc (Nat.le_refl _) _).alloc (by simp) _)
  have HX : Hid (((w.alloc (.cells #[.int .i64 (nn : Int), .slice A ls.length c] 24)).alloc (.cells #[.slice none 0 0, .int .i64 0] 35)).heap[w.heap.size]? = some (.cells #[.int .i64 (nn : Int), .slice A ls.length c] 24 (0, 0)) ∧
      ((w.alloc (.cells #[.int .i64 (nn : Int), .slice A ls.length c] 24)).alloc (.cells #[.slice none 0 0, .int .i64 0] 35)).heap[w.heap.size + 1]? = some (.cells #[.slice none 0 0, .int .i64 0] 35 (0, 0))) := hide ⟨by
    rw [Below.heap_alloc _ _ _ (by simp)]; exact heap_alloc_new w _, by
    have := heap_alloc_new (w.alloc (.cells #[.int .i64 (nn : Int), .slice A ls.length c] 24)) (.cells #[.slice none 0 0, .int .i64 0] 35)
    simpa using this⟩
  have HWR : Hid (∀ W, Below w.heap.size w W → Calls Try.prog 32 #[instV (nn : Int) A ls.length c, .int .i64 (k : Int), .int .u32 (f : Int)] W (IntPost 0 W)) := hide (fun W hb => by rw [← hm]; exact wrong_any (nn : Int) A c hs ls (k : Int) f W (h.up hb) hl hls hw (by omega))
  have HTB : Hid (∀ W, Below w.heap.size w W → Calls Try.prog 33 #[instV (nn : Int) A ls.length c] W (TabPost (nn : Int) ls W)) := hide (fun W hb => table_any nn A c hs ls W (h.up hb) hI)
  unfold TabPost at HTB
  simp only [Int.toNat_natCast] at HTB
  have HA := hide h
  have HIN := hide hI
  have HFT := hide (freeAt_top ls k f nn hf)
  have hN : (ls.length : Int) ≤ 32 := by have := hI.few; omega
  have hfi : (f : Int) < 4294967296 := by omega
  have hfw : IntKind.i64.wrap (f : Int) = (f : Int) := Go.IntWalk.i64_in _ (by omega)
  obtain ⟨s, hs2⟩ : ∃ s, s = 2 ^ nn := ⟨_, rfl⟩
  rw [← hs2] at hf hp2 HTB HFT
  have HS := hide hs2
  clear h hls hw hI hm hs2
  simp only [instV] at *
  go_enter Try.func13, Try.ntmps13
  go_wp2_with fail
  refine (HWR.out _ HB.out).mono ?_
  rintro e w0 ⟨rfl, hb0⟩
  have hx0 : w0.heap[w.heap.size]? = some (.cells #[.int .i64 (nn : Int), .slice A ls.length c] 24 (0, 0)) := (hb0.block _ (by simp; omega)).trans HX.out.1
  have hy0 : w0.heap[w.heap.size + 1]? = some (.cells #[.slice none 0 0, .int .i64 0] 35 (0, 0)) := (hb0.block _ (by simp)).trans HX.out.2
  have HB0 : Hid (Below w.heap.size w w0) := hide (HB.out.trans (hb0.mono (by simp; omega)))
  have x0 : w0.cell? ⟨w.heap.size, 0, none⟩ = some (.int .i64 (nn : Int)) := cell_of_row w0 w.heap.size 0 _ _ (0, 0) hx0
  have x1 : w0.cell? ⟨w.heap.size, 1, none⟩ = some (.slice A ls.length c) := cell_of_row w0 w.heap.size 1 _ _ (0, 0) hx0
  have HX0 := hide hx0
  have HY0 := hide hy0
  clear hb0 hx0 hy0
  go_wp2_with fail
  clear x0 x1
  refine (HTB.out _ HB0.out).mono ?_
  rintro e w1 ⟨H, rfl, htab, hb1⟩
  have hx1 : w1.heap[w.heap.size]? = some (.cells #[.int .i64 (nn : Int), .slice A ls.length c] 24 (0, 0)) := (hb1.block _ (lt_of_block HX0.out)).trans HX0.out
  have hy1 : w1.heap[w.heap.size + 1]? = some (.cells #[.slice none 0 0, .int .i64 0] 35 (0, 0)) := (hb1.block _ (lt_of_block HY0.out)).trans HY0.out
  have HB1 : Hid (Below w.heap.size w w1) := hide (HB0.out.trans (hb1.mono HB0.out.size))
  have HTAB := hide htab
  have HX1 := hide hx1
  have HY1 := hide hy1
  have HZ1 : Hid (w.heap.size + 1 < w1.heap.size) := hide (lt_of_block hy1)
  obtain ⟨g, _, _, t1, t2⟩ := htab.2.2 k hk
  have t2' := t2 f hf
  have hkN : (k : Int) < (ls.length : Int) + 1 := by omega
  have hfs : (f : Int) < (s : Int) := by omega
  obtain ⟨WV, hWV⟩ : ∃ WV, WV = bestW (ls.drop k) f := ⟨_, rfl⟩
  rw [← hWV] at t2'
  have HWV := hide hWV
  clear hb1 htab hx1 hy1 t2 hWV
  go_wp2_with fail
  clear t1 t2'
  have HREL : Hid (PRel w1 ls k f WV 0 (.slice none 0 0) (w1.alloc (.cells #[.slice none 0 0, .int .i64 WV] 35))) := hide ⟨(Below.refl _ _).alloc (Nat.le_refl _) _, heap_alloc_new w1 _, World.ownsRow_nil _ _ _ _⟩
  go_loopw [11, 12] (fun fv iv wr => ∃ (i : Nat) (v : Value), i ≤ ls.length ∧ iv = .int .i64 i ∧ fv = .int .i64 (freeAt ls k f i : Int) ∧ PRel w1 ls k f WV i v wr) (fun _ iv _ => ls.length - (intOf iv).toNat)
  case atStart => exact ⟨0, _, Nat.zero_le _, rfl, rfl, HREL.out⟩
  case round =>
    rename World => wo
    obtain ⟨i, v, hi, rfl, rfl, hr⟩ := hrel
    have HR := hide hr
    clear hr HREL
    obtain ⟨A', cp, rfl, hcp⟩ := own_sh HR.out.row
    have HBO : Hid (Below w.heap.size w wo) := hide (HB1.out.trans (HR.out.bel.mono HB1.out.size))
    have hxo : wo.heap[w.heap.size]? = some (.cells #[.int .i64 (nn : Int), .slice A ls.length c] 24 (0, 0)) := (HR.out.bel.block _ (lt_of_block HX1.out)).trans HX1.out
    have x1 : wo.cell? ⟨w.heap.size, 1, none⟩ = some (.slice A ls.length c) := cell_of_row wo w.heap.size 1 _ _ (0, 0) hxo
    have HXO := hide hxo
    clear hxo
    by_cases hlt : i < ls.length
    · have G1 : Hid (∀ z : Int, ∀ u ∈ [Value.int .i64 z], u.oneCell' = true) := hide (fun z u hu => by simp at hu; subst hu; rfl)
      have G2 : Hid (i + 1 ≤ maxLen) := hide (by unfold maxLen; omega)
      have G3 : Hid ((i + 1) * 8 ≤ 140737488355328) := hide (by omega)
      obtain ⟨⟨a1, a2⟩, l, ha, hlx, _, _⟩ := HA.out.get hlt
      have HLB := hide (HIN.out.good l (List.mem_of_getElem? hlx))
      have hlen : (l.length : Int) ≤ 8 := by have := HIN.out.short l (List.mem_of_getElem? hlx); omega
      have HTOP := hide (fun o (ho : o ∈ l) => HIN.out.top l (List.mem_of_getElem? hlx) o ho)
      obtain ⟨bb, bo, hAA, hbB, hat⟩ := HA.out.at_ (by omega)
      have HCELL : Hid (∀ W, Below w.heap.size w W → W.cell? ⟨bb, bo + i, none⟩ = some (.slice a1 l.length a2)) := hide (fun W hW => (hW.cell (p := ⟨bb, bo + i, none⟩) hbB).trans (hat i _ l ha hlx))
      have HROW : Hid (∀ W, Below w.heap.size w W → Offs W w.heap.size a1 l) := hide (fun W hW => ((HA.out.row i _ l ha hlx).1).below hW)
      have hFt := HFT.out i
      have HNUM0 : Hid (numAt ls k f i = if i < k then -1 else pick l (ls.drop (i + 1)) (freeAt ls k f i)) := hide (by unfold numAt; rw [hlx]; rfl)
      have HFR0 : Hid (freeAt ls k f (i + 1) = goesG l (numAt ls k f i) (freeAt ls k f i)) := hide (by
        rw [HNUM0.out, freeAt]
        split
        · simp [goesG]
        · rw [hlx]; rfl)
      have HPK : Hid (pick l (ls.drop (i + 1)) (freeAt ls k f i) = idxTo (hitB (bestW (ls.drop (i + 1))) (bestW (ls.drop i) (freeAt ls k f i)) (freeAt ls k f i)) l) := hide (by
        unfold pick
        have : bestW (l :: ls.drop (i + 1)) = bestW (ls.drop i) := by
          obtain ⟨h5, rfl⟩ := List.getElem?_eq_some_iff.1 hlx
          rw [List.drop_eq_getElem_cons h5]
        rw [this])
      have HBD : Hid (∀ g, 0 ≤ bestW (ls.drop (i + 1)) g ∧ bestW (ls.drop (i + 1)) g ≤ 32 * 1099511627776) := hide (fun g => by
        have := bestW_bd _ (HIN.out.good.drop (i + 1)) g
        simp only [List.length_drop] at this
        omega)
      subst hAA
      have y1 := HCELL.out wo HBO.out
      have HTO := hide (HTAB.out.below HR.out.bel)
      have hiN : (i : Int) < (ls.length : Int) := by omega
      clear hat ha
      generalize hF : freeAt ls k f i = F at *
      clear hF
      have hF32 : F < 4294967296 := by omega
      obtain ⟨g1, u1, u2, u3, u4⟩ := HTO.out.2.2 (i + 1) (by omega)
      obtain ⟨g0, v1, v2, v3, v4⟩ := HTO.out.2.2 i (by omega)
      have v4' := v4 F hFt
      have HU3 := hide u3
      have HU4 := hide u4
      have HV3 := hide v3
      have HV4 := hide v4'
      have HHL := hide HTO.out.2.1
      clear u3 u4 v3 v4 v4' hlx
      generalize bestW (ls.drop (i + 1)) = rest at *
      generalize bestW (ls.drop i) F = left at *
      go_wp2_with fail
      clear x1 y1
      go_loopw [13, 14] (fun nv jv wr => ∃ (t : Nat) (z : Int), t ≤ l.length ∧ jv = .int .i64 ((t : Int) - 1) ∧ nv = .int .i64 z ∧ (if i < k then t = l.length ∧ z = -1 else Least (hitB rest left F) l t z) ∧ Below wo.heap.size wo wr) (fun _ jv _ => (intOf jv + 1).toNat)
      case atStart => exact ⟨l.length, -1, Nat.le_refl _, rfl, rfl, by split; exact ⟨rfl, rfl⟩; exact Least.start _ _, Below.refl _ _⟩
      case round =>
        obtain ⟨t, z, ht, rfl, rfl, hls, hbr⟩ := hrel
        have HLS := hide hls
        have HBR := hide hbr
        have HBW : Hid (Below w.heap.size w wr) := hide (HBO.out.trans (hbr.mono HBO.out.size))
        have HBXW : Hid (wr.heap[w.heap.size]? = some (.cells #[.int .i64 (nn : Int), .slice (some ⟨bb, bo, none⟩) ls.length c] 24 (0, 0))) := hide ((hbr.block _ (lt_of_block HXO.out)).trans HXO.out)
        have HRW : Hid (PRel w1 ls k f WV i (.slice A' i cp) wr) := hide (HR.out.below hbr)
        clear hls hbr
        by_cases hgo : 0 < t ∧ k ≤ i
        · obtain ⟨ht0, hki⟩ := hgo
          obtain ⟨q, rfl⟩ : ∃ q, t = q + 1 := ⟨t - 1, by omega⟩
          have HLS2 : Hid (Least (hitB rest left F) l (q + 1) z) := hide (by have := HLS.out; rwa [if_neg (by omega)] at this)
          rw [show ((q + 1 : Nat) : Int) - 1 = (q : Int) from by omega]
          have hql : q < l.length := by omega
          obtain ⟨ob, oo, hA1, hobB, hoc⟩ := (HROW.out wr HBW.out).at_ (by omega)
          obtain ⟨x, hx⟩ : ∃ x, l[q]? = some x := ⟨l[q], List.getElem?_eq_getElem hql⟩
          obtain ⟨q0, q1⟩ := hoc q x hx
          have hgx := HLB.out x (List.mem_of_getElem? hx)
          have htop := HTOP.out x (List.mem_of_getElem? hx)
          have HXQ := hide hx
          obtain ⟨g, co⟩ := x
          obtain ⟨_, hg32, hco1, hco2⟩ := hgx
          simp only at q0 q1 hg32 hco1 hco2 htop
          rw [Int.toNat_natCast, ← HS.out] at htop
          subst hA1
          have x1 : wr.cell? ⟨w.heap.size, 1, none⟩ = some (.slice (some ⟨bb, bo, none⟩) ls.length c) := cell_of_row wr w.heap.size 1 _ _ (0, 0) HBXW.out
          have y1 := HCELL.out wr HBW.out
          have hx1 := i64_and_n g F (by omega) (by omega)
          have hgb : (g : Int) < 4294967296 := by omega
          have hgw : IntKind.i64.wrap (g : Int) = (g : Int) := Go.IntWalk.i64_in _ (by omega)
          have hki' : (k : Int) ≤ (i : Int) := by omega
          have hqi : (q : Int) < (l.length : Int) := by omega
          clear hoc hx
          by_cases hwi : g &&& F = g
          · have hgf := within_le g F hwi
            have ht1 : (((g &&& F : Nat) : Int) == (g : Int)) = true := by rw [hwi]; simp
            have hv := HBD.out (F - g)
            have HHIT : Hid (hitB rest left F (g, co) = (co + rest (F - g) == left)) := hide (by
              unfold hitB
              rw [withinB_and g F (by omega) (by omega), lessG_sub g F (by omega) (by omega) hwi]
              simp [hwi])
            have r1 : ∀ o, (wr.alloc o).cell? ⟨H, i + 1, none⟩ = some (.slice (some ⟨g1, 0, none⟩) s s) := fun o => (World.cell?_alloc_lt wr o ⟨H, i + 1, none⟩ (by have := HBR.out.size; have := HHL.out; show H < _; omega)).trans ((HBR.out.cell (p := ⟨H, i + 1, none⟩) HHL.out).trans HU3.out)
            have r2 : ∀ o, (wr.alloc o).cell? ⟨g1, F - g, none⟩ = some (.int .i64 (rest (F - g))) := fun o => (World.cell?_alloc_lt wr o ⟨g1, F - g, none⟩ (by have := HBR.out.size; show g1 < _; omega)).trans ((HBR.out.cell (p := ⟨g1, F - g, none⟩) u2).trans (HU4.out (F - g) (by omega)))
            have r3 : ∀ o, (wr.alloc o).cell? ⟨H, i, none⟩ = some (.slice (some ⟨g0, 0, none⟩) s s) := fun o => (World.cell?_alloc_lt wr o ⟨H, i, none⟩ (by have := HBR.out.size; have := HHL.out; show H < _; omega)).trans ((HBR.out.cell (p := ⟨H, i, none⟩) HHL.out).trans HV3.out)
            have r4 : ∀ o, (wr.alloc o).cell? ⟨g0, F, none⟩ = some (.int .i64 left) := fun o => (World.cell?_alloc_lt wr o ⟨g0, F, none⟩ (by have := HBR.out.size; show g0 < _; omega)).trans ((HBR.out.cell (p := ⟨g0, F, none⟩) v2).trans HV4.out)
            have n1 : IntKind.i64.wrap ((i : Int) + 1) = (i : Int) + 1 := Go.IntWalk.i64_in _ (by omega)
            have n2 : IntKind.i64.wrap ((F : Int) - (g : Int)) = (F : Int) - (g : Int) := Go.IntWalk.i64_in _ (by omega)
            have n3 : ((F : Int) - (g : Int)).toNat = F - g := by omega
            have n4 : (0 : Int) ≤ (F : Int) - (g : Int) := by omega
            have n5 : (F : Int) - (g : Int) < (s : Int) := by omega
            have n6 : ((i : Int) + 1).toNat = i + 1 := by omega
            have n8 : (i : Int) + 1 < (ls.length : Int) + 1 := by omega
            have n9 : (F : Int) < (s : Int) := by omega
            have n10 : (0 : Int) ≤ (i : Int) + 1 := by omega
            have n11 : (i : Int) < (ls.length : Int) + 1 := by omega
            generalize rest (F - g) = v at *
            have n7 : IntKind.i64.wrap (co + v) = co + v := Go.IntWalk.i64_in _ (by omega)
            clear hwi
            by_cases hhit : co + v = left
            · have hh : (co + v == left) = true := by simp [hhit]
              have HLT : Hid (Least (hitB rest left F) l q (q : Int)) := hide (Least.hit HXQ.out (by rw [HHIT.out]; exact hh))
              clear hhit
              go_wp2_with fail
              go_quiet (fail)
              go_wp2_with fail
              refine ⟨⟨q, q, by omega, rfl, rfl, by rw [if_neg (by omega)]; exact HLT.out, below_drewN (HBR.out.alloc HBR.out.size _) _⟩, by simp [intOf]⟩
            · have hh : (co + v == left) = false := by simpa using hhit
              have HLT : Hid (Least (hitB rest left F) l q z) := hide (HLS2.out.miss HXQ.out (by rw [HHIT.out]; exact hh))
              clear hhit
              go_wp2_with fail
              go_quiet (fail)
              go_wp2_with fail
              refine ⟨⟨q, z, by omega, rfl, rfl, by rw [if_neg (by omega)]; exact HLT.out, below_drewN (HBR.out.alloc HBR.out.size _) _⟩, by simp [intOf]⟩
          · have ht1 : (((g &&& F : Nat) : Int) == (g : Int)) = false := by simp; omega
            have HLT : Hid (Least (hitB rest left F) l q z) := hide (HLS2.out.miss HXQ.out (by
              unfold hitB
              rw [withinB_and g F (by omega) (by omega)]
              simp [hwi]))
            clear hwi
            go_wp2_with fail
            go_quiet (fail)
            go_wp2_with fail
            refine ⟨⟨q, z, by omega, rfl, rfl, by rw [if_neg (by omega)]; exact HLT.out, below_drewN (HBR.out.alloc HBR.out.size _) _⟩, by simp [intOf]⟩
        · have HNUM : Hid (numAt ls k f i = z) := hide (by
            rw [HNUM0.out]
            have h5 := HLS.out
            by_cases h6 : i < k
            · rw [if_pos h6] at h5 ⊢
              exact h5.2.symm
            · rw [if_neg h6] at h5 ⊢
              obtain rfl : t = 0 := by omega
              rw [HPK.out]
              exact h5.idx.symm)
          have HZZ : Hid (z = -1 ∨ ∃ (m : Nat) (x : Offer), z = m ∧ l[m]? = some x ∧ x.1 &&& F = x.1) := hide (by
            have h5 := HLS.out
            by_cases h6 : i < k
            · rw [if_pos h6] at h5
              exact .inl h5.2
            · rw [if_neg h6] at h5
              rcases h5 with ⟨h5, _⟩ | ⟨m, x, h5, _, hx, hp, _⟩
              · exact .inl h5
              · refine .inr ⟨m, x, h5, hx, ?_⟩
                have h7 := HLB.out x (List.mem_of_getElem? hx)
                unfold hitB at hp
                rw [withinB_and x.1 F h7.2.1 (by omega)] at hp
                simp only [Bool.and_eq_true, beq_iff_eq] at hp
                exact hp.1)
          have HOWN := hide HRW.out.row
          have G4 : Hid (w1.heap.size ≤ wr.heap.size) := hide HRW.out.bel.size
          have hc0 : wr.cell? ⟨w1.heap.size, 0, none⟩ = some (.slice A' i cp) := cell_of_row wr w1.heap.size 0 _ _ (0, 0) HRW.out.loc
          have HEND : Hid ((t : Int) - 1 < 0 ∨ (i : Int) < (k : Int)) := hide (by omega)
          rcases HZZ.out with rfl | ⟨m, x, rfl, hx, hxw⟩
          · have HFR : Hid (freeAt ls k f (i + 1) = F) := hide (by rw [HFR0.out, HNUM.out]; rfl)
            rcases HEND.out with hend | hend
            · obtain rfl : t = 0 := by omega
              rw [show ((0 : Nat) : Int) - 1 = -1 from rfl]
              clear hend
              go_wp2_with (at_builtin; refine wpList_app rfl (.tmp 103) (.tmp 105) 33 rfl w1.heap.size (.int .i64 0) 1 8 infoI Try.underlying33 rfl (by decide) _ _ _ rfl HOWN.out 1 1 rfl rfl (G1.out _) G2.out G3.out G4.out ?_; intro v' w2 hown hg _ _; have hl2 := (hg.block w1.heap.size (lt_of_block HRW.out.loc) (Ne.symm (own_ne HRW.out.row HRW.out.loc (by simp)))).trans HRW.out.loc; have d0 := cell_of_row w2 w1.heap.size 0 _ _ (0, 0) hl2; simp at d0; have d1 : w2.frozen? ⟨w1.heap.size, 0, none⟩ = false := (by simp [World.frozen?, hl2]); obtain ⟨A2, cp2, hv2, _⟩ := own_sh hown; subst hv2; have HO := hide hown; have HG := hide hg; have HPU := hide (HRW.out.push hown hg HNUM.out); have HB2 : Hid (Below w.heap.size w w2) := hide (HBW.out.grown hg HBW.out.size (fun j hj => by have := (HRW.out.row.lt j hj).1; have := HZ1.out; omega)); have hx2 : w2.heap[w.heap.size]? = some (.cells #[.int .i64 (nn : Int), .slice (some ⟨bb, bo, none⟩) ls.length c] 24 (0, 0)) := (hg.block _ (lt_of_block HBXW.out) (fun e => by have := (HRW.out.row.lt _ e.symm).1; have := HZ1.out; omega)).trans HBXW.out; have xx1 : w2.cell? ⟨w.heap.size, 1, none⟩ = some (.slice (some ⟨bb, bo, none⟩) ls.length c) := cell_of_row w2 w.heap.size 1 _ _ (0, 0) hx2; have xx2 := HCELL.out w2 HB2.out; clear hown hg hl2 hx2)
              refine ⟨⟨i + 1, _, by omega, by go_num, by rw [HFR.out], HPU.out⟩, by simp [intOf]; omega⟩
            · have e1 : decide ((k : Int) ≤ (i : Int)) = false := by simp; omega
              have e2 : decide (k ≤ i) = false := by simp; omega
              by_cases h9 : 0 ≤ (t : Int) - 1
              · obtain ⟨q, rfl⟩ : ∃ q, t = q + 1 := ⟨t - 1, by omega⟩
                rw [show ((q + 1 : Nat) : Int) - 1 = (q : Int) from by omega]
                clear hend h9
                go_wp2_with (at_builtin; refine wpList_app rfl (.tmp 103) (.tmp 105) 33 rfl w1.heap.size (.int .i64 0) 1 8 infoI Try.underlying33 rfl (by decide) _ _ _ rfl HOWN.out 1 1 rfl rfl (G1.out _) G2.out G3.out G4.out ?_; intro v' w2 hown hg _ _; have hl2 := (hg.block w1.heap.size (lt_of_block HRW.out.loc) (Ne.symm (own_ne HRW.out.row HRW.out.loc (by simp)))).trans HRW.out.loc; have d0 := cell_of_row w2 w1.heap.size 0 _ _ (0, 0) hl2; simp at d0; have d1 : w2.frozen? ⟨w1.heap.size, 0, none⟩ = false := (by simp [World.frozen?, hl2]); obtain ⟨A2, cp2, hv2, _⟩ := own_sh hown; subst hv2; have HO := hide hown; have HG := hide hg; have HPU := hide (HRW.out.push hown hg HNUM.out); have HB2 : Hid (Below w.heap.size w w2) := hide (HBW.out.grown hg HBW.out.size (fun j hj => by have := (HRW.out.row.lt j hj).1; have := HZ1.out; omega)); have hx2 : w2.heap[w.heap.size]? = some (.cells #[.int .i64 (nn : Int), .slice (some ⟨bb, bo, none⟩) ls.length c] 24 (0, 0)) := (hg.block _ (lt_of_block HBXW.out) (fun e => by have := (HRW.out.row.lt _ e.symm).1; have := HZ1.out; omega)).trans HBXW.out; have xx1 : w2.cell? ⟨w.heap.size, 1, none⟩ = some (.slice (some ⟨bb, bo, none⟩) ls.length c) := cell_of_row w2 w.heap.size 1 _ _ (0, 0) hx2; have xx2 := HCELL.out w2 HB2.out; clear hown hg hl2 hx2)
                refine ⟨⟨i + 1, _, by omega, by go_num, by rw [HFR.out], HPU.out⟩, by simp [intOf]; omega⟩
              · obtain rfl : t = 0 := by omega
                rw [show ((0 : Nat) : Int) - 1 = -1 from rfl]
                clear hend h9
                go_wp2_with (at_builtin; refine wpList_app rfl (.tmp 103) (.tmp 105) 33 rfl w1.heap.size (.int .i64 0) 1 8 infoI Try.underlying33 rfl (by decide) _ _ _ rfl HOWN.out 1 1 rfl rfl (G1.out _) G2.out G3.out G4.out ?_; intro v' w2 hown hg _ _; have hl2 := (hg.block w1.heap.size (lt_of_block HRW.out.loc) (Ne.symm (own_ne HRW.out.row HRW.out.loc (by simp)))).trans HRW.out.loc; have d0 := cell_of_row w2 w1.heap.size 0 _ _ (0, 0) hl2; simp at d0; have d1 : w2.frozen? ⟨w1.heap.size, 0, none⟩ = false := (by simp [World.frozen?, hl2]); obtain ⟨A2, cp2, hv2, _⟩ := own_sh hown; subst hv2; have HO := hide hown; have HG := hide hg; have HPU := hide (HRW.out.push hown hg HNUM.out); have HB2 : Hid (Below w.heap.size w w2) := hide (HBW.out.grown hg HBW.out.size (fun j hj => by have := (HRW.out.row.lt j hj).1; have := HZ1.out; omega)); have hx2 : w2.heap[w.heap.size]? = some (.cells #[.int .i64 (nn : Int), .slice (some ⟨bb, bo, none⟩) ls.length c] 24 (0, 0)) := (hg.block _ (lt_of_block HBXW.out) (fun e => by have := (HRW.out.row.lt _ e.symm).1; have := HZ1.out; omega)).trans HBXW.out; have xx1 : w2.cell? ⟨w.heap.size, 1, none⟩ = some (.slice (some ⟨bb, bo, none⟩) ls.length c) := cell_of_row w2 w.heap.size 1 _ _ (0, 0) hx2; have xx2 := HCELL.out w2 HB2.out; clear hown hg hl2 hx2)
                refine ⟨⟨i + 1, _, by omega, by go_num, by rw [HFR.out], HPU.out⟩, by simp [intOf]; omega⟩
          · have hend : (t : Int) - 1 < 0 := by
              rcases HEND.out with h9 | h9
              · exact h9
              · exfalso
                have h5 := HLS.out
                rw [if_pos (by omega)] at h5
                omega
            have hml : m < l.length := (List.getElem?_eq_some_iff.1 hx).1
            obtain ⟨g, co⟩ := x
            simp only at hxw
            have hgx := HLB.out (g, co) (List.mem_of_getElem? hx)
            have hg32 : g < 4294967296 := hgx.2.1
            have hgf := within_le g F hxw
            have HFR : Hid (freeAt ls k f (i + 1) = F - g) := hide (by
              rw [HFR0.out, HNUM.out]
              unfold goesG
              rw [if_neg (by omega), Int.toNat_natCast, hx]
              exact lessG_sub g F hg32 hF32 hxw)
            have HQ : Hid (∀ W, Below w.heap.size w W → ∃ ob oo, a1 = some ⟨ob, oo, none⟩ ∧ W.cell? ⟨ob, oo + m * 2, none⟩ = some (.int .u32 (g : Int))) := hide (fun W hW => by
              obtain ⟨ob, oo, hA1, _, hoc⟩ := (HROW.out W hW).at_ (by omega)
              exact ⟨ob, oo, hA1, (hoc m (g, co) hx).1⟩)
            obtain ⟨ob, oo, hA1, _⟩ := HQ.out wr HBW.out
            subst hA1
            have HQ2 : Hid (∀ W, Below w.heap.size w W → W.cell? ⟨ob, oo + m * 2, none⟩ = some (.int .u32 (g : Int))) := hide (fun W hW => by
              obtain ⟨ob', oo', h5, h6⟩ := HQ.out W hW
              injection h5 with h5
              injection h5 with h5 h7 _
              subst h5 h7
              exact h6)
            have hgb : (g : Int) < 4294967296 := by omega
            have hmi : (m : Int) < (l.length : Int) := by omega
            have hFg : (g : Int) ≤ (F : Int) := by omega
            have hFb : (F : Int) < 4294967296 := by omega
            clear hx hxw
            obtain rfl : t = 0 := by omega
            rw [show ((0 : Nat) : Int) - 1 = -1 from rfl]
            clear hend
            go_wp2_with (at_builtin; refine wpList_app rfl (.tmp 103) (.tmp 105) 33 rfl w1.heap.size (.int .i64 0) 1 8 infoI Try.underlying33 rfl (by decide) _ _ _ rfl HOWN.out 1 1 rfl rfl (G1.out _) G2.out G3.out G4.out ?_; intro v' w2 hown hg _ _; have hl2 := (hg.block w1.heap.size (lt_of_block HRW.out.loc) (Ne.symm (own_ne HRW.out.row HRW.out.loc (by simp)))).trans HRW.out.loc; have d0 := cell_of_row w2 w1.heap.size 0 _ _ (0, 0) hl2; simp at d0; have d1 : w2.frozen? ⟨w1.heap.size, 0, none⟩ = false := (by simp [World.frozen?, hl2]); obtain ⟨A2, cp2, hv2, _⟩ := own_sh hown; subst hv2; have HO := hide hown; have HG := hide hg; have HPU := hide (HRW.out.push hown hg HNUM.out); have HB2 : Hid (Below w.heap.size w w2) := hide (HBW.out.grown hg HBW.out.size (fun j hj => by have := (HRW.out.row.lt j hj).1; have := HZ1.out; omega)); have hx2 : w2.heap[w.heap.size]? = some (.cells #[.int .i64 (nn : Int), .slice (some ⟨bb, bo, none⟩) ls.length c] 24 (0, 0)) := (hg.block _ (lt_of_block HBXW.out) (fun e => by have := (HRW.out.row.lt _ e.symm).1; have := HZ1.out; omega)).trans HBXW.out; have xx1 : w2.cell? ⟨w.heap.size, 1, none⟩ = some (.slice (some ⟨bb, bo, none⟩) ls.length c) := cell_of_row w2 w.heap.size 1 _ _ (0, 0) hx2; have HB3 := hide (HB1.out.trans (HPU.out.bel.mono HB1.out.size)); have xx2 := HCELL.out _ HB3.out; have xx4 := HQ2.out _ HB3.out; clear hown hg hl2 hx2)
            refine ⟨⟨i + 1, _, by omega, by go_num, by rw [HFR.out]; exact int_eq (by omega), HPU.out⟩, by simp [intOf]; omega⟩
    · obtain rfl : i = ls.length := by omega
      have c0 : wo.cell? ⟨w1.heap.size, 0, none⟩ = some (.slice A' ls.length cp) := cell_of_row wo w1.heap.size 0 _ _ (0, 0) HR.out.loc
      have c1 : wo.cell? ⟨w1.heap.size, 1, none⟩ = some (.int .i64 WV) := cell_of_row wo w1.heap.size 1 _ _ (0, 0) HR.out.loc
      have hy : wo.heap[w.heap.size + 1]? = some (.cells #[.slice none 0 0, .int .i64 0] 35 (0, 0)) := (HR.out.bel.block _ (lt_of_block HY1.out)).trans HY1.out
      have y0 : wo.cell? ⟨w.heap.size + 1, 0, none⟩ = some (.slice none 0 0) := cell_of_row wo (w.heap.size + 1) 0 _ _ (0, 0) hy
      have y1 : wo.cell? ⟨w.heap.size + 1, 1, none⟩ = some (.int .i64 0) := cell_of_row wo (w.heap.size + 1) 1 _ _ (0, 0) hy
      have y2 : ∀ i, wo.frozen? ⟨w.heap.size + 1, i, none⟩ = false := fun i => by simp [World.frozen?, hy]
      have HO := hide HR.out.row
      clear hy
      go_wp2_with fail
      refine bodyPost_ret (v := .tuple #[.agg #[.slice A' ls.length cp, .int .i64 WV], .int .i64 0]) (by simp [results, Try.results13, go_sem, y0, y1]) rfl ?_
      have hfa : ∀ {W : World} {i : Nat} {u v : Value} {xs : List Value} {n : Nat}, W.ownsRow w1.heap.size 3 1 v n xs → (W.setCell ⟨w.heap.size + 1, i, none⟩ u).ownsRow w1.heap.size 3 1 v n xs :=
        fun h => ownsRow_setCell_other h (fun e => by have h5 := (h.lt _ e).1; have h6 := HZ1.out; change _ ≤ w.heap.size + 1 at h5; omega) _
      have HCH : Hid ((List.range ls.length).map (numAt ls k f) = choiceK ls k f ∧ (choiceK ls k f).length = ls.length) := hide (⟨(choiceK_at ls k f hk).symm, choiceK_len ls k f hk⟩)
      refine ⟨.slice A' ls.length cp, by rw [HWV.out], ?_, ?_⟩
      · rw [← HCH.out.1]
        simp only [List.length_map, List.length_range]
        exact own_base (hfa (hfa HO.out)) (by have := HB1.out.size; omega)
      · repeat (refine Below.setCell ?_ (by show w.heap.size ≤ w.heap.size + 1; omega) _)
        exact HBO.out
end Go.Proofs.Ytkjmpenaifhfjaa
