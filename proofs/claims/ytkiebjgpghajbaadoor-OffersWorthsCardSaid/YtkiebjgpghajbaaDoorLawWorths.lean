/- The walk of the law OffersWorths. -/
import Derived.Test.YtkiebjgpghajbaaDoorWorks8
import Derived.Test.YtkiebjgpghajbaaDoorSpoilt
import Derived.Test.YtkiebjgpghajbaaDoorWorthsC
import Derived.Test.YtkiebjgpghajbaaDoorGoesB
namespace Go.Proofs.YtkiebjgpghajbaaDoor
open Go.RowKit Go.Maps
open Go.ChangeMaps Go.WideMaps

set_option maxRecDepth 100000 in
set_option maxHeartbeats 8000000 in
theorem worthsLaw_any (n : Int) (A : Option Addr) (c : Nat) (l : List Offer) (q : Int) (w : World) (h : Offs w w.heap.size A l) (hc : l.length ≤ c) (hl : (l.length : Int) ≤ 9223372036854775807) (hw : OWide l) (hT : TabW w) :
    Calls Tryd.prog 3 #[.int .i64 n, .slice A l.length c, .int .i64 q] w (LawPost w) := by
  have HB0 : Hid (Below w.heap.size w (w.alloc (.cells #[.slice A l.length c] 22))) := hide ((Below.refl _ _).alloc (Nat.le_refl _) _)
  have HLO := hide (longO_any _ 1 _ _ _ (one_buys h hc) (by simp) (by intro l' hl'; simp at hl'; subst hl'; exact hl))
  have HA := hide h
  have HWD := hide hw
  have HT := hide hT
  have HWK : Hid (∀ W, Below w.heap.size w W → Calls Tryd.prog 10 #[] W (ValPost (.bool true) W)) := hide (fun W hW => works_any W (HT.out.below hW))
  clear h hc hw hT
  simp only [List.length_singleton] at HLO
  go_enter Tryd.func3, Tryd.ntmps3
  go_wp2_with fail
  refine (HLO.out).mono ?_
  rintro e w1 ⟨b, rfl, hb, hb1⟩
  have HB1 := hide (HB0.out.trans (hb1.mono HB0.out.size))
  clear hb1 HLO
  cases b
  · have hl60 := (hb rfl).2 l (List.mem_singleton.2 rfl)
    clear hb
    have HL60 : Hid (l.length ≤ 1000000) := hide (by omega)
    have HLE := hide (lentO_any A c l w1 (HA.out.up HB1.out) (by omega))
    go_wp2_with fail
    refine (HLE.out).mono ?_
    rintro e w2 ⟨Am, cm, rfl, hm, hb2⟩
    have HM := hide hm
    have HB12 := hide hb2
    have HB2 := hide (HB1.out.trans (hb2.mono HB1.out.size))
    have hmz : Am = none → cm = 0 := fun e => by obtain ⟨g, e', _⟩ := hm.cells; rw [e] at e'; cases e'
    have HWS := hide (worths_has n Am cm l w2 hm.offs HL60.out hmz)
    have HMZ : Hid (∀ k, (Value.slice Am l.length cm).ownBlock = some k → k < w2.heap.size) := hide (fun k e => ((own_front hm.row (Nat.le_succ l.length) (Nat.succ_pos _)).lt k e).2)
    clear hm hb2 HLE hmz
    go_wp2_with fail
    refine (HWS.out).mono ?_
    rintro e w3 ⟨A1, c1, rfl, h1, h2, hown, hb3⟩
    have HB3 := hide (HB2.out.trans (hb3.mono HB2.out.size))
    have HX1 := hide h1
    have HX2 := hide h2
    have HO := hide hown
    have HM3 := hide (HM.out.below hb3)
    have HZ23 := hide hb3.size
    have HKE := hide (keptO_any w1.heap.size Am cm A c l w3 HM3.out (HA.out.up HB3.out) HL60.out)
    clear h1 h2 hown hb3 HM HWS
    go_wp2_with fail
    refine (HKE.out).mono ?_
    rintro e w4 ⟨rfl, hb4⟩
    replace HB3 := hide (HB3.out.trans (hb4.mono HB3.out.size))
    replace HX1 := hide ((hb4.block _ (lt_of_block HX1.out)).trans HX1.out)
    replace HX2 := hide ((hb4.block _ (lt_of_block HX2.out)).trans HX2.out)
    replace HO := hide (own_below HO.out hb4 (Nat.le_refl _))
    replace HM3 := hide (HM3.out.below hb4)
    have HZ24 := hide (Nat.le_trans HZ23.out hb4.size)
    clear hb4 HKE
    have HSP := hide (spoilt_any w4 (own_front HM3.out.row (Nat.le_succ l.length) (Nat.succ_pos _)) HL60.out (Nat.le_trans HB12.out.size HZ24.out))
    go_wp2_with fail
    refine (HSP.out).mono ?_
    rintro e w5 ⟨rfl, hg⟩
    have hm5 : ∀ k, (Value.slice Am l.length cm).ownBlock = some k → w1.heap.size ≤ k ∧ k < w2.heap.size := fun k e => by
      have hk := (own_front HM3.out.row (Nat.le_succ l.length) (Nat.succ_pos _)).lt k e
      exact ⟨hk.1, HMZ.out k e⟩
    have HB5 : Hid (Below w.heap.size w w5) := hide (HB3.out.grown hg HB3.out.size (fun k e => Nat.le_trans HB1.out.size (hm5 k e).1))
    have HY1 := hide ((hg.block _ (lt_of_block HX1.out) (fun e => by have := (hm5 _ e.symm).2; omega)).trans HX1.out)
    have HY2 := hide ((hg.block _ (lt_of_block HX2.out) (fun e => by have := (hm5 _ e.symm).2; omega)).trans HX2.out)
    have HO5 := hide (own_far HO.out hg (apart_of (C := w2.heap.size) (fun k e => (hm5 k e).2) (fun k e => by have := (HO.out.lt k e).1; omega)))
    have HGO : Hid (∀ W, Below w5.heap.size w5 W → ∀ q : Int, Calls Tryd.prog 15 #[.func (.func 45) #[] #[.pointer (some ⟨w2.heap.size, 0, none⟩), .pointer (some ⟨w2.heap.size + 1, 0, none⟩)], .int .i64 n, .slice A l.length c, .int .i64 q] W (ValPost (.bool true) W)) := hide (fun W hW q => by
      by_cases hn : 1 ≤ n ∧ n ≤ 10
      · obtain ⟨m, rfl⟩ : ∃ m : Nat, n = m := ⟨n.toNat, by omega⟩
        exact goes_good (by omega) (by omega) l HL60.out HWD.out A1 c1 _ _ A c q W ((hW.block _ (lt_of_block HY1.out)).trans HY1.out) ((hW.block _ (lt_of_block HY2.out)).trans HY2.out) (Two.of_own (own_below HO5.out hW (Nat.le_refl _)) rfl)
          (fun g o e => by subst e; have := (HO5.out.lt g rfl).2; have := hW.size; omega) (HA.out.up (HB5.out.trans (hW.mono HB5.out.size)))
      · exact goes_bad (by omega) l _ _ A l.length c q W ((hW.block _ (lt_of_block HY1.out)).trans HY1.out))
    have HA_w5 : Hid (Below w5.heap.size w5 w5) := hide (Below.refl _ _)
    clear hg hm5 HX1 HX2 HO HM3 HY1 HY2 HO5 HSP
    go_wp2_with fail
    refine (HGO.out w5 (Below.refl _ _) q).mono ?_
    rintro e w6 ⟨rfl, hb6⟩
    have HB6 := hide hb6
    clear hb6
    go_wp2_with fail
    refine (HGO.out w6 HB6.out 0).mono ?_
    rintro e w7 ⟨rfl, hb7⟩
    have HB7 := hide (HB5.out.trans ((HB6.out.trans (hb7.mono HB6.out.size)).mono HB5.out.size))
    clear hb7
    go_wp2_with fail
    refine (HWK.out w7 HB7.out).mono ?_
    rintro e w11 ⟨rfl, hb11⟩
    have HB11 := hide (HB7.out.trans (hb11.mono HB7.out.size))
    clear hb11
    go_wp2_with fail
    go_ret
    exact ⟨rfl, HB11.out⟩
  · clear hb
    go_wp2_with fail
    refine (HWK.out w1 HB1.out).mono ?_
    rintro e w11 ⟨rfl, hb11⟩
    have HB11 := hide (HB1.out.trans (hb11.mono HB1.out.size))
    clear hb11
    go_wp2_with fail
    go_ret
    exact ⟨rfl, HB11.out⟩
end Go.Proofs.YtkiebjgpghajbaaDoor
