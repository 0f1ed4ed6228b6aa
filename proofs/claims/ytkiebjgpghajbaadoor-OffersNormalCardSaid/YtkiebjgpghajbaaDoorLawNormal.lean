/- The walk of the law OffersNormal. (Printed by gen_normal8.py.) -/
import Derived.Test.YtkiebjgpghajbaaDoorLawTell
import Derived.Test.YtkiebjgpghajbaaDoorSpoilt
namespace Go.Proofs.YtkiebjgpghajbaaDoor
open Go.RowKit Go.Maps
open Go.ChangeMaps Go.WideMaps

set_option maxRecDepth 100000 in
set_option maxHeartbeats 16000000 in
theorem normalLaw_any (A : Option Addr) (c : Nat) (a : List Offer) (A' : Option Addr) (c' : Nat) (b : List Offer) (cc : Int) (w : World) (h : Offs w w.heap.size A a) (hc : a.length ≤ c) (h' : Offs w w.heap.size A' b) (hc' : b.length ≤ c') (hla : (a.length : Int) ≤ 9223372036854775807) (hlb : (b.length : Int) ≤ 9223372036854775807) (hwa : OWide a) (hwb : OWide b)
    (hcc : -9223372036854775808 ≤ cc ∧ cc ≤ 9223372036854775807) (hT : TabW w) :
    Calls Tryd.prog 6 #[.slice A a.length c, .slice A' b.length c', .int .i64 cc] w (LawPost w) := by
  have HB0 : Hid (Below w.heap.size w (w.alloc (.cells #[.slice A a.length c, .slice A' b.length c'] 22))) := hide ((Below.refl _ _).alloc (Nat.le_refl _) _)
  have HLO := hide (longO_any _ 2 _ _ _ (two_buys h hc h' hc') (by simp) (by intro l' hl'; simp at hl'; rcases hl' with rfl | rfl <;> assumption))
  have HOA := hide h
  have HOB := hide h'
  have HWA := hide hwa
  have HWB := hide hwb
  have HT := hide hT
  have HCC := hide hcc
  have HWK : Hid (∀ W, Below w.heap.size w W → Calls Tryd.prog 10 #[] W (ValPost (.bool true) W)) := hide (fun W hW => works_any W (HT.out.below hW))
  clear h hc h' hc' hwa hwb hT hcc
  simp only [List.length_cons, List.length_nil] at HLO
  go_enter Tryd.func6, Tryd.ntmps6
  go_wp2_with fail
  refine (HLO.out).mono ?_
  rintro e w1 ⟨bo, rfl, hbo, hb1⟩
  have HA_w := hide (HB0.out.trans (hb1.mono HB0.out.size))
  clear hb1 HLO HB0
  cases bo
  · have hla60 := (hbo rfl).2 a (by simp)
    have hlb60 := (hbo rfl).2 b (by simp)
    clear hbo
    go_wp2_with fail
    refine (lentO_any A c a w1 (HOA.out.up HA_w.out) (by omega)).mono ?_
    rintro e w2 ⟨Am, cm, rfl, hm, hb⟩
    replace HA_w : Hid (Below w.heap.size w w2) := hide (bt HA_w.out hb)
    have HM := hide hm
    clear hm
    clear hb
    have HA_w2 : Hid (Below w2.heap.size w2 w2) := hide (Below.refl _ _)
    go_wp2_with fail
    refine (lentO_any A' c' b w2 (HOB.out.up HA_w.out) (by omega)).mono ?_
    rintro e w3 ⟨Ao, co, rfl, ho, hb⟩
    replace HA_w : Hid (Below w.heap.size w w3) := hide (bt HA_w.out hb)
    replace HA_w2 : Hid (Below w2.heap.size w2 w3) := hide (bt HA_w2.out hb)
    have HO := hide ho
    clear ho
    clear hb
    have HA_w3 : Hid (Below w3.heap.size w3 w3) := hide (Below.refl _ _)
    have HLE := hide (Nat.le_trans (norm_len a HWA.out) (by omega : a.length ≤ 1000000))
    have HNA : Hid (∀ W, Below w.heap.size w W → Calls Tryd.prog 31 #[.slice A a.length c, .int .i64 0] W (ValPost (.bool (idleB a 0)) W)) := hide (fun W hW => refidle_any A c a 0 W (HOA.out.up hW) (by omega) HWA.out)
    have HIM : Hid (∀ W i, Below w2.heap.size w2 W → Calls Tryd.prog 30 #[.slice Am a.length cm, .int .i64 i] W (ValPost (.bool (idleB a i)) W)) := hide (fun W i hW => idle_any Am cm a i W (HM.out.offs.up hW) (by omega) HWA.out)
    have HIA : Hid (∀ W i, Below w.heap.size w W → Calls Tryd.prog 31 #[.slice A a.length c, .int .i64 i] W (ValPost (.bool (idleB a i)) W)) := hide (fun W i hW => refidle_any A c a i W (HOA.out.up hW) (by omega) HWA.out)
    have HNM : Hid (∀ W, Below w2.heap.size w2 W → Calls Tryd.prog 32 #[.slice Am a.length cm] W (ClonePost (normL a) W)) := hide (fun W hW => normal_any Am cm a W (HM.out.offs.up hW) (by omega) HWA.out)
    have HLM : Hid (∀ W, Below w2.heap.size w2 W → Calls Tryd.prog 33 #[.int .i64 cc, .slice Am a.length cm] W (ClonePost (lowerL cc a) W)) := hide (fun W hW => lower_any cc HCC.out Am cm a W (HM.out.offs.up hW) (by omega) HWA.out)
    have HRN : Hid (∀ W, Below w.heap.size w W → Calls Tryd.prog 34 #[.slice A a.length c] W (ClonePost (normL a) W)) := hide (fun W hW => refnormal_any A c a W (HOA.out.up hW) (by omega) HWA.out)
    have HRL : Hid (∀ W, Below w.heap.size w W → Calls Tryd.prog 35 #[.int .i64 cc, .slice A a.length c] W (ClonePost (lowerL cc a) W)) := hide (fun W hW => reflower_any cc HCC.out A c a W (HOA.out.up hW) (by omega) HWA.out)
    have HSM : Hid (∀ W, Below w2.heap.size w2 W → Below w3.heap.size w3 W → Calls Tryd.prog 37 #[.slice Am a.length cm, .slice Ao b.length co] W (ValPost (.bool (decide (normL a = normL b))) W)) := hide (fun W h2 h3 => same8_any Am cm a Ao co b W (HM.out.offs.up h2) (HO.out.offs.up h3) (by omega) (by omega) HWA.out HWB.out)
    have HSR : Hid (∀ W, Below w.heap.size w W → Calls Tryd.prog 38 #[.slice A a.length c, .slice A' b.length c'] W (ValPost (.bool (decide (normL a = normL b))) W)) := hide (fun W hW => refsame8_any A c a A' c' b W (HOA.out.up hW) (HOB.out.up hW) (by omega) (by omega) HWA.out HWB.out)
    have HKM : Hid (∀ W, OwnM W w1.heap.size Am cm a → Below w.heap.size w W → Calls Tryd.prog 13 #[.slice Am a.length cm, .slice A a.length c] W (ValPost (.bool true) W)) := hide (fun W hm hW => keptO_any _ Am cm A c a W hm (HOA.out.up hW) (by omega))
    have HKO : Hid (∀ W, OwnM W w2.heap.size Ao co b → Below w.heap.size w W → Calls Tryd.prog 13 #[.slice Ao b.length co, .slice A' b.length c'] W (ValPost (.bool true) W)) := hide (fun W hm hW => keptO_any _ Ao co A' c' b W hm (HOB.out.up hW) (by omega))
    have HNL : Hid ((normL a).length ≤ 1000000) := hide HLE.out
    have HLL : Hid ((lowerL cc a).length ≤ 1000000) := hide (Nat.le_trans (lower_len cc a) (by omega))
    have hlai : (a.length : Int) ≤ 60 := by omega
    have HMB := hide HM.out
    generalize normL a = na at *
    generalize normL b = nb at *
    generalize lowerL cc a = la at *
    clear HNA HLE
    go_wp2_with fail
    go_loopw [9] (fun iv wr => ∃ z : Int, -1 ≤ z ∧ z ≤ a.length + 1 ∧ iv = .int .i64 z ∧ Below w.heap.size w wr ∧ Below w2.heap.size w2 wr ∧ Below w3.heap.size w3 wr) (fun iv _ => (a.length + 1 - intOf iv).toNat)
    case atStart => exact ⟨-1, by omega, by omega, rfl, HA_w.out, HA_w2.out, HA_w3.out⟩
    case round =>
      clear HA_w HA_w2 HA_w3
      obtain ⟨z, hz0, hz1, rfl, hbw, hbw2, hbw3⟩ := hrel
      have HA_w := hide hbw
      have HA_w2 := hide hbw2
      have HA_w3 := hide hbw3
      clear hbw hbw2 hbw3
      by_cases hlt : z ≤ a.length
      · go_wp2_with fail
        refine (HIM.out wr z HA_w2.out).mono ?_
        rintro e w4 ⟨rfl, hb⟩
        replace HA_w : Hid (Below w.heap.size w w4) := hide (bt HA_w.out hb)
        replace HA_w2 : Hid (Below w2.heap.size w2 w4) := hide (bt HA_w2.out hb)
        replace HA_w3 : Hid (Below w3.heap.size w3 w4) := hide (bt HA_w3.out hb)
        clear hb
        go_wp2_with fail
        refine (HIA.out w4 z HA_w.out).mono ?_
        rintro e w5 ⟨rfl, hb⟩
        replace HA_w : Hid (Below w.heap.size w w5) := hide (bt HA_w.out hb)
        replace HA_w2 : Hid (Below w2.heap.size w2 w5) := hide (bt HA_w2.out hb)
        replace HA_w3 : Hid (Below w3.heap.size w3 w5) := hide (bt HA_w3.out hb)
        clear hb
        have hbb : (idleB a z != idleB a z) = false := by simp
        generalize idleB a z = q at *
        go_wp2_with fail
        go_roundw
        case rel => exact ⟨z + 1, by omega, by omega, by go_num, HA_w.out, HA_w2.out, HA_w3.out⟩
        case measure => simp [intOf]; omega
      · have HZ0 := hide HA_w.out.size
        have HZ2 := hide HA_w2.out.size
        obtain rfl : z = a.length + 1 := by omega
        have hlt' : ¬ ((a.length : Int) + 1 ≤ a.length) := hlt
        clear hz0 hz1 hlt
        go_wp2_with fail
        refine (HNM.out wr HA_w2.out).mono ?_
        rintro e w4 ⟨Ax, cx, rfl, hx, hb⟩
        replace HA_w : Hid (Below w.heap.size w w4) := hide (bt HA_w.out hb)
        replace HA_w2 : Hid (Below w2.heap.size w2 w4) := hide (bt HA_w2.out hb)
        replace HA_w3 : Hid (Below w3.heap.size w3 w4) := hide (bt HA_w3.out hb)
        have HX := hide hx
        have HZr4 := hide hb.size
        clear hx
        clear hb
        have HA_w4 : Hid (Below w4.heap.size w4 w4) := hide (Below.refl _ _)
        go_wp2_with fail
        refine (HNM.out w4 HA_w2.out).mono ?_
        rintro e w5 ⟨Ay, cy, rfl, hy, hb⟩
        replace HA_w : Hid (Below w.heap.size w w5) := hide (bt HA_w.out hb)
        replace HA_w2 : Hid (Below w2.heap.size w2 w5) := hide (bt HA_w2.out hb)
        replace HA_w3 : Hid (Below w3.heap.size w3 w5) := hide (bt HA_w3.out hb)
        replace HA_w4 : Hid (Below w4.heap.size w4 w5) := hide (bt HA_w4.out hb)
        have HY := hide hy
        clear hy
        clear hb
        have HA_w5 : Hid (Below w5.heap.size w5 w5) := hide (Below.refl _ _)
        have HZ45 := hide HA_w4.out.size
        have HZr5 := hide (Nat.le_trans HZr4.out HZ45.out)
        go_wp2_with fail
        refine (HLM.out w5 HA_w2.out).mono ?_
        rintro e w6 ⟨Av, cv, rfl, hv, hb⟩
        replace HA_w : Hid (Below w.heap.size w w6) := hide (bt HA_w.out hb)
        replace HA_w2 : Hid (Below w2.heap.size w2 w6) := hide (bt HA_w2.out hb)
        replace HA_w3 : Hid (Below w3.heap.size w3 w6) := hide (bt HA_w3.out hb)
        replace HA_w4 : Hid (Below w4.heap.size w4 w6) := hide (bt HA_w4.out hb)
        replace HA_w5 : Hid (Below w5.heap.size w5 w6) := hide (bt HA_w5.out hb)
        have HV := hide hv
        clear hv
        clear hb
        have HA_w6 : Hid (Below w6.heap.size w6 w6) := hide (Below.refl _ _)
        have HZ46 := hide HA_w4.out.size
        go_wp2_with fail
        refine (HLM.out w6 HA_w2.out).mono ?_
        rintro e w7 ⟨Aw, cw, rfl, hw, hb⟩
        replace HA_w : Hid (Below w.heap.size w w7) := hide (bt HA_w.out hb)
        replace HA_w2 : Hid (Below w2.heap.size w2 w7) := hide (bt HA_w2.out hb)
        replace HA_w3 : Hid (Below w3.heap.size w3 w7) := hide (bt HA_w3.out hb)
        replace HA_w4 : Hid (Below w4.heap.size w4 w7) := hide (bt HA_w4.out hb)
        replace HA_w5 : Hid (Below w5.heap.size w5 w7) := hide (bt HA_w5.out hb)
        replace HA_w6 : Hid (Below w6.heap.size w6 w7) := hide (bt HA_w6.out hb)
        have HW := hide hw
        clear hw
        clear hb
        have HA_w7 : Hid (Below w7.heap.size w7 w7) := hide (Below.refl _ _)
        have HZ47 := hide HA_w4.out.size
        have HZ67 := hide HA_w6.out.size
        go_wp2_with fail
        refine (HRN.out w7 HA_w.out).mono ?_
        rintro e w8 ⟨An, cn, rfl, hn, hb⟩
        replace HA_w : Hid (Below w.heap.size w w8) := hide (bt HA_w.out hb)
        replace HA_w2 : Hid (Below w2.heap.size w2 w8) := hide (bt HA_w2.out hb)
        replace HA_w3 : Hid (Below w3.heap.size w3 w8) := hide (bt HA_w3.out hb)
        replace HA_w4 : Hid (Below w4.heap.size w4 w8) := hide (bt HA_w4.out hb)
        replace HA_w5 : Hid (Below w5.heap.size w5 w8) := hide (bt HA_w5.out hb)
        replace HA_w6 : Hid (Below w6.heap.size w6 w8) := hide (bt HA_w6.out hb)
        replace HA_w7 : Hid (Below w7.heap.size w7 w8) := hide (bt HA_w7.out hb)
        have HN := hide hn
        clear hn
        clear hb
        have HA_w8 : Hid (Below w8.heap.size w8 w8) := hide (Below.refl _ _)
        have HZ48 := hide HA_w4.out.size
        have HZ68 := hide HA_w6.out.size
        go_wp2_with fail
        refine (HRL.out w8 HA_w.out).mono ?_
        rintro e w9 ⟨Al, cl, rfl, hl, hb⟩
        replace HA_w : Hid (Below w.heap.size w w9) := hide (bt HA_w.out hb)
        replace HA_w2 : Hid (Below w2.heap.size w2 w9) := hide (bt HA_w2.out hb)
        replace HA_w3 : Hid (Below w3.heap.size w3 w9) := hide (bt HA_w3.out hb)
        replace HA_w4 : Hid (Below w4.heap.size w4 w9) := hide (bt HA_w4.out hb)
        replace HA_w5 : Hid (Below w5.heap.size w5 w9) := hide (bt HA_w5.out hb)
        replace HA_w6 : Hid (Below w6.heap.size w6 w9) := hide (bt HA_w6.out hb)
        replace HA_w7 : Hid (Below w7.heap.size w7 w9) := hide (bt HA_w7.out hb)
        replace HA_w8 : Hid (Below w8.heap.size w8 w9) := hide (bt HA_w8.out hb)
        have HL := hide hl
        clear hl
        clear hb
        have HA_w9 : Hid (Below w9.heap.size w9 w9) := hide (Below.refl _ _)
        have HS1 := hide (sameOffers_any Ax cx na An cn na w9 ((Two.of_own HX.out rfl).up HA_w4.out) ((Two.of_own HN.out rfl).up HA_w8.out) HNL.out)
        rw [decide_eq_true rfl] at HS1
        go_wp2_with fail
        refine (HS1.out).mono ?_
        rintro e w10 ⟨rfl, hb⟩
        replace HA_w : Hid (Below w.heap.size w w10) := hide (bt HA_w.out hb)
        replace HA_w2 : Hid (Below w2.heap.size w2 w10) := hide (bt HA_w2.out hb)
        replace HA_w3 : Hid (Below w3.heap.size w3 w10) := hide (bt HA_w3.out hb)
        replace HA_w4 : Hid (Below w4.heap.size w4 w10) := hide (bt HA_w4.out hb)
        replace HA_w5 : Hid (Below w5.heap.size w5 w10) := hide (bt HA_w5.out hb)
        replace HA_w6 : Hid (Below w6.heap.size w6 w10) := hide (bt HA_w6.out hb)
        replace HA_w7 : Hid (Below w7.heap.size w7 w10) := hide (bt HA_w7.out hb)
        replace HA_w8 : Hid (Below w8.heap.size w8 w10) := hide (bt HA_w8.out hb)
        replace HA_w9 : Hid (Below w9.heap.size w9 w10) := hide (bt HA_w9.out hb)
        clear hb
        have HS2 := hide (sameOffers_any Av cv la Al cl la w10 ((Two.of_own HV.out rfl).up HA_w6.out) ((Two.of_own HL.out rfl).up HA_w9.out) HLL.out)
        rw [decide_eq_true rfl] at HS2
        clear HS1
        go_wp2_with fail
        refine (HS2.out).mono ?_
        rintro e w11 ⟨rfl, hb⟩
        replace HA_w : Hid (Below w.heap.size w w11) := hide (bt HA_w.out hb)
        replace HA_w2 : Hid (Below w2.heap.size w2 w11) := hide (bt HA_w2.out hb)
        replace HA_w3 : Hid (Below w3.heap.size w3 w11) := hide (bt HA_w3.out hb)
        replace HA_w4 : Hid (Below w4.heap.size w4 w11) := hide (bt HA_w4.out hb)
        replace HA_w5 : Hid (Below w5.heap.size w5 w11) := hide (bt HA_w5.out hb)
        replace HA_w6 : Hid (Below w6.heap.size w6 w11) := hide (bt HA_w6.out hb)
        replace HA_w7 : Hid (Below w7.heap.size w7 w11) := hide (bt HA_w7.out hb)
        replace HA_w8 : Hid (Below w8.heap.size w8 w11) := hide (bt HA_w8.out hb)
        replace HA_w9 : Hid (Below w9.heap.size w9 w11) := hide (bt HA_w9.out hb)
        clear hb
        go_wp2_with fail
        refine (HSM.out w11 HA_w2.out HA_w3.out).mono ?_
        rintro e w12 ⟨rfl, hb⟩
        replace HA_w : Hid (Below w.heap.size w w12) := hide (bt HA_w.out hb)
        replace HA_w2 : Hid (Below w2.heap.size w2 w12) := hide (bt HA_w2.out hb)
        replace HA_w3 : Hid (Below w3.heap.size w3 w12) := hide (bt HA_w3.out hb)
        replace HA_w4 : Hid (Below w4.heap.size w4 w12) := hide (bt HA_w4.out hb)
        replace HA_w5 : Hid (Below w5.heap.size w5 w12) := hide (bt HA_w5.out hb)
        replace HA_w6 : Hid (Below w6.heap.size w6 w12) := hide (bt HA_w6.out hb)
        replace HA_w7 : Hid (Below w7.heap.size w7 w12) := hide (bt HA_w7.out hb)
        replace HA_w8 : Hid (Below w8.heap.size w8 w12) := hide (bt HA_w8.out hb)
        replace HA_w9 : Hid (Below w9.heap.size w9 w12) := hide (bt HA_w9.out hb)
        clear hb
        have hbb : (decide (na = nb) != decide (na = nb)) = false := by simp
        go_wp2_with fail
        refine (HSR.out w12 HA_w.out).mono ?_
        rintro e w13 ⟨rfl, hb⟩
        replace HA_w : Hid (Below w.heap.size w w13) := hide (bt HA_w.out hb)
        replace HA_w2 : Hid (Below w2.heap.size w2 w13) := hide (bt HA_w2.out hb)
        replace HA_w3 : Hid (Below w3.heap.size w3 w13) := hide (bt HA_w3.out hb)
        replace HA_w4 : Hid (Below w4.heap.size w4 w13) := hide (bt HA_w4.out hb)
        replace HA_w5 : Hid (Below w5.heap.size w5 w13) := hide (bt HA_w5.out hb)
        replace HA_w6 : Hid (Below w6.heap.size w6 w13) := hide (bt HA_w6.out hb)
        replace HA_w7 : Hid (Below w7.heap.size w7 w13) := hide (bt HA_w7.out hb)
        replace HA_w8 : Hid (Below w8.heap.size w8 w13) := hide (bt HA_w8.out hb)
        replace HA_w9 : Hid (Below w9.heap.size w9 w13) := hide (bt HA_w9.out hb)
        clear hb
        generalize decide (na = nb) = dq at *
        go_wp2_with fail
        refine (HKM.out w13 (HM.out.below HA_w2.out) HA_w.out).mono ?_
        rintro e w14 ⟨rfl, hb⟩
        replace HA_w : Hid (Below w.heap.size w w14) := hide (bt HA_w.out hb)
        replace HA_w2 : Hid (Below w2.heap.size w2 w14) := hide (bt HA_w2.out hb)
        replace HA_w3 : Hid (Below w3.heap.size w3 w14) := hide (bt HA_w3.out hb)
        replace HA_w4 : Hid (Below w4.heap.size w4 w14) := hide (bt HA_w4.out hb)
        replace HA_w5 : Hid (Below w5.heap.size w5 w14) := hide (bt HA_w5.out hb)
        replace HA_w6 : Hid (Below w6.heap.size w6 w14) := hide (bt HA_w6.out hb)
        replace HA_w7 : Hid (Below w7.heap.size w7 w14) := hide (bt HA_w7.out hb)
        replace HA_w8 : Hid (Below w8.heap.size w8 w14) := hide (bt HA_w8.out hb)
        replace HA_w9 : Hid (Below w9.heap.size w9 w14) := hide (bt HA_w9.out hb)
        clear hb
        go_wp2_with fail
        refine (HKO.out w14 (HO.out.below HA_w3.out) HA_w.out).mono ?_
        rintro e w15 ⟨rfl, hb⟩
        replace HA_w : Hid (Below w.heap.size w w15) := hide (bt HA_w.out hb)
        replace HA_w2 : Hid (Below w2.heap.size w2 w15) := hide (bt HA_w2.out hb)
        replace HA_w3 : Hid (Below w3.heap.size w3 w15) := hide (bt HA_w3.out hb)
        replace HA_w4 : Hid (Below w4.heap.size w4 w15) := hide (bt HA_w4.out hb)
        replace HA_w5 : Hid (Below w5.heap.size w5 w15) := hide (bt HA_w5.out hb)
        replace HA_w6 : Hid (Below w6.heap.size w6 w15) := hide (bt HA_w6.out hb)
        replace HA_w7 : Hid (Below w7.heap.size w7 w15) := hide (bt HA_w7.out hb)
        replace HA_w8 : Hid (Below w8.heap.size w8 w15) := hide (bt HA_w8.out hb)
        replace HA_w9 : Hid (Below w9.heap.size w9 w15) := hide (bt HA_w9.out hb)
        clear hb
        have HX1 := hide (own_below HX.out HA_w4.out (Nat.le_refl _))
        have HV1 := hide (own_below HV.out HA_w6.out (Nat.le_refl _))
        have HY1 := hide (own_below HY.out HA_w5.out (Nat.le_refl _))
        have HW1 := hide (own_below HW.out HA_w7.out (Nat.le_refl _))
        have HN1 := hide (own_below HN.out HA_w8.out (Nat.le_refl _))
        have HL1 := hide (own_below HL.out HA_w9.out (Nat.le_refl _))
        have HM1 := hide (HM.out.below HA_w2.out)
        have hX := HX.out.lt
        have hY := HY.out.lt
        have hV := HV.out.lt
        have hW := HW.out.lt
        have hN := HN.out.lt
        have hL := HL.out.lt
        have hM := HM.out.row.lt
        skip
        have HXY := hide (apart_of (fun k e => (hX k e).2) (fun k e => (hY k e).1))
        have HXV := hide (apart_of (fun k e => (hX k e).2) (fun k e => Nat.le_trans HZ45.out (hV k e).1))
        have HXW := hide (apart_of (fun k e => (hX k e).2) (fun k e => Nat.le_trans HZ46.out (hW k e).1))
        have HXN := hide (apart_of (fun k e => (hX k e).2) (fun k e => Nat.le_trans HZ47.out (hN k e).1))
        have HXL := hide (apart_of (fun k e => (hX k e).2) (fun k e => Nat.le_trans HZ48.out (hL k e).1))
        have HXM := hide (apart_of' (fun k e => Nat.lt_of_lt_of_le (hM k e).2 HZ2.out) (fun k e => (hX k e).1))
        have HVY := hide (apart_of' (fun k e => (hY k e).2) (fun k e => (hV k e).1))
        have HVW := hide (apart_of (fun k e => (hV k e).2) (fun k e => (hW k e).1))
        have HVN := hide (apart_of (fun k e => (hV k e).2) (fun k e => Nat.le_trans HZ67.out (hN k e).1))
        have HVL := hide (apart_of (fun k e => (hV k e).2) (fun k e => Nat.le_trans HZ68.out (hL k e).1))
        have HVM := hide (apart_of' (fun k e => Nat.lt_of_lt_of_le (hM k e).2 (Nat.le_trans HZ2.out HZr5.out)) (fun k e => (hV k e).1))
        have HXw := hide (fun k e => Nat.le_trans HZ0.out (hX k e).1)
        have HVw := hide (fun k e => Nat.le_trans (Nat.le_trans HZ0.out HZr5.out) (hV k e).1)
        have HB5 := hide (HA_w5.out.size)
        have HBr := hide (Nat.le_trans HZr5.out HA_w5.out.size)
        clear hX hY hV hW hN hL hM HX HY HV HW HN HL HA_w2 HA_w3 HA_w4 HA_w5 HA_w6 HA_w7 HA_w8 HA_w9 HZ45 HZ46 HZ47 HZ48 HZ67 HZ68 HZ2 HZ0 HZr5 HM HO
        go_wp2_with fail
        refine (spoilt_any w15 HX1.out HNL.out HBr.out).mono ?_
        rintro e w16 ⟨rfl, hg⟩
        replace HA_w : Hid (Below w.heap.size w w16) := hide (HA_w.out.grown hg HA_w.out.size (fun k e => HXw.out k e))
        replace HY1 := hide (own_far HY1.out hg HXY.out)
        replace HV1 := hide (own_far HV1.out hg HXV.out)
        replace HW1 := hide (own_far HW1.out hg HXW.out)
        replace HN1 := hide (own_far HN1.out hg HXN.out)
        replace HL1 := hide (own_far HL1.out hg HXL.out)
        replace HM1 : Hid (OwnM w16 w1.heap.size Am cm a) := hide ⟨own_far HM1.out.row hg HXM.out⟩
        replace HB5 := hide (Nat.le_trans HB5.out hg.size)
        clear hg HX1 HXY HXV HXW HXN HXL HXM HXw
        go_wp2_with fail
        refine (spoilt_any w16 HV1.out HLL.out HB5.out).mono ?_
        rintro e w17 ⟨rfl, hg⟩
        replace HA_w : Hid (Below w.heap.size w w17) := hide (HA_w.out.grown hg HA_w.out.size (fun k e => HVw.out k e))
        replace HY1 := hide (own_far HY1.out hg HVY.out)
        replace HW1 := hide (own_far HW1.out hg HVW.out)
        replace HN1 := hide (own_far HN1.out hg HVN.out)
        replace HL1 := hide (own_far HL1.out hg HVL.out)
        replace HM1 : Hid (OwnM w17 w1.heap.size Am cm a) := hide ⟨own_far HM1.out.row hg HVM.out⟩
        clear hg HV1 HVY HVW HVN HVL HVM HVw
        have HA_w17 : Hid (Below w17.heap.size w17 w17) := hide (Below.refl _ _)
        have HS1 := hide (sameOffers_any Ay cy na An cn na w17 (Two.of_own HY1.out rfl) (Two.of_own HN1.out rfl) HNL.out)
        rw [decide_eq_true rfl] at HS1
        go_wp2_with fail
        refine (HS1.out).mono ?_
        rintro e w18 ⟨rfl, hb⟩
        replace HA_w : Hid (Below w.heap.size w w18) := hide (bt HA_w.out hb)
        replace HA_w17 : Hid (Below w17.heap.size w17 w18) := hide (bt HA_w17.out hb)
        clear hb
        have HS2 := hide (sameOffers_any Aw cw la Al cl la w18 ((Two.of_own HW1.out rfl).up HA_w17.out) ((Two.of_own HL1.out rfl).up HA_w17.out) HLL.out)
        rw [decide_eq_true rfl] at HS2
        clear HS1
        go_wp2_with fail
        refine (HS2.out).mono ?_
        rintro e w19 ⟨rfl, hb⟩
        replace HA_w : Hid (Below w.heap.size w w19) := hide (bt HA_w.out hb)
        replace HA_w17 : Hid (Below w17.heap.size w17 w19) := hide (bt HA_w17.out hb)
        clear hb
        go_wp2_with fail
        refine (HKM.out w19 (HM1.out.below HA_w17.out) HA_w.out).mono ?_
        rintro e w20 ⟨rfl, hb⟩
        replace HA_w : Hid (Below w.heap.size w w20) := hide (bt HA_w.out hb)
        replace HA_w17 : Hid (Below w17.heap.size w17 w20) := hide (bt HA_w17.out hb)
        clear hb
        go_wp2_with fail
        refine (HWK.out w20 HA_w.out).mono ?_
        rintro e w21 ⟨rfl, hb⟩
        replace HA_w : Hid (Below w.heap.size w w21) := hide (bt HA_w.out hb)
        replace HA_w17 : Hid (Below w17.heap.size w17 w21) := hide (bt HA_w17.out hb)
        clear hb
        go_wp2_with fail
        go_ret
        exact ⟨rfl, HA_w.out⟩
  · clear hbo
    go_wp2_with fail
    refine (HWK.out w1 HA_w.out).mono ?_
    rintro e w2 ⟨rfl, hb⟩
    replace HA_w : Hid (Below w.heap.size w w2) := hide (bt HA_w.out hb)
    clear hb
    go_wp2_with fail
    go_ret
    exact ⟨rfl, HA_w.out⟩
end Go.Proofs.YtkiebjgpghajbaaDoor
