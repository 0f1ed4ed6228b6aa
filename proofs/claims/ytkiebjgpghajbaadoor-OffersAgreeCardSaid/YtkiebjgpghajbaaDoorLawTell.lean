/- The law OffersTell: its walk. -/
import Derived.Test.YtkiebjgpghajbaaDoorWorks8
import Derived.Test.YtkiebjgpghajbaaDoorSpoilt
namespace Go.Proofs.YtkiebjgpghajbaaDoor
open Go.RowKit Go.Maps
open Go.ChangeMaps Go.WideMaps

set_option maxRecDepth 100000 in
set_option maxHeartbeats 8000000 in
theorem tell_any (n : Int) (A : Option Addr) (c : Nat) (l : List Offer) (g : Nat) (w : World) (h : Offs w w.heap.size A l) (hc : l.length ≤ c) (hl : (l.length : Int) ≤ 9223372036854775807) (hw : OWide l) (hg : g < 4294967296) (hT : TabW w) :
    Calls Tryd.prog 5 #[.int .i64 n, .slice A l.length c, .int .u32 (g : Int)] w (LawPost w) := by
  have HB0 : Hid (Below w.heap.size w (w.alloc (.cells #[.slice A l.length c] 22))) := hide ((Below.refl _ _).alloc (Nat.le_refl _) _)
  have HLO := hide (longO_any _ 1 _ _ _ (one_buys h hc) (by simp) (by intro l' hl'; simp at hl'; subst hl'; exact hl))
  have HA := hide h
  have HWD := hide hw
  have HT := hide hT
  have HWK : Hid (∀ W, Below w.heap.size w W → Calls Tryd.prog 10 #[] W (ValPost (.bool true) W)) := hide (fun W hW => works_any W (HT.out.below hW))
  clear h hc hw hT
  simp only [List.length_singleton] at HLO
  go_enter Tryd.func5, Tryd.ntmps5
  go_wp2_with fail
  refine (HLO.out).mono ?_
  rintro e w1 ⟨b, rfl, hb, hb1⟩
  have HB1 := hide (HB0.out.trans (hb1.mono HB0.out.size))
  clear hb1 HLO
  cases b
  · have hl60 := (hb rfl).2 l (List.mem_singleton.2 rfl)
    clear hb
    have HLE := hide (lentO_any A c l w1 (HA.out.up HB1.out) (by omega))
    go_wp2_with fail
    refine (HLE.out).mono ?_
    rintro e w2 ⟨Am, cm, rfl, hm, hb2⟩
    have HM := hide hm
    have HB2 := hide (HB1.out.trans (hb2.mono HB1.out.size))
    clear hm hb2 HLE
    have H3 : Hid (∀ W, Below w2.heap.size w2 W → Calls Tryd.prog 24 #[.int .i64 n, .slice Am l.length cm] W (CheckPost n l W)) := hide (fun W hW => check_any n Am cm l W (HM.out.offs.up hW) (by omega) HWD.out)
    have H4 : Hid (∀ W, Below w2.heap.size w2 W → Calls Tryd.prog 25 #[.int .i64 n, .slice A l.length c] W (CheckPost n l W)) := hide (fun W hW => check08_any n A c l W (HA.out.up (HB2.out.trans (hW.mono HB2.out.size))) (by omega) HWD.out)
    have H5 : Hid (∀ W, Below w2.heap.size w2 W → Calls Tryd.prog 26 #[.slice Am l.length cm, .int .u32 (g : Int)] W (ValPost (.tuple #[.int .i64 (worthL g l).1, .int .i64 (worthL g l).2]) W)) := hide (fun W hW => worth8_any Am cm l g hg W (HM.out.offs.up hW) (by omega) HWD.out)
    have H6 : Hid (∀ W, Below w2.heap.size w2 W → Calls Tryd.prog 27 #[.slice A l.length c, .int .u32 (g : Int)] W (ValPost (.tuple #[.int .i64 (worthL g l).1, .int .i64 (worthL g l).2]) W)) := hide (fun W hW => refworth8_any A c l g hg W (HA.out.up (HB2.out.trans (hW.mono HB2.out.size))) (by omega) HWD.out)
    have H7 : Hid (∀ W, Below w2.heap.size w2 W → Calls Tryd.prog 28 #[.slice Am l.length cm] W (ValPost (.tuple #[.int .i64 (greatL l).1, .int .i64 (greatL l).2]) W)) := hide (fun W hW => great8_any Am cm l W (HM.out.offs.up hW) (by omega) HWD.out)
    have H8 : Hid (∀ W, Below w2.heap.size w2 W → Calls Tryd.prog 29 #[.slice A l.length c] W (ValPost (.tuple #[.int .i64 (greatL l).1, .int .i64 (greatL l).2]) W)) := hide (fun W hW => refgreat8_any A c l W (HA.out.up (HB2.out.trans (hW.mono HB2.out.size))) (by omega) HWD.out)
    have H9 : Hid (∀ W, Below w2.heap.size w2 W → Calls Tryd.prog 13 #[.slice Am l.length cm, .slice A l.length c] W (ValPost (.bool true) W)) := hide (fun W hW => keptO_any _ Am cm A c l W (HM.out.below hW) (HA.out.up (HB2.out.trans (hW.mono HB2.out.size))) (by omega))
    unfold CheckPost at H3 H4
    generalize checkO n l = ck at *
    generalize worthL g l = wo at *
    generalize greatL l = gr at *
    obtain ⟨ck1, ck2⟩ := ck
    obtain ⟨wo1, wo2⟩ := wo
    obtain ⟨gr1, gr2⟩ := gr
    simp only at H3 H4 H5 H6 H7 H8
    go_wp2_with fail
    refine (H3.out _ (Below.refl _ _)).mono ?_
    rintro e w3 ⟨rfl, hb3⟩
    have HB3 := hide hb3
    clear hb3 H3
    go_wp2_with fail
    refine (H4.out w3 HB3.out).mono ?_
    rintro e w4 ⟨rfl, hb4⟩
    have HB4 := hide (HB3.out.trans (hb4.mono HB3.out.size))
    clear hb4 H4
    go_wp2_with fail
    refine (H5.out w4 HB4.out).mono ?_
    rintro e w5 ⟨rfl, hb5⟩
    have HB5 := hide (HB4.out.trans (hb5.mono HB4.out.size))
    clear hb5 H5
    go_wp2_with fail
    refine (H6.out w5 HB5.out).mono ?_
    rintro e w6 ⟨rfl, hb6⟩
    have HB6 := hide (HB5.out.trans (hb6.mono HB5.out.size))
    clear hb6 H6
    go_wp2_with fail
    refine (H7.out w6 HB6.out).mono ?_
    rintro e w7 ⟨rfl, hb7⟩
    have HB7 := hide (HB6.out.trans (hb7.mono HB6.out.size))
    clear hb7 H7
    go_wp2_with fail
    refine (H8.out w7 HB7.out).mono ?_
    rintro e w8 ⟨rfl, hb8⟩
    have HB8 := hide (HB7.out.trans (hb8.mono HB7.out.size))
    clear hb8 H8
    have HNU := hide (num_any ck2 w8)
    go_wp2_with fail
    refine (HNU.out).mono ?_
    rintro e w9 ⟨rfl, hb9⟩
    have HB9 := hide (HB8.out.trans (hb9.mono HB8.out.size))
    clear hb9 HNU
    go_wp2_with fail
    refine (H9.out w9 HB9.out).mono ?_
    rintro e w10 ⟨rfl, hb10⟩
    have HB10 := hide (HB9.out.trans (hb10.mono HB9.out.size))
    have HB2A := hide (HB2.out.trans (HB10.out.mono HB2.out.size))
    clear hb10 H9
    go_wp2_with fail
    refine (HWK.out w10 HB2A.out).mono ?_
    rintro e w11 ⟨rfl, hb11⟩
    have HB11 := hide (HB2A.out.trans (hb11.mono HB2A.out.size))
    clear hb11
    go_wp2_with fail
    go_ret
    exact ⟨rfl, HB11.out⟩
  · clear hb
    go_wp2_with fail
    refine (HWK.out w1 HB1.out).mono ?_
    rintro e w11 ⟨rfl, hb11⟩
    have HB11 := hide (HB1.out.trans (hb11.mono HB1.out.size))
    clear hb11
    go_wp2_with fail
    go_ret
    exact ⟨rfl, HB11.out⟩
end Go.Proofs.YtkiebjgpghajbaaDoor
