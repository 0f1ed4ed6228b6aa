/- The walk of MoneyTexts. -/
import Derived.Test.YtgjeihgkcmheeaaDoorTxW
import Derived.Test.YtgjeihgkcmheeaaDoorWrk
namespace Go.Proofs.YtgjeihgkcmheeaaDoor
open Go.RowKit Go.Shelf

set_option maxRecDepth 100000 in
set_option maxHeartbeats 8000000 in
theorem texts_any {w : World} {s : ByteArray} {c : Int} (h0 : -9223372036854775808 ≤ c) (h1 : c ≤ 9223372036854775807) (hs : s.size ≤ 281474976710656) (hL : LdW w) : Calls Tryd.prog 5 #[.int .i64 c, .string s] w (BelP (.bool true) w) := by
  have HWK := hide (fun W hW => works_any W hW)
  have HLD := hide hL
  have HNM := hide (fun x W => num_any x W)
  have HP1 := hide (parse_any s hs w hL)
  have HP2 := hide (fun W => docParse_any s hs W)
  rw [← parse_doc] at HP2
  have HTX := hide (fun W hW => text_any c h0 h1 W hW)
  have HDT := hide (fun W hW => docText_any c h0 h1 W hW)
  have HP3 := hide (fun W hW => parse_any (textB c) (textB_size h0 h1) W hW)
  rw [parse_text] at HP3
  have HAR := hide (fun W => docAre_any c W)
  obtain ⟨a, ha⟩ : ∃ a, (parseC s).1 = a := ⟨_, rfl⟩
  obtain ⟨e, he⟩ : ∃ e, (parseC s).2 = e := ⟨_, rfl⟩
  rw [ha, he] at HP1 HP2
  generalize textB c = T at *
  have ea : (a == a) = true := by simp
  have ee : (e == e) = true := by simp
  have eT : (T.toList == T.toList) = true := by simp
  clear ha he h0 h1 hs hL
  cases hc : isC c with
  | true =>
    rw [hc] at HAR
    rw [hc, if_pos rfl] at HP3
    have ec : (c == c) = true := by simp
    clear hc
    go_enter Tryd.func5, Tryd.ntmps5
    go_wp2_with fail
    refine (HP1.out).mono ?_
    rintro _ w1 ⟨rfl, hb1⟩
    have HB1 := hide hb1
    clear hb1
    go_wp2_with fail
    refine (HP2.out _).mono ?_
    rintro _ _ ⟨rfl, rfl⟩
    rename World => w1
    go_wp2_with fail
    refine (HTX.out _ (HLD.out.below HB1.out)).mono ?_
    rintro _ w2 ⟨rfl, hb2⟩
    have HB2 := hide (HB1.out.trans (hb2.mono HB1.out.size))
    clear hb2
    go_wp2_with fail
    refine (HP3.out _ (HLD.out.below HB2.out)).mono ?_
    rintro _ w3 ⟨rfl, hb3⟩
    have HB3 := hide (HB2.out.trans (hb3.mono HB2.out.size))
    clear hb3
    go_wp2_with fail
    refine (HAR.out _).mono ?_
    rintro _ _ ⟨rfl, rfl⟩
    rename World => w3
    go_wp2_with fail
    refine (HTX.out _ (HLD.out.below HB3.out)).mono ?_
    rintro _ w4 ⟨rfl, hb4⟩
    have HB4 := hide (HB3.out.trans (hb4.mono HB3.out.size))
    clear hb4
    go_wp2_with fail
    refine (HDT.out _ (HLD.out.below HB4.out)).mono ?_
    rintro _ w5 ⟨rfl, hb5⟩
    have HB5 := hide (HB4.out.trans (hb5.mono HB4.out.size))
    clear hb5
    go_wp2_with fail
    refine (HNM.out _ _).mono ?_
    rintro _ _ ⟨rfl, rfl⟩
    rename World => w5
    go_wp2_with fail
    refine (HNM.out _ _).mono ?_
    rintro _ _ ⟨rfl, rfl⟩
    rename World => w5
    go_wp2_with fail
    refine (HWK.out _ (HLD.out.below HB5.out)).mono ?_
    rintro _ w6 ⟨rfl, hb6⟩
    have HB6 := hide (HB5.out.trans (hb6.mono HB5.out.size))
    clear hb6
    go_wp2_with fail
    go_ret
    exact ⟨rfl, HB6.out⟩
  | false =>
    rw [hc] at HAR
    rw [hc, if_neg (by simp)] at HP3
    clear hc
    go_enter Tryd.func5, Tryd.ntmps5
    go_wp2_with fail
    refine (HP1.out).mono ?_
    rintro _ w1 ⟨rfl, hb1⟩
    have HB1 := hide hb1
    clear hb1
    go_wp2_with fail
    refine (HP2.out _).mono ?_
    rintro _ _ ⟨rfl, rfl⟩
    rename World => w1
    go_wp2_with fail
    refine (HTX.out _ (HLD.out.below HB1.out)).mono ?_
    rintro _ w2 ⟨rfl, hb2⟩
    have HB2 := hide (HB1.out.trans (hb2.mono HB1.out.size))
    clear hb2
    go_wp2_with fail
    refine (HP3.out _ (HLD.out.below HB2.out)).mono ?_
    rintro _ w3 ⟨rfl, hb3⟩
    have HB3 := hide (HB2.out.trans (hb3.mono HB2.out.size))
    clear hb3
    go_wp2_with fail
    refine (HAR.out _).mono ?_
    rintro _ _ ⟨rfl, rfl⟩
    rename World => w3
    go_wp2_with fail
    refine (HTX.out _ (HLD.out.below HB3.out)).mono ?_
    rintro _ w4 ⟨rfl, hb4⟩
    have HB4 := hide (HB3.out.trans (hb4.mono HB3.out.size))
    clear hb4
    go_wp2_with fail
    refine (HDT.out _ (HLD.out.below HB4.out)).mono ?_
    rintro _ w5 ⟨rfl, hb5⟩
    have HB5 := hide (HB4.out.trans (hb5.mono HB4.out.size))
    clear hb5
    go_wp2_with fail
    refine (HNM.out _ _).mono ?_
    rintro _ _ ⟨rfl, rfl⟩
    rename World => w5
    go_wp2_with fail
    refine (HNM.out _ _).mono ?_
    rintro _ _ ⟨rfl, rfl⟩
    rename World => w5
    go_wp2_with fail
    refine (HWK.out _ (HLD.out.below HB5.out)).mono ?_
    rintro _ w6 ⟨rfl, hb6⟩
    have HB6 := hide (HB5.out.trans (hb6.mono HB5.out.size))
    clear hb6
    go_wp2_with fail
    go_ret
    exact ⟨rfl, HB6.out⟩
end Go.Proofs.YtgjeihgkcmheeaaDoor
