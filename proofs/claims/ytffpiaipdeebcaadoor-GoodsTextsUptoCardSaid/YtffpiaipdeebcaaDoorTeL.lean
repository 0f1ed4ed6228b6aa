/- The walk of the law GoodsTexts. -/
import Derived.Test.YtffpiaipdeebcaaDoorTeG
import Derived.Test.YtffpiaipdeebcaaDoorTeS
import Derived.Test.YtffpiaipdeebcaaDoorKn7
namespace Go.Proofs.YtffpiaipdeebcaaDoor
open Go.RowKit Go.Maps Go.Shelf
open Go.ChangeMaps Go.WideMaps

set_option maxRecDepth 100000 in
set_option maxHeartbeats 8000000 in
theorem textsLaw_any (s : Nat) (hs : s < 4294967296) (t : ByteArray) (ht : t.size < 4294967281) (w : World) (hT : TabW w) (hM : MlW w) (hE : ErrW w) :
    Calls Tryd.prog 4 #[.int .u32 (s : Int), .string t] w (ValPost (.bool true) w) := by
  have HKN := hide (fun W (hb : Below w.heap.size w W) => known_any W (hT.below hb) (hM.below hb))
  have HNM := hide (fun n W => num_any n W)
  have HTX := hide (fun g (hg : g < 4294967296) W (hb : Below w.heap.size w W) => text_any g hg W (hT.below hb))
  have HPA := hide (fun W (hb : Below w.heap.size w W) => parse_any (textG s) (Nat.lt_of_le_of_lt (textG_short hs) (by decide)) W (hT.below hb) (hM.below hb) (hE.below hb))
  have HPB := hide (fun W (hb : Below w.heap.size w W) => parse_any t ht W (hT.below hb) (hM.below hb) (hE.below hb))
  have HRP := hide (fun W => refparse_any t W)
  have HRT := hide (fun W => reftext_any s hs W)
  unfold SamePost at HNM
  unfold ValPost at HKN HTX HPA HPB HRP HRT
  rw [parse_text hs] at HPA
  rw [← parse_same t] at HRP
  have hp0 : (parseG t).2 = 0 → textG (parseG t).1 = t := parse_back
  have hpl := parseG_lt t
  obtain ⟨⟨a, e⟩, hpt⟩ : ∃ r, parseG t = r := ⟨_, rfl⟩
  rw [hpt] at HPB HRP hp0 hpl
  simp only at HPB HRP hp0 hpl HPA
  have HP0 := hide hp0
  have HPL := hide hpl
  obtain ⟨ts, hts⟩ : ∃ ts, textG s = ts := ⟨_, rfl⟩
  obtain ⟨ta, hta⟩ : ∃ ta, textG a = ta := ⟨_, rfl⟩
  rw [hta] at HP0
  have HTA := hide (fun W (hb : Below w.heap.size w W) => HTX.out a hpl W hb)
  have HTS := hide (fun W (hb : Below w.heap.size w W) => HTX.out s hs W hb)
  rw [hta] at HTA
  rw [hts] at HTS HPA HRT
  clear hpt hts hta hp0 hpl hT hM hE ht HTX
  go_enter Tryd.func4, Tryd.ntmps4
  go_upto_region 2 with (go_at_call 23; refine (HTS.out _ (Below.refl _ _)).mono ?_; rintro e1 w1 ⟨rfl, hb⟩; have HB1 := hide hb; clear hb)
  go_upto_region 3 with (go_at_call 24; refine (HPA.out _ HB1.out).mono ?_; rintro e2 w2 ⟨rfl, hb⟩; have HB2 := hide (HB1.out.trans (hb.mono HB1.out.size)); clear hb)
  go_upto_region 4 with (go_at_call 24; refine (HPB.out _ HB2.out).mono ?_; rintro e3 w3 ⟨rfl, hb⟩; have HB3 := hide (HB2.out.trans (hb.mono HB2.out.size)); clear hb)
  go_upto_region 5 with (go_at_call 25; refine (HRP.out _).mono ?_; rintro e4 w4 ⟨rfl, hb⟩; have HB4 := hide (HB3.out.trans (hb.mono HB3.out.size)); clear hb)
  by_cases he : e = 0
  · subst he
    obtain rfl := HP0.out rfl
    clear HP0
    go_wp2_with (first
      | (go_at_call 26; refine (HRT.out _).mono ?_; rintro e5 w5 ⟨rfl, hb⟩; have HB5 := hide (HB4.out.trans (hb.mono HB4.out.size)); clear hb)
      | (go_at_call 15; refine (HNM.out _ _).mono ?_; rintro e6 w6 ⟨rfl, rfl⟩)
      | (go_at_call 23; refine (HTA.out _ HB5.out).mono ?_; rintro e6 w6 ⟨rfl, hb⟩; have HB6 := hide (HB5.out.trans (hb.mono HB5.out.size)); clear hb)
      | (go_at_call 22; refine (HKN.out _ HB6.out).mono ?_; rintro e7 w7 ⟨rfl, hb⟩; have HB7 := hide (HB6.out.trans (hb.mono HB6.out.size)); clear hb))
    go_ret
    exact ⟨rfl, HB7.out⟩
  · have hef : (e == 0) = false := beq_eq_false_iff_ne.2 he
    clear HP0
    go_wp2_with (first
      | (go_at_call 26; refine (HRT.out _).mono ?_; rintro e5 w5 ⟨rfl, hb⟩; have HB5 := hide (HB4.out.trans (hb.mono HB4.out.size)); clear hb)
      | (go_at_call 15; refine (HNM.out _ _).mono ?_; rintro e6 w6 ⟨rfl, rfl⟩)
      | (go_at_call 22; refine (HKN.out _ HB5.out).mono ?_; rintro e7 w7 ⟨rfl, hb⟩; have HB7 := hide (HB5.out.trans (hb.mono HB5.out.size)); clear hb))
    go_ret
    exact ⟨rfl, HB7.out⟩
end Go.Proofs.YtffpiaipdeebcaaDoor
