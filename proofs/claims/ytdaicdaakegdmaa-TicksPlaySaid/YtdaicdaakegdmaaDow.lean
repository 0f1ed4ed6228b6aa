/- The walk of container/heap's down over a calendar's row. -/
import Derived.Test.YtdaicdaakegdmaaHea
namespace Go.Proofs.Ytdaicdaakegdmaa
open Go.RowKit Go.Maps Go.Shelf
open Go.ChangeMaps Go.WideMaps

theorem downD_end {l : List Du} {i n : Nat} (h : ¬ 2 * i + 1 < n) : downD l i n = (l, i) := by rw [downD, dif_neg h]
theorem downD_stop {l : List Du} {i n : Nat} (h : 2 * i + 1 < n) (h2 : ltD (gD l (kidD l i n)) (gD l i) = false) : downD l i n = (l, i) := by rw [downD, dif_pos h, if_neg (by rw [h2]; simp)]
theorem downD_go {l : List Du} {i n : Nat} (h : 2 * i + 1 < n) (h2 : ltD (gD l (kidD l i n)) (gD l i) = true) : downD l i n = downD (swD l i (kidD l i n)) (kidD l i n) n := by rw [downD, dif_pos h, if_pos h2]
set_option maxRecDepth 100000 in
set_option maxHeartbeats 8000000 in
theorem down_any {w : World} {B p r x m : Nat} {v : Value} {now : Int} {l : List Du} (h : Cal w B p r x m v now l) (i n : Nat) (hi : i < l.length ∨ i = 0) (hn : n ≤ l.length) :
    Calls Try.prog 43 #[.iface 65 (.pointer (some ⟨r, 0, none⟩)), .int .i64 (i : Int), .int .i64 (n : Int)] w (StayP B p r x m v now (downD l i n).1 (.bool (decide (i < (downD l i n).2))) w) := by
  have ml := meth_less (.pointer (some ⟨r, 0, none⟩))
  have ms := meth_swap (.pointer (some ⟨r, 0, none⟩))
  have el := ent86
  have es := ent89
  have HD := hide h
  have HL := hide h.len
  obtain ⟨R, hR⟩ : ∃ R, R = downD l i n := ⟨_, rfl⟩
  rw [← hR]
  have HR := hide hR
  clear h hR
  go_enter Try.func43, Try.ntmps43
  go_wp2_with fail
  go_loopw [7] (fun iv wr => ∃ (t : Nat) (l' : List Du), iv = .int .i64 t ∧ Cal wr B p r x m v now l' ∧ Only (Foot p r m v) w wr ∧ downD l' t n = R ∧ l'.length = l.length ∧ t ≤ 1000000) (fun iv _ => n - (intOf iv).toNat)
  case atStart => exact ⟨i, l, rfl, HD.out, Only.refl _ _, HR.out.symm, rfl, by have := HL.out; omega⟩
  case round =>
    obtain ⟨t, l', rfl, hc, ho, hu, hll, htb⟩ := hrel
    have HO := hide ho
    have HU := hide hu
    have HC := hide hc
    have HLL := hide hll
    clear hc ho hu hll
    have hm1 : IntKind.i64.wrap (2 * (t : Int)) = 2 * (t : Int) := Go.IntWalk.i64_in _ (by omega)
    have hm2 : IntKind.i64.wrap (2 * (t : Int) + 1) = ((2 * t + 1 : Nat) : Int) := by rw [Go.IntWalk.i64_in _ (by omega)]; omega
    have hm3 : IntKind.i64.wrap (((2 * t + 1 : Nat) : Int) + 1) = ((2 * t + 2 : Nat) : Int) := by rw [Go.IntWalk.i64_in _ (by omega)]; omega
    obtain ⟨a, ha⟩ : ∃ a, a = 2 * t + 1 := ⟨_, rfl⟩
    obtain ⟨b, hb⟩ : ∃ b, b = 2 * t + 2 := ⟨_, rfl⟩
    rw [← ha] at hm2 hm3
    rw [← hb] at hm3
    have ha0 : ¬ (a : Int) < 0 := by omega
    by_cases h1 : a < n
    · have h1' : ¬ (n : Int) ≤ (a : Int) := by omega
      have h1'' : decide ((n : Int) ≤ (a : Int)) = false := by simpa using h1'
      have h12 : 2 * t + 1 < n := by omega
      have hta : t < l'.length := by have := HLL.out; omega
      have hal : a < l'.length := by have := HLL.out; omega
      have HA := hide ha
      have HB := hide hb
      by_cases h2 : b < n
      · have h2' : (b : Int) < (n : Int) := by omega
        have hbl : b < l'.length := by have := HLL.out; omega
        have HLS := hide (less_cal HC.out b a hbl hal)
        cases hs : ltD (gD l' b) (gD l' a) with
        | true =>
          rw [hs] at HLS
          have HK : Hid (kidD l' t n = b) := hide (by unfold kidD; rw [if_pos ⟨by omega, by rw [← HA.out, ← HB.out]; exact hs⟩, ← HB.out])
          clear hs
          have HLK : Hid (∀ W, Cal W B p r x m v now l' → Calls Try.prog 86 #[.pointer (some ⟨r, 0, none⟩), .int .i64 (b : Int), .int .i64 (t : Int)] W (LessP (ltD (gD l' b) (gD l' t)) W)) := hide (fun W hW => less_cal hW b t hbl hta)
          cases hg : ltD (gD l' b) (gD l' t) with
          | false =>
            rw [hg] at HLK
            have hE : Hid (R = (l', t)) := hide (by rw [← HU.out, downD_stop h12 (by rw [HK.out]; exact hg)])
            clear ha hb
            go_wp2_with fail
            refine (HLS.out).mono ?_
            rintro _ w2 ⟨rfl, hb2⟩
            have HC1 := hide (CalF.below HC.out hb2)
            have HO1 : Hid (Only (Foot p r m v) w w2) := hide (only_below HO.out hb2)
            have HLK1 := hide (HLK.out w2 HC1.out)
            clear hb2
            go_wp2_with (go_at_fn 86; refine (HLK1.out).mono ?_; rintro _ w3 ⟨rfl, hb3⟩; have HC3 := hide (CalF.below HC1.out hb3); have HO3 : Hid (Only (Foot p r m v) w w3) := hide (only_below HO1.out hb3); clear hb3)
            go_ret
            exact ⟨by rw [hE.out]; rfl, by rw [hE.out]; exact HC3.out, HO3.out⟩
          | true =>
            rw [hg] at HLK
            have hE : Hid (downD (swD l' t b) b n = R) := hide (by rw [← HU.out, downD_go h12 (by rw [HK.out]; exact hg), HK.out])
            have HAK : Hid (t < b ∧ b < n) := hide ⟨by omega, by omega⟩
            clear ha hb
            go_wp2_with fail
            refine (HLS.out).mono ?_
            rintro _ w2 ⟨rfl, hb2⟩
            have HC1 := hide (CalF.below HC.out hb2)
            have HO1 : Hid (Only (Foot p r m v) w w2) := hide (only_below HO.out hb2)
            have HLK1 := hide (HLK.out w2 HC1.out)
            clear hb2
            go_wp2_with (first | (go_at_fn 86; refine (HLK1.out).mono ?_; rintro _ w3 ⟨rfl, hb3⟩; have HC3 := hide (CalF.below HC1.out hb3); have HO3 : Hid (Only (Foot p r m v) w w3) := hide (only_below HO1.out hb3); clear hb3) | (go_at_fn 89; refine (swap_any HC3.out t b hta hbl).mono ?_; rintro _ w4 ⟨rfl, hc4, ho4⟩; have HC4 := hide hc4; have HO4 : Hid (Only (Foot p r m v) w w4) := hide (HO3.out.trans ho4 (fun _ _ h => h)); clear hc4 ho4))
            go_roundw
            case rel => exact ⟨b, swD l' t b, rfl, HC4.out, HO4.out, hE.out, by rw [swD_length]; exact HLL.out, by have := HAK.out; have := HL.out; omega⟩
            case measure => have := HAK.out; simp [intOf]; omega
        | false =>
          rw [hs] at HLS
          have HK : Hid (kidD l' t n = a) := hide (by unfold kidD; rw [if_neg (by rw [← HA.out, ← HB.out, hs]; simp), ← HA.out])
          clear hs
          have HLK : Hid (∀ W, Cal W B p r x m v now l' → Calls Try.prog 86 #[.pointer (some ⟨r, 0, none⟩), .int .i64 (a : Int), .int .i64 (t : Int)] W (LessP (ltD (gD l' a) (gD l' t)) W)) := hide (fun W hW => less_cal hW a t hal hta)
          cases hg : ltD (gD l' a) (gD l' t) with
          | false =>
            rw [hg] at HLK
            have hE : Hid (R = (l', t)) := hide (by rw [← HU.out, downD_stop h12 (by rw [HK.out]; exact hg)])
            clear ha hb
            go_wp2_with fail
            refine (HLS.out).mono ?_
            rintro _ w2 ⟨rfl, hb2⟩
            have HC1 := hide (CalF.below HC.out hb2)
            have HO1 : Hid (Only (Foot p r m v) w w2) := hide (only_below HO.out hb2)
            have HLK1 := hide (HLK.out w2 HC1.out)
            clear hb2
            go_wp2_with (go_at_fn 86; refine (HLK1.out).mono ?_; rintro _ w3 ⟨rfl, hb3⟩; have HC3 := hide (CalF.below HC1.out hb3); have HO3 : Hid (Only (Foot p r m v) w w3) := hide (only_below HO1.out hb3); clear hb3)
            go_ret
            exact ⟨by rw [hE.out]; rfl, by rw [hE.out]; exact HC3.out, HO3.out⟩
          | true =>
            rw [hg] at HLK
            have hE : Hid (downD (swD l' t a) a n = R) := hide (by rw [← HU.out, downD_go h12 (by rw [HK.out]; exact hg), HK.out])
            have HAK : Hid (t < a ∧ a < n) := hide ⟨by omega, by omega⟩
            clear ha hb
            go_wp2_with fail
            refine (HLS.out).mono ?_
            rintro _ w2 ⟨rfl, hb2⟩
            have HC1 := hide (CalF.below HC.out hb2)
            have HO1 : Hid (Only (Foot p r m v) w w2) := hide (only_below HO.out hb2)
            have HLK1 := hide (HLK.out w2 HC1.out)
            clear hb2
            go_wp2_with (first | (go_at_fn 86; refine (HLK1.out).mono ?_; rintro _ w3 ⟨rfl, hb3⟩; have HC3 := hide (CalF.below HC1.out hb3); have HO3 : Hid (Only (Foot p r m v) w w3) := hide (only_below HO1.out hb3); clear hb3) | (go_at_fn 89; refine (swap_any HC3.out t a hta hal).mono ?_; rintro _ w4 ⟨rfl, hc4, ho4⟩; have HC4 := hide hc4; have HO4 : Hid (Only (Foot p r m v) w w4) := hide (HO3.out.trans ho4 (fun _ _ h => h)); clear hc4 ho4))
            go_roundw
            case rel => exact ⟨a, swD l' t a, rfl, HC4.out, HO4.out, hE.out, by rw [swD_length]; exact HLL.out, by have := HAK.out; have := HL.out; omega⟩
            case measure => have := HAK.out; simp [intOf]; omega
      · have h2' : ¬ (b : Int) < (n : Int) := by omega
        have HK : Hid (kidD l' t n = a) := hide (by unfold kidD; rw [if_neg (by omega), ← HA.out])
        have HLK := hide (less_cal HC.out a t hal hta)
        cases hg : ltD (gD l' a) (gD l' t) with
        | false =>
          rw [hg] at HLK
          have hE : Hid (R = (l', t)) := hide (by rw [← HU.out, downD_stop h12 (by rw [HK.out]; exact hg)])
          clear ha hb
          go_wp2_with (go_at_fn 86; refine (HLK.out).mono ?_; rintro _ w3 ⟨rfl, hb3⟩; have HC3 := hide (CalF.below HC.out hb3); have HO3 : Hid (Only (Foot p r m v) w w3) := hide (only_below HO.out hb3); clear hb3)
          go_ret
          exact ⟨by rw [hE.out]; rfl, by rw [hE.out]; exact HC3.out, HO3.out⟩
        | true =>
          rw [hg] at HLK
          have hE : Hid (downD (swD l' t a) a n = R) := hide (by rw [← HU.out, downD_go h12 (by rw [HK.out]; exact hg), HK.out])
          have HAK : Hid (t < a ∧ a < n) := hide ⟨by omega, by omega⟩
          clear ha hb
          go_wp2_with (first | (go_at_fn 86; refine (HLK.out).mono ?_; rintro _ w3 ⟨rfl, hb3⟩; have HC3 := hide (CalF.below HC.out hb3); have HO3 : Hid (Only (Foot p r m v) w w3) := hide (only_below HO.out hb3); clear hb3) | (go_at_fn 89; refine (swap_any HC3.out t a hta hal).mono ?_; rintro _ w4 ⟨rfl, hc4, ho4⟩; have HC4 := hide hc4; have HO4 : Hid (Only (Foot p r m v) w w4) := hide (HO3.out.trans ho4 (fun _ _ h => h)); clear hc4 ho4))
          go_roundw
          case rel => exact ⟨a, swD l' t a, rfl, HC4.out, HO4.out, hE.out, by rw [swD_length]; exact HLL.out, by have := HAK.out; have := HL.out; omega⟩
          case measure => have := HAK.out; simp [intOf]; omega
    · have h1' : (n : Int) ≤ (a : Int) := by omega
      have hE : Hid (R = (l', t)) := hide (by rw [← HU.out, downD_end (by omega)])
      clear ha hb
      go_wp2_with fail
      go_ret
      exact ⟨by rw [hE.out]; rfl, by rw [hE.out]; exact HC.out, HO.out⟩
end Go.Proofs.Ytdaicdaakegdmaa
