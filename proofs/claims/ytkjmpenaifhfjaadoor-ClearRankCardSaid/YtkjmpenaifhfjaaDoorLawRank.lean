/- The law ClearRank: its walk. -/
import Derived.Test.YtkjmpenaifhfjaaDoorKept
import Derived.Test.YtkjmpenaifhfjaaDoorOpen
import Derived.Test.YtkjmpenaifhfjaaDoorLawB
import Derived.Test.YtkjmpenaifhfjaaDoorCompare
namespace Go.Proofs.YtkjmpenaifhfjaaDoor
open Go.RowKit Go.Maps
open Go.ChangeMaps Go.WideMaps

set_option maxRecDepth 100000 in
set_option maxHeartbeats 2000000 in
theorem sameInts_wide (A : Option Addr) (c : Nat) (A' : Option Addr) (c' : Nat) (l : List Int) (w : World) (h : One intV w w.heap.size A l) (h' : One intV w w.heap.size A' l) (hl : l.length * 8 ≤ 140737488351232) :
    Calls Tryd.prog 10 #[.slice A l.length c, .slice A' l.length c'] w (ValPost (.bool true) w) := by
  have hat := One.at_ h
  have hat' := One.at_ h'
  clear h h'
  go_enter Tryd.func10, Tryd.ntmps10
  go_wp2_with fail
  go_loopw [5] (fun iv wr => ∃ k : Nat, k ≤ l.length ∧ iv = .int .i64 k ∧ Below w.heap.size w wr) (fun iv _ => l.length - (intOf iv).toNat)
  case atStart => exact ⟨0, Nat.zero_le _, rfl, Below.refl _ _⟩
  case round =>
    obtain ⟨k, hk, rfl, hb⟩ := hrel
    have HB := hide hb
    by_cases hlt : k < l.length
    · obtain ⟨b, o, rfl, hbB, hcc⟩ := hat (by omega)
      obtain ⟨b', o', rfl, hbB', hcc'⟩ := hat' (by omega)
      obtain ⟨x, hx⟩ : ∃ x, l[k]? = some x := ⟨l[k], List.getElem?_eq_getElem hlt⟩
      have d0 := (hb.cell (p := ⟨b, o + k, none⟩) hbB).trans (hcc k x hx)
      have f0 := (hb.cell (p := ⟨b', o' + k, none⟩) hbB').trans (hcc' k x hx)
      unfold intV at d0 f0
      have hki : (k : Int) < (l.length : Int) := by omega
      clear hcc hcc' hat hat' hx hb
      go_wp2_with fail
      go_quiet (fail)
      go_wp2_with fail
      go_roundw
      case rel => exact ⟨k + 1, by omega, by go_num, below_drewN HB.out _⟩
      case measure => simp [intOf]; omega
    · obtain rfl : k = l.length := by omega
      go_wp2_with fail
      go_ret
      exact ⟨rfl, HB.out⟩

/-- A list and one number more, and its front. -/
theorem front_one {w : World} {base e c g : Nat} {l : List Int} {z : Int} (h : w.ownsRow base e 1 (.slice (some ⟨g, 0, none⟩) (l.length + 1) c) (l.length + 1) (l.map (Value.int .i64) ++ [.int .i64 z])) :
    One intV w w.heap.size (some ⟨g, 0, none⟩) l ∧ w.cell? ⟨g, l.length, none⟩ = some (.int .i64 z) := by
  constructor
  · have h5 := Reads.front (k := l.length) (Reads.of_own h) (by omega)
    rw [Nat.mul_one, List.take_append_of_le_length (by simp), List.take_of_length_le (by simp)] at h5
    exact h5
  · have := h.cells (g := g) rfl l.length (.int .i64 z) (by rw [List.getElem?_append_right (by simp)]; simp)
    rwa [addr0] at this

set_option maxRecDepth 100000 in
set_option maxHeartbeats 4000000 in
theorem clearRank_any (n : Int) (A : Option Addr) (c : Nat) (hs : List Hdr) (ls : List (List Offer)) (Aa : Option Addr) (ca : Nat) (a : List Int) (Ab : Option Addr) (cb : Nat) (b : List Int) (w : World) (h : Buys w w.heap.size A hs ls) (hl : ls.length ≤ maxLen) (hls : ∀ l ∈ ls, l.length ≤ maxLen) (hw : BWide ls)
    (ha : One intV w w.heap.size Aa a) (hb : One intV w w.heap.size Ab b) (hra : a.length * 8 ≤ 140737488351232) (hrb : b.length * 8 ≤ 140737488351232) (hT : TabW w) :
    Calls Tryd.prog 3 #[instV n A ls.length c, .slice Aa a.length ca, .slice Ab b.length cb] w (LawPost w) := by
  have HB0 : Hid (Below w.heap.size w (w.alloc (.cells #[.int .i64 n, .slice A ls.length c] 24))) := hide ((Below.refl _ _).alloc (Nat.le_refl _) _)
  have HX0 : Hid ((w.alloc (.cells #[.int .i64 n, .slice A ls.length c] 24)).heap[w.heap.size]? = some (.cells #[.int .i64 n, .slice A ls.length c] 24 (0, 0))) := hide (heap_alloc_new w _)
  have HLG := hide (large_any n A c hs ls _ (h.up HB0.out) (by unfold maxLen at hl; omega) (fun l hm => by have := hls l hm; unfold maxLen at this; omega))
  have HKN := hide (fun W => known_any W)
  have HA := hide h
  have HW := hide hw
  have HZA := hide ha
  have HZB := hide hb
  have HTW := hide hT
  have HRK : Hid (∀ (W : World) (A' : Option Addr) (c' : Nat) (hs' : List Hdr) (Z : Option Addr) (zc : Nat), Buys W W.heap.size A' hs' ls → One intV W W.heap.size Z a → TabW W → ls.length ≤ 40 → (∀ l ∈ ls, l.length ≤ 20) → Calls Tryd.prog 7 #[instV n A' ls.length c', .slice Z a.length zc] W (ValPost (.tuple #[.int .i64 (rankI n ls a).1, .int .i64 (rankI n ls a).2]) W)) := hide (fun W A' c' hs' Z zc h1 h2 h3 h4 h5 => rank_any n A' c' hs' ls Z zc a W h1 (by omega) (fun l hm => by have := h5 l hm; omega) hw h2 hra h3)
  have HRR : Hid (∀ (W : World) (A' : Option Addr) (c' : Nat) (hs' : List Hdr) (Z : Option Addr) (zc : Nat), Buys W W.heap.size A' hs' ls → One intV W W.heap.size Z a → ls.length ≤ 40 → (∀ l ∈ ls, l.length ≤ 20) → Calls Tryd.prog 8 #[instV n A' ls.length c', .slice Z a.length zc] W (ValPost (.tuple #[.int .i64 (rankI n ls a).1, .int .i64 (rankI n ls a).2]) W)) := hide (fun W A' c' hs' Z zc h1 h2 h4 h5 => refrank_any n A' c' hs' ls Z zc a W h1 (by omega) (fun l hm => by have := h5 l hm; omega) hw h2 hra)
  have HC1 : Hid (∀ W, Below w.heap.size w W → Calls Tryd.prog 11 #[.slice Aa a.length ca, .slice Ab b.length cb] W (ValPost (.int .i64 (cmpL a b)) W)) := hide (fun W hW => compare_any Aa ca a Ab cb b W (ha.up hW) (hb.up hW) hra hrb)
  have HC2 : Hid (∀ W, Below w.heap.size w W → Calls Tryd.prog 12 #[.slice Aa a.length ca, .slice Ab b.length cb] W (ValPost (.int .i64 (cmpL a b)) W)) := hide (fun W hW => refcompare_any Aa ca a Ab cb b W (ha.up hW) (hb.up hW) hra hrb)
  have HC3 : Hid (∀ W, Below w.heap.size w W → Calls Tryd.prog 11 #[.slice Ab b.length cb, .slice Aa a.length ca] W (ValPost (.int .i64 (cmpL b a)) W)) := hide (fun W hW => compare_any Ab cb b Aa ca a W (hb.up hW) (ha.up hW) hrb hra)
  have HC4 : Hid (∀ W, Below w.heap.size w W → Calls Tryd.prog 12 #[.slice Ab b.length cb, .slice Aa a.length ca] W (ValPost (.int .i64 (cmpL b a)) W)) := hide (fun W hW => refcompare_any Ab cb b Aa ca a W (hb.up hW) (ha.up hW) hrb hra)
  have G1 : Hid (∀ u ∈ a.map (Value.int .i64), u.oneCell' = true) := hide (fun u hu => by obtain ⟨z, _, rfl⟩ := List.mem_map.1 hu; rfl)
  have G2 : Hid (0 + a.length ≤ maxLen) := hide (by unfold maxLen; omega)
  have G3 : Hid ((0 + a.length) * 8 ≤ 140737488355328) := hide (by omega)
  have G4 : Hid (∀ u ∈ [Value.int .i64 4242], u.oneCell' = true) := hide (fun u hu => by simp at hu; subst hu; rfl)
  have G5 : Hid (a.length + 1 ≤ maxLen) := hide (by unfold maxLen; omega)
  have G6 : Hid ((a.length + 1) * 8 ≤ 140737488355328) := hide (by omega)
  generalize rankI n ls a = R at *
  obtain ⟨rw_, re⟩ := R
  simp only at HRK HRR
  clear h hl hls hw ha hb hrb hT
  generalize cmpL a b = cab at *
  generalize cmpL b a = cba at *
  simp only [instV] at *
  go_enter Tryd.func3, Tryd.ntmps3
  go_wp2_with fail
  generalize w.alloc (.cells #[.int .i64 n, .slice A ls.length c] 24) = w0 at *
  refine (HLG.out).mono ?_
  rintro e w1 ⟨b', rfl, hbig, hb1⟩
  have HX1 : Hid (w1.heap[w.heap.size]? = some (.cells #[.int .i64 n, .slice A ls.length c] 24 (0, 0))) := hide ((hb1.block _ (lt_of_block HX0.out)).trans HX0.out)
  have HB1 : Hid (Below w.heap.size w w1) := hide (HB0.out.trans (hb1.mono HB0.out.size))
  have HBIG := hide hbig
  clear hb1 hbig
  cases b'
  · obtain ⟨hl40, hl20⟩ := HBIG.out rfl
    have HL20 := hide hl20
    have x0 : w1.cell? ⟨w.heap.size, 0, none⟩ = some (.int .i64 n) := cell_of_row w1 w.heap.size 0 _ _ (0, 0) HX1.out
    have x1 : w1.cell? ⟨w.heap.size, 1, none⟩ = some (.slice A ls.length c) := cell_of_row w1 w.heap.size 1 _ _ (0, 0) HX1.out
    have HLE := hide (lent_any n A c hs ls w1 (HA.out.up HB1.out) hl40 hl20)
    clear hl20
    go_wp2_with fail
    refine (HLE.out).mono ?_
    rintro e w2 ⟨A', c', hs', rfl, hown, hb2⟩
    have HO2 := hide hown
    have HB2 := hide hb2
    clear hown hb2 x0 x1
    simp only [instV]
    go_upto_region 4 with fail
    have HB3 : Hid (Below w2.heap.size w2 (w2.alloc (.cells #[.int .i64 n, .slice A' ls.length c'] 24))) := hide ((Below.refl _ _).alloc (Nat.le_refl _) _)
    have HY3 : Hid ((w2.alloc (.cells #[.int .i64 n, .slice A' ls.length c'] 24)).heap[w2.heap.size]? = some (.cells #[.int .i64 n, .slice A' ls.length c'] 24 (0, 0))) := hide (heap_alloc_new w2 _)
    generalize w2.alloc (.cells #[.int .i64 n, .slice A' ls.length c'] 24) = w3 at *
    have HBW3 : Hid (Below w.heap.size w w3) := hide ((HB1.out.trans (HB2.out.mono HB1.out.size)).trans (HB3.out.mono (by have := HB1.out.size; have := HB2.out.size; omega)))
    have HX3 : Hid (w3.heap[w.heap.size]? = some (.cells #[.int .i64 n, .slice A ls.length c] 24 (0, 0))) := hide ((HB3.out.block _ (by have := lt_of_block HX1.out; have := HB2.out.size; omega)).trans ((HB2.out.block _ (lt_of_block HX1.out)).trans HX1.out))
    have HO3 := hide (HO2.out.below HB3.out)
    have HZ3 := hide (HZA.out.up HBW3.out)
    have HXY : Hid (∀ W, Below w3.heap.size w3 W → W.cell? ⟨w.heap.size, 0, none⟩ = some (.int .i64 n) ∧ W.cell? ⟨w.heap.size, 1, none⟩ = some (.slice A ls.length c) ∧ W.cell? ⟨w2.heap.size, 0, none⟩ = some (.int .i64 n) ∧ W.cell? ⟨w2.heap.size, 1, none⟩ = some (.slice A' ls.length c')) := hide (fun W hW => ⟨cell_of_row W w.heap.size 0 _ _ (0, 0) ((hW.block _ (lt_of_block HX3.out)).trans HX3.out), cell_of_row W w.heap.size 1 _ _ (0, 0) ((hW.block _ (lt_of_block HX3.out)).trans HX3.out), cell_of_row W w2.heap.size 0 _ _ (0, 0) ((hW.block _ (lt_of_block HY3.out)).trans HY3.out), cell_of_row W w2.heap.size 1 _ _ (0, 0) ((hW.block _ (lt_of_block HY3.out)).trans HY3.out)⟩)
    have HBX : Hid (∀ W, Below w3.heap.size w3 W → Buys W W.heap.size A hs ls ∧ Buys W W.heap.size A' hs' ls) := hide (fun W hW => ⟨HA.out.up (HBW3.out.trans (hW.mono HBW3.out.size)), (HO3.out.below hW).buys⟩)
    have hai : (a.length : Int) * 8 ≤ 140737488351232 := by omega
    go_upto_region 5 with (first | (at_builtin; refine wpList_append_any rfl (.const (.slice none 0 0)) (.tmp 18) 25 rfl w3.heap.size 3 (.int .i64 0) 1 8 infoI Tryd.underlying25 rfl (by decide) _ 0 [] rfl (World.ownsRow_nil _ _ _ _) w3.heap.size Aa a.length ca (a.map (Value.int .i64)) rfl HZ3.out G1.out G2.out G3.out (Nat.le_refl _) ?_; intro v4 w4 hown4 hg4 _; rw [Nat.zero_add, List.nil_append] at hown4; obtain ⟨A4, c4, hv4, _⟩ := own_sh hown4; subst hv4; have HO4 := hide hown4; have HB4 : Hid (Below w3.heap.size w3 w4) := hide ((Below.refl _ _).grown hg4 (Nat.le_refl _) (fun j hj => by cases hj)); have K4 : Hid (w3.heap.size ≤ w4.heap.size) := hide HB4.out.size; clear hown4 hg4) | (at_builtin; refine wpList_app rfl (.tmp 19) (.tmp 20) 25 rfl w3.heap.size (.int .i64 0) 1 8 infoI Tryd.underlying25 rfl (by decide) _ _ _ rfl HO4.out 1 1 rfl rfl G4.out G5.out G6.out K4.out ?_; intro v5 w5 hown5 hg5 hlt5 _; obtain ⟨g5, c5, hv5, _, _⟩ := hown5.form (by omega); subst hv5; have hcap5 : (a.length : Int) + 1 ≤ (c5 : Int) := (by obtain ⟨_, _, e, hc⟩ := own_sh hown5; injection e with _ _ e; omega); have HO5 := hide hown5; have HB5 : Hid (Below w3.heap.size w3 w5) := hide (HB4.out.grown hg5 HB4.out.size (fun j hj => (HO4.out.lt j hj).1)); clear hown5 hg5))
    obtain ⟨hfm, hfc⟩ := front_one HO5.out
    have HFM := hide hfm
    have HFC : Hid (∀ W, Below w5.heap.size w5 W → W.cell? ⟨g5, a.length, none⟩ = some (.int .i64 4242)) := hide (fun W hW => (hW.cell (p := ⟨g5, a.length, none⟩) (lt_of_cell hfc)).trans hfc)
    clear hfm hfc hlt5
    obtain ⟨x0, x1, x2, x3⟩ := HXY.out w5 HB5.out
    have HT5 : Hid (TabW w5) := hide (HTW.out.below (HBW3.out.trans (HB5.out.mono HBW3.out.size)))
    go_wp2_with fail
    refine (HRK.out w5 A' c' hs' _ c5 (HBX.out w5 HB5.out).2 HFM.out HT5.out hl40 HL20.out).mono ?_
    rintro e w6 ⟨rfl, hb6⟩
    have HB56 := hide hb6
    have HB6 : Hid (Below w3.heap.size w3 w6) := hide (HB5.out.trans (hb6.mono HB5.out.size))
    clear x0 x1 x2 x3 hb6
    obtain ⟨x0, x1, x2, x3⟩ := HXY.out w6 HB6.out
    go_wp2_with fail
    refine (HRR.out w6 A c hs Aa ca (HBX.out w6 HB6.out).1 (HZA.out.up (HBW3.out.trans (HB6.out.mono HBW3.out.size))) hl40 HL20.out).mono ?_
    rintro e w7 ⟨rfl, hb7⟩
    have HB57 : Hid (Below w5.heap.size w5 w7) := hide (HB56.out.trans (hb7.mono HB56.out.size))
    have HB7 : Hid (Below w3.heap.size w3 w7) := hide (HB5.out.trans (HB57.out.mono HB5.out.size))
    clear x0 x1 x2 x3 hb7
    obtain ⟨x0, x1, x2, x3⟩ := HXY.out w7 HB7.out
    have HKE := hide (kept_any n _ A' c' hs' A c hs ls w7 (HO3.out.below HB7.out) (HBX.out w7 HB7.out).1 hl40 HL20.out)
    go_wp2_with fail
    refine (HKE.out).mono ?_
    rintro e w8 ⟨rfl, hb8⟩
    have HB58 : Hid (Below w5.heap.size w5 w8) := hide (HB57.out.trans (hb8.mono HB57.out.size))
    have HB8 : Hid (Below w3.heap.size w3 w8) := hide (HB5.out.trans (HB58.out.mono HB5.out.size))
    clear x0 x1 x2 x3 hb8
    have HSA := hide (sameInts_wide (some ⟨g5, 0, none⟩) c5 Aa ca a w8 (HFM.out.up HB58.out) (HZA.out.up (HBW3.out.trans (HB8.out.mono HBW3.out.size))) hra)
    go_wp2_with fail
    refine (HSA.out).mono ?_
    rintro e w9 ⟨rfl, hb9⟩
    have HB59 : Hid (Below w5.heap.size w5 w9) := hide (HB58.out.trans (hb9.mono HB58.out.size))
    have HB9 : Hid (Below w3.heap.size w3 w9) := hide (HB5.out.trans (HB59.out.mono HB5.out.size))
    have HBW9 : Hid (Below w.heap.size w w9) := hide (HBW3.out.trans (HB9.out.mono HBW3.out.size))
    have m1 := HFC.out w9 HB59.out
    have q1 : IntKind.i64.wrap ((a.length : Int) + 1) = (a.length : Int) + 1 := Go.IntWalk.i64_in _ (by omega)
    have q2 : (0 : Int) ≤ (a.length : Int) + 1 := by omega
    have q3 : ((a.length : Int) + 1).toNat = a.length + 1 := by omega
    clear hb9
    go_wp2_with fail
    refine (HC1.out w9 HBW9.out).mono ?_
    rintro e w10 ⟨rfl, hb10⟩
    have HBW10 : Hid (Below w.heap.size w w10) := hide (HBW9.out.trans (hb10.mono HBW9.out.size))
    clear hb10 m1
    go_wp2_with fail
    refine (HC2.out w10 HBW10.out).mono ?_
    rintro e w11 ⟨rfl, hb11⟩
    have HBW11 : Hid (Below w.heap.size w w11) := hide (HBW10.out.trans (hb11.mono HBW10.out.size))
    clear hb11
    go_wp2_with fail
    refine (HC3.out w11 HBW11.out).mono ?_
    rintro e w12 ⟨rfl, hb12⟩
    have HBW12 : Hid (Below w.heap.size w w12) := hide (HBW11.out.trans (hb12.mono HBW11.out.size))
    clear hb12
    go_wp2_with fail
    refine (HC4.out w12 HBW12.out).mono ?_
    rintro e w13 ⟨rfl, hb13⟩
    have HBW13 : Hid (Below w.heap.size w w13) := hide (HBW12.out.trans (hb13.mono HBW12.out.size))
    clear hb13
    go_wp2_with fail
    refine (HKN.out w13).mono ?_
    rintro e w14 ⟨rfl, hb14⟩
    have HB14 : Hid (Below w.heap.size w w14) := hide (HBW13.out.trans (hb14.mono HBW13.out.size))
    clear hb14
    go_wp2_with fail
    go_ret
    exact ⟨rfl, HB14.out⟩
  · go_wp2_with fail
    refine (HKN.out w1).mono ?_
    rintro e w2 ⟨rfl, hb2⟩
    have HB2 : Hid (Below w.heap.size w w2) := hide (HB1.out.trans (hb2.mono HB1.out.size))
    clear hb2
    go_wp2_with fail
    go_ret
    exact ⟨rfl, HB2.out⟩
end Go.Proofs.YtkjmpenaifhfjaaDoor
