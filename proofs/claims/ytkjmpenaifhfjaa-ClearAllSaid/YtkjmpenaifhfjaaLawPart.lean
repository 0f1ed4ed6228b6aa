/- The law ClearPart: its walk. -/
import Derived.Test.YtkjmpenaifhfjaaKept
import Derived.Test.YtkjmpenaifhfjaaOpen
import Derived.Test.YtkjmpenaifhfjaaRef15B
namespace Go.Proofs.Ytkjmpenaifhfjaa
open Go.RowKit Go.Maps
open Go.ChangeMaps Go.WideMaps

theorem from_part (n : Int) (ls : List (List Offer)) (k : Int) (f : Nat) : fromI n ls k f = ((partI n ls k f).1.2, (partI n ls k f).2) := by
  unfold fromI partI
  split <;> rfl
theorem partI_len (n : Int) (ls : List (List Offer)) (k : Int) (f : Nat) (hw : BWide ls) (hf : f < 4294967296) : (partI n ls k f).1.1.length ≤ ls.length := by
  unfold partI
  split
  · simp
  · rename_i h
    obtain ⟨_, h0, h1, _⟩ := mayE_good hw hf (by simpa using h)
    simp only
    rw [choiceK_len ls k.toNat f (by omega)]
    exact Nat.le_refl _

set_option maxRecDepth 100000 in
set_option maxHeartbeats 4000000 in
theorem clearPart_any (n : Int) (A : Option Addr) (c : Nat) (hs : List Hdr) (ls : List (List Offer)) (k : Int) (f : Nat) (w : World) (h : Buys w w.heap.size A hs ls) (hl : ls.length ≤ maxLen) (hls : ∀ l ∈ ls, l.length ≤ maxLen) (hw : BWide ls) (hf : f < 4294967296) :
    Calls Try.prog 3 #[instV n A ls.length c, .int .i64 k, .int .u32 (f : Int)] w (LawPost w) := by
  have HB0 : Hid (Below w.heap.size w (w.alloc (.cells #[.int .i64 n, .slice A ls.length c] 24))) := hide ((Below.refl _ _).alloc (Nat.le_refl _) _)
  have HX0 : Hid ((w.alloc (.cells #[.int .i64 n, .slice A ls.length c] 24)).heap[w.heap.size]? = some (.cells #[.int .i64 n, .slice A ls.length c] 24 (0, 0))) := hide (heap_alloc_new w _)
  have HLG := hide (large_any n A c hs ls _ (h.up HB0.out) (by unfold maxLen at hl; omega) (fun l hm => by have := hls l hm; unfold maxLen at this; omega))
  have HKN := hide (fun W => known_any W)
  have HA := hide h
  have HW := hide hw
  have HF := hide (from_part n ls k f)
  have HPL := hide (partI_len n ls k f hw hf)
  have HPA : Hid (∀ (W : World) (A' : Option Addr) (c' : Nat) (hs' : List Hdr), Buys W W.heap.size A' hs' ls → ls.length ≤ 40 → (∀ l ∈ ls, l.length ≤ 20) → Calls Try.prog 12 #[instV n A' ls.length c', .int .i64 k, .int .u32 (f : Int)] W (ClearPost (partI n ls k f) W)) := hide (fun W A' c' hs' h1 h2 h3 => part_any n A' c' hs' ls k f W h1 (by omega) (fun l hm => by have := h3 l hm; omega) hw hf)
  have HRP : Hid (∀ (W : World) (A' : Option Addr) (c' : Nat) (hs' : List Hdr), Buys W W.heap.size A' hs' ls → ls.length ≤ 40 → (∀ l ∈ ls, l.length ≤ 20) → Calls Try.prog 13 #[instV n A' ls.length c', .int .i64 k, .int .u32 (f : Int)] W (ClearPost (partI n ls k f) W)) := hide (fun W A' c' hs' h1 h2 h3 => refpart_any n A' c' hs' ls k f W h1 (by omega) (fun l hm => by have := h3 l hm; omega) hw hf)
  have HFR : Hid (∀ (W : World) (A' : Option Addr) (c' : Nat) (hs' : List Hdr), Buys W W.heap.size A' hs' ls → ls.length ≤ 40 → (∀ l ∈ ls, l.length ≤ 20) → Calls Try.prog 11 #[instV n A' ls.length c', .int .i64 k, .int .u32 (f : Int)] W (ValPost (.tuple #[.int .i64 (partI n ls k f).1.2, .int .i64 (partI n ls k f).2]) W)) := hide (fun W A' c' hs' h1 h2 h3 => by
    have := from_any n A' c' hs' ls k f W h1 (by omega) (fun l hm => by have := h3 l hm; omega) hw hf
    unfold FromPost at this
    rw [from_part] at this
    exact this)
  generalize partI n ls k f = R at *
  obtain ⟨⟨ch, bw⟩, er⟩ := R
  simp only at HPL HFR
  clear h hl hls hw HF
  simp only [instV] at *
  go_enter Try.func3, Try.ntmps3
  go_wp2_with fail
  generalize w.alloc (.cells #[.int .i64 n, .slice A ls.length c] 24) = w0 at *
  refine (HLG.out).mono ?_
  rintro e w1 ⟨b, rfl, hbig, hb1⟩
  have HX1 : Hid (w1.heap[w.heap.size]? = some (.cells #[.int .i64 n, .slice A ls.length c] 24 (0, 0))) := hide ((hb1.block _ (lt_of_block HX0.out)).trans HX0.out)
  have HB1 : Hid (Below w.heap.size w w1) := hide (HB0.out.trans (hb1.mono HB0.out.size))
  have HBIG := hide hbig
  clear hb1 hbig
  cases b
  · obtain ⟨hl40, hl20⟩ := HBIG.out rfl
    have HL20 := hide hl20
    have x0 : w1.cell? ⟨w.heap.size, 0, none⟩ = some (.int .i64 n) := cell_of_row w1 w.heap.size 0 _ _ (0, 0) HX1.out
    have x1 : w1.cell? ⟨w.heap.size, 1, none⟩ = some (.slice A ls.length c) := cell_of_row w1 w.heap.size 1 _ _ (0, 0) HX1.out
    have HLE := hide (lent_any n A c hs ls w1 (HA.out.up HB1.out) hl40 hl20)
    clear hl20
    go_wp2_with fail
    refine (HLE.out).mono ?_
    rintro e w2 ⟨A', c', hs', rfl, hown, hb2⟩
    have HO2 := hide hown
    have HB2 := hide hb2
    clear hown hb2 x0 x1
    simp only [instV]
    go_upto_region 4 with fail
    have HB3 : Hid (Below w2.heap.size w2 (w2.alloc (.cells #[.int .i64 n, .slice A' ls.length c'] 24))) := hide ((Below.refl _ _).alloc (Nat.le_refl _) _)
    have HY3 : Hid ((w2.alloc (.cells #[.int .i64 n, .slice A' ls.length c'] 24)).heap[w2.heap.size]? = some (.cells #[.int .i64 n, .slice A' ls.length c'] 24 (0, 0))) := hide (heap_alloc_new w2 _)
    generalize w2.alloc (.cells #[.int .i64 n, .slice A' ls.length c'] 24) = w3 at *
    have HBW3 : Hid (Below w.heap.size w w3) := hide ((HB1.out.trans (HB2.out.mono HB1.out.size)).trans (HB3.out.mono (by have := HB1.out.size; have := HB2.out.size; omega)))
    have HX3 : Hid (w3.heap[w.heap.size]? = some (.cells #[.int .i64 n, .slice A ls.length c] 24 (0, 0))) := hide ((HB3.out.block _ (by have := lt_of_block HX1.out; have := HB2.out.size; omega)).trans ((HB2.out.block _ (lt_of_block HX1.out)).trans HX1.out))
    have HO3 := hide (HO2.out.below HB3.out)
    have HXY : Hid (∀ W, Below w3.heap.size w3 W → W.cell? ⟨w.heap.size, 0, none⟩ = some (.int .i64 n) ∧ W.cell? ⟨w.heap.size, 1, none⟩ = some (.slice A ls.length c) ∧ W.cell? ⟨w2.heap.size, 0, none⟩ = some (.int .i64 n) ∧ W.cell? ⟨w2.heap.size, 1, none⟩ = some (.slice A' ls.length c')) := hide (fun W hW => ⟨cell_of_row W w.heap.size 0 _ _ (0, 0) ((hW.block _ (lt_of_block HX3.out)).trans HX3.out), cell_of_row W w.heap.size 1 _ _ (0, 0) ((hW.block _ (lt_of_block HX3.out)).trans HX3.out), cell_of_row W w2.heap.size 0 _ _ (0, 0) ((hW.block _ (lt_of_block HY3.out)).trans HY3.out), cell_of_row W w2.heap.size 1 _ _ (0, 0) ((hW.block _ (lt_of_block HY3.out)).trans HY3.out)⟩)
    have HBX : Hid (∀ W, Below w3.heap.size w3 W → Buys W W.heap.size A hs ls ∧ Buys W W.heap.size A' hs' ls) := hide (fun W hW => ⟨HA.out.up (HBW3.out.trans (hW.mono HBW3.out.size)), (HO3.out.below hW).buys⟩)
    obtain ⟨x0, x1, x2, x3⟩ := HXY.out w3 (Below.refl _ _)
    go_wp2_with fail
    refine (HFR.out w3 A' c' hs' (HBX.out w3 (Below.refl _ _)).2 hl40 HL20.out).mono ?_
    rintro e w4 ⟨rfl, hb4⟩
    have HB4 := hide hb4
    clear x0 x1 x2 x3
    obtain ⟨x0, x1, x2, x3⟩ := HXY.out w4 hb4
    clear hb4
    go_wp2_with fail
    refine (HPA.out w4 A' c' hs' (HBX.out w4 HB4.out).2 hl40 HL20.out).mono ?_
    rintro e w5 ⟨v5, rfl, hown5, hb5⟩
    obtain ⟨A5, c5, rfl, _⟩ := own_sh hown5
    have HO5 := hide (One.of_own (f := intV) hown5 rfl)
    have HB5 : Hid (Below w3.heap.size w3 w5) := hide (HB4.out.trans (hb5.mono HB4.out.size))
    clear x0 x1 x2 x3 hown5 hb5
    go_upto_region 6 with fail
    have HB6 : Hid (Below w5.heap.size w5 (w5.alloc (.cells #[.slice A5 ch.length c5, .int .i64 bw] 35))) := hide ((Below.refl _ _).alloc (Nat.le_refl _) _)
    have HC6 : Hid ((w5.alloc (.cells #[.slice A5 ch.length c5, .int .i64 bw] 35)).heap[w5.heap.size]? = some (.cells #[.slice A5 ch.length c5, .int .i64 bw] 35 (0, 0))) := hide (heap_alloc_new w5 _)
    generalize w5.alloc (.cells #[.slice A5 ch.length c5, .int .i64 bw] 35) = w6 at *
    have HB36 : Hid (Below w3.heap.size w3 w6) := hide (HB5.out.trans (HB6.out.mono HB5.out.size))
    obtain ⟨x0, x1, x2, x3⟩ := HXY.out w6 HB36.out
    go_wp2_with fail
    refine (HRP.out w6 A c hs (HBX.out w6 HB36.out).1 hl40 HL20.out).mono ?_
    rintro e w7 ⟨v7, rfl, hown7, hb7⟩
    obtain ⟨A7, c7, rfl, _⟩ := own_sh hown7
    have HO7 := hide (One.of_own (f := intV) hown7 rfl)
    have HB7 := hide hb7
    clear x0 x1 x2 x3 hown7 hb7
    go_upto_region 7 with fail
    have HB8 : Hid (Below w7.heap.size w7 (w7.alloc (.cells #[.slice A7 ch.length c7, .int .i64 bw] 35))) := hide ((Below.refl _ _).alloc (Nat.le_refl _) _)
    have HC8 : Hid ((w7.alloc (.cells #[.slice A7 ch.length c7, .int .i64 bw] 35)).heap[w7.heap.size]? = some (.cells #[.slice A7 ch.length c7, .int .i64 bw] 35 (0, 0))) := hide (heap_alloc_new w7 _)
    generalize w7.alloc (.cells #[.slice A7 ch.length c7, .int .i64 bw] 35) = w8 at *
    have HB68 : Hid (Below w6.heap.size w6 w8) := hide (HB7.out.trans (HB8.out.mono HB7.out.size))
    have HB38 : Hid (Below w3.heap.size w3 w8) := hide (HB36.out.trans (HB68.out.mono HB36.out.size))
    have c0 : w8.cell? ⟨w5.heap.size, 0, none⟩ = some (.slice A5 ch.length c5) := cell_of_row w8 w5.heap.size 0 _ _ (0, 0) ((HB68.out.block _ (lt_of_block HC6.out)).trans HC6.out)
    have c1 : w8.cell? ⟨w5.heap.size, 1, none⟩ = some (.int .i64 bw) := cell_of_row w8 w5.heap.size 1 _ _ (0, 0) ((HB68.out.block _ (lt_of_block HC6.out)).trans HC6.out)
    have d0 : w8.cell? ⟨w7.heap.size, 0, none⟩ = some (.slice A7 ch.length c7) := cell_of_row w8 w7.heap.size 0 _ _ (0, 0) HC8.out
    have d1 : w8.cell? ⟨w7.heap.size, 1, none⟩ = some (.int .i64 bw) := cell_of_row w8 w7.heap.size 1 _ _ (0, 0) HC8.out
    have HSA := hide (same_eq A5 c5 A7 c7 ch bw w8 ((HO5.out.up HB6.out).up HB68.out) (HO7.out.up HB8.out) (by have := HPL.out; omega))
    go_wp2_with fail
    refine (HSA.out).mono ?_
    rintro e w9 ⟨rfl, hb9⟩
    have HB39 : Hid (Below w3.heap.size w3 w9) := hide (HB38.out.trans (hb9.mono HB38.out.size))
    clear c0 c1 d0 d1 hb9
    obtain ⟨x0, x1, x2, x3⟩ := HXY.out w9 HB39.out
    have HKE := hide (kept_any n _ A' c' hs' A c hs ls w9 (HO3.out.below HB39.out) (HBX.out w9 HB39.out).1 hl40 HL20.out)
    go_wp2_with fail
    refine (HKE.out).mono ?_
    rintro e w10 ⟨rfl, hb10⟩
    have HB310 : Hid (Below w3.heap.size w3 w10) := hide (HB39.out.trans (hb10.mono HB39.out.size))
    clear x0 x1 x2 x3 hb10
    go_wp2_with fail
    refine (HKN.out w10).mono ?_
    rintro e w11 ⟨rfl, hb11⟩
    have HB11 : Hid (Below w.heap.size w w11) := hide (HBW3.out.trans ((HB310.out.trans (hb11.mono HB310.out.size)).mono HBW3.out.size))
    clear hb11
    go_wp2_with fail
    go_ret
    exact ⟨rfl, HB11.out⟩
  · go_wp2_with fail
    refine (HKN.out w1).mono ?_
    rintro e w2 ⟨rfl, hb2⟩
    have HB2 : Hid (Below w.heap.size w w2) := hide (HB1.out.trans (hb2.mono HB1.out.size))
    clear hb2
    go_wp2_with fail
    go_ret
    exact ⟨rfl, HB2.out⟩
end Go.Proofs.Ytkjmpenaifhfjaa
