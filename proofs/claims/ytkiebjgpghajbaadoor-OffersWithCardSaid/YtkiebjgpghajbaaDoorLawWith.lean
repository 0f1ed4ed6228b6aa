/- The walk of the law OffersWith. (Printed by gen_with8.py.) -/
import Derived.Test.YtkiebjgpghajbaaDoorLawTell
import Derived.Test.YtkiebjgpghajbaaDoorStays
import Derived.Test.YtkiebjgpghajbaaDoorSpoilB
import Derived.Test.YtkiebjgpghajbaaDoorSameInst
namespace Go.Proofs.YtkiebjgpghajbaaDoor
open Go.RowKit Go.Maps
open Go.ChangeMaps Go.WideMaps

set_option maxRecDepth 100000 in
set_option maxHeartbeats 32000000 in
theorem withLaw_any (n : Int) (A : Option Addr) (c : Nat) (hs : List Hdr) (ls : List (List Offer)) (b : Int) (Al : Option Addr) (cl : Nat) (l : List Offer) (w : World) (h : Buys w w.heap.size A hs ls) (hl : (ls.length : Int) ≤ 9223372036854775807) (hls : ∀ l ∈ ls, (l.length : Int) ≤ 9223372036854775807) (hw : BWide ls)
    (ho : Offs w w.heap.size Al l) (hc : l.length ≤ cl) (hml : (l.length : Int) ≤ 9223372036854775807) (hwl : OWide l) (hT : TabW w) :
    Calls Tryd.prog 8 #[instV n A ls.length c, .int .i64 b, .slice Al l.length cl] w (LawPost w) := by
  have HA_w : Hid (Below w.heap.size w (w.alloc (.cells #[.int .i64 n, .slice A ls.length c] 35))) := hide ((Below.refl _ _).alloc (Nat.le_refl _) _)
  have HX : Hid ((w.alloc (.cells #[.int .i64 n, .slice A ls.length c] 35)).heap[w.heap.size]? = some (.cells #[.int .i64 n, .slice A ls.length c] 35 (0, 0))) := hide (heap_alloc_new w _)
  have HBU := hide h
  have HWB := hide hw
  have HOF := hide ho
  have HCL := hide hc
  have HWL := hide hwl
  have HT := hide hT
  have HML := hide hml
  have HWK : Hid (∀ W, Below w.heap.size w W → Calls Tryd.prog 10 #[] W (ValPost (.bool true) W)) := hide (fun W hW => works_any W (HT.out.below hW))
  have HGR := hide (great_any n A c hs ls _ (h.up HA_w.out) hl hls)
  clear h hls hw hT ho hc hwl hl hml
  simp only [instV] at *
  go_enter Tryd.func8, Tryd.ntmps8
  go_wp2_with fail
  generalize w.alloc (.cells #[.int .i64 n, .slice A ls.length c] 35) = w0 at *
  have hx0 : w0.cell? ⟨w.heap.size, 0, none⟩ = some (.int .i64 n) := cell_of_row w0 _ 0 _ _ (0, 0) HX.out
  have hx1 : w0.cell? ⟨w.heap.size, 1, none⟩ = some (.slice A ls.length c) := cell_of_row w0 _ 1 _ _ (0, 0) HX.out
  go_wp2_with fail
  refine (HGR.out).mono ?_
  rintro e w1 ⟨bo, rfl, hbo, hb1⟩
  replace HA_w : Hid (Below w.heap.size w w1) := hide (bt HA_w.out hb1)
  replace HX := hide ((hb1.block _ (lt_of_block HX.out)).trans HX.out)
  clear hb1 HGR hx0 hx1
  cases bo
  rotate_left
  · clear hbo
    go_wp2_with fail
    refine (HWK.out w1 HA_w.out).mono ?_
    rintro e w2 ⟨rfl, hb⟩
    have HZZ := hide (bt HA_w.out hb)
    clear hb
    go_wp2_with fail
    go_ret
    exact ⟨rfl, HZZ.out⟩
  have HB60 := hide (hbo rfl)
  clear hbo
  have HLO := hide (longO_any _ 1 _ _ _ (one_buys (HOF.out.up HA_w.out) HCL.out) (by simp) (by intro l' hl'; simp at hl'; subst hl'; exact HML.out))
  have HA_w1 : Hid (Below w1.heap.size w1 (w1.alloc (.cells #[.slice Al l.length cl] 22))) := hide ((Below.refl _ _).alloc (Nat.le_refl _) _)
  simp only [List.length_singleton] at HLO
  go_wp2_with fail
  refine (HLO.out).mono ?_
  rintro e w1b ⟨bo, rfl, hbo, hb1⟩
  replace HA_w1 := hide (bt HA_w1.out hb1)
  replace HX := hide ((HA_w1.out.block _ (lt_of_block HX.out)).trans HX.out)
  replace HA_w := hide (bt HA_w.out HA_w1.out)
  clear hb1 HLO HA_w1
  cases bo
  rotate_left
  · clear hbo
    go_wp2_with fail
    refine (HWK.out w1b HA_w.out).mono ?_
    rintro e w2 ⟨rfl, hb⟩
    have HZZ := hide (bt HA_w.out hb)
    clear hb
    go_wp2_with fail
    go_ret
    exact ⟨rfl, HZZ.out⟩
  obtain ⟨hl60, hll60⟩ := HB60.out
  have hm60 := (hbo rfl).2 l (List.mem_singleton.2 rfl)
  have HLL := hide hll60
  clear hbo HB60 hll60
  have HGI := hide (given_any n A c hs ls w1b (HBU.out.up HA_w.out) hl60 HLL.out)
  have HBL : Hid (BLens ls) := hide (fun l hm => by have := HLL.out l hm; omega)
  have hx0 : w1b.cell? ⟨w.heap.size, 0, none⟩ = some (.int .i64 n) := cell_of_row w1b _ 0 _ _ (0, 0) HX.out
  have hx1 : w1b.cell? ⟨w.heap.size, 1, none⟩ = some (.slice A ls.length c) := cell_of_row w1b _ 1 _ _ (0, 0) HX.out
  simp only [instV] at HGI
  go_wp2_with fail
  refine (HGI.out).mono ?_
  rintro e w2 ⟨A2, c2, hs2, rfl, ho2, hb2⟩
  have HO := hide ho2
  replace HA_w : Hid (Below w.heap.size w w2) := hide (bt HA_w.out hb2)
  replace HX := hide ((hb2.block _ (lt_of_block HX.out)).trans HX.out)
  clear ho2 hb2 HGI hx0 hx1
  simp only [instV]
  go_upto_region 4 with fail
  have HA_w2 : Hid (Below w2.heap.size w2 (w2.alloc (.cells #[.int .i64 n, .slice A2 ls.length c2] 35))) := hide ((Below.refl _ _).alloc (Nat.le_refl _) _)
  have HY : Hid ((w2.alloc (.cells #[.int .i64 n, .slice A2 ls.length c2] 35)).heap[w2.heap.size]? = some (.cells #[.int .i64 n, .slice A2 ls.length c2] 35 (0, 0))) := hide (heap_alloc_new w2 _)
  replace HX := hide ((HA_w2.out.block _ (lt_of_block HX.out)).trans HX.out)
  replace HA_w := hide (bt HA_w.out HA_w2.out)
  replace HO := hide (HO.out.below HA_w2.out)
  generalize w2.alloc (.cells #[.int .i64 n, .slice A2 ls.length c2] 35) = w3 at *
  clear HA_w2
  have HA_w3 : Hid (Below w3.heap.size w3 w3) := hide (Below.refl _ _)
  have HC : Hid (∀ W, Below w3.heap.size w3 W → W.cell? ⟨w.heap.size, 0, none⟩ = some (.int .i64 n) ∧ W.cell? ⟨w.heap.size, 1, none⟩ = some (.slice A ls.length c) ∧ W.cell? ⟨w2.heap.size, 0, none⟩ = some (.int .i64 n) ∧ W.cell? ⟨w2.heap.size, 1, none⟩ = some (.slice A2 ls.length c2)) := hide (fun W hW => ⟨cell_of_row W _ 0 _ _ (0, 0) ((hW.block _ (lt_of_block HX.out)).trans HX.out), cell_of_row W _ 1 _ _ (0, 0) ((hW.block _ (lt_of_block HX.out)).trans HX.out), cell_of_row W _ 0 _ _ (0, 0) ((hW.block _ (lt_of_block HY.out)).trans HY.out), cell_of_row W _ 1 _ _ (0, 0) ((hW.block _ (lt_of_block HY.out)).trans HY.out)⟩)
  have HLE := hide (lentO_any Al cl l w3 (HOF.out.up HA_w.out) (by omega))
  have HWW : Hid (∀ W, Below w3.heap.size w3 W → Below w.heap.size w W) := hide (fun W hW => bt HA_w.out hW)
  go_wp2_with fail
  refine (HLE.out).mono ?_
  rintro e w4 ⟨Am, cm, rfl, hm, hb⟩
  have HM := hide hm
  replace HA_w3 : Hid (Below w3.heap.size w3 w4) := hide hb
  have HO4 := hide (HO.out.below hb)
  have HMN : Hid (Am = none → cm = 0) := hide (by obtain ⟨g, e, _⟩ := hm.cells; intro e'; rw [e] at e'; cases e')
  clear hm hb HLE HA_w
  have HA_w4 : Hid (Below w4.heap.size w4 w4) := hide (Below.refl _ _)
  have HW34 : Hid (∀ W, Below w4.heap.size w4 W → Below w3.heap.size w3 W) := hide (fun W hW => bt HA_w3.out hW)
  have H5 : Hid (∀ W, Below w4.heap.size w4 W → Calls Tryd.prog 40 #[.agg #[.int .i64 n, .slice A2 ls.length c2], .int .i64 b] W (WithU n ls b [] W)) := hide (fun W hW => (withoutF_any n A2 c2 hs2 ls b W ((HO4.out.below hW).buys) (by omega) HBL.out HWB.out HO4.out.nils).mono (fun _ _ h => withU_of h))
  have H7 : Hid (∀ W, Below w4.heap.size w4 W → Calls Tryd.prog 41 #[.agg #[.int .i64 n, .slice A2 ls.length c2], .int .i64 b, .slice Am l.length cm] W (WithU n ls b l W)) := hide (fun W hW => (withF_any n A2 c2 hs2 ls b Am cm l W ((HO4.out.below hW).buys) (by omega) HBL.out HWB.out HO4.out.nils (HM.out.offs.up hW) (by omega) HWL.out HMN.out).mono (fun _ _ h => withU_of h))
  have H9 : Hid (∀ W, Below w4.heap.size w4 W → Calls Tryd.prog 42 #[.agg #[.int .i64 n, .slice A ls.length c], .int .i64 b, .slice none 0 0] W (RWithU n ls b [] W)) := hide (fun W hW => (refwithL_any n A c hs ls b none 0 [] W (HBU.out.up (HWW.out W (HW34.out W hW))) (by omega) HBL.out HWB.out (Two.none_ _ _) (Nat.le_refl _) (by simp) (fun o ho => by cases ho)).mono (fun _ _ h => rwithU_of h))
  have H11 : Hid (∀ W, Below w4.heap.size w4 W → Calls Tryd.prog 42 #[.agg #[.int .i64 n, .slice A ls.length c], .int .i64 b, .slice Al l.length cl] W (RWithU n ls b l W)) := hide (fun W hW => (refwithL_any n A c hs ls b Al cl l W (HBU.out.up (HWW.out W (HW34.out W hW))) (by omega) HBL.out HWB.out (HOF.out.up (HWW.out W (HW34.out W hW))) HCL.out (by omega) HWL.out).mono (fun _ _ h => rwithU_of h))
  have HST : Hid (∀ W, Below w4.heap.size w4 W → Calls Tryd.prog 23 #[.agg #[.int .i64 n, .slice A2 ls.length c2], .agg #[.int .i64 n, .slice A ls.length c]] W (ValPost (.bool true) W)) := hide (fun W hW => stays_any n _ A2 c2 hs2 A c hs ls W (HO4.out.below hW) (HBU.out.up (HWW.out W (HW34.out W hW))) hl60 HLL.out)
  have HKM : Hid (∀ W, Below w4.heap.size w4 W → Calls Tryd.prog 13 #[.slice Am l.length cm, .slice Al l.length cl] W (ValPost (.bool true) W)) := hide (fun W hW => keptO_any _ Am cm Al cl l W (HM.out.below hW) (HOF.out.up (HWW.out W (HW34.out W hW))) (by omega))
  have HNU := hide num_any
  have HN5 : Hid ((withI n ls b []).2.length ≤ 60) := hide (withI_len hl60)
  have HN7 : Hid ((withI n ls b l).2.length ≤ 60) := hide (withI_len hl60)
  have HL5 : Hid (∀ x ∈ (withI n ls b []).2, x.length ≤ 60) := hide (withI_lens HLL.out (by simp))
  have HL7 : Hid (∀ x ∈ (withI n ls b l).2, x.length ≤ 60) := hide (withI_lens HLL.out hm60)
  unfold WithU at H5 H7
  unfold RWithU at H9 H11
  generalize withI n ls b [] = i5 at *
  generalize withI n ls b l = i7 at *
  generalize withE n ls b [] = e5 at *
  generalize withE n ls b l = e7 at *
  obtain ⟨n5, ls5⟩ := i5
  obtain ⟨n7, ls7⟩ := i7
  simp only [instV] at *
  clear HLL HT HO HX HY HCL HWL HWB HBL HML HMN
  clear hl60 hm60
  obtain ⟨hx0, hx1, hy0, hy1⟩ := HC.out w4 (HW34.out _ HA_w4.out)
  go_wp2_with fail
  refine (H5.out w4 HA_w4.out).mono ?_
  rintro e w5 ⟨A5, c5, hs5, rfl, ho5, hf5, hb⟩
  replace HA_w4 : Hid (Below w4.heap.size w4 w5) := hide (bt HA_w4.out hb)
  have HO5 := hide ho5
  have HF5 := hide hf5
  clear hb hx0 hx1 hy0 hy1 ho5 hf5
  simp only [instV]
  have HA_w5 : Hid (Below w5.heap.size w5 w5) := hide (Below.refl _ _)
  go_upto_region 6 with fail
  have HBw6 : Hid ((w5.alloc (.cells #[.int .i64 n5, .slice A5 ls5.length c5] 35)).heap[w5.heap.size]? = some (.cells #[.int .i64 n5, .slice A5 ls5.length c5] 35 (0, 0))) := hide (heap_alloc_new w5 _)
  have hb : Below w5.heap.size w5 (w5.alloc (.cells #[.int .i64 n5, .slice A5 ls5.length c5] 35)) := (Below.refl _ _).alloc (Nat.le_refl _) _
  generalize w5.alloc (.cells #[.int .i64 n5, .slice A5 ls5.length c5] 35) = w6 at *
  replace HA_w4 : Hid (Below w4.heap.size w4 w6) := hide (bt HA_w4.out hb)
  replace HA_w5 : Hid (Below w5.heap.size w5 w6) := hide (bt HA_w5.out hb)
  clear hb
  have HB6Z := hide HA_w5.out.size
  have HB46 := hide HA_w4.out.size
  have HA_w6 : Hid (Below w6.heap.size w6 w6) := hide (Below.refl _ _)
  obtain ⟨hx0, hx1, hy0, hy1⟩ := HC.out w6 (HW34.out _ HA_w4.out)
  go_wp2_with fail
  refine (H7.out w6 HA_w4.out).mono ?_
  rintro e w7 ⟨A7, c7, hs7, rfl, ho7, hf7, hb⟩
  replace HA_w4 : Hid (Below w4.heap.size w4 w7) := hide (bt HA_w4.out hb)
  replace HA_w5 : Hid (Below w5.heap.size w5 w7) := hide (bt HA_w5.out hb)
  replace HA_w6 : Hid (Below w6.heap.size w6 w7) := hide (bt HA_w6.out hb)
  have HO7 := hide ho7
  have HF7 := hide hf7
  have HB67 : Hid (w6.heap.size ≤ w7.heap.size) := hide hb.size
  clear hb hx0 hx1 hy0 hy1 ho7 hf7
  simp only [instV]
  have HA_w7 : Hid (Below w7.heap.size w7 w7) := hide (Below.refl _ _)
  go_upto_region 7 with fail
  have HBw8 : Hid ((w7.alloc (.cells #[.int .i64 n7, .slice A7 ls7.length c7] 35)).heap[w7.heap.size]? = some (.cells #[.int .i64 n7, .slice A7 ls7.length c7] 35 (0, 0))) := hide (heap_alloc_new w7 _)
  have hb : Below w7.heap.size w7 (w7.alloc (.cells #[.int .i64 n7, .slice A7 ls7.length c7] 35)) := (Below.refl _ _).alloc (Nat.le_refl _) _
  generalize w7.alloc (.cells #[.int .i64 n7, .slice A7 ls7.length c7] 35) = w8 at *
  replace HA_w4 : Hid (Below w4.heap.size w4 w8) := hide (bt HA_w4.out hb)
  replace HA_w5 : Hid (Below w5.heap.size w5 w8) := hide (bt HA_w5.out hb)
  replace HA_w6 : Hid (Below w6.heap.size w6 w8) := hide (bt HA_w6.out hb)
  replace HA_w7 : Hid (Below w7.heap.size w7 w8) := hide (bt HA_w7.out hb)
  clear hb
  replace HBw6 := hide ((HA_w6.out.block _ (lt_of_block HBw6.out)).trans HBw6.out)
  clear HA_w6
  have HA_w8 : Hid (Below w8.heap.size w8 w8) := hide (Below.refl _ _)
  obtain ⟨hx0, hx1, hy0, hy1⟩ := HC.out w8 (HW34.out _ HA_w4.out)
  go_wp2_with fail
  refine (H9.out w8 HA_w4.out).mono ?_
  rintro e w9 ⟨A9, c9, hs9, rfl, ho9, hb⟩
  replace HA_w4 : Hid (Below w4.heap.size w4 w9) := hide (bt HA_w4.out hb)
  replace HA_w5 : Hid (Below w5.heap.size w5 w9) := hide (bt HA_w5.out hb)
  replace HA_w7 : Hid (Below w7.heap.size w7 w9) := hide (bt HA_w7.out hb)
  replace HA_w8 : Hid (Below w8.heap.size w8 w9) := hide (bt HA_w8.out hb)
  have HO9 := hide ho9
  clear hb hx0 hx1 hy0 hy1 ho9
  simp only [instV]
  have HA_w9 : Hid (Below w9.heap.size w9 w9) := hide (Below.refl _ _)
  go_upto_region 8 with fail
  have HBw10 : Hid ((w9.alloc (.cells #[.int .i64 n5, .slice A9 ls5.length c9] 35)).heap[w9.heap.size]? = some (.cells #[.int .i64 n5, .slice A9 ls5.length c9] 35 (0, 0))) := hide (heap_alloc_new w9 _)
  have hb : Below w9.heap.size w9 (w9.alloc (.cells #[.int .i64 n5, .slice A9 ls5.length c9] 35)) := (Below.refl _ _).alloc (Nat.le_refl _) _
  generalize w9.alloc (.cells #[.int .i64 n5, .slice A9 ls5.length c9] 35) = w10 at *
  replace HA_w4 : Hid (Below w4.heap.size w4 w10) := hide (bt HA_w4.out hb)
  replace HA_w5 : Hid (Below w5.heap.size w5 w10) := hide (bt HA_w5.out hb)
  replace HA_w7 : Hid (Below w7.heap.size w7 w10) := hide (bt HA_w7.out hb)
  replace HA_w8 : Hid (Below w8.heap.size w8 w10) := hide (bt HA_w8.out hb)
  replace HA_w9 : Hid (Below w9.heap.size w9 w10) := hide (bt HA_w9.out hb)
  clear hb
  replace HBw6 := hide ((HA_w8.out.block _ (lt_of_block HBw6.out)).trans HBw6.out)
  replace HBw8 := hide ((HA_w8.out.block _ (lt_of_block HBw8.out)).trans HBw8.out)
  clear HA_w8
  have HA_w10 : Hid (Below w10.heap.size w10 w10) := hide (Below.refl _ _)
  obtain ⟨hx0, hx1, hy0, hy1⟩ := HC.out w10 (HW34.out _ HA_w4.out)
  go_wp2_with fail
  refine (H11.out w10 HA_w4.out).mono ?_
  rintro e w11 ⟨A11, c11, hs11, rfl, ho11, hb⟩
  replace HA_w4 : Hid (Below w4.heap.size w4 w11) := hide (bt HA_w4.out hb)
  replace HA_w5 : Hid (Below w5.heap.size w5 w11) := hide (bt HA_w5.out hb)
  replace HA_w7 : Hid (Below w7.heap.size w7 w11) := hide (bt HA_w7.out hb)
  replace HA_w9 : Hid (Below w9.heap.size w9 w11) := hide (bt HA_w9.out hb)
  replace HA_w10 : Hid (Below w10.heap.size w10 w11) := hide (bt HA_w10.out hb)
  have HO11 := hide ho11
  clear hb hx0 hx1 hy0 hy1 ho11
  simp only [instV]
  have HA_w11 : Hid (Below w11.heap.size w11 w11) := hide (Below.refl _ _)
  go_upto_region 9 with fail
  have HBw12 : Hid ((w11.alloc (.cells #[.int .i64 n7, .slice A11 ls7.length c11] 35)).heap[w11.heap.size]? = some (.cells #[.int .i64 n7, .slice A11 ls7.length c11] 35 (0, 0))) := hide (heap_alloc_new w11 _)
  have hb : Below w11.heap.size w11 (w11.alloc (.cells #[.int .i64 n7, .slice A11 ls7.length c11] 35)) := (Below.refl _ _).alloc (Nat.le_refl _) _
  generalize w11.alloc (.cells #[.int .i64 n7, .slice A11 ls7.length c11] 35) = w12 at *
  replace HA_w4 : Hid (Below w4.heap.size w4 w12) := hide (bt HA_w4.out hb)
  replace HA_w5 : Hid (Below w5.heap.size w5 w12) := hide (bt HA_w5.out hb)
  replace HA_w7 : Hid (Below w7.heap.size w7 w12) := hide (bt HA_w7.out hb)
  replace HA_w9 : Hid (Below w9.heap.size w9 w12) := hide (bt HA_w9.out hb)
  replace HA_w10 : Hid (Below w10.heap.size w10 w12) := hide (bt HA_w10.out hb)
  replace HA_w11 : Hid (Below w11.heap.size w11 w12) := hide (bt HA_w11.out hb)
  clear hb
  replace HBw6 := hide ((HA_w10.out.block _ (lt_of_block HBw6.out)).trans HBw6.out)
  replace HBw8 := hide ((HA_w10.out.block _ (lt_of_block HBw8.out)).trans HBw8.out)
  replace HBw10 := hide ((HA_w10.out.block _ (lt_of_block HBw10.out)).trans HBw10.out)
  clear HA_w10
  have HA_w12 : Hid (Below w12.heap.size w12 w12) := hide (Below.refl _ _)
  have HD : Hid (∀ W, Below w12.heap.size w12 W → (W.cell? ⟨w5.heap.size, 0, none⟩ = some (.int .i64 n5) ∧ W.cell? ⟨w5.heap.size, 1, none⟩ = some (.slice A5 ls5.length c5)) ∧ (W.cell? ⟨w7.heap.size, 0, none⟩ = some (.int .i64 n7) ∧ W.cell? ⟨w7.heap.size, 1, none⟩ = some (.slice A7 ls7.length c7)) ∧ (W.cell? ⟨w9.heap.size, 0, none⟩ = some (.int .i64 n5) ∧ W.cell? ⟨w9.heap.size, 1, none⟩ = some (.slice A9 ls5.length c9)) ∧ (W.cell? ⟨w11.heap.size, 0, none⟩ = some (.int .i64 n7) ∧ W.cell? ⟨w11.heap.size, 1, none⟩ = some (.slice A11 ls7.length c11))) := hide (fun W hW => ⟨⟨cell_of_row W _ 0 _ _ (0, 0) ((hW.block _ (lt_of_block HBw6.out)).trans HBw6.out), cell_of_row W _ 1 _ _ (0, 0) ((hW.block _ (lt_of_block HBw6.out)).trans HBw6.out)⟩, ⟨cell_of_row W _ 0 _ _ (0, 0) ((hW.block _ (lt_of_block HBw8.out)).trans HBw8.out), cell_of_row W _ 1 _ _ (0, 0) ((hW.block _ (lt_of_block HBw8.out)).trans HBw8.out)⟩, ⟨cell_of_row W _ 0 _ _ (0, 0) ((hW.block _ (lt_of_block HBw10.out)).trans HBw10.out), cell_of_row W _ 1 _ _ (0, 0) ((hW.block _ (lt_of_block HBw10.out)).trans HBw10.out)⟩, ⟨cell_of_row W _ 0 _ _ (0, 0) ((hW.block _ (lt_of_block HBw12.out)).trans HBw12.out), cell_of_row W _ 1 _ _ (0, 0) ((hW.block _ (lt_of_block HBw12.out)).trans HBw12.out)⟩⟩)
  have HSA : Hid (∀ W, Below w12.heap.size w12 W → Calls Tryd.prog 43 #[.agg #[.int .i64 n5, .slice A5 ls5.length c5], .agg #[.int .i64 n5, .slice A9 ls5.length c9]] W (ValPost (.bool true) W)) := hide (fun W hW => sameInst_eq n5 A5 c5 hs5 A9 c9 hs9 ls5 W ((HO5.out.below (bt HA_w5.out hW)).buys) (HO9.out.up (bt HA_w9.out hW)) (by have := HN5.out; omega) (fun x hx => by have := HL5.out x hx; omega))
  have HSB : Hid (∀ W, Below w12.heap.size w12 W → Calls Tryd.prog 43 #[.agg #[.int .i64 n7, .slice A7 ls7.length c7], .agg #[.int .i64 n7, .slice A11 ls7.length c11]] W (ValPost (.bool true) W)) := hide (fun W hW => sameInst_eq n7 A7 c7 hs7 A11 c11 hs11 ls7 W ((HO7.out.below (bt HA_w7.out hW)).buys) (HO11.out.up (bt HA_w11.out hW)) (by have := HN7.out; omega) (fun x hx => by have := HL7.out x hx; omega))
  obtain ⟨⟨p0, p1⟩, ⟨p2, p3⟩, ⟨p4, p5⟩, ⟨p6, p7⟩⟩ := HD.out w12 HA_w12.out
  obtain ⟨hx0, hx1, hy0, hy1⟩ := HC.out w12 (HW34.out _ HA_w4.out)
  go_wp2_with fail
  refine (HSA.out w12 HA_w12.out).mono ?_
  rintro e w13 ⟨rfl, hb⟩
  replace HA_w4 : Hid (Below w4.heap.size w4 w13) := hide (bt HA_w4.out hb)
  replace HA_w5 : Hid (Below w5.heap.size w5 w13) := hide (bt HA_w5.out hb)
  replace HA_w7 : Hid (Below w7.heap.size w7 w13) := hide (bt HA_w7.out hb)
  replace HA_w9 : Hid (Below w9.heap.size w9 w13) := hide (bt HA_w9.out hb)
  replace HA_w11 : Hid (Below w11.heap.size w11 w13) := hide (bt HA_w11.out hb)
  replace HA_w12 : Hid (Below w12.heap.size w12 w13) := hide (bt HA_w12.out hb)
  clear hb
  clear p0 p1 p2 p3 p4 p5 p6 p7 hx0 hx1 hy0 hy1
  obtain ⟨⟨p0, p1⟩, ⟨p2, p3⟩, ⟨p4, p5⟩, ⟨p6, p7⟩⟩ := HD.out w13 HA_w12.out
  obtain ⟨hx0, hx1, hy0, hy1⟩ := HC.out w13 (HW34.out _ HA_w4.out)
  go_wp2_with fail
  refine (HNU.out e5 w13).mono ?_
  rintro e w14 ⟨rfl, hb⟩
  replace HA_w4 : Hid (Below w4.heap.size w4 w14) := hide (bt HA_w4.out hb)
  replace HA_w5 : Hid (Below w5.heap.size w5 w14) := hide (bt HA_w5.out hb)
  replace HA_w7 : Hid (Below w7.heap.size w7 w14) := hide (bt HA_w7.out hb)
  replace HA_w9 : Hid (Below w9.heap.size w9 w14) := hide (bt HA_w9.out hb)
  replace HA_w11 : Hid (Below w11.heap.size w11 w14) := hide (bt HA_w11.out hb)
  replace HA_w12 : Hid (Below w12.heap.size w12 w14) := hide (bt HA_w12.out hb)
  clear hb
  clear p0 p1 p2 p3 p4 p5 p6 p7 hx0 hx1 hy0 hy1
  obtain ⟨⟨p0, p1⟩, ⟨p2, p3⟩, ⟨p4, p5⟩, ⟨p6, p7⟩⟩ := HD.out w14 HA_w12.out
  obtain ⟨hx0, hx1, hy0, hy1⟩ := HC.out w14 (HW34.out _ HA_w4.out)
  go_wp2_with fail
  refine (HSB.out w14 HA_w12.out).mono ?_
  rintro e w15 ⟨rfl, hb⟩
  replace HA_w4 : Hid (Below w4.heap.size w4 w15) := hide (bt HA_w4.out hb)
  replace HA_w5 : Hid (Below w5.heap.size w5 w15) := hide (bt HA_w5.out hb)
  replace HA_w7 : Hid (Below w7.heap.size w7 w15) := hide (bt HA_w7.out hb)
  replace HA_w9 : Hid (Below w9.heap.size w9 w15) := hide (bt HA_w9.out hb)
  replace HA_w11 : Hid (Below w11.heap.size w11 w15) := hide (bt HA_w11.out hb)
  replace HA_w12 : Hid (Below w12.heap.size w12 w15) := hide (bt HA_w12.out hb)
  clear hb
  clear p0 p1 p2 p3 p4 p5 p6 p7 hx0 hx1 hy0 hy1
  obtain ⟨⟨p0, p1⟩, ⟨p2, p3⟩, ⟨p4, p5⟩, ⟨p6, p7⟩⟩ := HD.out w15 HA_w12.out
  obtain ⟨hx0, hx1, hy0, hy1⟩ := HC.out w15 (HW34.out _ HA_w4.out)
  go_wp2_with fail
  refine (HNU.out e7 w15).mono ?_
  rintro e w16 ⟨rfl, hb⟩
  replace HA_w4 : Hid (Below w4.heap.size w4 w16) := hide (bt HA_w4.out hb)
  replace HA_w5 : Hid (Below w5.heap.size w5 w16) := hide (bt HA_w5.out hb)
  replace HA_w7 : Hid (Below w7.heap.size w7 w16) := hide (bt HA_w7.out hb)
  replace HA_w9 : Hid (Below w9.heap.size w9 w16) := hide (bt HA_w9.out hb)
  replace HA_w11 : Hid (Below w11.heap.size w11 w16) := hide (bt HA_w11.out hb)
  replace HA_w12 : Hid (Below w12.heap.size w12 w16) := hide (bt HA_w12.out hb)
  clear hb
  clear p0 p1 p2 p3 p4 p5 p6 p7 hx0 hx1 hy0 hy1
  obtain ⟨⟨p0, p1⟩, ⟨p2, p3⟩, ⟨p4, p5⟩, ⟨p6, p7⟩⟩ := HD.out w16 HA_w12.out
  obtain ⟨hx0, hx1, hy0, hy1⟩ := HC.out w16 (HW34.out _ HA_w4.out)
  go_wp2_with fail
  refine (HST.out w16 HA_w4.out).mono ?_
  rintro e w17 ⟨rfl, hb⟩
  replace HA_w4 : Hid (Below w4.heap.size w4 w17) := hide (bt HA_w4.out hb)
  replace HA_w5 : Hid (Below w5.heap.size w5 w17) := hide (bt HA_w5.out hb)
  replace HA_w7 : Hid (Below w7.heap.size w7 w17) := hide (bt HA_w7.out hb)
  replace HA_w9 : Hid (Below w9.heap.size w9 w17) := hide (bt HA_w9.out hb)
  replace HA_w11 : Hid (Below w11.heap.size w11 w17) := hide (bt HA_w11.out hb)
  replace HA_w12 : Hid (Below w12.heap.size w12 w17) := hide (bt HA_w12.out hb)
  clear hb
  clear p0 p1 p2 p3 p4 p5 p6 p7 hx0 hx1 hy0 hy1
  obtain ⟨⟨p0, p1⟩, ⟨p2, p3⟩, ⟨p4, p5⟩, ⟨p6, p7⟩⟩ := HD.out w17 HA_w12.out
  obtain ⟨hx0, hx1, hy0, hy1⟩ := HC.out w17 (HW34.out _ HA_w4.out)
  go_wp2_with fail
  refine (HKM.out w17 HA_w4.out).mono ?_
  rintro e w18 ⟨rfl, hb⟩
  replace HA_w4 : Hid (Below w4.heap.size w4 w18) := hide (bt HA_w4.out hb)
  replace HA_w5 : Hid (Below w5.heap.size w5 w18) := hide (bt HA_w5.out hb)
  replace HA_w7 : Hid (Below w7.heap.size w7 w18) := hide (bt HA_w7.out hb)
  replace HA_w9 : Hid (Below w9.heap.size w9 w18) := hide (bt HA_w9.out hb)
  replace HA_w11 : Hid (Below w11.heap.size w11 w18) := hide (bt HA_w11.out hb)
  replace HA_w12 : Hid (Below w12.heap.size w12 w18) := hide (bt HA_w12.out hb)
  clear hb
  clear p0 p1 p2 p3 p4 p5 p6 p7 hx0 hx1 hy0 hy1
  have HOA := hide (HO5.out.below HA_w5.out)
  have HOB := hide (HO7.out.below HA_w7.out)
  have HIA := hide HO5.out.inB
  have HIB := hide HO7.out.inB
  have HBA : Hid (w18.heap[w5.heap.size]? = some (.cells #[.int .i64 n5, .slice A5 ls5.length c5] 35 (0, 0))) := hide ((HA_w12.out.block _ (lt_of_block HBw6.out)).trans HBw6.out)
  have HBB : Hid (w18.heap[w7.heap.size]? = some (.cells #[.int .i64 n7, .slice A7 ls7.length c7] 35 (0, 0))) := hide ((HA_w12.out.block _ (lt_of_block HBw8.out)).trans HBw8.out)
  have S4 := hide HA_w4.out.size
  have HS6 : Hid (w6.heap.size ≤ w18.heap.size) := hide (Nat.le_trans HB67.out HA_w7.out.size)
  have S5 := hide HA_w5.out.size
  clear HSA HSB HNU H5 H7 H9 H11 HO9 HO11 HO5 HO7 HBw6 HBw8 HBw10 HBw12 HD HA_w12 HA_w11 HA_w9
  have HXA : Hid (∀ W, Outside w4.heap.size w5.heap.size w18 W → W.cell? ⟨w5.heap.size, 1, none⟩ = some (.slice A5 ls5.length c5)) := hide (fun W hW => cell_of_row W _ 1 _ _ (0, 0) ((hW.block _ (lt_of_block HBA.out) (.inr (Nat.le_refl _))).trans HBA.out))
  go_wp2_with fail
  go_loopw [17] (fun iv wr => ∃ k : Nat, k ≤ ls5.length ∧ iv = .int .i64 k ∧ SpB w4.heap.size w5.heap.size w18 A5 c5 hs5 ls5 k wr) (fun iv _ => ls5.length - (intOf iv).toNat)
  case atStart => exact ⟨0, Nat.zero_le _, rfl, SpB.start HOA.out⟩
  case round =>
    obtain ⟨k, hk, rfl, hsp⟩ := hrel
    have HSP := hide hsp
    clear hsp
    have hbx := HXA.out wr HSP.out.out
    have hn60 : ls5.length ≤ 60 := HN5.out
    by_cases hlt : k < ls5.length
    · obtain ⟨g, hA⟩ := HSP.out.form hlt
      have hA' := hide hA
      rw [hA] at HSP hbx
      clear hA
      have HIG := hide (hA'.out ▸ HIA.out)
      have hkh : k < hs5.length := by have := HOA.out.len; omega
      have hkk := List.getElem?_eq_getElem hkh
      generalize hs5[k] = hk' at hkk
      obtain ⟨a1, a2⟩ := hk'
      have hll := List.getElem?_eq_getElem hlt
      generalize ls5[k] = lk at hll
      have d1 := HSP.out.read hkk hll
      have hlk := HL5.out lk (List.mem_of_getElem? hll)
      have HSC : Hid (Calls Tryd.prog 14 #[.slice a1 lk.length a2] wr (SpoiltPost (hdrV (a1, a2) lk).ownBlock wr)) := hide (spoilt_any wr (HSP.out.row k _ _ (Nat.le_refl _) hkk hll) (by omega) (Nat.le_trans S4.out HSP.out.out.size))
      have HKK := hide hkk
      have HLK := hide hll
      have hki : (k : Int) < (ls5.length : Int) := by omega
      clear hkk hll
      go_wp2_with fail
      refine (HSC.out).mono ?_
      rintro e wq ⟨rfl, hg⟩
      obtain ⟨⟨u, hu⟩, hfz, hout, hsp'⟩ := HSP.out.step HIG.out HF5.out HKK.out HLK.out hg
      have HSN := hide hsp'
      clear hbx d1 hg hsp'
      have hbx := HXA.out wq hout
      clear hout
      rw [hA'.out] at hbx
      go_wp2_with fail
      go_roundw
      case rel => exact ⟨k + 1, by omega, by go_num, hA'.out ▸ HSN.out⟩
      case measure => simp [intOf]; omega
    · obtain rfl : k = ls5.length := by omega
      have HUA := hide HSP.out.out
      obtain ⟨wA, rfl⟩ : ∃ wA : World, wA = wr := ⟨_, rfl⟩
      have HOC := hide (HOB.out.out HUA.out HB6Z.out)
      have HBC : Hid (wA.heap[w7.heap.size]? = some (.cells #[.int .i64 n7, .slice A7 ls7.length c7] 35 (0, 0))) := hide ((HUA.out.block _ (lt_of_block HBB.out) (.inr (Nat.le_trans HB6Z.out HB67.out))).trans HBB.out)
      have HXB : Hid (∀ W, Outside w6.heap.size w7.heap.size wA W → W.cell? ⟨w7.heap.size, 1, none⟩ = some (.slice A7 ls7.length c7)) := hide (fun W hW => cell_of_row W _ 1 _ _ (0, 0) ((hW.block _ (lt_of_block HBC.out) (.inr (Nat.le_refl _))).trans HBC.out))
      have S6 : Hid (w6.heap.size ≤ wA.heap.size) := hide (Nat.le_trans HS6.out HUA.out.size)
      clear HSP HOA HIA HF5 HL5 HXA
      go_wp2_with fail
      go_loopw [18] (fun iv wr => ∃ k : Nat, k ≤ ls7.length ∧ iv = .int .i64 k ∧ SpB w6.heap.size w7.heap.size wA A7 c7 hs7 ls7 k wr) (fun iv _ => ls7.length - (intOf iv).toNat)
      case atStart => exact ⟨0, Nat.zero_le _, rfl, SpB.start HOC.out⟩
      case round =>
        obtain ⟨k, hk, rfl, hsp⟩ := hrel
        have HSP := hide hsp
        clear hsp
        have hbx := HXB.out wr HSP.out.out
        have hn60 : ls7.length ≤ 60 := HN7.out
        by_cases hlt : k < ls7.length
        · obtain ⟨g, hA⟩ := HSP.out.form hlt
          have hA' := hide hA
          rw [hA] at HSP hbx
          clear hA
          have HIG := hide (hA'.out ▸ HIB.out)
          have hkh : k < hs7.length := by have := HOC.out.len; omega
          have hkk := List.getElem?_eq_getElem hkh
          generalize hs7[k] = hk' at hkk
          obtain ⟨a1, a2⟩ := hk'
          have hll := List.getElem?_eq_getElem hlt
          generalize ls7[k] = lk at hll
          have d1 := HSP.out.read hkk hll
          have hlk := HL7.out lk (List.mem_of_getElem? hll)
          have HSC : Hid (Calls Tryd.prog 14 #[.slice a1 lk.length a2] wr (SpoiltPost (hdrV (a1, a2) lk).ownBlock wr)) := hide (spoilt_any wr (HSP.out.row k _ _ (Nat.le_refl _) hkk hll) (by omega) (Nat.le_trans S6.out HSP.out.out.size))
          have HKK := hide hkk
          have HLK := hide hll
          have hki : (k : Int) < (ls7.length : Int) := by omega
          clear hkk hll
          go_wp2_with fail
          refine (HSC.out).mono ?_
          rintro e wq ⟨rfl, hg⟩
          obtain ⟨⟨u, hu⟩, hfz, hout, hsp'⟩ := HSP.out.step HIG.out HF7.out HKK.out HLK.out hg
          have HSN := hide hsp'
          clear hbx d1 hg hsp'
          have hbx := HXB.out wq hout
          clear hout
          rw [hA'.out] at hbx
          go_wp2_with fail
          go_roundw
          case rel => exact ⟨k + 1, by omega, by go_num, hA'.out ▸ HSN.out⟩
          case measure => simp [intOf]; omega
    
        · obtain rfl : k = ls7.length := by omega
          have HUB := hide HSP.out.out
          have HA_w4 : Hid (Below w4.heap.size w4 wr) := hide ((HA_w4.out.trans (HUA.out.below (Nat.le_refl _) S4.out)).trans (HUB.out.below (Nat.le_trans HB46.out (Nat.le_refl _)) S6.out))
          clear HSP HOC HIB HF7 HL7 HXB HUA HUB
          obtain ⟨hx0, hx1, hy0, hy1⟩ := HC.out wr (HW34.out _ HA_w4.out)
          go_wp2_with fail
          refine (HST.out wr HA_w4.out).mono ?_
          rintro e wy ⟨rfl, hb⟩
          replace HA_w4 := hide (bt HA_w4.out hb)
          clear hb
          go_wp2_with fail
          refine (HKM.out wy HA_w4.out).mono ?_
          rintro e wz ⟨rfl, hb⟩
          replace HA_w4 := hide (bt HA_w4.out hb)
          clear hb
          go_wp2_with fail
          refine (HWK.out wz (HWW.out _ (HW34.out _ HA_w4.out))).mono ?_
          rintro e wv ⟨rfl, hb⟩
          have HZZ := hide (bt (HWW.out _ (HW34.out _ HA_w4.out)) hb)
          clear hb
          go_wp2_with fail
          go_ret
          exact ⟨rfl, HZZ.out⟩
end Go.Proofs.YtkiebjgpghajbaaDoor
