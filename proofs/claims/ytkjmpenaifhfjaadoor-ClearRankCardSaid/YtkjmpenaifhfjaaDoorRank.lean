/- The walks of clear.Rank and of its reference: how much a choice is below the greatest worth. -/
import Derived.Test.YtkjmpenaifhfjaaDoorRefChoice
import Derived.Test.YtkjmpenaifhfjaaDoorTab
import Derived.Deep.CutRange
import Derived.Deep.RegionHeld3
namespace Go.Proofs.YtkjmpenaifhfjaaDoor
open Go.RowKit Go.Maps
open Go.ChangeMaps Go.WideMaps

def rankI (n : Int) (ls : List (List Offer)) (zs : List Int) : Int × Int := if choiceE n ls zs ≠ 0 then (0, choiceE n ls zs) else (bestW ls (allI n) - worthC ls zs, 0)
theorem allI_top {n : Int} (h1 : 1 ≤ n) (h2 : n ≤ 10) : allI n < 2 ^ n.toNat := by
  have e : allI n = allG n.toNat := by unfold allI; rw [if_neg (by omega)]
  rw [e]
  unfold allG
  have := Nat.one_le_two_pow (n := n.toNat)
  omega
theorem allI_32 (n : Int) : allI n < 4294967296 := by
  unfold allI
  split
  · omega
  · exact allG_lt _ (by omega)
theorem from_whole {n : Int} {ls : List (List Offer)} (hw : BWide ls) (h : instE n ls = 0) : fromI n ls 0 (allI n) = (bestW ls (allI n), 0) := by
  have hg := instE_good hw h
  have h1 : mayE n ls 0 (allI n) = 0 := by
    unfold mayE
    rw [if_neg (by simpa using h), if_neg]
    rintro (h1 | h1 | h1)
    · omega
    · omega
    · have e : allI n = allG n.toNat := by unfold allI; rw [if_neg (by have := hg.lo; have := hg.hi; omega)]
      rw [e, within_all _ _ (allG_lt _ (by have := hg.hi; omega)) (by have := hg.hi; omega), decide_eq_false_iff_not] at h1
      apply h1
      unfold allG
      have := Nat.one_le_two_pow (n := n.toNat)
      omega
  unfold fromI
  rw [if_neg (by simpa using h1)]
  simp
theorem choice_ok {n : Int} {ls : List (List Offer)} {zs : List Int} (hw : BWide ls) (h : choiceE n ls zs = 0) : instE n ls = 0 ∧ choiceC n ls zs = worthC ls zs ∧ 0 ≤ bestW ls (allI n) ∧ bestW ls (allI n) ≤ 35184372088832 ∧ 0 ≤ worthC ls zs ∧ worthC ls zs ≤ 35184372088832 := by
  unfold choiceE at h
  by_cases h0 : instE n ls = 0
  · rw [if_neg (by simpa using h0)] at h
    have hg := instE_good hw h0
    have hfew := hg.few
    have h1 := bestW_bd ls hg.good (allI n)
    have h2 : worthC ls zs = sumC (outL ls zs) := by unfold worthC; rw [if_neg (by simpa using h)]
    have h3 := sumC_bd (outL ls zs) (outL_bd hg.good zs)
    have h4 : (outL ls zs).length ≤ 32 := by unfold outL; rw [List.length_zipWith]; omega
    refine ⟨h0, by unfold choiceC; rw [if_neg (by simpa using h0)], h1.1, by omega, by omega, by omega⟩
  · rw [if_pos h0] at h
    exact absurd h h0

set_option maxRecDepth 100000 in
set_option maxHeartbeats 4000000 in
theorem rank_any (n : Int) (A : Option Addr) (c : Nat) (hs : List Hdr) (ls : List (List Offer)) (Z : Option Addr) (zc : Nat) (zs : List Int) (w : World) (h : Buys w w.heap.size A hs ls) (hl : ls.length ≤ 1000000) (hls : BLens ls) (hw : BWide ls)
    (hz : One intV w w.heap.size Z zs) (hzl : zs.length * 8 ≤ 140737488351232) (hT : TabW w) :
    Calls Tryd.prog 7 #[instV n A ls.length c, .slice Z zs.length zc] w (ValPost (.tuple #[.int .i64 (rankI n ls zs).1, .int .i64 (rankI n ls zs).2]) w) := by
  have HB : Hid (Below w.heap.size w (w.alloc (.cells #[.int .i64 n, .slice A ls.length c] 24))) := hide ((Below.refl _ _).alloc (Nat.le_refl _) _)
  have HX : Hid ((w.alloc (.cells #[.int .i64 n, .slice A ls.length c] 24)).heap[w.heap.size]? = some (.cells #[.int .i64 n, .slice A ls.length c] 24 (0, 0))) := hide (heap_alloc_new w _)
  have HI := hide (choice_any n A c hs ls Z zc zs _ (h.up HB.out) hl hls hw (hz.up HB.out) hzl (hT.below HB.out))
  by_cases h0 : choiceE n ls zs = 0
  · obtain ⟨hi, hc, hb1, hb2, hb3, hb4⟩ := choice_ok hw h0
    have HR : Hid (rankI n ls zs = (bestW ls (allI n) - worthC ls zs, 0)) := hide (by unfold rankI; rw [if_neg (by simpa using h0)])
    have HW : Hid (∀ W, Below w.heap.size w W → Calls Tryd.prog 18 #[instV n A ls.length c] W (FromPost n ls 0 (allI n) W)) := hide (fun W hb => W_any n A c hs ls W (h.up hb) hl hls hw)
    unfold FromPost at HW
    rw [from_whole hw hi] at HW
    rw [hc, h0] at HI
    rw [HR.out]
    clear h hls hw hz hT hi hc h0 HR
    generalize bestW ls (allI n) = bw at *
    generalize worthC ls zs = wc at *
    have hwr : IntKind.i64.wrap (bw - wc) = bw - wc := Go.IntWalk.i64_in _ (by omega)
    clear hb1 hb2 hb3 hb4
    simp only [instV] at *
    go_enter Tryd.func7, Tryd.ntmps7
    go_wp2_with fail
    refine (HI.out).mono ?_
    rintro e w1 ⟨rfl, hb1⟩
    have HX1 : Hid (w1.heap[w.heap.size]? = some (.cells #[.int .i64 n, .slice A ls.length c] 24 (0, 0))) := hide ((hb1.block _ (lt_of_block HX.out)).trans HX.out)
    have HB1 : Hid (Below w.heap.size w w1) := hide (HB.out.trans (hb1.mono HB.out.size))
    have x0 : w1.cell? ⟨w.heap.size, 0, none⟩ = some (.int .i64 n) := cell_of_row w1 w.heap.size 0 _ _ (0, 0) HX1.out
    have x1 : w1.cell? ⟨w.heap.size, 1, none⟩ = some (.slice A ls.length c) := cell_of_row w1 w.heap.size 1 _ _ (0, 0) HX1.out
    clear hb1
    go_wp2_with fail
    refine (HW.out w1 HB1.out).mono ?_
    rintro e w2 ⟨rfl, hb2⟩
    have HB2 : Hid (Below w.heap.size w w2) := hide (HB1.out.trans (hb2.mono HB1.out.size))
    clear hb2 x0 x1
    go_wp2_with fail
    go_ret2
    exact ⟨rfl, HB2.out⟩
  · have HR : Hid (rankI n ls zs = (0, choiceE n ls zs)) := hide (by unfold rankI; rw [if_pos h0])
    have h0' : (choiceE n ls zs != 0) = true := by simpa using h0
    rw [HR.out]
    generalize choiceE n ls zs = ce at *
    generalize choiceC n ls zs = cc at *
    clear HR h hls hw hz hT h0
    simp only [instV] at *
    go_enter Tryd.func7, Tryd.ntmps7
    go_wp2_with fail
    refine (HI.out).mono ?_
    rintro e w1 ⟨rfl, hb1⟩
    have HB1 : Hid (Below w.heap.size w w1) := hide (HB.out.trans (hb1.mono HB.out.size))
    clear hb1
    go_wp2_with fail
    go_ret2
    exact ⟨rfl, HB1.out⟩

set_option maxRecDepth 100000 in
set_option maxHeartbeats 2000000 in
theorem refall_any (n : Int) (h1 : 1 ≤ n) (h2 : n ≤ 10) (A : Option Addr) (l c : Nat) (w : World) : Calls Tryd.prog 21 #[instV n A l c] w (ValPost (.int .u32 (allI n : Int)) w) := by
  have hn : n = 1 ∨ n = 2 ∨ n = 3 ∨ n = 4 ∨ n = 5 ∨ n = 6 ∨ n = 7 ∨ n = 8 ∨ n = 9 ∨ n = 10 := by omega
  clear h1 h2
  simp only [instV]
  rcases hn with rfl | rfl | rfl | rfl | rfl | rfl | rfl | rfl | rfl | rfl
  all_goals
    go_enter Tryd.func21, Tryd.ntmps21
    go_wp2_with fail
    go_ret
    exact ⟨rfl, (Below.refl _ _).alloc (Nat.le_refl _) _⟩

set_option maxRecDepth 100000 in
set_option maxHeartbeats 4000000 in
theorem refrank_any (n : Int) (A : Option Addr) (c : Nat) (hs : List Hdr) (ls : List (List Offer)) (Z : Option Addr) (zc : Nat) (zs : List Int) (w : World) (h : Buys w w.heap.size A hs ls) (hl : ls.length ≤ 1000000) (hls : BLens ls) (hw : BWide ls)
    (hz : One intV w w.heap.size Z zs) (hzl : zs.length * 8 ≤ 140737488351232) :
    Calls Tryd.prog 8 #[instV n A ls.length c, .slice Z zs.length zc] w (ValPost (.tuple #[.int .i64 (rankI n ls zs).1, .int .i64 (rankI n ls zs).2]) w) := by
  have HB : Hid (Below w.heap.size w (w.alloc (.cells #[.int .i64 n, .slice A ls.length c] 24))) := hide ((Below.refl _ _).alloc (Nat.le_refl _) _)
  have HX : Hid ((w.alloc (.cells #[.int .i64 n, .slice A ls.length c] 24)).heap[w.heap.size]? = some (.cells #[.int .i64 n, .slice A ls.length c] 24 (0, 0))) := hide (heap_alloc_new w _)
  have HI := hide (refchoice_any n A c hs ls Z zc zs _ (h.up HB.out) hl hls hw (hz.up HB.out) hzl)
  by_cases h0 : choiceE n ls zs = 0
  · obtain ⟨hi, hc, hb1, hb2, hb3, hb4⟩ := choice_ok hw h0
    have hg := instE_good hw hi
    have hn1 := hg.lo
    have hn2 := hg.hi
    have HR : Hid (rankI n ls zs = (bestW ls (allI n) - worthC ls zs, 0)) := hide (by unfold rankI; rw [if_neg (by simpa using h0)])
    obtain ⟨nn, rfl⟩ : ∃ nn : Nat, n = nn := ⟨n.toNat, by omega⟩
    have HTB : Hid (∀ W, Below w.heap.size w W → Calls Tryd.prog 20 #[instV (nn : Int) A ls.length c] W (fun e w' => ∃ H g, e = .returned (.slice (some ⟨H, 0, none⟩) (ls.length + 1) (ls.length + 1)) ∧ (∀ W', Below w'.heap.size w' W' → W'.cell? ⟨H, 0, none⟩ = some (.slice (some ⟨g, 0, none⟩) (2 ^ nn) (2 ^ nn)) ∧ W'.cell? ⟨g, allI nn, none⟩ = some (.int .i64 (bestW ls (allI nn)))) ∧ Below W.heap.size W w')) := hide (fun W hb => (table_any nn A c hs ls W (h.up hb) hg).mono (fun e w' ⟨H, h1, h2, h3⟩ => by
      obtain ⟨_, h5, h6⟩ := h2
      obtain ⟨g, h7, h8, h9, h10⟩ := h6 0 (Nat.zero_le _)
      rw [Int.toNat_natCast] at h9 h10
      have h11 := h10 (allI nn) (by have := allI_top hn1 hn2; rwa [Int.toNat_natCast] at this)
      exact ⟨H, g, h1, fun W' hW => ⟨(hW.cell (p := ⟨H, 0, none⟩) h5).trans h9, (hW.cell (p := ⟨g, allI nn, none⟩) h8).trans h11⟩, h3⟩))
    have HWH : Hid (∀ W, Below w.heap.size w W → Calls Tryd.prog 21 #[instV (nn : Int) A ls.length c] W (ValPost (.int .u32 (allI nn : Int)) W)) := hide (fun W _ => refall_any nn hn1 hn2 A ls.length c W)
    have hal : (allI nn : Int) < ((2 ^ nn : Nat) : Int) := by have := allI_top hn1 hn2; rw [Int.toNat_natCast] at this; omega
    rw [hc, h0] at HI
    rw [HR.out]
    clear h hls hw hz hi hc h0 HR hg hn1 hn2
    generalize bestW ls (allI nn) = bw at *
    generalize worthC ls zs = wc at *
    generalize allI nn = al at *
    generalize 2 ^ nn = s at *
    have hwr : IntKind.i64.wrap (bw - wc) = bw - wc := Go.IntWalk.i64_in _ (by omega)
    have hl0 : (0 : Int) < (ls.length : Int) + 1 := by omega
    clear hb1 hb2 hb3 hb4
    simp only [instV] at *
    go_enter Tryd.func8, Tryd.ntmps8
    go_wp2_with fail
    refine (HI.out).mono ?_
    rintro e w1 ⟨rfl, hb1⟩
    have HX1 : Hid (w1.heap[w.heap.size]? = some (.cells #[.int .i64 (nn : Int), .slice A ls.length c] 24 (0, 0))) := hide ((hb1.block _ (lt_of_block HX.out)).trans HX.out)
    have HB1 : Hid (Below w.heap.size w w1) := hide (HB.out.trans (hb1.mono HB.out.size))
    clear hb1 HX
    go_upto_region 4 with fail
    have HXD : Hid (w1.drew.heap[w.heap.size]? = some (.cells #[.int .i64 (nn : Int), .slice A ls.length c] 24 (0, 0))) := hide HX1.out
    have HBD : Hid (Below w.heap.size w w1.drew) := hide HB1.out.drew
    have p0 : w1.drew.cell? ⟨w.heap.size, 0, none⟩ = some (.int .i64 (nn : Int)) := cell_of_row w1.drew w.heap.size 0 _ _ (0, 0) HXD.out
    have p1 : w1.drew.cell? ⟨w.heap.size, 1, none⟩ = some (.slice A ls.length c) := cell_of_row w1.drew w.heap.size 1 _ _ (0, 0) HXD.out
    go_region_with (first | (go_at_call 21; refine (HWH.out _ (by first | exact HB3.out | exact HBD.out)).mono ?_; rintro e w2 ⟨rfl, hb2⟩; have HB2 : Hid (Below w.heap.size w w2) := hide ((by first | exact HB3.out | exact HBD.out : Below w.heap.size w _).trans (hb2.mono (by first | exact HB3.out.size | exact HBD.out.size))); have HX2 : Hid (w2.heap[w.heap.size]? = some (.cells #[.int .i64 (nn : Int), .slice A ls.length c] 24 (0, 0))) := hide (by first | exact (hb2.block _ (lt_of_block HX3.out)).trans HX3.out | exact (hb2.block _ (lt_of_block HXD.out)).trans HXD.out); have r0 := cell_of_row w2 w.heap.size 0 _ _ (0, 0) HX2.out; have r1 := cell_of_row w2 w.heap.size 1 _ _ (0, 0) HX2.out; simp at r0 r1; try (obtain ⟨t1, t2⟩ := HT3.out w2 hb2); clear hb2) | (go_at_call 20; refine (HTB.out _ (by first | exact HB2.out | exact HBD.out)).mono ?_; rintro e w3 ⟨H, g, rfl, ht3, hb3⟩; have HB3 : Hid (Below w.heap.size w w3) := hide ((by first | exact HB2.out | exact HBD.out : Below w.heap.size w _).trans (hb3.mono (by first | exact HB2.out.size | exact HBD.out.size))); have HX3 : Hid (w3.heap[w.heap.size]? = some (.cells #[.int .i64 (nn : Int), .slice A ls.length c] 24 (0, 0))) := hide (by first | exact (hb3.block _ (lt_of_block HX2.out)).trans HX2.out | exact (hb3.block _ (lt_of_block HXD.out)).trans HXD.out); have s0 := cell_of_row w3 w.heap.size 0 _ _ (0, 0) HX3.out; have s1 := cell_of_row w3 w.heap.size 1 _ _ (0, 0) HX3.out; simp at s0 s1; obtain ⟨t1, t2⟩ := ht3 w3 (Below.refl _ _); have HT3 := hide ht3; clear hb3 ht3))
    all_goals go_wp2_with fail
    all_goals go_ret2
    all_goals exact ⟨rfl, by first | exact HB3.out | exact HB2.out⟩
  · have HR : Hid (rankI n ls zs = (0, choiceE n ls zs)) := hide (by unfold rankI; rw [if_pos h0])
    have h0' : (choiceE n ls zs != 0) = true := by simpa using h0
    rw [HR.out]
    generalize choiceE n ls zs = ce at *
    generalize choiceC n ls zs = cc at *
    clear HR h hls hw hz h0
    simp only [instV] at *
    go_enter Tryd.func8, Tryd.ntmps8
    go_wp2_with fail
    refine (HI.out).mono ?_
    rintro e w1 ⟨rfl, hb1⟩
    have HB1 : Hid (Below w.heap.size w w1) := hide (HB.out.trans (hb1.mono HB.out.size))
    clear hb1
    go_wp2_with fail
    go_ret2
    exact ⟨rfl, HB1.out⟩
end Go.Proofs.YtkjmpenaifhfjaaDoor
