/- The chapter's instance; the rows of the chapter that the laws end in. -/
import Derived.Test.YtffpiaipdeebcaaDoorTk
import Derived.Test.YtffpiaipdeebcaaDoorPz
namespace Go.Proofs.YtffpiaipdeebcaaDoor
open Go.RowKit Go.Maps Go.Shelf
open Go.ChangeMaps Go.WideMaps

def smallL : List (List Offer) := [[(1, 5), (3, 9)], [(2, 4)]]
theorem small_inst : instE 2 smallL = 0 := by kernel_rfl
theorem small_wide : BWide smallL := by
  intro l hl o ho
  simp [smallL] at hl
  rcases hl with rfl | rfl <;> simp at ho <;> (first | (rcases ho with rfl | rfl) | subst ho) <;> decide
theorem small_worth : worthC smallL [0, 0] = 9 ∧ chE smallL [0, 0] = 0 ∧ worthC smallL [1, 0] = 0 ∧ chE smallL [1, 0] = 170 ∧ takenL smallL [0, 0] = [1, 2] := by decide +kernel
theorem num_any (n : Int) (w : World) : Calls Tryd.prog 15 #[.int .i64 n] w (SamePost (.int .i64 n) w) := by
  go_enter Tryd.func15, Tryd.ntmps15
  go_wp2
  go_ret
  exact ⟨rfl, rfl⟩
def SmallPost (w : World) (e : Ending) (w' : World) : Prop := ∃ A hs, e = .returned (instV 2 A smallL.length 2) ∧ Buys w' w'.heap.size A hs smallL ∧ NilB hs ∧ Below w.heap.size w w'
theorem four_boxes (w : World) (o1 o2 o3 o4 : Obj) : (((((w.alloc o1).alloc o2).alloc o3).alloc o4).heap[w.heap.size]? = some o1 ∧ ((((w.alloc o1).alloc o2).alloc o3).alloc o4).heap[w.heap.size + 1]? = some o2 ∧ ((((w.alloc o1).alloc o2).alloc o3).alloc o4).heap[w.heap.size + 1 + 1]? = some o3 ∧
    ((((w.alloc o1).alloc o2).alloc o3).alloc o4).heap[w.heap.size + 1 + 1 + 1]? = some o4) ∧ Below w.heap.size w ((((w.alloc o1).alloc o2).alloc o3).alloc o4) := by
  have h2 := heap_alloc_new (w.alloc o1) o2
  have h3 := heap_alloc_new ((w.alloc o1).alloc o2) o3
  have h4 := heap_alloc_new (((w.alloc o1).alloc o2).alloc o3) o4
  simp only [World.size_alloc] at h2 h3 h4
  refine ⟨⟨?_, ?_, ?_, h4⟩, ((((Below.refl _ _).alloc (Nat.le_refl _) _).alloc (by simp only [World.size_alloc]; omega) _).alloc (by simp only [World.size_alloc]; omega) _).alloc (by simp only [World.size_alloc]; omega) _⟩
  · exact (Below.heap_alloc _ _ _ (by simp only [World.size_alloc]; omega)).trans ((Below.heap_alloc _ _ _ (by simp only [World.size_alloc]; omega)).trans ((Below.heap_alloc _ _ _ (by simp only [World.size_alloc]; omega)).trans (heap_alloc_new w _)))
  · exact (Below.heap_alloc _ _ _ (by simp only [World.size_alloc]; omega)).trans ((Below.heap_alloc _ _ _ (by simp only [World.size_alloc]; omega)).trans h2)
  · exact (Below.heap_alloc _ _ _ (by simp only [World.size_alloc]; omega)).trans h3
set_option maxRecDepth 100000 in
set_option maxHeartbeats 2000000 in
theorem small_any (w : World) : Calls Tryd.prog 41 #[] w (SmallPost w) := by
  go_enter Tryd.func41, Tryd.ntmps41
  go_wp2
  obtain ⟨⟨h0, h1, h2, h3⟩, hb⟩ := four_boxes w (.cells #[.int .i64 2, .slice (some ⟨w.heap.size + 1 + 1 + 1, 0, none⟩) 2 2] 49) (.cells #[.int .u32 1, .int .i64 5, .int .u32 3, .int .i64 9] 74) (.cells #[.int .u32 2, .int .i64 4] 74) (.cells #[.slice (some ⟨w.heap.size + 1, 0, none⟩) 2 2, .slice (some ⟨w.heap.size + 1 + 1, 0, none⟩) 1 1] 63)
  generalize (((w.alloc (.cells #[.int .i64 2, .slice (some ⟨w.heap.size + 1 + 1 + 1, 0, none⟩) 2 2] 49)).alloc (.cells #[.int .u32 1, .int .i64 5, .int .u32 3, .int .i64 9] 74)).alloc (.cells #[.int .u32 2, .int .i64 4] 74)).alloc (.cells #[.slice (some ⟨w.heap.size + 1, 0, none⟩) 2 2, .slice (some ⟨w.heap.size + 1 + 1, 0, none⟩) 1 1] 63) = w4 at *
  have x0 := cell_of_row _ _ 0 _ _ (0, 0) h0
  have x1 := cell_of_row _ _ 1 _ _ (0, 0) h0
  simp only [List.getElem?_toArray, List.getElem?_cons_zero, List.getElem?_cons_succ] at x0 x1
  refine bodyPost_ret (v := instV 2 (some ⟨w.heap.size + 1 + 1 + 1, 0, none⟩) 2 2) (by simp [results, Tryd.results41, go_sem, x0, x1]) rfl ?_
  refine ⟨some ⟨w.heap.size + 1 + 1 + 1, 0, none⟩, [(some ⟨w.heap.size + 1, 0, none⟩, 2), (some ⟨w.heap.size + 1 + 1, 0, none⟩, 1)], rfl, ⟨rfl, reads_row7 (xs := [.slice (some ⟨w.heap.size + 1, 0, none⟩) 2 2, .slice (some ⟨w.heap.size + 1 + 1, 0, none⟩) 1 1]) h3 rfl, fun i a l ha hl => ?_⟩, fun a ha e => ?_, hb⟩
  · match i with
    | 0 =>
      injection ha with ha
      injection hl with hl
      subst ha hl
      exact ⟨reads_row7 (xs := [.int .u32 1, .int .i64 5, .int .u32 3, .int .i64 9]) h1 rfl, Nat.le_refl 2⟩
    | 1 =>
      injection ha with ha
      injection hl with hl
      subst ha hl
      exact ⟨reads_row7 (xs := [.int .u32 2, .int .i64 4]) h2 rfl, Nat.le_refl 1⟩
    | i + 2 => simp [smallL] at hl
  · simp only [List.mem_cons, List.not_mem_nil, or_false] at ha
    rcases ha with rfl | rfl <;> cases e

set_option maxRecDepth 100000 in
set_option maxHeartbeats 2000000 in
theorem samegoods_any (A B : Option Addr) (c c' : Nat) (L : List Nat) (w : World) (h : One gV w w.heap.size A L) (h' : One gV w w.heap.size B L) (hl : L.length ≤ 1000000) :
    Calls Tryd.prog 37 #[.slice A L.length c, .slice B L.length c'] w (ValPost (.bool true) w) := by
  have h1 := One.at_ h
  have h2 := One.at_ h'
  clear h h'
  go_enter Tryd.func37, Tryd.ntmps37
  go_upto_region 4 with fail
  go_loopw [5] (fun iv wr => ∃ k : Nat, k ≤ L.length ∧ iv = .int .i64 k ∧ Below w.heap.size w wr) (fun iv _ => L.length - (intOf iv).toNat)
  case atStart => exact ⟨0, Nat.zero_le _, rfl, Below.refl _ _⟩
  case round =>
    obtain ⟨k, hk, rfl, hb⟩ := hrel
    have HB := hide hb
    clear hb
    by_cases hlt : k < L.length
    · obtain ⟨b1, o1, rfl, hb1, hc1⟩ := h1 (by omega)
      obtain ⟨b2, o2, rfl, hb2, hc2⟩ := h2 (by omega)
      obtain ⟨x, hx⟩ : ∃ x, L[k]? = some x := ⟨L[k], List.getElem?_eq_getElem hlt⟩
      have d1 := (HB.out.cell (p := ⟨b1, o1 + k, none⟩) hb1).trans (hc1 k x hx)
      have d2 := (HB.out.cell (p := ⟨b2, o2 + k, none⟩) hb2).trans (hc2 k x hx)
      have hki : (k : Int) < (L.length : Int) := by omega
      clear hc1 hc2 hx
      go_wp2_with fail
      go_quiet (fail)
      go_wp2_with fail
      go_roundw
      case rel => exact ⟨k + 1, by omega, by go_num, below_drewN HB.out _⟩
      case measure => simp [intOf]; omega
    · obtain rfl : k = L.length := by omega
      go_wp2_with fail
      go_ret
      exact ⟨rfl, HB.out⟩
theorem ints_row (W : World) (xs : List Int) : One intV (W.alloc (.cells (xs.map intV).toArray 3)) (W.alloc (.cells (xs.map intV).toArray 3)).heap.size (some ⟨W.heap.size, 0, none⟩) xs := reads_row7 (xs := xs.map intV) (heap_alloc_new W _) (by simp)
set_option maxRecDepth 100000 in
set_option maxHeartbeats 8000000 in
theorem known_any (w : World) (hT : TabW w) (hM : MlW w) : Calls Tryd.prog 22 #[] w (ValPost (.bool true) w) := by
  have HT := hide hT
  have HM := hide hM
  have HSM := hide (fun W => small_any W)
  unfold SmallPost at HSM
  have HNM := hide (fun n W => num_any n W)
  unfold SamePost at HNM
  have HOF := hide (fun W => of_any (some ⟨W.heap.size, 0, none⟩) 3 [0, 3, 3] (W.alloc (.cells #[.int .i64 0, .int .i64 3, .int .i64 3] 3)) (ints_row W [0, 3, 3]) (by decide))
  rw [show ofG [0, 3, 3] = (9, 0) by decide +kernel] at HOF
  have HAL := hide (fun W => all_any 3 W)
  unfold AllPost at HAL
  rw [show allI 3 = 7 by decide +kernel, show allE 3 = 0 by decide +kernel] at HAL
  have HNX := hide (fun W => next_any 1 5 (by omega) (by omega) W)
  rw [show nextG 1 5 = (4, true) by decide +kernel] at HNX
  unfold SamePost at HOF HNX
  have HPA := hide (fun W (hb : Below w.heap.size w W) => parse03_any W (hT.below hb) (hM.below hb))
  have HWO := hide (fun A hs W (hB : Buys W W.heap.size A hs smallL) (hT : TabW W) z zs (hz : One intV W W.heap.size (some z) zs) (hl : zs.length = 2) => worth_any 2 A 2 hs smallL (some z) 2 zs W hB small_inst small_wide hz (by omega) hT)
  have HTK := hide (fun A hs W (hB : Buys W W.heap.size A hs smallL) (hT : TabW W) z (hz : One intV W W.heap.size (some z) [0, 0]) => taken_any 2 A 2 hs smallL (some z) 2 [0, 0] W hB small_inst small_wide hz (by decide) hT)
  unfold TakenP at HTK
  obtain ⟨k1, k2, k3, k4, k5⟩ := small_worth
  rw [k5, k2] at HTK
  have HTX := hide (fun W (hb : Below w.heap.size w W) => text_any 9 (by omega) W (hT.below hb))
  rw [text9] at HTX
  have HCN := hide (fun W => count_any 9 (by omega) W)
  rw [show (eachL 9).length = 2 by decide +kernel] at HCN
  have HHS := hide (fun W => has_any 9 (by omega) 3 W)
  rw [show hasB 9 3 = true by decide +kernel] at HHS
  unfold SamePost at HHS
  have HW1 := hide (fun A hs W hB hT z hz => HWO.out A hs W hB hT z [0, 0] hz rfl)
  have HW2 := hide (fun A hs W hB hT z hz => HWO.out A hs W hB hT z [1, 0] hz rfl)
  rw [k1, k2] at HW1
  rw [k3, k4] at HW2
  clear hT hM HWO k1 k2 k3 k4 k5
  simp only [instV, List.length_cons, List.length_nil] at *
  go_enter Tryd.func22, Tryd.ntmps22
  have HB : Hid (Below w.heap.size w w) := hide (Below.refl _ _)
  go_upto_region 2 with (go_at_call 9; refine (HOF.out w).mono ?_; rintro e w1 ⟨rfl, rfl⟩)
  have HB := hide (HB.out.alloc (Nat.le_refl _) (.cells #[.int .i64 0, .int .i64 3, .int .i64 3] 3))
  generalize w.alloc (.cells #[.int .i64 0, .int .i64 3, .int .i64 3] 3) = w1 at *
  go_upto_region 3 with (go_at_call 11; refine (HAL.out _).mono ?_; rintro e w2 ⟨rfl, rfl⟩)
  go_upto_region 4 with (go_at_call 32; refine (HNX.out _).mono ?_; rintro e w2 ⟨rfl, rfl⟩)
  go_upto_region 5 with (go_at_call 24; refine (HPA.out _ HB.out).mono ?_; rintro e w2 ⟨rfl, hb2⟩; have HB := hide (HB.out.trans (hb2.mono HB.out.size)); clear hb2)
  go_upto_region 6 with (first
    | (go_at_call 41; refine (HSM.out _).mono ?_; rintro e w3 ⟨A3, hs3, rfl, hB3, _, hb3⟩; have HY3 := hide hB3; have HB := hide (HB.out.trans (hb3.mono HB.out.size)); clear hB3 hb3)
    | (go_at_call 27; refine (HW1.out A3 hs3 (w3.alloc (.cells #[.int .i64 0, .int .i64 0] 3)) (HY3.out.up ((Below.refl _ _).alloc (Nat.le_refl _) _)) (HT.out.below (HB.out.alloc HB.out.size _)) ⟨w3.heap.size, 0, none⟩ (ints_row w3 [0, 0])).mono ?_; rintro e w4 ⟨rfl, hb4⟩; have HB := hide ((HB.out.alloc HB.out.size _).trans (hb4.mono (HB.out.alloc HB.out.size _).size)); clear hb4))
  clear HY3
  go_upto_region 7 with (first
    | (go_at_call 41; refine (HSM.out _).mono ?_; rintro e w5 ⟨A5, hs5, rfl, hB5, _, hb5⟩; have HY5 := hide hB5; have HB := hide (HB.out.trans (hb5.mono HB.out.size)); clear hB5 hb5)
    | (go_at_call 28; refine (HTK.out A5 hs5 (w5.alloc (.cells #[.int .i64 0, .int .i64 0] 3)) (HY5.out.up ((Below.refl _ _).alloc (Nat.le_refl _) _)) (HT.out.below (HB.out.alloc HB.out.size _)) ⟨w5.heap.size, 0, none⟩ (ints_row w5 [0, 0])).mono ?_; rintro e w6 ⟨A6, c6, rfl, ho6, hb6⟩; have HO6 := hide ho6; have HB := hide ((HB.out.alloc HB.out.size _).trans (hb6.mono (HB.out.alloc HB.out.size _).size)); clear ho6 hb6))
  have HL6 : Hid (∀ W, Below w6.heap.size w6 W → One gV W W.heap.size A6 [1, 2]) := hide (fun W hb => One.up (One.of_own HO6.out rfl) hb)
  have HK6 : Hid (Below w6.heap.size w6 w6) := hide (Below.refl _ _)
  have HB6 := hide HB.out
  clear HY5 HO6 HB
  go_upto_region 8 with (first
    | (go_at_call 41; refine (HSM.out _).mono ?_; rintro e w7 ⟨A7, hs7, rfl, hB7, _, hb7⟩; have HY7 := hide hB7; have HK7 := hide (HK6.out.trans (hb7.mono HK6.out.size)); clear hB7 hb7)
    | (go_at_call 27; refine (HW2.out A7 hs7 (w7.alloc (.cells #[.int .i64 1, .int .i64 0] 3)) (HY7.out.up ((Below.refl _ _).alloc (Nat.le_refl _) _)) (HT.out.below (HB6.out.trans ((HK7.out.alloc HK7.out.size _).mono HB6.out.size))) ⟨w7.heap.size, 0, none⟩ (ints_row w7 [1, 0])).mono ?_; rintro e w8 ⟨rfl, hb8⟩; have HK := hide ((HK7.out.alloc HK7.out.size _).trans (hb8.mono (HK7.out.alloc HK7.out.size _).size)); clear hb8))
  clear HY7 HK6 HK7 HSM HOF HAL HNX HPA HW1 HW2 HTK
  trace_state
  go_wp2_with (first
    | (go_at_call 15; refine (HNM.out _ _).mono ?_; rintro e w9 ⟨rfl, rfl⟩)
    | (go_at_call 23; refine (HTX.out _ (HB6.out.trans (HK.out.mono HB6.out.size))).mono ?_; rintro e w9 ⟨rfl, hb9⟩; have HK := hide (HK.out.trans (hb9.mono HK.out.size)); clear hb9)
    | (go_at_call 37; refine (samegoods_any A6 (some ⟨w9.heap.size, 0, none⟩) c6 2 [1, 2] _ (HL6.out _ (HK.out.alloc HK.out.size _)) (reads_row7 (xs := [gV 1, gV 2]) (heap_alloc_new w9 _) rfl) (by decide)).mono ?_; rintro e wa ⟨rfl, hba⟩; have HK := hide ((HK.out.alloc HK.out.size _).trans (hba.mono (HK.out.alloc HK.out.size _).size)); clear hba)
    | (go_at_call 20; refine (HCN.out _).mono ?_; rintro e wb ⟨rfl, hbb⟩; have HK := hide (HK.out.trans (hbb.mono HK.out.size)); clear hbb)
    | (go_at_call 16; refine (HHS.out _).mono ?_; rintro e wc ⟨rfl, rfl⟩))
  go_ret
  exact ⟨rfl, HB6.out.trans (HK.out.mono HB6.out.size)⟩
end Go.Proofs.YtffpiaipdeebcaaDoor
