/- The law GoodsNames: its walk. -/
import Derived.Test.YtffpiaipdeebcaaDoorGnW
namespace Go.Proofs.YtffpiaipdeebcaaDoor
open Go.RowKit Go.Maps Go.Shelf
open Go.ChangeMaps Go.WideMaps

set_option maxRecDepth 100000 in
set_option maxHeartbeats 8000000 in
theorem namesLaw_any (w : World) (hT : TabW w) (hM : MlW w) : Calls Tryd.prog 8 #[] w (ValPost (.bool true) w) := by
  have HKN := hide (fun W (hb : Below w.heap.size w W) => known_any W (hT.below hb) (hM.below hb))
  have HNM := hide (fun n W => num_any n W)
  have HAL := hide (fun n W => all_any n W)
  unfold SamePost at HNM
  unfold AllPost at HAL
  obtain ⟨q1, q2, q3, q4, q5, q6, q7, q8, q9⟩ := closed_sets
  have HAP := hide (fun W (hb : Below w.heap.size w W) => (apart_any none 0 [] W (One.none_ W W.heap.size) (by decide) (fun g h => by cases h) (hT.below hb)).mono fun e w' h => apartG_post h)
  rw [q7] at HAP
  have HA1 := hide (HAL.out 32)
  have HA2 := hide (HAL.out 33)
  have HA3 := hide (HAL.out 0)
  rw [q1, q2] at HA1
  rw [q3, q4] at HA2
  rw [q5, q6] at HA3
  have HT := hide hT
  have HO1 := hide (fun W => of_any (some ⟨W.heap.size, 0, none⟩) 1 [31] (W.alloc (.cells #[.int .i64 31] 3)) (ints_row W [31]) (by decide))
  have HO2 := hide (fun W => of_any (some ⟨W.heap.size, 0, none⟩) 1 [32] (W.alloc (.cells #[.int .i64 32] 3)) (ints_row W [32]) (by decide))
  rw [q8] at HO1
  rw [q9] at HO2
  unfold SamePost at HO1 HO2
  unfold ValPost at HAP
  generalize (ofG [31]).1 = u1 at *
  generalize (ofG [32]).1 = u2 at *
  clear hT hM HAL q1 q2 q3 q4 q5 q6 q7 q8 q9
  go_enter Tryd.func8, Tryd.ntmps8
  go_upto_region 2 with (go_at_call 11; refine (HA1.out _).mono ?_; rintro e w1 ⟨rfl, rfl⟩)
  go_upto_region 3 with (go_at_call 11; refine (HA2.out _).mono ?_; rintro e w1 ⟨rfl, rfl⟩)
  go_upto_region 4 with (go_at_call 11; refine (HA3.out _).mono ?_; rintro e w1 ⟨rfl, rfl⟩)
  go_upto_region 5 with (go_at_call 13; refine (HAP.out _ (Below.refl _ _)).mono ?_; rintro e w1 ⟨rfl, hb1⟩; have HB1 := hide hb1; clear hb1)
  go_upto_region 6 with (go_at_call 9; refine (HO1.out w1).mono ?_; rintro e w2 ⟨rfl, rfl⟩; have HB2 := hide (HB1.out.alloc HB1.out.size (.cells #[.int .i64 31] 3)))
  generalize w1.alloc (.cells #[.int .i64 31] 3) = w2 at *
  go_upto_region 7 with (go_at_call 9; refine (HO2.out w2).mono ?_; rintro e w3 ⟨rfl, rfl⟩; have HB3 := hide (HB2.out.alloc HB2.out.size (.cells #[.int .i64 32] 3)))
  generalize w2.alloc (.cells #[.int .i64 32] 3) = w3 at *
  clear HA1 HA2 HA3 HAP HO1 HO2
  have HB4 := hide (HB3.out.alloc HB3.out.size (.cells #[.int .i64 10, .slice none 0 0] 49))
  have HX4 := hide (heap_alloc_new w3 (.cells #[.int .i64 10, .slice none 0 0] 49))
  have HZ4 : Hid ((w3.alloc (.cells #[.int .i64 10, .slice none 0 0] 49)).heap.size = w3.heap.size + 1) := hide (by simp)
  go_upto_region 8 with fail
  generalize w3.alloc (.cells #[.int .i64 10, .slice none 0 0] 49) = w4 at *
  go_upto_region 9 with fail
  obtain ⟨X, hX⟩ : ∃ X, w3.heap.size = X := ⟨_, rfl⟩
  rw [hX] at HX4 HZ4 ⊢
  have HWX : Hid (w.heap.size ≤ X) := hide (by have := HB3.out.size; omega)
  have HO4 : Hid (OwnB w4 (X + 1) none 0 [] (topL 0)) := hide ⟨rfl, World.ownsRow_nil _ _ _ _, fun i h l hi => by simp at hi, fun h hh => by cases hh⟩
  have hmk := make_eight
  clear hX HB1 HB2 HB3
  go_loopw [14] (fun iv wr => ∃ (b : Nat) (A : Option Addr) (c : Nat) (hs : List Hdr), b ≤ 32 ∧ iv = .int .i64 b ∧ OwnB wr (X + 1) A c hs (topL b) ∧ wr.heap[X]? = some (.cells #[.int .i64 10, .slice A b c] 49 (0, 0)) ∧ Below w.heap.size w wr) (fun iv _ => 32 - (intOf iv).toNat)
  case atStart => exact ⟨0, none, 0, [], by decide, rfl, HO4.out, HX4.out, HB4.out⟩
  case round =>
    obtain ⟨b, A, c, hs, hb, rfl, how, hx, hbw⟩ := hrel
    have HOW := hide how
    have HXR := hide hx
    have HBR := hide hbw
    clear how hx hbw
    by_cases hlt : b < 32
    · have hbi : (b : Int) < 32 := by omega
      have HMS : Hid ((topL b).length = b) := hide List.length_replicate
      have hbd : Below wr.heap.size wr (wr.alloc (.cells (madeCells #[.int .u32 0, .int .i64 0] 16) 74)).drew := ((Below.refl _ _).alloc (Nat.le_refl _) _).drew
      have HBD := hide hbd
      have HXD := hide ((hbd.block _ (lt_of_block HXR.out)).trans HXR.out)
      have HXW := hide (lt_of_block HXR.out)
      have HN5 : Hid ((wr.alloc (.cells (madeCells #[.int .u32 0, .int .i64 0] 16) 74)).drew.heap[wr.heap.size]? = some (.cells (cells2 offV (fillO 0)).toArray 74 (0, 0))) := hide (by rw [← made_eight]; exact heap_alloc_new wr _)
      have HZ5 : Hid ((wr.alloc (.cells (madeCells #[.int .u32 0, .int .i64 0] 16) 74)).drew.heap.size = wr.heap.size + 1) := hide (by simp)
      have hS0 : wr.drew.cell? ⟨X, 1, none⟩ = some (.slice A b c) := cell_of_row wr X 1 _ _ (0, 0) HXR.out
      clear hbd
      go_upto_region 11 with fail
      refine wp_region_U 6 (fun Y => Y.cell? ⟨X, 1, none⟩ = some (.slice A b c)) rfl hS0 (fun hHeld => ?_)
      refine AnyU.take (i := 0) (v := ?v1) rfl (by kernel_rfl) (by kernel_rfl) (by kernel_rfl) (by kernel_rfl) (fun _ _ _ h => h) (Or.inl ⟨by rfl, ?hy1⟩) hHeld ?r1
      case hy1 => (intro w hSw; (try dsimp only at hSw); go_simp <;> with_reducible rfl)
      simp only [Act.put, List.setIfInBounds_toArray, List.set_cons_zero, List.set_cons_succ]
      refine AnyU.take (i := 1) (v := ?v2) rfl (by kernel_rfl) (by kernel_rfl) (by kernel_rfl) (by kernel_rfl) (fun _ _ _ h => h) (Or.inl ⟨by rfl, ?hy2⟩) hHeld ?r2
      case hy2 => (intro w hSw; (try dsimp only at hSw); go_simp <;> with_reducible rfl)
      simp only [Act.put, List.setIfInBounds_toArray, List.set_cons_zero, List.set_cons_succ]
      refine AnyU.next (js := [2]) (by kernel_rfl) (by simp) (NextU.cons rfl (fun K hK => ?_) NextU.nil)
      go_simp
      have hS5 : (wr.alloc (.cells (madeCells #[.int .u32 0, .int .i64 0] 16) 74)).drew.cell? ⟨X, 1, none⟩ = some (.slice A b c) := cell_of_row _ X 1 _ _ (0, 0) HXD.out
      refine hK.out _ _ (fun _ => hS5) (fun hHeld => ?_)
      replace hHeld := hHeld (by decide)
      try simp only [Act.put, List.setIfInBounds_toArray, List.set_cons_zero, List.set_cons_succ]
      generalize (wr.alloc (.cells (madeCells #[.int .u32 0, .int .i64 0] 16) 74)).drew = w5 at *
      have HB6 : Hid (Below w5.heap.size w5 (w5.alloc (.cells #[.slice (some ⟨wr.heap.size, 0, none⟩) 8 8] 63))) := hide ((Below.refl _ _).alloc (Nat.le_refl _) _)
      have HX6 := hide ((HB6.out.block _ (lt_of_block HXD.out)).trans HXD.out)
      have HN6 := hide (heap_alloc_new w5 (.cells #[.slice (some ⟨wr.heap.size, 0, none⟩) 8 8] 63))
      have hS6 : (w5.alloc (.cells #[.slice (some ⟨wr.heap.size, 0, none⟩) 8 8] 63)).cell? ⟨X, 1, none⟩ = some (.slice A b c) := cell_of_row _ X 1 _ _ (0, 0) HX6.out
      refine AnyU.next (js := [3]) (by kernel_rfl) (by simp) (NextU.cons rfl (fun K hK => ?_) NextU.nil)
      go_simp
      refine hK.out _ _ (fun _ => hS6) (fun hHeld => ?_)
      replace hHeld := hHeld (by decide)
      try simp only [Act.put, List.setIfInBounds_toArray, List.set_cons_zero, List.set_cons_succ]
      have HZ6 : Hid ((w5.alloc (.cells #[.slice (some ⟨wr.heap.size, 0, none⟩) 8 8] 63)).heap.size = wr.heap.size + 2) := hide (by rw [World.size_alloc, HZ5.out])
      generalize w5.alloc (.cells #[.slice (some ⟨wr.heap.size, 0, none⟩) 8 8] 63) = w6 at *
      have hBr6 : Below wr.heap.size wr w6 := HBD.out.trans (HB6.out.mono HBD.out.size)
      have HBr6 := hide hBr6
      have hor := HOW.out.below hBr6
      have hhd := hor.hdr
      rw [HMS.out] at hhd
      have HHD := hide hhd
      have HN5' := hide ((HB6.out.block _ (lt_of_block HN5.out)).trans HN5.out)
      have HXL : Hid (X + 1 ≤ wr.heap.size) := hide HXW.out
      have hrow0 : w6.ownsRow (X + 1) 74 2 (.slice (some ⟨wr.heap.size, 0, none⟩) 8 8) 8 (cells2 offV (fillO 0)) := ⟨by rw [cells2_length, fillO_len (by omega)], .inr ⟨wr.heap.size, 8, _, rfl, HXL.out, HN5'.out, Nat.le_refl _, by decide, by rw [List.size_toArray, cells2_length, fillO_len (by omega)], by rw [List.take_of_length_le (by rw [cells2_length, fillO_len (by omega)]; exact Nat.le_refl _)]⟩⟩
      have HR0 := hide hrow0
      clear hor hhd hrow0 hBr6
      refine AnyU.next (js := [4]) (by kernel_rfl) (by simp) (NextU.cons rfl (fun K hK => ?_) NextU.nil)
      refine step_append_any rfl (.tmp 61) (.tmp 63) 47 rfl (X + 1) 63 (.slice none 0 0) 1 24 infoOs Tryd.underlying47 rfl (by decide) _ b (List.zipWith hdrV hs (topL b)) rfl HHD.out _ (some ⟨w5.heap.size, 0, none⟩) 1 1 [.slice (some ⟨wr.heap.size, 0, none⟩) 8 8] rfl (reads_row7 (xs := [.slice (some ⟨wr.heap.size, 0, none⟩) 8 8]) HN6.out rfl) (fun u hu => by simp at hu; subst hu; rfl) (by unfold maxLen; omega) (by omega) (by have := HZ6.out; have := HXL.out; omega) ?_; intro v7 w7 hown7 hg7 _; obtain ⟨g7, c7, hv7, _⟩ := hown7.form (by omega); subst hv7
      have HX7 := hide ((hg7.block _ (lt_of_block HX6.out) (fun e => by have := (HHD.out.lt _ e.symm).1; omega)).trans HX6.out)
      have hB7 : Below w.heap.size w w7 := (HBR.out.trans (HBr6.out.mono HBR.out.size)).grown hg7 (by have := HBR.out.size; have := HBr6.out.size; omega) (fun j hj => by have := (HHD.out.lt _ hj).1; have := HWX.out; omega)
      have ho7 : OwnB w7 (X + 1) (some ⟨g7, 0, none⟩) c7 (hs ++ [(some ⟨wr.heap.size, 0, none⟩, 8)]) (topL b ++ [fillO 0]) := by
        refine HOW.out.push HMS.out HBr6.out (by rw [fillO_len (by omega)]; exact HR0.out) hg7 ?_
        rw [fillO_len (by omega)]
        exact hown7
      have HNR : Hid (NmR w X (X + 1) wr.heap.size b 0 g7 c7 hs (w7.setCell ⟨X, 1, none⟩ (.slice (some ⟨g7, 0, none⟩) (b + 1) c7))) := hide ⟨hB7.setCell HWX.out _, setCell_block HX7.out 1 _, ho7.setc (by omega) _, by have := HOW.out.len; rw [HMS.out] at this; exact this, fun h hh g o t e => by
        obtain ⟨i, hi⟩ := List.getElem?_of_mem hh
        have hil : i < b := by have := (List.getElem?_eq_some_iff.1 hi).1; have := HOW.out.len; rw [HMS.out] at this; omega
        have h1 := HOW.out.row i h rowT hi (by rw [List.getElem?_replicate, if_pos hil])
        rcases h1.2 with ⟨h2, _⟩ | ⟨g', cap, cur, h2, _, h3, _⟩
        · unfold hdrV at h2; rw [e] at h2; injection h2 with h2; cases h2
        · unfold hdrV at h2
          rw [e] at h2
          injection h2 with h2
          injection h2 with h2
          injection h2 with h2
          subst h2
          exact Nat.ne_of_lt (lt_of_block h3)⟩
      have x1 : w7.cell? ⟨X, 1, none⟩ = some (.slice A b c) := cell_of_row _ X 1 _ _ (0, 0) HX7.out
      have x2 : w7.frozen? ⟨X, 1, none⟩ = false := frozen_of_row _ X 1 _ _ HX7.out
      clear hown7 hg7 hB7 ho7
      refine hK.out _ _ (fun _ => x1) (fun hHeld => ?_)
      replace hHeld := hHeld (by decide)
      try simp only [Act.put, List.setIfInBounds_toArray, List.set_cons_zero, List.set_cons_succ]
      refine AnyU.next (js := [5]) (by kernel_rfl) (by simp) (NextU.cons rfl (fun K hK => ?_) NextU.nil)
      go_simp
      refine hK.out _ _ (fun _ => x1) (fun hHeld => ?_)
      replace hHeld := hHeld (by decide)
      try simp only [Act.put, List.setIfInBounds_toArray, List.set_cons_zero, List.set_cons_succ]
      refine AnyU.next (js := [6]) (by kernel_rfl) (by simp) (NextU.cons rfl (fun K hK => ?_) NextU.nil)
      go_simp
      refine hK.out _ _ (fun h => absurd h (by decide)) (fun _ => ?_)
      try simp only [Act.put, List.setIfInBounds_toArray, List.set_cons_zero, List.set_cons_succ]
      refine AnyU.over (by kernel_rfl) ?_ _
      clear x1 x2 hHeld hS0 hS5 hS6
      go_upto_region 13 with fail
      generalize w7.setCell ⟨X, 1, none⟩ (.slice (some ⟨g7, 0, none⟩) (b + 1) c7) = w8 at *
      go_loopw [15] (fun jv W => ∃ j : Nat, j ≤ 8 ∧ jv = .int .i64 j ∧ NmR w X (X + 1) wr.heap.size b j g7 c7 hs W) (fun jv _ => 8 - (intOf jv).toNat)
      case atStart => exact ⟨0, by decide, rfl, HNR.out⟩
      case round =>
        rename World => wi
        obtain ⟨j, hj, rfl, hnr⟩ := hrel
        have HN := hide hnr
        have x1 : wi.cell? ⟨X, 1, none⟩ = some (.slice (some ⟨g7, 0, none⟩) (b + 1) c7) := cell_of_row _ X 1 _ _ (0, 0) hnr.x
        have x2 := hnr.head hj
        clear hnr
        by_cases hj8 : j < 8
        · have hji : (j : Int) < 8 := by omega
          obtain ⟨⟨v0, e0⟩, ⟨v1, e1⟩, f0, f1⟩ := HN.out.cells hj hj8
          have HN2 := hide (HN.out.fill hj8 (Nat.lt_succ_self X) HWX.out)
          have hbb : (b : Int) < ((b + 1 : Nat) : Int) := by omega
          go_wp2_with fail
          go_roundw
          case rel => exact ⟨j + 1, by omega, by go_num, HN2.out⟩
          case measure => simp [intOf]; omega
        · obtain rfl : j = 8 := by omega
          have HOB : Hid (OwnB wi (X + 1) (some ⟨g7, 0, none⟩) c7 (hs ++ [(some ⟨wr.heap.size, 0, none⟩, 8)]) (topL (b + 1))) := hide (by
            have := HN.out.own
            rw [fillO_all] at this
            unfold topL
            rw [List.replicate_succ']
            exact this)
          go_wp2_with fail
          go_roundw
          case rel => exact ⟨b + 1, some ⟨g7, 0, none⟩, c7, hs ++ [(some ⟨wr.heap.size, 0, none⟩, 8)], by omega, by go_num, HOB.out, HN.out.x, HN.out.bel⟩
          case measure => simp [intOf]; omega
    · obtain rfl : b = 32 := by omega
      go_upto_region 16 with fail
      have HCK := hide (gcheck_any 10 A c hs (topL 32) wr HOW.out.buys (top_wide 32))
      obtain ⟨t1, t2⟩ := top_check
      unfold checkV ValPost at HCK
      rw [t1] at HCK
      have x0 := cell_of_row _ _ 0 _ _ (0, 0) HXR.out
      have x1 := cell_of_row _ _ 1 _ _ (0, 0) HXR.out
      simp only [List.getElem?_toArray, List.getElem?_cons_zero, List.getElem?_cons_succ] at x0 x1
      simp only [instV, List.length_replicate] at HCK
      go_upto_region 17 with (go_at_call 34; refine (HCK.out).mono ?_; rintro e w2 ⟨rfl, hb2⟩; have HBR := hide (HBR.out.trans (hb2.mono HBR.out.size)); have HXR := hide ((hb2.block _ (lt_of_block HXR.out)).trans HXR.out); have HOW := hide (HOW.out.below hb2); clear hb2)
      clear x0 x1 HCK
      have x0 := cell_of_row _ _ 0 _ _ (0, 0) HXR.out
      have x1 := cell_of_row _ _ 1 _ _ (0, 0) HXR.out
      simp only [List.getElem?_toArray, List.getElem?_cons_zero, List.getElem?_cons_succ] at x0 x1
      have HCP := hide (copy_any 10 A c hs (topL 32) w2 HOW.out.buys (by decide) (fun l hl => by obtain rfl := List.eq_of_mem_replicate hl; decide) HOW.out.nil)
      unfold CopyPost at HCP
      simp only [instV, List.length_replicate] at HCP
      go_upto_region 18 with (go_at_call 38; refine (HCP.out).mono ?_; rintro e w3' ⟨A3, c3, hs3, rfl, how3, hb3⟩; have HOY := hide how3; have HB3 := hide hb3; have HBR := hide (HBR.out.trans (hb3.mono HBR.out.size)); clear hb3 how3)
      obtain ⟨Y, hY⟩ : ∃ Y, w3'.heap.size = Y := ⟨_, rfl⟩
      have HYX := hide (heap_alloc_new w3' (.cells #[.int .i64 10, .slice A3 32 c3] 49))
      have HBY : Hid (Below w3'.heap.size w3' (w3'.alloc (.cells #[.int .i64 10, .slice A3 32 c3] 49))) := hide ((Below.refl _ _).alloc (Nat.le_refl _) _)
      have HOY := hide (HOY.out.below HBY.out)
      have HBR := hide (HBR.out.trans (HBY.out.mono HBR.out.size))
      have HZY : Hid (w2.heap.size ≤ Y ∧ w.heap.size ≤ Y ∧ w.heap.size ≤ w2.heap.size) := hide ⟨by rw [← hY]; exact HB3.out.size, by have := HBR.out.size; rw [World.size_alloc] at this; have := HB3.out.size; have := lt_of_block HXR.out; have := HWX.out; omega, by have := lt_of_block HXR.out; have := HWX.out; omega⟩
      rw [hY] at HYX ⊢
      generalize w3'.alloc (.cells #[.int .i64 10, .slice A3 32 c3] 49) = w4' at *
      clear x0 x1 hY HCP HB3 HBY
      have y1 := cell_of_row _ _ 1 _ _ (0, 0) HYX.out
      simp only [List.getElem?_toArray, List.getElem?_cons_zero, List.getElem?_cons_succ] at y1
      have HBA : Hid (Below w4'.heap.size w4' (w4'.alloc (.cells #[.slice none 0 0] 63))) := hide ((Below.refl _ _).alloc (Nat.le_refl _) _)
      have HNA := hide (heap_alloc_new w4' (.cells #[.slice none 0 0] 63))
      have HOA := hide (HOY.out.below HBA.out)
      have HYA := hide ((HBA.out.block _ (lt_of_block HYX.out)).trans HYX.out)
      have HHD : Hid ((w4'.alloc (.cells #[.slice none 0 0] 63)).ownsRow w2.heap.size 63 1 (.slice A3 32 c3) 32 (List.zipWith hdrV hs3 (topL 32))) := hide (by have := HOA.out.hdr; rw [List.length_replicate] at this; exact this)
      have y1a := cell_of_row _ _ 1 _ _ (0, 0) HYA.out
      simp only [List.getElem?_toArray, List.getElem?_cons_zero, List.getElem?_cons_succ] at y1a
      have HBRA := hide (HBR.out.trans (HBA.out.mono HBR.out.size))
      go_upto_region 19 with (at_builtin; refine wpList_append_any rfl (.tmp 87) (.tmp 88) 47 rfl w2.heap.size 63 (.slice none 0 0) 1 24 infoOs Tryd.underlying47 rfl (by decide) _ 32 (List.zipWith hdrV hs3 (topL 32)) rfl HHD.out _ (some ⟨w4'.heap.size, 0, none⟩) 1 1 [.slice none 0 0] rfl (reads_row7 (xs := [.slice none 0 0]) HNA.out rfl) (fun u hu => by simp at hu; subst hu; rfl) (by decide) (by decide) (by have := HBA.out.size; have := lt_of_block HYX.out; have := HZY.out; omega) ?_; intro v7 w7 hown7 hg7 _; obtain ⟨g7, c7, hv7, _⟩ := hown7.form (by omega); subst hv7; have HY7 := hide ((hg7.block _ (lt_of_block HYA.out) (fun e => own_ne HHD.out HYA.out (fun cur' e => by injection e with _ e _; exact absurd e (by decide)) e.symm)).trans HYA.out); have HB7 : Hid (Below w.heap.size w w7) := hide (HBRA.out.grown hg7 (by have := HBRA.out.size; omega) (fun j hj => by have := (HHD.out.lt _ hj).1; have := HZY.out; omega)); have HO7 : Hid (OwnB w7 w2.heap.size (some ⟨g7, 0, none⟩) c7 (hs3 ++ [(none, 0)]) (topL 32 ++ [[]])) := hide (OwnB.push HOY.out List.length_replicate HBA.out (World.ownsRow_nil _ _ _ _) hg7 hown7); clear hown7 hg7 y1 y1a; have y1 := cell_of_row _ _ 1 _ _ (0, 0) HY7.out; have f1 := frozen_of_row _ _ 1 _ _ HY7.out; simp only [List.getElem?_toArray, List.getElem?_cons_zero, List.getElem?_cons_succ] at y1)
      have HY8 : Hid ((w7.setCell ⟨Y, 1, none⟩ (.slice (some ⟨g7, 0, none⟩) 33 c7)).heap[Y]? = some (.cells #[.int .i64 10, .slice (some ⟨g7, 0, none⟩) 33 c7] 49 (0, 0))) := hide (setCell_block HY7.out 1 _)
      have HO8 : Hid (OwnB (w7.setCell ⟨Y, 1, none⟩ (.slice (some ⟨g7, 0, none⟩) 33 c7)) w2.heap.size (some ⟨g7, 0, none⟩) c7 (hs3 ++ [(none, 0)]) (topL 32 ++ [[]])) := hide (HO7.out.far grown_setW (fun j hj => by
        obtain rfl : Y = j := by injection hj
        exact .inr (.inr ⟨_, _, HY7.out, by decide, by decide⟩)))
      have HB8 := hide (HB7.out.setCell (p := ⟨Y, 1, none⟩) HZY.out.2.1 (.slice (some ⟨g7, 0, none⟩) 33 c7))
      clear y1 f1
      generalize w7.setCell ⟨Y, 1, none⟩ (.slice (some ⟨g7, 0, none⟩) 33 c7) = w8 at *
      have y0 := cell_of_row _ _ 0 _ _ (0, 0) HY8.out
      have y1 := cell_of_row _ _ 1 _ _ (0, 0) HY8.out
      simp only [List.getElem?_toArray, List.getElem?_cons_zero, List.getElem?_cons_succ] at y0 y1
      have HCL := hide (gcheck_any 10 (some ⟨g7, 0, none⟩) c7 (hs3 ++ [(none, 0)]) (topL 32 ++ [[]]) w8 HO8.out.buys top_wide2)
      unfold checkV ValPost at HCL
      rw [t2] at HCL
      simp only [instV, List.length_append, List.length_replicate, List.length_cons, List.length_nil, Nat.reduceAdd] at HCL
      clear t1 t2
      go_upto_region 20 with (go_at_call 34; refine (HCL.out).mono ?_; rintro e w9 ⟨rfl, hb9⟩; have HB9 := hide (HB8.out.trans (hb9.mono HB8.out.size)); clear hb9)
      clear y0 y1 HCL HOA HYA HHD HBRA HY7 HB7 HO7 HY8 HO8 HBA HNA HYX HOY HBR HXR HOW HZY HX4 HO4 HB4 HZ4 HWX
      have HCV := hide (fun v W g h (hv : v = 0 ∨ v = -1 ∨ v = 1099511627777) h1 h2 => show Calls Tryd.prog 34 #[instV 1 (some ⟨h, 0, none⟩) 1 1] W (ValPost (.tuple #[.int .i64 0, .int .i64 0, .int .i64 2]) W) by
        have := gcheck_any 1 (some ⟨h, 0, none⟩) 1 [(some ⟨g, 0, none⟩, 1)] [[(1, v)]] W (one_inst h1 h2) (one_wide v (by rcases hv with rfl | rfl | rfl <;> decide))
        unfold checkV at this
        rwa [show checkT 1 [[(1, v)]] = (0, 0, 2) by rcases hv with rfl | rfl | rfl; exact bad_check.1; exact bad_check.2.1; exact bad_check.2.2] at this)
      simp only [instV] at HCV
      have HSM := hide (fun W => small_any W)
      unfold SmallPost at HSM
      have HWZ := hide (fun z (hz : z = -2 ∨ z = 2 ∨ z = -1099511627776) A hs W (hB : Buys W W.heap.size A hs smallL) (hT : TabW W) g (h1 : One intV W W.heap.size (some ⟨g, 0, none⟩) [z, 0]) => show Calls Tryd.prog 27 #[instV 2 A 2 2, .slice (some ⟨g, 0, none⟩) 2 2] W (ValPost (.tuple #[.int .i64 0, .int .i64 170]) W) by
        have := worth_all 2 A 2 hs smallL (some ⟨g, 0, none⟩) 2 [z, 0] W hB small_wide h1 (by simp) hT
        have e : chErr 2 smallL [z, 0] = 170 := by rcases hz with rfl | rfl | rfl; exact bad_choice.1; exact bad_choice.2.1; exact bad_choice.2.2
        rw [show chWorth 2 smallL [z, 0] = 0 by unfold chWorth; rw [e]; rfl, e] at this
        exact this)
      simp only [instV] at HWZ
      clear HOW
      go_upto_region 21 with fail
      go_loopw [23] (fun iv wr => ∃ k : Nat, k ≤ 3 ∧ iv = .int .i64 k ∧ Below w.heap.size w wr) (fun iv _ => 3 - (intOf iv).toNat)
      case atStart => exact ⟨0, by decide, rfl, HB9.out⟩
      case round =>
        rename World => wr
        obtain ⟨k, hk, rfl, hb⟩ := hrel
        have HBR := hide hb
        clear hb
        by_cases hk3 : k < 3
        · obtain ⟨v, hv, z, hz, hkv⟩ : ∃ v, (v = 0 ∨ v = -1 ∨ v = 1099511627777) ∧ ∃ z, (z = -2 ∨ z = 2 ∨ z = -1099511627776) ∧ ((k = 0 ∧ v = 0 ∧ z = -2) ∨ (k = 1 ∧ v = -1 ∧ z = 2) ∨ (k = 2 ∧ v = 1099511627777 ∧ z = -1099511627776)) := by
            rcases (by omega : k = 0 ∨ k = 1 ∨ k = 2) with rfl | rfl | rfl
            · exact ⟨0, .inl rfl, -2, .inl rfl, .inl ⟨rfl, rfl, rfl⟩⟩
            · exact ⟨-1, .inr (.inl rfl), 2, .inr (.inl rfl), .inr (.inl ⟨rfl, rfl, rfl⟩)⟩
            · exact ⟨1099511627777, .inr (.inr rfl), -1099511627776, .inr (.inr rfl), .inr (.inr ⟨rfl, rfl, rfl⟩)⟩
          have hci : ∀ W, (Instr.index 75 (.agg #[.int .i64 0, .int .i64 (-1), .int .i64 1099511627777]) (.int .i64 (k : Int))).run Tryd.prog W = .ok (.int .i64 v) W := fun W => by
            rcases hkv with ⟨rfl, rfl, rfl⟩ | ⟨rfl, rfl, rfl⟩ | ⟨rfl, rfl, rfl⟩
            · exact (arr_coins W).1
            · exact (arr_coins W).2.1
            · exact (arr_coins W).2.2
          have hni : ∀ W, (Instr.index 77 (.agg #[.int .i64 (-2), .int .i64 2, .int .i64 (-1099511627776)]) (.int .i64 (k : Int))).run Tryd.prog W = .ok (.int .i64 z) W := fun W => by
            rcases hkv with ⟨rfl, rfl, rfl⟩ | ⟨rfl, rfl, rfl⟩ | ⟨rfl, rfl, rfl⟩
            · exact (arr_nums W).1
            · exact (arr_nums W).2.1
            · exact (arr_nums W).2.2
          have hki : (k : Int) < 3 := by omega
          have HB2 : Hid (Below wr.heap.size wr ((wr.alloc (.cells #[.int .u32 1, .int .i64 v] 74)).alloc (.cells #[.slice (some ⟨wr.heap.size, 0, none⟩) 1 1] 63))) := hide (((Below.refl _ _).alloc (Nat.le_refl _) _).alloc (by simp) _)
          have hn2 := heap_alloc_new (wr.alloc (.cells #[.int .u32 1, .int .i64 v] 74)) (.cells #[.slice (some ⟨wr.heap.size, 0, none⟩) 1 1] 63)
          rw [World.size_alloc] at hn2
          have HCC := hide (HCV.out v _ wr.heap.size (wr.heap.size + 1) hv ((Below.heap_alloc _ _ _ (by simp)).trans (heap_alloc_new wr (.cells #[.int .u32 1, .int .i64 v] 74))) hn2)
          have HW := hide (HWZ.out z hz)
          unfold ValPost at HCC HW
          clear hn2 hk hv hz hkv
          go_upto_region 24 with (go_at_call 34; refine (HCC.out).mono ?_; rintro e w3 ⟨rfl, hb3⟩; have HB3 := hide (HBR.out.trans ((HB2.out.trans (hb3.mono HB2.out.size)).mono HBR.out.size)); clear hb3)
          go_cut [27, 28] from 113 to 121 (fun av bv wx => av = .int .i64 0 ∧ bv = .int .i64 170 ∧ Below w.heap.size w wx)
          case first =>
            have hba0 : Below w3.heap.size w3 (w3.alloc (.cells #[.int .i64 z, .int .i64 0] 3)).drew := ((Below.refl _ _).alloc (Nat.le_refl _) _).drew
            have HA0 := hide hba0
            have HN0 : Hid (One intV (w3.alloc (.cells #[.int .i64 z, .int .i64 0] 3)).drew (w3.alloc (.cells #[.int .i64 z, .int .i64 0] 3)).drew.heap.size (some ⟨w3.heap.size, 0, none⟩) [z, 0]) := hide ((ints_row w3 [z, 0]).up ((Below.refl _ _).drew))
            clear hba0
            refine wp_region_U 11 (fun _ => True) rfl trivial (fun hHeld => ?_)
            refine AnyU.take (i := 1) (v := ?v3) rfl (by kernel_rfl) (by kernel_rfl) (by kernel_rfl) (by kernel_rfl) (fun _ _ _ h => h) (Or.inl ⟨by rfl, ?hy3⟩) hHeld ?r3
            case hy3 => (intro w hSw; (try dsimp only at hSw); go_simp <;> with_reducible rfl)
            simp only [Act.put, List.setIfInBounds_toArray, List.set_cons_zero, List.set_cons_succ]
            refine AnyU.take (i := 2) (v := ?v4) rfl (by kernel_rfl) (by kernel_rfl) (by kernel_rfl) (by kernel_rfl) (fun _ _ _ h => h) (Or.inl ⟨by rfl, ?hy4⟩) hHeld ?r4
            case hy4 => (intro w hSw; (try dsimp only at hSw); go_simp <;> with_reducible rfl)
            simp only [Act.put, List.setIfInBounds_toArray, List.set_cons_zero, List.set_cons_succ]
            refine AnyU.take (i := 3) (v := ?v5) rfl (by kernel_rfl) (by kernel_rfl) (by kernel_rfl) (by kernel_rfl) (fun _ _ _ h => h) (Or.inl ⟨by rfl, ?hy5⟩) hHeld ?r5
            case hy5 => (intro w hSw; (try dsimp only at hSw); go_simp <;> with_reducible rfl)
            simp only [Act.put, List.setIfInBounds_toArray, List.set_cons_zero, List.set_cons_succ]
            refine AnyU.next (js := [0, 4]) (by kernel_rfl) (by simp) (NextU.cons rfl (fun K hK => ?_) (NextU.cons rfl (fun K hK => ?_) NextU.nil))
            · go_simp
              refine (HSM.out _).mono ?_
              rintro e w5 ⟨A5, hs5, rfl, hB5, _, hb5⟩
              have HB5 := hide (HB3.out.trans (((Below.refl w3.heap.size w3).drew.trans hb5).mono HB3.out.size))
              have HY5 := hide hB5
              clear hB5 hb5
              simp only [instV]
              go_wp2_with fail
              refine hK.out _ _ (fun _ => trivial) (fun hHeld => ?_)
              replace hHeld := hHeld (by decide)
              try simp only [Act.put, List.setIfInBounds_toArray, List.set_cons_zero, List.set_cons_succ]
              refine AnyU.next (js := [4]) (by kernel_rfl) (by simp) (NextU.cons rfl (fun K hK => ?_) NextU.nil)
              go_simp
              refine hK.out _ _ (fun _ => trivial) (fun hHeld => ?_)
              replace hHeld := hHeld (by decide)
              try simp only [Act.put, List.setIfInBounds_toArray, List.set_cons_zero, List.set_cons_succ]
              refine AnyU.next (js := [5]) (by kernel_rfl) (by simp) (NextU.cons rfl (fun K hK => ?_) NextU.nil)
              go_simp
              have hba : Below w5.heap.size w5 (w5.alloc (.cells #[.int .i64 z, .int .i64 0] 3)) := (Below.refl _ _).alloc (Nat.le_refl _) _
              have hbw := HB5.out.trans (hba.mono HB5.out.size)
              refine ((HW.out A5 hs5 _ (HY5.out.up hba) (HT.out.below hbw) w5.heap.size (ints_row w5 [z, 0])).mono ?_)
              rintro e w6 ⟨rfl, hb6⟩
              go_wp2_with fail
              refine hK.out _ _ (fun _ => trivial) (fun hHeld => ?_)
              replace hHeld := hHeld (by decide)
              try simp only [Act.put, List.setIfInBounds_toArray, List.set_cons_zero, List.set_cons_succ]
              refine AnyU.next (js := [6]) (by kernel_rfl) (by simp) (NextU.cons rfl (fun K hK => ?_) NextU.nil)
              go_simp
              refine hK.out _ _ (fun _ => trivial) (fun hHeld => ?_)
              replace hHeld := hHeld (by decide)
              try simp only [Act.put, List.setIfInBounds_toArray, List.set_cons_zero, List.set_cons_succ]
              refine AnyU.take (i := 7) (v := ?v6) rfl (by kernel_rfl) (by kernel_rfl) (by kernel_rfl) (by kernel_rfl) (fun _ _ _ h => h) (Or.inl ⟨by rfl, ?hy6⟩) hHeld ?r6
              case hy6 => (intro w hSw; (try dsimp only at hSw); go_simp <;> with_reducible rfl)
              simp only [Act.put, List.setIfInBounds_toArray, List.set_cons_zero, List.set_cons_succ]
              refine AnyU.take (i := 8) (v := ?v7) rfl (by kernel_rfl) (by kernel_rfl) (by kernel_rfl) (by kernel_rfl) (fun _ _ _ h => h) (Or.inl ⟨by rfl, ?hy7⟩) hHeld ?r7
              case hy7 => (intro w hSw; (try dsimp only at hSw); go_simp <;> with_reducible rfl)
              simp only [Act.put, List.setIfInBounds_toArray, List.set_cons_zero, List.set_cons_succ]
              refine AnyU.next (js := [9]) (by kernel_rfl) (by simp) (NextU.cons rfl (fun K hK => ?_) NextU.nil)
              go_simp
              refine hK.out _ _ (fun _ => trivial) (fun hHeld => ?_)
              replace hHeld := hHeld (by decide)
              try simp only [Act.put, List.setIfInBounds_toArray, List.set_cons_zero, List.set_cons_succ]
              refine AnyU.next (js := [10]) (by kernel_rfl) (by simp) (NextU.cons rfl (fun K hK => ?_) NextU.nil)
              go_simp
              refine hK.out _ _ (fun _ => trivial) (fun hHeld => ?_)
              replace hHeld := hHeld (by decide)
              try simp only [Act.put, List.setIfInBounds_toArray, List.set_cons_zero, List.set_cons_succ]
              refine AnyU.over (by kernel_rfl) ?_ _
              go_wp2_with fail
              go_meet
              exact ⟨rfl, rfl, hbw.trans (hb6.mono hbw.size)⟩
            · go_simp
              refine hK.out _ _ (fun _ => trivial) (fun hHeld => ?_)
              replace hHeld := hHeld (by decide)
              try simp only [Act.put, List.setIfInBounds_toArray, List.set_cons_zero, List.set_cons_succ]
              generalize (w3.alloc (.cells #[.int .i64 z, .int .i64 0] 3)).drew = w4 at *
              refine AnyU.next (js := [0]) (by kernel_rfl) (by simp) (NextU.cons rfl (fun K hK => ?_) NextU.nil)
              go_simp
              refine (HSM.out _).mono ?_
              rintro e w5 ⟨A5, hs5, rfl, hB5, _, hb5⟩
              have HB5 := hide (HB3.out.trans ((HA0.out.trans (hb5.mono HA0.out.size)).mono HB3.out.size))
              have HY5 := hide hB5
              have HN5 := hide (HN0.out.up hb5)
              clear hB5 hb5
              simp only [instV]
              go_wp2_with fail
              refine hK.out _ _ (fun _ => trivial) (fun hHeld => ?_)
              replace hHeld := hHeld (by decide)
              try simp only [Act.put, List.setIfInBounds_toArray, List.set_cons_zero, List.set_cons_succ]
              refine AnyU.next (js := [5]) (by kernel_rfl) (by simp) (NextU.cons rfl (fun K hK => ?_) NextU.nil)
              go_simp
              refine ((HW.out A5 hs5 _ HY5.out (HT.out.below HB5.out) w3.heap.size HN5.out).mono ?_)
              rintro e w6 ⟨rfl, hb6⟩
              go_wp2_with fail
              refine hK.out _ _ (fun _ => trivial) (fun hHeld => ?_)
              replace hHeld := hHeld (by decide)
              try simp only [Act.put, List.setIfInBounds_toArray, List.set_cons_zero, List.set_cons_succ]
              refine AnyU.next (js := [6]) (by kernel_rfl) (by simp) (NextU.cons rfl (fun K hK => ?_) NextU.nil)
              go_simp
              refine hK.out _ _ (fun _ => trivial) (fun hHeld => ?_)
              replace hHeld := hHeld (by decide)
              try simp only [Act.put, List.setIfInBounds_toArray, List.set_cons_zero, List.set_cons_succ]
              refine AnyU.take (i := 7) (v := ?v8) rfl (by kernel_rfl) (by kernel_rfl) (by kernel_rfl) (by kernel_rfl) (fun _ _ _ h => h) (Or.inl ⟨by rfl, ?hy8⟩) hHeld ?r8
              case hy8 => (intro w hSw; (try dsimp only at hSw); go_simp <;> with_reducible rfl)
              simp only [Act.put, List.setIfInBounds_toArray, List.set_cons_zero, List.set_cons_succ]
              refine AnyU.take (i := 8) (v := ?v9) rfl (by kernel_rfl) (by kernel_rfl) (by kernel_rfl) (by kernel_rfl) (fun _ _ _ h => h) (Or.inl ⟨by rfl, ?hy9⟩) hHeld ?r9
              case hy9 => (intro w hSw; (try dsimp only at hSw); go_simp <;> with_reducible rfl)
              simp only [Act.put, List.setIfInBounds_toArray, List.set_cons_zero, List.set_cons_succ]
              refine AnyU.next (js := [9]) (by kernel_rfl) (by simp) (NextU.cons rfl (fun K hK => ?_) NextU.nil)
              go_simp
              refine hK.out _ _ (fun _ => trivial) (fun hHeld => ?_)
              replace hHeld := hHeld (by decide)
              try simp only [Act.put, List.setIfInBounds_toArray, List.set_cons_zero, List.set_cons_succ]
              refine AnyU.next (js := [10]) (by kernel_rfl) (by simp) (NextU.cons rfl (fun K hK => ?_) NextU.nil)
              go_simp
              refine hK.out _ _ (fun _ => trivial) (fun hHeld => ?_)
              replace hHeld := hHeld (by decide)
              try simp only [Act.put, List.setIfInBounds_toArray, List.set_cons_zero, List.set_cons_succ]
              refine AnyU.over (by kernel_rfl) ?_ _
              go_wp2_with fail
              go_meet
              exact ⟨rfl, rfl, HB5.out.trans (hb6.mono HB5.out.size)⟩
          case rest =>
            obtain ⟨rfl, rfl, hbc⟩ := hcut
            have HBC := hide hbc
            clear hbc
            go_wp2_with (go_at_call 15; refine (HNM.out _ _).mono ?_; rintro e w7 ⟨rfl, rfl⟩)
            go_roundw
            case rel => exact ⟨k + 1, by omega, by go_num, HBC.out⟩
            case measure => simp [intOf]; omega
        · obtain rfl : k = 3 := by omega
          go_wp2_with (first
            | (go_at_call 15; refine (HNM.out _ _).mono ?_; rintro e w7 ⟨rfl, rfl⟩)
            | (go_at_call 22; refine (HKN.out _ HBR.out).mono ?_; rintro e w8 ⟨rfl, hb8⟩; have HB8 := hide (HBR.out.trans (hb8.mono HBR.out.size)); clear hb8))
          go_ret
          exact ⟨rfl, HB8.out⟩
end Go.Proofs.YtffpiaipdeebcaaDoor
