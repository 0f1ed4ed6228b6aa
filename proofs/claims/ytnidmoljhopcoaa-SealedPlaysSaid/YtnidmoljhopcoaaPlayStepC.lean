/- The walk of gavellaw11.step: a copy in the place of the other box; any call. -/
import Derived.Test.YtnidmoljhopcoaaPlayStepB
namespace Go.Proofs.Ytnidmoljhopcoaa
open Go.RowKit

set_option maxRecDepth 100000 in
set_option maxHeartbeats 8000000 in
theorem step7 (B wp n : Nat) (b : Bool) (q : Nat) (v : Value) (r : Nat) (u : Value) (f : Int) (lo : List (Int × Int)) (t : Side) (on tt bidder leave coins : Int) (w : World) (h : Duo w B wp b ⟨q, v, r, u, f, lo, lo⟩ t) (hlo : lo.length ≤ n) (ht : t.lr = t.lo ∧ t.lo.length ≤ n) (hn : n ≤ 1000) (hB : B ≤ w.heap.size)
    (hon : on.tmod 2 = tt) (htt : tt = -1 ∧ b = true ∨ tt = 0 ∧ b = false ∨ tt = 1 ∧ b = true) :
    Calls Try.prog 12 #[.pointer (some ⟨wp, 0, none⟩), opV 7 on bidder leave coins] w (StepP B wp (n + 1) b w) := by
  have hlt := lt_of_block h.blk
  have c0 := fun ob : Obj => (World.cell?_alloc_lt w ob ⟨wp, 0, none⟩ hlt).trans (cell_of_row w wp 0 _ _ (0, 0) h.blk)
  have c1 := fun ob : Obj => (World.cell?_alloc_lt w ob ⟨wp, 1, none⟩ hlt).trans (cell_of_row w wp 1 _ _ (0, 0) h.blk)
  have c2 := fun ob : Obj => (World.cell?_alloc_lt w ob ⟨wp, 2, none⟩ hlt).trans (cell_of_row w wp 2 _ _ (0, 0) h.blk)
  have c3 := fun ob : Obj => (World.cell?_alloc_lt w ob ⟨wp, 3, none⟩ hlt).trans (cell_of_row w wp 3 _ _ (0, 0) h.blk)
  have H0 := hide h
  have HT := hide ht.1
  have HSL := hide hlo
  have HTL := hide ht.2
  have HFO : Hid (∀ k, Foot q v k → B ≤ k ∧ k < w.heap.size) := hide h.foot
  have HRO : Hid (r < w.heap.size ∧ B ≤ r) := hide ⟨lt_of_block h.rs.blk, h.rs.base⟩
  have HBB := hide hB
  have HNN := hide hn
  clear h hlo ht hB hlt hn
  simp only [opV]
  rcases htt with ⟨rfl, rfl⟩ | ⟨rfl, rfl⟩ | ⟨rfl, rfl⟩
  all_goals simp only [duoC, ptr, if_true, if_false, Bool.false_eq_true, List.getElem?_toArray, List.getElem?_cons_zero, List.getElem?_cons_succ] at c0 c1 c2 c3
  · go_enter Try.func12, Try.ntmps12
    go_wp2_with fail
    go_quiet (fail)
    have HB1 : Hid (Below w.heap.size w ((w.alloc (.cells #[.int .i64 7, .int .i64 on, .int .i64 bidder, .int .i64 leave, .int .i64 coins] 52)).drewN nq)) := hide (below_drewN ((Below.refl _ _).alloc (Nat.le_refl _) _) _)
    have HP1 : Hid (ParW w 7 on bidder leave coins ((w.alloc (.cells #[.int .i64 7, .int .i64 on, .int .i64 bidder, .int .i64 leave, .int .i64 coins] 52)).drewN nq)) := hide ⟨heap_alloc_new w _⟩
    have hcp := HP1.out.cell
    obtain ⟨p2, p3, p4⟩ := hcp
    obtain ⟨w1, hw1⟩ : ∃ w1, w1 = (w.alloc (.cells #[.int .i64 7, .int .i64 on, .int .i64 bidder, .int .i64 leave, .int .i64 coins] 52)).drewN nq := ⟨_, rfl⟩
    rw [← hw1] at HB1 HP1 p2 p3 p4
    have HD1 := hide (H0.out.below HB1.out)
    have d34 : w1.cell? ⟨w.heap.size, 0, none⟩ = some (.int .i64 7) := cell_of_row _ _ 0 _ _ (0, 0) HP1.out.blk
    have HSZ1 : Hid (w.heap.size < w1.heap.size) := hide (lt_of_block HP1.out.blk)
    clear c0 c1 c2 c3
    rw [← hw1]
    have HW1 := hide hw1
    clear hw1
    obtain ⟨A3, c3, hu3, _⟩ := own_sh HD1.out.rs.row
    simp only at hu3
    subst hu3
    have hw0 : IntKind.i64.wrap 0 = 0 := rfl
    have hw11 : IntKind.i64.wrap 1 = 1 := rfl
    have HDd := hide (HD1.out.below ((Below.refl _ _).drew))
    have HCP := hide (copy_any B q v f lo w1.drew HDd.out.bs (by have := HSL.out; have := HNN.out; omega))
    have hww : ∀ W : World, Below w1.heap.size w1 W → W.heap[wp]? = some (.cells (duoC true ⟨q, v, r, .slice A3 lo.length c3, f, lo, lo⟩ t) 44 (0, 0)) := fun W hb => (hb.block _ (lt_of_block HD1.out.blk)).trans HD1.out.blk
    simp only [duoC, ptr, if_true, if_false, Bool.false_eq_true] at hww
    have HWW := hide hww
    clear hww
    go_wp2_with fail
    go_region_with (first | (go_at_call 35; refine (HCP.out).mono ?_; rintro e w2 ⟨p, v2, rfl, hbx2, hb2⟩; have HB2 : Hid (Below w1.heap.size w1 w2) := hide ((Below.refl _ _).drew.trans hb2); have HX2 : Hid (BoxOf w2 w1.heap.size p v2 f lo) := hide hbx2; have hwp2 := HWW.out w2 HB2.out; have HWP2 := hide hwp2; have c9 := cell_of_row w2 wp 0 _ _ (0, 0) hwp2; simp at c9; have f9 := frozen_of_row w2 wp 0 _ _ hwp2; clear hbx2 hb2 hwp2))
    have HW3 : Hid ((w2.setCell ⟨wp, 0, none⟩ (.pointer (some ⟨p, 0, none⟩))).heap[wp]? = some (.cells _ 44 (0, 0))) := hide (setCell_block HWP2.out 0 (.pointer (some ⟨p, 0, none⟩)))
    have HT3 : Hid (Turns (fun k => k = wp) w1 (w2.setCell ⟨wp, 0, none⟩ (.pointer (some ⟨p, 0, none⟩)))) := hide ((Turns.of_below HB2.out).trans (Turns.of_set w2 ⟨wp, 0, none⟩ _))
    have HRW : Hid (r ≠ wp) := hide (ob_ne HD1.out.rs.blk HD1.out.blk (by simp))
    have HX3 : Hid (BoxOf (w2.setCell ⟨wp, 0, none⟩ (.pointer (some ⟨p, 0, none⟩))) w1.heap.size p v2 f lo) := hide (HX2.out.turns (Turns.of_set w2 ⟨wp, 0, none⟩ _) (fun e => by have h1 : p = wp := e; have h2 := HX2.out.base; have h3 := lt_of_block HD1.out.blk; omega) (fun k hk e => by have h1 : k = wp := e; have h2 := (HX2.out.row.lt k hk).1; have h3 := lt_of_block HD1.out.blk; omega))
    have HR3 : Hid ((w2.setCell ⟨wp, 0, none⟩ (.pointer (some ⟨p, 0, none⟩))).heap[r]? = some (.cells #[.int .i64 f, .slice A3 lo.length c3] 49 (0, 0))) := hide ((HT3.out.block r (lt_of_block HD1.out.rs.blk) HRW.out).trans HD1.out.rs.blk)
    simp only [List.setIfInBounds_toArray, List.set_cons_zero, List.set_cons_succ] at HW3
    clear c9 f9
    generalize w2.setCell ⟨wp, 0, none⟩ (.pointer (some ⟨p, 0, none⟩)) = w3 at *
    have k0 := cell_of_row w3 r 0 _ _ (0, 0) HR3.out
    have k1 := cell_of_row w3 r 1 _ _ (0, 0) HR3.out
    simp at k0 k1
    have g9 := frozen_of_row w3 wp 2 _ _ HW3.out
    have c9 := cell_of_row w3 wp 2 _ _ (0, 0) HW3.out
    simp at c9
    have HLW := hide (lt_of_block HW3.out)
    have HLR := hide (lt_of_block HR3.out)
    have hc9 := fun ob : Obj => (World.cell?_alloc_lt w3 ob ⟨wp, 2, none⟩ HLW.out).trans c9
    have hk0 := fun ob : Obj => (World.cell?_alloc_lt w3 ob ⟨r, 0, none⟩ HLR.out).trans k0
    have hk1 := fun ob : Obj => (World.cell?_alloc_lt w3 ob ⟨r, 1, none⟩ HLR.out).trans k1
    have hg9 := fun ob : Obj => frozen_of_row (w3.alloc ob) wp 2 _ _ ((Below.heap_alloc w3 ob _ HLW.out).trans HW3.out)
    have hS := And.intro k0 k1
    have hS2 := fun ob : Obj => And.intro (hk0 ob) (hk1 ob)
    have hb3 : ∀ (ob : Obj) (x : Value), ((w3.alloc ob).setCell ⟨wp, 2, none⟩ x).heap[r]? = some (.cells #[.int .i64 f, .slice A3 lo.length c3] 49 (0, 0)) := fun ob x => (Below.heap_setCell _ ⟨wp, 2, none⟩ x r HRW.out).trans ((Below.heap_alloc w3 ob _ HLR.out).trans HR3.out)
    have hS3 : ∀ (ob : Obj) (x : Value), ((w3.alloc ob).setCell ⟨wp, 2, none⟩ x).drew.cell? ⟨r, 0, none⟩ = some (.int .i64 f) ∧ ((w3.alloc ob).setCell ⟨wp, 2, none⟩ x).drew.cell? ⟨r, 1, none⟩ = some (.slice A3 lo.length c3) := fun ob x => ⟨cell_of_row _ r 0 _ _ (0, 0) (hb3 ob x), cell_of_row _ r 1 _ _ (0, 0) (hb3 ob x)⟩
    have HS3 := hide hS3
    clear hb3 hS3
    go_wp2_with fail
    go_region_held3 (fun w' => w'.cell? ⟨r, 0, none⟩ = some (.int .i64 f) ∧ w'.cell? ⟨r, 1, none⟩ = some (.slice A3 lo.length c3)) (first | exact hS | exact hS2 _ | exact HS3.out _ _ | go_keep) (fail)
    all_goals
      go_wp2_with fail
      go_ret
      have hTF : Turns (fun k => k = wp) w3 ((w3.alloc (.cells #[.int .i64 f, .slice A3 lo.length c3] 49)).setCell ⟨wp, 2, none⟩ (.pointer (some ⟨w3.heap.size, 0, none⟩))).drew := ((Turns.of_below ((Below.refl _ _).alloc (Nat.le_refl _) _)).trans (Turns.of_set _ ⟨wp, 2, none⟩ _)).trans (Turns.of_below ((Below.refl _ _).drew))
      have hT1 := HT3.out.trans hTF
      have hpw : ¬ p = wp := fun e => by have h2 := HX2.out.base; have h3 := lt_of_block HD1.out.blk; omega
      have hB1 : B ≤ w1.heap.size := by have := HBB.out; have := HB1.out.size; omega
      refine ⟨rfl, _, _, Duo.copied (p := p) (v' := v2) (r' := w3.heap.size) HD1.out hB1 hT1 ?_ (HX3.out.turns hTF hpw (fun k hk e => by have h1 : k = wp := e; have h2 := (HX2.out.row.lt k hk).1; have h3 := lt_of_block HD1.out.blk; omega)) ?_ HT3.out.size, ⟨rfl, Nat.le_succ_of_le HSL.out⟩, ⟨rfl, Nat.le_succ_of_le HSL.out⟩, (HB1.out.mono HBB.out).trans (hT1.below hB1 (fun k hk e => by have := HD1.out.base; omega))⟩
      · have h7 := setCell_block ((Below.heap_alloc w3 (.cells #[.int .i64 f, .slice A3 lo.length c3] 49) _ HLW.out).trans HW3.out) 2 (.pointer (some ⟨w3.heap.size, 0, none⟩))
        exact h7
      · exact (Below.heap_setCell _ ⟨wp, 2, none⟩ _ _ (by have := HLW.out; show w3.heap.size ≠ wp; omega)).trans (heap_alloc_new w3 _)
  · go_enter Try.func12, Try.ntmps12
    go_wp2_with fail
    go_quiet (fail)
    have HB1 : Hid (Below w.heap.size w ((w.alloc (.cells #[.int .i64 7, .int .i64 on, .int .i64 bidder, .int .i64 leave, .int .i64 coins] 52)).drewN nq)) := hide (below_drewN ((Below.refl _ _).alloc (Nat.le_refl _) _) _)
    have HP1 : Hid (ParW w 7 on bidder leave coins ((w.alloc (.cells #[.int .i64 7, .int .i64 on, .int .i64 bidder, .int .i64 leave, .int .i64 coins] 52)).drewN nq)) := hide ⟨heap_alloc_new w _⟩
    have hcp := HP1.out.cell
    obtain ⟨p2, p3, p4⟩ := hcp
    obtain ⟨w1, hw1⟩ : ∃ w1, w1 = (w.alloc (.cells #[.int .i64 7, .int .i64 on, .int .i64 bidder, .int .i64 leave, .int .i64 coins] 52)).drewN nq := ⟨_, rfl⟩
    rw [← hw1] at HB1 HP1 p2 p3 p4
    have HD1 := hide (H0.out.below HB1.out)
    have d34 : w1.cell? ⟨w.heap.size, 0, none⟩ = some (.int .i64 7) := cell_of_row _ _ 0 _ _ (0, 0) HP1.out.blk
    have HSZ1 : Hid (w.heap.size < w1.heap.size) := hide (lt_of_block HP1.out.blk)
    clear c0 c1 c2 c3
    rw [← hw1]
    have HW1 := hide hw1
    clear hw1
    obtain ⟨A3, c3, hu3, _⟩ := own_sh HD1.out.rs.row
    simp only at hu3
    subst hu3
    have hw0 : IntKind.i64.wrap 0 = 0 := rfl
    have hw11 : IntKind.i64.wrap 1 = 1 := rfl
    have HDd := hide (HD1.out.below ((Below.refl _ _).drew))
    have HCP := hide (copy_any B q v f lo w1.drew HDd.out.bs (by have := HSL.out; have := HNN.out; omega))
    have hww : ∀ W : World, Below w1.heap.size w1 W → W.heap[wp]? = some (.cells (duoC false ⟨q, v, r, .slice A3 lo.length c3, f, lo, lo⟩ t) 44 (0, 0)) := fun W hb => (hb.block _ (lt_of_block HD1.out.blk)).trans HD1.out.blk
    simp only [duoC, ptr, if_true, if_false, Bool.false_eq_true] at hww
    have HWW := hide hww
    clear hww
    go_wp2_with fail
    go_region_with (first | (go_at_call 35; refine (HCP.out).mono ?_; rintro e w2 ⟨p, v2, rfl, hbx2, hb2⟩; have HB2 : Hid (Below w1.heap.size w1 w2) := hide ((Below.refl _ _).drew.trans hb2); have HX2 : Hid (BoxOf w2 w1.heap.size p v2 f lo) := hide hbx2; have hwp2 := HWW.out w2 HB2.out; have HWP2 := hide hwp2; have c9 := cell_of_row w2 wp 1 _ _ (0, 0) hwp2; simp at c9; have f9 := frozen_of_row w2 wp 1 _ _ hwp2; clear hbx2 hb2 hwp2))
    have HW3 : Hid ((w2.setCell ⟨wp, 1, none⟩ (.pointer (some ⟨p, 0, none⟩))).heap[wp]? = some (.cells _ 44 (0, 0))) := hide (setCell_block HWP2.out 1 (.pointer (some ⟨p, 0, none⟩)))
    have HT3 : Hid (Turns (fun k => k = wp) w1 (w2.setCell ⟨wp, 1, none⟩ (.pointer (some ⟨p, 0, none⟩)))) := hide ((Turns.of_below HB2.out).trans (Turns.of_set w2 ⟨wp, 1, none⟩ _))
    have HRW : Hid (r ≠ wp) := hide (ob_ne HD1.out.rs.blk HD1.out.blk (by simp))
    have HX3 : Hid (BoxOf (w2.setCell ⟨wp, 1, none⟩ (.pointer (some ⟨p, 0, none⟩))) w1.heap.size p v2 f lo) := hide (HX2.out.turns (Turns.of_set w2 ⟨wp, 1, none⟩ _) (fun e => by have h1 : p = wp := e; have h2 := HX2.out.base; have h3 := lt_of_block HD1.out.blk; omega) (fun k hk e => by have h1 : k = wp := e; have h2 := (HX2.out.row.lt k hk).1; have h3 := lt_of_block HD1.out.blk; omega))
    have HR3 : Hid ((w2.setCell ⟨wp, 1, none⟩ (.pointer (some ⟨p, 0, none⟩))).heap[r]? = some (.cells #[.int .i64 f, .slice A3 lo.length c3] 49 (0, 0))) := hide ((HT3.out.block r (lt_of_block HD1.out.rs.blk) HRW.out).trans HD1.out.rs.blk)
    simp only [List.setIfInBounds_toArray, List.set_cons_zero, List.set_cons_succ] at HW3
    clear c9 f9
    generalize w2.setCell ⟨wp, 1, none⟩ (.pointer (some ⟨p, 0, none⟩)) = w3 at *
    have k0 := cell_of_row w3 r 0 _ _ (0, 0) HR3.out
    have k1 := cell_of_row w3 r 1 _ _ (0, 0) HR3.out
    simp at k0 k1
    have g9 := frozen_of_row w3 wp 3 _ _ HW3.out
    have c9 := cell_of_row w3 wp 3 _ _ (0, 0) HW3.out
    simp at c9
    have HLW := hide (lt_of_block HW3.out)
    have HLR := hide (lt_of_block HR3.out)
    have hc9 := fun ob : Obj => (World.cell?_alloc_lt w3 ob ⟨wp, 3, none⟩ HLW.out).trans c9
    have hk0 := fun ob : Obj => (World.cell?_alloc_lt w3 ob ⟨r, 0, none⟩ HLR.out).trans k0
    have hk1 := fun ob : Obj => (World.cell?_alloc_lt w3 ob ⟨r, 1, none⟩ HLR.out).trans k1
    have hg9 := fun ob : Obj => frozen_of_row (w3.alloc ob) wp 3 _ _ ((Below.heap_alloc w3 ob _ HLW.out).trans HW3.out)
    have hS := And.intro k0 k1
    have hS2 := fun ob : Obj => And.intro (hk0 ob) (hk1 ob)
    have hb3 : ∀ (ob : Obj) (x : Value), ((w3.alloc ob).setCell ⟨wp, 3, none⟩ x).heap[r]? = some (.cells #[.int .i64 f, .slice A3 lo.length c3] 49 (0, 0)) := fun ob x => (Below.heap_setCell _ ⟨wp, 3, none⟩ x r HRW.out).trans ((Below.heap_alloc w3 ob _ HLR.out).trans HR3.out)
    have hS3 : ∀ (ob : Obj) (x : Value), ((w3.alloc ob).setCell ⟨wp, 3, none⟩ x).drew.cell? ⟨r, 0, none⟩ = some (.int .i64 f) ∧ ((w3.alloc ob).setCell ⟨wp, 3, none⟩ x).drew.cell? ⟨r, 1, none⟩ = some (.slice A3 lo.length c3) := fun ob x => ⟨cell_of_row _ r 0 _ _ (0, 0) (hb3 ob x), cell_of_row _ r 1 _ _ (0, 0) (hb3 ob x)⟩
    have HS3 := hide hS3
    clear hb3 hS3
    go_wp2_with fail
    go_region_held3 (fun w' => w'.cell? ⟨r, 0, none⟩ = some (.int .i64 f) ∧ w'.cell? ⟨r, 1, none⟩ = some (.slice A3 lo.length c3)) (first | exact hS | exact hS2 _ | exact HS3.out _ _ | go_keep) (fail)
    all_goals
      go_wp2_with fail
      go_ret
      have hTF : Turns (fun k => k = wp) w3 ((w3.alloc (.cells #[.int .i64 f, .slice A3 lo.length c3] 49)).setCell ⟨wp, 3, none⟩ (.pointer (some ⟨w3.heap.size, 0, none⟩))).drew := ((Turns.of_below ((Below.refl _ _).alloc (Nat.le_refl _) _)).trans (Turns.of_set _ ⟨wp, 3, none⟩ _)).trans (Turns.of_below ((Below.refl _ _).drew))
      have hT1 := HT3.out.trans hTF
      have hpw : ¬ p = wp := fun e => by have h2 := HX2.out.base; have h3 := lt_of_block HD1.out.blk; omega
      have hB1 : B ≤ w1.heap.size := by have := HBB.out; have := HB1.out.size; omega
      refine ⟨rfl, _, _, Duo.copied (p := p) (v' := v2) (r' := w3.heap.size) HD1.out hB1 hT1 ?_ (HX3.out.turns hTF hpw (fun k hk e => by have h1 : k = wp := e; have h2 := (HX2.out.row.lt k hk).1; have h3 := lt_of_block HD1.out.blk; omega)) ?_ HT3.out.size, ⟨rfl, Nat.le_succ_of_le HSL.out⟩, ⟨rfl, Nat.le_succ_of_le HSL.out⟩, (HB1.out.mono HBB.out).trans (hT1.below hB1 (fun k hk e => by have := HD1.out.base; omega))⟩
      · have h7 := setCell_block ((Below.heap_alloc w3 (.cells #[.int .i64 f, .slice A3 lo.length c3] 49) _ HLW.out).trans HW3.out) 3 (.pointer (some ⟨w3.heap.size, 0, none⟩))
        exact h7
      · exact (Below.heap_setCell _ ⟨wp, 3, none⟩ _ _ (by have := HLW.out; show w3.heap.size ≠ wp; omega)).trans (heap_alloc_new w3 _)
  · go_enter Try.func12, Try.ntmps12
    go_wp2_with fail
    go_quiet (fail)
    have HB1 : Hid (Below w.heap.size w ((w.alloc (.cells #[.int .i64 7, .int .i64 on, .int .i64 bidder, .int .i64 leave, .int .i64 coins] 52)).drewN nq)) := hide (below_drewN ((Below.refl _ _).alloc (Nat.le_refl _) _) _)
    have HP1 : Hid (ParW w 7 on bidder leave coins ((w.alloc (.cells #[.int .i64 7, .int .i64 on, .int .i64 bidder, .int .i64 leave, .int .i64 coins] 52)).drewN nq)) := hide ⟨heap_alloc_new w _⟩
    have hcp := HP1.out.cell
    obtain ⟨p2, p3, p4⟩ := hcp
    obtain ⟨w1, hw1⟩ : ∃ w1, w1 = (w.alloc (.cells #[.int .i64 7, .int .i64 on, .int .i64 bidder, .int .i64 leave, .int .i64 coins] 52)).drewN nq := ⟨_, rfl⟩
    rw [← hw1] at HB1 HP1 p2 p3 p4
    have HD1 := hide (H0.out.below HB1.out)
    have d34 : w1.cell? ⟨w.heap.size, 0, none⟩ = some (.int .i64 7) := cell_of_row _ _ 0 _ _ (0, 0) HP1.out.blk
    have HSZ1 : Hid (w.heap.size < w1.heap.size) := hide (lt_of_block HP1.out.blk)
    clear c0 c1 c2 c3
    rw [← hw1]
    have HW1 := hide hw1
    clear hw1
    obtain ⟨A3, c3, hu3, _⟩ := own_sh HD1.out.rs.row
    simp only at hu3
    subst hu3
    have hw0 : IntKind.i64.wrap 0 = 0 := rfl
    have hw11 : IntKind.i64.wrap 1 = 1 := rfl
    have HDd := hide (HD1.out.below ((Below.refl _ _).drew))
    have HCP := hide (copy_any B q v f lo w1.drew HDd.out.bs (by have := HSL.out; have := HNN.out; omega))
    have hww : ∀ W : World, Below w1.heap.size w1 W → W.heap[wp]? = some (.cells (duoC true ⟨q, v, r, .slice A3 lo.length c3, f, lo, lo⟩ t) 44 (0, 0)) := fun W hb => (hb.block _ (lt_of_block HD1.out.blk)).trans HD1.out.blk
    simp only [duoC, ptr, if_true, if_false, Bool.false_eq_true] at hww
    have HWW := hide hww
    clear hww
    go_wp2_with fail
    go_region_with (first | (go_at_call 35; refine (HCP.out).mono ?_; rintro e w2 ⟨p, v2, rfl, hbx2, hb2⟩; have HB2 : Hid (Below w1.heap.size w1 w2) := hide ((Below.refl _ _).drew.trans hb2); have HX2 : Hid (BoxOf w2 w1.heap.size p v2 f lo) := hide hbx2; have hwp2 := HWW.out w2 HB2.out; have HWP2 := hide hwp2; have c9 := cell_of_row w2 wp 0 _ _ (0, 0) hwp2; simp at c9; have f9 := frozen_of_row w2 wp 0 _ _ hwp2; clear hbx2 hb2 hwp2))
    have HW3 : Hid ((w2.setCell ⟨wp, 0, none⟩ (.pointer (some ⟨p, 0, none⟩))).heap[wp]? = some (.cells _ 44 (0, 0))) := hide (setCell_block HWP2.out 0 (.pointer (some ⟨p, 0, none⟩)))
    have HT3 : Hid (Turns (fun k => k = wp) w1 (w2.setCell ⟨wp, 0, none⟩ (.pointer (some ⟨p, 0, none⟩)))) := hide ((Turns.of_below HB2.out).trans (Turns.of_set w2 ⟨wp, 0, none⟩ _))
    have HRW : Hid (r ≠ wp) := hide (ob_ne HD1.out.rs.blk HD1.out.blk (by simp))
    have HX3 : Hid (BoxOf (w2.setCell ⟨wp, 0, none⟩ (.pointer (some ⟨p, 0, none⟩))) w1.heap.size p v2 f lo) := hide (HX2.out.turns (Turns.of_set w2 ⟨wp, 0, none⟩ _) (fun e => by have h1 : p = wp := e; have h2 := HX2.out.base; have h3 := lt_of_block HD1.out.blk; omega) (fun k hk e => by have h1 : k = wp := e; have h2 := (HX2.out.row.lt k hk).1; have h3 := lt_of_block HD1.out.blk; omega))
    have HR3 : Hid ((w2.setCell ⟨wp, 0, none⟩ (.pointer (some ⟨p, 0, none⟩))).heap[r]? = some (.cells #[.int .i64 f, .slice A3 lo.length c3] 49 (0, 0))) := hide ((HT3.out.block r (lt_of_block HD1.out.rs.blk) HRW.out).trans HD1.out.rs.blk)
    simp only [List.setIfInBounds_toArray, List.set_cons_zero, List.set_cons_succ] at HW3
    clear c9 f9
    generalize w2.setCell ⟨wp, 0, none⟩ (.pointer (some ⟨p, 0, none⟩)) = w3 at *
    have k0 := cell_of_row w3 r 0 _ _ (0, 0) HR3.out
    have k1 := cell_of_row w3 r 1 _ _ (0, 0) HR3.out
    simp at k0 k1
    have g9 := frozen_of_row w3 wp 2 _ _ HW3.out
    have c9 := cell_of_row w3 wp 2 _ _ (0, 0) HW3.out
    simp at c9
    have HLW := hide (lt_of_block HW3.out)
    have HLR := hide (lt_of_block HR3.out)
    have hc9 := fun ob : Obj => (World.cell?_alloc_lt w3 ob ⟨wp, 2, none⟩ HLW.out).trans c9
    have hk0 := fun ob : Obj => (World.cell?_alloc_lt w3 ob ⟨r, 0, none⟩ HLR.out).trans k0
    have hk1 := fun ob : Obj => (World.cell?_alloc_lt w3 ob ⟨r, 1, none⟩ HLR.out).trans k1
    have hg9 := fun ob : Obj => frozen_of_row (w3.alloc ob) wp 2 _ _ ((Below.heap_alloc w3 ob _ HLW.out).trans HW3.out)
    have hS := And.intro k0 k1
    have hS2 := fun ob : Obj => And.intro (hk0 ob) (hk1 ob)
    have hb3 : ∀ (ob : Obj) (x : Value), ((w3.alloc ob).setCell ⟨wp, 2, none⟩ x).heap[r]? = some (.cells #[.int .i64 f, .slice A3 lo.length c3] 49 (0, 0)) := fun ob x => (Below.heap_setCell _ ⟨wp, 2, none⟩ x r HRW.out).trans ((Below.heap_alloc w3 ob _ HLR.out).trans HR3.out)
    have hS3 : ∀ (ob : Obj) (x : Value), ((w3.alloc ob).setCell ⟨wp, 2, none⟩ x).drew.cell? ⟨r, 0, none⟩ = some (.int .i64 f) ∧ ((w3.alloc ob).setCell ⟨wp, 2, none⟩ x).drew.cell? ⟨r, 1, none⟩ = some (.slice A3 lo.length c3) := fun ob x => ⟨cell_of_row _ r 0 _ _ (0, 0) (hb3 ob x), cell_of_row _ r 1 _ _ (0, 0) (hb3 ob x)⟩
    have HS3 := hide hS3
    clear hb3 hS3
    go_wp2_with fail
    go_region_held3 (fun w' => w'.cell? ⟨r, 0, none⟩ = some (.int .i64 f) ∧ w'.cell? ⟨r, 1, none⟩ = some (.slice A3 lo.length c3)) (first | exact hS | exact hS2 _ | exact HS3.out _ _ | go_keep) (fail)
    all_goals
      go_wp2_with fail
      go_ret
      have hTF : Turns (fun k => k = wp) w3 ((w3.alloc (.cells #[.int .i64 f, .slice A3 lo.length c3] 49)).setCell ⟨wp, 2, none⟩ (.pointer (some ⟨w3.heap.size, 0, none⟩))).drew := ((Turns.of_below ((Below.refl _ _).alloc (Nat.le_refl _) _)).trans (Turns.of_set _ ⟨wp, 2, none⟩ _)).trans (Turns.of_below ((Below.refl _ _).drew))
      have hT1 := HT3.out.trans hTF
      have hpw : ¬ p = wp := fun e => by have h2 := HX2.out.base; have h3 := lt_of_block HD1.out.blk; omega
      have hB1 : B ≤ w1.heap.size := by have := HBB.out; have := HB1.out.size; omega
      refine ⟨rfl, _, _, Duo.copied (p := p) (v' := v2) (r' := w3.heap.size) HD1.out hB1 hT1 ?_ (HX3.out.turns hTF hpw (fun k hk e => by have h1 : k = wp := e; have h2 := (HX2.out.row.lt k hk).1; have h3 := lt_of_block HD1.out.blk; omega)) ?_ HT3.out.size, ⟨rfl, Nat.le_succ_of_le HSL.out⟩, ⟨rfl, Nat.le_succ_of_le HSL.out⟩, (HB1.out.mono HBB.out).trans (hT1.below hB1 (fun k hk e => by have := HD1.out.base; omega))⟩
      · have h7 := setCell_block ((Below.heap_alloc w3 (.cells #[.int .i64 f, .slice A3 lo.length c3] 49) _ HLW.out).trans HW3.out) 2 (.pointer (some ⟨w3.heap.size, 0, none⟩))
        exact h7
      · exact (Below.heap_setCell _ ⟨wp, 2, none⟩ _ _ (by have := HLW.out; show w3.heap.size ≠ wp; omega)).trans (heap_alloc_new w3 _)

end Go.Proofs.Ytnidmoljhopcoaa
