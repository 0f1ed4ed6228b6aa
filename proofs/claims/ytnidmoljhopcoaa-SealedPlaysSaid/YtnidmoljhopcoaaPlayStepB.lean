/- The walks of gavellaw11.step: the other calls. -/
import Derived.Test.YtnidmoljhopcoaaPlayStep
namespace Go.Proofs.Ytnidmoljhopcoaa
open Go.RowKit

/-- What a going over a box wants. -/
def GoF (w : World) (bc B q : Nat) (v : Value) (r : Nat) (u : Value) (f : Int) (lo : List (Int × Int)) (leave : Int) (W : World) : Prop :=
  W.heap[bc]? = some (.cells #[.pointer (some ⟨q, 0, none⟩)] 39 (0, 0)) ∧ BoxOf W B q v f lo ∧ RefOf W B r u f lo ∧ W.cell? ⟨w.heap.size, 3, none⟩ = some (.int .i64 leave)
theorem GoF.below {w W W' : World} {bc B q : Nat} {v : Value} {r : Nat} {u : Value} {f : Int} {lo : List (Int × Int)} {leave : Int} (h : GoF w bc B q v r u f lo leave W) (hb : Below W.heap.size W W') : GoF w bc B q v r u f lo leave W' :=
  ⟨(hb.block _ (lt_of_block h.1)).trans h.1, h.2.1.below hb, h.2.2.1.below hb, (hb.cell (p := ⟨w.heap.size, 3, none⟩) (World.block_lt_of_cell? _ _ h.2.2.2)).trans h.2.2.2⟩

set_option maxRecDepth 100000 in
set_option maxHeartbeats 8000000 in
theorem step4a (B wp n : Nat) (b : Bool) (q : Nat) (v : Value) (r : Nat) (u : Value) (f : Int) (lo : List (Int × Int)) (t : Side) (on tt bidder leave coins : Int) (w : World) (h : Duo w B wp b ⟨q, v, r, u, f, lo, lo⟩ t) (hlo : lo.length ≤ n) (ht : t.lr = t.lo ∧ t.lo.length ≤ n) (hn : n ≤ 1000) (hB : B ≤ w.heap.size)
    (hon : on.tmod 2 = tt) (htt : tt = -1 ∧ b = true ∨ tt = 0 ∧ b = false ∨ tt = 1 ∧ b = true) (hix : idxTo (isB bidder) lo < 0) :
    Calls Try.prog 12 #[.pointer (some ⟨wp, 0, none⟩), opV 4 on bidder leave coins] w (StepP B wp (n + 1) b w) := by
  have hlt := lt_of_block h.blk
  have c0 := fun ob : Obj => (World.cell?_alloc_lt w ob ⟨wp, 0, none⟩ hlt).trans (cell_of_row w wp 0 _ _ (0, 0) h.blk)
  have c1 := fun ob : Obj => (World.cell?_alloc_lt w ob ⟨wp, 1, none⟩ hlt).trans (cell_of_row w wp 1 _ _ (0, 0) h.blk)
  have c2 := fun ob : Obj => (World.cell?_alloc_lt w ob ⟨wp, 2, none⟩ hlt).trans (cell_of_row w wp 2 _ _ (0, 0) h.blk)
  have c3 := fun ob : Obj => (World.cell?_alloc_lt w ob ⟨wp, 3, none⟩ hlt).trans (cell_of_row w wp 3 _ _ (0, 0) h.blk)
  have H0 := hide h
  have HT := hide ht.1
  have HSL := hide hlo
  have HTL := hide ht.2
  have HFO : Hid (∀ k, Foot q v k → B ≤ k ∧ k < w.heap.size) := hide h.foot
  have HRO : Hid (r < w.heap.size ∧ B ≤ r) := hide ⟨lt_of_block h.rs.blk, h.rs.base⟩
  have HBB := hide hB
  have HNN := hide hn
  clear h hlo ht hB hlt hn
  have HI := hide hix
  clear hix
  simp only [opV]
  rcases htt with ⟨rfl, rfl⟩ | ⟨rfl, rfl⟩ | ⟨rfl, rfl⟩
  all_goals simp only [duoC, ptr, if_true, if_false, Bool.false_eq_true, List.getElem?_toArray, List.getElem?_cons_zero, List.getElem?_cons_succ] at c0 c1 c2 c3
  all_goals
    go_enter Try.func12, Try.ntmps12
    go_wp2_with fail
    go_quiet (fail)
    have HB1 : Hid (Below w.heap.size w ((w.alloc (.cells #[.int .i64 4, .int .i64 on, .int .i64 bidder, .int .i64 leave, .int .i64 coins] 52)).drewN nq)) := hide (below_drewN ((Below.refl _ _).alloc (Nat.le_refl _) _) _)
    have HP1 : Hid (ParW w 4 on bidder leave coins ((w.alloc (.cells #[.int .i64 4, .int .i64 on, .int .i64 bidder, .int .i64 leave, .int .i64 coins] 52)).drewN nq)) := hide ⟨heap_alloc_new w _⟩
    have hcp := HP1.out.cell
    obtain ⟨p2, p3, p4⟩ := hcp
    obtain ⟨w1, hw1⟩ : ∃ w1, w1 = (w.alloc (.cells #[.int .i64 4, .int .i64 on, .int .i64 bidder, .int .i64 leave, .int .i64 coins] 52)).drewN nq := ⟨_, rfl⟩
    rw [← hw1] at HB1 HP1 p2 p3 p4
    have HD1 := hide (H0.out.below HB1.out)
    have d34 : w1.cell? ⟨w.heap.size, 0, none⟩ = some (.int .i64 4) := cell_of_row _ _ 0 _ _ (0, 0) HP1.out.blk
    have HSZ1 : Hid (w.heap.size < w1.heap.size) := hide (lt_of_block HP1.out.blk)
    clear c0 c1 c2 c3
    rw [← hw1]
    have HW1 := hide hw1
    clear hw1
    have HCO := hide (of_any B q v f bidder lo w1 HD1.out.bs (by have := HSL.out; have := HNN.out; omega))
    have HCF : Hid (∀ W : World, RefOf W B r u f lo → Calls Try.prog 33 #[.pointer (some ⟨r, 0, none⟩), .int .i64 bidder] W (IntPost (idxTo (isB bidder) lo) W)) := hide (fun W hr => reffind_any B r u f bidder lo W hr (by have := HSL.out; have := HNN.out; omega))
    unfold ofV at HCO
    rw [if_pos HI.out] at HCO
    have hi := HI.out
    generalize idxTo (isB bidder) lo = ix at *
    go_wp2_with (first | (go_at_call 32; refine (HCO.out).mono ?_; rintro e w2 ⟨rfl, hb2⟩; have HD2 := hide (HD1.out.below hb2); have HP2 := hide (HP1.out.below hb2); have HB2 : Hid (Below w.heap.size w w2) := hide (HB1.out.trans (hb2.mono HB1.out.size)); have q2 := HP2.out.cell.1; clear hb2 p2) | (go_at_call 33; refine (HCF.out w2 HD2.out.rs).mono ?_; rintro e w3 ⟨rfl, hb3⟩; have HD3 := hide (HD2.out.below hb3); have HB3 : Hid (Below w.heap.size w w3) := hide (HB2.out.trans (hb3.mono HB2.out.size)); clear hb3 q2))
    go_ret
    exact ⟨rfl, _, _, HD3.out, ⟨rfl, Nat.le_succ_of_le HSL.out⟩, ⟨HT.out, Nat.le_succ_of_le HTL.out⟩, HB3.out.mono HBB.out⟩

set_option maxRecDepth 100000 in
set_option maxHeartbeats 8000000 in
theorem step4b (B wp n : Nat) (b : Bool) (q : Nat) (v : Value) (r : Nat) (u : Value) (f : Int) (lo : List (Int × Int)) (t : Side) (on tt bidder leave coins : Int) (w : World) (h : Duo w B wp b ⟨q, v, r, u, f, lo, lo⟩ t) (hlo : lo.length ≤ n) (ht : t.lr = t.lo ∧ t.lo.length ≤ n) (hn : n ≤ 1000) (hB : B ≤ w.heap.size)
    (hon : on.tmod 2 = tt) (htt : tt = -1 ∧ b = true ∨ tt = 0 ∧ b = false ∨ tt = 1 ∧ b = true) (hix : ∃ i : Nat, idxTo (isB bidder) lo = i ∧ i < lo.length) :
    Calls Try.prog 12 #[.pointer (some ⟨wp, 0, none⟩), opV 4 on bidder leave coins] w (StepP B wp (n + 1) b w) := by
  have hlt := lt_of_block h.blk
  have c0 := fun ob : Obj => (World.cell?_alloc_lt w ob ⟨wp, 0, none⟩ hlt).trans (cell_of_row w wp 0 _ _ (0, 0) h.blk)
  have c1 := fun ob : Obj => (World.cell?_alloc_lt w ob ⟨wp, 1, none⟩ hlt).trans (cell_of_row w wp 1 _ _ (0, 0) h.blk)
  have c2 := fun ob : Obj => (World.cell?_alloc_lt w ob ⟨wp, 2, none⟩ hlt).trans (cell_of_row w wp 2 _ _ (0, 0) h.blk)
  have c3 := fun ob : Obj => (World.cell?_alloc_lt w ob ⟨wp, 3, none⟩ hlt).trans (cell_of_row w wp 3 _ _ (0, 0) h.blk)
  have H0 := hide h
  have HT := hide ht.1
  have HSL := hide hlo
  have HTL := hide ht.2
  have HFO : Hid (∀ k, Foot q v k → B ≤ k ∧ k < w.heap.size) := hide h.foot
  have HRO : Hid (r < w.heap.size ∧ B ≤ r) := hide ⟨lt_of_block h.rs.blk, h.rs.base⟩
  have HBB := hide hB
  have HNN := hide hn
  clear h hlo ht hB hlt hn
  have HI := hide hix
  clear hix
  simp only [opV]
  rcases htt with ⟨rfl, rfl⟩ | ⟨rfl, rfl⟩ | ⟨rfl, rfl⟩
  all_goals simp only [duoC, ptr, if_true, if_false, Bool.false_eq_true, List.getElem?_toArray, List.getElem?_cons_zero, List.getElem?_cons_succ] at c0 c1 c2 c3
  all_goals
    go_enter Try.func12, Try.ntmps12
    go_wp2_with fail
    go_quiet (fail)
    have HB1 : Hid (Below w.heap.size w ((w.alloc (.cells #[.int .i64 4, .int .i64 on, .int .i64 bidder, .int .i64 leave, .int .i64 coins] 52)).drewN nq)) := hide (below_drewN ((Below.refl _ _).alloc (Nat.le_refl _) _) _)
    have HP1 : Hid (ParW w 4 on bidder leave coins ((w.alloc (.cells #[.int .i64 4, .int .i64 on, .int .i64 bidder, .int .i64 leave, .int .i64 coins] 52)).drewN nq)) := hide ⟨heap_alloc_new w _⟩
    have hcp := HP1.out.cell
    obtain ⟨p2, p3, p4⟩ := hcp
    obtain ⟨w1, hw1⟩ : ∃ w1, w1 = (w.alloc (.cells #[.int .i64 4, .int .i64 on, .int .i64 bidder, .int .i64 leave, .int .i64 coins] 52)).drewN nq := ⟨_, rfl⟩
    rw [← hw1] at HB1 HP1 p2 p3 p4
    have HD1 := hide (H0.out.below HB1.out)
    have d34 : w1.cell? ⟨w.heap.size, 0, none⟩ = some (.int .i64 4) := cell_of_row _ _ 0 _ _ (0, 0) HP1.out.blk
    have HSZ1 : Hid (w.heap.size < w1.heap.size) := hide (lt_of_block HP1.out.blk)
    clear c0 c1 c2 c3
    rw [← hw1]
    have HW1 := hide hw1
    clear hw1
    have HCO := hide (of_any B q v f bidder lo w1 HD1.out.bs (by have := HSL.out; have := HNN.out; omega))
    have HCF : Hid (∀ W : World, RefOf W B r u f lo → Calls Try.prog 33 #[.pointer (some ⟨r, 0, none⟩), .int .i64 bidder] W (IntPost (idxTo (isB bidder) lo) W)) := hide (fun W hr => reffind_any B r u f bidder lo W hr (by have := HSL.out; have := HNN.out; omega))
    obtain ⟨i, hie, hil⟩ := HI.out
    unfold ofV at HCO
    rw [hie] at HCO HCF
    rw [if_neg (by omega), Int.toNat_natCast] at HCO
    obtain ⟨x, hx⟩ : ∃ x, lo[i]? = some x := ⟨lo[i]'hil, List.getElem?_eq_getElem hil⟩
    have hcx : coinsAt lo i = x.2 := by unfold coinsAt; rw [hx]; rfl
    rw [hcx] at HCO
    obtain ⟨x1, x2⟩ := x
    have HX := hide hx
    have hi2 : decide ((i : Int) < 0) = false := by simp
    have hi3 : (i : Int) < (lo.length : Int) := by omega
    clear hie hx hcx HI
    go_wp2_with (first | (go_at_call 32; refine (HCO.out).mono ?_; rintro e w2 ⟨rfl, hb2⟩; have HD2 := hide (HD1.out.below hb2); have HP2 := hide (HP1.out.below hb2); have HB2 : Hid (Below w.heap.size w w2) := hide (HB1.out.trans (hb2.mono HB1.out.size)); have q2 := HP2.out.cell.1; clear hb2 p2) | (go_at_call 33; refine (HCF.out w2 HD2.out.rs).mono ?_; rintro e w3 ⟨rfl, hb3⟩; have HD3 := hide (HD2.out.below hb3); have HB3 : Hid (Below w.heap.size w w3) := hide (HB2.out.trans (hb3.mono HB2.out.size)); have hrr := HD3.out.rs; obtain ⟨A3, c3, hu3, _⟩ := own_sh hrr.row; simp only at hu3; subst hu3; obtain ⟨gb, go, rfl, hgb, hgc⟩ := (Bids.at_ (Reads.of_own hrr.row : Bids w3 w3.heap.size A3 lo)) (by omega); have k1 := hrr.cell 1; simp at k1; have k2 := (hgc i _ HX.out).2; simp only at k2; clear hb3 q2 hrr hgc))
    go_ret
    exact ⟨rfl, _, _, HD3.out, ⟨rfl, Nat.le_succ_of_le HSL.out⟩, ⟨HT.out, Nat.le_succ_of_le HTL.out⟩, HB3.out.mono HBB.out⟩

set_option maxRecDepth 100000 in
set_option maxHeartbeats 8000000 in
theorem step5 (B wp n : Nat) (b : Bool) (q : Nat) (v : Value) (r : Nat) (u : Value) (f : Int) (lo : List (Int × Int)) (t : Side) (on tt bidder leave coins : Int) (w : World) (h : Duo w B wp b ⟨q, v, r, u, f, lo, lo⟩ t) (hlo : lo.length ≤ n) (ht : t.lr = t.lo ∧ t.lo.length ≤ n) (hn : n ≤ 1000) (hB : B ≤ w.heap.size)
    (hon : on.tmod 2 = tt) (htt : tt = -1 ∧ b = true ∨ tt = 0 ∧ b = false ∨ tt = 1 ∧ b = true) :
    Calls Try.prog 12 #[.pointer (some ⟨wp, 0, none⟩), opV 5 on bidder leave coins] w (StepP B wp (n + 1) b w) := by
  have hlt := lt_of_block h.blk
  have c0 := fun ob : Obj => (World.cell?_alloc_lt w ob ⟨wp, 0, none⟩ hlt).trans (cell_of_row w wp 0 _ _ (0, 0) h.blk)
  have c1 := fun ob : Obj => (World.cell?_alloc_lt w ob ⟨wp, 1, none⟩ hlt).trans (cell_of_row w wp 1 _ _ (0, 0) h.blk)
  have c2 := fun ob : Obj => (World.cell?_alloc_lt w ob ⟨wp, 2, none⟩ hlt).trans (cell_of_row w wp 2 _ _ (0, 0) h.blk)
  have c3 := fun ob : Obj => (World.cell?_alloc_lt w ob ⟨wp, 3, none⟩ hlt).trans (cell_of_row w wp 3 _ _ (0, 0) h.blk)
  have H0 := hide h
  have HT := hide ht.1
  have HSL := hide hlo
  have HTL := hide ht.2
  have HFO : Hid (∀ k, Foot q v k → B ≤ k ∧ k < w.heap.size) := hide h.foot
  have HRO : Hid (r < w.heap.size ∧ B ≤ r) := hide ⟨lt_of_block h.rs.blk, h.rs.base⟩
  have HBB := hide hB
  have HNN := hide hn
  clear h hlo ht hB hlt hn
  simp only [opV]
  rcases htt with ⟨rfl, rfl⟩ | ⟨rfl, rfl⟩ | ⟨rfl, rfl⟩
  all_goals simp only [duoC, ptr, if_true, if_false, Bool.false_eq_true, List.getElem?_toArray, List.getElem?_cons_zero, List.getElem?_cons_succ] at c0 c1 c2 c3
  all_goals
    go_enter Try.func12, Try.ntmps12
    go_wp2_with fail
    go_quiet (fail)
    have HB1 : Hid (Below w.heap.size w ((w.alloc (.cells #[.int .i64 5, .int .i64 on, .int .i64 bidder, .int .i64 leave, .int .i64 coins] 52)).drewN nq)) := hide (below_drewN ((Below.refl _ _).alloc (Nat.le_refl _) _) _)
    have HP1 : Hid (ParW w 5 on bidder leave coins ((w.alloc (.cells #[.int .i64 5, .int .i64 on, .int .i64 bidder, .int .i64 leave, .int .i64 coins] 52)).drewN nq)) := hide ⟨heap_alloc_new w _⟩
    have hcp := HP1.out.cell
    obtain ⟨p2, p3, p4⟩ := hcp
    obtain ⟨w1, hw1⟩ : ∃ w1, w1 = (w.alloc (.cells #[.int .i64 5, .int .i64 on, .int .i64 bidder, .int .i64 leave, .int .i64 coins] 52)).drewN nq := ⟨_, rfl⟩
    rw [← hw1] at HB1 HP1 p2 p3 p4
    have HD1 := hide (H0.out.below HB1.out)
    have d34 : w1.cell? ⟨w.heap.size, 0, none⟩ = some (.int .i64 5) := cell_of_row _ _ 0 _ _ (0, 0) HP1.out.blk
    have HSZ1 : Hid (w.heap.size < w1.heap.size) := hide (lt_of_block HP1.out.blk)
    clear c0 c1 c2 c3
    rw [← hw1]
    have HW1 := hide hw1
    clear hw1
    go_wp2_with (go_at_call 15; refine (all_any _ _).mono ?_; rintro e _ ⟨rfl, rfl⟩)
    have HAa : Hid ((w1.alloc (.cells #[.pointer (some ⟨q, 0, none⟩)] 39)).drew.heap[w1.heap.size]? = some (.cells #[.pointer (some ⟨q, 0, none⟩)] 39 (0, 0))) := hide (heap_alloc_new w1 _)
    have HDd := hide (HD1.out.below (((Below.refl _ _).alloc (Nat.le_refl _) (.cells #[.pointer (some ⟨q, 0, none⟩)] 39)).drew))
    have HPd := hide (HP1.out.below (((Below.refl _ _).alloc (Nat.le_refl _) (.cells #[.pointer (some ⟨q, 0, none⟩)] 39)).drew))
    have HB1d := hide (HB1.out.trans ((((Below.refl _ w1).alloc (Nat.le_refl _) (.cells #[.pointer (some ⟨q, 0, none⟩)] 39)).drew).mono HB1.out.size))
    obtain ⟨A3, c3, hu3, _⟩ := own_sh HDd.out.rs.row
    simp only at hu3
    subst hu3
    have k1 := HDd.out.rs.cell 1
    simp at k1
    have hS := And.intro HPd.out.cell.2.1 k1
    have HGO : Hid (∀ (W : World) (lv : Int), GoF w w1.heap.size B q v r (.slice A3 lo.length c3) f lo leave W → Calls Try.prog 14 #[.func (.func 37) #[] #[.pointer (some ⟨w1.heap.size, 0, none⟩)], .slice A3 lo.length c3, .int .i64 lv] W (ValPost (.bool true) W)) := hide (fun W lv hf => goes_any lo (by have := HSL.out; have := HNN.out; omega) A3 c3 lv _ hf.1 hf.2.1 (Reads.of_own hf.2.2.1.row))
    have HF : Hid (GoF w w1.heap.size B q v r (.slice A3 lo.length c3) f lo leave _) := hide ⟨HAa.out, HDd.out.bs, HDd.out.rs, HPd.out.cell.2.1⟩
    have HDX := hide HDd.out
    have HBX := hide HB1d.out
    have HLT := hide (World.block_lt_of_cell? _ _ HPd.out.cell.2.1)
    go_region_held3 (fun w' => w'.cell? ⟨w.heap.size, 3, none⟩ = some (.int .i64 leave) ∧ w'.cell? ⟨r, 1, none⟩ = some (.slice A3 lo.length c3)) (first | exact hS | go_keep) (first | (go_at_call 14; refine (HGO.out _ _ HF.out).mono ?_; rintro e w4 ⟨rfl, hb4⟩; have HDY := hide (HDX.out.below hb4); have HBY := hide (HBX.out.trans (hb4.mono HBX.out.size)); have HFY := hide (HF.out.below hb4); clear HDX HBX HF hS hb4; have HDX := hide HDY.out; have HBX := hide HBY.out; have HF := hide HFY.out; clear HDY HBY HFY; have k9 := HF.out.2.2.1.cell 1; simp at k9; have hS := And.intro HF.out.2.2.2 k9; clear k9))
    go_wp2_with fail
    go_ret
    exact ⟨rfl, _, _, HDX.out, ⟨rfl, Nat.le_succ_of_le HSL.out⟩, ⟨HT.out, Nat.le_succ_of_le HTL.out⟩, HBX.out.mono HBB.out⟩

set_option maxRecDepth 100000 in
set_option maxHeartbeats 8000000 in
theorem step6 (B wp n : Nat) (b : Bool) (q : Nat) (v : Value) (r : Nat) (u : Value) (f : Int) (lo : List (Int × Int)) (t : Side) (on tt bidder leave coins : Int) (w : World) (h : Duo w B wp b ⟨q, v, r, u, f, lo, lo⟩ t) (hlo : lo.length ≤ n) (ht : t.lr = t.lo ∧ t.lo.length ≤ n) (hn : n ≤ 1000) (hB : B ≤ w.heap.size)
    (hon : on.tmod 2 = tt) (htt : tt = -1 ∧ b = true ∨ tt = 0 ∧ b = false ∨ tt = 1 ∧ b = true) :
    Calls Try.prog 12 #[.pointer (some ⟨wp, 0, none⟩), opV 6 on bidder leave coins] w (StepP B wp (n + 1) b w) := by
  have hlt := lt_of_block h.blk
  have c0 := fun ob : Obj => (World.cell?_alloc_lt w ob ⟨wp, 0, none⟩ hlt).trans (cell_of_row w wp 0 _ _ (0, 0) h.blk)
  have c1 := fun ob : Obj => (World.cell?_alloc_lt w ob ⟨wp, 1, none⟩ hlt).trans (cell_of_row w wp 1 _ _ (0, 0) h.blk)
  have c2 := fun ob : Obj => (World.cell?_alloc_lt w ob ⟨wp, 2, none⟩ hlt).trans (cell_of_row w wp 2 _ _ (0, 0) h.blk)
  have c3 := fun ob : Obj => (World.cell?_alloc_lt w ob ⟨wp, 3, none⟩ hlt).trans (cell_of_row w wp 3 _ _ (0, 0) h.blk)
  have H0 := hide h
  have HT := hide ht.1
  have HSL := hide hlo
  have HTL := hide ht.2
  have HFO : Hid (∀ k, Foot q v k → B ≤ k ∧ k < w.heap.size) := hide h.foot
  have HRO : Hid (r < w.heap.size ∧ B ≤ r) := hide ⟨lt_of_block h.rs.blk, h.rs.base⟩
  have HBB := hide hB
  have HNN := hide hn
  clear h hlo ht hB hlt hn
  simp only [opV]
  rcases htt with ⟨rfl, rfl⟩ | ⟨rfl, rfl⟩ | ⟨rfl, rfl⟩
  all_goals simp only [duoC, ptr, if_true, if_false, Bool.false_eq_true, List.getElem?_toArray, List.getElem?_cons_zero, List.getElem?_cons_succ] at c0 c1 c2 c3
  all_goals
    go_enter Try.func12, Try.ntmps12
    go_wp2_with fail
    go_quiet (fail)
    have HB1 : Hid (Below w.heap.size w ((w.alloc (.cells #[.int .i64 6, .int .i64 on, .int .i64 bidder, .int .i64 leave, .int .i64 coins] 52)).drewN nq)) := hide (below_drewN ((Below.refl _ _).alloc (Nat.le_refl _) _) _)
    have HP1 : Hid (ParW w 6 on bidder leave coins ((w.alloc (.cells #[.int .i64 6, .int .i64 on, .int .i64 bidder, .int .i64 leave, .int .i64 coins] 52)).drewN nq)) := hide ⟨heap_alloc_new w _⟩
    have hcp := HP1.out.cell
    obtain ⟨p2, p3, p4⟩ := hcp
    obtain ⟨w1, hw1⟩ : ∃ w1, w1 = (w.alloc (.cells #[.int .i64 6, .int .i64 on, .int .i64 bidder, .int .i64 leave, .int .i64 coins] 52)).drewN nq := ⟨_, rfl⟩
    rw [← hw1] at HB1 HP1 p2 p3 p4
    have HD1 := hide (H0.out.below HB1.out)
    have d34 : w1.cell? ⟨w.heap.size, 0, none⟩ = some (.int .i64 6) := cell_of_row _ _ 0 _ _ (0, 0) HP1.out.blk
    have HSZ1 : Hid (w.heap.size < w1.heap.size) := hide (lt_of_block HP1.out.blk)
    clear c0 c1 c2 c3
    rw [← hw1]
    have HW1 := hide hw1
    clear hw1
    have HCS := hide (boxsell_any B q v f lo w1 HD1.out.bs (by have := HSL.out; have := HNN.out; omega))
    have HCC : Hid (∀ (W : World) A c, Bids W W.heap.size A lo → Calls Try.prog 34 #[.int .i64 f, .slice A lo.length c] W (ValPost (soldV (comeI f lo)) W)) := hide (fun W A c hr => refcome_any f A c lo W hr (by have := HSL.out; have := HNN.out; omega))
    generalize comeI f lo = sd at *
    obtain ⟨s1, s2, s3, s4⟩ := sd
    simp only [pairV, soldV] at HCS HCC
    go_wp2_with (go_at_call 24; refine (HCS.out).mono ?_; rintro e w2 ⟨rfl, hb2⟩; have HD2 := hide (HD1.out.below hb2); have HP2 := hide (HP1.out.below hb2); have HB2 : Hid (Below w.heap.size w w2) := hide (HB1.out.trans (hb2.mono HB1.out.size)); clear hb2)
    have HBL : Hid (Below w2.heap.size w2 (w2.alloc (.cells #[.bool s1, .int .i64 s2, .int .i64 s3, .int .i64 s4] 27)).drew) := hide (((Below.refl _ _).alloc (Nat.le_refl _) _).drew)
    have hs3 : (w2.alloc (.cells #[.bool s1, .int .i64 s2, .int .i64 s3, .int .i64 s4] 27)).drew.heap[w2.heap.size]? = some (.cells #[.bool s1, .int .i64 s2, .int .i64 s3, .int .i64 s4] 27 (0, 0)) := heap_alloc_new w2 _
    have HD3 := hide (HD2.out.below HBL.out)
    obtain ⟨A3, c3, hu3, _⟩ := own_sh HD3.out.rs.row
    simp only at hu3
    subst hu3
    have k0 := HD3.out.rs.cell 0
    have k1 := HD3.out.rs.cell 1
    simp at k0 k1
    have z0 := cell_of_row _ w2.heap.size 0 _ _ (0, 0) hs3
    have z1 := cell_of_row _ w2.heap.size 1 _ _ (0, 0) hs3
    have z2 := cell_of_row _ w2.heap.size 2 _ _ (0, 0) hs3
    have z3 := cell_of_row _ w2.heap.size 3 _ _ (0, 0) hs3
    simp at z0 z1 z2 z3
    have HS3 := hide hs3
    clear hs3
    have hS0 := And.intro k0 (And.intro k1 (And.intro z0 (And.intro z1 (And.intro z2 z3))))
    go_region_held3 (fun w' => w'.cell? ⟨r, 0, none⟩ = some (.int .i64 f) ∧ w'.cell? ⟨r, 1, none⟩ = some (.slice A3 lo.length c3) ∧ w'.cell? ⟨w2.heap.size, 0, none⟩ = some (.bool s1) ∧ w'.cell? ⟨w2.heap.size, 1, none⟩ = some (.int .i64 s2) ∧ w'.cell? ⟨w2.heap.size, 2, none⟩ = some (.int .i64 s3) ∧ w'.cell? ⟨w2.heap.size, 3, none⟩ = some (.int .i64 s4)) (first | exact hS0 | exact hS4 | go_keep) (first | (go_at_call 8; refine (num_any _ _).mono ?_; rintro e _ ⟨rfl, rfl⟩) | (go_at_call 34; refine (HCC.out _ A3 c3 (Reads.of_own HD3.out.rs.row)).mono ?_; rintro e w4 ⟨rfl, hb4⟩; have HD4 := hide (HD3.out.below hb4); have j0 := HD4.out.rs.cell 0; have j1 := HD4.out.rs.cell 1; simp at j0 j1; have hs4 := (hb4.block _ (lt_of_block HS3.out)).trans HS3.out; have x0 := cell_of_row _ w2.heap.size 0 _ _ (0, 0) hs4; have x1 := cell_of_row _ w2.heap.size 1 _ _ (0, 0) hs4; have x2 := cell_of_row _ w2.heap.size 2 _ _ (0, 0) hs4; have x3 := cell_of_row _ w2.heap.size 3 _ _ (0, 0) hs4; simp at x0 x1 x2 x3; have hS4 := And.intro j0 (And.intro j1 (And.intro x0 (And.intro x1 (And.intro x2 x3)))); have HB4 : Hid (Below w.heap.size w w4) := hide ((HB2.out.trans (HBL.out.mono HB2.out.size)).trans (hb4.mono (Nat.le_trans HB2.out.size HBL.out.size))); clear hb4 hs4 j0 j1 x0 x1 x2 x3 hS0))
    go_wp2_with fail
    go_ret
    exact ⟨rfl, _, _, HD4.out, ⟨rfl, Nat.le_succ_of_le HSL.out⟩, ⟨HT.out, Nat.le_succ_of_le HTL.out⟩, HB4.out.mono HBB.out⟩

set_option maxRecDepth 100000 in
set_option maxHeartbeats 8000000 in
theorem stepO (B wp n : Nat) (b : Bool) (q : Nat) (v : Value) (r : Nat) (u : Value) (f : Int) (lo : List (Int × Int)) (t : Side) (kind on tt bidder leave coins : Int) (w : World) (h : Duo w B wp b ⟨q, v, r, u, f, lo, lo⟩ t) (hlo : lo.length ≤ n) (ht : t.lr = t.lo ∧ t.lo.length ≤ n) (hn : n ≤ 1000) (hB : B ≤ w.heap.size)
    (hon : on.tmod 2 = tt) (htt : tt = -1 ∧ b = true ∨ tt = 0 ∧ b = false ∨ tt = 1 ∧ b = true) (h0 : (kind == 0) = false) (h1 : (kind == 1) = false) (h2 : (kind == 2) = false) (h3 : (kind == 3) = false) (h4 : (kind == 4) = false) (h5 : (kind == 5) = false) (h6 : (kind == 6) = false) (h7 : (kind == 7) = false) :
    Calls Try.prog 12 #[.pointer (some ⟨wp, 0, none⟩), opV kind on bidder leave coins] w (StepP B wp (n + 1) b w) := by
  have hlt := lt_of_block h.blk
  have c0 := fun ob : Obj => (World.cell?_alloc_lt w ob ⟨wp, 0, none⟩ hlt).trans (cell_of_row w wp 0 _ _ (0, 0) h.blk)
  have c1 := fun ob : Obj => (World.cell?_alloc_lt w ob ⟨wp, 1, none⟩ hlt).trans (cell_of_row w wp 1 _ _ (0, 0) h.blk)
  have c2 := fun ob : Obj => (World.cell?_alloc_lt w ob ⟨wp, 2, none⟩ hlt).trans (cell_of_row w wp 2 _ _ (0, 0) h.blk)
  have c3 := fun ob : Obj => (World.cell?_alloc_lt w ob ⟨wp, 3, none⟩ hlt).trans (cell_of_row w wp 3 _ _ (0, 0) h.blk)
  have H0 := hide h
  have HT := hide ht.1
  have HSL := hide hlo
  have HTL := hide ht.2
  have HFO : Hid (∀ k, Foot q v k → B ≤ k ∧ k < w.heap.size) := hide h.foot
  have HRO : Hid (r < w.heap.size ∧ B ≤ r) := hide ⟨lt_of_block h.rs.blk, h.rs.base⟩
  have HBB := hide hB
  have HNN := hide hn
  clear h hlo ht hB hlt hn
  simp only [opV]
  rcases htt with ⟨rfl, rfl⟩ | ⟨rfl, rfl⟩ | ⟨rfl, rfl⟩
  all_goals simp only [duoC, ptr, if_true, if_false, Bool.false_eq_true, List.getElem?_toArray, List.getElem?_cons_zero, List.getElem?_cons_succ] at c0 c1 c2 c3
  all_goals
    go_enter Try.func12, Try.ntmps12
    go_wp2_with fail
    go_quiet (fail)
    have HB1 : Hid (Below w.heap.size w ((w.alloc (.cells #[.int .i64 kind, .int .i64 on, .int .i64 bidder, .int .i64 leave, .int .i64 coins] 52)).drewN nq)) := hide (below_drewN ((Below.refl _ _).alloc (Nat.le_refl _) _) _)
    have HP1 : Hid (ParW w kind on bidder leave coins ((w.alloc (.cells #[.int .i64 kind, .int .i64 on, .int .i64 bidder, .int .i64 leave, .int .i64 coins] 52)).drewN nq)) := hide ⟨heap_alloc_new w _⟩
    have hcp := HP1.out.cell
    obtain ⟨p2, p3, p4⟩ := hcp
    obtain ⟨w1, hw1⟩ : ∃ w1, w1 = (w.alloc (.cells #[.int .i64 kind, .int .i64 on, .int .i64 bidder, .int .i64 leave, .int .i64 coins] 52)).drewN nq := ⟨_, rfl⟩
    rw [← hw1] at HB1 HP1 p2 p3 p4
    have HD1 := hide (H0.out.below HB1.out)
    have d34 : w1.cell? ⟨w.heap.size, 0, none⟩ = some (.int .i64 kind) := cell_of_row _ _ 0 _ _ (0, 0) HP1.out.blk
    have HSZ1 : Hid (w.heap.size < w1.heap.size) := hide (lt_of_block HP1.out.blk)
    clear c0 c1 c2 c3
    rw [← hw1]
    have HW1 := hide hw1
    clear hw1
    go_wp2_with fail
    go_ret
    exact ⟨rfl, _, _, HD1.out, ⟨rfl, Nat.le_succ_of_le HSL.out⟩, ⟨HT.out, Nat.le_succ_of_le HTL.out⟩, HB1.out.mono HBB.out⟩

end Go.Proofs.Ytnidmoljhopcoaa
