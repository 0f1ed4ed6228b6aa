/- The walks of gavellaw11.step: one call on one of two boxes. -/
import Derived.Test.YtnidmoljhopcoaaDuo
namespace Go.Proofs.Ytnidmoljhopcoaa
open Go.RowKit

def StepP (B wp n : Nat) (b : Bool) (w : World) (e : Ending) (w' : World) : Prop := e = .returned (.bool true) ∧ ∃ s t, Duo w' B wp b s t ∧ (s.lr = s.lo ∧ s.lo.length ≤ n) ∧ (t.lr = t.lo ∧ t.lo.length ≤ n) ∧ Below B w w'
def opV (kind on bidder leave coins : Int) : Value := .agg #[.int .i64 kind, .int .i64 on, .int .i64 bidder, .int .i64 leave, .int .i64 coins]
theorem Duo.foot {w : World} {B wp : Nat} {b : Bool} {s t : Side} (h : Duo w B wp b s t) : ∀ k, Foot s.q s.v k → B ≤ k ∧ k < w.heap.size := by
  rintro k (rfl | e)
  · exact ⟨h.bs.base, lt_of_block h.bs.blk⟩
  · exact h.bs.row.lt k e
/-- What the call's own record holds. -/
structure ParW (w : World) (kind on bidder leave coins : Int) (W : World) : Prop where
  blk : W.heap[w.heap.size]? = some (.cells #[.int .i64 kind, .int .i64 on, .int .i64 bidder, .int .i64 leave, .int .i64 coins] 52 (0, 0))
section
variable {w W W' : World} {kind on bidder leave coins : Int}
theorem ParW.cell (h : ParW w kind on bidder leave coins W) : W.cell? ⟨w.heap.size, 2, none⟩ = some (.int .i64 bidder) ∧ W.cell? ⟨w.heap.size, 3, none⟩ = some (.int .i64 leave) ∧ W.cell? ⟨w.heap.size, 4, none⟩ = some (.int .i64 coins) :=
  ⟨cell_of_row W _ 2 _ _ (0, 0) h.blk, cell_of_row W _ 3 _ _ (0, 0) h.blk, cell_of_row W _ 4 _ _ (0, 0) h.blk⟩
theorem ParW.turns {p : Nat → Prop} (h : ParW w kind on bidder leave coins W) (ht : Turns p W W') (hp : ¬ p w.heap.size) : ParW w kind on bidder leave coins W' := ⟨(ht.block _ (lt_of_block h.blk) hp).trans h.blk⟩
theorem ParW.below (h : ParW w kind on bidder leave coins W) (hb : Below W.heap.size W W') : ParW w kind on bidder leave coins W' := ⟨(hb.block _ (lt_of_block h.blk)).trans h.blk⟩
end

set_option maxRecDepth 100000 in
set_option maxHeartbeats 8000000 in
theorem step3 (B wp n : Nat) (b : Bool) (q : Nat) (v : Value) (r : Nat) (u : Value) (f : Int) (lo : List (Int × Int)) (t : Side) (on tt bidder leave coins : Int) (w : World) (h : Duo w B wp b ⟨q, v, r, u, f, lo, lo⟩ t) (hlo : lo.length ≤ n) (ht : t.lr = t.lo ∧ t.lo.length ≤ n) (hn : n ≤ 1000) (hB : B ≤ w.heap.size)
    (hon : on.tmod 2 = tt) (htt : tt = -1 ∧ b = true ∨ tt = 0 ∧ b = false ∨ tt = 1 ∧ b = true) :
    Calls Try.prog 12 #[.pointer (some ⟨wp, 0, none⟩), opV 3 on bidder leave coins] w (StepP B wp (n + 1) b w) := by
  have hlt := lt_of_block h.blk
  have c0 := fun ob : Obj => (World.cell?_alloc_lt w ob ⟨wp, 0, none⟩ hlt).trans (cell_of_row w wp 0 _ _ (0, 0) h.blk)
  have c1 := fun ob : Obj => (World.cell?_alloc_lt w ob ⟨wp, 1, none⟩ hlt).trans (cell_of_row w wp 1 _ _ (0, 0) h.blk)
  have c2 := fun ob : Obj => (World.cell?_alloc_lt w ob ⟨wp, 2, none⟩ hlt).trans (cell_of_row w wp 2 _ _ (0, 0) h.blk)
  have c3 := fun ob : Obj => (World.cell?_alloc_lt w ob ⟨wp, 3, none⟩ hlt).trans (cell_of_row w wp 3 _ _ (0, 0) h.blk)
  have H0 := hide h
  have HT := hide ht.1
  have HSL := hide hlo
  have HTL := hide ht.2
  have HFO : Hid (∀ k, Foot q v k → B ≤ k ∧ k < w.heap.size) := hide h.foot
  have HRO : Hid (r < w.heap.size ∧ B ≤ r) := hide ⟨lt_of_block h.rs.blk, h.rs.base⟩
  have HBB := hide hB
  have HNN := hide hn
  clear h hlo ht hB hlt hn
  simp only [opV]
  rcases htt with ⟨rfl, rfl⟩ | ⟨rfl, rfl⟩ | ⟨rfl, rfl⟩
  all_goals simp only [duoC, ptr, if_true, if_false, Bool.false_eq_true, List.getElem?_toArray, List.getElem?_cons_zero, List.getElem?_cons_succ] at c0 c1 c2 c3
  all_goals
    go_enter Try.func12, Try.ntmps12
    go_wp2_with fail
    go_quiet (fail)
    have HB1 : Hid (Below w.heap.size w ((w.alloc (.cells #[.int .i64 3, .int .i64 on, .int .i64 bidder, .int .i64 leave, .int .i64 coins] 52)).drewN nq)) := hide (below_drewN ((Below.refl _ _).alloc (Nat.le_refl _) _) _)
    have HP1 : Hid (ParW w 3 on bidder leave coins ((w.alloc (.cells #[.int .i64 3, .int .i64 on, .int .i64 bidder, .int .i64 leave, .int .i64 coins] 52)).drewN nq)) := hide ⟨heap_alloc_new w _⟩
    have hcp := HP1.out.cell
    obtain ⟨p2, p3, p4⟩ := hcp
    obtain ⟨w1, hw1⟩ : ∃ w1, w1 = (w.alloc (.cells #[.int .i64 3, .int .i64 on, .int .i64 bidder, .int .i64 leave, .int .i64 coins] 52)).drewN nq := ⟨_, rfl⟩
    rw [← hw1] at HB1 HP1 p2 p3 p4
    have HD1 := hide (H0.out.below HB1.out)
    have d34 : w1.cell? ⟨w.heap.size, 0, none⟩ = some (.int .i64 3) := cell_of_row _ _ 0 _ _ (0, 0) HP1.out.blk
    have HSZ1 : Hid (w.heap.size < w1.heap.size) := hide (lt_of_block HP1.out.blk)
    clear c0 c1 c2 c3
    rw [← hw1]
    have HW1 := hide hw1
    clear hw1
    have HDd := hide (HD1.out.below ((Below.refl _ _).drew))
    have HPd := hide (HP1.out.below ((Below.refl _ _).drew))
    have HB1d := hide (HB1.out.drew)
    have HC1 := hide (drop_any B q v f bidder lo w1.drew HDd.out.bs (by have := HB1.out.size; have := HBB.out; show B ≤ w1.heap.size; omega) (by have := HSL.out; have := HNN.out; omega))
    have HC2 : Hid (∀ (W : World) u', RefOf W B r u' f lo → w.heap.size ≤ W.heap.size → Calls Try.prog 31 #[.pointer (some ⟨r, 0, none⟩), .int .i64 bidder] W (RefP B r u' f (dropL bidder lo) (dropC bidder lo) W)) := hide (fun W u' hr hz => refdrop_any B r u' f bidder lo W hr (by have := HBB.out; omega) (by have := HSL.out; have := HNN.out; omega))
    have HLL := hide (dropL_len bidder lo)
    generalize dropC bidder lo = cd at *
    generalize dropL bidder lo = l2 at *
    go_wp2_with fail
    have hS := p2
    go_region_held3 (fun w' => w'.cell? ⟨w.heap.size, 2, none⟩ = some (.int .i64 bidder)) (first | exact hS | exact hS2 | exact hS3 | go_keep) (first | (go_at_call 30; refine (HC1.out).mono ?_; rintro e w2 ⟨rfl, v2, hbx2, ht2, hv2⟩; have HD2 := hide (HDd.out.own1 hbx2 ht2 hv2); have HP2 := hide (HPd.out.turns ht2 (fun e => by have := (HFO.out _ e).2; omega)); have hS2 := HP2.out.cell.1; have HB2 : Hid (Below B w w2) := hide ((HB1d.out.mono HBB.out).trans (ht2.below (by have := HB1d.out.size; have := HBB.out; omega) (fun k hk e => by have := (HFO.out _ e).1; omega))); have HZ2 : Hid (w.heap.size ≤ w2.heap.size) := hide (by have := HB1d.out.size; have := ht2.size; omega); clear hbx2 ht2 hv2 hS) | (go_at_call 8; refine (num_any _ _).mono ?_; rintro e _ ⟨rfl, rfl⟩) | (go_at_call 31; refine (HC2.out w2 u HD2.out.rs HZ2.out).mono ?_; rintro e w3 ⟨rfl, u3, hrx3, ht3, hu3⟩; have HD3 := hide (HD2.out.ref1 hrx3 ht3 hu3); have HP3 := hide (HP2.out.turns ht3 (fun e => by have := HRO.out.1; omega)); have hS3 := HP3.out.cell.1; have HB3 : Hid (Below B w w3) := hide (HB2.out.trans (ht3.below (by have := HZ2.out; have := HBB.out; omega) (fun k hk e => by have := HRO.out.2; omega))); clear hrx3 ht3 hu3 hS2))
    go_wp2_with fail
    go_ret
    exact ⟨rfl, _, _, HD3.out, ⟨rfl, by have := HSL.out; have := HLL.out; show l2.length ≤ n + 1; omega⟩, ⟨HT.out, Nat.le_succ_of_le HTL.out⟩, HB3.out⟩

set_option maxRecDepth 100000 in
set_option maxHeartbeats 8000000 in
theorem step0 (B wp n : Nat) (b : Bool) (q : Nat) (v : Value) (r : Nat) (u : Value) (f : Int) (lo : List (Int × Int)) (t : Side) (on tt bidder leave coins : Int) (w : World) (h : Duo w B wp b ⟨q, v, r, u, f, lo, lo⟩ t) (hlo : lo.length ≤ n) (ht : t.lr = t.lo ∧ t.lo.length ≤ n) (hn : n ≤ 1000) (hB : B ≤ w.heap.size)
    (hon : on.tmod 2 = tt) (htt : tt = -1 ∧ b = true ∨ tt = 0 ∧ b = false ∨ tt = 1 ∧ b = true) :
    Calls Try.prog 12 #[.pointer (some ⟨wp, 0, none⟩), opV 0 on bidder leave coins] w (StepP B wp (n + 1) b w) := by
  have hlt := lt_of_block h.blk
  have c0 := fun ob : Obj => (World.cell?_alloc_lt w ob ⟨wp, 0, none⟩ hlt).trans (cell_of_row w wp 0 _ _ (0, 0) h.blk)
  have c1 := fun ob : Obj => (World.cell?_alloc_lt w ob ⟨wp, 1, none⟩ hlt).trans (cell_of_row w wp 1 _ _ (0, 0) h.blk)
  have c2 := fun ob : Obj => (World.cell?_alloc_lt w ob ⟨wp, 2, none⟩ hlt).trans (cell_of_row w wp 2 _ _ (0, 0) h.blk)
  have c3 := fun ob : Obj => (World.cell?_alloc_lt w ob ⟨wp, 3, none⟩ hlt).trans (cell_of_row w wp 3 _ _ (0, 0) h.blk)
  have H0 := hide h
  have HT := hide ht.1
  have HSL := hide hlo
  have HTL := hide ht.2
  have HFO : Hid (∀ k, Foot q v k → B ≤ k ∧ k < w.heap.size) := hide h.foot
  have HRO : Hid (r < w.heap.size ∧ B ≤ r) := hide ⟨lt_of_block h.rs.blk, h.rs.base⟩
  have HBB := hide hB
  have HNN := hide hn
  clear h hlo ht hB hlt hn
  simp only [opV]
  rcases htt with ⟨rfl, rfl⟩ | ⟨rfl, rfl⟩ | ⟨rfl, rfl⟩
  all_goals simp only [duoC, ptr, if_true, if_false, Bool.false_eq_true, List.getElem?_toArray, List.getElem?_cons_zero, List.getElem?_cons_succ] at c0 c1 c2 c3
  all_goals
    go_enter Try.func12, Try.ntmps12
    go_wp2_with fail
    go_quiet (fail)
    have HB1 : Hid (Below w.heap.size w ((w.alloc (.cells #[.int .i64 0, .int .i64 on, .int .i64 bidder, .int .i64 leave, .int .i64 coins] 52)).drewN nq)) := hide (below_drewN ((Below.refl _ _).alloc (Nat.le_refl _) _) _)
    have HP1 : Hid (ParW w 0 on bidder leave coins ((w.alloc (.cells #[.int .i64 0, .int .i64 on, .int .i64 bidder, .int .i64 leave, .int .i64 coins] 52)).drewN nq)) := hide ⟨heap_alloc_new w _⟩
    have hcp := HP1.out.cell
    obtain ⟨p2, p3, p4⟩ := hcp
    obtain ⟨w1, hw1⟩ : ∃ w1, w1 = (w.alloc (.cells #[.int .i64 0, .int .i64 on, .int .i64 bidder, .int .i64 leave, .int .i64 coins] 52)).drewN nq := ⟨_, rfl⟩
    rw [← hw1] at HB1 HP1 p2 p3 p4
    have HD1 := hide (H0.out.below HB1.out)
    have d34 : w1.cell? ⟨w.heap.size, 0, none⟩ = some (.int .i64 0) := cell_of_row _ _ 0 _ _ (0, 0) HP1.out.blk
    have HSZ1 : Hid (w.heap.size < w1.heap.size) := hide (lt_of_block HP1.out.blk)
    clear c0 c1 c2 c3
    rw [← hw1]
    have HW1 := hide hw1
    clear hw1
    have HLL := hide (bidL_len f bidder coins lo)
    have HC1 : Hid (∀ W : World, BoxOf W B q v f lo → w.heap.size ≤ W.heap.size → Calls Try.prog 23 #[.pointer (some ⟨q, 0, none⟩), .int .i64 bidder, .int .i64 coins] W (OpP B q v f (bidL f bidder coins lo) (bidC f bidder coins) W)) := hide (fun W hb hz => bid_any B q v f bidder coins lo W hb (by have := HBB.out; omega) (by have := HSL.out; have := HNN.out; omega))
    have HC2 : Hid (∀ (W : World) u', RefOf W B r u' f lo → w.heap.size ≤ W.heap.size → Calls Try.prog 29 #[.pointer (some ⟨r, 0, none⟩), .int .i64 bidder, .int .i64 coins] W (RefP B r u' f (bidL f bidder coins lo) (bidC f bidder coins) W)) := hide (fun W u' hr hz => refbid_any B r u' f bidder coins lo W hr (by have := HBB.out; omega) (by have := HSL.out; have := HNN.out; omega))
    generalize bidC f bidder coins = cd at *
    generalize bidL f bidder coins lo = l2 at *
    go_wp2_with (go_at_call 15; refine (all_any _ _).mono ?_; rintro e _ ⟨rfl, rfl⟩)
    have HAa : Hid ((w1.alloc (.cells #[.pointer (some ⟨q, 0, none⟩)] 39)).drew.heap[w1.heap.size]? = some (.cells #[.pointer (some ⟨q, 0, none⟩)] 39 (0, 0))) := hide (heap_alloc_new w1 _)
    have HDd := hide (HD1.out.below (((Below.refl _ _).alloc (Nat.le_refl _) (.cells #[.pointer (some ⟨q, 0, none⟩)] 39)).drew))
    have HPd := hide (HP1.out.below (((Below.refl _ _).alloc (Nat.le_refl _) (.cells #[.pointer (some ⟨q, 0, none⟩)] 39)).drew))
    have HB1d := hide (HB1.out.trans ((((Below.refl _ w1).alloc (Nat.le_refl _) (.cells #[.pointer (some ⟨q, 0, none⟩)] 39)).drew).mono HB1.out.size))
    have hS0 := And.intro HPd.out.cell.1 HPd.out.cell.2.2
    go_region_held3 (fun w' => w'.cell? ⟨w.heap.size, 2, none⟩ = some (.int .i64 bidder) ∧ w'.cell? ⟨w.heap.size, 4, none⟩ = some (.int .i64 coins)) (first | exact hS0 | exact hS2 | exact hS3 | exact hS4 | go_keep) (first | (go_at_call 23; refine (HC1.out _ HDd.out.bs HB1d.out.size).mono ?_; rintro e w2 ⟨rfl, v2, hbx2, ht2, hv2⟩; have HD2 := hide (HDd.out.own1 hbx2 ht2 hv2); have HP2 := hide (HPd.out.turns ht2 (fun e => by have := (HFO.out _ e).2; omega)); have hS2 := And.intro HP2.out.cell.1 HP2.out.cell.2.2; have HA2 := hide ((ht2.block _ (lt_of_block HAa.out) (fun e => by have := (HFO.out _ e).2; have := HSZ1.out; omega)).trans HAa.out); have HB2 : Hid (Below B w w2) := hide ((HB1d.out.mono HBB.out).trans (ht2.below (by have := HB1d.out.size; have := HBB.out; omega) (fun k hk e => by have := (HFO.out _ e).1; omega))); have HZ2 : Hid (w.heap.size ≤ w2.heap.size) := hide (by have := HB1d.out.size; have := ht2.size; omega); clear hbx2 ht2 hv2 hS0) | (go_at_call 8; refine (num_any _ _).mono ?_; rintro e _ ⟨rfl, rfl⟩) | (go_at_call 29; refine (HC2.out w2 u HD2.out.rs HZ2.out).mono ?_; rintro e w3 ⟨rfl, u3, hrx3, ht3, hu3⟩; obtain ⟨A3, c3, rfl, _⟩ := own_sh hrx3.row; have HD3 := hide (HD2.out.ref1 hrx3 ht3 hu3); have HP3 := hide (HP2.out.turns ht3 (fun e => by have := HRO.out.1; omega)); have hS3 := And.intro HP3.out.cell.1 HP3.out.cell.2.2; have k1 := hrx3.cell 1; simp at k1; have HA3 := hide ((ht3.block _ (lt_of_block HA2.out) (fun e => by have := HRO.out.1; have := HSZ1.out; omega)).trans HA2.out); have HB3 : Hid (Below B w w3) := hide (HB2.out.trans (ht3.below (by have := HZ2.out; have := HBB.out; omega) (fun k hk e => by have := HRO.out.2; omega))); have HZ3 : Hid (w.heap.size ≤ w3.heap.size) := hide (by have := HZ2.out; have := ht3.size; omega); clear hrx3 ht3 hu3 hS2) | (go_at_call 14; refine (goes_any l2 (by have := HSL.out; have := HNN.out; have := HLL.out; omega) A3 c3 0 w3 HA3.out HD3.out.bs (Reads.of_own HD3.out.rs.row)).mono ?_; rintro e w4 ⟨rfl, hb4⟩; have HD4 := hide (HD3.out.below hb4); have HP4 := hide (HP3.out.below hb4); have hS4 := And.intro HP4.out.cell.1 HP4.out.cell.2.2; have HB4 : Hid (Below B w w4) := hide (HB3.out.trans (hb4.mono (by have := HZ3.out; have := HBB.out; omega))); clear hb4 hS3 k1))
    go_wp2_with fail
    go_ret
    exact ⟨rfl, _, _, HD4.out, ⟨rfl, by have := HSL.out; have := HLL.out; show l2.length ≤ n + 1; omega⟩, ⟨HT.out, Nat.le_succ_of_le HTL.out⟩, HB4.out⟩

set_option maxRecDepth 100000 in
set_option maxHeartbeats 8000000 in
theorem step1 (B wp n : Nat) (b : Bool) (q : Nat) (v : Value) (r : Nat) (u : Value) (f : Int) (lo : List (Int × Int)) (t : Side) (on tt bidder leave coins : Int) (w : World) (h : Duo w B wp b ⟨q, v, r, u, f, lo, lo⟩ t) (hlo : lo.length ≤ n) (ht : t.lr = t.lo ∧ t.lo.length ≤ n) (hn : n ≤ 1000) (hB : B ≤ w.heap.size)
    (hon : on.tmod 2 = tt) (htt : tt = -1 ∧ b = true ∨ tt = 0 ∧ b = false ∨ tt = 1 ∧ b = true) :
    Calls Try.prog 12 #[.pointer (some ⟨wp, 0, none⟩), opV 1 on bidder leave coins] w (StepP B wp (n + 1) b w) := by
  have hlt := lt_of_block h.blk
  have c0 := fun ob : Obj => (World.cell?_alloc_lt w ob ⟨wp, 0, none⟩ hlt).trans (cell_of_row w wp 0 _ _ (0, 0) h.blk)
  have c1 := fun ob : Obj => (World.cell?_alloc_lt w ob ⟨wp, 1, none⟩ hlt).trans (cell_of_row w wp 1 _ _ (0, 0) h.blk)
  have c2 := fun ob : Obj => (World.cell?_alloc_lt w ob ⟨wp, 2, none⟩ hlt).trans (cell_of_row w wp 2 _ _ (0, 0) h.blk)
  have c3 := fun ob : Obj => (World.cell?_alloc_lt w ob ⟨wp, 3, none⟩ hlt).trans (cell_of_row w wp 3 _ _ (0, 0) h.blk)
  have H0 := hide h
  have HT := hide ht.1
  have HSL := hide hlo
  have HTL := hide ht.2
  have HFO : Hid (∀ k, Foot q v k → B ≤ k ∧ k < w.heap.size) := hide h.foot
  have HRO : Hid (r < w.heap.size ∧ B ≤ r) := hide ⟨lt_of_block h.rs.blk, h.rs.base⟩
  have HBB := hide hB
  have HNN := hide hn
  clear h hlo ht hB hlt hn
  simp only [opV]
  rcases htt with ⟨rfl, rfl⟩ | ⟨rfl, rfl⟩ | ⟨rfl, rfl⟩
  all_goals simp only [duoC, ptr, if_true, if_false, Bool.false_eq_true, List.getElem?_toArray, List.getElem?_cons_zero, List.getElem?_cons_succ] at c0 c1 c2 c3
  all_goals
    go_enter Try.func12, Try.ntmps12
    go_wp2_with fail
    go_quiet (fail)
    have HB1 : Hid (Below w.heap.size w ((w.alloc (.cells #[.int .i64 1, .int .i64 on, .int .i64 bidder, .int .i64 leave, .int .i64 coins] 52)).drewN nq)) := hide (below_drewN ((Below.refl _ _).alloc (Nat.le_refl _) _) _)
    have HP1 : Hid (ParW w 1 on bidder leave coins ((w.alloc (.cells #[.int .i64 1, .int .i64 on, .int .i64 bidder, .int .i64 leave, .int .i64 coins] 52)).drewN nq)) := hide ⟨heap_alloc_new w _⟩
    have hcp := HP1.out.cell
    obtain ⟨p2, p3, p4⟩ := hcp
    obtain ⟨w1, hw1⟩ : ∃ w1, w1 = (w.alloc (.cells #[.int .i64 1, .int .i64 on, .int .i64 bidder, .int .i64 leave, .int .i64 coins] 52)).drewN nq := ⟨_, rfl⟩
    rw [← hw1] at HB1 HP1 p2 p3 p4
    have HD1 := hide (H0.out.below HB1.out)
    have d34 : w1.cell? ⟨w.heap.size, 0, none⟩ = some (.int .i64 1) := cell_of_row _ _ 0 _ _ (0, 0) HP1.out.blk
    have HSZ1 : Hid (w.heap.size < w1.heap.size) := hide (lt_of_block HP1.out.blk)
    clear c0 c1 c2 c3
    rw [← hw1]
    have HW1 := hide hw1
    clear hw1
    have HLL := hide (bidL_len f bidder coins lo)
    have HC1 : Hid (∀ W : World, BoxOf W B q v f lo → w.heap.size ≤ W.heap.size → Calls Try.prog 23 #[.pointer (some ⟨q, 0, none⟩), .int .i64 bidder, .int .i64 coins] W (OpP B q v f (bidL f bidder coins lo) (bidC f bidder coins) W)) := hide (fun W hb hz => bid_any B q v f bidder coins lo W hb (by have := HBB.out; omega) (by have := HSL.out; have := HNN.out; omega))
    have HC2 : Hid (∀ (W : World) u', RefOf W B r u' f lo → w.heap.size ≤ W.heap.size → Calls Try.prog 29 #[.pointer (some ⟨r, 0, none⟩), .int .i64 bidder, .int .i64 coins] W (RefP B r u' f (bidL f bidder coins lo) (bidC f bidder coins) W)) := hide (fun W u' hr hz => refbid_any B r u' f bidder coins lo W hr (by have := HBB.out; omega) (by have := HSL.out; have := HNN.out; omega))
    generalize bidC f bidder coins = cd at *
    generalize bidL f bidder coins lo = l2 at *
    go_wp2_with (go_at_call 15; refine (all_any _ _).mono ?_; rintro e _ ⟨rfl, rfl⟩)
    have HAa : Hid ((w1.alloc (.cells #[.pointer (some ⟨q, 0, none⟩)] 39)).drew.heap[w1.heap.size]? = some (.cells #[.pointer (some ⟨q, 0, none⟩)] 39 (0, 0))) := hide (heap_alloc_new w1 _)
    have HDd := hide (HD1.out.below (((Below.refl _ _).alloc (Nat.le_refl _) (.cells #[.pointer (some ⟨q, 0, none⟩)] 39)).drew))
    have HPd := hide (HP1.out.below (((Below.refl _ _).alloc (Nat.le_refl _) (.cells #[.pointer (some ⟨q, 0, none⟩)] 39)).drew))
    have HB1d := hide (HB1.out.trans ((((Below.refl _ w1).alloc (Nat.le_refl _) (.cells #[.pointer (some ⟨q, 0, none⟩)] 39)).drew).mono HB1.out.size))
    have hS0 := And.intro HPd.out.cell.1 HPd.out.cell.2.2
    go_region_held3 (fun w' => w'.cell? ⟨w.heap.size, 2, none⟩ = some (.int .i64 bidder) ∧ w'.cell? ⟨w.heap.size, 4, none⟩ = some (.int .i64 coins)) (first | exact hS0 | exact hS2 | exact hS3 | exact hS4 | go_keep) (first | (go_at_call 23; refine (HC1.out _ HDd.out.bs HB1d.out.size).mono ?_; rintro e w2 ⟨rfl, v2, hbx2, ht2, hv2⟩; have HD2 := hide (HDd.out.own1 hbx2 ht2 hv2); have HP2 := hide (HPd.out.turns ht2 (fun e => by have := (HFO.out _ e).2; omega)); have hS2 := And.intro HP2.out.cell.1 HP2.out.cell.2.2; have HA2 := hide ((ht2.block _ (lt_of_block HAa.out) (fun e => by have := (HFO.out _ e).2; have := HSZ1.out; omega)).trans HAa.out); have HB2 : Hid (Below B w w2) := hide ((HB1d.out.mono HBB.out).trans (ht2.below (by have := HB1d.out.size; have := HBB.out; omega) (fun k hk e => by have := (HFO.out _ e).1; omega))); have HZ2 : Hid (w.heap.size ≤ w2.heap.size) := hide (by have := HB1d.out.size; have := ht2.size; omega); clear hbx2 ht2 hv2 hS0) | (go_at_call 8; refine (num_any _ _).mono ?_; rintro e _ ⟨rfl, rfl⟩) | (go_at_call 29; refine (HC2.out w2 u HD2.out.rs HZ2.out).mono ?_; rintro e w3 ⟨rfl, u3, hrx3, ht3, hu3⟩; obtain ⟨A3, c3, rfl, _⟩ := own_sh hrx3.row; have HD3 := hide (HD2.out.ref1 hrx3 ht3 hu3); have HP3 := hide (HP2.out.turns ht3 (fun e => by have := HRO.out.1; omega)); have hS3 := And.intro HP3.out.cell.1 HP3.out.cell.2.2; have k1 := hrx3.cell 1; simp at k1; have HA3 := hide ((ht3.block _ (lt_of_block HA2.out) (fun e => by have := HRO.out.1; have := HSZ1.out; omega)).trans HA2.out); have HB3 : Hid (Below B w w3) := hide (HB2.out.trans (ht3.below (by have := HZ2.out; have := HBB.out; omega) (fun k hk e => by have := HRO.out.2; omega))); have HZ3 : Hid (w.heap.size ≤ w3.heap.size) := hide (by have := HZ2.out; have := ht3.size; omega); clear hrx3 ht3 hu3 hS2) | (go_at_call 14; refine (goes_any l2 (by have := HSL.out; have := HNN.out; have := HLL.out; omega) A3 c3 0 w3 HA3.out HD3.out.bs (Reads.of_own HD3.out.rs.row)).mono ?_; rintro e w4 ⟨rfl, hb4⟩; have HD4 := hide (HD3.out.below hb4); have HP4 := hide (HP3.out.below hb4); have hS4 := And.intro HP4.out.cell.1 HP4.out.cell.2.2; have HB4 : Hid (Below B w w4) := hide (HB3.out.trans (hb4.mono (by have := HZ3.out; have := HBB.out; omega))); clear hb4 hS3 k1))
    go_wp2_with fail
    go_ret
    exact ⟨rfl, _, _, HD4.out, ⟨rfl, by have := HSL.out; have := HLL.out; show l2.length ≤ n + 1; omega⟩, ⟨HT.out, Nat.le_succ_of_le HTL.out⟩, HB4.out⟩

set_option maxRecDepth 100000 in
set_option maxHeartbeats 8000000 in
theorem step2 (B wp n : Nat) (b : Bool) (q : Nat) (v : Value) (r : Nat) (u : Value) (f : Int) (lo : List (Int × Int)) (t : Side) (on tt bidder leave coins : Int) (w : World) (h : Duo w B wp b ⟨q, v, r, u, f, lo, lo⟩ t) (hlo : lo.length ≤ n) (ht : t.lr = t.lo ∧ t.lo.length ≤ n) (hn : n ≤ 1000) (hB : B ≤ w.heap.size)
    (hon : on.tmod 2 = tt) (htt : tt = -1 ∧ b = true ∨ tt = 0 ∧ b = false ∨ tt = 1 ∧ b = true) :
    Calls Try.prog 12 #[.pointer (some ⟨wp, 0, none⟩), opV 2 on bidder leave coins] w (StepP B wp (n + 1) b w) := by
  have hlt := lt_of_block h.blk
  have c0 := fun ob : Obj => (World.cell?_alloc_lt w ob ⟨wp, 0, none⟩ hlt).trans (cell_of_row w wp 0 _ _ (0, 0) h.blk)
  have c1 := fun ob : Obj => (World.cell?_alloc_lt w ob ⟨wp, 1, none⟩ hlt).trans (cell_of_row w wp 1 _ _ (0, 0) h.blk)
  have c2 := fun ob : Obj => (World.cell?_alloc_lt w ob ⟨wp, 2, none⟩ hlt).trans (cell_of_row w wp 2 _ _ (0, 0) h.blk)
  have c3 := fun ob : Obj => (World.cell?_alloc_lt w ob ⟨wp, 3, none⟩ hlt).trans (cell_of_row w wp 3 _ _ (0, 0) h.blk)
  have H0 := hide h
  have HT := hide ht.1
  have HSL := hide hlo
  have HTL := hide ht.2
  have HFO : Hid (∀ k, Foot q v k → B ≤ k ∧ k < w.heap.size) := hide h.foot
  have HRO : Hid (r < w.heap.size ∧ B ≤ r) := hide ⟨lt_of_block h.rs.blk, h.rs.base⟩
  have HBB := hide hB
  have HNN := hide hn
  clear h hlo ht hB hlt hn
  simp only [opV]
  rcases htt with ⟨rfl, rfl⟩ | ⟨rfl, rfl⟩ | ⟨rfl, rfl⟩
  all_goals simp only [duoC, ptr, if_true, if_false, Bool.false_eq_true, List.getElem?_toArray, List.getElem?_cons_zero, List.getElem?_cons_succ] at c0 c1 c2 c3
  all_goals
    go_enter Try.func12, Try.ntmps12
    go_wp2_with fail
    go_quiet (fail)
    have HB1 : Hid (Below w.heap.size w ((w.alloc (.cells #[.int .i64 2, .int .i64 on, .int .i64 bidder, .int .i64 leave, .int .i64 coins] 52)).drewN nq)) := hide (below_drewN ((Below.refl _ _).alloc (Nat.le_refl _) _) _)
    have HP1 : Hid (ParW w 2 on bidder leave coins ((w.alloc (.cells #[.int .i64 2, .int .i64 on, .int .i64 bidder, .int .i64 leave, .int .i64 coins] 52)).drewN nq)) := hide ⟨heap_alloc_new w _⟩
    have hcp := HP1.out.cell
    obtain ⟨p2, p3, p4⟩ := hcp
    obtain ⟨w1, hw1⟩ : ∃ w1, w1 = (w.alloc (.cells #[.int .i64 2, .int .i64 on, .int .i64 bidder, .int .i64 leave, .int .i64 coins] 52)).drewN nq := ⟨_, rfl⟩
    rw [← hw1] at HB1 HP1 p2 p3 p4
    have HD1 := hide (H0.out.below HB1.out)
    have d34 : w1.cell? ⟨w.heap.size, 0, none⟩ = some (.int .i64 2) := cell_of_row _ _ 0 _ _ (0, 0) HP1.out.blk
    have HSZ1 : Hid (w.heap.size < w1.heap.size) := hide (lt_of_block HP1.out.blk)
    clear c0 c1 c2 c3
    rw [← hw1]
    have HW1 := hide hw1
    clear hw1
    have HLL := hide (bidL_len f bidder coins lo)
    have HC1 : Hid (∀ W : World, BoxOf W B q v f lo → w.heap.size ≤ W.heap.size → Calls Try.prog 23 #[.pointer (some ⟨q, 0, none⟩), .int .i64 bidder, .int .i64 coins] W (OpP B q v f (bidL f bidder coins lo) (bidC f bidder coins) W)) := hide (fun W hb hz => bid_any B q v f bidder coins lo W hb (by have := HBB.out; omega) (by have := HSL.out; have := HNN.out; omega))
    have HC2 : Hid (∀ (W : World) u', RefOf W B r u' f lo → w.heap.size ≤ W.heap.size → Calls Try.prog 29 #[.pointer (some ⟨r, 0, none⟩), .int .i64 bidder, .int .i64 coins] W (RefP B r u' f (bidL f bidder coins lo) (bidC f bidder coins) W)) := hide (fun W u' hr hz => refbid_any B r u' f bidder coins lo W hr (by have := HBB.out; omega) (by have := HSL.out; have := HNN.out; omega))
    generalize bidC f bidder coins = cd at *
    generalize bidL f bidder coins lo = l2 at *
    go_wp2_with (go_at_call 15; refine (all_any _ _).mono ?_; rintro e _ ⟨rfl, rfl⟩)
    have HAa : Hid ((w1.alloc (.cells #[.pointer (some ⟨q, 0, none⟩)] 39)).drew.heap[w1.heap.size]? = some (.cells #[.pointer (some ⟨q, 0, none⟩)] 39 (0, 0))) := hide (heap_alloc_new w1 _)
    have HDd := hide (HD1.out.below (((Below.refl _ _).alloc (Nat.le_refl _) (.cells #[.pointer (some ⟨q, 0, none⟩)] 39)).drew))
    have HPd := hide (HP1.out.below (((Below.refl _ _).alloc (Nat.le_refl _) (.cells #[.pointer (some ⟨q, 0, none⟩)] 39)).drew))
    have HB1d := hide (HB1.out.trans ((((Below.refl _ w1).alloc (Nat.le_refl _) (.cells #[.pointer (some ⟨q, 0, none⟩)] 39)).drew).mono HB1.out.size))
    have hS0 := And.intro HPd.out.cell.1 HPd.out.cell.2.2
    go_region_held3 (fun w' => w'.cell? ⟨w.heap.size, 2, none⟩ = some (.int .i64 bidder) ∧ w'.cell? ⟨w.heap.size, 4, none⟩ = some (.int .i64 coins)) (first | exact hS0 | exact hS2 | exact hS3 | exact hS4 | go_keep) (first | (go_at_call 23; refine (HC1.out _ HDd.out.bs HB1d.out.size).mono ?_; rintro e w2 ⟨rfl, v2, hbx2, ht2, hv2⟩; have HD2 := hide (HDd.out.own1 hbx2 ht2 hv2); have HP2 := hide (HPd.out.turns ht2 (fun e => by have := (HFO.out _ e).2; omega)); have hS2 := And.intro HP2.out.cell.1 HP2.out.cell.2.2; have HA2 := hide ((ht2.block _ (lt_of_block HAa.out) (fun e => by have := (HFO.out _ e).2; have := HSZ1.out; omega)).trans HAa.out); have HB2 : Hid (Below B w w2) := hide ((HB1d.out.mono HBB.out).trans (ht2.below (by have := HB1d.out.size; have := HBB.out; omega) (fun k hk e => by have := (HFO.out _ e).1; omega))); have HZ2 : Hid (w.heap.size ≤ w2.heap.size) := hide (by have := HB1d.out.size; have := ht2.size; omega); clear hbx2 ht2 hv2 hS0) | (go_at_call 8; refine (num_any _ _).mono ?_; rintro e _ ⟨rfl, rfl⟩) | (go_at_call 29; refine (HC2.out w2 u HD2.out.rs HZ2.out).mono ?_; rintro e w3 ⟨rfl, u3, hrx3, ht3, hu3⟩; obtain ⟨A3, c3, rfl, _⟩ := own_sh hrx3.row; have HD3 := hide (HD2.out.ref1 hrx3 ht3 hu3); have HP3 := hide (HP2.out.turns ht3 (fun e => by have := HRO.out.1; omega)); have hS3 := And.intro HP3.out.cell.1 HP3.out.cell.2.2; have k1 := hrx3.cell 1; simp at k1; have HA3 := hide ((ht3.block _ (lt_of_block HA2.out) (fun e => by have := HRO.out.1; have := HSZ1.out; omega)).trans HA2.out); have HB3 : Hid (Below B w w3) := hide (HB2.out.trans (ht3.below (by have := HZ2.out; have := HBB.out; omega) (fun k hk e => by have := HRO.out.2; omega))); have HZ3 : Hid (w.heap.size ≤ w3.heap.size) := hide (by have := HZ2.out; have := ht3.size; omega); clear hrx3 ht3 hu3 hS2) | (go_at_call 14; refine (goes_any l2 (by have := HSL.out; have := HNN.out; have := HLL.out; omega) A3 c3 0 w3 HA3.out HD3.out.bs (Reads.of_own HD3.out.rs.row)).mono ?_; rintro e w4 ⟨rfl, hb4⟩; have HD4 := hide (HD3.out.below hb4); have HP4 := hide (HP3.out.below hb4); have hS4 := And.intro HP4.out.cell.1 HP4.out.cell.2.2; have HB4 : Hid (Below B w w4) := hide (HB3.out.trans (hb4.mono (by have := HZ3.out; have := HBB.out; omega))); clear hb4 hS3 k1))
    go_wp2_with fail
    go_ret
    exact ⟨rfl, _, _, HD4.out, ⟨rfl, by have := HSL.out; have := HLL.out; show l2.length ≤ n + 1; omega⟩, ⟨HT.out, Nat.le_succ_of_le HTL.out⟩, HB4.out⟩

end Go.Proofs.Ytnidmoljhopcoaa
