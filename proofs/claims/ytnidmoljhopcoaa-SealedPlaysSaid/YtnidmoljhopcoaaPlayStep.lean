/- The walks of gavellaw11.step: one call on one of two boxes. -/
import Derived.Test.YtnidmoljhopcoaaDuo
namespace Go.Proofs.Ytnidmoljhopcoaa
open Go.RowKit

def StepP (B wp n : Nat) (b : Bool) (w : World) (e : Ending) (w' : World) : Prop := e = .returned (.bool true) ∧ ∃ s t, Duo w' B wp b s t ∧ (s.lr = s.lo ∧ s.lo.length ≤ n) ∧ (t.lr = t.lo ∧ t.lo.length ≤ n) ∧ Below B w w'
def opV (kind on bidder leave coins : Int) : Value := .agg #[.int .i64 kind, .int .i64 on, .int .i64 bidder, .int .i64 leave, .int .i64 coins]
theorem Duo.foot {w : World} {B wp : Nat} {b : Bool} {s t : Side} (h : Duo w B wp b s t) : ∀ k, Foot s.q s.v k → B ≤ k ∧ k < w.heap.size := by
  rintro k (rfl | e)
  · exact ⟨h.bs.base, lt_of_block h.bs.blk⟩
  · exact h.bs.row.lt k e
/-- What the call's own record holds. -/
structure ParW (w : World) (kind on bidder leave coins : Int) (W : World) : Prop where
  blk : W.heap[w.heap.size]? = some (.cells #[.int .i64 kind, .int .i64 on, .int .i64 bidder, .int .i64 leave, .int .i64 coins] 52 (0, 0))
section
variable {w W W' : World} {kind on bidder leave coins : Int}
theorem ParW.cell (h : ParW w kind on bidder leave coins W) : W.cell? ⟨w.heap.size, 2, none⟩ = some (.int .i64 bidder) ∧ W.cell? ⟨w.heap.size, 3, none⟩ = some (.int .i64 leave) ∧ W.cell? ⟨w.heap.size, 4, none⟩ = some (.int .i64 coins) :=
  ⟨cell_of_row W _ 2 _ _ (0, 0) h.blk, cell_of_row W _ 3 _ _ (0, 0) h.blk, cell_of_row W _ 4 _ _ (0, 0) h.blk⟩
theorem ParW.turns {p : Nat → Prop} (h : ParW w kind on bidder leave coins W) (ht : Turns p W W') (hp : ¬ p w.heap.size) : ParW w kind on bidder leave coins W' := ⟨(ht.block _ (lt_of_block h.blk) hp).trans h.blk⟩
theorem ParW.below (h : ParW w kind on bidder leave coins W) (hb : Below W.heap.size W W') : ParW w kind on bidder leave coins W' := ⟨(hb.block _ (lt_of_block h.blk)).trans h.blk⟩
end

set_option maxRecDepth 100000 in
set_option maxHeartbeats 8000000 in
theorem step3 (B wp n : Nat) (b : Bool) (q : Nat) (v : Value) (r : Nat) (u : Value) (f : Int) (lo : List (Int × Int)) (t : Side) (on tt bidder leave coins : Int) (w : World) (h : Duo w B wp b ⟨q, v, r, u, f, lo, lo⟩ t) (hlo : lo.length ≤ n) (ht : t.lr = t.lo ∧ t.lo.length ≤ n) (hn : n ≤ 1000) (hB : B ≤ w.heap.size)
    (hon : on.tmod 2 = tt) (htt : tt = -1 ∧ b = true ∨ tt = 0 ∧ b = false ∨ tt = 1 ∧ b = true) :
    Calls Try.prog 12 #[.pointer (some ⟨wp, 0, none⟩), opV 3 on bidder leave coins] w (StepP B wp (n + 1) b w) := by
  have hlt := lt_of_block h.blk
  have c0 := fun ob : Obj => (World.cell?_alloc_lt w ob ⟨wp, 0, none⟩ hlt).trans (cell_of_row w wp 0 _ _ (0, 0) h.blk)
  have c1 := fun ob : Obj => (World.cell?_alloc_lt w ob ⟨wp, 1, none⟩ hlt).trans (cell_of_row w wp 1 _ _ (0, 0) h.blk)
  have c2 := fun ob : Obj => (World.cell?_alloc_lt w ob ⟨wp, 2, none⟩ hlt).trans (cell_of_row w wp 2 _ _ (0, 0) h.blk)
  have c3 := fun ob : Obj => (World.cell?_alloc_lt w ob ⟨wp, 3, none⟩ hlt).trans (cell_of_row w wp 3 _ _ (0, 0) h.blk)
  have H0 := hide h
  have HT := hide ht.1
  have HSL := hide hlo
  have HTL := hide ht.2
  have HFO : Hid (∀ k, Foot q v k → B ≤ k ∧ k < w.heap.size) := hide h.foot
  have HRO : Hid (r < w.heap.size ∧ B ≤ r) := hide ⟨lt_of_block h.rs.blk, h.rs.base⟩
  have HBB := hide hB
  have HNN := hide hn
  clear h hlo ht hB hlt hn
  simp only [opV]
  rcases htt with ⟨rfl, rfl⟩ | ⟨rfl, rfl⟩ | ⟨rfl, rfl⟩
  all_goals simp only [duoC, ptr, if_true, if_false, Bool.false_eq_true, List.getElem?_toArray, List.getElem?_cons_zero, List.getElem?_cons_succ] at c0 c1 c2 c3
  all_goals
    go_enter Try.func12, Try.ntmps12
    go_wp2_with fail
    go_quiet (fail)
    have HB1 : Hid (Below w.heap.size w ((w.alloc (.cells #[.int .i64 3, .int .i64 on, .int .i64 bidder, .int .i64 leave, .int .i64 coins] 52)).drewN nq)) := hide (below_drewN ((Below.refl _ _).alloc (Nat.le_refl _) _) _)
    have HP1 : Hid (ParW w 3 on bidder leave coins ((w.alloc (.cells #[.int .i64 3, .int .i64 on, .int .i64 bidder, .int .i64 leave, .int .i64 coins] 52)).drewN nq)) := hide ⟨heap_alloc_new w _⟩
    have hcp := HP1.out.cell
    obtain ⟨p2, p3, p4⟩ := hcp
    obtain ⟨w1, hw1⟩ : ∃ w1, w1 = (w.alloc (.cells #[.int .i64 3, .int .i64 on, .int .i64 bidder, .int .i64 leave, .int .i64 coins] 52)).drewN nq := ⟨_, rfl⟩
    rw [← hw1] at HB1 HP1 p2 p3 p4
    have HD1 := hide (H0.out.below HB1.out)
    have d34 : w1.cell? ⟨w.heap.size, 0, none⟩ = some (.int .i64 3) := cell_of_row _ _ 0 _ _ (0, 0) HP1.out.blk
    have HSZ1 : Hid (w.heap.size < w1.heap.size) := hide (lt_of_block HP1.out.blk)
    clear c0 c1 c2 c3
    rw [← hw1]
    have HW1 := hide hw1
    clear hw1
    have HDd := hide (HD1.out.below ((Below.refl _ _).drew))
    have HPd := hide (HP1.out.below ((Below.refl _ _).drew))
    have HB1d := hide (HB1.out.drew)
    have HC1 := hide (drop_any B q v f bidder lo w1.drew HDd.out.bs (by have := HB1.out.size; have := HBB.out; show B ≤ w1.heap.size; omega) (by have := HSL.out; have := HNN.out; omega))
    have HC2 : Hid (∀ (W : World) u', RefOf W B r u' f lo → w.heap.size ≤ W.heap.size → Calls Try.prog 31 #[.pointer (some ⟨r, 0, none⟩), .int .i64 bidder] W (RefP B r u' f (dropL bidder lo) (dropC bidder lo) W)) := hide (fun W u' hr hz => refdrop_any B r u' f bidder lo W hr (by have := HBB.out; omega) (by have := HSL.out; have := HNN.out; omega))
    have HLL := hide (dropL_len bidder lo)
    generalize dropC bidder lo = cd at *
    generalize dropL bidder lo = l2 at *
    go_wp2_with fail
    have hS := p2
    go_region_held3 (fun w' => w'.cell? ⟨w.heap.size, 2, none⟩ = some (.int .i64 bidder)) (first | exact hS | exact hS2 | exact hS3 | go_keep) (first | (go_at_call 30; refine (HC1.out).mono ?_; rintro e w2 ⟨rfl, v2, hbx2, ht2, hv2⟩; have HD2 := hide (HDd.out.own1 hbx2 ht2 hv2); have HP2 := hide (HPd.out.turns ht2 (fun e => by have := (HFO.out _ e).2; omega)); have hS2 := HP2.out.cell.1; have HB2 : Hid (Below B w w2) := hide ((HB1d.out.mono HBB.out).trans (ht2.below (by have := HB1d.out.size; have := HBB.out; omega) (fun k hk e => by have := (HFO.out _ e).1; omega))); have HZ2 : Hid (w.heap.size ≤ w2.heap.size) := hide (by have := HB1d.out.size; have := ht2.size; omega); clear hbx2 ht2 hv2 hS) | (go_at_call 8; refine (num_any _ _).mono ?_; rintro e _ ⟨rfl, rfl⟩) | (go_at_call 31; refine (HC2.out w2 u HD2.out.rs HZ2.out).mono ?_; rintro e w3 ⟨rfl, u3, hrx3, ht3, hu3⟩; have HD3 := hide (HD2.out.ref1 hrx3 ht3 hu3); have HP3 := hide (HP2.out.turns ht3 (fun e => by have := HRO.out.1; omega)); have hS3 := HP3.out.cell.1; have HB3 : Hid (Below B w w3) := hide (HB2.out.trans (ht3.below (by have := HZ2.out; have := HBB.out; omega) (fun k hk e => by have := HRO.out.2; omega))); clear hrx3 ht3 hu3 hS2))
    go_wp2_with fail
    go_ret
    exact ⟨rfl, _, _, HD3.out, ⟨rfl, by have := HSL.out; have := HLL.out; show l2.length ≤ n + 1; omega⟩, ⟨HT.out, Nat.le_succ_of_le HTL.out⟩, HB3.out⟩

set_option maxRecDepth 100000 in
set_option maxHeartbeats 8000000 in
theorem step0 (B wp n : Nat) (b : Bool) (q : Nat) (v : Value) (r : Nat) (u : Value) (f : Int) (lo : List (Int × Int)) (t : Side) (on tt bidder leave coins : Int) (w : World) (h : Duo w B wp b ⟨q, v, r, u, f, lo, lo⟩ t) (hlo : lo.length ≤ n) (ht : t.lr = t.lo ∧ t.lo.length ≤ n) (hn : n ≤ 1000) (hB : B ≤ w.heap.size)
    (hon : on.tmod 2 = tt) (htt : tt = -1 ∧ b = true ∨ tt = 0 ∧ b = false ∨ tt = 1 ∧ b = true) :
    Calls Try.prog 12 #[.pointer (some ⟨wp, 0, none⟩), opV 0 on bidder leave coins] w (StepP B wp (n + 1) b w) := by
  have hlt := lt_of_block h.blk
  have c0 := fun ob : Obj => (World.cell?_alloc_lt w ob ⟨wp, 0, none⟩ hlt).trans (cell_of_row w wp 0 _ _ (0, 0) h.blk)
  have c1 := fun ob : Obj => (World.cell?_alloc_lt w ob ⟨wp, 1, none⟩ hlt).trans (cell_of_row w wp 1 _ _ (0, 0) h.blk)
  have c2 := fun ob : Obj => (World.cell?_alloc_lt w ob ⟨wp, 2, none⟩ hlt).trans (cell_of_row w wp 2 _ _ (0, 0) h.blk)
  have c3 := fun ob : Obj => (World.cell?_alloc_lt w ob ⟨wp, 3, none⟩ hlt).trans (cell_of_row w wp 3 _ _ (0, 0) h.blk)
  have H0 := hide h
  have HT := hide ht.1
  have HSL := hide hlo
  have HTL := hide ht.2
  have HFO : Hid (∀ k, Foot q v k → B ≤ k ∧ k < w.heap.size) := hide h.foot
  have HRO : Hid (r < w.heap.size ∧ B ≤ r) := hide ⟨lt_of_block h.rs.blk, h.rs.base⟩
  have HBB := hide hB
  have HNN := hide hn
  clear h hlo ht hB hlt hn
  simp only [opV]
  rcases htt with ⟨rfl, rfl⟩ | ⟨rfl, rfl⟩ | ⟨rfl, rfl⟩
  all_goals simp only [duoC, ptr, if_true, if_false, Bool.false_eq_true, List.getElem?_toArray, List.getElem?_cons_zero, List.getElem?_cons_succ] at c0 c1 c2 c3
  · go_enter Try.func12, Try.ntmps12
    go_wp2_with fail
    go_quiet (fail)
    have HB1 : Hid (Below w.heap.size w ((w.alloc (.cells #[.int .i64 0, .int .i64 on, .int .i64 bidder, .int .i64 leave, .int .i64 coins] 52)).drewN nq)) := hide (below_drewN ((Below.refl _ _).alloc (Nat.le_refl _) _) _)
    have HP1 : Hid (ParW w 0 on bidder leave coins ((w.alloc (.cells #[.int .i64 0, .int .i64 on, .int .i64 bidder, .int .i64 leave, .int .i64 coins] 52)).drewN nq)) := hide ⟨heap_alloc_new w _⟩
    have hcp := HP1.out.cell
    obtain ⟨p2, p3, p4⟩ := hcp
    obtain ⟨w1, hw1⟩ : ∃ w1, w1 = (w.alloc (.cells #[.int .i64 0, .int .i64 on, .int .i64 bidder, .int .i64 leave, .int .i64 coins] 52)).drewN nq := ⟨_, rfl⟩
    rw [← hw1] at HB1 HP1 p2 p3 p4
    have HD1 := hide (H0.out.below HB1.out)
    have d34 : w1.cell? ⟨w.heap.size, 0, none⟩ = some (.int .i64 0) := cell_of_row _ _ 0 _ _ (0, 0) HP1.out.blk
    have HSZ1 : Hid (w.heap.size < w1.heap.size) := hide (lt_of_block HP1.out.blk)
    clear c0 c1 c2 c3
    rw [← hw1]
    have HW1 := hide hw1
    clear hw1
    have HLL := hide (bidL_len f bidder coins lo)
    have HC1 : Hid (∀ W : World, BoxOf W B q v f lo → w.heap.size ≤ W.heap.size → Calls Try.prog 23 #[.pointer (some ⟨q, 0, none⟩), .int .i64 bidder, .int .i64 coins] W (OpP B q v f (bidL f bidder coins lo) (bidC f bidder coins) W)) := hide (fun W hb hz => bid_any B q v f bidder coins lo W hb (by have := HBB.out; omega) (by have := HSL.out; have := HNN.out; omega))
    have HC2 : Hid (∀ (W : World) u', RefOf W B r u' f lo → w.heap.size ≤ W.heap.size → Calls Try.prog 29 #[.pointer (some ⟨r, 0, none⟩), .int .i64 bidder, .int .i64 coins] W (RefP B r u' f (bidL f bidder coins lo) (bidC f bidder coins) W)) := hide (fun W u' hr hz => refbid_any B r u' f bidder coins lo W hr (by have := HBB.out; omega) (by have := HSL.out; have := HNN.out; omega))
    generalize bidC f bidder coins = cd at *
    generalize bidL f bidder coins lo = l2 at *
    go_wp2_with (go_at_call 15; refine (all_any _ _).mono ?_; rintro e _ ⟨rfl, rfl⟩)
    have HAa : Hid ((w1.alloc (.cells #[.pointer (some ⟨q, 0, none⟩)] 39)).drew.heap[w1.heap.size]? = some (.cells #[.pointer (some ⟨q, 0, none⟩)] 39 (0, 0))) := hide (heap_alloc_new w1 _)
    have HDd := hide (HD1.out.below (((Below.refl _ _).alloc (Nat.le_refl _) (.cells #[.pointer (some ⟨q, 0, none⟩)] 39)).drew))
    have HPd := hide (HP1.out.below (((Below.refl _ _).alloc (Nat.le_refl _) (.cells #[.pointer (some ⟨q, 0, none⟩)] 39)).drew))
    have HB1d := hide (HB1.out.trans ((((Below.refl _ w1).alloc (Nat.le_refl _) (.cells #[.pointer (some ⟨q, 0, none⟩)] 39)).drew).mono HB1.out.size))
    have hS0 := And.intro HPd.out.cell.1 HPd.out.cell.2.2
    refine wp_region_U 23 (fun W => W.cell? ⟨w.heap.size, 2, none⟩ = some (.int .i64 bidder) ∧ W.cell? ⟨w.heap.size, 4, none⟩ = some (.int .i64 coins)) rfl hS0 (fun hHeld => ?_)
    refine AnyU.take (i := 0) (v := ?v101) rfl (by kernel_rfl) (by kernel_rfl) (by kernel_rfl) (by kernel_rfl) (fun _ _ _ h => h) (Or.inl ⟨by rfl, ?hy101⟩) hHeld ?r101
    case hy101 => (intro w hSw; (try dsimp only at hSw); go_simp <;> with_reducible rfl)
    simp only [Act.put, List.setIfInBounds_toArray, List.set_cons_zero, List.set_cons_succ]
    refine AnyU.take (i := 1) (v := ?v102) rfl (by kernel_rfl) (by kernel_rfl) (by kernel_rfl) (by kernel_rfl) (fun _ _ _ h => h) (Or.inl ⟨by rfl, ?hy102⟩) hHeld ?r102
    case hy102 => (intro w hSw; (try dsimp only at hSw); go_simp <;> with_reducible rfl)
    simp only [Act.put, List.setIfInBounds_toArray, List.set_cons_zero, List.set_cons_succ]
    refine AnyU.take (i := 2) (v := ?v103) rfl (by kernel_rfl) (by kernel_rfl) (by kernel_rfl) (by kernel_rfl) (fun _ _ _ h => h) (Or.inl ⟨by rfl, ?hy103⟩) hHeld ?r103
    case hy103 => (intro w hSw; (try dsimp only at hSw); go_simp <;> with_reducible rfl)
    simp only [Act.put, List.setIfInBounds_toArray, List.set_cons_zero, List.set_cons_succ]
    refine AnyU.take (i := 3) (v := ?v104) rfl (by kernel_rfl) (by kernel_rfl) (by kernel_rfl) (by kernel_rfl) (fun _ _ _ h => h) (Or.inl ⟨by rfl, ?hy104⟩) hHeld ?r104
    case hy104 => (intro w hSw; (try dsimp only at hSw); go_simp <;> with_reducible rfl)
    simp only [Act.put, List.setIfInBounds_toArray, List.set_cons_zero, List.set_cons_succ]
    refine AnyU.take (i := 4) (v := ?v105) rfl (by kernel_rfl) (by kernel_rfl) (by kernel_rfl) (by kernel_rfl) (fun _ _ _ h => h) (Or.inl ⟨by rfl, ?hy105⟩) hHeld ?r105
    case hy105 => (intro w hSw; (try dsimp only at hSw); go_simp <;> with_reducible rfl)
    simp only [Act.put, List.setIfInBounds_toArray, List.set_cons_zero, List.set_cons_succ]
    refine AnyU.take (i := 7) (v := ?v106) rfl (by kernel_rfl) (by kernel_rfl) (by kernel_rfl) (by kernel_rfl) (fun _ _ _ h => h) (Or.inl ⟨by rfl, ?hy106⟩) hHeld ?r106
    case hy106 => (intro w hSw; (try dsimp only at hSw); go_simp <;> with_reducible rfl)
    simp only [Act.put, List.setIfInBounds_toArray, List.set_cons_zero, List.set_cons_succ]
    refine AnyU.take (i := 8) (v := ?v107) rfl (by kernel_rfl) (by kernel_rfl) (by kernel_rfl) (by kernel_rfl) (fun _ _ _ h => h) (Or.inl ⟨by rfl, ?hy107⟩) hHeld ?r107
    case hy107 => (intro w hSw; (try dsimp only at hSw); go_simp <;> with_reducible rfl)
    simp only [Act.put, List.setIfInBounds_toArray, List.set_cons_zero, List.set_cons_succ]
    refine AnyU.take (i := 9) (v := ?v108) rfl (by kernel_rfl) (by kernel_rfl) (by kernel_rfl) (by kernel_rfl) (fun _ _ _ h => h) (Or.inl ⟨by rfl, ?hy108⟩) hHeld ?r108
    case hy108 => (intro w hSw; (try dsimp only at hSw); go_simp <;> with_reducible rfl)
    simp only [Act.put, List.setIfInBounds_toArray, List.set_cons_zero, List.set_cons_succ]
    refine AnyU.take (i := 10) (v := ?v109) rfl (by kernel_rfl) (by kernel_rfl) (by kernel_rfl) (by kernel_rfl) (fun _ _ _ h => h) (Or.inl ⟨by rfl, ?hy109⟩) hHeld ?r109
    case hy109 => (intro w hSw; (try dsimp only at hSw); go_simp <;> with_reducible rfl)
    simp only [Act.put, List.setIfInBounds_toArray, List.set_cons_zero, List.set_cons_succ]
    refine AnyU.take (i := 11) (v := ?v110) rfl (by kernel_rfl) (by kernel_rfl) (by kernel_rfl) (by kernel_rfl) (fun _ _ _ h => h) (Or.inl ⟨by rfl, ?hy110⟩) hHeld ?r110
    case hy110 => (intro w hSw; (try dsimp only at hSw); go_simp <;> with_reducible rfl)
    simp only [Act.put, List.setIfInBounds_toArray, List.set_cons_zero, List.set_cons_succ]
    refine AnyU.next (js := [5]) (by kernel_rfl) (by simp) (NextU.cons rfl (fun K hK => ?_) NextU.nil)
    go_simp
    refine (HC1.out _ HDd.out.bs HB1d.out.size).mono ?_
    rintro e w2 ⟨rfl, v2, hbx2, ht2, hv2⟩
    have HD2 := hide (HDd.out.own1 hbx2 ht2 hv2)
    have HP2 := hide (HPd.out.turns ht2 (fun e => by have := (HFO.out _ e).2; omega))
    have hS2 := hide (And.intro HP2.out.cell.1 HP2.out.cell.2.2)
    have HA2 := hide ((ht2.block _ (lt_of_block HAa.out) (fun e => by have := (HFO.out _ e).2; have := HSZ1.out; omega)).trans HAa.out)
    have HB2 : Hid (Below B w w2) := hide ((HB1d.out.mono HBB.out).trans (ht2.below (by have := HB1d.out.size; have := HBB.out; omega) (fun k hk e => by have := (HFO.out _ e).1; omega)))
    have HZ2 : Hid (w.heap.size ≤ w2.heap.size) := hide (by have := HB1d.out.size; have := ht2.size; omega)
    clear hbx2 ht2 hv2 hS0 hHeld
    go_wp2_with fail
    refine hK.out _ _ (fun _ => hS2.out) (fun hHeld => ?_)
    replace hHeld := hHeld (by decide)
    try simp only [Act.put, List.setIfInBounds_toArray, List.set_cons_zero, List.set_cons_succ]
    refine AnyU.next (js := [6]) (by kernel_rfl) (by simp) (NextU.cons rfl (fun K hK => ?_) NextU.nil)
    go_simp
    refine (num_any _ _).mono ?_
    rintro e _ ⟨rfl, rfl⟩
    go_wp2_with fail
    refine hK.out _ _ (fun _ => hS2.out) (fun hHeld => ?_)
    replace hHeld := hHeld (by decide)
    try simp only [Act.put, List.setIfInBounds_toArray, List.set_cons_zero, List.set_cons_succ]
    refine AnyU.next (js := [12]) (by kernel_rfl) (by simp) (NextU.cons rfl (fun K hK => ?_) NextU.nil)
    go_simp
    refine (HC2.out w2 u HD2.out.rs HZ2.out).mono ?_
    rintro e w3 ⟨rfl, u3, hrx3, ht3, hu3⟩
    obtain ⟨A3, c3, rfl, _⟩ := own_sh hrx3.row
    have HD3 := hide (HD2.out.ref1 hrx3 ht3 hu3)
    have HP3 := hide (HP2.out.turns ht3 (fun e => by have := HRO.out.1; omega))
    have hS3 := hide (And.intro HP3.out.cell.1 HP3.out.cell.2.2)
    have k1 := hrx3.cell 1
    simp at k1
    have HA3 := hide ((ht3.block _ (lt_of_block HA2.out) (fun e => by have := HRO.out.1; have := HSZ1.out; omega)).trans HA2.out)
    have HB3 : Hid (Below B w w3) := hide (HB2.out.trans (ht3.below (by have := HZ2.out; have := HBB.out; omega) (fun k hk e => by have := HRO.out.2; omega)))
    have HZ3 : Hid (w.heap.size ≤ w3.heap.size) := hide (by have := HZ2.out; have := ht3.size; omega)
    clear hrx3 ht3 hu3 hHeld
    go_wp2_with fail
    refine hK.out _ _ (fun _ => hS3.out) (fun hHeld => ?_)
    replace hHeld := hHeld (by decide)
    try simp only [Act.put, List.setIfInBounds_toArray, List.set_cons_zero, List.set_cons_succ]
    refine AnyU.take (i := 13) (v := ?v111) rfl (by kernel_rfl) (by kernel_rfl) (by kernel_rfl) (by kernel_rfl) (fun _ _ _ h => h) (Or.inl ⟨by rfl, ?hy111⟩) hHeld ?r111
    case hy111 => (intro w hSw; (try dsimp only at hSw); go_simp <;> with_reducible rfl)
    simp only [Act.put, List.setIfInBounds_toArray, List.set_cons_zero, List.set_cons_succ]
    refine AnyU.take (i := 14) (v := ?v112) rfl (by kernel_rfl) (by kernel_rfl) (by kernel_rfl) (by kernel_rfl) (fun _ _ _ h => h) (Or.inl ⟨by rfl, ?hy112⟩) hHeld ?r112
    case hy112 => (intro w hSw; (try dsimp only at hSw); go_simp <;> with_reducible rfl)
    simp only [Act.put, List.setIfInBounds_toArray, List.set_cons_zero, List.set_cons_succ]
    refine AnyU.take (i := 15) (v := ?v113) rfl (by kernel_rfl) (by kernel_rfl) (by kernel_rfl) (by kernel_rfl) (fun _ _ _ h => h) (Or.inl ⟨by rfl, ?hy113⟩) hHeld ?r113
    case hy113 => (intro w hSw; (try dsimp only at hSw); go_simp <;> with_reducible rfl)
    simp only [Act.put, List.setIfInBounds_toArray, List.set_cons_zero, List.set_cons_succ]
    refine AnyU.take (i := 16) (v := ?v114) rfl (by kernel_rfl) (by kernel_rfl) (by kernel_rfl) (by kernel_rfl) (fun _ _ _ h => h) (Or.inl ⟨by rfl, ?hy114⟩) hHeld ?r114
    case hy114 => (intro w hSw; (try dsimp only at hSw); go_simp <;> with_reducible rfl)
    simp only [Act.put, List.setIfInBounds_toArray, List.set_cons_zero, List.set_cons_succ]
    refine AnyU.take (i := 17) (v := ?v115) rfl (by kernel_rfl) (by kernel_rfl) (by kernel_rfl) (by kernel_rfl) (fun _ _ _ h => h) (Or.inl ⟨by rfl, ?hy115⟩) hHeld ?r115
    case hy115 => (intro w hSw; (try dsimp only at hSw); go_simp <;> with_reducible rfl)
    simp only [Act.put, List.setIfInBounds_toArray, List.set_cons_zero, List.set_cons_succ]
    refine AnyU.take (i := 18) (v := ?v116) rfl (by kernel_rfl) (by kernel_rfl) (by kernel_rfl) (by kernel_rfl) (fun _ _ _ h => h) (Or.inl ⟨by rfl, ?hy116⟩) hHeld ?r116
    case hy116 => (intro w hSw; (try dsimp only at hSw); go_simp <;> with_reducible rfl)
    simp only [Act.put, List.setIfInBounds_toArray, List.set_cons_zero, List.set_cons_succ]
    refine AnyU.next (js := [19]) (by kernel_rfl) (by simp) (NextU.cons rfl (fun K hK => ?_) NextU.nil)
    go_simp
    refine hK.out _ _ (fun _ => hS3.out) (fun hHeld => ?_)
    replace hHeld := hHeld (by decide)
    try simp only [Act.put, List.setIfInBounds_toArray, List.set_cons_zero, List.set_cons_succ]
    refine AnyU.next (js := [20]) (by kernel_rfl) (by simp) (NextU.cons rfl (fun K hK => ?_) NextU.nil)
    go_simp
    refine (goes_any l2 (by have := HSL.out; have := HNN.out; have := HLL.out; omega) A3 c3 0 w3 HA3.out HD3.out.bs (Reads.of_own HD3.out.rs.row)).mono ?_
    rintro e w4 ⟨rfl, hb4⟩
    have HD4 := hide (HD3.out.below hb4)
    have HP4 := hide (HP3.out.below hb4)
    have hS4 := hide (And.intro HP4.out.cell.1 HP4.out.cell.2.2)
    have HB4 : Hid (Below B w w4) := hide (HB3.out.trans (hb4.mono (by have := HZ3.out; have := HBB.out; omega)))
    clear hb4 hHeld k1
    go_wp2_with fail
    refine hK.out _ _ (fun _ => hS4.out) (fun hHeld => ?_)
    replace hHeld := hHeld (by decide)
    try simp only [Act.put, List.setIfInBounds_toArray, List.set_cons_zero, List.set_cons_succ]
    refine AnyU.take (i := 21) (v := ?v117) rfl (by kernel_rfl) (by kernel_rfl) (by kernel_rfl) (by kernel_rfl) (fun _ _ _ h => h) (Or.inl ⟨by rfl, ?hy117⟩) hHeld ?r117
    case hy117 => (intro w hSw; (try dsimp only at hSw); go_simp <;> with_reducible rfl)
    simp only [Act.put, List.setIfInBounds_toArray, List.set_cons_zero, List.set_cons_succ]
    refine AnyU.take (i := 22) (v := ?v118) rfl (by kernel_rfl) (by kernel_rfl) (by kernel_rfl) (by kernel_rfl) (fun _ _ _ h => h) (Or.inl ⟨by rfl, ?hy118⟩) hHeld ?r118
    case hy118 => (intro w hSw; (try dsimp only at hSw); go_simp <;> with_reducible rfl)
    simp only [Act.put, List.setIfInBounds_toArray, List.set_cons_zero, List.set_cons_succ]
    refine AnyU.over (by kernel_rfl) ?_ _
    go_wp2_with fail
    go_ret
    exact ⟨rfl, _, _, HD4.out, ⟨rfl, by have := HSL.out; have := HLL.out; show l2.length ≤ n + 1; omega⟩, ⟨HT.out, Nat.le_succ_of_le HTL.out⟩, HB4.out⟩
  · go_enter Try.func12, Try.ntmps12
    go_wp2_with fail
    go_quiet (fail)
    have HB1 : Hid (Below w.heap.size w ((w.alloc (.cells #[.int .i64 0, .int .i64 on, .int .i64 bidder, .int .i64 leave, .int .i64 coins] 52)).drewN nq)) := hide (below_drewN ((Below.refl _ _).alloc (Nat.le_refl _) _) _)
    have HP1 : Hid (ParW w 0 on bidder leave coins ((w.alloc (.cells #[.int .i64 0, .int .i64 on, .int .i64 bidder, .int .i64 leave, .int .i64 coins] 52)).drewN nq)) := hide ⟨heap_alloc_new w _⟩
    have hcp := HP1.out.cell
    obtain ⟨p2, p3, p4⟩ := hcp
    obtain ⟨w1, hw1⟩ : ∃ w1, w1 = (w.alloc (.cells #[.int .i64 0, .int .i64 on, .int .i64 bidder, .int .i64 leave, .int .i64 coins] 52)).drewN nq := ⟨_, rfl⟩
    rw [← hw1] at HB1 HP1 p2 p3 p4
    have HD1 := hide (H0.out.below HB1.out)
    have d34 : w1.cell? ⟨w.heap.size, 0, none⟩ = some (.int .i64 0) := cell_of_row _ _ 0 _ _ (0, 0) HP1.out.blk
    have HSZ1 : Hid (w.heap.size < w1.heap.size) := hide (lt_of_block HP1.out.blk)
    clear c0 c1 c2 c3
    rw [← hw1]
    have HW1 := hide hw1
    clear hw1
    have HLL := hide (bidL_len f bidder coins lo)
    have HC1 : Hid (∀ W : World, BoxOf W B q v f lo → w.heap.size ≤ W.heap.size → Calls Try.prog 23 #[.pointer (some ⟨q, 0, none⟩), .int .i64 bidder, .int .i64 coins] W (OpP B q v f (bidL f bidder coins lo) (bidC f bidder coins) W)) := hide (fun W hb hz => bid_any B q v f bidder coins lo W hb (by have := HBB.out; omega) (by have := HSL.out; have := HNN.out; omega))
    have HC2 : Hid (∀ (W : World) u', RefOf W B r u' f lo → w.heap.size ≤ W.heap.size → Calls Try.prog 29 #[.pointer (some ⟨r, 0, none⟩), .int .i64 bidder, .int .i64 coins] W (RefP B r u' f (bidL f bidder coins lo) (bidC f bidder coins) W)) := hide (fun W u' hr hz => refbid_any B r u' f bidder coins lo W hr (by have := HBB.out; omega) (by have := HSL.out; have := HNN.out; omega))
    generalize bidC f bidder coins = cd at *
    generalize bidL f bidder coins lo = l2 at *
    go_wp2_with (go_at_call 15; refine (all_any _ _).mono ?_; rintro e _ ⟨rfl, rfl⟩)
    have HAa : Hid ((w1.alloc (.cells #[.pointer (some ⟨q, 0, none⟩)] 39)).drew.heap[w1.heap.size]? = some (.cells #[.pointer (some ⟨q, 0, none⟩)] 39 (0, 0))) := hide (heap_alloc_new w1 _)
    have HDd := hide (HD1.out.below (((Below.refl _ _).alloc (Nat.le_refl _) (.cells #[.pointer (some ⟨q, 0, none⟩)] 39)).drew))
    have HPd := hide (HP1.out.below (((Below.refl _ _).alloc (Nat.le_refl _) (.cells #[.pointer (some ⟨q, 0, none⟩)] 39)).drew))
    have HB1d := hide (HB1.out.trans ((((Below.refl _ w1).alloc (Nat.le_refl _) (.cells #[.pointer (some ⟨q, 0, none⟩)] 39)).drew).mono HB1.out.size))
    have hS0 := And.intro HPd.out.cell.1 HPd.out.cell.2.2
    refine wp_region_U 23 (fun W => W.cell? ⟨w.heap.size, 2, none⟩ = some (.int .i64 bidder) ∧ W.cell? ⟨w.heap.size, 4, none⟩ = some (.int .i64 coins)) rfl hS0 (fun hHeld => ?_)
    refine AnyU.take (i := 0) (v := ?v201) rfl (by kernel_rfl) (by kernel_rfl) (by kernel_rfl) (by kernel_rfl) (fun _ _ _ h => h) (Or.inl ⟨by rfl, ?hy201⟩) hHeld ?r201
    case hy201 => (intro w hSw; (try dsimp only at hSw); go_simp <;> with_reducible rfl)
    simp only [Act.put, List.setIfInBounds_toArray, List.set_cons_zero, List.set_cons_succ]
    refine AnyU.take (i := 1) (v := ?v202) rfl (by kernel_rfl) (by kernel_rfl) (by kernel_rfl) (by kernel_rfl) (fun _ _ _ h => h) (Or.inl ⟨by rfl, ?hy202⟩) hHeld ?r202
    case hy202 => (intro w hSw; (try dsimp only at hSw); go_simp <;> with_reducible rfl)
    simp only [Act.put, List.setIfInBounds_toArray, List.set_cons_zero, List.set_cons_succ]
    refine AnyU.take (i := 2) (v := ?v203) rfl (by kernel_rfl) (by kernel_rfl) (by kernel_rfl) (by kernel_rfl) (fun _ _ _ h => h) (Or.inl ⟨by rfl, ?hy203⟩) hHeld ?r203
    case hy203 => (intro w hSw; (try dsimp only at hSw); go_simp <;> with_reducible rfl)
    simp only [Act.put, List.setIfInBounds_toArray, List.set_cons_zero, List.set_cons_succ]
    refine AnyU.take (i := 3) (v := ?v204) rfl (by kernel_rfl) (by kernel_rfl) (by kernel_rfl) (by kernel_rfl) (fun _ _ _ h => h) (Or.inl ⟨by rfl, ?hy204⟩) hHeld ?r204
    case hy204 => (intro w hSw; (try dsimp only at hSw); go_simp <;> with_reducible rfl)
    simp only [Act.put, List.setIfInBounds_toArray, List.set_cons_zero, List.set_cons_succ]
    refine AnyU.take (i := 4) (v := ?v205) rfl (by kernel_rfl) (by kernel_rfl) (by kernel_rfl) (by kernel_rfl) (fun _ _ _ h => h) (Or.inl ⟨by rfl, ?hy205⟩) hHeld ?r205
    case hy205 => (intro w hSw; (try dsimp only at hSw); go_simp <;> with_reducible rfl)
    simp only [Act.put, List.setIfInBounds_toArray, List.set_cons_zero, List.set_cons_succ]
    refine AnyU.take (i := 7) (v := ?v206) rfl (by kernel_rfl) (by kernel_rfl) (by kernel_rfl) (by kernel_rfl) (fun _ _ _ h => h) (Or.inl ⟨by rfl, ?hy206⟩) hHeld ?r206
    case hy206 => (intro w hSw; (try dsimp only at hSw); go_simp <;> with_reducible rfl)
    simp only [Act.put, List.setIfInBounds_toArray, List.set_cons_zero, List.set_cons_succ]
    refine AnyU.take (i := 8) (v := ?v207) rfl (by kernel_rfl) (by kernel_rfl) (by kernel_rfl) (by kernel_rfl) (fun _ _ _ h => h) (Or.inl ⟨by rfl, ?hy207⟩) hHeld ?r207
    case hy207 => (intro w hSw; (try dsimp only at hSw); go_simp <;> with_reducible rfl)
    simp only [Act.put, List.setIfInBounds_toArray, List.set_cons_zero, List.set_cons_succ]
    refine AnyU.take (i := 9) (v := ?v208) rfl (by kernel_rfl) (by kernel_rfl) (by kernel_rfl) (by kernel_rfl) (fun _ _ _ h => h) (Or.inl ⟨by rfl, ?hy208⟩) hHeld ?r208
    case hy208 => (intro w hSw; (try dsimp only at hSw); go_simp <;> with_reducible rfl)
    simp only [Act.put, List.setIfInBounds_toArray, List.set_cons_zero, List.set_cons_succ]
    refine AnyU.take (i := 10) (v := ?v209) rfl (by kernel_rfl) (by kernel_rfl) (by kernel_rfl) (by kernel_rfl) (fun _ _ _ h => h) (Or.inl ⟨by rfl, ?hy209⟩) hHeld ?r209
    case hy209 => (intro w hSw; (try dsimp only at hSw); go_simp <;> with_reducible rfl)
    simp only [Act.put, List.setIfInBounds_toArray, List.set_cons_zero, List.set_cons_succ]
    refine AnyU.take (i := 11) (v := ?v210) rfl (by kernel_rfl) (by kernel_rfl) (by kernel_rfl) (by kernel_rfl) (fun _ _ _ h => h) (Or.inl ⟨by rfl, ?hy210⟩) hHeld ?r210
    case hy210 => (intro w hSw; (try dsimp only at hSw); go_simp <;> with_reducible rfl)
    simp only [Act.put, List.setIfInBounds_toArray, List.set_cons_zero, List.set_cons_succ]
    refine AnyU.next (js := [5]) (by kernel_rfl) (by simp) (NextU.cons rfl (fun K hK => ?_) NextU.nil)
    go_simp
    refine (HC1.out _ HDd.out.bs HB1d.out.size).mono ?_
    rintro e w2 ⟨rfl, v2, hbx2, ht2, hv2⟩
    have HD2 := hide (HDd.out.own1 hbx2 ht2 hv2)
    have HP2 := hide (HPd.out.turns ht2 (fun e => by have := (HFO.out _ e).2; omega))
    have hS2 := hide (And.intro HP2.out.cell.1 HP2.out.cell.2.2)
    have HA2 := hide ((ht2.block _ (lt_of_block HAa.out) (fun e => by have := (HFO.out _ e).2; have := HSZ1.out; omega)).trans HAa.out)
    have HB2 : Hid (Below B w w2) := hide ((HB1d.out.mono HBB.out).trans (ht2.below (by have := HB1d.out.size; have := HBB.out; omega) (fun k hk e => by have := (HFO.out _ e).1; omega)))
    have HZ2 : Hid (w.heap.size ≤ w2.heap.size) := hide (by have := HB1d.out.size; have := ht2.size; omega)
    clear hbx2 ht2 hv2 hS0 hHeld
    go_wp2_with fail
    refine hK.out _ _ (fun _ => hS2.out) (fun hHeld => ?_)
    replace hHeld := hHeld (by decide)
    try simp only [Act.put, List.setIfInBounds_toArray, List.set_cons_zero, List.set_cons_succ]
    refine AnyU.next (js := [6]) (by kernel_rfl) (by simp) (NextU.cons rfl (fun K hK => ?_) NextU.nil)
    go_simp
    refine (num_any _ _).mono ?_
    rintro e _ ⟨rfl, rfl⟩
    go_wp2_with fail
    refine hK.out _ _ (fun _ => hS2.out) (fun hHeld => ?_)
    replace hHeld := hHeld (by decide)
    try simp only [Act.put, List.setIfInBounds_toArray, List.set_cons_zero, List.set_cons_succ]
    refine AnyU.next (js := [12]) (by kernel_rfl) (by simp) (NextU.cons rfl (fun K hK => ?_) NextU.nil)
    go_simp
    refine (HC2.out w2 u HD2.out.rs HZ2.out).mono ?_
    rintro e w3 ⟨rfl, u3, hrx3, ht3, hu3⟩
    obtain ⟨A3, c3, rfl, _⟩ := own_sh hrx3.row
    have HD3 := hide (HD2.out.ref1 hrx3 ht3 hu3)
    have HP3 := hide (HP2.out.turns ht3 (fun e => by have := HRO.out.1; omega))
    have hS3 := hide (And.intro HP3.out.cell.1 HP3.out.cell.2.2)
    have k1 := hrx3.cell 1
    simp at k1
    have HA3 := hide ((ht3.block _ (lt_of_block HA2.out) (fun e => by have := HRO.out.1; have := HSZ1.out; omega)).trans HA2.out)
    have HB3 : Hid (Below B w w3) := hide (HB2.out.trans (ht3.below (by have := HZ2.out; have := HBB.out; omega) (fun k hk e => by have := HRO.out.2; omega)))
    have HZ3 : Hid (w.heap.size ≤ w3.heap.size) := hide (by have := HZ2.out; have := ht3.size; omega)
    clear hrx3 ht3 hu3 hHeld
    go_wp2_with fail
    refine hK.out _ _ (fun _ => hS3.out) (fun hHeld => ?_)
    replace hHeld := hHeld (by decide)
    try simp only [Act.put, List.setIfInBounds_toArray, List.set_cons_zero, List.set_cons_succ]
    refine AnyU.take (i := 13) (v := ?v211) rfl (by kernel_rfl) (by kernel_rfl) (by kernel_rfl) (by kernel_rfl) (fun _ _ _ h => h) (Or.inl ⟨by rfl, ?hy211⟩) hHeld ?r211
    case hy211 => (intro w hSw; (try dsimp only at hSw); go_simp <;> with_reducible rfl)
    simp only [Act.put, List.setIfInBounds_toArray, List.set_cons_zero, List.set_cons_succ]
    refine AnyU.take (i := 14) (v := ?v212) rfl (by kernel_rfl) (by kernel_rfl) (by kernel_rfl) (by kernel_rfl) (fun _ _ _ h => h) (Or.inl ⟨by rfl, ?hy212⟩) hHeld ?r212
    case hy212 => (intro w hSw; (try dsimp only at hSw); go_simp <;> with_reducible rfl)
    simp only [Act.put, List.setIfInBounds_toArray, List.set_cons_zero, List.set_cons_succ]
    refine AnyU.take (i := 15) (v := ?v213) rfl (by kernel_rfl) (by kernel_rfl) (by kernel_rfl) (by kernel_rfl) (fun _ _ _ h => h) (Or.inl ⟨by rfl, ?hy213⟩) hHeld ?r213
    case hy213 => (intro w hSw; (try dsimp only at hSw); go_simp <;> with_reducible rfl)
    simp only [Act.put, List.setIfInBounds_toArray, List.set_cons_zero, List.set_cons_succ]
    refine AnyU.take (i := 16) (v := ?v214) rfl (by kernel_rfl) (by kernel_rfl) (by kernel_rfl) (by kernel_rfl) (fun _ _ _ h => h) (Or.inl ⟨by rfl, ?hy214⟩) hHeld ?r214
    case hy214 => (intro w hSw; (try dsimp only at hSw); go_simp <;> with_reducible rfl)
    simp only [Act.put, List.setIfInBounds_toArray, List.set_cons_zero, List.set_cons_succ]
    refine AnyU.take (i := 17) (v := ?v215) rfl (by kernel_rfl) (by kernel_rfl) (by kernel_rfl) (by kernel_rfl) (fun _ _ _ h => h) (Or.inl ⟨by rfl, ?hy215⟩) hHeld ?r215
    case hy215 => (intro w hSw; (try dsimp only at hSw); go_simp <;> with_reducible rfl)
    simp only [Act.put, List.setIfInBounds_toArray, List.set_cons_zero, List.set_cons_succ]
    refine AnyU.take (i := 18) (v := ?v216) rfl (by kernel_rfl) (by kernel_rfl) (by kernel_rfl) (by kernel_rfl) (fun _ _ _ h => h) (Or.inl ⟨by rfl, ?hy216⟩) hHeld ?r216
    case hy216 => (intro w hSw; (try dsimp only at hSw); go_simp <;> with_reducible rfl)
    simp only [Act.put, List.setIfInBounds_toArray, List.set_cons_zero, List.set_cons_succ]
    refine AnyU.next (js := [19]) (by kernel_rfl) (by simp) (NextU.cons rfl (fun K hK => ?_) NextU.nil)
    go_simp
    refine hK.out _ _ (fun _ => hS3.out) (fun hHeld => ?_)
    replace hHeld := hHeld (by decide)
    try simp only [Act.put, List.setIfInBounds_toArray, List.set_cons_zero, List.set_cons_succ]
    refine AnyU.next (js := [20]) (by kernel_rfl) (by simp) (NextU.cons rfl (fun K hK => ?_) NextU.nil)
    go_simp
    refine (goes_any l2 (by have := HSL.out; have := HNN.out; have := HLL.out; omega) A3 c3 0 w3 HA3.out HD3.out.bs (Reads.of_own HD3.out.rs.row)).mono ?_
    rintro e w4 ⟨rfl, hb4⟩
    have HD4 := hide (HD3.out.below hb4)
    have HP4 := hide (HP3.out.below hb4)
    have hS4 := hide (And.intro HP4.out.cell.1 HP4.out.cell.2.2)
    have HB4 : Hid (Below B w w4) := hide (HB3.out.trans (hb4.mono (by have := HZ3.out; have := HBB.out; omega)))
    clear hb4 hHeld k1
    go_wp2_with fail
    refine hK.out _ _ (fun _ => hS4.out) (fun hHeld => ?_)
    replace hHeld := hHeld (by decide)
    try simp only [Act.put, List.setIfInBounds_toArray, List.set_cons_zero, List.set_cons_succ]
    refine AnyU.take (i := 21) (v := ?v217) rfl (by kernel_rfl) (by kernel_rfl) (by kernel_rfl) (by kernel_rfl) (fun _ _ _ h => h) (Or.inl ⟨by rfl, ?hy217⟩) hHeld ?r217
    case hy217 => (intro w hSw; (try dsimp only at hSw); go_simp <;> with_reducible rfl)
    simp only [Act.put, List.setIfInBounds_toArray, List.set_cons_zero, List.set_cons_succ]
    refine AnyU.take (i := 22) (v := ?v218) rfl (by kernel_rfl) (by kernel_rfl) (by kernel_rfl) (by kernel_rfl) (fun _ _ _ h => h) (Or.inl ⟨by rfl, ?hy218⟩) hHeld ?r218
    case hy218 => (intro w hSw; (try dsimp only at hSw); go_simp <;> with_reducible rfl)
    simp only [Act.put, List.setIfInBounds_toArray, List.set_cons_zero, List.set_cons_succ]
    refine AnyU.over (by kernel_rfl) ?_ _
    go_wp2_with fail
    go_ret
    exact ⟨rfl, _, _, HD4.out, ⟨rfl, by have := HSL.out; have := HLL.out; show l2.length ≤ n + 1; omega⟩, ⟨HT.out, Nat.le_succ_of_le HTL.out⟩, HB4.out⟩
  · go_enter Try.func12, Try.ntmps12
    go_wp2_with fail
    go_quiet (fail)
    have HB1 : Hid (Below w.heap.size w ((w.alloc (.cells #[.int .i64 0, .int .i64 on, .int .i64 bidder, .int .i64 leave, .int .i64 coins] 52)).drewN nq)) := hide (below_drewN ((Below.refl _ _).alloc (Nat.le_refl _) _) _)
    have HP1 : Hid (ParW w 0 on bidder leave coins ((w.alloc (.cells #[.int .i64 0, .int .i64 on, .int .i64 bidder, .int .i64 leave, .int .i64 coins] 52)).drewN nq)) := hide ⟨heap_alloc_new w _⟩
    have hcp := HP1.out.cell
    obtain ⟨p2, p3, p4⟩ := hcp
    obtain ⟨w1, hw1⟩ : ∃ w1, w1 = (w.alloc (.cells #[.int .i64 0, .int .i64 on, .int .i64 bidder, .int .i64 leave, .int .i64 coins] 52)).drewN nq := ⟨_, rfl⟩
    rw [← hw1] at HB1 HP1 p2 p3 p4
    have HD1 := hide (H0.out.below HB1.out)
    have d34 : w1.cell? ⟨w.heap.size, 0, none⟩ = some (.int .i64 0) := cell_of_row _ _ 0 _ _ (0, 0) HP1.out.blk
    have HSZ1 : Hid (w.heap.size < w1.heap.size) := hide (lt_of_block HP1.out.blk)
    clear c0 c1 c2 c3
    rw [← hw1]
    have HW1 := hide hw1
    clear hw1
    have HLL := hide (bidL_len f bidder coins lo)
    have HC1 : Hid (∀ W : World, BoxOf W B q v f lo → w.heap.size ≤ W.heap.size → Calls Try.prog 23 #[.pointer (some ⟨q, 0, none⟩), .int .i64 bidder, .int .i64 coins] W (OpP B q v f (bidL f bidder coins lo) (bidC f bidder coins) W)) := hide (fun W hb hz => bid_any B q v f bidder coins lo W hb (by have := HBB.out; omega) (by have := HSL.out; have := HNN.out; omega))
    have HC2 : Hid (∀ (W : World) u', RefOf W B r u' f lo → w.heap.size ≤ W.heap.size → Calls Try.prog 29 #[.pointer (some ⟨r, 0, none⟩), .int .i64 bidder, .int .i64 coins] W (RefP B r u' f (bidL f bidder coins lo) (bidC f bidder coins) W)) := hide (fun W u' hr hz => refbid_any B r u' f bidder coins lo W hr (by have := HBB.out; omega) (by have := HSL.out; have := HNN.out; omega))
    generalize bidC f bidder coins = cd at *
    generalize bidL f bidder coins lo = l2 at *
    go_wp2_with (go_at_call 15; refine (all_any _ _).mono ?_; rintro e _ ⟨rfl, rfl⟩)
    have HAa : Hid ((w1.alloc (.cells #[.pointer (some ⟨q, 0, none⟩)] 39)).drew.heap[w1.heap.size]? = some (.cells #[.pointer (some ⟨q, 0, none⟩)] 39 (0, 0))) := hide (heap_alloc_new w1 _)
    have HDd := hide (HD1.out.below (((Below.refl _ _).alloc (Nat.le_refl _) (.cells #[.pointer (some ⟨q, 0, none⟩)] 39)).drew))
    have HPd := hide (HP1.out.below (((Below.refl _ _).alloc (Nat.le_refl _) (.cells #[.pointer (some ⟨q, 0, none⟩)] 39)).drew))
    have HB1d := hide (HB1.out.trans ((((Below.refl _ w1).alloc (Nat.le_refl _) (.cells #[.pointer (some ⟨q, 0, none⟩)] 39)).drew).mono HB1.out.size))
    have hS0 := And.intro HPd.out.cell.1 HPd.out.cell.2.2
    refine wp_region_U 23 (fun W => W.cell? ⟨w.heap.size, 2, none⟩ = some (.int .i64 bidder) ∧ W.cell? ⟨w.heap.size, 4, none⟩ = some (.int .i64 coins)) rfl hS0 (fun hHeld => ?_)
    refine AnyU.take (i := 0) (v := ?v301) rfl (by kernel_rfl) (by kernel_rfl) (by kernel_rfl) (by kernel_rfl) (fun _ _ _ h => h) (Or.inl ⟨by rfl, ?hy301⟩) hHeld ?r301
    case hy301 => (intro w hSw; (try dsimp only at hSw); go_simp <;> with_reducible rfl)
    simp only [Act.put, List.setIfInBounds_toArray, List.set_cons_zero, List.set_cons_succ]
    refine AnyU.take (i := 1) (v := ?v302) rfl (by kernel_rfl) (by kernel_rfl) (by kernel_rfl) (by kernel_rfl) (fun _ _ _ h => h) (Or.inl ⟨by rfl, ?hy302⟩) hHeld ?r302
    case hy302 => (intro w hSw; (try dsimp only at hSw); go_simp <;> with_reducible rfl)
    simp only [Act.put, List.setIfInBounds_toArray, List.set_cons_zero, List.set_cons_succ]
    refine AnyU.take (i := 2) (v := ?v303) rfl (by kernel_rfl) (by kernel_rfl) (by kernel_rfl) (by kernel_rfl) (fun _ _ _ h => h) (Or.inl ⟨by rfl, ?hy303⟩) hHeld ?r303
    case hy303 => (intro w hSw; (try dsimp only at hSw); go_simp <;> with_reducible rfl)
    simp only [Act.put, List.setIfInBounds_toArray, List.set_cons_zero, List.set_cons_succ]
    refine AnyU.take (i := 3) (v := ?v304) rfl (by kernel_rfl) (by kernel_rfl) (by kernel_rfl) (by kernel_rfl) (fun _ _ _ h => h) (Or.inl ⟨by rfl, ?hy304⟩) hHeld ?r304
    case hy304 => (intro w hSw; (try dsimp only at hSw); go_simp <;> with_reducible rfl)
    simp only [Act.put, List.setIfInBounds_toArray, List.set_cons_zero, List.set_cons_succ]
    refine AnyU.take (i := 4) (v := ?v305) rfl (by kernel_rfl) (by kernel_rfl) (by kernel_rfl) (by kernel_rfl) (fun _ _ _ h => h) (Or.inl ⟨by rfl, ?hy305⟩) hHeld ?r305
    case hy305 => (intro w hSw; (try dsimp only at hSw); go_simp <;> with_reducible rfl)
    simp only [Act.put, List.setIfInBounds_toArray, List.set_cons_zero, List.set_cons_succ]
    refine AnyU.take (i := 7) (v := ?v306) rfl (by kernel_rfl) (by kernel_rfl) (by kernel_rfl) (by kernel_rfl) (fun _ _ _ h => h) (Or.inl ⟨by rfl, ?hy306⟩) hHeld ?r306
    case hy306 => (intro w hSw; (try dsimp only at hSw); go_simp <;> with_reducible rfl)
    simp only [Act.put, List.setIfInBounds_toArray, List.set_cons_zero, List.set_cons_succ]
    refine AnyU.take (i := 8) (v := ?v307) rfl (by kernel_rfl) (by kernel_rfl) (by kernel_rfl) (by kernel_rfl) (fun _ _ _ h => h) (Or.inl ⟨by rfl, ?hy307⟩) hHeld ?r307
    case hy307 => (intro w hSw; (try dsimp only at hSw); go_simp <;> with_reducible rfl)
    simp only [Act.put, List.setIfInBounds_toArray, List.set_cons_zero, List.set_cons_succ]
    refine AnyU.take (i := 9) (v := ?v308) rfl (by kernel_rfl) (by kernel_rfl) (by kernel_rfl) (by kernel_rfl) (fun _ _ _ h => h) (Or.inl ⟨by rfl, ?hy308⟩) hHeld ?r308
    case hy308 => (intro w hSw; (try dsimp only at hSw); go_simp <;> with_reducible rfl)
    simp only [Act.put, List.setIfInBounds_toArray, List.set_cons_zero, List.set_cons_succ]
    refine AnyU.take (i := 10) (v := ?v309) rfl (by kernel_rfl) (by kernel_rfl) (by kernel_rfl) (by kernel_rfl) (fun _ _ _ h => h) (Or.inl ⟨by rfl, ?hy309⟩) hHeld ?r309
    case hy309 => (intro w hSw; (try dsimp only at hSw); go_simp <;> with_reducible rfl)
    simp only [Act.put, List.setIfInBounds_toArray, List.set_cons_zero, List.set_cons_succ]
    refine AnyU.take (i := 11) (v := ?v310) rfl (by kernel_rfl) (by kernel_rfl) (by kernel_rfl) (by kernel_rfl) (fun _ _ _ h => h) (Or.inl ⟨by rfl, ?hy310⟩) hHeld ?r310
    case hy310 => (intro w hSw; (try dsimp only at hSw); go_simp <;> with_reducible rfl)
    simp only [Act.put, List.setIfInBounds_toArray, List.set_cons_zero, List.set_cons_succ]
    refine AnyU.next (js := [5]) (by kernel_rfl) (by simp) (NextU.cons rfl (fun K hK => ?_) NextU.nil)
    go_simp
    refine (HC1.out _ HDd.out.bs HB1d.out.size).mono ?_
    rintro e w2 ⟨rfl, v2, hbx2, ht2, hv2⟩
    have HD2 := hide (HDd.out.own1 hbx2 ht2 hv2)
    have HP2 := hide (HPd.out.turns ht2 (fun e => by have := (HFO.out _ e).2; omega))
    have hS2 := hide (And.intro HP2.out.cell.1 HP2.out.cell.2.2)
    have HA2 := hide ((ht2.block _ (lt_of_block HAa.out) (fun e => by have := (HFO.out _ e).2; have := HSZ1.out; omega)).trans HAa.out)
    have HB2 : Hid (Below B w w2) := hide ((HB1d.out.mono HBB.out).trans (ht2.below (by have := HB1d.out.size; have := HBB.out; omega) (fun k hk e => by have := (HFO.out _ e).1; omega)))
    have HZ2 : Hid (w.heap.size ≤ w2.heap.size) := hide (by have := HB1d.out.size; have := ht2.size; omega)
    clear hbx2 ht2 hv2 hS0 hHeld
    go_wp2_with fail
    refine hK.out _ _ (fun _ => hS2.out) (fun hHeld => ?_)
    replace hHeld := hHeld (by decide)
    try simp only [Act.put, List.setIfInBounds_toArray, List.set_cons_zero, List.set_cons_succ]
    refine AnyU.next (js := [6]) (by kernel_rfl) (by simp) (NextU.cons rfl (fun K hK => ?_) NextU.nil)
    go_simp
    refine (num_any _ _).mono ?_
    rintro e _ ⟨rfl, rfl⟩
    go_wp2_with fail
    refine hK.out _ _ (fun _ => hS2.out) (fun hHeld => ?_)
    replace hHeld := hHeld (by decide)
    try simp only [Act.put, List.setIfInBounds_toArray, List.set_cons_zero, List.set_cons_succ]
    refine AnyU.next (js := [12]) (by kernel_rfl) (by simp) (NextU.cons rfl (fun K hK => ?_) NextU.nil)
    go_simp
    refine (HC2.out w2 u HD2.out.rs HZ2.out).mono ?_
    rintro e w3 ⟨rfl, u3, hrx3, ht3, hu3⟩
    obtain ⟨A3, c3, rfl, _⟩ := own_sh hrx3.row
    have HD3 := hide (HD2.out.ref1 hrx3 ht3 hu3)
    have HP3 := hide (HP2.out.turns ht3 (fun e => by have := HRO.out.1; omega))
    have hS3 := hide (And.intro HP3.out.cell.1 HP3.out.cell.2.2)
    have k1 := hrx3.cell 1
    simp at k1
    have HA3 := hide ((ht3.block _ (lt_of_block HA2.out) (fun e => by have := HRO.out.1; have := HSZ1.out; omega)).trans HA2.out)
    have HB3 : Hid (Below B w w3) := hide (HB2.out.trans (ht3.below (by have := HZ2.out; have := HBB.out; omega) (fun k hk e => by have := HRO.out.2; omega)))
    have HZ3 : Hid (w.heap.size ≤ w3.heap.size) := hide (by have := HZ2.out; have := ht3.size; omega)
    clear hrx3 ht3 hu3 hHeld
    go_wp2_with fail
    refine hK.out _ _ (fun _ => hS3.out) (fun hHeld => ?_)
    replace hHeld := hHeld (by decide)
    try simp only [Act.put, List.setIfInBounds_toArray, List.set_cons_zero, List.set_cons_succ]
    refine AnyU.take (i := 13) (v := ?v311) rfl (by kernel_rfl) (by kernel_rfl) (by kernel_rfl) (by kernel_rfl) (fun _ _ _ h => h) (Or.inl ⟨by rfl, ?hy311⟩) hHeld ?r311
    case hy311 => (intro w hSw; (try dsimp only at hSw); go_simp <;> with_reducible rfl)
    simp only [Act.put, List.setIfInBounds_toArray, List.set_cons_zero, List.set_cons_succ]
    refine AnyU.take (i := 14) (v := ?v312) rfl (by kernel_rfl) (by kernel_rfl) (by kernel_rfl) (by kernel_rfl) (fun _ _ _ h => h) (Or.inl ⟨by rfl, ?hy312⟩) hHeld ?r312
    case hy312 => (intro w hSw; (try dsimp only at hSw); go_simp <;> with_reducible rfl)
    simp only [Act.put, List.setIfInBounds_toArray, List.set_cons_zero, List.set_cons_succ]
    refine AnyU.take (i := 15) (v := ?v313) rfl (by kernel_rfl) (by kernel_rfl) (by kernel_rfl) (by kernel_rfl) (fun _ _ _ h => h) (Or.inl ⟨by rfl, ?hy313⟩) hHeld ?r313
    case hy313 => (intro w hSw; (try dsimp only at hSw); go_simp <;> with_reducible rfl)
    simp only [Act.put, List.setIfInBounds_toArray, List.set_cons_zero, List.set_cons_succ]
    refine AnyU.take (i := 16) (v := ?v314) rfl (by kernel_rfl) (by kernel_rfl) (by kernel_rfl) (by kernel_rfl) (fun _ _ _ h => h) (Or.inl ⟨by rfl, ?hy314⟩) hHeld ?r314
    case hy314 => (intro w hSw; (try dsimp only at hSw); go_simp <;> with_reducible rfl)
    simp only [Act.put, List.setIfInBounds_toArray, List.set_cons_zero, List.set_cons_succ]
    refine AnyU.take (i := 17) (v := ?v315) rfl (by kernel_rfl) (by kernel_rfl) (by kernel_rfl) (by kernel_rfl) (fun _ _ _ h => h) (Or.inl ⟨by rfl, ?hy315⟩) hHeld ?r315
    case hy315 => (intro w hSw; (try dsimp only at hSw); go_simp <;> with_reducible rfl)
    simp only [Act.put, List.setIfInBounds_toArray, List.set_cons_zero, List.set_cons_succ]
    refine AnyU.take (i := 18) (v := ?v316) rfl (by kernel_rfl) (by kernel_rfl) (by kernel_rfl) (by kernel_rfl) (fun _ _ _ h => h) (Or.inl ⟨by rfl, ?hy316⟩) hHeld ?r316
    case hy316 => (intro w hSw; (try dsimp only at hSw); go_simp <;> with_reducible rfl)
    simp only [Act.put, List.setIfInBounds_toArray, List.set_cons_zero, List.set_cons_succ]
    refine AnyU.next (js := [19]) (by kernel_rfl) (by simp) (NextU.cons rfl (fun K hK => ?_) NextU.nil)
    go_simp
    refine hK.out _ _ (fun _ => hS3.out) (fun hHeld => ?_)
    replace hHeld := hHeld (by decide)
    try simp only [Act.put, List.setIfInBounds_toArray, List.set_cons_zero, List.set_cons_succ]
    refine AnyU.next (js := [20]) (by kernel_rfl) (by simp) (NextU.cons rfl (fun K hK => ?_) NextU.nil)
    go_simp
    refine (goes_any l2 (by have := HSL.out; have := HNN.out; have := HLL.out; omega) A3 c3 0 w3 HA3.out HD3.out.bs (Reads.of_own HD3.out.rs.row)).mono ?_
    rintro e w4 ⟨rfl, hb4⟩
    have HD4 := hide (HD3.out.below hb4)
    have HP4 := hide (HP3.out.below hb4)
    have hS4 := hide (And.intro HP4.out.cell.1 HP4.out.cell.2.2)
    have HB4 : Hid (Below B w w4) := hide (HB3.out.trans (hb4.mono (by have := HZ3.out; have := HBB.out; omega)))
    clear hb4 hHeld k1
    go_wp2_with fail
    refine hK.out _ _ (fun _ => hS4.out) (fun hHeld => ?_)
    replace hHeld := hHeld (by decide)
    try simp only [Act.put, List.setIfInBounds_toArray, List.set_cons_zero, List.set_cons_succ]
    refine AnyU.take (i := 21) (v := ?v317) rfl (by kernel_rfl) (by kernel_rfl) (by kernel_rfl) (by kernel_rfl) (fun _ _ _ h => h) (Or.inl ⟨by rfl, ?hy317⟩) hHeld ?r317
    case hy317 => (intro w hSw; (try dsimp only at hSw); go_simp <;> with_reducible rfl)
    simp only [Act.put, List.setIfInBounds_toArray, List.set_cons_zero, List.set_cons_succ]
    refine AnyU.take (i := 22) (v := ?v318) rfl (by kernel_rfl) (by kernel_rfl) (by kernel_rfl) (by kernel_rfl) (fun _ _ _ h => h) (Or.inl ⟨by rfl, ?hy318⟩) hHeld ?r318
    case hy318 => (intro w hSw; (try dsimp only at hSw); go_simp <;> with_reducible rfl)
    simp only [Act.put, List.setIfInBounds_toArray, List.set_cons_zero, List.set_cons_succ]
    refine AnyU.over (by kernel_rfl) ?_ _
    go_wp2_with fail
    go_ret
    exact ⟨rfl, _, _, HD4.out, ⟨rfl, by have := HSL.out; have := HLL.out; show l2.length ≤ n + 1; omega⟩, ⟨HT.out, Nat.le_succ_of_le HTL.out⟩, HB4.out⟩

set_option maxRecDepth 100000 in
set_option maxHeartbeats 8000000 in
theorem step1 (B wp n : Nat) (b : Bool) (q : Nat) (v : Value) (r : Nat) (u : Value) (f : Int) (lo : List (Int × Int)) (t : Side) (on tt bidder leave coins : Int) (w : World) (h : Duo w B wp b ⟨q, v, r, u, f, lo, lo⟩ t) (hlo : lo.length ≤ n) (ht : t.lr = t.lo ∧ t.lo.length ≤ n) (hn : n ≤ 1000) (hB : B ≤ w.heap.size)
    (hon : on.tmod 2 = tt) (htt : tt = -1 ∧ b = true ∨ tt = 0 ∧ b = false ∨ tt = 1 ∧ b = true) :
    Calls Try.prog 12 #[.pointer (some ⟨wp, 0, none⟩), opV 1 on bidder leave coins] w (StepP B wp (n + 1) b w) := by
  have hlt := lt_of_block h.blk
  have c0 := fun ob : Obj => (World.cell?_alloc_lt w ob ⟨wp, 0, none⟩ hlt).trans (cell_of_row w wp 0 _ _ (0, 0) h.blk)
  have c1 := fun ob : Obj => (World.cell?_alloc_lt w ob ⟨wp, 1, none⟩ hlt).trans (cell_of_row w wp 1 _ _ (0, 0) h.blk)
  have c2 := fun ob : Obj => (World.cell?_alloc_lt w ob ⟨wp, 2, none⟩ hlt).trans (cell_of_row w wp 2 _ _ (0, 0) h.blk)
  have c3 := fun ob : Obj => (World.cell?_alloc_lt w ob ⟨wp, 3, none⟩ hlt).trans (cell_of_row w wp 3 _ _ (0, 0) h.blk)
  have H0 := hide h
  have HT := hide ht.1
  have HSL := hide hlo
  have HTL := hide ht.2
  have HFO : Hid (∀ k, Foot q v k → B ≤ k ∧ k < w.heap.size) := hide h.foot
  have HRO : Hid (r < w.heap.size ∧ B ≤ r) := hide ⟨lt_of_block h.rs.blk, h.rs.base⟩
  have HBB := hide hB
  have HNN := hide hn
  clear h hlo ht hB hlt hn
  simp only [opV]
  rcases htt with ⟨rfl, rfl⟩ | ⟨rfl, rfl⟩ | ⟨rfl, rfl⟩
  all_goals simp only [duoC, ptr, if_true, if_false, Bool.false_eq_true, List.getElem?_toArray, List.getElem?_cons_zero, List.getElem?_cons_succ] at c0 c1 c2 c3
  · go_enter Try.func12, Try.ntmps12
    go_wp2_with fail
    go_quiet (fail)
    have HB1 : Hid (Below w.heap.size w ((w.alloc (.cells #[.int .i64 1, .int .i64 on, .int .i64 bidder, .int .i64 leave, .int .i64 coins] 52)).drewN nq)) := hide (below_drewN ((Below.refl _ _).alloc (Nat.le_refl _) _) _)
    have HP1 : Hid (ParW w 1 on bidder leave coins ((w.alloc (.cells #[.int .i64 1, .int .i64 on, .int .i64 bidder, .int .i64 leave, .int .i64 coins] 52)).drewN nq)) := hide ⟨heap_alloc_new w _⟩
    have hcp := HP1.out.cell
    obtain ⟨p2, p3, p4⟩ := hcp
    obtain ⟨w1, hw1⟩ : ∃ w1, w1 = (w.alloc (.cells #[.int .i64 1, .int .i64 on, .int .i64 bidder, .int .i64 leave, .int .i64 coins] 52)).drewN nq := ⟨_, rfl⟩
    rw [← hw1] at HB1 HP1 p2 p3 p4
    have HD1 := hide (H0.out.below HB1.out)
    have d34 : w1.cell? ⟨w.heap.size, 0, none⟩ = some (.int .i64 1) := cell_of_row _ _ 0 _ _ (0, 0) HP1.out.blk
    have HSZ1 : Hid (w.heap.size < w1.heap.size) := hide (lt_of_block HP1.out.blk)
    clear c0 c1 c2 c3
    rw [← hw1]
    have HW1 := hide hw1
    clear hw1
    have HLL := hide (bidL_len f bidder coins lo)
    have HC1 : Hid (∀ W : World, BoxOf W B q v f lo → w.heap.size ≤ W.heap.size → Calls Try.prog 23 #[.pointer (some ⟨q, 0, none⟩), .int .i64 bidder, .int .i64 coins] W (OpP B q v f (bidL f bidder coins lo) (bidC f bidder coins) W)) := hide (fun W hb hz => bid_any B q v f bidder coins lo W hb (by have := HBB.out; omega) (by have := HSL.out; have := HNN.out; omega))
    have HC2 : Hid (∀ (W : World) u', RefOf W B r u' f lo → w.heap.size ≤ W.heap.size → Calls Try.prog 29 #[.pointer (some ⟨r, 0, none⟩), .int .i64 bidder, .int .i64 coins] W (RefP B r u' f (bidL f bidder coins lo) (bidC f bidder coins) W)) := hide (fun W u' hr hz => refbid_any B r u' f bidder coins lo W hr (by have := HBB.out; omega) (by have := HSL.out; have := HNN.out; omega))
    generalize bidC f bidder coins = cd at *
    generalize bidL f bidder coins lo = l2 at *
    go_wp2_with (go_at_call 15; refine (all_any _ _).mono ?_; rintro e _ ⟨rfl, rfl⟩)
    have HAa : Hid ((w1.alloc (.cells #[.pointer (some ⟨q, 0, none⟩)] 39)).drew.heap[w1.heap.size]? = some (.cells #[.pointer (some ⟨q, 0, none⟩)] 39 (0, 0))) := hide (heap_alloc_new w1 _)
    have HDd := hide (HD1.out.below (((Below.refl _ _).alloc (Nat.le_refl _) (.cells #[.pointer (some ⟨q, 0, none⟩)] 39)).drew))
    have HPd := hide (HP1.out.below (((Below.refl _ _).alloc (Nat.le_refl _) (.cells #[.pointer (some ⟨q, 0, none⟩)] 39)).drew))
    have HB1d := hide (HB1.out.trans ((((Below.refl _ w1).alloc (Nat.le_refl _) (.cells #[.pointer (some ⟨q, 0, none⟩)] 39)).drew).mono HB1.out.size))
    have hS0 := And.intro HPd.out.cell.1 HPd.out.cell.2.2
    refine wp_region_U 23 (fun W => W.cell? ⟨w.heap.size, 2, none⟩ = some (.int .i64 bidder) ∧ W.cell? ⟨w.heap.size, 4, none⟩ = some (.int .i64 coins)) rfl hS0 (fun hHeld => ?_)
    refine AnyU.take (i := 0) (v := ?v101) rfl (by kernel_rfl) (by kernel_rfl) (by kernel_rfl) (by kernel_rfl) (fun _ _ _ h => h) (Or.inl ⟨by rfl, ?hy101⟩) hHeld ?r101
    case hy101 => (intro w hSw; (try dsimp only at hSw); go_simp <;> with_reducible rfl)
    simp only [Act.put, List.setIfInBounds_toArray, List.set_cons_zero, List.set_cons_succ]
    refine AnyU.take (i := 1) (v := ?v102) rfl (by kernel_rfl) (by kernel_rfl) (by kernel_rfl) (by kernel_rfl) (fun _ _ _ h => h) (Or.inl ⟨by rfl, ?hy102⟩) hHeld ?r102
    case hy102 => (intro w hSw; (try dsimp only at hSw); go_simp <;> with_reducible rfl)
    simp only [Act.put, List.setIfInBounds_toArray, List.set_cons_zero, List.set_cons_succ]
    refine AnyU.take (i := 2) (v := ?v103) rfl (by kernel_rfl) (by kernel_rfl) (by kernel_rfl) (by kernel_rfl) (fun _ _ _ h => h) (Or.inl ⟨by rfl, ?hy103⟩) hHeld ?r103
    case hy103 => (intro w hSw; (try dsimp only at hSw); go_simp <;> with_reducible rfl)
    simp only [Act.put, List.setIfInBounds_toArray, List.set_cons_zero, List.set_cons_succ]
    refine AnyU.take (i := 3) (v := ?v104) rfl (by kernel_rfl) (by kernel_rfl) (by kernel_rfl) (by kernel_rfl) (fun _ _ _ h => h) (Or.inl ⟨by rfl, ?hy104⟩) hHeld ?r104
    case hy104 => (intro w hSw; (try dsimp only at hSw); go_simp <;> with_reducible rfl)
    simp only [Act.put, List.setIfInBounds_toArray, List.set_cons_zero, List.set_cons_succ]
    refine AnyU.take (i := 4) (v := ?v105) rfl (by kernel_rfl) (by kernel_rfl) (by kernel_rfl) (by kernel_rfl) (fun _ _ _ h => h) (Or.inl ⟨by rfl, ?hy105⟩) hHeld ?r105
    case hy105 => (intro w hSw; (try dsimp only at hSw); go_simp <;> with_reducible rfl)
    simp only [Act.put, List.setIfInBounds_toArray, List.set_cons_zero, List.set_cons_succ]
    refine AnyU.take (i := 7) (v := ?v106) rfl (by kernel_rfl) (by kernel_rfl) (by kernel_rfl) (by kernel_rfl) (fun _ _ _ h => h) (Or.inl ⟨by rfl, ?hy106⟩) hHeld ?r106
    case hy106 => (intro w hSw; (try dsimp only at hSw); go_simp <;> with_reducible rfl)
    simp only [Act.put, List.setIfInBounds_toArray, List.set_cons_zero, List.set_cons_succ]
    refine AnyU.take (i := 8) (v := ?v107) rfl (by kernel_rfl) (by kernel_rfl) (by kernel_rfl) (by kernel_rfl) (fun _ _ _ h => h) (Or.inl ⟨by rfl, ?hy107⟩) hHeld ?r107
    case hy107 => (intro w hSw; (try dsimp only at hSw); go_simp <;> with_reducible rfl)
    simp only [Act.put, List.setIfInBounds_toArray, List.set_cons_zero, List.set_cons_succ]
    refine AnyU.take (i := 9) (v := ?v108) rfl (by kernel_rfl) (by kernel_rfl) (by kernel_rfl) (by kernel_rfl) (fun _ _ _ h => h) (Or.inl ⟨by rfl, ?hy108⟩) hHeld ?r108
    case hy108 => (intro w hSw; (try dsimp only at hSw); go_simp <;> with_reducible rfl)
    simp only [Act.put, List.setIfInBounds_toArray, List.set_cons_zero, List.set_cons_succ]
    refine AnyU.take (i := 10) (v := ?v109) rfl (by kernel_rfl) (by kernel_rfl) (by kernel_rfl) (by kernel_rfl) (fun _ _ _ h => h) (Or.inl ⟨by rfl, ?hy109⟩) hHeld ?r109
    case hy109 => (intro w hSw; (try dsimp only at hSw); go_simp <;> with_reducible rfl)
    simp only [Act.put, List.setIfInBounds_toArray, List.set_cons_zero, List.set_cons_succ]
    refine AnyU.take (i := 11) (v := ?v110) rfl (by kernel_rfl) (by kernel_rfl) (by kernel_rfl) (by kernel_rfl) (fun _ _ _ h => h) (Or.inl ⟨by rfl, ?hy110⟩) hHeld ?r110
    case hy110 => (intro w hSw; (try dsimp only at hSw); go_simp <;> with_reducible rfl)
    simp only [Act.put, List.setIfInBounds_toArray, List.set_cons_zero, List.set_cons_succ]
    refine AnyU.next (js := [5]) (by kernel_rfl) (by simp) (NextU.cons rfl (fun K hK => ?_) NextU.nil)
    go_simp
    refine (HC1.out _ HDd.out.bs HB1d.out.size).mono ?_
    rintro e w2 ⟨rfl, v2, hbx2, ht2, hv2⟩
    have HD2 := hide (HDd.out.own1 hbx2 ht2 hv2)
    have HP2 := hide (HPd.out.turns ht2 (fun e => by have := (HFO.out _ e).2; omega))
    have hS2 := hide (And.intro HP2.out.cell.1 HP2.out.cell.2.2)
    have HA2 := hide ((ht2.block _ (lt_of_block HAa.out) (fun e => by have := (HFO.out _ e).2; have := HSZ1.out; omega)).trans HAa.out)
    have HB2 : Hid (Below B w w2) := hide ((HB1d.out.mono HBB.out).trans (ht2.below (by have := HB1d.out.size; have := HBB.out; omega) (fun k hk e => by have := (HFO.out _ e).1; omega)))
    have HZ2 : Hid (w.heap.size ≤ w2.heap.size) := hide (by have := HB1d.out.size; have := ht2.size; omega)
    clear hbx2 ht2 hv2 hS0 hHeld
    go_wp2_with fail
    refine hK.out _ _ (fun _ => hS2.out) (fun hHeld => ?_)
    replace hHeld := hHeld (by decide)
    try simp only [Act.put, List.setIfInBounds_toArray, List.set_cons_zero, List.set_cons_succ]
    refine AnyU.next (js := [6]) (by kernel_rfl) (by simp) (NextU.cons rfl (fun K hK => ?_) NextU.nil)
    go_simp
    refine (num_any _ _).mono ?_
    rintro e _ ⟨rfl, rfl⟩
    go_wp2_with fail
    refine hK.out _ _ (fun _ => hS2.out) (fun hHeld => ?_)
    replace hHeld := hHeld (by decide)
    try simp only [Act.put, List.setIfInBounds_toArray, List.set_cons_zero, List.set_cons_succ]
    refine AnyU.next (js := [12]) (by kernel_rfl) (by simp) (NextU.cons rfl (fun K hK => ?_) NextU.nil)
    go_simp
    refine (HC2.out w2 u HD2.out.rs HZ2.out).mono ?_
    rintro e w3 ⟨rfl, u3, hrx3, ht3, hu3⟩
    obtain ⟨A3, c3, rfl, _⟩ := own_sh hrx3.row
    have HD3 := hide (HD2.out.ref1 hrx3 ht3 hu3)
    have HP3 := hide (HP2.out.turns ht3 (fun e => by have := HRO.out.1; omega))
    have hS3 := hide (And.intro HP3.out.cell.1 HP3.out.cell.2.2)
    have k1 := hrx3.cell 1
    simp at k1
    have HA3 := hide ((ht3.block _ (lt_of_block HA2.out) (fun e => by have := HRO.out.1; have := HSZ1.out; omega)).trans HA2.out)
    have HB3 : Hid (Below B w w3) := hide (HB2.out.trans (ht3.below (by have := HZ2.out; have := HBB.out; omega) (fun k hk e => by have := HRO.out.2; omega)))
    have HZ3 : Hid (w.heap.size ≤ w3.heap.size) := hide (by have := HZ2.out; have := ht3.size; omega)
    clear hrx3 ht3 hu3 hHeld
    go_wp2_with fail
    refine hK.out _ _ (fun _ => hS3.out) (fun hHeld => ?_)
    replace hHeld := hHeld (by decide)
    try simp only [Act.put, List.setIfInBounds_toArray, List.set_cons_zero, List.set_cons_succ]
    refine AnyU.take (i := 13) (v := ?v111) rfl (by kernel_rfl) (by kernel_rfl) (by kernel_rfl) (by kernel_rfl) (fun _ _ _ h => h) (Or.inl ⟨by rfl, ?hy111⟩) hHeld ?r111
    case hy111 => (intro w hSw; (try dsimp only at hSw); go_simp <;> with_reducible rfl)
    simp only [Act.put, List.setIfInBounds_toArray, List.set_cons_zero, List.set_cons_succ]
    refine AnyU.take (i := 14) (v := ?v112) rfl (by kernel_rfl) (by kernel_rfl) (by kernel_rfl) (by kernel_rfl) (fun _ _ _ h => h) (Or.inl ⟨by rfl, ?hy112⟩) hHeld ?r112
    case hy112 => (intro w hSw; (try dsimp only at hSw); go_simp <;> with_reducible rfl)
    simp only [Act.put, List.setIfInBounds_toArray, List.set_cons_zero, List.set_cons_succ]
    refine AnyU.take (i := 15) (v := ?v113) rfl (by kernel_rfl) (by kernel_rfl) (by kernel_rfl) (by kernel_rfl) (fun _ _ _ h => h) (Or.inl ⟨by rfl, ?hy113⟩) hHeld ?r113
    case hy113 => (intro w hSw; (try dsimp only at hSw); go_simp <;> with_reducible rfl)
    simp only [Act.put, List.setIfInBounds_toArray, List.set_cons_zero, List.set_cons_succ]
    refine AnyU.take (i := 16) (v := ?v114) rfl (by kernel_rfl) (by kernel_rfl) (by kernel_rfl) (by kernel_rfl) (fun _ _ _ h => h) (Or.inl ⟨by rfl, ?hy114⟩) hHeld ?r114
    case hy114 => (intro w hSw; (try dsimp only at hSw); go_simp <;> with_reducible rfl)
    simp only [Act.put, List.setIfInBounds_toArray, List.set_cons_zero, List.set_cons_succ]
    refine AnyU.take (i := 17) (v := ?v115) rfl (by kernel_rfl) (by kernel_rfl) (by kernel_rfl) (by kernel_rfl) (fun _ _ _ h => h) (Or.inl ⟨by rfl, ?hy115⟩) hHeld ?r115
    case hy115 => (intro w hSw; (try dsimp only at hSw); go_simp <;> with_reducible rfl)
    simp only [Act.put, List.setIfInBounds_toArray, List.set_cons_zero, List.set_cons_succ]
    refine AnyU.take (i := 18) (v := ?v116) rfl (by kernel_rfl) (by kernel_rfl) (by kernel_rfl) (by kernel_rfl) (fun _ _ _ h => h) (Or.inl ⟨by rfl, ?hy116⟩) hHeld ?r116
    case hy116 => (intro w hSw; (try dsimp only at hSw); go_simp <;> with_reducible rfl)
    simp only [Act.put, List.setIfInBounds_toArray, List.set_cons_zero, List.set_cons_succ]
    refine AnyU.next (js := [19]) (by kernel_rfl) (by simp) (NextU.cons rfl (fun K hK => ?_) NextU.nil)
    go_simp
    refine hK.out _ _ (fun _ => hS3.out) (fun hHeld => ?_)
    replace hHeld := hHeld (by decide)
    try simp only [Act.put, List.setIfInBounds_toArray, List.set_cons_zero, List.set_cons_succ]
    refine AnyU.next (js := [20]) (by kernel_rfl) (by simp) (NextU.cons rfl (fun K hK => ?_) NextU.nil)
    go_simp
    refine (goes_any l2 (by have := HSL.out; have := HNN.out; have := HLL.out; omega) A3 c3 0 w3 HA3.out HD3.out.bs (Reads.of_own HD3.out.rs.row)).mono ?_
    rintro e w4 ⟨rfl, hb4⟩
    have HD4 := hide (HD3.out.below hb4)
    have HP4 := hide (HP3.out.below hb4)
    have hS4 := hide (And.intro HP4.out.cell.1 HP4.out.cell.2.2)
    have HB4 : Hid (Below B w w4) := hide (HB3.out.trans (hb4.mono (by have := HZ3.out; have := HBB.out; omega)))
    clear hb4 hHeld k1
    go_wp2_with fail
    refine hK.out _ _ (fun _ => hS4.out) (fun hHeld => ?_)
    replace hHeld := hHeld (by decide)
    try simp only [Act.put, List.setIfInBounds_toArray, List.set_cons_zero, List.set_cons_succ]
    refine AnyU.take (i := 21) (v := ?v117) rfl (by kernel_rfl) (by kernel_rfl) (by kernel_rfl) (by kernel_rfl) (fun _ _ _ h => h) (Or.inl ⟨by rfl, ?hy117⟩) hHeld ?r117
    case hy117 => (intro w hSw; (try dsimp only at hSw); go_simp <;> with_reducible rfl)
    simp only [Act.put, List.setIfInBounds_toArray, List.set_cons_zero, List.set_cons_succ]
    refine AnyU.take (i := 22) (v := ?v118) rfl (by kernel_rfl) (by kernel_rfl) (by kernel_rfl) (by kernel_rfl) (fun _ _ _ h => h) (Or.inl ⟨by rfl, ?hy118⟩) hHeld ?r118
    case hy118 => (intro w hSw; (try dsimp only at hSw); go_simp <;> with_reducible rfl)
    simp only [Act.put, List.setIfInBounds_toArray, List.set_cons_zero, List.set_cons_succ]
    refine AnyU.over (by kernel_rfl) ?_ _
    go_wp2_with fail
    go_ret
    exact ⟨rfl, _, _, HD4.out, ⟨rfl, by have := HSL.out; have := HLL.out; show l2.length ≤ n + 1; omega⟩, ⟨HT.out, Nat.le_succ_of_le HTL.out⟩, HB4.out⟩
  · go_enter Try.func12, Try.ntmps12
    go_wp2_with fail
    go_quiet (fail)
    have HB1 : Hid (Below w.heap.size w ((w.alloc (.cells #[.int .i64 1, .int .i64 on, .int .i64 bidder, .int .i64 leave, .int .i64 coins] 52)).drewN nq)) := hide (below_drewN ((Below.refl _ _).alloc (Nat.le_refl _) _) _)
    have HP1 : Hid (ParW w 1 on bidder leave coins ((w.alloc (.cells #[.int .i64 1, .int .i64 on, .int .i64 bidder, .int .i64 leave, .int .i64 coins] 52)).drewN nq)) := hide ⟨heap_alloc_new w _⟩
    have hcp := HP1.out.cell
    obtain ⟨p2, p3, p4⟩ := hcp
    obtain ⟨w1, hw1⟩ : ∃ w1, w1 = (w.alloc (.cells #[.int .i64 1, .int .i64 on, .int .i64 bidder, .int .i64 leave, .int .i64 coins] 52)).drewN nq := ⟨_, rfl⟩
    rw [← hw1] at HB1 HP1 p2 p3 p4
    have HD1 := hide (H0.out.below HB1.out)
    have d34 : w1.cell? ⟨w.heap.size, 0, none⟩ = some (.int .i64 1) := cell_of_row _ _ 0 _ _ (0, 0) HP1.out.blk
    have HSZ1 : Hid (w.heap.size < w1.heap.size) := hide (lt_of_block HP1.out.blk)
    clear c0 c1 c2 c3
    rw [← hw1]
    have HW1 := hide hw1
    clear hw1
    have HLL := hide (bidL_len f bidder coins lo)
    have HC1 : Hid (∀ W : World, BoxOf W B q v f lo → w.heap.size ≤ W.heap.size → Calls Try.prog 23 #[.pointer (some ⟨q, 0, none⟩), .int .i64 bidder, .int .i64 coins] W (OpP B q v f (bidL f bidder coins lo) (bidC f bidder coins) W)) := hide (fun W hb hz => bid_any B q v f bidder coins lo W hb (by have := HBB.out; omega) (by have := HSL.out; have := HNN.out; omega))
    have HC2 : Hid (∀ (W : World) u', RefOf W B r u' f lo → w.heap.size ≤ W.heap.size → Calls Try.prog 29 #[.pointer (some ⟨r, 0, none⟩), .int .i64 bidder, .int .i64 coins] W (RefP B r u' f (bidL f bidder coins lo) (bidC f bidder coins) W)) := hide (fun W u' hr hz => refbid_any B r u' f bidder coins lo W hr (by have := HBB.out; omega) (by have := HSL.out; have := HNN.out; omega))
    generalize bidC f bidder coins = cd at *
    generalize bidL f bidder coins lo = l2 at *
    go_wp2_with (go_at_call 15; refine (all_any _ _).mono ?_; rintro e _ ⟨rfl, rfl⟩)
    have HAa : Hid ((w1.alloc (.cells #[.pointer (some ⟨q, 0, none⟩)] 39)).drew.heap[w1.heap.size]? = some (.cells #[.pointer (some ⟨q, 0, none⟩)] 39 (0, 0))) := hide (heap_alloc_new w1 _)
    have HDd := hide (HD1.out.below (((Below.refl _ _).alloc (Nat.le_refl _) (.cells #[.pointer (some ⟨q, 0, none⟩)] 39)).drew))
    have HPd := hide (HP1.out.below (((Below.refl _ _).alloc (Nat.le_refl _) (.cells #[.pointer (some ⟨q, 0, none⟩)] 39)).drew))
    have HB1d := hide (HB1.out.trans ((((Below.refl _ w1).alloc (Nat.le_refl _) (.cells #[.pointer (some ⟨q, 0, none⟩)] 39)).drew).mono HB1.out.size))
    have hS0 := And.intro HPd.out.cell.1 HPd.out.cell.2.2
    refine wp_region_U 23 (fun W => W.cell? ⟨w.heap.size, 2, none⟩ = some (.int .i64 bidder) ∧ W.cell? ⟨w.heap.size, 4, none⟩ = some (.int .i64 coins)) rfl hS0 (fun hHeld => ?_)
    refine AnyU.take (i := 0) (v := ?v201) rfl (by kernel_rfl) (by kernel_rfl) (by kernel_rfl) (by kernel_rfl) (fun _ _ _ h => h) (Or.inl ⟨by rfl, ?hy201⟩) hHeld ?r201
    case hy201 => (intro w hSw; (try dsimp only at hSw); go_simp <;> with_reducible rfl)
    simp only [Act.put, List.setIfInBounds_toArray, List.set_cons_zero, List.set_cons_succ]
    refine AnyU.take (i := 1) (v := ?v202) rfl (by kernel_rfl) (by kernel_rfl) (by kernel_rfl) (by kernel_rfl) (fun _ _ _ h => h) (Or.inl ⟨by rfl, ?hy202⟩) hHeld ?r202
    case hy202 => (intro w hSw; (try dsimp only at hSw); go_simp <;> with_reducible rfl)
    simp only [Act.put, List.setIfInBounds_toArray, List.set_cons_zero, List.set_cons_succ]
    refine AnyU.take (i := 2) (v := ?v203) rfl (by kernel_rfl) (by kernel_rfl) (by kernel_rfl) (by kernel_rfl) (fun _ _ _ h => h) (Or.inl ⟨by rfl, ?hy203⟩) hHeld ?r203
    case hy203 => (intro w hSw; (try dsimp only at hSw); go_simp <;> with_reducible rfl)
    simp only [Act.put, List.setIfInBounds_toArray, List.set_cons_zero, List.set_cons_succ]
    refine AnyU.take (i := 3) (v := ?v204) rfl (by kernel_rfl) (by kernel_rfl) (by kernel_rfl) (by kernel_rfl) (fun _ _ _ h => h) (Or.inl ⟨by rfl, ?hy204⟩) hHeld ?r204
    case hy204 => (intro w hSw; (try dsimp only at hSw); go_simp <;> with_reducible rfl)
    simp only [Act.put, List.setIfInBounds_toArray, List.set_cons_zero, List.set_cons_succ]
    refine AnyU.take (i := 4) (v := ?v205) rfl (by kernel_rfl) (by kernel_rfl) (by kernel_rfl) (by kernel_rfl) (fun _ _ _ h => h) (Or.inl ⟨by rfl, ?hy205⟩) hHeld ?r205
    case hy205 => (intro w hSw; (try dsimp only at hSw); go_simp <;> with_reducible rfl)
    simp only [Act.put, List.setIfInBounds_toArray, List.set_cons_zero, List.set_cons_succ]
    refine AnyU.take (i := 7) (v := ?v206) rfl (by kernel_rfl) (by kernel_rfl) (by kernel_rfl) (by kernel_rfl) (fun _ _ _ h => h) (Or.inl ⟨by rfl, ?hy206⟩) hHeld ?r206
    case hy206 => (intro w hSw; (try dsimp only at hSw); go_simp <;> with_reducible rfl)
    simp only [Act.put, List.setIfInBounds_toArray, List.set_cons_zero, List.set_cons_succ]
    refine AnyU.take (i := 8) (v := ?v207) rfl (by kernel_rfl) (by kernel_rfl) (by kernel_rfl) (by kernel_rfl) (fun _ _ _ h => h) (Or.inl ⟨by rfl, ?hy207⟩) hHeld ?r207
    case hy207 => (intro w hSw; (try dsimp only at hSw); go_simp <;> with_reducible rfl)
    simp only [Act.put, List.setIfInBounds_toArray, List.set_cons_zero, List.set_cons_succ]
    refine AnyU.take (i := 9) (v := ?v208) rfl (by kernel_rfl) (by kernel_rfl) (by kernel_rfl) (by kernel_rfl) (fun _ _ _ h => h) (Or.inl ⟨by rfl, ?hy208⟩) hHeld ?r208
    case hy208 => (intro w hSw; (try dsimp only at hSw); go_simp <;> with_reducible rfl)
    simp only [Act.put, List.setIfInBounds_toArray, List.set_cons_zero, List.set_cons_succ]
    refine AnyU.take (i := 10) (v := ?v209) rfl (by kernel_rfl) (by kernel_rfl) (by kernel_rfl) (by kernel_rfl) (fun _ _ _ h => h) (Or.inl ⟨by rfl, ?hy209⟩) hHeld ?r209
    case hy209 => (intro w hSw; (try dsimp only at hSw); go_simp <;> with_reducible rfl)
    simp only [Act.put, List.setIfInBounds_toArray, List.set_cons_zero, List.set_cons_succ]
    refine AnyU.take (i := 11) (v := ?v210) rfl (by kernel_rfl) (by kernel_rfl) (by kernel_rfl) (by kernel_rfl) (fun _ _ _ h => h) (Or.inl ⟨by rfl, ?hy210⟩) hHeld ?r210
    case hy210 => (intro w hSw; (try dsimp only at hSw); go_simp <;> with_reducible rfl)
    simp only [Act.put, List.setIfInBounds_toArray, List.set_cons_zero, List.set_cons_succ]
    refine AnyU.next (js := [5]) (by kernel_rfl) (by simp) (NextU.cons rfl (fun K hK => ?_) NextU.nil)
    go_simp
    refine (HC1.out _ HDd.out.bs HB1d.out.size).mono ?_
    rintro e w2 ⟨rfl, v2, hbx2, ht2, hv2⟩
    have HD2 := hide (HDd.out.own1 hbx2 ht2 hv2)
    have HP2 := hide (HPd.out.turns ht2 (fun e => by have := (HFO.out _ e).2; omega))
    have hS2 := hide (And.intro HP2.out.cell.1 HP2.out.cell.2.2)
    have HA2 := hide ((ht2.block _ (lt_of_block HAa.out) (fun e => by have := (HFO.out _ e).2; have := HSZ1.out; omega)).trans HAa.out)
    have HB2 : Hid (Below B w w2) := hide ((HB1d.out.mono HBB.out).trans (ht2.below (by have := HB1d.out.size; have := HBB.out; omega) (fun k hk e => by have := (HFO.out _ e).1; omega)))
    have HZ2 : Hid (w.heap.size ≤ w2.heap.size) := hide (by have := HB1d.out.size; have := ht2.size; omega)
    clear hbx2 ht2 hv2 hS0 hHeld
    go_wp2_with fail
    refine hK.out _ _ (fun _ => hS2.out) (fun hHeld => ?_)
    replace hHeld := hHeld (by decide)
    try simp only [Act.put, List.setIfInBounds_toArray, List.set_cons_zero, List.set_cons_succ]
    refine AnyU.next (js := [6]) (by kernel_rfl) (by simp) (NextU.cons rfl (fun K hK => ?_) NextU.nil)
    go_simp
    refine (num_any _ _).mono ?_
    rintro e _ ⟨rfl, rfl⟩
    go_wp2_with fail
    refine hK.out _ _ (fun _ => hS2.out) (fun hHeld => ?_)
    replace hHeld := hHeld (by decide)
    try simp only [Act.put, List.setIfInBounds_toArray, List.set_cons_zero, List.set_cons_succ]
    refine AnyU.next (js := [12]) (by kernel_rfl) (by simp) (NextU.cons rfl (fun K hK => ?_) NextU.nil)
    go_simp
    refine (HC2.out w2 u HD2.out.rs HZ2.out).mono ?_
    rintro e w3 ⟨rfl, u3, hrx3, ht3, hu3⟩
    obtain ⟨A3, c3, rfl, _⟩ := own_sh hrx3.row
    have HD3 := hide (HD2.out.ref1 hrx3 ht3 hu3)
    have HP3 := hide (HP2.out.turns ht3 (fun e => by have := HRO.out.1; omega))
    have hS3 := hide (And.intro HP3.out.cell.1 HP3.out.cell.2.2)
    have k1 := hrx3.cell 1
    simp at k1
    have HA3 := hide ((ht3.block _ (lt_of_block HA2.out) (fun e => by have := HRO.out.1; have := HSZ1.out; omega)).trans HA2.out)
    have HB3 : Hid (Below B w w3) := hide (HB2.out.trans (ht3.below (by have := HZ2.out; have := HBB.out; omega) (fun k hk e => by have := HRO.out.2; omega)))
    have HZ3 : Hid (w.heap.size ≤ w3.heap.size) := hide (by have := HZ2.out; have := ht3.size; omega)
    clear hrx3 ht3 hu3 hHeld
    go_wp2_with fail
    refine hK.out _ _ (fun _ => hS3.out) (fun hHeld => ?_)
    replace hHeld := hHeld (by decide)
    try simp only [Act.put, List.setIfInBounds_toArray, List.set_cons_zero, List.set_cons_succ]
    refine AnyU.take (i := 13) (v := ?v211) rfl (by kernel_rfl) (by kernel_rfl) (by kernel_rfl) (by kernel_rfl) (fun _ _ _ h => h) (Or.inl ⟨by rfl, ?hy211⟩) hHeld ?r211
    case hy211 => (intro w hSw; (try dsimp only at hSw); go_simp <;> with_reducible rfl)
    simp only [Act.put, List.setIfInBounds_toArray, List.set_cons_zero, List.set_cons_succ]
    refine AnyU.take (i := 14) (v := ?v212) rfl (by kernel_rfl) (by kernel_rfl) (by kernel_rfl) (by kernel_rfl) (fun _ _ _ h => h) (Or.inl ⟨by rfl, ?hy212⟩) hHeld ?r212
    case hy212 => (intro w hSw; (try dsimp only at hSw); go_simp <;> with_reducible rfl)
    simp only [Act.put, List.setIfInBounds_toArray, List.set_cons_zero, List.set_cons_succ]
    refine AnyU.take (i := 15) (v := ?v213) rfl (by kernel_rfl) (by kernel_rfl) (by kernel_rfl) (by kernel_rfl) (fun _ _ _ h => h) (Or.inl ⟨by rfl, ?hy213⟩) hHeld ?r213
    case hy213 => (intro w hSw; (try dsimp only at hSw); go_simp <;> with_reducible rfl)
    simp only [Act.put, List.setIfInBounds_toArray, List.set_cons_zero, List.set_cons_succ]
    refine AnyU.take (i := 16) (v := ?v214) rfl (by kernel_rfl) (by kernel_rfl) (by kernel_rfl) (by kernel_rfl) (fun _ _ _ h => h) (Or.inl ⟨by rfl, ?hy214⟩) hHeld ?r214
    case hy214 => (intro w hSw; (try dsimp only at hSw); go_simp <;> with_reducible rfl)
    simp only [Act.put, List.setIfInBounds_toArray, List.set_cons_zero, List.set_cons_succ]
    refine AnyU.take (i := 17) (v := ?v215) rfl (by kernel_rfl) (by kernel_rfl) (by kernel_rfl) (by kernel_rfl) (fun _ _ _ h => h) (Or.inl ⟨by rfl, ?hy215⟩) hHeld ?r215
    case hy215 => (intro w hSw; (try dsimp only at hSw); go_simp <;> with_reducible rfl)
    simp only [Act.put, List.setIfInBounds_toArray, List.set_cons_zero, List.set_cons_succ]
    refine AnyU.take (i := 18) (v := ?v216) rfl (by kernel_rfl) (by kernel_rfl) (by kernel_rfl) (by kernel_rfl) (fun _ _ _ h => h) (Or.inl ⟨by rfl, ?hy216⟩) hHeld ?r216
    case hy216 => (intro w hSw; (try dsimp only at hSw); go_simp <;> with_reducible rfl)
    simp only [Act.put, List.setIfInBounds_toArray, List.set_cons_zero, List.set_cons_succ]
    refine AnyU.next (js := [19]) (by kernel_rfl) (by simp) (NextU.cons rfl (fun K hK => ?_) NextU.nil)
    go_simp
    refine hK.out _ _ (fun _ => hS3.out) (fun hHeld => ?_)
    replace hHeld := hHeld (by decide)
    try simp only [Act.put, List.setIfInBounds_toArray, List.set_cons_zero, List.set_cons_succ]
    refine AnyU.next (js := [20]) (by kernel_rfl) (by simp) (NextU.cons rfl (fun K hK => ?_) NextU.nil)
    go_simp
    refine (goes_any l2 (by have := HSL.out; have := HNN.out; have := HLL.out; omega) A3 c3 0 w3 HA3.out HD3.out.bs (Reads.of_own HD3.out.rs.row)).mono ?_
    rintro e w4 ⟨rfl, hb4⟩
    have HD4 := hide (HD3.out.below hb4)
    have HP4 := hide (HP3.out.below hb4)
    have hS4 := hide (And.intro HP4.out.cell.1 HP4.out.cell.2.2)
    have HB4 : Hid (Below B w w4) := hide (HB3.out.trans (hb4.mono (by have := HZ3.out; have := HBB.out; omega)))
    clear hb4 hHeld k1
    go_wp2_with fail
    refine hK.out _ _ (fun _ => hS4.out) (fun hHeld => ?_)
    replace hHeld := hHeld (by decide)
    try simp only [Act.put, List.setIfInBounds_toArray, List.set_cons_zero, List.set_cons_succ]
    refine AnyU.take (i := 21) (v := ?v217) rfl (by kernel_rfl) (by kernel_rfl) (by kernel_rfl) (by kernel_rfl) (fun _ _ _ h => h) (Or.inl ⟨by rfl, ?hy217⟩) hHeld ?r217
    case hy217 => (intro w hSw; (try dsimp only at hSw); go_simp <;> with_reducible rfl)
    simp only [Act.put, List.setIfInBounds_toArray, List.set_cons_zero, List.set_cons_succ]
    refine AnyU.take (i := 22) (v := ?v218) rfl (by kernel_rfl) (by kernel_rfl) (by kernel_rfl) (by kernel_rfl) (fun _ _ _ h => h) (Or.inl ⟨by rfl, ?hy218⟩) hHeld ?r218
    case hy218 => (intro w hSw; (try dsimp only at hSw); go_simp <;> with_reducible rfl)
    simp only [Act.put, List.setIfInBounds_toArray, List.set_cons_zero, List.set_cons_succ]
    refine AnyU.over (by kernel_rfl) ?_ _
    go_wp2_with fail
    go_ret
    exact ⟨rfl, _, _, HD4.out, ⟨rfl, by have := HSL.out; have := HLL.out; show l2.length ≤ n + 1; omega⟩, ⟨HT.out, Nat.le_succ_of_le HTL.out⟩, HB4.out⟩
  · go_enter Try.func12, Try.ntmps12
    go_wp2_with fail
    go_quiet (fail)
    have HB1 : Hid (Below w.heap.size w ((w.alloc (.cells #[.int .i64 1, .int .i64 on, .int .i64 bidder, .int .i64 leave, .int .i64 coins] 52)).drewN nq)) := hide (below_drewN ((Below.refl _ _).alloc (Nat.le_refl _) _) _)
    have HP1 : Hid (ParW w 1 on bidder leave coins ((w.alloc (.cells #[.int .i64 1, .int .i64 on, .int .i64 bidder, .int .i64 leave, .int .i64 coins] 52)).drewN nq)) := hide ⟨heap_alloc_new w _⟩
    have hcp := HP1.out.cell
    obtain ⟨p2, p3, p4⟩ := hcp
    obtain ⟨w1, hw1⟩ : ∃ w1, w1 = (w.alloc (.cells #[.int .i64 1, .int .i64 on, .int .i64 bidder, .int .i64 leave, .int .i64 coins] 52)).drewN nq := ⟨_, rfl⟩
    rw [← hw1] at HB1 HP1 p2 p3 p4
    have HD1 := hide (H0.out.below HB1.out)
    have d34 : w1.cell? ⟨w.heap.size, 0, none⟩ = some (.int .i64 1) := cell_of_row _ _ 0 _ _ (0, 0) HP1.out.blk
    have HSZ1 : Hid (w.heap.size < w1.heap.size) := hide (lt_of_block HP1.out.blk)
    clear c0 c1 c2 c3
    rw [← hw1]
    have HW1 := hide hw1
    clear hw1
    have HLL := hide (bidL_len f bidder coins lo)
    have HC1 : Hid (∀ W : World, BoxOf W B q v f lo → w.heap.size ≤ W.heap.size → Calls Try.prog 23 #[.pointer (some ⟨q, 0, none⟩), .int .i64 bidder, .int .i64 coins] W (OpP B q v f (bidL f bidder coins lo) (bidC f bidder coins) W)) := hide (fun W hb hz => bid_any B q v f bidder coins lo W hb (by have := HBB.out; omega) (by have := HSL.out; have := HNN.out; omega))
    have HC2 : Hid (∀ (W : World) u', RefOf W B r u' f lo → w.heap.size ≤ W.heap.size → Calls Try.prog 29 #[.pointer (some ⟨r, 0, none⟩), .int .i64 bidder, .int .i64 coins] W (RefP B r u' f (bidL f bidder coins lo) (bidC f bidder coins) W)) := hide (fun W u' hr hz => refbid_any B r u' f bidder coins lo W hr (by have := HBB.out; omega) (by have := HSL.out; have := HNN.out; omega))
    generalize bidC f bidder coins = cd at *
    generalize bidL f bidder coins lo = l2 at *
    go_wp2_with (go_at_call 15; refine (all_any _ _).mono ?_; rintro e _ ⟨rfl, rfl⟩)
    have HAa : Hid ((w1.alloc (.cells #[.pointer (some ⟨q, 0, none⟩)] 39)).drew.heap[w1.heap.size]? = some (.cells #[.pointer (some ⟨q, 0, none⟩)] 39 (0, 0))) := hide (heap_alloc_new w1 _)
    have HDd := hide (HD1.out.below (((Below.refl _ _).alloc (Nat.le_refl _) (.cells #[.pointer (some ⟨q, 0, none⟩)] 39)).drew))
    have HPd := hide (HP1.out.below (((Below.refl _ _).alloc (Nat.le_refl _) (.cells #[.pointer (some ⟨q, 0, none⟩)] 39)).drew))
    have HB1d := hide (HB1.out.trans ((((Below.refl _ w1).alloc (Nat.le_refl _) (.cells #[.pointer (some ⟨q, 0, none⟩)] 39)).drew).mono HB1.out.size))
    have hS0 := And.intro HPd.out.cell.1 HPd.out.cell.2.2
    refine wp_region_U 23 (fun W => W.cell? ⟨w.heap.size, 2, none⟩ = some (.int .i64 bidder) ∧ W.cell? ⟨w.heap.size, 4, none⟩ = some (.int .i64 coins)) rfl hS0 (fun hHeld => ?_)
    refine AnyU.take (i := 0) (v := ?v301) rfl (by kernel_rfl) (by kernel_rfl) (by kernel_rfl) (by kernel_rfl) (fun _ _ _ h => h) (Or.inl ⟨by rfl, ?hy301⟩) hHeld ?r301
    case hy301 => (intro w hSw; (try dsimp only at hSw); go_simp <;> with_reducible rfl)
    simp only [Act.put, List.setIfInBounds_toArray, List.set_cons_zero, List.set_cons_succ]
    refine AnyU.take (i := 1) (v := ?v302) rfl (by kernel_rfl) (by kernel_rfl) (by kernel_rfl) (by kernel_rfl) (fun _ _ _ h => h) (Or.inl ⟨by rfl, ?hy302⟩) hHeld ?r302
    case hy302 => (intro w hSw; (try dsimp only at hSw); go_simp <;> with_reducible rfl)
    simp only [Act.put, List.setIfInBounds_toArray, List.set_cons_zero, List.set_cons_succ]
    refine AnyU.take (i := 2) (v := ?v303) rfl (by kernel_rfl) (by kernel_rfl) (by kernel_rfl) (by kernel_rfl) (fun _ _ _ h => h) (Or.inl ⟨by rfl, ?hy303⟩) hHeld ?r303
    case hy303 => (intro w hSw; (try dsimp only at hSw); go_simp <;> with_reducible rfl)
    simp only [Act.put, List.setIfInBounds_toArray, List.set_cons_zero, List.set_cons_succ]
    refine AnyU.take (i := 3) (v := ?v304) rfl (by kernel_rfl) (by kernel_rfl) (by kernel_rfl) (by kernel_rfl) (fun _ _ _ h => h) (Or.inl ⟨by rfl, ?hy304⟩) hHeld ?r304
    case hy304 => (intro w hSw; (try dsimp only at hSw); go_simp <;> with_reducible rfl)
    simp only [Act.put, List.setIfInBounds_toArray, List.set_cons_zero, List.set_cons_succ]
    refine AnyU.take (i := 4) (v := ?v305) rfl (by kernel_rfl) (by kernel_rfl) (by kernel_rfl) (by kernel_rfl) (fun _ _ _ h => h) (Or.inl ⟨by rfl, ?hy305⟩) hHeld ?r305
    case hy305 => (intro w hSw; (try dsimp only at hSw); go_simp <;> with_reducible rfl)
    simp only [Act.put, List.setIfInBounds_toArray, List.set_cons_zero, List.set_cons_succ]
    refine AnyU.take (i := 7) (v := ?v306) rfl (by kernel_rfl) (by kernel_rfl) (by kernel_rfl) (by kernel_rfl) (fun _ _ _ h => h) (Or.inl ⟨by rfl, ?hy306⟩) hHeld ?r306
    case hy306 => (intro w hSw; (try dsimp only at hSw); go_simp <;> with_reducible rfl)
    simp only [Act.put, List.setIfInBounds_toArray, List.set_cons_zero, List.set_cons_succ]
    refine AnyU.take (i := 8) (v := ?v307) rfl (by kernel_rfl) (by kernel_rfl) (by kernel_rfl) (by kernel_rfl) (fun _ _ _ h => h) (Or.inl ⟨by rfl, ?hy307⟩) hHeld ?r307
    case hy307 => (intro w hSw; (try dsimp only at hSw); go_simp <;> with_reducible rfl)
    simp only [Act.put, List.setIfInBounds_toArray, List.set_cons_zero, List.set_cons_succ]
    refine AnyU.take (i := 9) (v := ?v308) rfl (by kernel_rfl) (by kernel_rfl) (by kernel_rfl) (by kernel_rfl) (fun _ _ _ h => h) (Or.inl ⟨by rfl, ?hy308⟩) hHeld ?r308
    case hy308 => (intro w hSw; (try dsimp only at hSw); go_simp <;> with_reducible rfl)
    simp only [Act.put, List.setIfInBounds_toArray, List.set_cons_zero, List.set_cons_succ]
    refine AnyU.take (i := 10) (v := ?v309) rfl (by kernel_rfl) (by kernel_rfl) (by kernel_rfl) (by kernel_rfl) (fun _ _ _ h => h) (Or.inl ⟨by rfl, ?hy309⟩) hHeld ?r309
    case hy309 => (intro w hSw; (try dsimp only at hSw); go_simp <;> with_reducible rfl)
    simp only [Act.put, List.setIfInBounds_toArray, List.set_cons_zero, List.set_cons_succ]
    refine AnyU.take (i := 11) (v := ?v310) rfl (by kernel_rfl) (by kernel_rfl) (by kernel_rfl) (by kernel_rfl) (fun _ _ _ h => h) (Or.inl ⟨by rfl, ?hy310⟩) hHeld ?r310
    case hy310 => (intro w hSw; (try dsimp only at hSw); go_simp <;> with_reducible rfl)
    simp only [Act.put, List.setIfInBounds_toArray, List.set_cons_zero, List.set_cons_succ]
    refine AnyU.next (js := [5]) (by kernel_rfl) (by simp) (NextU.cons rfl (fun K hK => ?_) NextU.nil)
    go_simp
    refine (HC1.out _ HDd.out.bs HB1d.out.size).mono ?_
    rintro e w2 ⟨rfl, v2, hbx2, ht2, hv2⟩
    have HD2 := hide (HDd.out.own1 hbx2 ht2 hv2)
    have HP2 := hide (HPd.out.turns ht2 (fun e => by have := (HFO.out _ e).2; omega))
    have hS2 := hide (And.intro HP2.out.cell.1 HP2.out.cell.2.2)
    have HA2 := hide ((ht2.block _ (lt_of_block HAa.out) (fun e => by have := (HFO.out _ e).2; have := HSZ1.out; omega)).trans HAa.out)
    have HB2 : Hid (Below B w w2) := hide ((HB1d.out.mono HBB.out).trans (ht2.below (by have := HB1d.out.size; have := HBB.out; omega) (fun k hk e => by have := (HFO.out _ e).1; omega)))
    have HZ2 : Hid (w.heap.size ≤ w2.heap.size) := hide (by have := HB1d.out.size; have := ht2.size; omega)
    clear hbx2 ht2 hv2 hS0 hHeld
    go_wp2_with fail
    refine hK.out _ _ (fun _ => hS2.out) (fun hHeld => ?_)
    replace hHeld := hHeld (by decide)
    try simp only [Act.put, List.setIfInBounds_toArray, List.set_cons_zero, List.set_cons_succ]
    refine AnyU.next (js := [6]) (by kernel_rfl) (by simp) (NextU.cons rfl (fun K hK => ?_) NextU.nil)
    go_simp
    refine (num_any _ _).mono ?_
    rintro e _ ⟨rfl, rfl⟩
    go_wp2_with fail
    refine hK.out _ _ (fun _ => hS2.out) (fun hHeld => ?_)
    replace hHeld := hHeld (by decide)
    try simp only [Act.put, List.setIfInBounds_toArray, List.set_cons_zero, List.set_cons_succ]
    refine AnyU.next (js := [12]) (by kernel_rfl) (by simp) (NextU.cons rfl (fun K hK => ?_) NextU.nil)
    go_simp
    refine (HC2.out w2 u HD2.out.rs HZ2.out).mono ?_
    rintro e w3 ⟨rfl, u3, hrx3, ht3, hu3⟩
    obtain ⟨A3, c3, rfl, _⟩ := own_sh hrx3.row
    have HD3 := hide (HD2.out.ref1 hrx3 ht3 hu3)
    have HP3 := hide (HP2.out.turns ht3 (fun e => by have := HRO.out.1; omega))
    have hS3 := hide (And.intro HP3.out.cell.1 HP3.out.cell.2.2)
    have k1 := hrx3.cell 1
    simp at k1
    have HA3 := hide ((ht3.block _ (lt_of_block HA2.out) (fun e => by have := HRO.out.1; have := HSZ1.out; omega)).trans HA2.out)
    have HB3 : Hid (Below B w w3) := hide (HB2.out.trans (ht3.below (by have := HZ2.out; have := HBB.out; omega) (fun k hk e => by have := HRO.out.2; omega)))
    have HZ3 : Hid (w.heap.size ≤ w3.heap.size) := hide (by have := HZ2.out; have := ht3.size; omega)
    clear hrx3 ht3 hu3 hHeld
    go_wp2_with fail
    refine hK.out _ _ (fun _ => hS3.out) (fun hHeld => ?_)
    replace hHeld := hHeld (by decide)
    try simp only [Act.put, List.setIfInBounds_toArray, List.set_cons_zero, List.set_cons_succ]
    refine AnyU.take (i := 13) (v := ?v311) rfl (by kernel_rfl) (by kernel_rfl) (by kernel_rfl) (by kernel_rfl) (fun _ _ _ h => h) (Or.inl ⟨by rfl, ?hy311⟩) hHeld ?r311
    case hy311 => (intro w hSw; (try dsimp only at hSw); go_simp <;> with_reducible rfl)
    simp only [Act.put, List.setIfInBounds_toArray, List.set_cons_zero, List.set_cons_succ]
    refine AnyU.take (i := 14) (v := ?v312) rfl (by kernel_rfl) (by kernel_rfl) (by kernel_rfl) (by kernel_rfl) (fun _ _ _ h => h) (Or.inl ⟨by rfl, ?hy312⟩) hHeld ?r312
    case hy312 => (intro w hSw; (try dsimp only at hSw); go_simp <;> with_reducible rfl)
    simp only [Act.put, List.setIfInBounds_toArray, List.set_cons_zero, List.set_cons_succ]
    refine AnyU.take (i := 15) (v := ?v313) rfl (by kernel_rfl) (by kernel_rfl) (by kernel_rfl) (by kernel_rfl) (fun _ _ _ h => h) (Or.inl ⟨by rfl, ?hy313⟩) hHeld ?r313
    case hy313 => (intro w hSw; (try dsimp only at hSw); go_simp <;> with_reducible rfl)
    simp only [Act.put, List.setIfInBounds_toArray, List.set_cons_zero, List.set_cons_succ]
    refine AnyU.take (i := 16) (v := ?v314) rfl (by kernel_rfl) (by kernel_rfl) (by kernel_rfl) (by kernel_rfl) (fun _ _ _ h => h) (Or.inl ⟨by rfl, ?hy314⟩) hHeld ?r314
    case hy314 => (intro w hSw; (try dsimp only at hSw); go_simp <;> with_reducible rfl)
    simp only [Act.put, List.setIfInBounds_toArray, List.set_cons_zero, List.set_cons_succ]
    refine AnyU.take (i := 17) (v := ?v315) rfl (by kernel_rfl) (by kernel_rfl) (by kernel_rfl) (by kernel_rfl) (fun _ _ _ h => h) (Or.inl ⟨by rfl, ?hy315⟩) hHeld ?r315
    case hy315 => (intro w hSw; (try dsimp only at hSw); go_simp <;> with_reducible rfl)
    simp only [Act.put, List.setIfInBounds_toArray, List.set_cons_zero, List.set_cons_succ]
    refine AnyU.take (i := 18) (v := ?v316) rfl (by kernel_rfl) (by kernel_rfl) (by kernel_rfl) (by kernel_rfl) (fun _ _ _ h => h) (Or.inl ⟨by rfl, ?hy316⟩) hHeld ?r316
    case hy316 => (intro w hSw; (try dsimp only at hSw); go_simp <;> with_reducible rfl)
    simp only [Act.put, List.setIfInBounds_toArray, List.set_cons_zero, List.set_cons_succ]
    refine AnyU.next (js := [19]) (by kernel_rfl) (by simp) (NextU.cons rfl (fun K hK => ?_) NextU.nil)
    go_simp
    refine hK.out _ _ (fun _ => hS3.out) (fun hHeld => ?_)
    replace hHeld := hHeld (by decide)
    try simp only [Act.put, List.setIfInBounds_toArray, List.set_cons_zero, List.set_cons_succ]
    refine AnyU.next (js := [20]) (by kernel_rfl) (by simp) (NextU.cons rfl (fun K hK => ?_) NextU.nil)
    go_simp
    refine (goes_any l2 (by have := HSL.out; have := HNN.out; have := HLL.out; omega) A3 c3 0 w3 HA3.out HD3.out.bs (Reads.of_own HD3.out.rs.row)).mono ?_
    rintro e w4 ⟨rfl, hb4⟩
    have HD4 := hide (HD3.out.below hb4)
    have HP4 := hide (HP3.out.below hb4)
    have hS4 := hide (And.intro HP4.out.cell.1 HP4.out.cell.2.2)
    have HB4 : Hid (Below B w w4) := hide (HB3.out.trans (hb4.mono (by have := HZ3.out; have := HBB.out; omega)))
    clear hb4 hHeld k1
    go_wp2_with fail
    refine hK.out _ _ (fun _ => hS4.out) (fun hHeld => ?_)
    replace hHeld := hHeld (by decide)
    try simp only [Act.put, List.setIfInBounds_toArray, List.set_cons_zero, List.set_cons_succ]
    refine AnyU.take (i := 21) (v := ?v317) rfl (by kernel_rfl) (by kernel_rfl) (by kernel_rfl) (by kernel_rfl) (fun _ _ _ h => h) (Or.inl ⟨by rfl, ?hy317⟩) hHeld ?r317
    case hy317 => (intro w hSw; (try dsimp only at hSw); go_simp <;> with_reducible rfl)
    simp only [Act.put, List.setIfInBounds_toArray, List.set_cons_zero, List.set_cons_succ]
    refine AnyU.take (i := 22) (v := ?v318) rfl (by kernel_rfl) (by kernel_rfl) (by kernel_rfl) (by kernel_rfl) (fun _ _ _ h => h) (Or.inl ⟨by rfl, ?hy318⟩) hHeld ?r318
    case hy318 => (intro w hSw; (try dsimp only at hSw); go_simp <;> with_reducible rfl)
    simp only [Act.put, List.setIfInBounds_toArray, List.set_cons_zero, List.set_cons_succ]
    refine AnyU.over (by kernel_rfl) ?_ _
    go_wp2_with fail
    go_ret
    exact ⟨rfl, _, _, HD4.out, ⟨rfl, by have := HSL.out; have := HLL.out; show l2.length ≤ n + 1; omega⟩, ⟨HT.out, Nat.le_succ_of_le HTL.out⟩, HB4.out⟩

set_option maxRecDepth 100000 in
set_option maxHeartbeats 8000000 in
theorem step2 (B wp n : Nat) (b : Bool) (q : Nat) (v : Value) (r : Nat) (u : Value) (f : Int) (lo : List (Int × Int)) (t : Side) (on tt bidder leave coins : Int) (w : World) (h : Duo w B wp b ⟨q, v, r, u, f, lo, lo⟩ t) (hlo : lo.length ≤ n) (ht : t.lr = t.lo ∧ t.lo.length ≤ n) (hn : n ≤ 1000) (hB : B ≤ w.heap.size)
    (hon : on.tmod 2 = tt) (htt : tt = -1 ∧ b = true ∨ tt = 0 ∧ b = false ∨ tt = 1 ∧ b = true) :
    Calls Try.prog 12 #[.pointer (some ⟨wp, 0, none⟩), opV 2 on bidder leave coins] w (StepP B wp (n + 1) b w) := by
  have hlt := lt_of_block h.blk
  have c0 := fun ob : Obj => (World.cell?_alloc_lt w ob ⟨wp, 0, none⟩ hlt).trans (cell_of_row w wp 0 _ _ (0, 0) h.blk)
  have c1 := fun ob : Obj => (World.cell?_alloc_lt w ob ⟨wp, 1, none⟩ hlt).trans (cell_of_row w wp 1 _ _ (0, 0) h.blk)
  have c2 := fun ob : Obj => (World.cell?_alloc_lt w ob ⟨wp, 2, none⟩ hlt).trans (cell_of_row w wp 2 _ _ (0, 0) h.blk)
  have c3 := fun ob : Obj => (World.cell?_alloc_lt w ob ⟨wp, 3, none⟩ hlt).trans (cell_of_row w wp 3 _ _ (0, 0) h.blk)
  have H0 := hide h
  have HT := hide ht.1
  have HSL := hide hlo
  have HTL := hide ht.2
  have HFO : Hid (∀ k, Foot q v k → B ≤ k ∧ k < w.heap.size) := hide h.foot
  have HRO : Hid (r < w.heap.size ∧ B ≤ r) := hide ⟨lt_of_block h.rs.blk, h.rs.base⟩
  have HBB := hide hB
  have HNN := hide hn
  clear h hlo ht hB hlt hn
  simp only [opV]
  rcases htt with ⟨rfl, rfl⟩ | ⟨rfl, rfl⟩ | ⟨rfl, rfl⟩
  all_goals simp only [duoC, ptr, if_true, if_false, Bool.false_eq_true, List.getElem?_toArray, List.getElem?_cons_zero, List.getElem?_cons_succ] at c0 c1 c2 c3
  · go_enter Try.func12, Try.ntmps12
    go_wp2_with fail
    go_quiet (fail)
    have HB1 : Hid (Below w.heap.size w ((w.alloc (.cells #[.int .i64 2, .int .i64 on, .int .i64 bidder, .int .i64 leave, .int .i64 coins] 52)).drewN nq)) := hide (below_drewN ((Below.refl _ _).alloc (Nat.le_refl _) _) _)
    have HP1 : Hid (ParW w 2 on bidder leave coins ((w.alloc (.cells #[.int .i64 2, .int .i64 on, .int .i64 bidder, .int .i64 leave, .int .i64 coins] 52)).drewN nq)) := hide ⟨heap_alloc_new w _⟩
    have hcp := HP1.out.cell
    obtain ⟨p2, p3, p4⟩ := hcp
    obtain ⟨w1, hw1⟩ : ∃ w1, w1 = (w.alloc (.cells #[.int .i64 2, .int .i64 on, .int .i64 bidder, .int .i64 leave, .int .i64 coins] 52)).drewN nq := ⟨_, rfl⟩
    rw [← hw1] at HB1 HP1 p2 p3 p4
    have HD1 := hide (H0.out.below HB1.out)
    have d34 : w1.cell? ⟨w.heap.size, 0, none⟩ = some (.int .i64 2) := cell_of_row _ _ 0 _ _ (0, 0) HP1.out.blk
    have HSZ1 : Hid (w.heap.size < w1.heap.size) := hide (lt_of_block HP1.out.blk)
    clear c0 c1 c2 c3
    rw [← hw1]
    have HW1 := hide hw1
    clear hw1
    have HLL := hide (bidL_len f bidder coins lo)
    have HC1 : Hid (∀ W : World, BoxOf W B q v f lo → w.heap.size ≤ W.heap.size → Calls Try.prog 23 #[.pointer (some ⟨q, 0, none⟩), .int .i64 bidder, .int .i64 coins] W (OpP B q v f (bidL f bidder coins lo) (bidC f bidder coins) W)) := hide (fun W hb hz => bid_any B q v f bidder coins lo W hb (by have := HBB.out; omega) (by have := HSL.out; have := HNN.out; omega))
    have HC2 : Hid (∀ (W : World) u', RefOf W B r u' f lo → w.heap.size ≤ W.heap.size → Calls Try.prog 29 #[.pointer (some ⟨r, 0, none⟩), .int .i64 bidder, .int .i64 coins] W (RefP B r u' f (bidL f bidder coins lo) (bidC f bidder coins) W)) := hide (fun W u' hr hz => refbid_any B r u' f bidder coins lo W hr (by have := HBB.out; omega) (by have := HSL.out; have := HNN.out; omega))
    generalize bidC f bidder coins = cd at *
    generalize bidL f bidder coins lo = l2 at *
    go_wp2_with (go_at_call 15; refine (all_any _ _).mono ?_; rintro e _ ⟨rfl, rfl⟩)
    have HAa : Hid ((w1.alloc (.cells #[.pointer (some ⟨q, 0, none⟩)] 39)).drew.heap[w1.heap.size]? = some (.cells #[.pointer (some ⟨q, 0, none⟩)] 39 (0, 0))) := hide (heap_alloc_new w1 _)
    have HDd := hide (HD1.out.below (((Below.refl _ _).alloc (Nat.le_refl _) (.cells #[.pointer (some ⟨q, 0, none⟩)] 39)).drew))
    have HPd := hide (HP1.out.below (((Below.refl _ _).alloc (Nat.le_refl _) (.cells #[.pointer (some ⟨q, 0, none⟩)] 39)).drew))
    have HB1d := hide (HB1.out.trans ((((Below.refl _ w1).alloc (Nat.le_refl _) (.cells #[.pointer (some ⟨q, 0, none⟩)] 39)).drew).mono HB1.out.size))
    have hS0 := And.intro HPd.out.cell.1 HPd.out.cell.2.2
    refine wp_region_U 23 (fun W => W.cell? ⟨w.heap.size, 2, none⟩ = some (.int .i64 bidder) ∧ W.cell? ⟨w.heap.size, 4, none⟩ = some (.int .i64 coins)) rfl hS0 (fun hHeld => ?_)
    refine AnyU.take (i := 0) (v := ?v101) rfl (by kernel_rfl) (by kernel_rfl) (by kernel_rfl) (by kernel_rfl) (fun _ _ _ h => h) (Or.inl ⟨by rfl, ?hy101⟩) hHeld ?r101
    case hy101 => (intro w hSw; (try dsimp only at hSw); go_simp <;> with_reducible rfl)
    simp only [Act.put, List.setIfInBounds_toArray, List.set_cons_zero, List.set_cons_succ]
    refine AnyU.take (i := 1) (v := ?v102) rfl (by kernel_rfl) (by kernel_rfl) (by kernel_rfl) (by kernel_rfl) (fun _ _ _ h => h) (Or.inl ⟨by rfl, ?hy102⟩) hHeld ?r102
    case hy102 => (intro w hSw; (try dsimp only at hSw); go_simp <;> with_reducible rfl)
    simp only [Act.put, List.setIfInBounds_toArray, List.set_cons_zero, List.set_cons_succ]
    refine AnyU.take (i := 2) (v := ?v103) rfl (by kernel_rfl) (by kernel_rfl) (by kernel_rfl) (by kernel_rfl) (fun _ _ _ h => h) (Or.inl ⟨by rfl, ?hy103⟩) hHeld ?r103
    case hy103 => (intro w hSw; (try dsimp only at hSw); go_simp <;> with_reducible rfl)
    simp only [Act.put, List.setIfInBounds_toArray, List.set_cons_zero, List.set_cons_succ]
    refine AnyU.take (i := 3) (v := ?v104) rfl (by kernel_rfl) (by kernel_rfl) (by kernel_rfl) (by kernel_rfl) (fun _ _ _ h => h) (Or.inl ⟨by rfl, ?hy104⟩) hHeld ?r104
    case hy104 => (intro w hSw; (try dsimp only at hSw); go_simp <;> with_reducible rfl)
    simp only [Act.put, List.setIfInBounds_toArray, List.set_cons_zero, List.set_cons_succ]
    refine AnyU.take (i := 4) (v := ?v105) rfl (by kernel_rfl) (by kernel_rfl) (by kernel_rfl) (by kernel_rfl) (fun _ _ _ h => h) (Or.inl ⟨by rfl, ?hy105⟩) hHeld ?r105
    case hy105 => (intro w hSw; (try dsimp only at hSw); go_simp <;> with_reducible rfl)
    simp only [Act.put, List.setIfInBounds_toArray, List.set_cons_zero, List.set_cons_succ]
    refine AnyU.take (i := 7) (v := ?v106) rfl (by kernel_rfl) (by kernel_rfl) (by kernel_rfl) (by kernel_rfl) (fun _ _ _ h => h) (Or.inl ⟨by rfl, ?hy106⟩) hHeld ?r106
    case hy106 => (intro w hSw; (try dsimp only at hSw); go_simp <;> with_reducible rfl)
    simp only [Act.put, List.setIfInBounds_toArray, List.set_cons_zero, List.set_cons_succ]
    refine AnyU.take (i := 8) (v := ?v107) rfl (by kernel_rfl) (by kernel_rfl) (by kernel_rfl) (by kernel_rfl) (fun _ _ _ h => h) (Or.inl ⟨by rfl, ?hy107⟩) hHeld ?r107
    case hy107 => (intro w hSw; (try dsimp only at hSw); go_simp <;> with_reducible rfl)
    simp only [Act.put, List.setIfInBounds_toArray, List.set_cons_zero, List.set_cons_succ]
    refine AnyU.take (i := 9) (v := ?v108) rfl (by kernel_rfl) (by kernel_rfl) (by kernel_rfl) (by kernel_rfl) (fun _ _ _ h => h) (Or.inl ⟨by rfl, ?hy108⟩) hHeld ?r108
    case hy108 => (intro w hSw; (try dsimp only at hSw); go_simp <;> with_reducible rfl)
    simp only [Act.put, List.setIfInBounds_toArray, List.set_cons_zero, List.set_cons_succ]
    refine AnyU.take (i := 10) (v := ?v109) rfl (by kernel_rfl) (by kernel_rfl) (by kernel_rfl) (by kernel_rfl) (fun _ _ _ h => h) (Or.inl ⟨by rfl, ?hy109⟩) hHeld ?r109
    case hy109 => (intro w hSw; (try dsimp only at hSw); go_simp <;> with_reducible rfl)
    simp only [Act.put, List.setIfInBounds_toArray, List.set_cons_zero, List.set_cons_succ]
    refine AnyU.take (i := 11) (v := ?v110) rfl (by kernel_rfl) (by kernel_rfl) (by kernel_rfl) (by kernel_rfl) (fun _ _ _ h => h) (Or.inl ⟨by rfl, ?hy110⟩) hHeld ?r110
    case hy110 => (intro w hSw; (try dsimp only at hSw); go_simp <;> with_reducible rfl)
    simp only [Act.put, List.setIfInBounds_toArray, List.set_cons_zero, List.set_cons_succ]
    refine AnyU.next (js := [5]) (by kernel_rfl) (by simp) (NextU.cons rfl (fun K hK => ?_) NextU.nil)
    go_simp
    refine (HC1.out _ HDd.out.bs HB1d.out.size).mono ?_
    rintro e w2 ⟨rfl, v2, hbx2, ht2, hv2⟩
    have HD2 := hide (HDd.out.own1 hbx2 ht2 hv2)
    have HP2 := hide (HPd.out.turns ht2 (fun e => by have := (HFO.out _ e).2; omega))
    have hS2 := hide (And.intro HP2.out.cell.1 HP2.out.cell.2.2)
    have HA2 := hide ((ht2.block _ (lt_of_block HAa.out) (fun e => by have := (HFO.out _ e).2; have := HSZ1.out; omega)).trans HAa.out)
    have HB2 : Hid (Below B w w2) := hide ((HB1d.out.mono HBB.out).trans (ht2.below (by have := HB1d.out.size; have := HBB.out; omega) (fun k hk e => by have := (HFO.out _ e).1; omega)))
    have HZ2 : Hid (w.heap.size ≤ w2.heap.size) := hide (by have := HB1d.out.size; have := ht2.size; omega)
    clear hbx2 ht2 hv2 hS0 hHeld
    go_wp2_with fail
    refine hK.out _ _ (fun _ => hS2.out) (fun hHeld => ?_)
    replace hHeld := hHeld (by decide)
    try simp only [Act.put, List.setIfInBounds_toArray, List.set_cons_zero, List.set_cons_succ]
    refine AnyU.next (js := [6]) (by kernel_rfl) (by simp) (NextU.cons rfl (fun K hK => ?_) NextU.nil)
    go_simp
    refine (num_any _ _).mono ?_
    rintro e _ ⟨rfl, rfl⟩
    go_wp2_with fail
    refine hK.out _ _ (fun _ => hS2.out) (fun hHeld => ?_)
    replace hHeld := hHeld (by decide)
    try simp only [Act.put, List.setIfInBounds_toArray, List.set_cons_zero, List.set_cons_succ]
    refine AnyU.next (js := [12]) (by kernel_rfl) (by simp) (NextU.cons rfl (fun K hK => ?_) NextU.nil)
    go_simp
    refine (HC2.out w2 u HD2.out.rs HZ2.out).mono ?_
    rintro e w3 ⟨rfl, u3, hrx3, ht3, hu3⟩
    obtain ⟨A3, c3, rfl, _⟩ := own_sh hrx3.row
    have HD3 := hide (HD2.out.ref1 hrx3 ht3 hu3)
    have HP3 := hide (HP2.out.turns ht3 (fun e => by have := HRO.out.1; omega))
    have hS3 := hide (And.intro HP3.out.cell.1 HP3.out.cell.2.2)
    have k1 := hrx3.cell 1
    simp at k1
    have HA3 := hide ((ht3.block _ (lt_of_block HA2.out) (fun e => by have := HRO.out.1; have := HSZ1.out; omega)).trans HA2.out)
    have HB3 : Hid (Below B w w3) := hide (HB2.out.trans (ht3.below (by have := HZ2.out; have := HBB.out; omega) (fun k hk e => by have := HRO.out.2; omega)))
    have HZ3 : Hid (w.heap.size ≤ w3.heap.size) := hide (by have := HZ2.out; have := ht3.size; omega)
    clear hrx3 ht3 hu3 hHeld
    go_wp2_with fail
    refine hK.out _ _ (fun _ => hS3.out) (fun hHeld => ?_)
    replace hHeld := hHeld (by decide)
    try simp only [Act.put, List.setIfInBounds_toArray, List.set_cons_zero, List.set_cons_succ]
    refine AnyU.take (i := 13) (v := ?v111) rfl (by kernel_rfl) (by kernel_rfl) (by kernel_rfl) (by kernel_rfl) (fun _ _ _ h => h) (Or.inl ⟨by rfl, ?hy111⟩) hHeld ?r111
    case hy111 => (intro w hSw; (try dsimp only at hSw); go_simp <;> with_reducible rfl)
    simp only [Act.put, List.setIfInBounds_toArray, List.set_cons_zero, List.set_cons_succ]
    refine AnyU.take (i := 14) (v := ?v112) rfl (by kernel_rfl) (by kernel_rfl) (by kernel_rfl) (by kernel_rfl) (fun _ _ _ h => h) (Or.inl ⟨by rfl, ?hy112⟩) hHeld ?r112
    case hy112 => (intro w hSw; (try dsimp only at hSw); go_simp <;> with_reducible rfl)
    simp only [Act.put, List.setIfInBounds_toArray, List.set_cons_zero, List.set_cons_succ]
    refine AnyU.take (i := 15) (v := ?v113) rfl (by kernel_rfl) (by kernel_rfl) (by kernel_rfl) (by kernel_rfl) (fun _ _ _ h => h) (Or.inl ⟨by rfl, ?hy113⟩) hHeld ?r113
    case hy113 => (intro w hSw; (try dsimp only at hSw); go_simp <;> with_reducible rfl)
    simp only [Act.put, List.setIfInBounds_toArray, List.set_cons_zero, List.set_cons_succ]
    refine AnyU.take (i := 16) (v := ?v114) rfl (by kernel_rfl) (by kernel_rfl) (by kernel_rfl) (by kernel_rfl) (fun _ _ _ h => h) (Or.inl ⟨by rfl, ?hy114⟩) hHeld ?r114
    case hy114 => (intro w hSw; (try dsimp only at hSw); go_simp <;> with_reducible rfl)
    simp only [Act.put, List.setIfInBounds_toArray, List.set_cons_zero, List.set_cons_succ]
    refine AnyU.take (i := 17) (v := ?v115) rfl (by kernel_rfl) (by kernel_rfl) (by kernel_rfl) (by kernel_rfl) (fun _ _ _ h => h) (Or.inl ⟨by rfl, ?hy115⟩) hHeld ?r115
    case hy115 => (intro w hSw; (try dsimp only at hSw); go_simp <;> with_reducible rfl)
    simp only [Act.put, List.setIfInBounds_toArray, List.set_cons_zero, List.set_cons_succ]
    refine AnyU.take (i := 18) (v := ?v116) rfl (by kernel_rfl) (by kernel_rfl) (by kernel_rfl) (by kernel_rfl) (fun _ _ _ h => h) (Or.inl ⟨by rfl, ?hy116⟩) hHeld ?r116
    case hy116 => (intro w hSw; (try dsimp only at hSw); go_simp <;> with_reducible rfl)
    simp only [Act.put, List.setIfInBounds_toArray, List.set_cons_zero, List.set_cons_succ]
    refine AnyU.next (js := [19]) (by kernel_rfl) (by simp) (NextU.cons rfl (fun K hK => ?_) NextU.nil)
    go_simp
    refine hK.out _ _ (fun _ => hS3.out) (fun hHeld => ?_)
    replace hHeld := hHeld (by decide)
    try simp only [Act.put, List.setIfInBounds_toArray, List.set_cons_zero, List.set_cons_succ]
    refine AnyU.next (js := [20]) (by kernel_rfl) (by simp) (NextU.cons rfl (fun K hK => ?_) NextU.nil)
    go_simp
    refine (goes_any l2 (by have := HSL.out; have := HNN.out; have := HLL.out; omega) A3 c3 0 w3 HA3.out HD3.out.bs (Reads.of_own HD3.out.rs.row)).mono ?_
    rintro e w4 ⟨rfl, hb4⟩
    have HD4 := hide (HD3.out.below hb4)
    have HP4 := hide (HP3.out.below hb4)
    have hS4 := hide (And.intro HP4.out.cell.1 HP4.out.cell.2.2)
    have HB4 : Hid (Below B w w4) := hide (HB3.out.trans (hb4.mono (by have := HZ3.out; have := HBB.out; omega)))
    clear hb4 hHeld k1
    go_wp2_with fail
    refine hK.out _ _ (fun _ => hS4.out) (fun hHeld => ?_)
    replace hHeld := hHeld (by decide)
    try simp only [Act.put, List.setIfInBounds_toArray, List.set_cons_zero, List.set_cons_succ]
    refine AnyU.take (i := 21) (v := ?v117) rfl (by kernel_rfl) (by kernel_rfl) (by kernel_rfl) (by kernel_rfl) (fun _ _ _ h => h) (Or.inl ⟨by rfl, ?hy117⟩) hHeld ?r117
    case hy117 => (intro w hSw; (try dsimp only at hSw); go_simp <;> with_reducible rfl)
    simp only [Act.put, List.setIfInBounds_toArray, List.set_cons_zero, List.set_cons_succ]
    refine AnyU.take (i := 22) (v := ?v118) rfl (by kernel_rfl) (by kernel_rfl) (by kernel_rfl) (by kernel_rfl) (fun _ _ _ h => h) (Or.inl ⟨by rfl, ?hy118⟩) hHeld ?r118
    case hy118 => (intro w hSw; (try dsimp only at hSw); go_simp <;> with_reducible rfl)
    simp only [Act.put, List.setIfInBounds_toArray, List.set_cons_zero, List.set_cons_succ]
    refine AnyU.over (by kernel_rfl) ?_ _
    go_wp2_with fail
    go_ret
    exact ⟨rfl, _, _, HD4.out, ⟨rfl, by have := HSL.out; have := HLL.out; show l2.length ≤ n + 1; omega⟩, ⟨HT.out, Nat.le_succ_of_le HTL.out⟩, HB4.out⟩
  · go_enter Try.func12, Try.ntmps12
    go_wp2_with fail
    go_quiet (fail)
    have HB1 : Hid (Below w.heap.size w ((w.alloc (.cells #[.int .i64 2, .int .i64 on, .int .i64 bidder, .int .i64 leave, .int .i64 coins] 52)).drewN nq)) := hide (below_drewN ((Below.refl _ _).alloc (Nat.le_refl _) _) _)
    have HP1 : Hid (ParW w 2 on bidder leave coins ((w.alloc (.cells #[.int .i64 2, .int .i64 on, .int .i64 bidder, .int .i64 leave, .int .i64 coins] 52)).drewN nq)) := hide ⟨heap_alloc_new w _⟩
    have hcp := HP1.out.cell
    obtain ⟨p2, p3, p4⟩ := hcp
    obtain ⟨w1, hw1⟩ : ∃ w1, w1 = (w.alloc (.cells #[.int .i64 2, .int .i64 on, .int .i64 bidder, .int .i64 leave, .int .i64 coins] 52)).drewN nq := ⟨_, rfl⟩
    rw [← hw1] at HB1 HP1 p2 p3 p4
    have HD1 := hide (H0.out.below HB1.out)
    have d34 : w1.cell? ⟨w.heap.size, 0, none⟩ = some (.int .i64 2) := cell_of_row _ _ 0 _ _ (0, 0) HP1.out.blk
    have HSZ1 : Hid (w.heap.size < w1.heap.size) := hide (lt_of_block HP1.out.blk)
    clear c0 c1 c2 c3
    rw [← hw1]
    have HW1 := hide hw1
    clear hw1
    have HLL := hide (bidL_len f bidder coins lo)
    have HC1 : Hid (∀ W : World, BoxOf W B q v f lo → w.heap.size ≤ W.heap.size → Calls Try.prog 23 #[.pointer (some ⟨q, 0, none⟩), .int .i64 bidder, .int .i64 coins] W (OpP B q v f (bidL f bidder coins lo) (bidC f bidder coins) W)) := hide (fun W hb hz => bid_any B q v f bidder coins lo W hb (by have := HBB.out; omega) (by have := HSL.out; have := HNN.out; omega))
    have HC2 : Hid (∀ (W : World) u', RefOf W B r u' f lo → w.heap.size ≤ W.heap.size → Calls Try.prog 29 #[.pointer (some ⟨r, 0, none⟩), .int .i64 bidder, .int .i64 coins] W (RefP B r u' f (bidL f bidder coins lo) (bidC f bidder coins) W)) := hide (fun W u' hr hz => refbid_any B r u' f bidder coins lo W hr (by have := HBB.out; omega) (by have := HSL.out; have := HNN.out; omega))
    generalize bidC f bidder coins = cd at *
    generalize bidL f bidder coins lo = l2 at *
    go_wp2_with (go_at_call 15; refine (all_any _ _).mono ?_; rintro e _ ⟨rfl, rfl⟩)
    have HAa : Hid ((w1.alloc (.cells #[.pointer (some ⟨q, 0, none⟩)] 39)).drew.heap[w1.heap.size]? = some (.cells #[.pointer (some ⟨q, 0, none⟩)] 39 (0, 0))) := hide (heap_alloc_new w1 _)
    have HDd := hide (HD1.out.below (((Below.refl _ _).alloc (Nat.le_refl _) (.cells #[.pointer (some ⟨q, 0, none⟩)] 39)).drew))
    have HPd := hide (HP1.out.below (((Below.refl _ _).alloc (Nat.le_refl _) (.cells #[.pointer (some ⟨q, 0, none⟩)] 39)).drew))
    have HB1d := hide (HB1.out.trans ((((Below.refl _ w1).alloc (Nat.le_refl _) (.cells #[.pointer (some ⟨q, 0, none⟩)] 39)).drew).mono HB1.out.size))
    have hS0 := And.intro HPd.out.cell.1 HPd.out.cell.2.2
    refine wp_region_U 23 (fun W => W.cell? ⟨w.heap.size, 2, none⟩ = some (.int .i64 bidder) ∧ W.cell? ⟨w.heap.size, 4, none⟩ = some (.int .i64 coins)) rfl hS0 (fun hHeld => ?_)
    refine AnyU.take (i := 0) (v := ?v201) rfl (by kernel_rfl) (by kernel_rfl) (by kernel_rfl) (by kernel_rfl) (fun _ _ _ h => h) (Or.inl ⟨by rfl, ?hy201⟩) hHeld ?r201
    case hy201 => (intro w hSw; (try dsimp only at hSw); go_simp <;> with_reducible rfl)
    simp only [Act.put, List.setIfInBounds_toArray, List.set_cons_zero, List.set_cons_succ]
    refine AnyU.take (i := 1) (v := ?v202) rfl (by kernel_rfl) (by kernel_rfl) (by kernel_rfl) (by kernel_rfl) (fun _ _ _ h => h) (Or.inl ⟨by rfl, ?hy202⟩) hHeld ?r202
    case hy202 => (intro w hSw; (try dsimp only at hSw); go_simp <;> with_reducible rfl)
    simp only [Act.put, List.setIfInBounds_toArray, List.set_cons_zero, List.set_cons_succ]
    refine AnyU.take (i := 2) (v := ?v203) rfl (by kernel_rfl) (by kernel_rfl) (by kernel_rfl) (by kernel_rfl) (fun _ _ _ h => h) (Or.inl ⟨by rfl, ?hy203⟩) hHeld ?r203
    case hy203 => (intro w hSw; (try dsimp only at hSw); go_simp <;> with_reducible rfl)
    simp only [Act.put, List.setIfInBounds_toArray, List.set_cons_zero, List.set_cons_succ]
    refine AnyU.take (i := 3) (v := ?v204) rfl (by kernel_rfl) (by kernel_rfl) (by kernel_rfl) (by kernel_rfl) (fun _ _ _ h => h) (Or.inl ⟨by rfl, ?hy204⟩) hHeld ?r204
    case hy204 => (intro w hSw; (try dsimp only at hSw); go_simp <;> with_reducible rfl)
    simp only [Act.put, List.setIfInBounds_toArray, List.set_cons_zero, List.set_cons_succ]
    refine AnyU.take (i := 4) (v := ?v205) rfl (by kernel_rfl) (by kernel_rfl) (by kernel_rfl) (by kernel_rfl) (fun _ _ _ h => h) (Or.inl ⟨by rfl, ?hy205⟩) hHeld ?r205
    case hy205 => (intro w hSw; (try dsimp only at hSw); go_simp <;> with_reducible rfl)
    simp only [Act.put, List.setIfInBounds_toArray, List.set_cons_zero, List.set_cons_succ]
    refine AnyU.take (i := 7) (v := ?v206) rfl (by kernel_rfl) (by kernel_rfl) (by kernel_rfl) (by kernel_rfl) (fun _ _ _ h => h) (Or.inl ⟨by rfl, ?hy206⟩) hHeld ?r206
    case hy206 => (intro w hSw; (try dsimp only at hSw); go_simp <;> with_reducible rfl)
    simp only [Act.put, List.setIfInBounds_toArray, List.set_cons_zero, List.set_cons_succ]
    refine AnyU.take (i := 8) (v := ?v207) rfl (by kernel_rfl) (by kernel_rfl) (by kernel_rfl) (by kernel_rfl) (fun _ _ _ h => h) (Or.inl ⟨by rfl, ?hy207⟩) hHeld ?r207
    case hy207 => (intro w hSw; (try dsimp only at hSw); go_simp <;> with_reducible rfl)
    simp only [Act.put, List.setIfInBounds_toArray, List.set_cons_zero, List.set_cons_succ]
    refine AnyU.take (i := 9) (v := ?v208) rfl (by kernel_rfl) (by kernel_rfl) (by kernel_rfl) (by kernel_rfl) (fun _ _ _ h => h) (Or.inl ⟨by rfl, ?hy208⟩) hHeld ?r208
    case hy208 => (intro w hSw; (try dsimp only at hSw); go_simp <;> with_reducible rfl)
    simp only [Act.put, List.setIfInBounds_toArray, List.set_cons_zero, List.set_cons_succ]
    refine AnyU.take (i := 10) (v := ?v209) rfl (by kernel_rfl) (by kernel_rfl) (by kernel_rfl) (by kernel_rfl) (fun _ _ _ h => h) (Or.inl ⟨by rfl, ?hy209⟩) hHeld ?r209
    case hy209 => (intro w hSw; (try dsimp only at hSw); go_simp <;> with_reducible rfl)
    simp only [Act.put, List.setIfInBounds_toArray, List.set_cons_zero, List.set_cons_succ]
    refine AnyU.take (i := 11) (v := ?v210) rfl (by kernel_rfl) (by kernel_rfl) (by kernel_rfl) (by kernel_rfl) (fun _ _ _ h => h) (Or.inl ⟨by rfl, ?hy210⟩) hHeld ?r210
    case hy210 => (intro w hSw; (try dsimp only at hSw); go_simp <;> with_reducible rfl)
    simp only [Act.put, List.setIfInBounds_toArray, List.set_cons_zero, List.set_cons_succ]
    refine AnyU.next (js := [5]) (by kernel_rfl) (by simp) (NextU.cons rfl (fun K hK => ?_) NextU.nil)
    go_simp
    refine (HC1.out _ HDd.out.bs HB1d.out.size).mono ?_
    rintro e w2 ⟨rfl, v2, hbx2, ht2, hv2⟩
    have HD2 := hide (HDd.out.own1 hbx2 ht2 hv2)
    have HP2 := hide (HPd.out.turns ht2 (fun e => by have := (HFO.out _ e).2; omega))
    have hS2 := hide (And.intro HP2.out.cell.1 HP2.out.cell.2.2)
    have HA2 := hide ((ht2.block _ (lt_of_block HAa.out) (fun e => by have := (HFO.out _ e).2; have := HSZ1.out; omega)).trans HAa.out)
    have HB2 : Hid (Below B w w2) := hide ((HB1d.out.mono HBB.out).trans (ht2.below (by have := HB1d.out.size; have := HBB.out; omega) (fun k hk e => by have := (HFO.out _ e).1; omega)))
    have HZ2 : Hid (w.heap.size ≤ w2.heap.size) := hide (by have := HB1d.out.size; have := ht2.size; omega)
    clear hbx2 ht2 hv2 hS0 hHeld
    go_wp2_with fail
    refine hK.out _ _ (fun _ => hS2.out) (fun hHeld => ?_)
    replace hHeld := hHeld (by decide)
    try simp only [Act.put, List.setIfInBounds_toArray, List.set_cons_zero, List.set_cons_succ]
    refine AnyU.next (js := [6]) (by kernel_rfl) (by simp) (NextU.cons rfl (fun K hK => ?_) NextU.nil)
    go_simp
    refine (num_any _ _).mono ?_
    rintro e _ ⟨rfl, rfl⟩
    go_wp2_with fail
    refine hK.out _ _ (fun _ => hS2.out) (fun hHeld => ?_)
    replace hHeld := hHeld (by decide)
    try simp only [Act.put, List.setIfInBounds_toArray, List.set_cons_zero, List.set_cons_succ]
    refine AnyU.next (js := [12]) (by kernel_rfl) (by simp) (NextU.cons rfl (fun K hK => ?_) NextU.nil)
    go_simp
    refine (HC2.out w2 u HD2.out.rs HZ2.out).mono ?_
    rintro e w3 ⟨rfl, u3, hrx3, ht3, hu3⟩
    obtain ⟨A3, c3, rfl, _⟩ := own_sh hrx3.row
    have HD3 := hide (HD2.out.ref1 hrx3 ht3 hu3)
    have HP3 := hide (HP2.out.turns ht3 (fun e => by have := HRO.out.1; omega))
    have hS3 := hide (And.intro HP3.out.cell.1 HP3.out.cell.2.2)
    have k1 := hrx3.cell 1
    simp at k1
    have HA3 := hide ((ht3.block _ (lt_of_block HA2.out) (fun e => by have := HRO.out.1; have := HSZ1.out; omega)).trans HA2.out)
    have HB3 : Hid (Below B w w3) := hide (HB2.out.trans (ht3.below (by have := HZ2.out; have := HBB.out; omega) (fun k hk e => by have := HRO.out.2; omega)))
    have HZ3 : Hid (w.heap.size ≤ w3.heap.size) := hide (by have := HZ2.out; have := ht3.size; omega)
    clear hrx3 ht3 hu3 hHeld
    go_wp2_with fail
    refine hK.out _ _ (fun _ => hS3.out) (fun hHeld => ?_)
    replace hHeld := hHeld (by decide)
    try simp only [Act.put, List.setIfInBounds_toArray, List.set_cons_zero, List.set_cons_succ]
    refine AnyU.take (i := 13) (v := ?v211) rfl (by kernel_rfl) (by kernel_rfl) (by kernel_rfl) (by kernel_rfl) (fun _ _ _ h => h) (Or.inl ⟨by rfl, ?hy211⟩) hHeld ?r211
    case hy211 => (intro w hSw; (try dsimp only at hSw); go_simp <;> with_reducible rfl)
    simp only [Act.put, List.setIfInBounds_toArray, List.set_cons_zero, List.set_cons_succ]
    refine AnyU.take (i := 14) (v := ?v212) rfl (by kernel_rfl) (by kernel_rfl) (by kernel_rfl) (by kernel_rfl) (fun _ _ _ h => h) (Or.inl ⟨by rfl, ?hy212⟩) hHeld ?r212
    case hy212 => (intro w hSw; (try dsimp only at hSw); go_simp <;> with_reducible rfl)
    simp only [Act.put, List.setIfInBounds_toArray, List.set_cons_zero, List.set_cons_succ]
    refine AnyU.take (i := 15) (v := ?v213) rfl (by kernel_rfl) (by kernel_rfl) (by kernel_rfl) (by kernel_rfl) (fun _ _ _ h => h) (Or.inl ⟨by rfl, ?hy213⟩) hHeld ?r213
    case hy213 => (intro w hSw; (try dsimp only at hSw); go_simp <;> with_reducible rfl)
    simp only [Act.put, List.setIfInBounds_toArray, List.set_cons_zero, List.set_cons_succ]
    refine AnyU.take (i := 16) (v := ?v214) rfl (by kernel_rfl) (by kernel_rfl) (by kernel_rfl) (by kernel_rfl) (fun _ _ _ h => h) (Or.inl ⟨by rfl, ?hy214⟩) hHeld ?r214
    case hy214 => (intro w hSw; (try dsimp only at hSw); go_simp <;> with_reducible rfl)
    simp only [Act.put, List.setIfInBounds_toArray, List.set_cons_zero, List.set_cons_succ]
    refine AnyU.take (i := 17) (v := ?v215) rfl (by kernel_rfl) (by kernel_rfl) (by kernel_rfl) (by kernel_rfl) (fun _ _ _ h => h) (Or.inl ⟨by rfl, ?hy215⟩) hHeld ?r215
    case hy215 => (intro w hSw; (try dsimp only at hSw); go_simp <;> with_reducible rfl)
    simp only [Act.put, List.setIfInBounds_toArray, List.set_cons_zero, List.set_cons_succ]
    refine AnyU.take (i := 18) (v := ?v216) rfl (by kernel_rfl) (by kernel_rfl) (by kernel_rfl) (by kernel_rfl) (fun _ _ _ h => h) (Or.inl ⟨by rfl, ?hy216⟩) hHeld ?r216
    case hy216 => (intro w hSw; (try dsimp only at hSw); go_simp <;> with_reducible rfl)
    simp only [Act.put, List.setIfInBounds_toArray, List.set_cons_zero, List.set_cons_succ]
    refine AnyU.next (js := [19]) (by kernel_rfl) (by simp) (NextU.cons rfl (fun K hK => ?_) NextU.nil)
    go_simp
    refine hK.out _ _ (fun _ => hS3.out) (fun hHeld => ?_)
    replace hHeld := hHeld (by decide)
    try simp only [Act.put, List.setIfInBounds_toArray, List.set_cons_zero, List.set_cons_succ]
    refine AnyU.next (js := [20]) (by kernel_rfl) (by simp) (NextU.cons rfl (fun K hK => ?_) NextU.nil)
    go_simp
    refine (goes_any l2 (by have := HSL.out; have := HNN.out; have := HLL.out; omega) A3 c3 0 w3 HA3.out HD3.out.bs (Reads.of_own HD3.out.rs.row)).mono ?_
    rintro e w4 ⟨rfl, hb4⟩
    have HD4 := hide (HD3.out.below hb4)
    have HP4 := hide (HP3.out.below hb4)
    have hS4 := hide (And.intro HP4.out.cell.1 HP4.out.cell.2.2)
    have HB4 : Hid (Below B w w4) := hide (HB3.out.trans (hb4.mono (by have := HZ3.out; have := HBB.out; omega)))
    clear hb4 hHeld k1
    go_wp2_with fail
    refine hK.out _ _ (fun _ => hS4.out) (fun hHeld => ?_)
    replace hHeld := hHeld (by decide)
    try simp only [Act.put, List.setIfInBounds_toArray, List.set_cons_zero, List.set_cons_succ]
    refine AnyU.take (i := 21) (v := ?v217) rfl (by kernel_rfl) (by kernel_rfl) (by kernel_rfl) (by kernel_rfl) (fun _ _ _ h => h) (Or.inl ⟨by rfl, ?hy217⟩) hHeld ?r217
    case hy217 => (intro w hSw; (try dsimp only at hSw); go_simp <;> with_reducible rfl)
    simp only [Act.put, List.setIfInBounds_toArray, List.set_cons_zero, List.set_cons_succ]
    refine AnyU.take (i := 22) (v := ?v218) rfl (by kernel_rfl) (by kernel_rfl) (by kernel_rfl) (by kernel_rfl) (fun _ _ _ h => h) (Or.inl ⟨by rfl, ?hy218⟩) hHeld ?r218
    case hy218 => (intro w hSw; (try dsimp only at hSw); go_simp <;> with_reducible rfl)
    simp only [Act.put, List.setIfInBounds_toArray, List.set_cons_zero, List.set_cons_succ]
    refine AnyU.over (by kernel_rfl) ?_ _
    go_wp2_with fail
    go_ret
    exact ⟨rfl, _, _, HD4.out, ⟨rfl, by have := HSL.out; have := HLL.out; show l2.length ≤ n + 1; omega⟩, ⟨HT.out, Nat.le_succ_of_le HTL.out⟩, HB4.out⟩
  · go_enter Try.func12, Try.ntmps12
    go_wp2_with fail
    go_quiet (fail)
    have HB1 : Hid (Below w.heap.size w ((w.alloc (.cells #[.int .i64 2, .int .i64 on, .int .i64 bidder, .int .i64 leave, .int .i64 coins] 52)).drewN nq)) := hide (below_drewN ((Below.refl _ _).alloc (Nat.le_refl _) _) _)
    have HP1 : Hid (ParW w 2 on bidder leave coins ((w.alloc (.cells #[.int .i64 2, .int .i64 on, .int .i64 bidder, .int .i64 leave, .int .i64 coins] 52)).drewN nq)) := hide ⟨heap_alloc_new w _⟩
    have hcp := HP1.out.cell
    obtain ⟨p2, p3, p4⟩ := hcp
    obtain ⟨w1, hw1⟩ : ∃ w1, w1 = (w.alloc (.cells #[.int .i64 2, .int .i64 on, .int .i64 bidder, .int .i64 leave, .int .i64 coins] 52)).drewN nq := ⟨_, rfl⟩
    rw [← hw1] at HB1 HP1 p2 p3 p4
    have HD1 := hide (H0.out.below HB1.out)
    have d34 : w1.cell? ⟨w.heap.size, 0, none⟩ = some (.int .i64 2) := cell_of_row _ _ 0 _ _ (0, 0) HP1.out.blk
    have HSZ1 : Hid (w.heap.size < w1.heap.size) := hide (lt_of_block HP1.out.blk)
    clear c0 c1 c2 c3
    rw [← hw1]
    have HW1 := hide hw1
    clear hw1
    have HLL := hide (bidL_len f bidder coins lo)
    have HC1 : Hid (∀ W : World, BoxOf W B q v f lo → w.heap.size ≤ W.heap.size → Calls Try.prog 23 #[.pointer (some ⟨q, 0, none⟩), .int .i64 bidder, .int .i64 coins] W (OpP B q v f (bidL f bidder coins lo) (bidC f bidder coins) W)) := hide (fun W hb hz => bid_any B q v f bidder coins lo W hb (by have := HBB.out; omega) (by have := HSL.out; have := HNN.out; omega))
    have HC2 : Hid (∀ (W : World) u', RefOf W B r u' f lo → w.heap.size ≤ W.heap.size → Calls Try.prog 29 #[.pointer (some ⟨r, 0, none⟩), .int .i64 bidder, .int .i64 coins] W (RefP B r u' f (bidL f bidder coins lo) (bidC f bidder coins) W)) := hide (fun W u' hr hz => refbid_any B r u' f bidder coins lo W hr (by have := HBB.out; omega) (by have := HSL.out; have := HNN.out; omega))
    generalize bidC f bidder coins = cd at *
    generalize bidL f bidder coins lo = l2 at *
    go_wp2_with (go_at_call 15; refine (all_any _ _).mono ?_; rintro e _ ⟨rfl, rfl⟩)
    have HAa : Hid ((w1.alloc (.cells #[.pointer (some ⟨q, 0, none⟩)] 39)).drew.heap[w1.heap.size]? = some (.cells #[.pointer (some ⟨q, 0, none⟩)] 39 (0, 0))) := hide (heap_alloc_new w1 _)
    have HDd := hide (HD1.out.below (((Below.refl _ _).alloc (Nat.le_refl _) (.cells #[.pointer (some ⟨q, 0, none⟩)] 39)).drew))
    have HPd := hide (HP1.out.below (((Below.refl _ _).alloc (Nat.le_refl _) (.cells #[.pointer (some ⟨q, 0, none⟩)] 39)).drew))
    have HB1d := hide (HB1.out.trans ((((Below.refl _ w1).alloc (Nat.le_refl _) (.cells #[.pointer (some ⟨q, 0, none⟩)] 39)).drew).mono HB1.out.size))
    have hS0 := And.intro HPd.out.cell.1 HPd.out.cell.2.2
    refine wp_region_U 23 (fun W => W.cell? ⟨w.heap.size, 2, none⟩ = some (.int .i64 bidder) ∧ W.cell? ⟨w.heap.size, 4, none⟩ = some (.int .i64 coins)) rfl hS0 (fun hHeld => ?_)
    refine AnyU.take (i := 0) (v := ?v301) rfl (by kernel_rfl) (by kernel_rfl) (by kernel_rfl) (by kernel_rfl) (fun _ _ _ h => h) (Or.inl ⟨by rfl, ?hy301⟩) hHeld ?r301
    case hy301 => (intro w hSw; (try dsimp only at hSw); go_simp <;> with_reducible rfl)
    simp only [Act.put, List.setIfInBounds_toArray, List.set_cons_zero, List.set_cons_succ]
    refine AnyU.take (i := 1) (v := ?v302) rfl (by kernel_rfl) (by kernel_rfl) (by kernel_rfl) (by kernel_rfl) (fun _ _ _ h => h) (Or.inl ⟨by rfl, ?hy302⟩) hHeld ?r302
    case hy302 => (intro w hSw; (try dsimp only at hSw); go_simp <;> with_reducible rfl)
    simp only [Act.put, List.setIfInBounds_toArray, List.set_cons_zero, List.set_cons_succ]
    refine AnyU.take (i := 2) (v := ?v303) rfl (by kernel_rfl) (by kernel_rfl) (by kernel_rfl) (by kernel_rfl) (fun _ _ _ h => h) (Or.inl ⟨by rfl, ?hy303⟩) hHeld ?r303
    case hy303 => (intro w hSw; (try dsimp only at hSw); go_simp <;> with_reducible rfl)
    simp only [Act.put, List.setIfInBounds_toArray, List.set_cons_zero, List.set_cons_succ]
    refine AnyU.take (i := 3) (v := ?v304) rfl (by kernel_rfl) (by kernel_rfl) (by kernel_rfl) (by kernel_rfl) (fun _ _ _ h => h) (Or.inl ⟨by rfl, ?hy304⟩) hHeld ?r304
    case hy304 => (intro w hSw; (try dsimp only at hSw); go_simp <;> with_reducible rfl)
    simp only [Act.put, List.setIfInBounds_toArray, List.set_cons_zero, List.set_cons_succ]
    refine AnyU.take (i := 4) (v := ?v305) rfl (by kernel_rfl) (by kernel_rfl) (by kernel_rfl) (by kernel_rfl) (fun _ _ _ h => h) (Or.inl ⟨by rfl, ?hy305⟩) hHeld ?r305
    case hy305 => (intro w hSw; (try dsimp only at hSw); go_simp <;> with_reducible rfl)
    simp only [Act.put, List.setIfInBounds_toArray, List.set_cons_zero, List.set_cons_succ]
    refine AnyU.take (i := 7) (v := ?v306) rfl (by kernel_rfl) (by kernel_rfl) (by kernel_rfl) (by kernel_rfl) (fun _ _ _ h => h) (Or.inl ⟨by rfl, ?hy306⟩) hHeld ?r306
    case hy306 => (intro w hSw; (try dsimp only at hSw); go_simp <;> with_reducible rfl)
    simp only [Act.put, List.setIfInBounds_toArray, List.set_cons_zero, List.set_cons_succ]
    refine AnyU.take (i := 8) (v := ?v307) rfl (by kernel_rfl) (by kernel_rfl) (by kernel_rfl) (by kernel_rfl) (fun _ _ _ h => h) (Or.inl ⟨by rfl, ?hy307⟩) hHeld ?r307
    case hy307 => (intro w hSw; (try dsimp only at hSw); go_simp <;> with_reducible rfl)
    simp only [Act.put, List.setIfInBounds_toArray, List.set_cons_zero, List.set_cons_succ]
    refine AnyU.take (i := 9) (v := ?v308) rfl (by kernel_rfl) (by kernel_rfl) (by kernel_rfl) (by kernel_rfl) (fun _ _ _ h => h) (Or.inl ⟨by rfl, ?hy308⟩) hHeld ?r308
    case hy308 => (intro w hSw; (try dsimp only at hSw); go_simp <;> with_reducible rfl)
    simp only [Act.put, List.setIfInBounds_toArray, List.set_cons_zero, List.set_cons_succ]
    refine AnyU.take (i := 10) (v := ?v309) rfl (by kernel_rfl) (by kernel_rfl) (by kernel_rfl) (by kernel_rfl) (fun _ _ _ h => h) (Or.inl ⟨by rfl, ?hy309⟩) hHeld ?r309
    case hy309 => (intro w hSw; (try dsimp only at hSw); go_simp <;> with_reducible rfl)
    simp only [Act.put, List.setIfInBounds_toArray, List.set_cons_zero, List.set_cons_succ]
    refine AnyU.take (i := 11) (v := ?v310) rfl (by kernel_rfl) (by kernel_rfl) (by kernel_rfl) (by kernel_rfl) (fun _ _ _ h => h) (Or.inl ⟨by rfl, ?hy310⟩) hHeld ?r310
    case hy310 => (intro w hSw; (try dsimp only at hSw); go_simp <;> with_reducible rfl)
    simp only [Act.put, List.setIfInBounds_toArray, List.set_cons_zero, List.set_cons_succ]
    refine AnyU.next (js := [5]) (by kernel_rfl) (by simp) (NextU.cons rfl (fun K hK => ?_) NextU.nil)
    go_simp
    refine (HC1.out _ HDd.out.bs HB1d.out.size).mono ?_
    rintro e w2 ⟨rfl, v2, hbx2, ht2, hv2⟩
    have HD2 := hide (HDd.out.own1 hbx2 ht2 hv2)
    have HP2 := hide (HPd.out.turns ht2 (fun e => by have := (HFO.out _ e).2; omega))
    have hS2 := hide (And.intro HP2.out.cell.1 HP2.out.cell.2.2)
    have HA2 := hide ((ht2.block _ (lt_of_block HAa.out) (fun e => by have := (HFO.out _ e).2; have := HSZ1.out; omega)).trans HAa.out)
    have HB2 : Hid (Below B w w2) := hide ((HB1d.out.mono HBB.out).trans (ht2.below (by have := HB1d.out.size; have := HBB.out; omega) (fun k hk e => by have := (HFO.out _ e).1; omega)))
    have HZ2 : Hid (w.heap.size ≤ w2.heap.size) := hide (by have := HB1d.out.size; have := ht2.size; omega)
    clear hbx2 ht2 hv2 hS0 hHeld
    go_wp2_with fail
    refine hK.out _ _ (fun _ => hS2.out) (fun hHeld => ?_)
    replace hHeld := hHeld (by decide)
    try simp only [Act.put, List.setIfInBounds_toArray, List.set_cons_zero, List.set_cons_succ]
    refine AnyU.next (js := [6]) (by kernel_rfl) (by simp) (NextU.cons rfl (fun K hK => ?_) NextU.nil)
    go_simp
    refine (num_any _ _).mono ?_
    rintro e _ ⟨rfl, rfl⟩
    go_wp2_with fail
    refine hK.out _ _ (fun _ => hS2.out) (fun hHeld => ?_)
    replace hHeld := hHeld (by decide)
    try simp only [Act.put, List.setIfInBounds_toArray, List.set_cons_zero, List.set_cons_succ]
    refine AnyU.next (js := [12]) (by kernel_rfl) (by simp) (NextU.cons rfl (fun K hK => ?_) NextU.nil)
    go_simp
    refine (HC2.out w2 u HD2.out.rs HZ2.out).mono ?_
    rintro e w3 ⟨rfl, u3, hrx3, ht3, hu3⟩
    obtain ⟨A3, c3, rfl, _⟩ := own_sh hrx3.row
    have HD3 := hide (HD2.out.ref1 hrx3 ht3 hu3)
    have HP3 := hide (HP2.out.turns ht3 (fun e => by have := HRO.out.1; omega))
    have hS3 := hide (And.intro HP3.out.cell.1 HP3.out.cell.2.2)
    have k1 := hrx3.cell 1
    simp at k1
    have HA3 := hide ((ht3.block _ (lt_of_block HA2.out) (fun e => by have := HRO.out.1; have := HSZ1.out; omega)).trans HA2.out)
    have HB3 : Hid (Below B w w3) := hide (HB2.out.trans (ht3.below (by have := HZ2.out; have := HBB.out; omega) (fun k hk e => by have := HRO.out.2; omega)))
    have HZ3 : Hid (w.heap.size ≤ w3.heap.size) := hide (by have := HZ2.out; have := ht3.size; omega)
    clear hrx3 ht3 hu3 hHeld
    go_wp2_with fail
    refine hK.out _ _ (fun _ => hS3.out) (fun hHeld => ?_)
    replace hHeld := hHeld (by decide)
    try simp only [Act.put, List.setIfInBounds_toArray, List.set_cons_zero, List.set_cons_succ]
    refine AnyU.take (i := 13) (v := ?v311) rfl (by kernel_rfl) (by kernel_rfl) (by kernel_rfl) (by kernel_rfl) (fun _ _ _ h => h) (Or.inl ⟨by rfl, ?hy311⟩) hHeld ?r311
    case hy311 => (intro w hSw; (try dsimp only at hSw); go_simp <;> with_reducible rfl)
    simp only [Act.put, List.setIfInBounds_toArray, List.set_cons_zero, List.set_cons_succ]
    refine AnyU.take (i := 14) (v := ?v312) rfl (by kernel_rfl) (by kernel_rfl) (by kernel_rfl) (by kernel_rfl) (fun _ _ _ h => h) (Or.inl ⟨by rfl, ?hy312⟩) hHeld ?r312
    case hy312 => (intro w hSw; (try dsimp only at hSw); go_simp <;> with_reducible rfl)
    simp only [Act.put, List.setIfInBounds_toArray, List.set_cons_zero, List.set_cons_succ]
    refine AnyU.take (i := 15) (v := ?v313) rfl (by kernel_rfl) (by kernel_rfl) (by kernel_rfl) (by kernel_rfl) (fun _ _ _ h => h) (Or.inl ⟨by rfl, ?hy313⟩) hHeld ?r313
    case hy313 => (intro w hSw; (try dsimp only at hSw); go_simp <;> with_reducible rfl)
    simp only [Act.put, List.setIfInBounds_toArray, List.set_cons_zero, List.set_cons_succ]
    refine AnyU.take (i := 16) (v := ?v314) rfl (by kernel_rfl) (by kernel_rfl) (by kernel_rfl) (by kernel_rfl) (fun _ _ _ h => h) (Or.inl ⟨by rfl, ?hy314⟩) hHeld ?r314
    case hy314 => (intro w hSw; (try dsimp only at hSw); go_simp <;> with_reducible rfl)
    simp only [Act.put, List.setIfInBounds_toArray, List.set_cons_zero, List.set_cons_succ]
    refine AnyU.take (i := 17) (v := ?v315) rfl (by kernel_rfl) (by kernel_rfl) (by kernel_rfl) (by kernel_rfl) (fun _ _ _ h => h) (Or.inl ⟨by rfl, ?hy315⟩) hHeld ?r315
    case hy315 => (intro w hSw; (try dsimp only at hSw); go_simp <;> with_reducible rfl)
    simp only [Act.put, List.setIfInBounds_toArray, List.set_cons_zero, List.set_cons_succ]
    refine AnyU.take (i := 18) (v := ?v316) rfl (by kernel_rfl) (by kernel_rfl) (by kernel_rfl) (by kernel_rfl) (fun _ _ _ h => h) (Or.inl ⟨by rfl, ?hy316⟩) hHeld ?r316
    case hy316 => (intro w hSw; (try dsimp only at hSw); go_simp <;> with_reducible rfl)
    simp only [Act.put, List.setIfInBounds_toArray, List.set_cons_zero, List.set_cons_succ]
    refine AnyU.next (js := [19]) (by kernel_rfl) (by simp) (NextU.cons rfl (fun K hK => ?_) NextU.nil)
    go_simp
    refine hK.out _ _ (fun _ => hS3.out) (fun hHeld => ?_)
    replace hHeld := hHeld (by decide)
    try simp only [Act.put, List.setIfInBounds_toArray, List.set_cons_zero, List.set_cons_succ]
    refine AnyU.next (js := [20]) (by kernel_rfl) (by simp) (NextU.cons rfl (fun K hK => ?_) NextU.nil)
    go_simp
    refine (goes_any l2 (by have := HSL.out; have := HNN.out; have := HLL.out; omega) A3 c3 0 w3 HA3.out HD3.out.bs (Reads.of_own HD3.out.rs.row)).mono ?_
    rintro e w4 ⟨rfl, hb4⟩
    have HD4 := hide (HD3.out.below hb4)
    have HP4 := hide (HP3.out.below hb4)
    have hS4 := hide (And.intro HP4.out.cell.1 HP4.out.cell.2.2)
    have HB4 : Hid (Below B w w4) := hide (HB3.out.trans (hb4.mono (by have := HZ3.out; have := HBB.out; omega)))
    clear hb4 hHeld k1
    go_wp2_with fail
    refine hK.out _ _ (fun _ => hS4.out) (fun hHeld => ?_)
    replace hHeld := hHeld (by decide)
    try simp only [Act.put, List.setIfInBounds_toArray, List.set_cons_zero, List.set_cons_succ]
    refine AnyU.take (i := 21) (v := ?v317) rfl (by kernel_rfl) (by kernel_rfl) (by kernel_rfl) (by kernel_rfl) (fun _ _ _ h => h) (Or.inl ⟨by rfl, ?hy317⟩) hHeld ?r317
    case hy317 => (intro w hSw; (try dsimp only at hSw); go_simp <;> with_reducible rfl)
    simp only [Act.put, List.setIfInBounds_toArray, List.set_cons_zero, List.set_cons_succ]
    refine AnyU.take (i := 22) (v := ?v318) rfl (by kernel_rfl) (by kernel_rfl) (by kernel_rfl) (by kernel_rfl) (fun _ _ _ h => h) (Or.inl ⟨by rfl, ?hy318⟩) hHeld ?r318
    case hy318 => (intro w hSw; (try dsimp only at hSw); go_simp <;> with_reducible rfl)
    simp only [Act.put, List.setIfInBounds_toArray, List.set_cons_zero, List.set_cons_succ]
    refine AnyU.over (by kernel_rfl) ?_ _
    go_wp2_with fail
    go_ret
    exact ⟨rfl, _, _, HD4.out, ⟨rfl, by have := HSL.out; have := HLL.out; show l2.length ≤ n + 1; omega⟩, ⟨HT.out, Nat.le_succ_of_le HTL.out⟩, HB4.out⟩

end Go.Proofs.Ytnidmoljhopcoaa
