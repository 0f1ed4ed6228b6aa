/- The law SealedPlays: its walk. -/
import Derived.Test.YtnidmoljhopcoaaPlayStepC
import Derived.Deep.CutRange
namespace Go.Proofs.Ytnidmoljhopcoaa
open Go.RowKit

theorem step_first (B wp n : Nat) (b : Bool) (s t : Side) (kind on tt bidder leave coins : Int) (w : World) (h : Duo w B wp b s t) (hs : s.lr = s.lo ∧ s.lo.length ≤ n) (ht : t.lr = t.lo ∧ t.lo.length ≤ n) (hn : n ≤ 1000) (hB : B ≤ w.heap.size)
    (hon : on.tmod 2 = tt) (htt : tt = -1 ∧ b = true ∨ tt = 0 ∧ b = false ∨ tt = 1 ∧ b = true) :
    Calls Try.prog 12 #[.pointer (some ⟨wp, 0, none⟩), opV kind on bidder leave coins] w (StepP B wp (n + 1) b w) := by
  obtain ⟨q, v, r, u, f, lo, lr⟩ := s
  obtain ⟨h1, h2⟩ := hs
  simp only at h1 h2
  subst h1
  by_cases k0 : kind = 0
  · subst k0; exact step0 B wp n b q v r u f lr t on tt bidder leave coins w h h2 ht hn hB hon htt
  by_cases k1 : kind = 1
  · subst k1; exact step1 B wp n b q v r u f lr t on tt bidder leave coins w h h2 ht hn hB hon htt
  by_cases k2 : kind = 2
  · subst k2; exact step2 B wp n b q v r u f lr t on tt bidder leave coins w h h2 ht hn hB hon htt
  by_cases k3 : kind = 3
  · subst k3; exact step3 B wp n b q v r u f lr t on tt bidder leave coins w h h2 ht hn hB hon htt
  by_cases k4 : kind = 4
  · subst k4
    have hbd := idxTo_bd (isB bidder) lr
    by_cases hi : idxTo (isB bidder) lr < 0
    · exact step4a B wp n b q v r u f lr t on tt bidder leave coins w h h2 ht hn hB hon htt hi
    · exact step4b B wp n b q v r u f lr t on tt bidder leave coins w h h2 ht hn hB hon htt ⟨(idxTo (isB bidder) lr).toNat, by omega, by omega⟩
  by_cases k5 : kind = 5
  · subst k5; exact step5 B wp n b q v r u f lr t on tt bidder leave coins w h h2 ht hn hB hon htt
  by_cases k6 : kind = 6
  · subst k6; exact step6 B wp n b q v r u f lr t on tt bidder leave coins w h h2 ht hn hB hon htt
  by_cases k7 : kind = 7
  · subst k7; exact step7 B wp n b q v r u f lr t on tt bidder leave coins w h h2 ht hn hB hon htt
  · exact stepO B wp n b q v r u f lr t kind on tt bidder leave coins w h h2 ht hn hB hon htt (by simpa using k0) (by simpa using k1) (by simpa using k2) (by simpa using k3) (by simpa using k4) (by simpa using k5) (by simpa using k6) (by simpa using k7)

theorem step_any (B wp n : Nat) (s t : Side) (kind on bidder leave coins : Int) (w : World) (h : Duo w B wp false s t) (hs : s.lr = s.lo ∧ s.lo.length ≤ n) (ht : t.lr = t.lo ∧ t.lo.length ≤ n) (hn : n ≤ 1000) (hB : B ≤ w.heap.size) :
    Calls Try.prog 12 #[.pointer (some ⟨wp, 0, none⟩), opV kind on bidder leave coins] w (StepP B wp (n + 1) false w) := by
  have h1 : on.tmod 2 < 2 := Int.tmod_lt_of_pos on (by omega)
  have h2 : -2 < on.tmod 2 := Int.lt_tmod_of_pos on (by omega)
  have h3 : on.tmod 2 = -1 ∨ on.tmod 2 = 0 ∨ on.tmod 2 = 1 := by omega
  rcases h3 with e | e | e
  · refine (step_first B wp n true t s kind on _ bidder leave coins w h.swap ht hs hn hB e (.inl ⟨rfl, rfl⟩)).mono ?_
    rintro e w' ⟨he, s', t', hd, h1, h2, hb⟩
    exact ⟨he, t', s', hd.swap, h2, h1, hb⟩
  · exact step_first B wp n false s t kind on _ bidder leave coins w h hs ht hn hB e (.inr (.inl ⟨rfl, rfl⟩))
  · refine (step_first B wp n true t s kind on _ bidder leave coins w h.swap ht hs hn hB e (.inr (.inr ⟨rfl, rfl⟩))).mono ?_
    rintro e w' ⟨he, s', t', hd, h1, h2, hb⟩
    exact ⟨he, t', s', hd.swap, h2, h1, hb⟩

def NewBadP (w : World) (e : Ending) (w' : World) : Prop := e = .returned (.tuple #[.pointer none, .int .i64 2]) ∧ w = w'
set_option maxHeartbeats 1000000 in
theorem new_bad (floor : Int) (w : World) (h : coinsB floor = false) : Calls Try.prog 10 #[.int .i64 floor] w (NewBadP w) := by
  have HC := hide (fun W => coins_any floor W)
  rw [h] at HC
  go_enter Try.func10, Try.ntmps10
  go_wp2_with (go_at_call 26; refine (HC.out _).mono ?_; rintro e w' ⟨rfl, rfl⟩)
  go_ret2
  exact ⟨rfl, rfl⟩
set_option maxHeartbeats 400000 in
theorem are_eq (floor : Int) (b : Bool) (h : coinsB floor = b) (w : World) : Calls Try.prog 11 #[.int .i64 floor] w (BoolPost b w) := by
  subst h
  exact are_any floor w

/-- The world as it is built up. -/
structure St0 (w : World) (f0 f1 : Int) (W : World) : Prop where
  arr : W.heap[w.heap.size]? = some (.cells #[.int .i64 f0, .int .i64 f1] 36 (0, 0))
  blk : W.heap[w.heap.size + 1]? = some (.cells #[.pointer none, .pointer none, .pointer none, .pointer none] 44 (0, 0))
  bel : Below w.heap.size w W
structure St1 (w : World) (f0 f1 : Int) (q r : Nat) (W : World) : Prop where
  arr : W.heap[w.heap.size]? = some (.cells #[.int .i64 f0, .int .i64 f1] 36 (0, 0))
  blk : W.heap[w.heap.size + 1]? = some (.cells #[ptr q, .pointer none, ptr r, .pointer none] 44 (0, 0))
  box : BoxOf W w.heap.size q (.slice none 0 0) f0 []
  ref : RefOf W w.heap.size r (.slice none 0 0) f0 []
  bel : Below w.heap.size w W
def St2 (w : World) (f0 f1 : Int) (W : World) : Prop :=
  ∃ q r q' r', Duo W w.heap.size (w.heap.size + 1) false ⟨q, .slice none 0 0, r, .slice none 0 0, f0, [], []⟩ ⟨q', .slice none 0 0, r', .slice none 0 0, f1, [], []⟩ ∧ Below w.heap.size w W

/-- Two stores into the world's block, a new block behind. -/
theorem ssa (W : World) (wp i j : Nat) (x y : Value) (ob : Obj) : Turns (fun k => k = wp) W (((W.setCell ⟨wp, i, none⟩ x).setCell ⟨wp, j, none⟩ y).alloc ob) ∧ (((W.setCell ⟨wp, i, none⟩ x).setCell ⟨wp, j, none⟩ y).alloc ob).heap[W.heap.size]? = some ob := by
  refine ⟨((Turns.of_set W ⟨wp, i, none⟩ x).trans (Turns.of_set _ ⟨wp, j, none⟩ y)).trans (Turns.of_below ((Below.refl _ _).alloc (Nat.le_refl _) _)), ?_⟩
  have h := World.alloc_heap_new ((W.setCell ⟨wp, i, none⟩ x).setCell ⟨wp, j, none⟩ y) ob
  simpa [World.setCell] using h
theorem ssa_wp {W : World} {wp : Nat} {cs : Array Value} {t : TypeId} (h : W.heap[wp]? = some (.cells cs t (0, 0))) (i j : Nat) (x y : Value) (ob : Obj) : (((W.setCell ⟨wp, i, none⟩ x).setCell ⟨wp, j, none⟩ y).alloc ob).heap[wp]? = some (.cells ((cs.setIfInBounds i x).setIfInBounds j y) t (0, 0)) :=
  (Below.heap_alloc _ _ _ (by have := lt_of_block h; simpa [World.setCell] using this)).trans (setCell_block (setCell_block h i x) j y)
theorem st1_mk {w wr w2 : World} {f0 f1 : Int} {q : Nat} (h : St0 w f0 f1 wr) (hb : Below wr.heap.size wr w2) (hx : BoxOf w2 wr.heap.size q (.slice none 0 0) f0 []) :
    St1 w f0 f1 q w2.heap.size (((w2.setCell ⟨w.heap.size + 1, 0, none⟩ (ptr q)).setCell ⟨w.heap.size + 1, 2, none⟩ (ptr w2.heap.size)).alloc (.cells #[.int .i64 f0, .slice none 0 0] 49)) := by
  obtain ⟨ht, hn⟩ := ssa w2 (w.heap.size + 1) 0 2 (ptr q) (ptr w2.heap.size) (.cells #[.int .i64 f0, .slice none 0 0] 49)
  have h1 := (hb.block _ (lt_of_block h.arr)).trans h.arr
  have h2 := (hb.block _ (lt_of_block h.blk)).trans h.blk
  have hl := lt_of_block h.blk
  have hz := hb.size
  have hB := h.bel.trans (hb.mono h.bel.size)
  refine ⟨(ht.block _ (lt_of_block h1) (by omega)).trans h1, ssa_wp h2 0 2 _ _ _, ⟨(ht.block q (lt_of_block hx.blk) (by have := hx.base; omega)).trans hx.blk, World.ownsRow_nil _ _ _ _, by have := hx.base; have := h.bel.size; omega⟩, ⟨hn, World.ownsRow_nil _ _ _ _, by have := hB.size; omega⟩, ?_⟩
  exact hB.trans (ht.below hB.size (fun k hk e => by omega))
theorem St1.below {w W W' : World} {f0 f1 : Int} {q r : Nat} (h : St1 w f0 f1 q r W) (hb : Below W.heap.size W W') : St1 w f0 f1 q r W' :=
  ⟨(hb.block _ (lt_of_block h.arr)).trans h.arr, (hb.block _ (lt_of_block h.blk)).trans h.blk, h.box.below hb, h.ref.below hb, h.bel.trans (hb.mono h.bel.size)⟩
theorem St2.below {w W W' : World} {f0 f1 : Int} (h : St2 w f0 f1 W) (hb : Below W.heap.size W W') : St2 w f0 f1 W' := by
  obtain ⟨q, r, q', r', hd, hB⟩ := h
  exact ⟨q, r, q', r', hd.below hb, hB.trans (hb.mono hB.size)⟩
theorem st2_mk {w wr w2 : World} {f0 f1 : Int} {q r q' : Nat} (h : St1 w f0 f1 q r wr) (hb : Below wr.heap.size wr w2) (hx : BoxOf w2 wr.heap.size q' (.slice none 0 0) f1 []) :
    St2 w f0 f1 (((w2.setCell ⟨w.heap.size + 1, 1, none⟩ (ptr q')).setCell ⟨w.heap.size + 1, 3, none⟩ (ptr w2.heap.size)).alloc (.cells #[.int .i64 f1, .slice none 0 0] 49)) := by
  obtain ⟨ht, hn⟩ := ssa w2 (w.heap.size + 1) 1 3 (ptr q') (ptr w2.heap.size) (.cells #[.int .i64 f1, .slice none 0 0] 49)
  have h2 := (hb.block _ (lt_of_block h.blk)).trans h.blk
  have hl := lt_of_block h.blk
  have hz := hb.size
  have hB := h.bel.trans (hb.mono h.bel.size)
  have hbx := h.box.below hb
  have hrf := h.ref.below hb
  have hq := lt_of_block h.box.blk
  have hr := lt_of_block h.ref.blk
  have hq' := lt_of_block hx.blk
  have hqb := hx.base
  have hw := h.bel.size
  refine ⟨q, r, q', w2.heap.size, ⟨ssa_wp h2 1 3 _ _ _, hbx.turns ht (fun e => ob_ne hbx.blk h2 (by simp) e) (fun k hk => by cases hk), ⟨(ht.block q' hq' (by omega)).trans hx.blk, World.ownsRow_nil _ _ _ _, by show w.heap.size ≤ q'; omega⟩, hrf.turns ht (fun e => ob_ne hrf.blk h2 (by simp) e) (fun k hk => by cases hk), ⟨hn, World.ownsRow_nil _ _ _ _, by show w.heap.size ≤ w2.heap.size; omega⟩, by show q ≠ q'; omega, by show r ≠ w2.heap.size; omega, (fun g hg => by cases hg), (fun g hg => by cases hg), (fun g hg => by cases hg), (fun g hg => by cases hg), (fun g hg => by cases hg), by omega⟩, hB.trans (ht.below hB.size (fun k hk e => by omega))⟩

set_option maxRecDepth 100000 in
set_option maxHeartbeats 4000000 in
theorem plays_bad0 (f0 f1 : Int) (A : Option Addr) (n c : Nat) (w : World) (hf : coinsB f0 = false) :
    Calls Try.prog 4 #[.agg #[.int .i64 f0, .int .i64 f1], .slice A n c] w (ValPost (.bool true) w) := by
  have HN := hide (fun W => new_bad f0 W hf)
  have HA := hide (fun W => are_eq f0 false hf W)
  have HNUM := hide (fun W => num_any 2 W)
  clear hf
  go_enter Try.func4, Try.ntmps4
  go_wp2_with fail
  refine wp_loop_rounds 1 ?_
  rw [rounds_succ]
  go_wp2_with (first | (go_at_call 10; refine (HN.out _).mono ?_; rintro e _ ⟨rfl, rfl⟩) | (go_at_call 11; refine (HA.out _).mono ?_; rintro e _ ⟨rfl, rfl⟩) | (go_at_call 8; refine (HNUM.out _).mono ?_; rintro e _ ⟨rfl, rfl⟩) | (go_at_call 6; refine (works_any _).mono ?_; rintro e w9 ⟨rfl, hb9⟩))
  go_ret
  exact ⟨rfl, (((Below.refl _ _).alloc (Nat.le_refl _) _).alloc (by simp) _).trans (hb9.mono (by simp; omega))⟩

set_option maxRecDepth 100000 in
set_option maxHeartbeats 8000000 in
theorem plays_bad1 (f0 f1 : Int) (A : Option Addr) (n c : Nat) (w : World) (hf : coinsB f0 = true) (hf1 : coinsB f1 = false) :
    Calls Try.prog 4 #[.agg #[.int .i64 f0, .int .i64 f1], .slice A n c] w (ValPost (.bool true) w) := by
  have HN := hide (fun W => new_any f0 W hf)
  have HA := hide (fun W => are_eq f0 true hf W)
  have HN1 := hide (fun W => new_bad f1 W hf1)
  have HA1 := hide (fun W => are_eq f1 false hf1 W)
  have HNUM := hide (fun W => num_any 2 W)
  have HNUM0 := hide (fun W => num_any 0 W)
  clear hf hf1
  go_enter Try.func4, Try.ntmps4
  go_wp2_with fail
  have H0 : Hid (St0 w f0 f1 ((w.alloc (.cells #[.int .i64 f0, .int .i64 f1] 36)).alloc (.cells #[.pointer none, .pointer none, .pointer none, .pointer none] 44))) := hide ⟨by rw [Below.heap_alloc _ _ _ (by simp)]; exact heap_alloc_new w _, by have := heap_alloc_new (w.alloc (.cells #[.int .i64 f0, .int .i64 f1] 36)) (.cells #[.pointer none, .pointer none, .pointer none, .pointer none] 44); simpa using this, ((Below.refl _ _).alloc (Nat.le_refl _) _).alloc (by simp) _⟩
  go_loopw [6] (fun i wr => (i = .int .i64 0 ∧ St0 w f0 f1 wr) ∨ (i = .int .i64 1 ∧ ∃ q r, St1 w f0 f1 q r wr)) (fun i _ => 2 - (intOf i).toNat)
  case atStart => exact .inl ⟨rfl, H0.out⟩
  case round =>
    rcases hrel with ⟨rfl, h⟩ | ⟨rfl, q, r, h⟩
    · have c0 := cell_of_row wr w.heap.size 0 _ _ (0, 0) h.arr
      simp at c0
      have HS := hide h
      have HLT := hide (lt_of_block h.blk)
      clear h
      go_wp2_with (first | (go_at_call 10; refine (HN.out _).mono ?_; rintro e w2 ⟨q, rfl, hbx, hb2⟩; have HX := hide hbx; have HB2 := hide hb2; have HK2 := hide ((hb2.block _ (lt_of_block HS.out.blk)).trans HS.out.blk); have HA2 := hide ((hb2.block _ (lt_of_block HS.out.arr)).trans HS.out.arr); have c0' := cell_of_row w2 w.heap.size 0 _ _ (0, 0) HA2.out; simp at c0'; clear hbx hb2 c0) | (go_at_call 11; refine (HA.out _).mono ?_; rintro e _ ⟨rfl, rfl⟩) | (go_at_call 8; refine (HNUM0.out _).mono ?_; rintro e _ ⟨rfl, rfl⟩))
      have HLT2 := hide (lt_of_block HK2.out)
      have hlt2 := HLT2.out
      have d0 := cell_of_row w2 (w.heap.size + 1) 0 _ _ (0, 0) HK2.out
      have d2 := cell_of_row w2 (w.heap.size + 1) 2 _ _ (0, 0) HK2.out
      simp at d0 d2
      have g0 := frozen_of_row w2 (w.heap.size + 1) 0 _ _ HK2.out
      have g2 := frozen_of_row w2 (w.heap.size + 1) 2 _ _ HK2.out
      have hS := c0'
      go_region_held3 (fun w' => w'.cell? ⟨w.heap.size, 0, none⟩ = some (.int .i64 f0)) (first | exact hS | go_keep) (fail)
      all_goals
        go_wp2
        go_roundw
        case rel =>
          exact .inr ⟨rfl, _, _, (st1_mk HS.out HB2.out HX.out).below ((Below.refl _ _).drew)⟩
        case measure => simp [intOf]
    · have c1 := cell_of_row wr w.heap.size 1 _ _ (0, 0) h.arr
      simp at c1
      have HB := hide h.bel
      have HS := hide h
      clear h
      go_wp2_with (first | (go_at_call 10; refine (HN1.out _).mono ?_; rintro e _ ⟨rfl, rfl⟩) | (go_at_call 11; refine (HA1.out _).mono ?_; rintro e _ ⟨rfl, rfl⟩) | (go_at_call 8; refine (HNUM.out _).mono ?_; rintro e _ ⟨rfl, rfl⟩) | (go_at_call 6; refine (works_any _).mono ?_; rintro e w9 ⟨rfl, hb9⟩))
      go_ret
      exact ⟨rfl, HB.out.trans (hb9.mono HB.out.size)⟩
end Go.Proofs.Ytnidmoljhopcoaa
