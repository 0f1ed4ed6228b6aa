/- The walks of call.sides' closures, of cmp.Compare and cmp.Or: the order of places. -/
import Derived.Test.YtogicdljbnllgaaStabU
import Derived.Test.YtogicdljbnllgaaWant
import Derived.Test.YtogicdljbnllgaaUntil
namespace Go.Proofs.Ytogicdljbnllgaa
open Go.Shelf Go.RowKit Go.Lib Go.Sort Go.Proofs

/-- A world that has only drawn, and laid blocks. -/
def Gro (W w' : World) : Prop := ∃ q os, w' = grow (W.drewN q) os
theorem drewN_drewN (w : World) (a b : Nat) : (w.drewN a).drewN b = w.drewN (a + b) := by
  unfold World.drewN
  simp only [Nat.add_assoc]
theorem grow_drewN (w : World) (os : Array Obj) (q : Nat) : (grow w os).drewN q = grow (w.drewN q) os := rfl
theorem Gro.refl (W : World) : Gro W W := ⟨0, #[], by rw [grow_empty]; rfl⟩
theorem Gro.trans {a b c : World} (h : Gro a b) (k : Gro b c) : Gro a c := by
  obtain ⟨q, os, rfl⟩ := h
  obtain ⟨q', os', rfl⟩ := k
  exact ⟨q + q', os ++ os', by rw [grow_drewN, drewN_drewN, grow_grow]⟩
theorem Gro.alloc {a b : World} (h : Gro a b) (o : Obj) : Gro a (b.alloc o) := h.trans ⟨0, #[o], by first | rfl | (show b.alloc o = grow b #[o]; unfold grow World.alloc; simp)⟩
theorem Gro.drewN {a b : World} (h : Gro a b) (q : Nat) : Gro a (b.drewN q) := h.trans ⟨q, #[], by rw [grow_empty]⟩
theorem Gro.drew {a b : World} (h : Gro a b) : Gro a b.drew := h.drewN 1
theorem Gro.below {a b : World} (h : Gro a b) : Below a.heap.size a b := by
  obtain ⟨q, os, rfl⟩ := h
  refine ⟨rfl, rfl, rfl, by simp [grow, World.drewN], fun k hk => ?_⟩
  simp only [grow, World.drewN]
  rw [Array.getElem?_append_left hk]
theorem Gro.cell {a b : World} (h : Gro a b) {p : Addr} {v : Value} (hc : a.cell? p = some v) : b.cell? p = some v := (h.below.cell (World.block_lt_of_cell? _ _ hc)).trans hc

def sgnI (x y : Int) : Int := if x < y then -1 else if y < x then 1 else 0
set_option maxHeartbeats 1000000 in
theorem nan64_any (x : Int) (w : World) : Calls Try.prog 49 #[.int .i64 x] w (StayPost (.bool false) w) := by
  go_enter Try.func49, Try.ntmps49
  go_wp2_with fail
  go_ret
  exact ⟨rfl, rfl⟩
set_option maxHeartbeats 1000000 in
theorem nanint_any (x : Int) (w : World) : Calls Try.prog 55 #[.int .i64 x] w (StayPost (.bool false) w) := by
  go_enter Try.func55, Try.ntmps55
  go_wp2_with fail
  go_ret
  exact ⟨rfl, rfl⟩
set_option maxHeartbeats 1000000 in
theorem cmp64_any (x y : Int) (w : World) : Calls Try.prog 45 #[.int .i64 x, .int .i64 y] w (StayPost (.int .i64 (sgnI x y)) w) := by
  have HN := hide (fun x => nan64_any x w)
  unfold sgnI
  rcases Int.lt_trichotomy x y with h | h | h
  · rw [if_pos h]
    go_enter Try.func45, Try.ntmps45
    go_wp2_with (go_at_call 49; refine (HN.out _).mono ?_; rintro e w1 ⟨rfl, rfl⟩)
    go_ret
    exact ⟨rfl, rfl⟩
  · rw [if_neg (by omega), if_neg (by omega)]
    subst h
    go_enter Try.func45, Try.ntmps45
    go_wp2_with (go_at_call 49; refine (HN.out _).mono ?_; rintro e w1 ⟨rfl, rfl⟩)
    go_ret
    exact ⟨rfl, rfl⟩
  · have h1 : ¬ x < y := by omega
    rw [if_neg h1, if_pos h]
    go_enter Try.func45, Try.ntmps45
    go_wp2_with (go_at_call 49; refine (HN.out _).mono ?_; rintro e w1 ⟨rfl, rfl⟩)
    go_ret
    exact ⟨rfl, rfl⟩
set_option maxHeartbeats 1000000 in
theorem cmpint_any (x y : Int) (w : World) : Calls Try.prog 53 #[.int .i64 x, .int .i64 y] w (StayPost (.int .i64 (sgnI x y)) w) := by
  have HN := hide (fun x => nanint_any x w)
  unfold sgnI
  rcases Int.lt_trichotomy x y with h | h | h
  · rw [if_pos h]
    go_enter Try.func53, Try.ntmps53
    go_wp2_with (go_at_call 55; refine (HN.out _).mono ?_; rintro e w1 ⟨rfl, rfl⟩)
    go_ret
    exact ⟨rfl, rfl⟩
  · rw [if_neg (by omega), if_neg (by omega)]
    subst h
    go_enter Try.func53, Try.ntmps53
    go_wp2_with (go_at_call 55; refine (HN.out _).mono ?_; rintro e w1 ⟨rfl, rfl⟩)
    go_ret
    exact ⟨rfl, rfl⟩
  · have h1 : ¬ x < y := by omega
    rw [if_neg h1, if_pos h]
    go_enter Try.func53, Try.ntmps53
    go_wp2_with (go_at_call 55; refine (HN.out _).mono ?_; rintro e w1 ⟨rfl, rfl⟩)
    go_ret
    exact ⟨rfl, rfl⟩
def orI (x y : Int) : Int := if x ≠ 0 then x else y
set_option maxRecDepth 100000 in
set_option maxHeartbeats 1000000 in
theorem or_any (b : Nat) (x y : Int) (w : World) (h0 : w.cell? ⟨b, 0, none⟩ = some (.int .i64 x)) (h1 : w.cell? ⟨b, 1, none⟩ = some (.int .i64 y)) :
    Calls Try.prog 52 #[.slice (some ⟨b, 0, none⟩) 2 2] w (StayPost (.int .i64 (orI x y)) w) := by
  unfold orI
  by_cases hx : x = 0
  · have hx1 : (x != 0) = false := by simp [hx]
    rw [if_neg (by simp [hx])]
    clear hx
    by_cases hy : y = 0
    · have hy1 : (y != 0) = false := by simp [hy]
      have HY := hide hy
      clear hy
      go_enter Try.func52, Try.ntmps52
      go_wp2_with fail
      refine wp_loop_rounds 3 ?_
      rw [rounds_succ]
      go_wp2_with fail
      rw [rounds_succ]
      go_wp2_with fail
      rw [rounds_succ]
      go_wp2_with fail
      go_ret
      exact ⟨by rw [HY.out]; rfl, rfl⟩
    · have hy1 : (y != 0) = true := by simp [hy]
      clear hy
      go_enter Try.func52, Try.ntmps52
      go_wp2_with fail
      refine wp_loop_rounds 3 ?_
      rw [rounds_succ]
      go_wp2_with fail
      rw [rounds_succ]
      go_wp2_with fail
      go_ret
      exact ⟨rfl, rfl⟩
  · have hx1 : (x != 0) = true := by simp [hx]
    rw [if_pos hx]
    clear hx
    go_enter Try.func52, Try.ntmps52
    go_wp2_with fail
    refine wp_loop_rounds 3 ?_
    rw [rounds_succ]
    go_wp2_with fail
    go_ret
    exact ⟨rfl, rfl⟩

def GroPost (v : Value) (w : World) (e : Ending) (w' : World) : Prop := e = .returned v ∧ Gro w w'
set_option maxRecDepth 100000 in
set_option maxHeartbeats 1000000 in
theorem rising_any (x y : Int × Int) (w : World) : Calls Try.prog 44 #[wantV x, wantV y] w (GroPost (.int .i64 (sgnI x.1 y.1)) w) := by
  obtain ⟨x1, x2⟩ := x
  obtain ⟨y1, y2⟩ := y
  have HC := hide (fun W => cmp64_any x1 y1 W)
  simp only
  generalize sgnI x1 y1 = s at *
  have x0 : ∀ o, ((w.alloc (.cells #[.int .i64 x1, .int .i64 x2] 51)).alloc o).cell? ⟨w.heap.size, 0, none⟩ = some (.int .i64 x1) := fun o => (World.cell?_alloc_lt _ o ⟨w.heap.size, 0, none⟩ (by simp)).trans (World.cell?_alloc_mark w _ _ (0, 0) 0)
  go_enter Try.func44, Try.ntmps44
  go_wp2_with (go_at_call 45; refine (HC.out _).mono ?_; rintro e w1 ⟨rfl, rfl⟩)
  go_ret
  exact ⟨rfl, ((Gro.refl w).alloc _).alloc _⟩
set_option maxRecDepth 100000 in
set_option maxHeartbeats 1000000 in
theorem falling_any (cb : Nat) (x y : Int × Int) (w : World) (h : w.cell? ⟨cb, 0, none⟩ = some (.func (.func 44) #[] #[])) : Calls Try.prog 47 #[wantV x, wantV y, .pointer (some ⟨cb, 0, none⟩)] w (GroPost (.int .i64 (sgnI y.1 x.1)) w) := by
  obtain ⟨x1, x2⟩ := x
  obtain ⟨y1, y2⟩ := y
  have HG : Hid (Gro w ((w.alloc (.cells #[.int .i64 x1, .int .i64 x2] 51)).alloc (.cells #[.int .i64 y1, .int .i64 y2] 51))) := hide (((Gro.refl w).alloc _).alloc _)
  have HR := hide (fun W => rising_any (y1, y2) (x1, x2) W)
  simp only at HR ⊢
  generalize sgnI y1 x1 = s at *
  have c0 := HG.out.cell h
  have hx : ((w.alloc (.cells #[.int .i64 x1, .int .i64 x2] 51)).alloc (.cells #[.int .i64 y1, .int .i64 y2] 51)).heap[w.heap.size]? = some (.cells #[.int .i64 x1, .int .i64 x2] 51 (0, 0)) := (Below.heap_alloc _ _ _ (by simp)).trans (heap_alloc_new w _)
  have x0 := cell_of_row _ w.heap.size 0 _ _ (0, 0) hx
  have x1' := cell_of_row _ w.heap.size 1 _ _ (0, 0) hx
  simp only [List.getElem?_toArray, List.getElem?_cons_zero, List.getElem?_cons_succ] at x0 x1'
  clear h hx
  go_enter Try.func47, Try.ntmps47
  go_wp2_with (go_at_call 44; refine (HR.out _).mono ?_; rintro e w1 ⟨rfl, hg1⟩)
  go_ret
  exact ⟨rfl, HG.out.trans hg1⟩
end Go.Proofs.Ytogicdljbnllgaa
