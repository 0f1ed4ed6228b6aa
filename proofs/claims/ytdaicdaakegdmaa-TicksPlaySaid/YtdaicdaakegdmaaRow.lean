/- The walks of the closure that is told the places, of order, Less. -/
import Derived.Test.YtdaicdaakegdmaaCal
import Derived.Shelf.SlSortCmp.WholeK
import Derived.BigQuiet
import Derived.Test.YtdaicdaakegdmaaLift
namespace Go.Proofs.Ytdaicdaakegdmaa
open Go.RowKit Go.Maps Go.Shelf
open Go.ChangeMaps Go.WideMaps

/-- How many entries a map has behind a word on a number. -/
def cntP (f : Int → Option Nat) (k : Int) (x : Option Nat) (n : Nat) : Nat := match x with
  | none => if (f k).isSome then n - 1 else n
  | some _ => if (f k).isSome then n else n + 1
def MovedP (w : World) (m : Nat) (f : Int → Option Nat) (n : Nat) (k : Int) (y : Option Nat) (e : Ending) (w' : World) : Prop :=
  e = .returned (.tuple #[]) ∧ w.grownBy w' (some m) ∧ MapW w' m (updP f k y) (cntP f k y n)
set_option maxRecDepth 100000 in
set_option maxHeartbeats 2000000 in
theorem moved_at {w : World} {p x m n : Nat} {f : Int → Option Nat} (hx : w.cell? ⟨x, 0, none⟩ = some (.pointer (some ⟨p, 0, none⟩))) (hp : w.cell? ⟨p, 2, none⟩ = some (.map (some m))) (hm : MapW w m f n) (hn : n ≤ 1000001) (k : Int) (hk : 0 ≤ k ∧ k ≤ 9223372036854775807) (i : Nat) (hi : i ≤ 1000000) :
    Calls Try.prog 45 #[.int .i64 k, .int .i64 (i : Int), .pointer (some ⟨x, 0, none⟩)] w (MovedP w m f n k (some i)) := by
  obtain ⟨D, hD, hF, hS⟩ := hm
  have hkey := keyOf_int_mk (P := Try.prog) Try.underlying2 (WalkArith.wf_i64 (n := k) (by omega))
  have GL : Hid (n < maxLen) := hide (by unfold maxLen; omega)
  have GV : Hid (plainElem (H := Unit) Try.prog 3 (.int .i64 (i : Int)) = some (.lit (.int .i64 (i : Int)), [])) := hide (plainElem_int Try.underlying3 (WalkArith.wf_i64 (by omega)))
  have HF := hide hF
  have HS := hide hS
  have GD := hide hD
  have hi0 : ¬ (i : Int) < 0 := by omega
  clear hF hS hD
  go_enter Try.func45, Try.ntmps45
  go_wp2_with (at_mapUpdate; refine wpList_mapUpdate_in _ rfl _ _ _ 66 rfl 2 3 law2 Try.underlying66 _ m n D rfl GD.out GL.out _ _ (.int .i64 k) rfl rfl hkey (.lit (.int .i64 (i : Int))) [] GV.out ?_; intro w3 hown3 hg3)
  go_end0
  refine ⟨rfl, hg3.grown, _, ownsMap_tight hown3 |>.mono (Nat.le_of_eq ?_), HF.out.put GD.out.isMap k i, ?_⟩
  all_goals (rw [size_put (GD.out.tidy law2), HF.out.has, HS.out]; rfl)
set_option maxRecDepth 100000 in
set_option maxHeartbeats 2000000 in
theorem moved_out {w : World} {p x m n : Nat} {f : Int → Option Nat} (hx : w.cell? ⟨x, 0, none⟩ = some (.pointer (some ⟨p, 0, none⟩))) (hp : w.cell? ⟨p, 2, none⟩ = some (.map (some m))) (hm : MapW w m f n) (k : Int) (hk : 0 ≤ k ∧ k ≤ 9223372036854775807) :
    Calls Try.prog 45 #[.int .i64 k, .int .i64 (-1), .pointer (some ⟨x, 0, none⟩)] w (MovedP w m f n k none) := by
  obtain ⟨D, hD, hF, hS⟩ := hm
  have hkey := keyOf_int_mk (P := Try.prog) Try.underlying2 (WalkArith.wf_i64 (n := k) (by omega))
  have HF := hide hF
  have HS := hide hS
  have GD := hide hD
  clear hF hS hD
  go_enter Try.func45, Try.ntmps45
  go_wp2_with (at_delete; refine wpList_delete_own _ rfl _ _ 66 2 rfl 3 law2 Try.underlying66 _ m n D rfl GD.out _ _ rfl hkey ?_; intro w3 hown3 hg3)
  go_end0
  have h5 := size_del (k := .int .i64 k) (GD.out.tidy law2)
  rw [HF.out.has, HS.out] at h5
  refine ⟨rfl, hg3.grown, _, ownsMap_tight hown3 |>.mono (Nat.le_of_eq ?_), HF.out.del k, ?_⟩
  all_goals (unfold cntP; simp only; split <;> rename_i h6 <;> simp only [h6] at h5 <;> simp at h5 <;> omega)

def cmpI (x y : Int) : Int := if x < y then -1 else if y < x then 1 else 0
set_option maxHeartbeats 1000000 in
theorem nan_any (x : Int) (w : World) : Calls Try.prog 62 #[.int .i64 x] w (SameP (.bool false) w) := by
  have h : (x != x) = false := by simp
  go_enter Try.func62, Try.ntmps62
  go_wp2
  go_ret
  exact ⟨by simp, rfl⟩
set_option maxHeartbeats 1000000 in
theorem cmp_any (x y : Int) (w : World) : Calls Try.prog 51 #[.int .i64 x, .int .i64 y] w (SameP (.int .i64 (cmpI x y)) w) := by
  have H1 := hide (nan_any x w)
  have H2 := hide (nan_any y w)
  by_cases h1 : x < y
  · have e : cmpI x y = -1 := if_pos h1
    rw [e]
    go_enter Try.func51, Try.ntmps51
    go_wp2_with fail
    refine (H1.out).mono ?_
    rintro _ _ ⟨rfl, rfl⟩
    go_wp2_with fail
    refine (H2.out).mono ?_
    rintro _ _ ⟨rfl, rfl⟩
    go_wp2_with fail
    go_ret
    exact ⟨rfl, rfl⟩
  · by_cases h2 : y < x
    · have e : cmpI x y = 1 := by unfold cmpI; rw [if_neg h1, if_pos h2]
      rw [e]
      go_enter Try.func51, Try.ntmps51
      go_wp2_with fail
      refine (H1.out).mono ?_
      rintro _ _ ⟨rfl, rfl⟩
      go_wp2_with fail
      refine (H2.out).mono ?_
      rintro _ _ ⟨rfl, rfl⟩
      go_wp2_with fail
      go_ret
      exact ⟨rfl, rfl⟩
    · have e : cmpI x y = 0 := by unfold cmpI; rw [if_neg h1, if_neg h2]
      rw [e]
      go_enter Try.func51, Try.ntmps51
      go_wp2_with fail
      refine (H1.out).mono ?_
      rintro _ _ ⟨rfl, rfl⟩
      go_wp2_with fail
      refine (H2.out).mono ?_
      rintro _ _ ⟨rfl, rfl⟩
      go_wp2_with fail
      go_ret
      exact ⟨rfl, rfl⟩

def orI (a b : Int) : Int := if a ≠ 0 then a else b
def ordI (d e : Du) : Int := orI (cmpI d.1 e.1) (cmpI d.2 e.2)
theorem ordI_lt (d e : Du) : decide (ordI d e < 0) = ltD d e := by
  rw [Bool.eq_iff_iff, ltD_iff, decide_eq_true_iff]
  unfold ordI orI cmpI
  split <;> split <;> (try split) <;> (try split) <;> omega
set_option maxHeartbeats 1000000 in
theorem or_any (a b : Int) (g : Nat) (w : World) (h0 : w.cell? ⟨g, 0, none⟩ = some (.int .i64 a)) (h1 : w.cell? ⟨g, 1, none⟩ = some (.int .i64 b)) :
    Calls Try.prog 50 #[.slice (some ⟨g, 0, none⟩) 2 2] w (SameP (.int .i64 (orI a b)) w) := by
  have HR : Hid (∀ c : Int, c = orI a b → SameP (.int .i64 (orI a b)) w (.returned (.int .i64 c)) w) := hide (fun c hc => ⟨by rw [hc], rfl⟩)
  have HI : Hid (orI a b = if a ≠ 0 then a else b) := hide rfl
  generalize orI a b = r at *
  go_enter Try.func50, Try.ntmps50
  go_wp2_with fail
  go_loopw [8] (fun i wr => wr = w ∧ (i = .int .i64 0 ∨ (i = .int .i64 1 ∧ a = 0) ∨ (i = .int .i64 2 ∧ a = 0 ∧ b = 0))) (fun i _ => 2 - (intOf i).toNat)
  case atStart => exact ⟨rfl, .inl rfl⟩
  case round =>
    obtain ⟨rfl, (rfl | ⟨rfl, ha⟩ | ⟨rfl, ha, hb⟩)⟩ := hrel
    · by_cases ha : a = 0
      · have ha1 : (a != 0) = false := by simp [ha]
        go_wp2_with fail
        go_roundw
        case rel => exact ⟨trivial, .inr (.inl ⟨rfl, ha⟩)⟩
        case measure => simp [intOf]
      · have ha1 : (a != 0) = true := by simp [ha]
        go_wp2_with fail
        go_ret
        exact HR.out _ (by rw [HI.out, if_pos ha])
    · by_cases hb : b = 0
      · have hb1 : (b != 0) = false := by simp [hb]
        go_wp2_with fail
        go_roundw
        case rel => exact ⟨trivial, .inr (.inr ⟨rfl, ha, hb⟩)⟩
        case measure => simp [intOf]
      · have hb1 : (b != 0) = true := by simp [hb]
        go_wp2_with fail
        go_ret
        exact HR.out _ (by rw [HI.out, if_neg (by simpa using ha)])
    · go_wp2_with fail
      go_ret
      exact HR.out _ (by rw [HI.out, if_neg (by simpa using ha), hb])

open Go.Sort (grow grow_grow alloc_eq_grow)
/-- What order leaves: new memory alone. -/
def OrdP (d e : Du) (w : World) (x : Ending) (w' : World) : Prop := x = .returned (.int .i64 (ordI d e)) ∧ ∃ q os, w' = grow (w.drewN q) os
theorem below_grow (w : World) (q : Nat) (os : Array Obj) : Below w.heap.size w (grow (w.drewN q) os) :=
  ⟨rfl, rfl, rfl, by simp [grow, World.drewN], fun k hk => by rw [Go.Sort.heap_grow_old _ _ (by simpa [World.drewN] using hk)]; rfl⟩
set_option maxRecDepth 100000 in
set_option maxHeartbeats 4000000 in
theorem order_any (d e : Du) (w : World) : Calls Try.prog 36 #[.agg #[.int .i64 d.1, .int .i64 d.2], .agg #[.int .i64 e.1, .int .i64 e.2]] w (OrdP d e w) := by
  obtain ⟨d1, d2⟩ := d
  obtain ⟨e1, e2⟩ := e
  have HRES : Hid (ordI (d1, d2) (e1, e2) = orI (cmpI d1 e1) (cmpI d2 e2)) := hide rfl
  have C1 := hide (fun W => cmp_any d1 e1 W)
  have C2 := hide (fun W => cmp_any d2 e2 W)
  generalize cmpI d1 e1 = c1 at *
  generalize cmpI d2 e2 = c2 at *
  obtain ⟨w2, hw2⟩ : ∃ w2, w2 = (w.alloc (.cells #[.int .i64 d1, .int .i64 d2] 30)).alloc (.cells #[.int .i64 e1, .int .i64 e2] 30) := ⟨_, rfl⟩
  have hgr : w2 = grow w #[.cells #[.int .i64 d1, .int .i64 d2] 30, .cells #[.int .i64 e1, .int .i64 e2] 30] := by rw [hw2, alloc_eq_grow, alloc_eq_grow, grow_grow]; rfl
  have x0 : w2.heap[w.heap.size]? = some (.cells #[.int .i64 d1, .int .i64 d2] 30 (0, 0)) := by rw [hw2, Below.heap_alloc _ _ _ (by simp)]; exact heap_alloc_new w _
  have x1 : w2.heap[w.heap.size + 1]? = some (.cells #[.int .i64 e1, .int .i64 e2] 30 (0, 0)) := by
    rw [hw2]
    have := heap_alloc_new (w.alloc (.cells #[.int .i64 d1, .int .i64 d2] 30)) (.cells #[.int .i64 e1, .int .i64 e2] 30)
    simpa using this
  have a0 := cell_of_row w2 w.heap.size 0 _ _ (0, 0) x0
  have a1 := cell_of_row w2 w.heap.size 1 _ _ (0, 0) x0
  have a2 := cell_of_row w2 (w.heap.size + 1) 0 _ _ (0, 0) x1
  have a3 := cell_of_row w2 (w.heap.size + 1) 1 _ _ (0, 0) x1
  simp only [List.getElem?_toArray, List.getElem?_cons_zero, List.getElem?_cons_succ] at a0 a1 a2 a3
  have hz2 : w2.heap.size = w.heap.size + 2 := by rw [hw2]; simp
  have HW2 := hide hw2
  have HGR := hide hgr
  have HZ2 := hide hz2
  clear x0 x1 hw2 hgr hz2
  go_enter Try.func36, Try.ntmps36
  go_upto_region 1 with fail
  rw [← HW2.out]
  clear HW2
  have HO : Hid (Calls Try.prog 50 #[.slice (some ⟨w2.heap.size, 0, none⟩) 2 2] (w2.drew.alloc (.cells #[.int .i64 c1, .int .i64 c2] 3)) (SameP (.int .i64 (orI c1 c2)) (w2.drew.alloc (.cells #[.int .i64 c1, .int .i64 c2] 3)))) := hide (by
    have h := heap_alloc_new w2.drew (.cells #[.int .i64 c1, .int .i64 c2] 3)
    exact or_any c1 c2 w2.heap.size _ (cell_of_row _ _ 0 _ _ (0, 0) h) (cell_of_row _ _ 1 _ _ (0, 0) h))
  obtain ⟨S, hS⟩ : ∃ S : World → Prop, S = fun W => W.cell? ⟨w.heap.size, 0, none⟩ = some (.int .i64 d1) ∧ W.cell? ⟨w.heap.size, 1, none⟩ = some (.int .i64 d2) ∧ W.cell? ⟨w.heap.size + 1, 0, none⟩ = some (.int .i64 e1) ∧ W.cell? ⟨w.heap.size + 1, 1, none⟩ = some (.int .i64 e2) := ⟨_, rfl⟩
  have hS0 : S w2.drew := by rw [hS]; exact ⟨a0, a1, a2, a3⟩
  have HS1 : Hid (S (w2.drew.alloc (.cells #[.int .i64 c1, .int .i64 c2] 3))) := hide (by
    have hlt : w.heap.size + 1 < w2.drew.heap.size := by show _ < w2.heap.size; rw [HZ2.out]; omega
    rw [hS]
    exact ⟨(World.cell?_alloc_lt w2.drew _ ⟨_, _, _⟩ (by show w.heap.size < _; omega)).trans a0, (World.cell?_alloc_lt w2.drew _ ⟨_, _, _⟩ (by show w.heap.size < _; omega)).trans a1, (World.cell?_alloc_lt w2.drew _ ⟨_, _, _⟩ hlt).trans a2, (World.cell?_alloc_lt w2.drew _ ⟨_, _, _⟩ hlt).trans a3⟩)
  have HS0 := hide hS0
  clear a0 a1 a2 a3
  refine wp_region_U 12 S (by kernel_rfl) hS0 (fun hHeld => ?_)
  refine AnyU.take (i := 0) (v := ?v1) rfl (by kernel_rfl) (by kernel_rfl) (by kernel_rfl) (by kernel_rfl) (fun _ _ _ h => h) (Or.inl ⟨by rfl, ?hy1⟩) hHeld ?r1
  case hy1 => (intro w hSw; (try dsimp only at hSw); rw [hS] at hSw; obtain ⟨z0, z1, z2, z3⟩ := hSw; go_simp <;> with_reducible rfl)
  simp only [Act.put, List.setIfInBounds_toArray, List.set_cons_zero, List.set_cons_succ]
  refine AnyU.take (i := 1) (v := ?v2) rfl (by kernel_rfl) (by kernel_rfl) (by kernel_rfl) (by kernel_rfl) (fun _ _ _ h => h) (Or.inl ⟨by rfl, ?hy2⟩) hHeld ?r2
  case hy2 => (intro w hSw; (try dsimp only at hSw); rw [hS] at hSw; obtain ⟨z0, z1, z2, z3⟩ := hSw; go_simp <;> with_reducible rfl)
  simp only [Act.put, List.setIfInBounds_toArray, List.set_cons_zero, List.set_cons_succ]
  refine AnyU.take (i := 2) (v := ?v3) rfl (by kernel_rfl) (by kernel_rfl) (by kernel_rfl) (by kernel_rfl) (fun _ _ _ h => h) (Or.inl ⟨by rfl, ?hy3⟩) hHeld ?r3
  case hy3 => (intro w hSw; (try dsimp only at hSw); rw [hS] at hSw; obtain ⟨z0, z1, z2, z3⟩ := hSw; go_simp <;> with_reducible rfl)
  simp only [Act.put, List.setIfInBounds_toArray, List.set_cons_zero, List.set_cons_succ]
  refine AnyU.take (i := 3) (v := ?v4) rfl (by kernel_rfl) (by kernel_rfl) (by kernel_rfl) (by kernel_rfl) (fun _ _ _ h => h) (Or.inl ⟨by rfl, ?hy4⟩) hHeld ?r4
  case hy4 => (intro w hSw; (try dsimp only at hSw); rw [hS] at hSw; obtain ⟨z0, z1, z2, z3⟩ := hSw; go_simp <;> with_reducible rfl)
  simp only [Act.put, List.setIfInBounds_toArray, List.set_cons_zero, List.set_cons_succ]
  refine AnyU.take (i := 5) (v := ?v5) rfl (by kernel_rfl) (by kernel_rfl) (by kernel_rfl) (by kernel_rfl) (fun _ _ _ h => h) (Or.inl ⟨by rfl, ?hy5⟩) hHeld ?r5
  case hy5 => (intro w hSw; (try dsimp only at hSw); rw [hS] at hSw; obtain ⟨z0, z1, z2, z3⟩ := hSw; go_simp <;> with_reducible rfl)
  simp only [Act.put, List.setIfInBounds_toArray, List.set_cons_zero, List.set_cons_succ]
  refine AnyU.take (i := 6) (v := ?v6) rfl (by kernel_rfl) (by kernel_rfl) (by kernel_rfl) (by kernel_rfl) (fun _ _ _ h => h) (Or.inl ⟨by rfl, ?hy6⟩) hHeld ?r6
  case hy6 => (intro w hSw; (try dsimp only at hSw); rw [hS] at hSw; obtain ⟨z0, z1, z2, z3⟩ := hSw; go_simp <;> with_reducible rfl)
  simp only [Act.put, List.setIfInBounds_toArray, List.set_cons_zero, List.set_cons_succ]
  refine AnyU.take (i := 7) (v := ?v7) rfl (by kernel_rfl) (by kernel_rfl) (by kernel_rfl) (by kernel_rfl) (fun _ _ _ h => h) (Or.inl ⟨by rfl, ?hy7⟩) hHeld ?r7
  case hy7 => (intro w hSw; (try dsimp only at hSw); rw [hS] at hSw; obtain ⟨z0, z1, z2, z3⟩ := hSw; go_simp <;> with_reducible rfl)
  simp only [Act.put, List.setIfInBounds_toArray, List.set_cons_zero, List.set_cons_succ]
  refine AnyU.take (i := 8) (v := ?v8) rfl (by kernel_rfl) (by kernel_rfl) (by kernel_rfl) (by kernel_rfl) (fun _ _ _ h => h) (Or.inl ⟨by rfl, ?hy8⟩) hHeld ?r8
  case hy8 => (intro w hSw; (try dsimp only at hSw); rw [hS] at hSw; obtain ⟨z0, z1, z2, z3⟩ := hSw; go_simp <;> with_reducible rfl)
  simp only [Act.put, List.setIfInBounds_toArray, List.set_cons_zero, List.set_cons_succ]
  clear hHeld
  refine AnyU.next (js := [4]) (by kernel_rfl) (by simp) (NextU.cons rfl (fun K hK => ?_) NextU.nil)
  go_simp
  refine (C1.out _).mono ?_
  rintro _ _ ⟨rfl, rfl⟩
  refine hK.out _ _ (fun _ => HS0.out) (fun hHeld => ?_)
  try simp only [Act.put, List.setIfInBounds_toArray, List.set_cons_zero, List.set_cons_succ]
  clear hK K hHeld
  refine AnyU.next (js := [9]) (by kernel_rfl) (by simp) (NextU.cons rfl (fun K hK => ?_) NextU.nil)
  go_simp
  refine (C2.out _).mono ?_
  rintro _ _ ⟨rfl, rfl⟩
  refine hK.out _ _ (fun _ => HS0.out) (fun hHeld => ?_)
  try simp only [Act.put, List.setIfInBounds_toArray, List.set_cons_zero, List.set_cons_succ]
  clear hK K hHeld
  refine AnyU.next (js := [10]) (by kernel_rfl) (by simp) (NextU.cons rfl (fun K hK => ?_) NextU.nil)
  go_simp
  refine hK.out _ _ (fun _ => HS1.out) (fun hHeld => ?_)
  try simp only [Act.put, List.setIfInBounds_toArray, List.set_cons_zero, List.set_cons_succ]
  clear hK K hHeld
  refine AnyU.next (js := [11]) (by kernel_rfl) (by simp) (NextU.cons rfl (fun K hK => ?_) NextU.nil)
  go_simp
  refine (HO.out).mono ?_
  rintro _ _ ⟨rfl, rfl⟩
  refine hK.out _ _ (fun _ => HS1.out) (fun hHeld => ?_)
  try simp only [Act.put, List.setIfInBounds_toArray, List.set_cons_zero, List.set_cons_succ]
  clear hK K hHeld
  refine AnyU.next (js := [12]) (by kernel_rfl) (by simp) (NextU.cons rfl (fun K hK => ?_) NextU.nil)
  go_simp
  refine hK.out _ _ (fun h => absurd h (by decide)) (fun hHeld => ?_)
  try simp only [Act.put, List.setIfInBounds_toArray, List.set_cons_zero, List.set_cons_succ]
  clear hK K hHeld
  refine AnyU.over (by kernel_rfl) ?_ _
  go_wp2
  go_ret
  exact ⟨show Ending.returned (Value.int .i64 (orI c1 c2)) = .returned (.int .i64 (ordI (d1, d2) (e1, e2))) from by rw [HRES.out], 1, #[.cells #[.int .i64 d1, .int .i64 d2] 30, .cells #[.int .i64 e1, .int .i64 e2] 30] ++ #[.cells #[.int .i64 c1, .int .i64 c2] 3], by
    rw [HGR.out, alloc_eq_grow, grow_grow]; rfl⟩

/-- The row's Less. -/
def LessP (b : Bool) (w : World) (x : Ending) (w' : World) : Prop := x = .returned (.bool b) ∧ Below w.heap.size w w'
set_option maxRecDepth 100000 in
set_option maxHeartbeats 4000000 in
theorem less_any {w : World} {r g n c B : Nat} {f : Value} (l : List Du) (hr : w.heap[r]? = some (.cells #[.slice (some ⟨g, 0, none⟩) l.length c, f] 75 (0, 0))) (ho : w.ownsRow B 30 2 (.slice (some ⟨g, 0, none⟩) l.length c) l.length (flatD l)) (i j : Nat) (hi : i < l.length) (hj : j < l.length) :
    Calls Try.prog 86 #[.pointer (some ⟨r, 0, none⟩), .int .i64 (i : Int), .int .i64 (j : Int)] w (LessP (ltD (gD l i) (gD l j)) w) := by
  have c0 := cell_of_row w r 0 _ _ (0, 0) hr
  simp only [List.getElem?_toArray, List.getElem?_cons_zero] at c0
  have x0 := (ho.cellAt (i * 2) (by omega)).trans (flatD_at l i hi).1
  have x1 := (ho.cellAt (i * 2 + 1) (by omega)).trans (flatD_at l i hi).2
  have y0 := (ho.cellAt (j * 2) (by omega)).trans (flatD_at l j hj).1
  have y1 := (ho.cellAt (j * 2 + 1) (by omega)).trans (flatD_at l j hj).2
  have HR : Hid (decide (ordI (gD l i) (gD l j) < 0) = ltD (gD l i) (gD l j)) := hide (ordI_lt _ _)
  have HC := hide (order_any (gD l i) (gD l j) w.drew)
  generalize gD l i = d at *
  generalize gD l j = e at *
  obtain ⟨d1, d2⟩ := d
  obtain ⟨e1, e2⟩ := e
  simp only at x0 x1 y0 y1
  have h1 : (i : Int) < (l.length : Int) := by omega
  have h2 : (j : Int) < (l.length : Int) := by omega
  have h3 : (0 : Int) ≤ (i : Int) := by omega
  have h4 : (0 : Int) ≤ (j : Int) := by omega
  clear ho hr
  go_enter Try.func86, Try.ntmps86
  go_upto_region 1 with fail
  obtain ⟨S, hS⟩ : ∃ S : World → Prop, S = fun W => W.cell? ⟨r, 0, none⟩ = some (.slice (some ⟨g, 0, none⟩) l.length c) ∧ W.cell? ⟨g, i * 2, none⟩ = some (.int .i64 d1) ∧ W.cell? ⟨g, i * 2 + 1, none⟩ = some (.int .i64 d2) ∧ W.cell? ⟨g, j * 2, none⟩ = some (.int .i64 e1) ∧ W.cell? ⟨g, j * 2 + 1, none⟩ = some (.int .i64 e2) := ⟨_, rfl⟩
  have hS0 : S w.drew := by rw [hS]; exact ⟨c0, x0, x1, y0, y1⟩
  have HSB : Hid (∀ W, Below w.heap.size w W → S W) := hide (fun W hW => by
    rw [hS]
    exact ⟨(hW.cell (lt_of_cell c0)).trans c0, (hW.cell (lt_of_cell x0)).trans x0, (hW.cell (lt_of_cell x1)).trans x1, (hW.cell (lt_of_cell y0)).trans y0, (hW.cell (lt_of_cell y1)).trans y1⟩)
  clear c0 x0 x1 y0 y1
  refine wp_region_U 16 S (by kernel_rfl) hS0 (fun hHeld => ?_)
  refine AnyU.take (i := 0) (v := ?v1) rfl (by kernel_rfl) (by kernel_rfl) (by kernel_rfl) (by kernel_rfl) (fun _ _ _ h => h) (Or.inl ⟨by rfl, ?hy1⟩) hHeld ?r1
  case hy1 => (intro w hSw; (try dsimp only at hSw); rw [hS] at hSw; obtain ⟨z0, z1, z2, z3, z4⟩ := hSw; go_simp <;> with_reducible rfl)
  simp only [Act.put, List.setIfInBounds_toArray, List.set_cons_zero, List.set_cons_succ]
  refine AnyU.take (i := 1) (v := ?v2) rfl (by kernel_rfl) (by kernel_rfl) (by kernel_rfl) (by kernel_rfl) (fun _ _ _ h => h) (Or.inl ⟨by rfl, ?hy2⟩) hHeld ?r2
  case hy2 => (intro w hSw; (try dsimp only at hSw); rw [hS] at hSw; obtain ⟨z0, z1, z2, z3, z4⟩ := hSw; go_simp <;> with_reducible rfl)
  simp only [Act.put, List.setIfInBounds_toArray, List.set_cons_zero, List.set_cons_succ]
  refine AnyU.take (i := 2) (v := ?v3) rfl (by kernel_rfl) (by kernel_rfl) (by kernel_rfl) (by kernel_rfl) (fun _ _ _ h => h) (Or.inl ⟨by rfl, ?hy3⟩) hHeld ?r3
  case hy3 => (intro w hSw; (try dsimp only at hSw); rw [hS] at hSw; obtain ⟨z0, z1, z2, z3, z4⟩ := hSw; go_simp <;> with_reducible rfl)
  simp only [Act.put, List.setIfInBounds_toArray, List.set_cons_zero, List.set_cons_succ]
  refine AnyU.take (i := 3) (v := ?v4) rfl (by kernel_rfl) (by kernel_rfl) (by kernel_rfl) (by kernel_rfl) (fun _ _ _ h => h) (Or.inl ⟨by rfl, ?hy4⟩) hHeld ?r4
  case hy4 => (intro w hSw; (try dsimp only at hSw); rw [hS] at hSw; obtain ⟨z0, z1, z2, z3, z4⟩ := hSw; go_simp <;> with_reducible rfl)
  simp only [Act.put, List.setIfInBounds_toArray, List.set_cons_zero, List.set_cons_succ]
  refine AnyU.take (i := 4) (v := ?v5) rfl (by kernel_rfl) (by kernel_rfl) (by kernel_rfl) (by kernel_rfl) (fun _ _ _ h => h) (Or.inl ⟨by rfl, ?hy5⟩) hHeld ?r5
  case hy5 => (intro w hSw; (try dsimp only at hSw); rw [hS] at hSw; obtain ⟨z0, z1, z2, z3, z4⟩ := hSw; go_simp <;> with_reducible rfl)
  simp only [Act.put, List.setIfInBounds_toArray, List.set_cons_zero, List.set_cons_succ]
  refine AnyU.take (i := 5) (v := ?v6) rfl (by kernel_rfl) (by kernel_rfl) (by kernel_rfl) (by kernel_rfl) (fun _ _ _ h => h) (Or.inl ⟨by rfl, ?hy6⟩) hHeld ?r6
  case hy6 => (intro w hSw; (try dsimp only at hSw); rw [hS] at hSw; obtain ⟨z0, z1, z2, z3, z4⟩ := hSw; go_simp <;> with_reducible rfl)
  simp only [Act.put, List.setIfInBounds_toArray, List.set_cons_zero, List.set_cons_succ]
  refine AnyU.take (i := 6) (v := ?v7) rfl (by kernel_rfl) (by kernel_rfl) (by kernel_rfl) (by kernel_rfl) (fun _ _ _ h => h) (Or.inl ⟨by rfl, ?hy7⟩) hHeld ?r7
  case hy7 => (intro w hSw; (try dsimp only at hSw); rw [hS] at hSw; obtain ⟨z0, z1, z2, z3, z4⟩ := hSw; go_simp <;> with_reducible rfl)
  simp only [Act.put, List.setIfInBounds_toArray, List.set_cons_zero, List.set_cons_succ]
  refine AnyU.take (i := 7) (v := ?v8) rfl (by kernel_rfl) (by kernel_rfl) (by kernel_rfl) (by kernel_rfl) (fun _ _ _ h => h) (Or.inl ⟨by rfl, ?hy8⟩) hHeld ?r8
  case hy8 => (intro w hSw; (try dsimp only at hSw); rw [hS] at hSw; obtain ⟨z0, z1, z2, z3, z4⟩ := hSw; go_simp <;> with_reducible rfl)
  simp only [Act.put, List.setIfInBounds_toArray, List.set_cons_zero, List.set_cons_succ]
  refine AnyU.take (i := 8) (v := ?v9) rfl (by kernel_rfl) (by kernel_rfl) (by kernel_rfl) (by kernel_rfl) (fun _ _ _ h => h) (Or.inl ⟨by rfl, ?hy9⟩) hHeld ?r9
  case hy9 => (intro w hSw; (try dsimp only at hSw); rw [hS] at hSw; obtain ⟨z0, z1, z2, z3, z4⟩ := hSw; go_simp <;> with_reducible rfl)
  simp only [Act.put, List.setIfInBounds_toArray, List.set_cons_zero, List.set_cons_succ]
  refine AnyU.take (i := 9) (v := ?v10) rfl (by kernel_rfl) (by kernel_rfl) (by kernel_rfl) (by kernel_rfl) (fun _ _ _ h => h) (Or.inl ⟨by rfl, ?hy10⟩) hHeld ?r10
  case hy10 => (intro w hSw; (try dsimp only at hSw); rw [hS] at hSw; obtain ⟨z0, z1, z2, z3, z4⟩ := hSw; go_simp <;> with_reducible rfl)
  simp only [Act.put, List.setIfInBounds_toArray, List.set_cons_zero, List.set_cons_succ]
  refine AnyU.take (i := 10) (v := ?v11) rfl (by kernel_rfl) (by kernel_rfl) (by kernel_rfl) (by kernel_rfl) (fun _ _ _ h => h) (Or.inl ⟨by rfl, ?hy11⟩) hHeld ?r11
  case hy11 => (intro w hSw; (try dsimp only at hSw); rw [hS] at hSw; obtain ⟨z0, z1, z2, z3, z4⟩ := hSw; go_simp <;> with_reducible rfl)
  simp only [Act.put, List.setIfInBounds_toArray, List.set_cons_zero, List.set_cons_succ]
  refine AnyU.take (i := 11) (v := ?v12) rfl (by kernel_rfl) (by kernel_rfl) (by kernel_rfl) (by kernel_rfl) (fun _ _ _ h => h) (Or.inl ⟨by rfl, ?hy12⟩) hHeld ?r12
  case hy12 => (intro w hSw; (try dsimp only at hSw); rw [hS] at hSw; obtain ⟨z0, z1, z2, z3, z4⟩ := hSw; go_simp <;> with_reducible rfl)
  simp only [Act.put, List.setIfInBounds_toArray, List.set_cons_zero, List.set_cons_succ]
  refine AnyU.take (i := 12) (v := ?v13) rfl (by kernel_rfl) (by kernel_rfl) (by kernel_rfl) (by kernel_rfl) (fun _ _ _ h => h) (Or.inl ⟨by rfl, ?hy13⟩) hHeld ?r13
  case hy13 => (intro w hSw; (try dsimp only at hSw); rw [hS] at hSw; obtain ⟨z0, z1, z2, z3, z4⟩ := hSw; go_simp <;> with_reducible rfl)
  simp only [Act.put, List.setIfInBounds_toArray, List.set_cons_zero, List.set_cons_succ]
  refine AnyU.take (i := 13) (v := ?v14) rfl (by kernel_rfl) (by kernel_rfl) (by kernel_rfl) (by kernel_rfl) (fun _ _ _ h => h) (Or.inl ⟨by rfl, ?hy14⟩) hHeld ?r14
  case hy14 => (intro w hSw; (try dsimp only at hSw); rw [hS] at hSw; obtain ⟨z0, z1, z2, z3, z4⟩ := hSw; go_simp <;> with_reducible rfl)
  simp only [Act.put, List.setIfInBounds_toArray, List.set_cons_zero, List.set_cons_succ]
  clear hHeld
  refine AnyU.next (js := [14]) (by kernel_rfl) (by simp) (NextU.cons rfl (fun K hK => ?_) NextU.nil)
  go_simp
  refine (HC.out).mono ?_
  rintro _ w4 ⟨rfl, q, os, hw4⟩
  have HB4 : Hid (Below w.heap.size w w4) := hide (by rw [hw4]; exact (Below.refl _ _).drew.trans (below_grow w.drew q os))
  clear hw4
  refine hK.out _ _ (fun _ => HSB.out _ HB4.out) (fun hHeld => ?_)
  try simp only [Act.put, List.setIfInBounds_toArray, List.set_cons_zero, List.set_cons_succ]
  clear hK K hHeld
  refine AnyU.next (js := [15]) (by kernel_rfl) (by simp) (NextU.cons rfl (fun K hK => ?_) NextU.nil)
  go_simp
  refine hK.out _ _ (fun _ => HSB.out _ HB4.out) (fun hHeld => ?_)
  try simp only [Act.put, List.setIfInBounds_toArray, List.set_cons_zero, List.set_cons_succ]
  clear hK K hHeld
  refine AnyU.next (js := [16]) (by kernel_rfl) (by simp) (NextU.cons rfl (fun K hK => ?_) NextU.nil)
  go_simp
  refine hK.out _ _ (fun h => absurd h (by decide)) (fun hHeld => ?_)
  try simp only [Act.put, List.setIfInBounds_toArray, List.set_cons_zero, List.set_cons_succ]
  clear hK K hHeld
  refine AnyU.over (by kernel_rfl) ?_ _
  go_wp2
  go_ret
  exact ⟨show Ending.returned (Value.bool (decide (ordI (d1, d2) (e1, e2) < 0))) = .returned (.bool (ltD (d1, d2) (e1, e2))) from by rw [HR.out], HB4.out⟩
end Go.Proofs.Ytdaicdaakegdmaa
