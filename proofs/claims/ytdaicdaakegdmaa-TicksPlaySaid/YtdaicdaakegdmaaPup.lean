/- The walks of the row's Push and Pop. -/
import Derived.Test.YtdaicdaakegdmaaSwp
namespace Go.Proofs.Ytdaicdaakegdmaa
open Go.RowKit Go.Maps Go.Shelf
open Go.ChangeMaps Go.WideMaps

theorem own_front {w : World} {B e size n k : Nat} {A : Option Addr} {c : Nat} {xs : List Value} (h : w.ownsRow B e size (.slice A n c) n xs) (hk : k ≤ n) (h0 : 0 < n) : w.ownsRow B e size (.slice A k c) k (xs.take (k * size)) := by
  obtain ⟨h1, h2⟩ := h
  refine ⟨by rw [List.length_take, h1]; exact Nat.min_eq_left (Nat.mul_le_mul_right _ hk), ?_⟩
  rcases h2 with ⟨_, h2⟩ | ⟨g, cap, cur, hv, hg, hh, hle, hm, hs, ht⟩
  · omega
  · injection hv with e1 e2 e3
    subst e1 e3
    refine .inr ⟨g, c, cur, rfl, hg, hh, by omega, hm, hs, ?_⟩
    rw [← ht, List.take_take, Nat.min_eq_left (Nat.mul_le_mul_right _ hk)]

theorem grown_setC (W : World) (b i : Nat) (v : Value) : W.grownBy (W.setCell ⟨b, i, none⟩ v) (some b) :=
  ⟨rfl, rfl, rfl, by simp [World.setCell], fun k _ hne => Below.heap_setCell W _ _ k (fun e => hne (by rw [e]))⟩
/-- What a call on a calendar leaves: the list l', in its old row or a new one. -/
def TurnP (B p r x m : Nat) (v : Value) (now : Int) (l' : List Du) (val : Value) (w : World) (e : Ending) (w' : World) : Prop :=
  e = .returned val ∧ ∃ v', Cal w' B p r x m v' now l' ∧ Only (Foot p r m v) w w' ∧ ∀ g, v'.ownBlock = some g → v.ownBlock = some g ∨ w.heap.size ≤ g

theorem only_map {S : Nat → Prop} {w w1 w2 : World} {m : Nat} (h : Only S w w1) (hg : w1.grownBy w2 (some m)) (hm : S m) : Only S w w2 :=
  h.trans (T := fun k => k = m) ⟨hg.os, hg.tape, hg.output, hg.size, fun k hk hn => hg.block k hk (fun e => hn (Option.some.inj e))⟩ (fun k _ e => by subst e; exact hm)
/-- The list grown by one. -/
theorem CalF.grow {w w1 : World} {B p r x m n : Nat} {v v1 : Value} {now : Int} {l : List Du} {f : Int → Option Nat} (h : CalF w B p r x m v now l f n) {d : Du} (hd : posD l d.2 = none) (hok : (0 ≤ d.1 ∧ d.1 ≤ 1099511627776) ∧ 0 ≤ d.2 ∧ d.2 ≤ 9223372036854775807) (hl : l.length + 1 ≤ 1000000)
    (ho : w1.ownsRow B 30 2 v1 (l.length + 1) (flatD l ++ [.int .i64 d.1, .int .i64 d.2])) (hg : w.grownBy w1 v.ownBlock) : CalF (w1.setCell ⟨r, 0, none⟩ v1) B p r x m v1 now (l ++ [d]) f n := by
  have hr := h.rows
  have hd2 := h.apart
  have key : ∀ {k : Nat} {o : Obj}, v.ownBlock ≠ some k → w.heap[k]? = some o → w1.heap[k]? = some o := fun hk ho => (hg.block _ (lt_of_block ho) (Ne.symm hk)).trans ho
  have hr1 := key hr.2.1 h.rw_
  have ho2 : w1.ownsRow B 30 2 v1 (l ++ [d]).length (flatD (l ++ [d])) := by
    rw [flatD_append, List.length_append]; exact ho
  refine ⟨(Below.heap_setCell _ _ _ _ hd2.1).trans (key hr.1 h.tk), setCell_block hr1 0 v1, (Below.heap_setCell _ _ _ _ (Ne.symm hd2.2.2.2.1)).trans (key hr.2.2.1 h.box), ?_, ?_, h.base, push_nod h.nod hd, by rw [List.length_append]; exact hl, ?_⟩
  · exact ownsRow_setCell_other ho2 (fun e => own_ne ho2 hr1 (fun cur e' => by injection e' with _ e' _; exact absurd e' (by decide)) e) _
  · exact (h.map.keep hg hr.2.2.2).keep (grown_setC _ _ _ _) (fun e => hd2.2.2.2.2.1 (Option.some.inj e))
  · intro e he
    rcases List.mem_append.1 he with h1 | h1
    · exact h.ok e h1
    · obtain rfl := List.mem_singleton.1 h1
      exact hok
theorem push_end {w : World} {B p r x m : Nat} {v : Value} {now : Int} {l : List Du} {d : Du} (hn : (l.map (·.2)).Nodup) (hd : posD l d.2 = none) (h : CalF w B p r x m v now (l ++ [d]) (updP (posD l) d.2 (some l.length)) (cntP (posD l) d.2 (some l.length) l.length)) : Cal w B p r x m v now (l ++ [d]) := by
  have e : cntP (posD l) d.2 (some l.length) l.length = (l ++ [d]).length := by unfold cntP; rw [hd, List.length_append]; rfl
  rw [posD_push hn hd, e] at h
  exact h
set_option maxRecDepth 100000 in
set_option maxHeartbeats 8000000 in
theorem push_row {w : World} {B p r x m : Nat} {v : Value} {now : Int} {l : List Du} (h : Cal w B p r x m v now l) (hBw : B ≤ w.heap.size) (d : Du) (hd : posD l d.2 = none) (hok : (0 ≤ d.1 ∧ d.1 ≤ 1099511627776) ∧ 0 ≤ d.2 ∧ d.2 ≤ 9223372036854775807) (hl : l.length + 1 ≤ 1000000) :
    Calls Try.prog 88 #[.pointer (some ⟨r, 0, none⟩), .iface 30 (.agg #[.int .i64 d.1, .int .i64 d.2])] w (TurnP B p r x m v now (l ++ [d]) (.tuple #[]) w) := by
  obtain ⟨d1, d2⟩ := d
  obtain ⟨A, c, rfl⟩ := own_shape h.row
  obtain ⟨w1, hw1⟩ : ∃ w1, w1 = w.alloc (.cells #[.int .i64 d1, .int .i64 d2] 30) := ⟨_, rfl⟩
  have hb1 : Below w.heap.size w w1 := by rw [hw1]; exact (Below.refl _ _).alloc (Nat.le_refl _) _
  have hx1 : w1.heap[w.heap.size]? = some (.cells #[.int .i64 d1, .int .i64 d2] 30 (0, 0)) := by rw [hw1]; exact heap_alloc_new w _
  have h1 : Cal w1 B p r x m (.slice A l.length c) now l := CalF.below h hb1
  have HD := hide h1.drew
  have H0 := hide h
  have HB1 := hide hb1
  have HX1 := hide hx1
  have hta : ∀ W : World, (Instr.typeAssert (.iface 30 (.agg #[.int .i64 d1, .int .i64 d2])) 20 30 false).run Try.prog W = .ok (.agg #[.int .i64 d1, .int .i64 d2]) W := fun W => by kernel_rfl
  have HW1 := hide hw1
  clear h h1 hb1 hx1 hw1
  go_enter Try.func88, Try.ntmps88
  go_wp2_with fail
  obtain ⟨S, hS⟩ : ∃ S : World → Prop, S = fun W => W.cell? ⟨r, 1, none⟩ = some (.func (.func 45) #[] #[.pointer (some ⟨x, 0, none⟩)]) ∧ W.cell? ⟨r, 0, none⟩ = some (.slice A l.length c) ∧ W.cell? ⟨w.heap.size, 1, none⟩ = some (.int .i64 d2) := ⟨_, rfl⟩
  have hS0 : S w1.drew := by
    obtain ⟨_, _, _, q0, q1, _⟩ := HD.out.cells
    rw [hS]
    exact ⟨q1, q0, cell_of_row w1 w.heap.size 1 _ _ (0, 0) HX1.out⟩
  rw [← HW1.out]
  have HM := hide (CalF.moved HD.out d2 hok.2 l.length (by omega) (by omega))
  refine wp_region_E (fun t => decide (t < 11)) S (by kernel_rfl) hS0 (fun hHeld => ?_)
  refine AnyE.take (D := []) (hDd := (by kernel_rfl)) (C := [0, 1, 2, 3]) (hCd := (by kernel_rfl)) (i := 0) (v := ?v1) rfl (by kernel_rfl) (by kernel_rfl) (by kernel_rfl) (by kernel_rfl) (fun _ _ _ h => h) (Or.inl ⟨by rfl, ?hy1⟩) hHeld ?r1
  case hy1 => (intro w hSw; (try dsimp only at hSw); rw [hS] at hSw; obtain ⟨z0, z1, z2⟩ := hSw; go_simp <;> with_reducible rfl)
  simp only [Act.put, List.setIfInBounds_toArray, List.set_cons_zero, List.set_cons_succ]
  refine AnyE.take (D := []) (hDd := (by kernel_rfl)) (C := [1, 2, 3]) (hCd := (by kernel_rfl)) (i := 1) (v := ?v2) rfl (by kernel_rfl) (by kernel_rfl) (by kernel_rfl) (by kernel_rfl) (fun _ _ _ h => h) (Or.inl ⟨by rfl, ?hy2⟩) hHeld ?r2
  case hy2 => (intro w hSw; (try dsimp only at hSw); rw [hS] at hSw; obtain ⟨z0, z1, z2⟩ := hSw; go_simp <;> with_reducible rfl)
  simp only [Act.put, List.setIfInBounds_toArray, List.set_cons_zero, List.set_cons_succ]
  refine AnyE.take (D := []) (hDd := (by kernel_rfl)) (C := [2, 3]) (hCd := (by kernel_rfl)) (i := 2) (v := ?v3) rfl (by kernel_rfl) (by kernel_rfl) (by kernel_rfl) (by kernel_rfl) (fun _ _ _ h => h) (Or.inl ⟨by rfl, ?hy3⟩) hHeld ?r3
  case hy3 => (intro w hSw; (try dsimp only at hSw); rw [hS] at hSw; obtain ⟨z0, z1, z2⟩ := hSw; go_simp <;> with_reducible rfl)
  simp only [Act.put, List.setIfInBounds_toArray, List.set_cons_zero, List.set_cons_succ]
  refine AnyE.take (D := []) (hDd := (by kernel_rfl)) (C := [3]) (hCd := (by kernel_rfl)) (i := 3) (v := ?v4) rfl (by kernel_rfl) (by kernel_rfl) (by kernel_rfl) (by kernel_rfl) (fun _ _ _ h => h) (Or.inl ⟨by rfl, ?hy4⟩) hHeld ?r4
  case hy4 => (intro w hSw; (try dsimp only at hSw); rw [hS] at hSw; obtain ⟨z0, z1, z2⟩ := hSw; go_simp <;> with_reducible rfl)
  simp only [Act.put, List.setIfInBounds_toArray, List.set_cons_zero, List.set_cons_succ]
  refine AnyE.take (D := []) (hDd := (by kernel_rfl)) (C := [4, 5]) (hCd := (by kernel_rfl)) (i := 4) (v := ?v5) rfl (by kernel_rfl) (by kernel_rfl) (by kernel_rfl) (by kernel_rfl) (fun _ _ _ h => h) (Or.inl ⟨by rfl, ?hy5⟩) hHeld ?r5
  case hy5 => (intro w hSw; (try dsimp only at hSw); rw [hS] at hSw; obtain ⟨z0, z1, z2⟩ := hSw; go_simp <;> with_reducible rfl)
  simp only [Act.put, List.setIfInBounds_toArray, List.set_cons_zero, List.set_cons_succ]
  refine AnyE.take (D := []) (hDd := (by kernel_rfl)) (C := [5]) (hCd := (by kernel_rfl)) (i := 5) (v := ?v6) rfl (by kernel_rfl) (by kernel_rfl) (by kernel_rfl) (by kernel_rfl) (fun _ _ _ h => h) (Or.inl ⟨by rfl, ?hy6⟩) hHeld ?r6
  case hy6 => (intro w hSw; (try dsimp only at hSw); rw [hS] at hSw; obtain ⟨z0, z1, z2⟩ := hSw; go_simp <;> with_reducible rfl)
  simp only [Act.put, List.setIfInBounds_toArray, List.set_cons_zero, List.set_cons_succ]
  refine AnyE.take (D := []) (hDd := (by kernel_rfl)) (C := [6, 7, 8, 9, 10]) (hCd := (by kernel_rfl)) (i := 6) (v := ?v7) rfl (by kernel_rfl) (by kernel_rfl) (by kernel_rfl) (by kernel_rfl) (fun _ _ _ h => h) (Or.inl ⟨by rfl, ?hy7⟩) hHeld ?r7
  case hy7 => (intro w hSw; (try dsimp only at hSw); rw [hS] at hSw; obtain ⟨z0, z1, z2⟩ := hSw; go_simp <;> with_reducible rfl)
  simp only [Act.put, List.setIfInBounds_toArray, List.set_cons_zero, List.set_cons_succ]
  refine AnyE.take (D := []) (hDd := (by kernel_rfl)) (C := [7, 8, 9, 10]) (hCd := (by kernel_rfl)) (i := 7) (v := ?v8) rfl (by kernel_rfl) (by kernel_rfl) (by kernel_rfl) (by kernel_rfl) (fun _ _ _ h => h) (Or.inl ⟨by rfl, ?hy8⟩) hHeld ?r8
  case hy8 => (intro w hSw; (try dsimp only at hSw); rw [hS] at hSw; obtain ⟨z0, z1, z2⟩ := hSw; go_simp <;> with_reducible rfl)
  simp only [Act.put, List.setIfInBounds_toArray, List.set_cons_zero, List.set_cons_succ]
  refine AnyE.take (D := []) (hDd := (by kernel_rfl)) (C := [8, 9, 10]) (hCd := (by kernel_rfl)) (i := 8) (v := ?v9) rfl (by kernel_rfl) (by kernel_rfl) (by kernel_rfl) (by kernel_rfl) (fun _ _ _ h => h) (Or.inl ⟨by rfl, ?hy9⟩) hHeld ?r9
  case hy9 => (intro w hSw; (try dsimp only at hSw); rw [hS] at hSw; obtain ⟨z0, z1, z2⟩ := hSw; go_simp <;> with_reducible rfl)
  simp only [Act.put, List.setIfInBounds_toArray, List.set_cons_zero, List.set_cons_succ]
  refine AnyE.take (D := []) (hDd := (by kernel_rfl)) (C := [9, 10]) (hCd := (by kernel_rfl)) (i := 9) (v := ?v10) rfl (by kernel_rfl) (by kernel_rfl) (by kernel_rfl) (by kernel_rfl) (fun _ _ _ h => h) (Or.inl ⟨by rfl, ?hy10⟩) hHeld ?r10
  case hy10 => (intro w hSw; (try dsimp only at hSw); rw [hS] at hSw; obtain ⟨z0, z1, z2⟩ := hSw; go_simp <;> with_reducible rfl)
  simp only [Act.put, List.setIfInBounds_toArray, List.set_cons_zero, List.set_cons_succ]
  refine AnyE.take (D := []) (hDd := (by kernel_rfl)) (C := [10]) (hCd := (by kernel_rfl)) (i := 10) (v := ?v11) rfl (by kernel_rfl) (by kernel_rfl) (by kernel_rfl) (by kernel_rfl) (fun _ _ _ h => h) (Or.inl ⟨by rfl, ?hy11⟩) hHeld ?r11
  case hy11 => (intro w hSw; (try dsimp only at hSw); rw [hS] at hSw; obtain ⟨z0, z1, z2⟩ := hSw; go_simp <;> with_reducible rfl)
  simp only [Act.put, List.setIfInBounds_toArray, List.set_cons_zero, List.set_cons_succ]
  clear hHeld
  refine AnyE.next (js := [11]) (by kernel_rfl) (by simp) (NextE.cons rfl (fun K hK => ?_) NextE.nil)
  go_simp
  refine (HM.out).mono ?_
  rintro _ w2 ⟨rfl, hg2, hm2⟩
  have hc2 := CalF.turnMap HD.out hg2 hm2
  have HC2 := hide hc2.drew
  have HO2 : Hid (Only (Foot p r m (.slice A l.length c)) w w2) := hide (only_map (Only.of_below HB1.out.drew) hg2 (.inr (.inr (.inl rfl))))
  have hx2 : w2.heap[w.heap.size]? = some (.cells #[.int .i64 d1, .int .i64 d2] 30 (0, 0)) := (hg2.block _ (lt_of_block HX1.out) (fun e => by have := Option.some.inj e; have := H0.out.map.lt; omega)).trans HX1.out
  have HX2 := hide hx2
  clear hg2 hm2 hc2 HM
  refine hK.out _ _ (fun h => absurd h (by decide)) (fun hHeld => ?_)
  try simp only [Act.put, List.setIfInBounds_toArray, List.set_cons_zero, List.set_cons_succ]
  clear hK K hHeld
  refine AnyE.over (by kernel_rfl) ?_ _
  clear hS0 hS S
  go_wp2_with fail
  obtain ⟨S, hS⟩ : ∃ S : World → Prop, S = fun W => W.cell? ⟨r, 0, none⟩ = some (.slice A l.length c) ∧ W.cell? ⟨w.heap.size, 0, none⟩ = some (.int .i64 d1) ∧ W.cell? ⟨w.heap.size, 1, none⟩ = some (.int .i64 d2) := ⟨_, rfl⟩
  have hS0 : S w2.drew := by
    obtain ⟨_, _, _, q0, q1, _⟩ := HC2.out.cells
    rw [hS]
    exact ⟨q0, cell_of_row w2 w.heap.size 0 _ _ (0, 0) hx2, cell_of_row w2 w.heap.size 1 _ _ (0, 0) hx2⟩
  obtain ⟨w3, hw3⟩ : ∃ w3, w3 = (w2.alloc (.cells #[.int .i64 d1, .int .i64 d2] 30)).drew := ⟨_, rfl⟩
  have hb3 : Below w2.drew.heap.size w2.drew w3 := by rw [hw3]; exact (Below.refl _ w2.drew).alloc (Nat.le_refl _) (.cells #[.int .i64 d1, .int .i64 d2] 30)
  have hc3 := HC2.out.below hb3
  have HC3 := hide hc3
  have HO3 : Hid (Only (Foot p r m (.slice A l.length c)) w w3) := hide (HO2.out.trans (T := fun _ => False) ⟨hb3.os, hb3.tape, hb3.output, hb3.size, fun k hk _ => hb3.block k hk⟩ (fun _ _ h => h.elim))
  have hx3 : w3.heap[w2.heap.size]? = some (.cells #[.int .i64 d1, .int .i64 d2] 30 (0, 0)) := by rw [hw3]; exact heap_alloc_new w2.drew _
  have HNW : Hid (Reads w3 w3.heap.size 2 (some ⟨w2.heap.size, 0, none⟩) 1 [.int .i64 d1, .int .i64 d2]) := hide ⟨rfl, fun _ => ⟨_, 0, rfl, lt_of_block hx3, fun j u hu => by
    match j, hu with
    | 0, hu => injection hu with hu; subst hu; exact cell_of_row w3 _ 0 _ _ (0, 0) hx3
    | 1, hu => injection hu with hu; subst hu; exact cell_of_row w3 _ 1 _ _ (0, 0) hx3
    | j + 2, hu => simp at hu⟩⟩
  have hS3 : S w3 := by
    rw [hS] at hS0 ⊢
    exact ⟨(hb3.cell (lt_of_cell hS0.1)).trans hS0.1, (hb3.cell (lt_of_cell hS0.2.1)).trans hS0.2.1, (hb3.cell (lt_of_cell hS0.2.2)).trans hS0.2.2⟩
  have HS3 := hide hS3
  have HW3 := hide hw3
  have HR := hide HC3.out.row
  clear hw3 hb3 hc3 hx3 hS3
  refine wp_region_E (fun t => decide (1 ≤ t) && decide (t < 7)) S (by kernel_rfl) hS0 (fun hHeld => ?_)
  refine AnyE.takeT (i := 0) (v := ?v201) rfl (by kernel_rfl) (by kernel_rfl) (by kernel_rfl) (by kernel_rfl) (fun _ _ _ h => h) (Or.inl ⟨by rfl, ?hy201⟩) ?r201
  case hy201 => (intro w _; go_simp <;> with_reducible rfl)
  simp only [Act.put, List.setIfInBounds_toArray, List.set_cons_zero, List.set_cons_succ]
  refine AnyE.take (D := [0]) (hDd := (by kernel_rfl)) (C := [1, 2, 3, 4]) (hCd := (by kernel_rfl)) (i := 1) (v := ?v202) rfl (by kernel_rfl) (by kernel_rfl) (by kernel_rfl) (by kernel_rfl) (fun _ _ _ h => h) (Or.inl ⟨by rfl, ?hy202⟩) hHeld ?r202
  case hy202 => (intro w hSw; (try dsimp only at hSw); rw [hS] at hSw; obtain ⟨z0, z1, z2⟩ := hSw; go_simp <;> with_reducible rfl)
  simp only [Act.put, List.setIfInBounds_toArray, List.set_cons_zero, List.set_cons_succ]
  refine AnyE.take (D := [0]) (hDd := (by kernel_rfl)) (C := [2, 3, 4]) (hCd := (by kernel_rfl)) (i := 2) (v := ?v203) rfl (by kernel_rfl) (by kernel_rfl) (by kernel_rfl) (by kernel_rfl) (fun _ _ _ h => h) (Or.inl ⟨by rfl, ?hy203⟩) hHeld ?r203
  case hy203 => (intro w hSw; (try dsimp only at hSw); rw [hS] at hSw; obtain ⟨z0, z1, z2⟩ := hSw; go_simp <;> with_reducible rfl)
  simp only [Act.put, List.setIfInBounds_toArray, List.set_cons_zero, List.set_cons_succ]
  refine AnyE.take (D := [0]) (hDd := (by kernel_rfl)) (C := [3, 4]) (hCd := (by kernel_rfl)) (i := 3) (v := ?v204) rfl (by kernel_rfl) (by kernel_rfl) (by kernel_rfl) (by kernel_rfl) (fun _ _ _ h => h) (Or.inl ⟨by rfl, ?hy204⟩) hHeld ?r204
  case hy204 => (intro w hSw; (try dsimp only at hSw); rw [hS] at hSw; obtain ⟨z0, z1, z2⟩ := hSw; go_simp <;> with_reducible rfl)
  simp only [Act.put, List.setIfInBounds_toArray, List.set_cons_zero, List.set_cons_succ]
  refine AnyE.take (D := [0]) (hDd := (by kernel_rfl)) (C := [4]) (hCd := (by kernel_rfl)) (i := 4) (v := ?v205) rfl (by kernel_rfl) (by kernel_rfl) (by kernel_rfl) (by kernel_rfl) (fun _ _ _ h => h) (Or.inl ⟨by rfl, ?hy205⟩) hHeld ?r205
  case hy205 => (intro w hSw; (try dsimp only at hSw); rw [hS] at hSw; obtain ⟨z0, z1, z2⟩ := hSw; go_simp <;> with_reducible rfl)
  simp only [Act.put, List.setIfInBounds_toArray, List.set_cons_zero, List.set_cons_succ]
  refine AnyE.take (D := [0]) (hDd := (by kernel_rfl)) (C := [5, 6]) (hCd := (by kernel_rfl)) (i := 5) (v := ?v206) rfl (by kernel_rfl) (by kernel_rfl) (by kernel_rfl) (by kernel_rfl) (fun _ _ _ h => h) (Or.inl ⟨by rfl, ?hy206⟩) hHeld ?r206
  case hy206 => (intro w hSw; (try dsimp only at hSw); rw [hS] at hSw; obtain ⟨z0, z1, z2⟩ := hSw; go_simp <;> with_reducible rfl)
  simp only [Act.put, List.setIfInBounds_toArray, List.set_cons_zero, List.set_cons_succ]
  clear hHeld
  have HSU : Hid (S w3) := HS3
  clear hS0 hS
  refine AnyE.next (js := [6]) (by kernel_rfl) (by simp) (NextE.cons rfl (fun K hK => ?_) NextE.nil)
  go_simp
  rw [← HW3.out]
  refine hK.out _ _ (fun _ => HSU.out) (fun hHeld => ?_)
  try simp only [Act.put, List.setIfInBounds_toArray, List.set_cons_zero, List.set_cons_succ]
  clear hK K hHeld
  have G1 : Hid (∀ u ∈ [Value.int .i64 d1, .int .i64 d2], u.oneCell' = true) := hide (by intro u hu; simp at hu; rcases hu with rfl | rfl <;> rfl)
  have G2 : Hid (l.length + 1 ≤ maxLen) := hide (by unfold maxLen; omega)
  have G3 : Hid ((l.length + 1) * 16 ≤ 140737488355328) := hide (by omega)
  have G4 : Hid (B ≤ w3.heap.size) := hide (by have := HO3.out.size; omega)
  refine AnyE.next (js := [7]) (by kernel_rfl) (by simp) (NextE.cons rfl (fun K hK => ?_) NextE.nil)
  refine step_append_any rfl (.tmp 23) (.tmp 25) 22 rfl B 30 (.agg #[.int .i64 0, .int .i64 0]) 2 16 infoD Try.underlying22 rfl (by decide) _ l.length (flatD l) rfl HR.out w3.heap.size (some ⟨w2.heap.size, 0, none⟩) 1 1 [.int .i64 d1, .int .i64 d2] rfl HNW.out G1.out G2.out G3.out G4.out ?_
  intro v4 w4 hown4 hg4 hat4
  obtain ⟨A4, c4, rfl⟩ := own_shape hown4
  have HC5 := hide (CalF.grow HC3.out (d := (d1, d2)) hd hok hl hown4 hg4)
  have HO4 : Hid (Only (Foot p r m (.slice A l.length c)) w (w4.setCell ⟨r, 0, none⟩ (.slice A4 (l.length + 1) c4))) := hide (by
    refine Only.set ?_ ⟨r, 0, none⟩ (.inr (.inl rfl)) _
    exact HO3.out.trans (T := fun k => (Value.slice A l.length c).ownBlock = some k) ⟨hg4.os, hg4.tape, hg4.output, hg4.size, fun k hk hn => hg4.block k hk (fun e => hn e.symm)⟩ (fun k _ hk => .inr (.inr (.inr hk))))
  have HAT : Hid (∀ g, (Value.slice A4 (l.length + 1) c4).ownBlock = some g → (Value.slice A l.length c).ownBlock = some g ∨ w.heap.size ≤ g) := hide (fun g hg => by
    rcases hat4 with h | h
    · exact .inl (h ▸ hg)
    · rw [h] at hg
      have := Option.some.inj hg
      have := HO3.out.size
      exact .inr (by omega))
  have hr4 : w4.heap[r]? = some (.cells #[.slice A l.length c, .func (.func 45) #[] #[.pointer (some ⟨x, 0, none⟩)]] 75 (0, 0)) := (hg4.block r (lt_of_block HC3.out.rw_) (Ne.symm HC3.out.rows.2.1)).trans HC3.out.rw_
  have c4a := cell_of_row w4 r 0 _ _ (0, 0) hr4
  have c4b := frozen_of_row w4 r 0 _ _ hr4
  simp only [List.getElem?_toArray, List.getElem?_cons_zero] at c4a
  clear hown4 hg4 hat4 hr4
  refine hK.out _ _ (fun h => absurd h (by decide)) (fun hHeld => ?_)
  try simp only [Act.put, List.setIfInBounds_toArray, List.set_cons_zero, List.set_cons_succ]
  clear hK K hHeld
  refine AnyE.next (js := [8]) (by kernel_rfl) (by simp) (NextE.cons rfl (fun K hK => ?_) NextE.nil)
  go_simp
  refine hK.out _ _ (fun h => absurd h (by decide)) (fun hHeld => ?_)
  try simp only [Act.put, List.setIfInBounds_toArray, List.set_cons_zero, List.set_cons_succ]
  clear hK K hHeld
  refine AnyE.next (js := [9]) (by kernel_rfl) (by simp) (NextE.cons rfl (fun K hK => ?_) NextE.nil)
  go_simp
  refine hK.out _ _ (fun h => absurd h (by decide)) (fun hHeld => ?_)
  try simp only [Act.put, List.setIfInBounds_toArray, List.set_cons_zero, List.set_cons_succ]
  clear hK K hHeld
  refine AnyE.next (js := [10]) (by kernel_rfl) (by simp) (NextE.cons rfl (fun K hK => ?_) NextE.nil)
  go_simp
  refine hK.out _ _ (fun h => absurd h (by decide)) (fun hHeld => ?_)
  try simp only [Act.put, List.setIfInBounds_toArray, List.set_cons_zero, List.set_cons_succ]
  clear hK K hHeld
  refine AnyE.over (by kernel_rfl) ?_ _
  go_wp2_with fail
  go_end0
  exact ⟨rfl, _, push_end H0.out.nod hd HC5.out, HO4.out, HAT.out⟩
end Go.Proofs.Ytdaicdaakegdmaa
