/- The walk of the row's Pop. -/
import Derived.Test.YtdaicdaakegdmaaPup
namespace Go.Proofs.Ytdaicdaakegdmaa
open Go.RowKit Go.Maps Go.Shelf
open Go.ChangeMaps Go.WideMaps

/-- The list less its last. -/
theorem CalF.less {w : World} {B p r x m n g c n' : Nat} {now : Int} {l : List Du} {f : Int → Option Nat} (h : CalF w B p r x m (.slice (some ⟨g, 0, none⟩) n' c) now l f n) (hn : n' = l.length) (h0 : 0 < l.length) :
    CalF (w.setCell ⟨r, 0, none⟩ (.slice (some ⟨g, 0, none⟩) (l.length - 1) c)) B p r x m (.slice (some ⟨g, 0, none⟩) (l.length - 1) c) now (l.take (l.length - 1)) f n := by
  subst hn
  have hr := h.rows
  have hd2 := h.apart
  have e : (l.take (l.length - 1)).length = l.length - 1 := by rw [List.length_take]; omega
  refine ⟨(Below.heap_setCell _ _ _ _ hd2.1).trans h.tk, setCell_block h.rw_ 0 _, (Below.heap_setCell _ _ _ _ (Ne.symm hd2.2.2.2.1)).trans h.box, ?_, ?_, h.base, take_nod h.nod _, by rw [e]; have := h.len; omega, fun d hd => h.ok d (List.mem_of_mem_take hd)⟩
  · rw [e, flatD_take]
    exact ownsRow_setCell_other (own_front h.row (by omega) h0) (fun e' => hr.2.1 (by rw [← e']; rfl)) _
  · exact h.map.keep (grown_setC _ _ _ _) (fun e => hd2.2.2.2.2.1 (Option.some.inj e))
theorem pop_end {w : World} {B p r x m : Nat} {v : Value} {now : Int} {l : List Du} (hn : (l.map (·.2)).Nodup) (h0 : 0 < l.length) (h : CalF w B p r x m v now (l.take (l.length - 1)) (updP (posD l) (gD l (l.length - 1)).2 none) (cntP (posD l) (gD l (l.length - 1)).2 none l.length)) : Cal w B p r x m v now (l.take (l.length - 1)) := by
  have e : cntP (posD l) (gD l (l.length - 1)).2 none l.length = (l.take (l.length - 1)).length := by
    unfold cntP
    simp only
    rw [if_pos (pos_has hn (gD_mem (by omega))), List.length_take]
    omega
  rw [posD_pop hn h0, e] at h
  exact h
theorem CalF.movedOut {w : World} {B p r x m n : Nat} {v : Value} {now : Int} {l : List Du} {f : Int → Option Nat} (h : CalF w B p r x m v now l f n) (k : Int) (hk : 0 ≤ k ∧ k ≤ 9223372036854775807) :
    Calls Try.prog 45 #[.int .i64 k, .int .i64 (-1), .pointer (some ⟨x, 0, none⟩)] w (MovedP w m f n k none) :=
  moved_out h.cells.2.2.2.2.2 h.cells.2.2.1 h.map k hk
set_option maxRecDepth 100000 in
set_option maxHeartbeats 8000000 in
theorem pop_row {w : World} {B p r x m : Nat} {v : Value} {now : Int} {l : List Du} (h : Cal w B p r x m v now l) (h0 : 0 < l.length) :
    Calls Try.prog 87 #[.pointer (some ⟨r, 0, none⟩)] w (TurnP B p r x m v now (l.take (l.length - 1)) (.iface 30 (duV (gD l (l.length - 1)))) w) := by
  obtain ⟨g, c, rfl, _⟩ := h.row.form h0
  have hcap : l.length ≤ c := by obtain ⟨_, _, e, hc⟩ := own_sh h.row; injection e with _ _ e; omega
  obtain ⟨k, hk⟩ : ∃ k, k = l.length - 1 := ⟨_, rfl⟩
  have hkl : k < l.length := by omega
  obtain ⟨_, _, _, q0, q1, _⟩ := h.cells
  have x0 := (h.row.cellAt (k * 2) (by omega)).trans (flatD_at l k hkl).1
  have x1 := (h.row.cellAt (k * 2 + 1) (by omega)).trans (flatD_at l k hkl).2
  obtain ⟨d, hd⟩ : ∃ d, d = gD l k := ⟨_, rfl⟩
  rw [← hd] at x0 x1
  have HDD := hide hd
  have hok := h.ok d (by rw [hd]; exact gD_mem hkl)
  obtain ⟨d1, d2⟩ := d
  have HD := hide h
  have HK := hide hk
  have hw : IntKind.i64.wrap ((l.length : Int) - 1) = (k : Int) := by rw [Go.IntWalk.i64_in _ (by have := h.len; omega)]; omega
  have h1 : (k : Int) < (l.length : Int) := by omega
  have h2 : (0 : Int) ≤ (k : Int) := by omega
  have h3 : (k : Int) ≤ (c : Int) := by omega
  obtain ⟨S, hS⟩ : ∃ S : World → Prop, S = fun W => W.cell? ⟨r, 0, none⟩ = some (.slice (some ⟨g, 0, none⟩) l.length c) ∧ W.cell? ⟨g, k * 2, none⟩ = some (.int .i64 d1) ∧ W.cell? ⟨g, k * 2 + 1, none⟩ = some (.int .i64 d2) := ⟨_, rfl⟩
  have hS0 : S w.drew := by rw [hS]; exact ⟨q0, x0, x1⟩
  have HSA : Hid (∀ W, Below w.heap.size w W → S W) := hide (fun W hW => by rw [hS]; exact ⟨(hW.cell (lt_of_cell q0)).trans q0, (hW.cell (lt_of_cell x0)).trans x0, (hW.cell (lt_of_cell x1)).trans x1⟩)
  have HGL : Hid (gD l (l.length - 1) = (d1, d2)) := hide (by rw [← HK.out]; exact HDD.out.symm)
  have HSZ := hide hcap
  rw [show duV (gD l (l.length - 1)) = .agg #[.int .i64 d1, .int .i64 d2] by rw [HGL.out]; rfl]
  clear h q0 q1 x0 x1 hd hk hcap
  go_enter Try.func87, Try.ntmps87
  go_wp2_with fail
  refine wp_region_E (fun t => decide (t < 13)) S (by kernel_rfl) hS0 (fun hHeld => ?_)
  refine AnyE.take (D := []) (hDd := (by kernel_rfl)) (C := [0]) (hCd := (by kernel_rfl)) (i := 0) (v := ?v1) rfl (by kernel_rfl) (by kernel_rfl) (by kernel_rfl) (by kernel_rfl) (fun _ _ _ h => h) (Or.inl ⟨by rfl, ?hy1⟩) hHeld ?r1
  case hy1 => (intro w hSw; (try dsimp only at hSw); rw [hS] at hSw; obtain ⟨z0, z1, z2⟩ := hSw; go_simp <;> with_reducible rfl)
  simp only [Act.put, List.setIfInBounds_toArray, List.set_cons_zero, List.set_cons_succ]
  refine AnyE.take (D := []) (hDd := (by kernel_rfl)) (C := [1]) (hCd := (by kernel_rfl)) (i := 1) (v := ?v2) rfl (by kernel_rfl) (by kernel_rfl) (by kernel_rfl) (by kernel_rfl) (fun _ _ _ h => h) (Or.inl ⟨by rfl, ?hy2⟩) hHeld ?r2
  case hy2 => (intro w hSw; (try dsimp only at hSw); rw [hS] at hSw; obtain ⟨z0, z1, z2⟩ := hSw; go_simp <;> with_reducible rfl)
  simp only [Act.put, List.setIfInBounds_toArray, List.set_cons_zero, List.set_cons_succ]
  refine AnyE.take (D := []) (hDd := (by kernel_rfl)) (C := [2]) (hCd := (by kernel_rfl)) (i := 2) (v := ?v3) rfl (by kernel_rfl) (by kernel_rfl) (by kernel_rfl) (by kernel_rfl) (fun _ _ _ h => h) (Or.inl ⟨by rfl, ?hy3⟩) hHeld ?r3
  case hy3 => (intro w hSw; (try dsimp only at hSw); rw [hS] at hSw; obtain ⟨z0, z1, z2⟩ := hSw; go_simp <;> with_reducible rfl)
  simp only [Act.put, List.setIfInBounds_toArray, List.set_cons_zero, List.set_cons_succ]
  refine AnyE.take (D := []) (hDd := (by kernel_rfl)) (C := [3]) (hCd := (by kernel_rfl)) (i := 3) (v := ?v4) rfl (by kernel_rfl) (by kernel_rfl) (by kernel_rfl) (by kernel_rfl) (fun _ _ _ h => h) (Or.inl ⟨by rfl, ?hy4⟩) hHeld ?r4
  case hy4 => (intro w hSw; (try dsimp only at hSw); rw [hS] at hSw; obtain ⟨z0, z1, z2⟩ := hSw; go_simp <;> with_reducible rfl)
  simp only [Act.put, List.setIfInBounds_toArray, List.set_cons_zero, List.set_cons_succ]
  refine AnyE.take (D := []) (hDd := (by kernel_rfl)) (C := [4]) (hCd := (by kernel_rfl)) (i := 4) (v := ?v5) rfl (by kernel_rfl) (by kernel_rfl) (by kernel_rfl) (by kernel_rfl) (fun _ _ _ h => h) (Or.inl ⟨by rfl, ?hy5⟩) hHeld ?r5
  case hy5 => (intro w hSw; (try dsimp only at hSw); rw [hS] at hSw; obtain ⟨z0, z1, z2⟩ := hSw; go_simp <;> with_reducible rfl)
  simp only [Act.put, List.setIfInBounds_toArray, List.set_cons_zero, List.set_cons_succ]
  refine AnyE.take (D := []) (hDd := (by kernel_rfl)) (C := [5]) (hCd := (by kernel_rfl)) (i := 5) (v := ?v6) rfl (by kernel_rfl) (by kernel_rfl) (by kernel_rfl) (by kernel_rfl) (fun _ _ _ h => h) (Or.inl ⟨by rfl, ?hy6⟩) hHeld ?r6
  case hy6 => (intro w hSw; (try dsimp only at hSw); rw [hS] at hSw; obtain ⟨z0, z1, z2⟩ := hSw; go_simp <;> with_reducible rfl)
  simp only [Act.put, List.setIfInBounds_toArray, List.set_cons_zero, List.set_cons_succ]
  refine AnyE.take (D := []) (hDd := (by kernel_rfl)) (C := [6]) (hCd := (by kernel_rfl)) (i := 6) (v := ?v7) rfl (by kernel_rfl) (by kernel_rfl) (by kernel_rfl) (by kernel_rfl) (fun _ _ _ h => h) (Or.inl ⟨by rfl, ?hy7⟩) hHeld ?r7
  case hy7 => (intro w hSw; (try dsimp only at hSw); rw [hS] at hSw; obtain ⟨z0, z1, z2⟩ := hSw; go_simp <;> with_reducible rfl)
  simp only [Act.put, List.setIfInBounds_toArray, List.set_cons_zero, List.set_cons_succ]
  refine AnyE.take (D := []) (hDd := (by kernel_rfl)) (C := [7]) (hCd := (by kernel_rfl)) (i := 7) (v := ?v8) rfl (by kernel_rfl) (by kernel_rfl) (by kernel_rfl) (by kernel_rfl) (fun _ _ _ h => h) (Or.inl ⟨by rfl, ?hy8⟩) hHeld ?r8
  case hy8 => (intro w hSw; (try dsimp only at hSw); rw [hS] at hSw; obtain ⟨z0, z1, z2⟩ := hSw; go_simp <;> with_reducible rfl)
  simp only [Act.put, List.setIfInBounds_toArray, List.set_cons_zero, List.set_cons_succ]
  refine AnyE.take (D := []) (hDd := (by kernel_rfl)) (C := [8]) (hCd := (by kernel_rfl)) (i := 8) (v := ?v9) rfl (by kernel_rfl) (by kernel_rfl) (by kernel_rfl) (by kernel_rfl) (fun _ _ _ h => h) (Or.inl ⟨by rfl, ?hy9⟩) hHeld ?r9
  case hy9 => (intro w hSw; (try dsimp only at hSw); rw [hS] at hSw; obtain ⟨z0, z1, z2⟩ := hSw; go_simp <;> with_reducible rfl)
  simp only [Act.put, List.setIfInBounds_toArray, List.set_cons_zero, List.set_cons_succ]
  refine AnyE.take (D := []) (hDd := (by kernel_rfl)) (C := [9]) (hCd := (by kernel_rfl)) (i := 9) (v := ?v10) rfl (by kernel_rfl) (by kernel_rfl) (by kernel_rfl) (by kernel_rfl) (fun _ _ _ h => h) (Or.inl ⟨by rfl, ?hy10⟩) hHeld ?r10
  case hy10 => (intro w hSw; (try dsimp only at hSw); rw [hS] at hSw; obtain ⟨z0, z1, z2⟩ := hSw; go_simp <;> with_reducible rfl)
  simp only [Act.put, List.setIfInBounds_toArray, List.set_cons_zero, List.set_cons_succ]
  refine AnyE.take (D := []) (hDd := (by kernel_rfl)) (C := [10]) (hCd := (by kernel_rfl)) (i := 10) (v := ?v11) rfl (by kernel_rfl) (by kernel_rfl) (by kernel_rfl) (by kernel_rfl) (fun _ _ _ h => h) (Or.inl ⟨by rfl, ?hy11⟩) hHeld ?r11
  case hy11 => (intro w hSw; (try dsimp only at hSw); rw [hS] at hSw; obtain ⟨z0, z1, z2⟩ := hSw; go_simp <;> with_reducible rfl)
  simp only [Act.put, List.setIfInBounds_toArray, List.set_cons_zero, List.set_cons_succ]
  refine AnyE.take (D := []) (hDd := (by kernel_rfl)) (C := [11]) (hCd := (by kernel_rfl)) (i := 11) (v := ?v12) rfl (by kernel_rfl) (by kernel_rfl) (by kernel_rfl) (by kernel_rfl) (fun _ _ _ h => h) (Or.inl ⟨by rfl, ?hy12⟩) hHeld ?r12
  case hy12 => (intro w hSw; (try dsimp only at hSw); rw [hS] at hSw; obtain ⟨z0, z1, z2⟩ := hSw; go_simp <;> with_reducible rfl)
  simp only [Act.put, List.setIfInBounds_toArray, List.set_cons_zero, List.set_cons_succ]
  clear hHeld hS0 hS
  refine AnyE.next (js := [12]) (by kernel_rfl) (by simp) (NextE.cons rfl (fun K hK => ?_) NextE.nil)
  go_simp
  refine hK.out _ _ (fun _ => HSA.out _ ((Below.refl _ w).drew.alloc (Nat.le_refl _) (.cells #[.int .i64 0, .int .i64 0] 30))) (fun hHeld => ?_)
  try simp only [Act.put, List.setIfInBounds_toArray, List.set_cons_zero, List.set_cons_succ]
  clear hK K hHeld
  refine AnyE.next (js := [13]) (by kernel_rfl) (by simp) (NextE.cons rfl (fun K hK => ?_) NextE.nil)
  go_simp
  refine hK.out _ _ (fun h => absurd h (by decide)) (fun hHeld => ?_)
  try simp only [Act.put, List.setIfInBounds_toArray, List.set_cons_zero, List.set_cons_succ]
  clear hK K hHeld
  refine AnyE.over (by kernel_rfl) ?_ _
  clear HSA S
  obtain ⟨w1, hw1⟩ : ∃ w1, w1 = (w.alloc (.cells #[.int .i64 d1, .int .i64 d2] 30)).drew := ⟨_, rfl⟩
  have hb1 : Below w.heap.size w w1 := by rw [hw1]; exact ((Below.refl _ w).alloc (Nat.le_refl _) (.cells #[.int .i64 d1, .int .i64 d2] 30)).drew
  have hx1 : w1.heap[w.heap.size]? = some (.cells #[.int .i64 d1, .int .i64 d2] 30 (0, 0)) := by rw [hw1]; exact heap_alloc_new w _
  rw [← hw1]
  have HC1 := hide (CalF.below HD.out hb1)
  have HO1 : Hid (Only (Foot p r m (.slice (some ⟨g, 0, none⟩) l.length c)) w w1) := hide (Only.of_below hb1)
  have HX1 := hide hx1
  clear hb1 hx1 hw1
  go_wp2_with fail
  obtain ⟨S, hS⟩ : ∃ S : World → Prop, S = fun W => W.cell? ⟨r, 0, none⟩ = some (.slice (some ⟨g, 0, none⟩) l.length c) := ⟨_, rfl⟩
  have hS0 : S w1.drew := by rw [hS]; exact HC1.out.cells.2.2.2.1
  have q0 := HC1.out.cells.2.2.2.1
  have q1 := frozen_of_row w1 r 0 _ _ HC1.out.rw_
  refine wp_region_E (fun t => decide (t < 14)) S (by kernel_rfl) hS0 (fun hHeld => ?_)
  refine AnyE.take (D := []) (hDd := (by kernel_rfl)) (C := [0]) (hCd := (by kernel_rfl)) (i := 0) (v := ?v101) rfl (by kernel_rfl) (by kernel_rfl) (by kernel_rfl) (by kernel_rfl) (fun _ _ _ h => h) (Or.inl ⟨by rfl, ?hy101⟩) hHeld ?r101
  case hy101 => (intro w hSw; (try dsimp only at hSw); rw [hS] at hSw; go_simp <;> with_reducible rfl)
  simp only [Act.put, List.setIfInBounds_toArray, List.set_cons_zero, List.set_cons_succ]
  refine AnyE.take (D := []) (hDd := (by kernel_rfl)) (C := [1]) (hCd := (by kernel_rfl)) (i := 1) (v := ?v102) rfl (by kernel_rfl) (by kernel_rfl) (by kernel_rfl) (by kernel_rfl) (fun _ _ _ h => h) (Or.inl ⟨by rfl, ?hy102⟩) hHeld ?r102
  case hy102 => (intro w hSw; (try dsimp only at hSw); rw [hS] at hSw; go_simp <;> with_reducible rfl)
  simp only [Act.put, List.setIfInBounds_toArray, List.set_cons_zero, List.set_cons_succ]
  refine AnyE.take (D := []) (hDd := (by kernel_rfl)) (C := [2]) (hCd := (by kernel_rfl)) (i := 2) (v := ?v103) rfl (by kernel_rfl) (by kernel_rfl) (by kernel_rfl) (by kernel_rfl) (fun _ _ _ h => h) (Or.inl ⟨by rfl, ?hy103⟩) hHeld ?r103
  case hy103 => (intro w hSw; (try dsimp only at hSw); rw [hS] at hSw; go_simp <;> with_reducible rfl)
  simp only [Act.put, List.setIfInBounds_toArray, List.set_cons_zero, List.set_cons_succ]
  refine AnyE.take (D := []) (hDd := (by kernel_rfl)) (C := [3]) (hCd := (by kernel_rfl)) (i := 3) (v := ?v104) rfl (by kernel_rfl) (by kernel_rfl) (by kernel_rfl) (by kernel_rfl) (fun _ _ _ h => h) (Or.inl ⟨by rfl, ?hy104⟩) hHeld ?r104
  case hy104 => (intro w hSw; (try dsimp only at hSw); rw [hS] at hSw; go_simp <;> with_reducible rfl)
  simp only [Act.put, List.setIfInBounds_toArray, List.set_cons_zero, List.set_cons_succ]
  refine AnyE.take (D := []) (hDd := (by kernel_rfl)) (C := [4]) (hCd := (by kernel_rfl)) (i := 4) (v := ?v105) rfl (by kernel_rfl) (by kernel_rfl) (by kernel_rfl) (by kernel_rfl) (fun _ _ _ h => h) (Or.inl ⟨by rfl, ?hy105⟩) hHeld ?r105
  case hy105 => (intro w hSw; (try dsimp only at hSw); rw [hS] at hSw; go_simp <;> with_reducible rfl)
  simp only [Act.put, List.setIfInBounds_toArray, List.set_cons_zero, List.set_cons_succ]
  refine AnyE.take (D := []) (hDd := (by kernel_rfl)) (C := [5]) (hCd := (by kernel_rfl)) (i := 5) (v := ?v106) rfl (by kernel_rfl) (by kernel_rfl) (by kernel_rfl) (by kernel_rfl) (fun _ _ _ h => h) (Or.inl ⟨by rfl, ?hy106⟩) hHeld ?r106
  case hy106 => (intro w hSw; (try dsimp only at hSw); rw [hS] at hSw; go_simp <;> with_reducible rfl)
  simp only [Act.put, List.setIfInBounds_toArray, List.set_cons_zero, List.set_cons_succ]
  refine AnyE.take (D := []) (hDd := (by kernel_rfl)) (C := [6]) (hCd := (by kernel_rfl)) (i := 6) (v := ?v107) rfl (by kernel_rfl) (by kernel_rfl) (by kernel_rfl) (by kernel_rfl) (fun _ _ _ h => h) (Or.inl ⟨by rfl, ?hy107⟩) hHeld ?r107
  case hy107 => (intro w hSw; (try dsimp only at hSw); rw [hS] at hSw; go_simp <;> with_reducible rfl)
  simp only [Act.put, List.setIfInBounds_toArray, List.set_cons_zero, List.set_cons_succ]
  refine AnyE.take (D := []) (hDd := (by kernel_rfl)) (C := [7]) (hCd := (by kernel_rfl)) (i := 7) (v := ?v108) rfl (by kernel_rfl) (by kernel_rfl) (by kernel_rfl) (by kernel_rfl) (fun _ _ _ h => h) (Or.inl ⟨by rfl, ?hy108⟩) hHeld ?r108
  case hy108 => (intro w hSw; (try dsimp only at hSw); rw [hS] at hSw; go_simp <;> with_reducible rfl)
  simp only [Act.put, List.setIfInBounds_toArray, List.set_cons_zero, List.set_cons_succ]
  refine AnyE.take (D := []) (hDd := (by kernel_rfl)) (C := [8]) (hCd := (by kernel_rfl)) (i := 8) (v := ?v109) rfl (by kernel_rfl) (by kernel_rfl) (by kernel_rfl) (by kernel_rfl) (fun _ _ _ h => h) (Or.inl ⟨by rfl, ?hy109⟩) hHeld ?r109
  case hy109 => (intro w hSw; (try dsimp only at hSw); rw [hS] at hSw; go_simp <;> with_reducible rfl)
  simp only [Act.put, List.setIfInBounds_toArray, List.set_cons_zero, List.set_cons_succ]
  refine AnyE.take (D := []) (hDd := (by kernel_rfl)) (C := [9]) (hCd := (by kernel_rfl)) (i := 9) (v := ?v110) rfl (by kernel_rfl) (by kernel_rfl) (by kernel_rfl) (by kernel_rfl) (fun _ _ _ h => h) (Or.inl ⟨by rfl, ?hy110⟩) hHeld ?r110
  case hy110 => (intro w hSw; (try dsimp only at hSw); rw [hS] at hSw; go_simp <;> with_reducible rfl)
  simp only [Act.put, List.setIfInBounds_toArray, List.set_cons_zero, List.set_cons_succ]
  refine AnyE.take (D := []) (hDd := (by kernel_rfl)) (C := [10]) (hCd := (by kernel_rfl)) (i := 10) (v := ?v111) rfl (by kernel_rfl) (by kernel_rfl) (by kernel_rfl) (by kernel_rfl) (fun _ _ _ h => h) (Or.inl ⟨by rfl, ?hy111⟩) hHeld ?r111
  case hy111 => (intro w hSw; (try dsimp only at hSw); rw [hS] at hSw; go_simp <;> with_reducible rfl)
  simp only [Act.put, List.setIfInBounds_toArray, List.set_cons_zero, List.set_cons_succ]
  refine AnyE.take (D := []) (hDd := (by kernel_rfl)) (C := [11]) (hCd := (by kernel_rfl)) (i := 11) (v := ?v112) rfl (by kernel_rfl) (by kernel_rfl) (by kernel_rfl) (by kernel_rfl) (fun _ _ _ h => h) (Or.inl ⟨by rfl, ?hy112⟩) hHeld ?r112
  case hy112 => (intro w hSw; (try dsimp only at hSw); rw [hS] at hSw; go_simp <;> with_reducible rfl)
  simp only [Act.put, List.setIfInBounds_toArray, List.set_cons_zero, List.set_cons_succ]
  refine AnyE.take (D := []) (hDd := (by kernel_rfl)) (C := [12, 13]) (hCd := (by kernel_rfl)) (i := 12) (v := ?v113) rfl (by kernel_rfl) (by kernel_rfl) (by kernel_rfl) (by kernel_rfl) (fun _ _ _ h => h) (Or.inl ⟨by rfl, ?hy113⟩) hHeld ?r113
  case hy113 => (intro w hSw; (try dsimp only at hSw); rw [hS] at hSw; go_simp <;> with_reducible rfl)
  simp only [Act.put, List.setIfInBounds_toArray, List.set_cons_zero, List.set_cons_succ]
  refine AnyE.take (D := []) (hDd := (by kernel_rfl)) (C := [13]) (hCd := (by kernel_rfl)) (i := 13) (v := ?v114) rfl (by kernel_rfl) (by kernel_rfl) (by kernel_rfl) (by kernel_rfl) (fun _ _ _ h => h) (Or.inl ⟨by rfl, ?hy114⟩) hHeld ?r114
  case hy114 => (intro w hSw; (try dsimp only at hSw); rw [hS] at hSw; go_simp <;> with_reducible rfl)
  simp only [Act.put, List.setIfInBounds_toArray, List.set_cons_zero, List.set_cons_succ]
  clear hHeld hS0 hS
  refine AnyE.next (js := [14]) (by kernel_rfl) (by simp) (NextE.cons rfl (fun K hK => ?_) NextE.nil)
  go_simp
  refine hK.out _ _ (fun h => absurd h (by decide)) (fun hHeld => ?_)
  try simp only [Act.put, List.setIfInBounds_toArray, List.set_cons_zero, List.set_cons_succ]
  clear hK K hHeld
  refine AnyE.over (by kernel_rfl) ?_ _
  clear S
  obtain ⟨w2, hw2⟩ : ∃ w2, w2 = (w1.setCell ⟨r, 0, none⟩ (.slice (some ⟨g, 0, none⟩) (k : Nat) c)).drew := ⟨_, rfl⟩
  have hc2 : CalF w2 B p r x m (.slice (some ⟨g, 0, none⟩) (l.length - 1) c) now (l.take (l.length - 1)) (posD l) l.length := by
    rw [hw2, HK.out]; exact (CalF.less HC1.out rfl (by omega)).drew
  have HC2 := hide hc2.drew
  have HO2 : Hid (Only (Foot p r m (.slice (some ⟨g, 0, none⟩) l.length c)) w w2) := hide (by
    rw [hw2]
    have := HO1.out.set ⟨r, 0, none⟩ (.inr (.inl rfl)) (.slice (some ⟨g, 0, none⟩) (k : Nat) c)
    exact ⟨this.os, this.tape, this.output, this.size, this.block⟩)
  have hx2 : w2.heap[w.heap.size]? = some (.cells #[.int .i64 d1, .int .i64 d2] 30 (0, 0)) := by
    rw [hw2]; exact (Below.heap_setCell _ _ _ _ (by show w.heap.size ≠ r; have := HD.out.lt r (.inl (.inr (.inl rfl))); omega)).trans HX1.out
  rw [← hw2]
  have HX2 := hide hx2
  clear hc2 hw2 hx2 q0 q1
  go_wp2_with fail
  obtain ⟨S, hS⟩ : ∃ S : World → Prop, S = fun W => W.cell? ⟨r, 1, none⟩ = some (.func (.func 45) #[] #[.pointer (some ⟨x, 0, none⟩)]) ∧ W.cell? ⟨w.heap.size, 1, none⟩ = some (.int .i64 d2) := ⟨_, rfl⟩
  have hS0 : S w2.drew := by rw [hS]; exact ⟨HC2.out.cells.2.2.2.2.1, cell_of_row w2 _ 1 _ _ (0, 0) HX2.out⟩
  have HM := hide (CalF.movedOut HC2.out d2 hok.2)
  refine wp_region_E (fun t => decide (t < 6)) S (by kernel_rfl) hS0 (fun hHeld => ?_)
  refine AnyE.take (D := []) (hDd := (by kernel_rfl)) (C := [0, 1, 2, 3]) (hCd := (by kernel_rfl)) (i := 0) (v := ?v201) rfl (by kernel_rfl) (by kernel_rfl) (by kernel_rfl) (by kernel_rfl) (fun _ _ _ h => h) (Or.inl ⟨by rfl, ?hy201⟩) hHeld ?r201
  case hy201 => (intro w hSw; (try dsimp only at hSw); rw [hS] at hSw; obtain ⟨z0, z1⟩ := hSw; go_simp <;> with_reducible rfl)
  simp only [Act.put, List.setIfInBounds_toArray, List.set_cons_zero, List.set_cons_succ]
  refine AnyE.take (D := []) (hDd := (by kernel_rfl)) (C := [1, 2, 3]) (hCd := (by kernel_rfl)) (i := 1) (v := ?v202) rfl (by kernel_rfl) (by kernel_rfl) (by kernel_rfl) (by kernel_rfl) (fun _ _ _ h => h) (Or.inl ⟨by rfl, ?hy202⟩) hHeld ?r202
  case hy202 => (intro w hSw; (try dsimp only at hSw); rw [hS] at hSw; obtain ⟨z0, z1⟩ := hSw; go_simp <;> with_reducible rfl)
  simp only [Act.put, List.setIfInBounds_toArray, List.set_cons_zero, List.set_cons_succ]
  refine AnyE.take (D := []) (hDd := (by kernel_rfl)) (C := [2, 3]) (hCd := (by kernel_rfl)) (i := 2) (v := ?v203) rfl (by kernel_rfl) (by kernel_rfl) (by kernel_rfl) (by kernel_rfl) (fun _ _ _ h => h) (Or.inl ⟨by rfl, ?hy203⟩) hHeld ?r203
  case hy203 => (intro w hSw; (try dsimp only at hSw); rw [hS] at hSw; obtain ⟨z0, z1⟩ := hSw; go_simp <;> with_reducible rfl)
  simp only [Act.put, List.setIfInBounds_toArray, List.set_cons_zero, List.set_cons_succ]
  refine AnyE.take (D := []) (hDd := (by kernel_rfl)) (C := [3]) (hCd := (by kernel_rfl)) (i := 3) (v := ?v204) rfl (by kernel_rfl) (by kernel_rfl) (by kernel_rfl) (by kernel_rfl) (fun _ _ _ h => h) (Or.inl ⟨by rfl, ?hy204⟩) hHeld ?r204
  case hy204 => (intro w hSw; (try dsimp only at hSw); rw [hS] at hSw; obtain ⟨z0, z1⟩ := hSw; go_simp <;> with_reducible rfl)
  simp only [Act.put, List.setIfInBounds_toArray, List.set_cons_zero, List.set_cons_succ]
  refine AnyE.take (D := []) (hDd := (by kernel_rfl)) (C := [4, 5]) (hCd := (by kernel_rfl)) (i := 4) (v := ?v205) rfl (by kernel_rfl) (by kernel_rfl) (by kernel_rfl) (by kernel_rfl) (fun _ _ _ h => h) (Or.inl ⟨by rfl, ?hy205⟩) hHeld ?r205
  case hy205 => (intro w hSw; (try dsimp only at hSw); rw [hS] at hSw; obtain ⟨z0, z1⟩ := hSw; go_simp <;> with_reducible rfl)
  simp only [Act.put, List.setIfInBounds_toArray, List.set_cons_zero, List.set_cons_succ]
  refine AnyE.take (D := []) (hDd := (by kernel_rfl)) (C := [5]) (hCd := (by kernel_rfl)) (i := 5) (v := ?v206) rfl (by kernel_rfl) (by kernel_rfl) (by kernel_rfl) (by kernel_rfl) (fun _ _ _ h => h) (Or.inl ⟨by rfl, ?hy206⟩) hHeld ?r206
  case hy206 => (intro w hSw; (try dsimp only at hSw); rw [hS] at hSw; obtain ⟨z0, z1⟩ := hSw; go_simp <;> with_reducible rfl)
  simp only [Act.put, List.setIfInBounds_toArray, List.set_cons_zero, List.set_cons_succ]
  clear hHeld hS0 hS
  refine AnyE.next (js := [6]) (by kernel_rfl) (by simp) (NextE.cons rfl (fun K hK => ?_) NextE.nil)
  go_simp
  refine (HM.out).mono ?_
  rintro _ w3 ⟨rfl, hg3, hm3⟩
  have hc3 := CalF.turnMap HC2.out hg3 hm3
  have HC3 := hide hc3
  have HO3 : Hid (Only (Foot p r m (.slice (some ⟨g, 0, none⟩) l.length c)) w w3) := hide (only_map (w1 := w2.drew) ⟨HO2.out.os, HO2.out.tape, HO2.out.output, HO2.out.size, HO2.out.block⟩ hg3 (.inr (.inr (.inl rfl))))
  have hx3 : w3.heap[w.heap.size]? = some (.cells #[.int .i64 d1, .int .i64 d2] 30 (0, 0)) := (hg3.block _ (lt_of_block HX2.out) (fun e => by have := Option.some.inj e; have := HD.out.map.lt; omega)).trans HX2.out
  have y0 := cell_of_row w3 _ 0 _ _ (0, 0) hx3
  have y1 := cell_of_row w3 _ 1 _ _ (0, 0) hx3
  simp only [List.getElem?_toArray, List.getElem?_cons_zero, List.getElem?_cons_succ] at y0 y1
  clear hg3 hm3 hc3 hx3 HM
  refine hK.out _ _ (fun h => absurd h (by decide)) (fun hHeld => ?_)
  try simp only [Act.put, List.setIfInBounds_toArray, List.set_cons_zero, List.set_cons_succ]
  clear hK K hHeld
  refine AnyE.over (by kernel_rfl) ?_ _
  clear S
  go_wp2_with fail
  go_ret
  have HL : (l.take (l.length - 1)).length = l.length - 1 := by rw [List.length_take]; omega
  refine ⟨rfl, .slice (some ⟨g, 0, none⟩) (l.length - 1) c, pop_end HD.out.nod h0 (by rw [HGL.out]; exact HC3.out), HO3.out, fun g' hg' => .inl hg'⟩
end Go.Proofs.Ytdaicdaakegdmaa
