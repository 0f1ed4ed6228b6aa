/- The walk of the row's Swap. -/
import Derived.Test.YtdaicdaakegdmaaRow
import Derived.Test.YtdaicdaakegdmaaUntilE
namespace Go.Proofs.Ytdaicdaakegdmaa
open Go.RowKit Go.Maps Go.Shelf
open Go.ChangeMaps Go.WideMaps

section
variable {w w' : World} {B p r x m n n' : Nat} {v : Value} {now : Int} {l : List Du} {f f' : Int → Option Nat}
theorem CalF.turnMap (h : CalF w B p r x m v now l f n) (hg : w.grownBy w' (some m)) (hm : MapW w' m f' n') : CalF w' B p r x m v now l f' n' := by
  have hd := h.apart
  have hr := h.rows
  have key : ∀ {k : Nat} {o : Obj}, k ≠ m → w.heap[k]? = some o → w'.heap[k]? = some o := fun hk ho => (hg.block _ (lt_of_block ho) (fun e => hk (by injection e))).trans ho
  exact ⟨key hd.2.2.1 h.tk, key hd.2.2.2.2.1 h.rw_, key hd.2.2.2.2.2 h.box, own_far h.row hg (.inl hr.2.2.2), hm, h.base, h.nod, h.len, h.ok⟩
theorem CalF.drew (h : CalF w B p r x m v now l f n) : CalF w.drew B p r x m v now l f n := ⟨h.tk, h.rw_, h.box, h.row, h.map, h.base, h.nod, h.len, h.ok⟩
theorem own_put {g c B : Nat} (h : w.ownsRow B 30 2 (.slice (some ⟨g, 0, none⟩) l.length c) l.length (flatD l)) (i : Nat) (d : Du) :
    ((w.setCell ⟨g, i * 2, none⟩ (.int .i64 d.1)).setCell ⟨g, i * 2 + 1, none⟩ (.int .i64 d.2)).ownsRow B 30 2 (.slice (some ⟨g, 0, none⟩) (l.set i d).length c) (l.set i d).length (flatD (l.set i d)) := by
  rw [flatD_set, List.length_set]
  exact ((h.stored (i * 2) _).1.stored (i * 2 + 1) _).1
end
theorem CalF.num {w : World} {B p r x m n g n' c : Nat} {now : Int} {l : List Du} {f : Int → Option Nat} (h : CalF w B p r x m (.slice (some ⟨g, 0, none⟩) n' c) now l f n) (hn : n' = l.length) {i : Nat} (hi : i < l.length) : w.cell? ⟨g, i * 2 + 1, none⟩ = some (.int .i64 (gD l i).2) := by
  subst hn
  exact (h.row.cellAt (i * 2 + 1) (by omega)).trans (flatD_at l i hi).2
theorem CalF.moved {w : World} {B p r x m n : Nat} {v : Value} {now : Int} {l : List Du} {f : Int → Option Nat} (h : CalF w B p r x m v now l f n) (k : Int) (hk : 0 ≤ k ∧ k ≤ 9223372036854775807) (i : Nat) (hi : i ≤ 1000000) (hn : n ≤ 1000001) :
    Calls Try.prog 45 #[.int .i64 k, .int .i64 (i : Int), .pointer (some ⟨x, 0, none⟩)] w (MovedP w m f n k (some i)) :=
  moved_at h.cells.2.2.2.2.2 h.cells.2.2.1 h.map hn k hk i hi
theorem gD_mem {l : List Du} {i : Nat} (hi : i < l.length) : gD l i ∈ l := by rw [gD_of hi]; exact List.getElem_mem _
theorem cnt_has {f : Int → Option Nat} {k : Int} {i n : Nat} (h : (f k).isSome = true) : cntP f k (some i) n = n := by unfold cntP; simp only; rw [if_pos h]
theorem pos_has {l : List Du} (hn : (l.map (·.2)).Nodup) {d : Du} (hd : d ∈ l) : (posD l d.2).isSome = true := by
  obtain ⟨i, hi, e⟩ := List.mem_iff_getElem.1 hd
  rw [(posD_iff hn d.2 i).2 ⟨hi, by rw [gD_of hi, e]⟩]; rfl
theorem swD_has {l : List Du} (hn : (l.map (·.2)).Nodup) {i j t : Nat} (hi : i < l.length) (hj : j < l.length) (ht : t < l.length) : (posD l (gD (swD l i j) t).2).isSome = true :=
  pos_has hn ((swD_perm hi hj).mem_iff.1 (gD_mem (by rw [swD_length]; exact ht)))
theorem upd_has {f : Int → Option Nat} {k j : Int} {i : Nat} (h : (f j).isSome = true) : (updP f k (some i) j).isSome = true := by
  unfold updP; split
  · rfl
  · exact h
theorem swap_end {w : World} {B p r x m : Nat} {v : Value} {now : Int} {l : List Du} (hn : (l.map (·.2)).Nodup) {i j : Nat} (hi : i < l.length) (hj : j < l.length)
    (h : CalF w B p r x m v now (swD l i j) (updP (updP (posD l) (gD (swD l i j) i).2 (some i)) (gD (swD l i j) j).2 (some j)) (cntP (updP (posD l) (gD (swD l i j) i).2 (some i)) (gD (swD l i j) j).2 (some j) (cntP (posD l) (gD (swD l i j) i).2 (some i) l.length))) :
    Cal w B p r x m v now (swD l i j) := by
  rw [posD_swap hn hi hj, cnt_has (upd_has (swD_has hn hi hj hj)), cnt_has (swD_has hn hi hj hi)] at h
  unfold Cal
  rw [swD_length]
  exact h
theorem own_set2 {w : World} {g c B : Nat} {l : List Du} (h : w.ownsRow B 30 2 (.slice (some ⟨g, 0, none⟩) l.length c) l.length (flatD l)) (i j : Nat) (d e : Du) :
    ((((w.setCell ⟨g, i * 2, none⟩ (.int .i64 d.1)).setCell ⟨g, i * 2 + 1, none⟩ (.int .i64 d.2)).setCell ⟨g, j * 2, none⟩ (.int .i64 e.1)).setCell ⟨g, j * 2 + 1, none⟩ (.int .i64 e.2)).ownsRow B 30 2 (.slice (some ⟨g, 0, none⟩) l.length c) l.length (flatD ((l.set i d).set j e)) := by
  have h1 := own_put (own_put h i d) j e
  rwa [List.length_set, List.length_set] at h1
theorem swap_rows {w : World} {B p r x m g c n : Nat} {now : Int} {l : List Du} {f : Int → Option Nat} (h : CalF w B p r x m (.slice (some ⟨g, 0, none⟩) l.length c) now l f n) {i j : Nat} (hi : i < l.length) (hj : j < l.length) :
    CalF ((((w.setCell ⟨g, i * 2, none⟩ (.int .i64 (gD l j).1)).setCell ⟨g, i * 2 + 1, none⟩ (.int .i64 (gD l j).2)).setCell ⟨g, j * 2, none⟩ (.int .i64 (gD l i).1)).setCell ⟨g, j * 2 + 1, none⟩ (.int .i64 (gD l i).2)) B p r x m (.slice (some ⟨g, 0, none⟩) l.length c) now (swD l i j) f n := by
  have hr := h.rows
  have ne : ∀ {k : Nat}, (Value.slice (some ⟨g, 0, none⟩) l.length c).ownBlock ≠ some k → k ≠ g := fun h e => h (by rw [e]; rfl)
  have key : ∀ {k : Nat} {o : Obj}, k ≠ g → w.heap[k]? = some o → ((((w.setCell ⟨g, i * 2, none⟩ (.int .i64 (gD l j).1)).setCell ⟨g, i * 2 + 1, none⟩ (.int .i64 (gD l j).2)).setCell ⟨g, j * 2, none⟩ (.int .i64 (gD l i).1)).setCell ⟨g, j * 2 + 1, none⟩ (.int .i64 (gD l i).2)).heap[k]? = some o :=
    fun hk ho => (Below.heap_setCell _ _ _ _ hk).trans ((Below.heap_setCell _ _ _ _ hk).trans ((Below.heap_setCell _ _ _ _ hk).trans ((Below.heap_setCell _ _ _ _ hk).trans ho)))
  obtain ⟨D, hD, hF, hS⟩ := h.map
  have hm := ne hr.2.2.2
  refine ⟨key (ne hr.1) h.tk, key (ne hr.2.1) h.rw_, key (ne hr.2.2.1) h.box, ?_, ⟨D, (((hD.setCell (a := ⟨g, i * 2, none⟩) hm _).setCell (a := ⟨g, i * 2 + 1, none⟩) hm _).setCell (a := ⟨g, j * 2, none⟩) hm _).setCell (a := ⟨g, j * 2 + 1, none⟩) hm _, hF, hS⟩, h.base, swD_nod h.nod hi hj, by rw [swD_length]; exact h.len, fun d hd => h.ok d ((swD_perm hi hj).mem_iff.1 hd)⟩
  rw [swD_length]
  exact own_set2 h.row i j (gD l j) (gD l i)
/-- What a turn of two places leaves. -/
def SwapP (B p r x m : Nat) (v : Value) (now : Int) (l : List Du) (w : World) (e : Ending) (w' : World) : Prop :=
  e = .returned (.tuple #[]) ∧ Cal w' B p r x m v now l ∧ Only (Foot p r m v) w w'
set_option maxRecDepth 100000 in
set_option maxHeartbeats 8000000 in
theorem swap_any {w : World} {B p r x m : Nat} {v : Value} {now : Int} {l : List Du} (h : Cal w B p r x m v now l) (i j : Nat) (hi : i < l.length) (hj : j < l.length) :
    Calls Try.prog 89 #[.pointer (some ⟨r, 0, none⟩), .int .i64 (i : Int), .int .i64 (j : Int)] w (SwapP B p r x m v now (swD l i j) w) := by
  obtain ⟨g, c, rfl, _⟩ := h.row.form (by omega)
  obtain ⟨_, _, _, c0, c1, _⟩ := h.cells
  have x0 := (h.row.cellAt (i * 2) (by omega)).trans (flatD_at l i hi).1
  have x1 := (h.row.cellAt (i * 2 + 1) (by omega)).trans (flatD_at l i hi).2
  have y0 := (h.row.cellAt (j * 2) (by omega)).trans (flatD_at l j hj).1
  have y1 := (h.row.cellAt (j * 2 + 1) (by omega)).trans (flatD_at l j hj).2
  have F := fun k => h.row.frozenAt k
  have HD := hide h
  have HD1 : Hid (gD l i = ((gD l i).1, (gD l i).2)) := hide rfl
  have h1 : (i : Int) < (l.length : Int) := by omega
  have h2 : (j : Int) < (l.length : Int) := by omega
  have h3 : (0 : Int) ≤ (i : Int) := by omega
  have h4 : (0 : Int) ≤ (j : Int) := by omega
  clear h
  go_enter Try.func89, Try.ntmps89
  go_wp2_with fail
  obtain ⟨S, hS⟩ : ∃ S : World → Prop, S = fun W => W.cell? ⟨r, 0, none⟩ = some (.slice (some ⟨g, 0, none⟩) l.length c) ∧ W.cell? ⟨g, i * 2, none⟩ = some (.int .i64 (gD l i).1) ∧ W.cell? ⟨g, i * 2 + 1, none⟩ = some (.int .i64 (gD l i).2) ∧ W.cell? ⟨g, j * 2, none⟩ = some (.int .i64 (gD l j).1) ∧ W.cell? ⟨g, j * 2 + 1, none⟩ = some (.int .i64 (gD l j).2) := ⟨_, rfl⟩
  have hS0 : S w.drew := by rw [hS]; exact ⟨c0, x0, x1, y0, y1⟩
  have HS0 := hide hS0
  have HSET : Hid (CalF ((((w.setCell ⟨g, i * 2, none⟩ (.int .i64 (gD l j).1)).setCell ⟨g, i * 2 + 1, none⟩ (.int .i64 (gD l j).2)).setCell ⟨g, j * 2, none⟩ (.int .i64 (gD l i).1)).setCell ⟨g, j * 2 + 1, none⟩ (.int .i64 (gD l i).2)) B p r x m (.slice (some ⟨g, 0, none⟩) l.length c) now (swD l i j) (posD l) l.length) := hide (swap_rows HD.out hi hj)
  have HIJ : Hid (∀ t, t < l.length * 2 → ∃ u, ((w.setCell ⟨g, i * 2, none⟩ (.int .i64 (gD l j).1)).setCell ⟨g, i * 2 + 1, none⟩ (.int .i64 (gD l j).2)).cell? ⟨g, t, none⟩ = some u) := hide (fun t ht => by
    have h5 := own_put HD.out.row i (gD l j)
    have h6 := h5.cellAt t (by rw [List.length_set]; exact ht)
    have h7 : t < (flatD (l.set i (gD l j))).length := by rw [flatD_length, List.length_set]; exact ht
    exact ⟨_, h6.trans (List.getElem?_eq_getElem h7)⟩)
  obtain ⟨u0, hu0⟩ := HIJ.out (j * 2) (by omega)
  obtain ⟨u1, hu1⟩ := HIJ.out (j * 2 + 1) (by omega)
  refine wp_region_E (fun t => decide (t < 25) && t != 9) S (by kernel_rfl) hS0 (fun hHeld => ?_)
  refine AnyE.takeT (i := 9) (v := ?v1) rfl (by kernel_rfl) (by kernel_rfl) (by kernel_rfl) (by kernel_rfl) (fun _ _ _ h => h) (Or.inl ⟨by rfl, ?hy1⟩) ?r1
  case hy1 => (intro w _; go_simp <;> with_reducible rfl)
  simp only [Act.put, List.setIfInBounds_toArray, List.set_cons_zero, List.set_cons_succ]
  refine AnyE.take (D := [9]) (hDd := (by kernel_rfl)) (C := [0]) (hCd := (by kernel_rfl)) (i := 0) (v := ?v2) rfl (by kernel_rfl) (by kernel_rfl) (by kernel_rfl) (by kernel_rfl) (fun _ _ _ h => h) (Or.inl ⟨by rfl, ?hy2⟩) hHeld ?r2
  case hy2 => (intro w hSw; (try dsimp only at hSw); rw [hS] at hSw; obtain ⟨z0, z1, z2, z3, z4⟩ := hSw; go_simp <;> with_reducible rfl)
  simp only [Act.put, List.setIfInBounds_toArray, List.set_cons_zero, List.set_cons_succ]
  refine AnyE.take (D := [9]) (hDd := (by kernel_rfl)) (C := [1]) (hCd := (by kernel_rfl)) (i := 1) (v := ?v3) rfl (by kernel_rfl) (by kernel_rfl) (by kernel_rfl) (by kernel_rfl) (fun _ _ _ h => h) (Or.inl ⟨by rfl, ?hy3⟩) hHeld ?r3
  case hy3 => (intro w hSw; (try dsimp only at hSw); rw [hS] at hSw; obtain ⟨z0, z1, z2, z3, z4⟩ := hSw; go_simp <;> with_reducible rfl)
  simp only [Act.put, List.setIfInBounds_toArray, List.set_cons_zero, List.set_cons_succ]
  refine AnyE.take (D := [9]) (hDd := (by kernel_rfl)) (C := [2]) (hCd := (by kernel_rfl)) (i := 2) (v := ?v4) rfl (by kernel_rfl) (by kernel_rfl) (by kernel_rfl) (by kernel_rfl) (fun _ _ _ h => h) (Or.inl ⟨by rfl, ?hy4⟩) hHeld ?r4
  case hy4 => (intro w hSw; (try dsimp only at hSw); rw [hS] at hSw; obtain ⟨z0, z1, z2, z3, z4⟩ := hSw; go_simp <;> with_reducible rfl)
  simp only [Act.put, List.setIfInBounds_toArray, List.set_cons_zero, List.set_cons_succ]
  refine AnyE.take (D := [9]) (hDd := (by kernel_rfl)) (C := [3]) (hCd := (by kernel_rfl)) (i := 3) (v := ?v5) rfl (by kernel_rfl) (by kernel_rfl) (by kernel_rfl) (by kernel_rfl) (fun _ _ _ h => h) (Or.inl ⟨by rfl, ?hy5⟩) hHeld ?r5
  case hy5 => (intro w hSw; (try dsimp only at hSw); rw [hS] at hSw; obtain ⟨z0, z1, z2, z3, z4⟩ := hSw; go_simp <;> with_reducible rfl)
  simp only [Act.put, List.setIfInBounds_toArray, List.set_cons_zero, List.set_cons_succ]
  refine AnyE.take (D := [9]) (hDd := (by kernel_rfl)) (C := [4]) (hCd := (by kernel_rfl)) (i := 4) (v := ?v6) rfl (by kernel_rfl) (by kernel_rfl) (by kernel_rfl) (by kernel_rfl) (fun _ _ _ h => h) (Or.inl ⟨by rfl, ?hy6⟩) hHeld ?r6
  case hy6 => (intro w hSw; (try dsimp only at hSw); rw [hS] at hSw; obtain ⟨z0, z1, z2, z3, z4⟩ := hSw; go_simp <;> with_reducible rfl)
  simp only [Act.put, List.setIfInBounds_toArray, List.set_cons_zero, List.set_cons_succ]
  refine AnyE.take (D := [9]) (hDd := (by kernel_rfl)) (C := [5, 6, 7, 8]) (hCd := (by kernel_rfl)) (i := 5) (v := ?v7) rfl (by kernel_rfl) (by kernel_rfl) (by kernel_rfl) (by kernel_rfl) (fun _ _ _ h => h) (Or.inl ⟨by rfl, ?hy7⟩) hHeld ?r7
  case hy7 => (intro w hSw; (try dsimp only at hSw); rw [hS] at hSw; obtain ⟨z0, z1, z2, z3, z4⟩ := hSw; go_simp <;> with_reducible rfl)
  simp only [Act.put, List.setIfInBounds_toArray, List.set_cons_zero, List.set_cons_succ]
  refine AnyE.take (D := [9]) (hDd := (by kernel_rfl)) (C := [6, 7, 8]) (hCd := (by kernel_rfl)) (i := 6) (v := ?v8) rfl (by kernel_rfl) (by kernel_rfl) (by kernel_rfl) (by kernel_rfl) (fun _ _ _ h => h) (Or.inl ⟨by rfl, ?hy8⟩) hHeld ?r8
  case hy8 => (intro w hSw; (try dsimp only at hSw); rw [hS] at hSw; obtain ⟨z0, z1, z2, z3, z4⟩ := hSw; go_simp <;> with_reducible rfl)
  simp only [Act.put, List.setIfInBounds_toArray, List.set_cons_zero, List.set_cons_succ]
  refine AnyE.take (D := [9]) (hDd := (by kernel_rfl)) (C := [7, 8]) (hCd := (by kernel_rfl)) (i := 7) (v := ?v9) rfl (by kernel_rfl) (by kernel_rfl) (by kernel_rfl) (by kernel_rfl) (fun _ _ _ h => h) (Or.inl ⟨by rfl, ?hy9⟩) hHeld ?r9
  case hy9 => (intro w hSw; (try dsimp only at hSw); rw [hS] at hSw; obtain ⟨z0, z1, z2, z3, z4⟩ := hSw; go_simp <;> with_reducible rfl)
  simp only [Act.put, List.setIfInBounds_toArray, List.set_cons_zero, List.set_cons_succ]
  refine AnyE.take (D := [9]) (hDd := (by kernel_rfl)) (C := [8]) (hCd := (by kernel_rfl)) (i := 8) (v := ?v10) rfl (by kernel_rfl) (by kernel_rfl) (by kernel_rfl) (by kernel_rfl) (fun _ _ _ h => h) (Or.inl ⟨by rfl, ?hy10⟩) hHeld ?r10
  case hy10 => (intro w hSw; (try dsimp only at hSw); rw [hS] at hSw; obtain ⟨z0, z1, z2, z3, z4⟩ := hSw; go_simp <;> with_reducible rfl)
  simp only [Act.put, List.setIfInBounds_toArray, List.set_cons_zero, List.set_cons_succ]
  refine AnyE.take (D := [9]) (hDd := (by kernel_rfl)) (C := [10]) (hCd := (by kernel_rfl)) (i := 10) (v := ?v11) rfl (by kernel_rfl) (by kernel_rfl) (by kernel_rfl) (by kernel_rfl) (fun _ _ _ h => h) (Or.inl ⟨by rfl, ?hy11⟩) hHeld ?r11
  case hy11 => (intro w hSw; (try dsimp only at hSw); rw [hS] at hSw; obtain ⟨z0, z1, z2, z3, z4⟩ := hSw; go_simp <;> with_reducible rfl)
  simp only [Act.put, List.setIfInBounds_toArray, List.set_cons_zero, List.set_cons_succ]
  refine AnyE.take (D := [9]) (hDd := (by kernel_rfl)) (C := [11]) (hCd := (by kernel_rfl)) (i := 11) (v := ?v12) rfl (by kernel_rfl) (by kernel_rfl) (by kernel_rfl) (by kernel_rfl) (fun _ _ _ h => h) (Or.inl ⟨by rfl, ?hy12⟩) hHeld ?r12
  case hy12 => (intro w hSw; (try dsimp only at hSw); rw [hS] at hSw; obtain ⟨z0, z1, z2, z3, z4⟩ := hSw; go_simp <;> with_reducible rfl)
  simp only [Act.put, List.setIfInBounds_toArray, List.set_cons_zero, List.set_cons_succ]
  refine AnyE.take (D := [9]) (hDd := (by kernel_rfl)) (C := [12]) (hCd := (by kernel_rfl)) (i := 12) (v := ?v13) rfl (by kernel_rfl) (by kernel_rfl) (by kernel_rfl) (by kernel_rfl) (fun _ _ _ h => h) (Or.inl ⟨by rfl, ?hy13⟩) hHeld ?r13
  case hy13 => (intro w hSw; (try dsimp only at hSw); rw [hS] at hSw; obtain ⟨z0, z1, z2, z3, z4⟩ := hSw; go_simp <;> with_reducible rfl)
  simp only [Act.put, List.setIfInBounds_toArray, List.set_cons_zero, List.set_cons_succ]
  refine AnyE.take (D := [9]) (hDd := (by kernel_rfl)) (C := [13]) (hCd := (by kernel_rfl)) (i := 13) (v := ?v14) rfl (by kernel_rfl) (by kernel_rfl) (by kernel_rfl) (by kernel_rfl) (fun _ _ _ h => h) (Or.inl ⟨by rfl, ?hy14⟩) hHeld ?r14
  case hy14 => (intro w hSw; (try dsimp only at hSw); rw [hS] at hSw; obtain ⟨z0, z1, z2, z3, z4⟩ := hSw; go_simp <;> with_reducible rfl)
  simp only [Act.put, List.setIfInBounds_toArray, List.set_cons_zero, List.set_cons_succ]
  refine AnyE.take (D := [9]) (hDd := (by kernel_rfl)) (C := [14]) (hCd := (by kernel_rfl)) (i := 14) (v := ?v15) rfl (by kernel_rfl) (by kernel_rfl) (by kernel_rfl) (by kernel_rfl) (fun _ _ _ h => h) (Or.inl ⟨by rfl, ?hy15⟩) hHeld ?r15
  case hy15 => (intro w hSw; (try dsimp only at hSw); rw [hS] at hSw; obtain ⟨z0, z1, z2, z3, z4⟩ := hSw; go_simp <;> with_reducible rfl)
  simp only [Act.put, List.setIfInBounds_toArray, List.set_cons_zero, List.set_cons_succ]
  refine AnyE.take (D := [9]) (hDd := (by kernel_rfl)) (C := [15]) (hCd := (by kernel_rfl)) (i := 15) (v := ?v16) rfl (by kernel_rfl) (by kernel_rfl) (by kernel_rfl) (by kernel_rfl) (fun _ _ _ h => h) (Or.inl ⟨by rfl, ?hy16⟩) hHeld ?r16
  case hy16 => (intro w hSw; (try dsimp only at hSw); rw [hS] at hSw; obtain ⟨z0, z1, z2, z3, z4⟩ := hSw; go_simp <;> with_reducible rfl)
  simp only [Act.put, List.setIfInBounds_toArray, List.set_cons_zero, List.set_cons_succ]
  refine AnyE.take (D := [9]) (hDd := (by kernel_rfl)) (C := [16]) (hCd := (by kernel_rfl)) (i := 16) (v := ?v17) rfl (by kernel_rfl) (by kernel_rfl) (by kernel_rfl) (by kernel_rfl) (fun _ _ _ h => h) (Or.inl ⟨by rfl, ?hy17⟩) hHeld ?r17
  case hy17 => (intro w hSw; (try dsimp only at hSw); rw [hS] at hSw; obtain ⟨z0, z1, z2, z3, z4⟩ := hSw; go_simp <;> with_reducible rfl)
  simp only [Act.put, List.setIfInBounds_toArray, List.set_cons_zero, List.set_cons_succ]
  refine AnyE.take (D := [9]) (hDd := (by kernel_rfl)) (C := [17, 18, 19, 20]) (hCd := (by kernel_rfl)) (i := 17) (v := ?v18) rfl (by kernel_rfl) (by kernel_rfl) (by kernel_rfl) (by kernel_rfl) (fun _ _ _ h => h) (Or.inl ⟨by rfl, ?hy18⟩) hHeld ?r18
  case hy18 => (intro w hSw; (try dsimp only at hSw); rw [hS] at hSw; obtain ⟨z0, z1, z2, z3, z4⟩ := hSw; go_simp <;> with_reducible rfl)
  simp only [Act.put, List.setIfInBounds_toArray, List.set_cons_zero, List.set_cons_succ]
  refine AnyE.take (D := [9]) (hDd := (by kernel_rfl)) (C := [18, 19, 20]) (hCd := (by kernel_rfl)) (i := 18) (v := ?v19) rfl (by kernel_rfl) (by kernel_rfl) (by kernel_rfl) (by kernel_rfl) (fun _ _ _ h => h) (Or.inl ⟨by rfl, ?hy19⟩) hHeld ?r19
  case hy19 => (intro w hSw; (try dsimp only at hSw); rw [hS] at hSw; obtain ⟨z0, z1, z2, z3, z4⟩ := hSw; go_simp <;> with_reducible rfl)
  simp only [Act.put, List.setIfInBounds_toArray, List.set_cons_zero, List.set_cons_succ]
  refine AnyE.take (D := [9]) (hDd := (by kernel_rfl)) (C := [19, 20]) (hCd := (by kernel_rfl)) (i := 19) (v := ?v20) rfl (by kernel_rfl) (by kernel_rfl) (by kernel_rfl) (by kernel_rfl) (fun _ _ _ h => h) (Or.inl ⟨by rfl, ?hy20⟩) hHeld ?r20
  case hy20 => (intro w hSw; (try dsimp only at hSw); rw [hS] at hSw; obtain ⟨z0, z1, z2, z3, z4⟩ := hSw; go_simp <;> with_reducible rfl)
  simp only [Act.put, List.setIfInBounds_toArray, List.set_cons_zero, List.set_cons_succ]
  refine AnyE.take (D := [9]) (hDd := (by kernel_rfl)) (C := [20]) (hCd := (by kernel_rfl)) (i := 20) (v := ?v21) rfl (by kernel_rfl) (by kernel_rfl) (by kernel_rfl) (by kernel_rfl) (fun _ _ _ h => h) (Or.inl ⟨by rfl, ?hy21⟩) hHeld ?r21
  case hy21 => (intro w hSw; (try dsimp only at hSw); rw [hS] at hSw; obtain ⟨z0, z1, z2, z3, z4⟩ := hSw; go_simp <;> with_reducible rfl)
  simp only [Act.put, List.setIfInBounds_toArray, List.set_cons_zero, List.set_cons_succ]
  refine AnyE.take (D := [9]) (hDd := (by kernel_rfl)) (C := [21, 22, 23]) (hCd := (by kernel_rfl)) (i := 21) (v := ?v22) rfl (by kernel_rfl) (by kernel_rfl) (by kernel_rfl) (by kernel_rfl) (fun _ _ _ h => h) (Or.inl ⟨by rfl, ?hy22⟩) hHeld ?r22
  case hy22 => (intro w hSw; (try dsimp only at hSw); rw [hS] at hSw; obtain ⟨z0, z1, z2, z3, z4⟩ := hSw; go_simp <;> with_reducible rfl)
  simp only [Act.put, List.setIfInBounds_toArray, List.set_cons_zero, List.set_cons_succ]
  refine AnyE.take (D := [9]) (hDd := (by kernel_rfl)) (C := [22, 23]) (hCd := (by kernel_rfl)) (i := 22) (v := ?v23) rfl (by kernel_rfl) (by kernel_rfl) (by kernel_rfl) (by kernel_rfl) (fun _ _ _ h => h) (Or.inl ⟨by rfl, ?hy23⟩) hHeld ?r23
  case hy23 => (intro w hSw; (try dsimp only at hSw); rw [hS] at hSw; obtain ⟨z0, z1, z2, z3, z4⟩ := hSw; go_simp <;> with_reducible rfl)
  simp only [Act.put, List.setIfInBounds_toArray, List.set_cons_zero, List.set_cons_succ]
  refine AnyE.take (D := [9]) (hDd := (by kernel_rfl)) (C := [23]) (hCd := (by kernel_rfl)) (i := 23) (v := ?v24) rfl (by kernel_rfl) (by kernel_rfl) (by kernel_rfl) (by kernel_rfl) (fun _ _ _ h => h) (Or.inl ⟨by rfl, ?hy24⟩) hHeld ?r24
  case hy24 => (intro w hSw; (try dsimp only at hSw); rw [hS] at hSw; obtain ⟨z0, z1, z2, z3, z4⟩ := hSw; go_simp <;> with_reducible rfl)
  simp only [Act.put, List.setIfInBounds_toArray, List.set_cons_zero, List.set_cons_succ]
  refine AnyE.take (D := [9]) (hDd := (by kernel_rfl)) (C := [24]) (hCd := (by kernel_rfl)) (i := 24) (v := ?v25) rfl (by kernel_rfl) (by kernel_rfl) (by kernel_rfl) (by kernel_rfl) (fun _ _ _ h => h) (Or.inl ⟨by rfl, ?hy25⟩) hHeld ?r25
  case hy25 => (intro w hSw; (try dsimp only at hSw); rw [hS] at hSw; obtain ⟨z0, z1, z2, z3, z4⟩ := hSw; go_simp <;> with_reducible rfl)
  simp only [Act.put, List.setIfInBounds_toArray, List.set_cons_zero, List.set_cons_succ]
  clear hHeld
  refine AnyE.next (js := [25]) (by kernel_rfl) (by simp) (NextE.cons rfl (fun K hK => ?_) NextE.nil)
  go_simp
  refine hK.out _ _ (fun h => absurd h (by decide)) (fun hHeld => ?_)
  try simp only [Act.put, List.setIfInBounds_toArray, List.set_cons_zero, List.set_cons_succ]
  clear hK K hHeld
  refine AnyE.next (js := [26]) (by kernel_rfl) (by simp) (NextE.cons rfl (fun K hK => ?_) NextE.nil)
  go_simp
  refine hK.out _ _ (fun h => absurd h (by decide)) (fun hHeld => ?_)
  try simp only [Act.put, List.setIfInBounds_toArray, List.set_cons_zero, List.set_cons_succ]
  clear hK K hHeld
  refine AnyE.next (js := [27]) (by kernel_rfl) (by simp) (NextE.cons rfl (fun K hK => ?_) NextE.nil)
  go_simp
  refine hK.out _ _ (fun h => absurd h (by decide)) (fun hHeld => ?_)
  try simp only [Act.put, List.setIfInBounds_toArray, List.set_cons_zero, List.set_cons_succ]
  clear hK K hHeld
  refine AnyE.over (by kernel_rfl) ?_ _
  have HC2 := hide (HSET.out)
  obtain ⟨W2, hW2⟩ : ∃ W2, W2 = (((w.setCell ⟨g, i * 2, none⟩ (.int .i64 (gD l j).1)).setCell ⟨g, i * 2 + 1, none⟩ (.int .i64 (gD l j).2)).setCell ⟨g, j * 2, none⟩ (.int .i64 (gD l i).1)).setCell ⟨g, j * 2 + 1, none⟩ (.int .i64 (gD l i).2) := ⟨_, rfl⟩
  rw [← hW2] at HC2 ⊢
  have HO2 : Hid (Only (Foot p r m (.slice (some ⟨g, 0, none⟩) l.length c)) w W2) := hide (by
    rw [hW2]
    have hfg : Foot p r m (.slice (some ⟨g, 0, none⟩) l.length c) g := .inr (.inr (.inr rfl))
    exact ((((Only.refl _ w).set ⟨g, _, none⟩ hfg _).set ⟨g, _, none⟩ hfg _).set ⟨g, _, none⟩ hfg _).set ⟨g, _, none⟩ hfg _)
  clear hW2
  have HC2d := hide HC2.out.drew.drew
  obtain ⟨S2, hS2, HS2⟩ : ∃ S2 : World → Prop, (S2 = fun W => W.cell? ⟨r, 1, none⟩ = some (.func (.func 45) #[] #[.pointer (some ⟨x, 0, none⟩)]) ∧ W.cell? ⟨r, 0, none⟩ = some (.slice (some ⟨g, 0, none⟩) l.length c) ∧ W.cell? ⟨g, i * 2 + 1, none⟩ = some (.int .i64 (gD (swD l i j) i).2)) ∧ Hid (S2 W2.drew.drew) := by
    refine ⟨_, rfl, hide ?_⟩
    obtain ⟨_, _, _, q0, q1, _⟩ := HC2d.out.cells
    have hil : i < (swD l i j).length := by rw [swD_length]; exact hi
    exact ⟨q1, by rw [q0], HC2d.out.num (swD_length l i j).symm hil⟩
  have HM := hide (HC2d.out.moved (gD (swD l i j) i).2 (by have := HC2d.out.ok _ (gD_mem (by rw [swD_length]; exact hi)); exact this.2) i (by have := HD.out.len; omega) (by have := HD.out.len; omega))
  go_wp2_with fail
  refine wp_region_E (fun t => decide (t < 13)) S2 (by kernel_rfl) HS2.out (fun hHeld => ?_)
  refine AnyE.take (D := []) (hDd := (by kernel_rfl)) (C := [0, 1, 2, 3]) (hCd := (by kernel_rfl)) (i := 0) (v := ?v201) rfl (by kernel_rfl) (by kernel_rfl) (by kernel_rfl) (by kernel_rfl) (fun _ _ _ h => h) (Or.inl ⟨by rfl, ?hy201⟩) hHeld ?r201
  case hy201 => (intro w hSw; (try dsimp only at hSw); rw [hS2] at hSw; obtain ⟨z0, z1, z2⟩ := hSw; go_simp <;> with_reducible rfl)
  simp only [Act.put, List.setIfInBounds_toArray, List.set_cons_zero, List.set_cons_succ]
  refine AnyE.take (D := []) (hDd := (by kernel_rfl)) (C := [1, 2, 3]) (hCd := (by kernel_rfl)) (i := 1) (v := ?v202) rfl (by kernel_rfl) (by kernel_rfl) (by kernel_rfl) (by kernel_rfl) (fun _ _ _ h => h) (Or.inl ⟨by rfl, ?hy202⟩) hHeld ?r202
  case hy202 => (intro w hSw; (try dsimp only at hSw); rw [hS2] at hSw; obtain ⟨z0, z1, z2⟩ := hSw; go_simp <;> with_reducible rfl)
  simp only [Act.put, List.setIfInBounds_toArray, List.set_cons_zero, List.set_cons_succ]
  refine AnyE.take (D := []) (hDd := (by kernel_rfl)) (C := [2, 3]) (hCd := (by kernel_rfl)) (i := 2) (v := ?v203) rfl (by kernel_rfl) (by kernel_rfl) (by kernel_rfl) (by kernel_rfl) (fun _ _ _ h => h) (Or.inl ⟨by rfl, ?hy203⟩) hHeld ?r203
  case hy203 => (intro w hSw; (try dsimp only at hSw); rw [hS2] at hSw; obtain ⟨z0, z1, z2⟩ := hSw; go_simp <;> with_reducible rfl)
  simp only [Act.put, List.setIfInBounds_toArray, List.set_cons_zero, List.set_cons_succ]
  refine AnyE.take (D := []) (hDd := (by kernel_rfl)) (C := [3]) (hCd := (by kernel_rfl)) (i := 3) (v := ?v204) rfl (by kernel_rfl) (by kernel_rfl) (by kernel_rfl) (by kernel_rfl) (fun _ _ _ h => h) (Or.inl ⟨by rfl, ?hy204⟩) hHeld ?r204
  case hy204 => (intro w hSw; (try dsimp only at hSw); rw [hS2] at hSw; obtain ⟨z0, z1, z2⟩ := hSw; go_simp <;> with_reducible rfl)
  simp only [Act.put, List.setIfInBounds_toArray, List.set_cons_zero, List.set_cons_succ]
  refine AnyE.take (D := []) (hDd := (by kernel_rfl)) (C := [4, 5, 6, 7, 9, 10, 11]) (hCd := (by kernel_rfl)) (i := 4) (v := ?v205) rfl (by kernel_rfl) (by kernel_rfl) (by kernel_rfl) (by kernel_rfl) (fun _ _ _ h => h) (Or.inl ⟨by rfl, ?hy205⟩) hHeld ?r205
  case hy205 => (intro w hSw; (try dsimp only at hSw); rw [hS2] at hSw; obtain ⟨z0, z1, z2⟩ := hSw; go_simp <;> with_reducible rfl)
  simp only [Act.put, List.setIfInBounds_toArray, List.set_cons_zero, List.set_cons_succ]
  refine AnyE.take (D := []) (hDd := (by kernel_rfl)) (C := [5, 6, 7, 9, 10, 11]) (hCd := (by kernel_rfl)) (i := 5) (v := ?v206) rfl (by kernel_rfl) (by kernel_rfl) (by kernel_rfl) (by kernel_rfl) (fun _ _ _ h => h) (Or.inl ⟨by rfl, ?hy206⟩) hHeld ?r206
  case hy206 => (intro w hSw; (try dsimp only at hSw); rw [hS2] at hSw; obtain ⟨z0, z1, z2⟩ := hSw; go_simp <;> with_reducible rfl)
  simp only [Act.put, List.setIfInBounds_toArray, List.set_cons_zero, List.set_cons_succ]
  refine AnyE.take (D := []) (hDd := (by kernel_rfl)) (C := [6, 7, 9, 10, 11]) (hCd := (by kernel_rfl)) (i := 6) (v := ?v207) rfl (by kernel_rfl) (by kernel_rfl) (by kernel_rfl) (by kernel_rfl) (fun _ _ _ h => h) (Or.inl ⟨by rfl, ?hy207⟩) hHeld ?r207
  case hy207 => (intro w hSw; (try dsimp only at hSw); rw [hS2] at hSw; obtain ⟨z0, z1, z2⟩ := hSw; go_simp <;> with_reducible rfl)
  simp only [Act.put, List.setIfInBounds_toArray, List.set_cons_zero, List.set_cons_succ]
  refine AnyE.take (D := []) (hDd := (by kernel_rfl)) (C := [7, 9, 10, 11]) (hCd := (by kernel_rfl)) (i := 7) (v := ?v208) rfl (by kernel_rfl) (by kernel_rfl) (by kernel_rfl) (by kernel_rfl) (fun _ _ _ h => h) (Or.inl ⟨by rfl, ?hy208⟩) hHeld ?r208
  case hy208 => (intro w hSw; (try dsimp only at hSw); rw [hS2] at hSw; obtain ⟨z0, z1, z2⟩ := hSw; go_simp <;> with_reducible rfl)
  simp only [Act.put, List.setIfInBounds_toArray, List.set_cons_zero, List.set_cons_succ]
  refine AnyE.take (D := []) (hDd := (by kernel_rfl)) (C := [8, 9, 10, 11]) (hCd := (by kernel_rfl)) (i := 8) (v := ?v209) rfl (by kernel_rfl) (by kernel_rfl) (by kernel_rfl) (by kernel_rfl) (fun _ _ _ h => h) (Or.inl ⟨by rfl, ?hy209⟩) hHeld ?r209
  case hy209 => (intro w hSw; (try dsimp only at hSw); rw [hS2] at hSw; obtain ⟨z0, z1, z2⟩ := hSw; go_simp <;> with_reducible rfl)
  simp only [Act.put, List.setIfInBounds_toArray, List.set_cons_zero, List.set_cons_succ]
  refine AnyE.take (D := []) (hDd := (by kernel_rfl)) (C := [9, 10, 11]) (hCd := (by kernel_rfl)) (i := 9) (v := ?v210) rfl (by kernel_rfl) (by kernel_rfl) (by kernel_rfl) (by kernel_rfl) (fun _ _ _ h => h) (Or.inl ⟨by rfl, ?hy210⟩) hHeld ?r210
  case hy210 => (intro w hSw; (try dsimp only at hSw); rw [hS2] at hSw; obtain ⟨z0, z1, z2⟩ := hSw; go_simp <;> with_reducible rfl)
  simp only [Act.put, List.setIfInBounds_toArray, List.set_cons_zero, List.set_cons_succ]
  refine AnyE.take (D := []) (hDd := (by kernel_rfl)) (C := [10, 11]) (hCd := (by kernel_rfl)) (i := 10) (v := ?v211) rfl (by kernel_rfl) (by kernel_rfl) (by kernel_rfl) (by kernel_rfl) (fun _ _ _ h => h) (Or.inl ⟨by rfl, ?hy211⟩) hHeld ?r211
  case hy211 => (intro w hSw; (try dsimp only at hSw); rw [hS2] at hSw; obtain ⟨z0, z1, z2⟩ := hSw; go_simp <;> with_reducible rfl)
  simp only [Act.put, List.setIfInBounds_toArray, List.set_cons_zero, List.set_cons_succ]
  refine AnyE.take (D := []) (hDd := (by kernel_rfl)) (C := [11]) (hCd := (by kernel_rfl)) (i := 11) (v := ?v212) rfl (by kernel_rfl) (by kernel_rfl) (by kernel_rfl) (by kernel_rfl) (fun _ _ _ h => h) (Or.inl ⟨by rfl, ?hy212⟩) hHeld ?r212
  case hy212 => (intro w hSw; (try dsimp only at hSw); rw [hS2] at hSw; obtain ⟨z0, z1, z2⟩ := hSw; go_simp <;> with_reducible rfl)
  simp only [Act.put, List.setIfInBounds_toArray, List.set_cons_zero, List.set_cons_succ]
  refine AnyE.take (D := []) (hDd := (by kernel_rfl)) (C := [12]) (hCd := (by kernel_rfl)) (i := 12) (v := ?v213) rfl (by kernel_rfl) (by kernel_rfl) (by kernel_rfl) (by kernel_rfl) (fun _ _ _ h => h) (Or.inl ⟨by rfl, ?hy213⟩) hHeld ?r213
  case hy213 => (intro w hSw; (try dsimp only at hSw); rw [hS2] at hSw; obtain ⟨z0, z1, z2⟩ := hSw; go_simp <;> with_reducible rfl)
  simp only [Act.put, List.setIfInBounds_toArray, List.set_cons_zero, List.set_cons_succ]
  clear hHeld
  refine AnyE.next (js := [13]) (by kernel_rfl) (by simp) (NextE.cons rfl (fun K hK => ?_) NextE.nil)
  go_simp
  refine (HM.out).mono ?_
  rintro _ W3 ⟨rfl, hg3, hm3⟩
  have HC3 := hide (HC2d.out.turnMap hg3 hm3)
  have HO3 : Hid (Only (Foot p r m (.slice (some ⟨g, 0, none⟩) l.length c)) w W3) := hide (HO2.out.trans (T := fun k => k = m) ⟨hg3.os, hg3.tape, hg3.output, hg3.size, fun k hk hn => hg3.block k hk (fun e => hn (Option.some.inj e))⟩ (fun k _ hk => .inr (.inr (.inl hk))))
  clear hg3 hm3
  refine hK.out _ _ (fun h => absurd h (by decide)) (fun hHeld => ?_)
  try simp only [Act.put, List.setIfInBounds_toArray, List.set_cons_zero, List.set_cons_succ]
  clear hK K hHeld
  refine AnyE.over (by kernel_rfl) ?_ _
  clear HM HC2d HC2 HS2 hS2 S2 HO2
  have HC3d := hide HC3.out.drew
  obtain ⟨S2, hS2, HS2⟩ : ∃ S2 : World → Prop, (S2 = fun W => W.cell? ⟨r, 1, none⟩ = some (.func (.func 45) #[] #[.pointer (some ⟨x, 0, none⟩)]) ∧ W.cell? ⟨r, 0, none⟩ = some (.slice (some ⟨g, 0, none⟩) l.length c) ∧ W.cell? ⟨g, j * 2 + 1, none⟩ = some (.int .i64 (gD (swD l i j) j).2)) ∧ Hid (S2 W3.drew) := by
    refine ⟨_, rfl, hide ?_⟩
    obtain ⟨_, _, _, q0, q1, _⟩ := HC3d.out.cells
    have hjl : j < (swD l i j).length := by rw [swD_length]; exact hj
    exact ⟨q1, by rw [q0], HC3d.out.num (swD_length l i j).symm hjl⟩
  have HM := hide (HC3d.out.moved (gD (swD l i j) j).2 (by have := HC3d.out.ok _ (gD_mem (by rw [swD_length]; exact hj)); exact this.2) j (by have := HD.out.len; omega) (by rw [cnt_has (swD_has HD.out.nod hi hj hi)]; have := HD.out.len; omega))
  go_wp2_with fail
  refine wp_region_E (fun t => decide (t < 13)) S2 (by kernel_rfl) HS2.out (fun hHeld => ?_)
  refine AnyE.take (D := []) (hDd := (by kernel_rfl)) (C := [0, 1, 2, 3]) (hCd := (by kernel_rfl)) (i := 0) (v := ?v301) rfl (by kernel_rfl) (by kernel_rfl) (by kernel_rfl) (by kernel_rfl) (fun _ _ _ h => h) (Or.inl ⟨by rfl, ?hy301⟩) hHeld ?r301
  case hy301 => (intro w hSw; (try dsimp only at hSw); rw [hS2] at hSw; obtain ⟨z0, z1, z2⟩ := hSw; go_simp <;> with_reducible rfl)
  simp only [Act.put, List.setIfInBounds_toArray, List.set_cons_zero, List.set_cons_succ]
  refine AnyE.take (D := []) (hDd := (by kernel_rfl)) (C := [1, 2, 3]) (hCd := (by kernel_rfl)) (i := 1) (v := ?v302) rfl (by kernel_rfl) (by kernel_rfl) (by kernel_rfl) (by kernel_rfl) (fun _ _ _ h => h) (Or.inl ⟨by rfl, ?hy302⟩) hHeld ?r302
  case hy302 => (intro w hSw; (try dsimp only at hSw); rw [hS2] at hSw; obtain ⟨z0, z1, z2⟩ := hSw; go_simp <;> with_reducible rfl)
  simp only [Act.put, List.setIfInBounds_toArray, List.set_cons_zero, List.set_cons_succ]
  refine AnyE.take (D := []) (hDd := (by kernel_rfl)) (C := [2, 3]) (hCd := (by kernel_rfl)) (i := 2) (v := ?v303) rfl (by kernel_rfl) (by kernel_rfl) (by kernel_rfl) (by kernel_rfl) (fun _ _ _ h => h) (Or.inl ⟨by rfl, ?hy303⟩) hHeld ?r303
  case hy303 => (intro w hSw; (try dsimp only at hSw); rw [hS2] at hSw; obtain ⟨z0, z1, z2⟩ := hSw; go_simp <;> with_reducible rfl)
  simp only [Act.put, List.setIfInBounds_toArray, List.set_cons_zero, List.set_cons_succ]
  refine AnyE.take (D := []) (hDd := (by kernel_rfl)) (C := [3]) (hCd := (by kernel_rfl)) (i := 3) (v := ?v304) rfl (by kernel_rfl) (by kernel_rfl) (by kernel_rfl) (by kernel_rfl) (fun _ _ _ h => h) (Or.inl ⟨by rfl, ?hy304⟩) hHeld ?r304
  case hy304 => (intro w hSw; (try dsimp only at hSw); rw [hS2] at hSw; obtain ⟨z0, z1, z2⟩ := hSw; go_simp <;> with_reducible rfl)
  simp only [Act.put, List.setIfInBounds_toArray, List.set_cons_zero, List.set_cons_succ]
  refine AnyE.take (D := []) (hDd := (by kernel_rfl)) (C := [4, 5, 6, 7, 9, 10, 11]) (hCd := (by kernel_rfl)) (i := 4) (v := ?v305) rfl (by kernel_rfl) (by kernel_rfl) (by kernel_rfl) (by kernel_rfl) (fun _ _ _ h => h) (Or.inl ⟨by rfl, ?hy305⟩) hHeld ?r305
  case hy305 => (intro w hSw; (try dsimp only at hSw); rw [hS2] at hSw; obtain ⟨z0, z1, z2⟩ := hSw; go_simp <;> with_reducible rfl)
  simp only [Act.put, List.setIfInBounds_toArray, List.set_cons_zero, List.set_cons_succ]
  refine AnyE.take (D := []) (hDd := (by kernel_rfl)) (C := [5, 6, 7, 9, 10, 11]) (hCd := (by kernel_rfl)) (i := 5) (v := ?v306) rfl (by kernel_rfl) (by kernel_rfl) (by kernel_rfl) (by kernel_rfl) (fun _ _ _ h => h) (Or.inl ⟨by rfl, ?hy306⟩) hHeld ?r306
  case hy306 => (intro w hSw; (try dsimp only at hSw); rw [hS2] at hSw; obtain ⟨z0, z1, z2⟩ := hSw; go_simp <;> with_reducible rfl)
  simp only [Act.put, List.setIfInBounds_toArray, List.set_cons_zero, List.set_cons_succ]
  refine AnyE.take (D := []) (hDd := (by kernel_rfl)) (C := [6, 7, 9, 10, 11]) (hCd := (by kernel_rfl)) (i := 6) (v := ?v307) rfl (by kernel_rfl) (by kernel_rfl) (by kernel_rfl) (by kernel_rfl) (fun _ _ _ h => h) (Or.inl ⟨by rfl, ?hy307⟩) hHeld ?r307
  case hy307 => (intro w hSw; (try dsimp only at hSw); rw [hS2] at hSw; obtain ⟨z0, z1, z2⟩ := hSw; go_simp <;> with_reducible rfl)
  simp only [Act.put, List.setIfInBounds_toArray, List.set_cons_zero, List.set_cons_succ]
  refine AnyE.take (D := []) (hDd := (by kernel_rfl)) (C := [7, 9, 10, 11]) (hCd := (by kernel_rfl)) (i := 7) (v := ?v308) rfl (by kernel_rfl) (by kernel_rfl) (by kernel_rfl) (by kernel_rfl) (fun _ _ _ h => h) (Or.inl ⟨by rfl, ?hy308⟩) hHeld ?r308
  case hy308 => (intro w hSw; (try dsimp only at hSw); rw [hS2] at hSw; obtain ⟨z0, z1, z2⟩ := hSw; go_simp <;> with_reducible rfl)
  simp only [Act.put, List.setIfInBounds_toArray, List.set_cons_zero, List.set_cons_succ]
  refine AnyE.take (D := []) (hDd := (by kernel_rfl)) (C := [8, 9, 10, 11]) (hCd := (by kernel_rfl)) (i := 8) (v := ?v309) rfl (by kernel_rfl) (by kernel_rfl) (by kernel_rfl) (by kernel_rfl) (fun _ _ _ h => h) (Or.inl ⟨by rfl, ?hy309⟩) hHeld ?r309
  case hy309 => (intro w hSw; (try dsimp only at hSw); rw [hS2] at hSw; obtain ⟨z0, z1, z2⟩ := hSw; go_simp <;> with_reducible rfl)
  simp only [Act.put, List.setIfInBounds_toArray, List.set_cons_zero, List.set_cons_succ]
  refine AnyE.take (D := []) (hDd := (by kernel_rfl)) (C := [9, 10, 11]) (hCd := (by kernel_rfl)) (i := 9) (v := ?v310) rfl (by kernel_rfl) (by kernel_rfl) (by kernel_rfl) (by kernel_rfl) (fun _ _ _ h => h) (Or.inl ⟨by rfl, ?hy310⟩) hHeld ?r310
  case hy310 => (intro w hSw; (try dsimp only at hSw); rw [hS2] at hSw; obtain ⟨z0, z1, z2⟩ := hSw; go_simp <;> with_reducible rfl)
  simp only [Act.put, List.setIfInBounds_toArray, List.set_cons_zero, List.set_cons_succ]
  refine AnyE.take (D := []) (hDd := (by kernel_rfl)) (C := [10, 11]) (hCd := (by kernel_rfl)) (i := 10) (v := ?v311) rfl (by kernel_rfl) (by kernel_rfl) (by kernel_rfl) (by kernel_rfl) (fun _ _ _ h => h) (Or.inl ⟨by rfl, ?hy311⟩) hHeld ?r311
  case hy311 => (intro w hSw; (try dsimp only at hSw); rw [hS2] at hSw; obtain ⟨z0, z1, z2⟩ := hSw; go_simp <;> with_reducible rfl)
  simp only [Act.put, List.setIfInBounds_toArray, List.set_cons_zero, List.set_cons_succ]
  refine AnyE.take (D := []) (hDd := (by kernel_rfl)) (C := [11]) (hCd := (by kernel_rfl)) (i := 11) (v := ?v312) rfl (by kernel_rfl) (by kernel_rfl) (by kernel_rfl) (by kernel_rfl) (fun _ _ _ h => h) (Or.inl ⟨by rfl, ?hy312⟩) hHeld ?r312
  case hy312 => (intro w hSw; (try dsimp only at hSw); rw [hS2] at hSw; obtain ⟨z0, z1, z2⟩ := hSw; go_simp <;> with_reducible rfl)
  simp only [Act.put, List.setIfInBounds_toArray, List.set_cons_zero, List.set_cons_succ]
  refine AnyE.take (D := []) (hDd := (by kernel_rfl)) (C := [12]) (hCd := (by kernel_rfl)) (i := 12) (v := ?v313) rfl (by kernel_rfl) (by kernel_rfl) (by kernel_rfl) (by kernel_rfl) (fun _ _ _ h => h) (Or.inl ⟨by rfl, ?hy313⟩) hHeld ?r313
  case hy313 => (intro w hSw; (try dsimp only at hSw); rw [hS2] at hSw; obtain ⟨z0, z1, z2⟩ := hSw; go_simp <;> with_reducible rfl)
  simp only [Act.put, List.setIfInBounds_toArray, List.set_cons_zero, List.set_cons_succ]
  clear hHeld
  refine AnyE.next (js := [13]) (by kernel_rfl) (by simp) (NextE.cons rfl (fun K hK => ?_) NextE.nil)
  go_simp
  refine (HM.out).mono ?_
  rintro _ W4 ⟨rfl, hg4, hm4⟩
  have HC4 := hide (HC3d.out.turnMap hg4 hm4)
  have HO4 : Hid (Only (Foot p r m (.slice (some ⟨g, 0, none⟩) l.length c)) w W4) := hide (HO3.out.trans (T := fun k => k = m) ⟨hg4.os, hg4.tape, hg4.output, hg4.size, fun k hk hn => hg4.block k hk (fun e => hn (Option.some.inj e))⟩ (fun k _ hk => .inr (.inr (.inl hk))))
  clear hg4 hm4
  refine hK.out _ _ (fun h => absurd h (by decide)) (fun hHeld => ?_)
  try simp only [Act.put, List.setIfInBounds_toArray, List.set_cons_zero, List.set_cons_succ]
  clear hK K hHeld
  refine AnyE.over (by kernel_rfl) ?_ _
  go_wp2_with fail
  go_end0
  exact ⟨rfl, swap_end HD.out.nod hi hj HC4.out, HO4.out⟩
end Go.Proofs.Ytdaicdaakegdmaa
