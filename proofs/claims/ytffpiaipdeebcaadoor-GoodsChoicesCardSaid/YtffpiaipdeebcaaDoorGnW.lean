/- The law GoodsNames: what its walk stands on. -/
import Derived.Test.YtffpiaipdeebcaaDoorPush
import Derived.Test.YtffpiaipdeebcaaDoorGcE
import Derived.Test.YtffpiaipdeebcaaDoorGd4
import Derived.Test.YtffpiaipdeebcaaDoorKn7
import Derived.Test.YtffpiaipdeebcaaDoorUntil
namespace Go.Proofs.YtffpiaipdeebcaaDoor
open Go.RowKit Go.Maps Go.Shelf
open Go.ChangeMaps Go.WideMaps

def topO : Offer := (512, 1099511627776)
/-- A row as far as it is filled. -/
def fillO (j : Nat) : List Offer := List.replicate j topO ++ List.replicate (8 - j) (0, 0)
theorem fillO_len {j : Nat} (h : j ≤ 8) : (fillO j).length = 8 := by simp [fillO]; omega
theorem fillO_step {k : Nat} (h : k < 8) : (fillO k).set k topO = fillO (k + 1) := by
  have e : List.replicate (8 - k) ((0, 0) : Offer) = (0, 0) :: List.replicate (8 - (k + 1)) (0, 0) := by rw [← List.replicate_succ]; congr 1; omega
  unfold fillO
  rw [List.set_append_right _ _ (by simp), List.length_replicate, Nat.sub_self, e, List.set_cons_zero, List.replicate_succ', List.append_assoc]
  rfl
def rowT : List Offer := List.replicate 8 topO
theorem fillO_all : fillO 8 = rowT := by simp [fillO, rowT]
theorem fillO_none : fillO 0 = List.replicate 8 (0, 0) := by simp [fillO]
abbrev topL (b : Nat) : List (List Offer) := List.replicate b rowT
/-- The last row is written to. -/
theorem OwnB.setLast {W : World} {base gl k c : Nat} {A : Option Addr} {hs : List Hdr} {ms : List (List Offer)} {l : List Offer} {o : Offer} (h : OwnB W base A c (hs ++ [(some ⟨gl, 0, none⟩, 8)]) (ms ++ [l])) (hl : l.length = 8) (hh : hs.length = ms.length)
    (hfar : ∀ h ∈ hs, ∀ g o t, h.1 = some ⟨g, o, t⟩ → g ≠ gl) (hk : k < 8) : OwnB ((W.setCell ⟨gl, k * 2, none⟩ (offV o).1).setCell ⟨gl, k * 2 + 1, none⟩ (offV o).2) base A c (hs ++ [(some ⟨gl, 0, none⟩, 8)]) (ms ++ [l.set k o]) := by
  have hrow := h.row ms.length (some ⟨gl, 0, none⟩, 8) l (by rw [← hh]; simp) (by simp)
  unfold hdrV at hrow
  simp only at hrow
  rw [hl] at hrow
  have hg : ∃ cur, W.heap[gl]? = some (.cells cur 74 (0, 0)) := by
    rcases hrow.2 with ⟨h1, _⟩ | ⟨g, cap, cur, h1, _, h2, _⟩
    · injection h1 with h1; cases h1
    · injection h1 with h1
      injection h1 with h1
      injection h1 with h1
      subst h1
      exact ⟨cur, h2⟩
  obtain ⟨cur, hcur⟩ := hg
  have key : ∀ {e size n : Nat} {v : Value} {xs : List Value}, W.ownsRow base e size v n xs → v.ownBlock ≠ some gl → ((W.setCell ⟨gl, k * 2, none⟩ (offV o).1).setCell ⟨gl, k * 2 + 1, none⟩ (offV o).2).ownsRow base e size v n xs := fun h1 h2 => ownsRow_setCell_other (ownsRow_setCell_other h1 h2 _) h2 _
  refine ⟨by simp [hh], ?_, ?_, h.nil⟩
  · have e1 : (ms ++ [l.set k o]).length = (ms ++ [l]).length := by simp
    have e2 : List.zipWith hdrV (hs ++ [(some ⟨gl, 0, none⟩, 8)]) (ms ++ [l.set k o]) = List.zipWith hdrV (hs ++ [(some ⟨gl, 0, none⟩, 8)]) (ms ++ [l]) := by
      rw [List.zipWith_append hh, List.zipWith_append hh]
      simp [hdrV]
    rw [e1, e2]
    exact key h.hdr (own_ne h.hdr hcur (fun cur' e => by injection e with _ e _; exact absurd e (by decide)))
  · intro i hd l' hi hli
    rcases Nat.lt_or_ge i ms.length with h1 | h1
    · rw [List.getElem?_append_left h1] at hli
      have hi' := hi
      rw [List.getElem?_append_left (by omega)] at hi'
      have h2 := h.row i hd l' hi (by rw [List.getElem?_append_left h1]; exact hli)
      refine key h2 (fun e => ?_)
      rcases h2.2 with ⟨h3, _⟩ | ⟨g, cap, cur', h3, _⟩
      · rw [h3] at e; cases e
      · rw [h3] at e
        injection e with e
        unfold hdrV at h3
        injection h3 with h3 _ _
        exact hfar hd (List.mem_of_getElem? hi') _ _ _ h3 e
    · rw [List.getElem?_append_right h1] at hli
      rw [List.getElem?_append_right (by omega)] at hi
      have e0 : i - ms.length = 0 := by
        rcases Nat.eq_zero_or_pos (i - ms.length) with h2 | h2
        · exact h2
        · rw [List.getElem?_eq_none (by simp; omega)] at hli; cases hli
      rw [e0] at hli
      rw [show i - hs.length = 0 by omega] at hi
      simp at hi hli
      subst hi hli
      have h3 := (hrow.stored (k * 2) (offV o).1).1
      have h4 := (h3.stored (k * 2 + 1) (offV o).2).1
      rw [cells2_set (f := offV) l k o (by omega)] at h4
      unfold hdrV
      simp only [List.length_set]
      rw [hl]
      exact h4
/-- The instance that is being built: its box, its buyers, the last one's row. -/
structure NmR (w : World) (X B gl b j : Nat) (g7 c7 : Nat) (hs : List Hdr) (W : World) : Prop where
  bel : Below w.heap.size w W
  x : W.heap[X]? = some (.cells #[.int .i64 10, .slice (some ⟨g7, 0, none⟩) (b + 1) c7] 49 (0, 0))
  own : OwnB W B (some ⟨g7, 0, none⟩) c7 (hs ++ [(some ⟨gl, 0, none⟩, 8)]) (topL b ++ [fillO j])
  len : hs.length = b
  far : ∀ h ∈ hs, ∀ g o t, h.1 = some ⟨g, o, t⟩ → g ≠ gl
section
variable {w W : World} {X B gl b j g7 c7 : Nat} {hs : List Hdr}
theorem NmR.row (h : NmR w X B gl b j g7 c7 hs W) (hj : j ≤ 8) : W.ownsRow B 74 2 (.slice (some ⟨gl, 0, none⟩) 8 8) 8 (cells2 offV (fillO j)) := by
  have h1 := h.own.row b (some ⟨gl, 0, none⟩, 8) (fillO j) (by rw [← h.len]; simp) (by simp)
  unfold hdrV at h1
  rw [fillO_len hj] at h1
  exact h1
theorem NmR.head (h : NmR w X B gl b j g7 c7 hs W) (hj : j ≤ 8) : W.cell? ⟨g7, b, none⟩ = some (.slice (some ⟨gl, 0, none⟩) 8 8) := by
  have h1 := h.own.hdr.cellAt b (by simp)
  rw [h1, List.zipWith_append (by rw [h.len]; simp), List.getElem?_append_right (by rw [List.length_zipWith, h.len]; simp), List.length_zipWith, h.len, List.length_replicate, Nat.min_self, Nat.sub_self]
  simp [hdrV, fillO_len hj]
theorem NmR.cells (h : NmR w X B gl b j g7 c7 hs W) (hj : j ≤ 8) {k : Nat} (hk : k < 8) : (∃ v, W.cell? ⟨gl, k * 2, none⟩ = some (.int .u32 v)) ∧ (∃ v, W.cell? ⟨gl, k * 2 + 1, none⟩ = some (.int .i64 v)) ∧ W.frozen? ⟨gl, k * 2, none⟩ = false ∧ W.frozen? ⟨gl, k * 2 + 1, none⟩ = false := by
  have hr := h.row hj
  obtain ⟨e0, e1⟩ := cells2_at (f := offV) (fillO j) k _ (List.getElem?_eq_getElem (by rw [fillO_len hj]; exact hk))
  exact ⟨⟨_, (hr.cellAt (k * 2) (by omega)).trans e0⟩, ⟨_, (hr.cellAt (k * 2 + 1) (by omega)).trans e1⟩, hr.frozenAt _, hr.frozenAt _⟩
theorem NmR.fill (h : NmR w X B gl b j g7 c7 hs W) (hj : j < 8) (hX : X < B) (hB : w.heap.size ≤ X) : NmR w X B gl b (j + 1) g7 c7 hs ((W.setCell ⟨gl, j * 2, none⟩ (.int .u32 512)).setCell ⟨gl, j * 2 + 1, none⟩ (.int .i64 1099511627776)) := by
  have hg := ((h.row (by omega)).lt gl rfl).1
  have h1 := h.own.setLast (o := topO) (fillO_len (by omega)) (by rw [h.len]; simp) h.far hj
  rw [fillO_step hj] at h1
  exact ⟨(h.bel.setCell (by show w.heap.size ≤ gl; omega) _).setCell (by show w.heap.size ≤ gl; omega) _, (Below.heap_setCell _ _ _ _ (by show X ≠ gl; omega)).trans ((Below.heap_setCell _ _ _ _ (by show X ≠ gl; omega)).trans h.x), h1, h.len, h.far⟩
end
theorem make_eight (W : World) : (Instr.makeSlice 63 (.int .i64 8) (.int .i64 8)).run Tryd.prog W = .ok (.slice (some ⟨W.heap.size, 0, none⟩) 8 8) (W.alloc (.cells (madeCells #[.int .u32 0, .int .i64 0] 16) 74)) := make_two 8 (by decide) W
theorem made_eight : madeCells #[.int .u32 0, .int .i64 0] 16 = (cells2 offV (fillO 0)).toArray := by
  have h := made2 8
  rw [← fillO_none] at h
  rw [← h, Array.toArray_toList]
theorem top_check : checkT 10 (topL 32) = (0, 0, 0) ∧ checkT 10 (topL 32 ++ [[]]) = (32, 0, 2) := by decide +kernel
theorem bad_check : checkT 1 [[(1, 0)]] = (0, 0, 2) ∧ checkT 1 [[(1, -1)]] = (0, 0, 2) ∧ checkT 1 [[(1, 1099511627777)]] = (0, 0, 2) := by decide +kernel
theorem bad_choice : chErr 2 smallL [-2, 0] = 170 ∧ chErr 2 smallL [2, 0] = 170 ∧ chErr 2 smallL [-1099511627776, 0] = 170 := by decide +kernel
theorem top_wide (b : Nat) : BWide (topL b) := by
  intro l hl o ho
  obtain rfl := List.eq_of_mem_replicate hl
  obtain rfl := List.eq_of_mem_replicate ho
  decide
theorem top_wide2 : BWide (topL 32 ++ [[]]) := by
  intro l hl o ho
  rcases List.mem_append.1 hl with h | h
  · exact top_wide 32 l h o ho
  · simp at h; subst h; cases ho
theorem one_wide (v : Int) (h : -9223372036854775808 ≤ v ∧ v ≤ 9223372036854775807) : BWide [[(1, v)]] := by
  intro l hl o ho
  simp at hl
  subst hl
  simp at ho
  subst ho
  exact ⟨by show 1 < 4294967296; decide, h⟩
/-- An instance of one buyer with one offer, as a statement builds it. -/
theorem one_inst {W : World} {v : Int} {g h : Nat} (h1 : W.heap[g]? = some (.cells #[.int .u32 1, .int .i64 v] 74 (0, 0))) (h2 : W.heap[h]? = some (.cells #[.slice (some ⟨g, 0, none⟩) 1 1] 63 (0, 0))) :
    Buys W W.heap.size (some ⟨h, 0, none⟩) [(some ⟨g, 0, none⟩, 1)] [[(1, v)]] := by
  refine ⟨rfl, reads_row7 (xs := [.slice (some ⟨g, 0, none⟩) 1 1]) h2 rfl, fun i a l ha hl => ?_⟩
  match i with
  | 0 =>
    injection ha with ha
    injection hl with hl
    subst ha hl
    exact ⟨reads_row7 (xs := [.int .u32 1, .int .i64 v]) h1 rfl, Nat.le_refl 1⟩
  | i + 1 => simp at hl
set_option maxRecDepth 100000 in
theorem arr_coins (W : World) : (Instr.index 75 (.agg #[.int .i64 0, .int .i64 (-1), .int .i64 1099511627777]) (.int .i64 0)).run Tryd.prog W = .ok (.int .i64 0) W ∧ (Instr.index 75 (.agg #[.int .i64 0, .int .i64 (-1), .int .i64 1099511627777]) (.int .i64 1)).run Tryd.prog W = .ok (.int .i64 (-1)) W ∧
    (Instr.index 75 (.agg #[.int .i64 0, .int .i64 (-1), .int .i64 1099511627777]) (.int .i64 2)).run Tryd.prog W = .ok (.int .i64 1099511627777) W := ⟨rfl, rfl, rfl⟩
set_option maxRecDepth 100000 in
theorem arr_nums (W : World) : (Instr.index 77 (.agg #[.int .i64 (-2), .int .i64 2, .int .i64 (-1099511627776)]) (.int .i64 0)).run Tryd.prog W = .ok (.int .i64 (-2)) W ∧ (Instr.index 77 (.agg #[.int .i64 (-2), .int .i64 2, .int .i64 (-1099511627776)]) (.int .i64 1)).run Tryd.prog W = .ok (.int .i64 2) W ∧
    (Instr.index 77 (.agg #[.int .i64 (-2), .int .i64 2, .int .i64 (-1099511627776)]) (.int .i64 2)).run Tryd.prog W = .ok (.int .i64 (-1099511627776)) W := ⟨rfl, rfl, rfl⟩
theorem closed_sets : allI 32 = 4294967295 ∧ allE 32 = 0 ∧ allI 33 = 0 ∧ allE 33 = 2 ∧ allI 0 = 0 ∧ allE 0 = 0 ∧ apartG [] = (0, true) ∧ (ofG [31]).2 = 0 ∧ (ofG [32]).2 = 2 := by decide +kernel
end Go.Proofs.YtffpiaipdeebcaaDoor
