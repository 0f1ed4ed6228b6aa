/- The law GoodsParts: what its walk stands on. -/
import Derived.Test.YtffpiaipdeebcaaDoorGpP
import Derived.Test.YtffpiaipdeebcaaDoorKn7
import Derived.Test.YtffpiaipdeebcaaDoorUntil
namespace Go.Proofs.YtffpiaipdeebcaaDoor
open Go.RowKit Go.Maps Go.Shelf
open Go.ChangeMaps Go.WideMaps

theorem made_i (N : Nat) : madeCells #[.int .i64 0] N = Array.replicate N (intV 0) := by
  apply Array.ext_getElem?
  intro i
  by_cases h : i < N
  · simp [madeCells, h, Array.getElem?_replicate, Nat.mod_one]
  · simp [madeCells, h, Array.getElem?_replicate]
theorem make_int7 (N : Nat) (hN : N ≤ 1000000) (W : World) : (Instr.makeSlice 22 (.int .i64 (N : Int)) (.int .i64 (N : Int))).run Tryd.prog W = .ok (.slice (some ⟨W.heap.size, 0, none⟩) N N) (W.alloc (.cells (Array.replicate N (intV 0)) 3)) := by
  obtain ⟨i0, hi, hz, hs, hb⟩ := info_parts infoN7
  have := run_make (P := Tryd.prog) W 22 3 i0 _ Tryd.underlying22 hi hz .i64 .i64 (N : Int) (N : Int) (by omega) (Int.le_refl _) (by rw [hb]; omega) (by omega)
  rw [Int.toNat_natCast, hs, Nat.mul_one] at this
  rw [← made_i]
  exact this
theorem ints_oneP (p : List Int) : ∀ u ∈ p.map intV, u.oneCell' = true := fun u hu => by obtain ⟨x, _, rfl⟩ := List.mem_map.1 hu; rfl
/-- The two lists of a round. -/
structure RowsP (wr : World) (m gA cA : Nat) (la : List Int) (gL cL : Nat) (ll : List Int) (W : World) : Prop where
  bel : Below wr.heap.size wr W
  al : W.ownsRow wr.heap.size 3 1 (.slice (some ⟨gA, 0, none⟩) m cA) m (la.map intV)
  le : W.ownsRow wr.heap.size 3 1 (.slice (some ⟨gL, 0, none⟩) m cL) m (ll.map intV)
  ne : gA ≠ gL
section
variable {wr W W' : World} {m gA cA gL cL i : Nat} {la ll : List Int}
theorem RowsP.below (h : RowsP wr m gA cA la gL cL ll W) (hb : Below W.heap.size W W') : RowsP wr m gA cA la gL cL ll W' :=
  ⟨h.bel.trans (hb.mono h.bel.size), own_below h.al hb (Nat.le_refl _), own_below h.le hb (Nat.le_refl _), h.ne⟩
theorem RowsP.lenA (h : RowsP wr m gA cA la gL cL ll W) : la.length = m := by simpa using h.al.1
theorem RowsP.lenL (h : RowsP wr m gA cA la gL cL ll W) : ll.length = m := by simpa using h.le.1
theorem RowsP.setA (h : RowsP wr m gA cA la gL cL ll W) (i : Nat) (v : Int) : RowsP wr m gA cA (la.set i v) gL cL ll (W.setCell ⟨gA, i, none⟩ (.int .i64 v)) := by
  have h1 := (h.al.stored i (.int .i64 v)).1
  rw [← show (la.set i v).map intV = (la.map intV).set i (.int .i64 v) by rw [List.map_set]] at h1
  exact ⟨h.bel.setCell (h.al.lt gA rfl).1 _, h1, ownsRow_setCell_other h.le (by show some gL ≠ some gA; intro e; injection e with e; exact h.ne e.symm) _, h.ne⟩
theorem RowsP.setL (h : RowsP wr m gA cA la gL cL ll W) (i : Nat) (v : Int) : RowsP wr m gA cA la gL cL (ll.set i v) (W.setCell ⟨gL, i, none⟩ (.int .i64 v)) := by
  have h1 := (h.le.stored i (.int .i64 v)).1
  rw [← show (ll.set i v).map intV = (ll.map intV).set i (.int .i64 v) by rw [List.map_set]] at h1
  exact ⟨h.bel.setCell (h.le.lt gL rfl).1 _, ownsRow_setCell_other h.al (by show some gA ≠ some gL; intro e; injection e with e; exact h.ne e) _, h1, h.ne⟩
theorem RowsP.cellA (h : RowsP wr m gA cA la gL cL ll W) (hi : i < m) : (∃ x, W.cell? ⟨gA, i, none⟩ = some (.int .i64 x)) ∧ W.frozen? ⟨gA, i, none⟩ = false := by
  refine ⟨?_, h.al.frozenAt i⟩
  have hl := h.lenA
  refine ⟨la[i], (h.al.cellAt i (by omega)).trans ?_⟩
  rw [List.getElem?_map, List.getElem?_eq_getElem (by omega)]
  rfl
theorem RowsP.cellL (h : RowsP wr m gA cA la gL cL ll W) (hi : i < m) : (∃ x, W.cell? ⟨gL, i, none⟩ = some (.int .i64 x)) ∧ W.frozen? ⟨gL, i, none⟩ = false := by
  refine ⟨?_, h.le.frozenAt i⟩
  have hl := h.lenL
  refine ⟨ll[i], (h.le.cellAt i (by omega)).trans ?_⟩
  rw [List.getElem?_map, List.getElem?_eq_getElem (by omega)]
  rfl
theorem RowsP.oneA (h : RowsP wr m gA cA la gL cL ll W) : One intV W W.heap.size (some ⟨gA, 0, none⟩) la := One.of_own h.al h.lenA
theorem RowsP.oneL (h : RowsP wr m gA cA la gL cL ll W) : One intV W W.heap.size (some ⟨gL, 0, none⟩) ll := One.of_own h.le h.lenL
end
/-- The list of a buyer alone as far as it is filled. -/
abbrev fillL (m k : Nat) : List Int := List.replicate k (-1) ++ List.replicate (m - k) 0
theorem fill_step {m k : Nat} (h : k < m) : fillL m (k + 1) = (fillL m k).set k (-1) := by
  have e : List.replicate (m - k) (0 : Int) = 0 :: List.replicate (m - (k + 1)) 0 := by rw [← List.replicate_succ]; congr 1; omega
  unfold fillL
  rw [List.set_append_right _ _ (by simp), List.length_replicate, Nat.sub_self, e, List.set_cons_zero, List.replicate_succ', List.append_assoc]
  rfl
theorem fill_all (m : Nat) : fillL m m = List.replicate m (-1) := by simp [fillL]
theorem outL_wide {ls : List (List Offer)} (hw : BWide ls) (zs : List Int) : ∀ o ∈ outL ls zs, o.1 < 4294967296 := by
  intro o ho
  obtain ⟨j, hj⟩ := List.getElem?_of_mem ho
  rw [outL_at] at hj
  cases hl : ls[j]? with
  | none => rw [hl] at hj; cases hj
  | some l =>
    cases hz : zs[j]? with
    | none => rw [hl, hz] at hj; cases hj
    | some z =>
      rw [hl, hz] at hj
      injection hj with hj
      subst hj
      unfold pickO
      split
      · cases h3 : l[z.toNat]? with
        | none => decide
        | some o' => exact (hw l (List.mem_of_getElem? hl) o' (List.mem_of_getElem? h3)).1
      · decide
theorem parts_all {n : Int} {ls : List (List Offer)} {zs : List Int} {b : Nat} {z : Int} (hok : instE n ls = 0) (h : chE ls zs = 0) (hb : zs[b]? = some z) : ∃ o, (outL ls zs)[b]? = some o ∧ chErr n ls (aloneL zs.length b z) = 0 ∧ chWorth n ls (aloneL zs.length b z) = o.2 ∧ chErr n ls (zs.set b (-1)) = 0 ∧ chWorth n ls (zs.set b (-1)) = sumC (outL ls zs) - o.2 := by
  obtain ⟨h1, h2, o, h3, h4, h5⟩ := parts_law h hb
  have e1 : ∀ zs', chE ls zs' = 0 → chErr n ls zs' = 0 := fun zs' h => by unfold chErr; rw [if_neg (by simp [hok])]; exact h
  refine ⟨o, h3, e1 _ h1, ?_, e1 _ h2, ?_⟩
  · unfold chWorth; rw [e1 _ h1, if_neg (by simp)]; exact h4
  · unfold chWorth; rw [e1 _ h2, if_neg (by simp)]; exact h5
theorem manyL_le (gs : List Nat) : manyL gs ≤ 32 * gs.length := by
  induction gs with
  | nil => simp [manyL]
  | cons g gs ih =>
    have e : manyL (g :: gs) = (eachL g).length + manyL gs := by simp [manyL]
    have := eachL_len g
    rw [e, List.length_cons]
    omega
theorem rows_mk {wr W : World} {gA c : Nat} {A : Option Addr} {zs : List Int} (hb : Below wr.heap.size wr W) (hA : W.heap[gA]? = some (.cells (Array.replicate zs.length (intV 0)) 3 (0, 0))) (hg : wr.heap.size ≤ gA)
    (ho : W.ownsRow wr.heap.size 3 1 (.slice A zs.length c) zs.length (zs.map intV)) (hne : (Value.slice A zs.length c).ownBlock ≠ some gA) (h0 : 0 < zs.length) (hm : zs.length ≤ 32) :
    ∃ gL, A = some ⟨gL, 0, none⟩ ∧ RowsP wr zs.length gA zs.length (fillL zs.length 0) gL c zs W := by
  obtain ⟨gL, cap, hv⟩ := Go.Joins.ownsRow_form ho h0
  injection hv with hv _ hc
  subst hv hc
  refine ⟨gL, rfl, hb, ⟨by simp, .inr ⟨gA, _, _, rfl, hg, hA, Nat.le_refl _, by unfold maxLen; omega, by simp, ?_⟩⟩, ho, fun e => hne (by rw [e]; rfl)⟩
  simp [fillL]
end Go.Proofs.YtffpiaipdeebcaaDoor
