/- The walk of parts: a going over held against the document's shares. -/
import Derived.Test.YtgjeihgkcmheeaaDoorEvs
namespace Go.Proofs.YtgjeihgkcmheeaaDoor
open Go.RowKit Go.Shelf

attribute [local go_sem] Oper.semAt_some

/-- The call's own blocks: the coins, the parts, how many to take, what is told, how many were seen. -/
structure PtI (w : World) (c n lv k : Int) (r : Bool) (W : World) : Prop where
  bel : Below w.heap.size w W
  x0 : W.heap[w.heap.size]? = some (.cells #[.int .i64 c] 2 (0, 0))
  x1 : W.heap[w.heap.size + 1]? = some (.cells #[.int .i64 n] 3 (0, 0))
  x2 : W.heap[w.heap.size + 2]? = some (.cells #[.int .i64 lv] 3 (0, 0))
  x3 : W.heap[w.heap.size + 3]? = some (.cells #[.bool r] 4 (0, 0))
  x4 : W.heap[w.heap.size + 4]? = some (.cells #[.int .i64 k] 3 (0, 0))
section
variable {w W W' : World} {c n lv k : Int} {r : Bool} {row : Option Nat}
theorem PtI.grown (h : PtI w c n lv k r W) (hg : W.grownBy W' row) (hr : ∀ g, row = some g → w.heap.size + 5 ≤ g) : PtI w c n lv k r W' := by
  have key : ∀ {j : Nat} {o : Obj}, j < w.heap.size + 5 → W.heap[j]? = some o → W'.heap[j]? = some o := fun hj ho => (hg.block _ (lt_of_block ho) (fun e => by have := hr _ e.symm; omega)).trans ho
  exact ⟨h.bel.grown hg h.bel.size (fun g e => by have := hr g e; omega), key (by omega) h.x0, key (by omega) h.x1, key (by omega) h.x2, key (by omega) h.x3, key (by omega) h.x4⟩
theorem PtI.cells (h : PtI w c n lv k r W) : W.cell? ⟨w.heap.size, 0, none⟩ = some (.int .i64 c) ∧ W.cell? ⟨w.heap.size + 1, 0, none⟩ = some (.int .i64 n) ∧ W.cell? ⟨w.heap.size + 2, 0, none⟩ = some (.int .i64 lv) ∧ W.cell? ⟨w.heap.size + 4, 0, none⟩ = some (.int .i64 k) ∧ W.frozen? ⟨w.heap.size + 4, 0, none⟩ = false ∧ W.frozen? ⟨w.heap.size + 3, 0, none⟩ = false ∧ W.cell? ⟨w.heap.size + 3, 0, none⟩ = some (.bool r) := by
  refine ⟨?_, ?_, ?_, ?_, frozen_of_row _ _ 0 _ _ h.x4, frozen_of_row _ _ 0 _ _ h.x3, ?_⟩
  · rw [cell_of_row _ _ 0 _ _ (0, 0) h.x0]; rfl
  · rw [cell_of_row _ _ 0 _ _ (0, 0) h.x1]; rfl
  · rw [cell_of_row _ _ 0 _ _ (0, 0) h.x2]; rfl
  · rw [cell_of_row _ _ 0 _ _ (0, 0) h.x4]; rfl
  · rw [cell_of_row _ _ 0 _ _ (0, 0) h.x3]; rfl
theorem setCell_row (W : World) (b : Nat) (v u : Value) (t : TypeId) (h : W.heap[b]? = some (.cells #[v] t (0, 0))) : (W.setCell ⟨b, 0, none⟩ u).heap[b]? = some (.cells #[u] t (0, 0)) := by
  have := setCell_block h 0 u
  simpa using this
theorem PtI.seen (h : PtI w c n lv k r W) (k' : Int) : PtI w c n lv k' r (W.setCell ⟨w.heap.size + 4, 0, none⟩ (.int .i64 k')) := by
  have key : ∀ {j : Nat} {o : Obj}, j ≠ w.heap.size + 4 → W.heap[j]? = some o → (W.setCell ⟨w.heap.size + 4, 0, none⟩ (.int .i64 k')).heap[j]? = some o := fun hj ho => (Below.heap_setCell W _ _ _ hj).trans ho
  exact ⟨h.bel.setCell (by show w.heap.size ≤ w.heap.size + 4; omega) _, key (by omega) h.x0, key (by omega) h.x1, key (by omega) h.x2, key (by omega) h.x3, setCell_row _ _ _ _ _ h.x4⟩
theorem PtI.said (h : PtI w c n lv k r W) (r' : Bool) : PtI w c n lv k r' (W.setCell ⟨w.heap.size + 3, 0, none⟩ (.bool r')) := by
  have key : ∀ {j : Nat} {o : Obj}, j ≠ w.heap.size + 3 → W.heap[j]? = some o → (W.setCell ⟨w.heap.size + 3, 0, none⟩ (.bool r')).heap[j]? = some o := fun hj ho => (Below.heap_setCell W _ _ _ hj).trans ho
  exact ⟨h.bel.setCell (by show w.heap.size ≤ w.heap.size + 3; omega) _, key (by omega) h.x0, key (by omega) h.x1, key (by omega) h.x2, setCell_row _ _ _ _ _ h.x3, key (by omega) h.x4⟩
end
theorem ptI_new (w : World) (c n lv : Int) : PtI w c n lv 0 false (((((w.alloc (.cells #[.int .i64 c] 2)).alloc (.cells #[.int .i64 n] 3)).alloc (.cells #[.int .i64 lv] 3)).alloc (.cells #[.bool false] 4)).alloc (.cells #[.int .i64 0] 3)) := by
  refine ⟨((((Below.refl _ w).alloc (Nat.le_refl _) _).alloc (by simp) _).alloc (by simp; try omega) _).alloc (by simp; try omega) _ |>.alloc (by simp; try omega) _, ?_, ?_, ?_, ?_, ?_⟩
  · rw [Below.heap_alloc _ _ _ (by simp; try omega), Below.heap_alloc _ _ _ (by simp; try omega), Below.heap_alloc _ _ _ (by simp; try omega), Below.heap_alloc _ _ _ (by simp)]; exact heap_alloc_new w _
  · rw [Below.heap_alloc _ _ _ (by simp; try omega), Below.heap_alloc _ _ _ (by simp; try omega), Below.heap_alloc _ _ _ (by simp)]
    have := heap_alloc_new (w.alloc (.cells #[.int .i64 c] 2)) (.cells #[.int .i64 n] 3)
    simpa using this
  · rw [Below.heap_alloc _ _ _ (by simp; try omega), Below.heap_alloc _ _ _ (by simp)]
    have := heap_alloc_new ((w.alloc (.cells #[.int .i64 c] 2)).alloc (.cells #[.int .i64 n] 3)) (.cells #[.int .i64 lv] 3)
    simpa using this
  · rw [Below.heap_alloc _ _ _ (by simp)]
    have := heap_alloc_new (((w.alloc (.cells #[.int .i64 c] 2)).alloc (.cells #[.int .i64 n] 3)).alloc (.cells #[.int .i64 lv] 3)) (.cells #[.bool false] 4)
    simpa using this
  · have := heap_alloc_new ((((w.alloc (.cells #[.int .i64 c] 2)).alloc (.cells #[.int .i64 n] 3)).alloc (.cells #[.int .i64 lv] 3)).alloc (.cells #[.bool false] 4)) (.cells #[.int .i64 0] 3)
    simpa using this
theorem parts_end {fn : Func} {tmps : Array Value} {w W : World} {D : Nat} {c n lv k : Int} (h : PtI w c n lv k true W) (hD : w.heap.size + 5 ≤ D) (hK : W.heap[D]? = some (.deferred (some [])))
    (hr : ∀ W', W'.cell? ⟨w.heap.size + 3, 0, none⟩ = some (.bool true) → (results fn tmps).run Tryd.prog W' = .ok (.bool true) W') : LeavesInM Fence.wide 9 Tryd.prog fn tmps (BelP (.bool true) w) [{ target := .collected D, args := #[] }] .returning W := by
  have h2 := h.grown (grownBy_putObj' W D (.deferred none)) (fun g e => by injection e with e; omega)
  exact ⟨by simp, .inl ⟨D, _, rfl, run_takeDeferred hK, ⟨.bool true, hr _ h2.cells.2.2.2.2.2.2, rfl, h2.bel⟩⟩⟩
set_option maxRecDepth 100000 in
set_option maxHeartbeats 8000000 in
theorem parts_any {w : World} {c n lv : Int} {b1 b2 : Nat} (hn9 : -9223372036854775808 ≤ n ∧ n ≤ 9223372036854775807) (hlv : 1 ≤ lv ∧ lv ≤ 300) (h1 : w.heap[b1]? = some (.cells #[.int .i64 c] 2 (0, 0))) (h2 : w.heap[b2]? = some (.cells #[.int .i64 n] 3 (0, 0))) :
    Calls Tryd.prog 18 #[.func (.func 45) #[] #[.pointer (some ⟨b1, 0, none⟩), .pointer (some ⟨b2, 0, none⟩)], .int .i64 c, .int .i64 n, .int .i64 lv] w (BelP (.bool true) w) := by
  have HI := hide (ptI_new w c n lv)
  have HLV := hide hlv
  have H12 := hide (And.intro h1 h2)
  have HDE := hide (fun i W => docEven_any c n i W)
  have hnf := func_nil
  clear h1 h2 hlv
  refine (callsIn_wide (n := 9)).1 ?_
  refine callsIn_of_wp_marks Tryd.func18 rfl trivial ?_ rfl
  simp only [Tryd.ntmps18, List.size_toArray, List.length_cons, List.length_nil, Nat.reduceAdd, Nat.reduceSub, Array.replicate_succ, Array.replicate_zero, List.push_toArray, List.append_toArray, List.nil_append, List.cons_append]
  gi_wp2_with fail
  simp only [Nat.add_assoc, Nat.reduceAdd]
  obtain ⟨w1, hw1⟩ : ∃ w1, w1 = ((((w.alloc (.cells #[.int .i64 c] 2)).alloc (.cells #[.int .i64 n] 3)).alloc (.cells #[.int .i64 lv] 3)).alloc (.cells #[.bool false] 4)).alloc (.cells #[.int .i64 0] 3) := ⟨_, rfl⟩
  rw [← hw1] at HI ⊢
  have hz1 : w1.heap.size = w.heap.size + 5 := by rw [hw1]; simp
  have HB1 := hide HI.out.bel
  have HB12 : Hid (b1 < w.heap.size ∧ b2 < w.heap.size) := hide ⟨lt_of_block H12.out.1, lt_of_block H12.out.2⟩
  clear hw1
  have hB12 := HB12.out
  refine wpIn_rangeSeq (α := Int × Int) (encs := encE) (E := NextE c n) (S := fun xs => xs = evL c n (evenN c n)) (Sp := fun pre => pre = evL c n pre.length ∧ pre.length ≤ evenN c n ∧ 0 < pre.length) (gf := 45) (lb := #[.pointer (some ⟨b1, 0, none⟩), .pointer (some ⟨b2, 0, none⟩)]) rfl (enters_of Tryd.func45 (by kernel_rfl) rfl) (fun j => j = w.heap.size + 3 ∨ j = w.heap.size + 4) (fun h => by omega) (fun h => by omega)
    (fun W2 hb hz => even_seq hn9 (((HB1.out.trans (hb.mono HB1.out.size)).block _ (lt_of_block H12.out.1)).trans H12.out.1) (((HB1.out.trans (hb.mono HB1.out.size)).block _ (lt_of_block H12.out.2)).trans H12.out.2) (fun h => by omega) (fun h => by omega)) (fun _ => rfl)
    (fun pre W => PtI w c n lv pre.length false W ∧ (pre.length : Int) < lv) (fun c' pre W => c' = .ret ∧ PtI w c n lv pre.length true W)
    (fun s X Y row hs hg hr => ⟨hs.1.grown hg (fun r e => by have := (hr r e).1; omega), hs.2⟩) (fun c' s X Y row hs hg hr => ⟨hs.1, hs.2.grown hg (fun r e => by have := (hr r e).1; omega)⟩) ⟨HI.out, by have := HLV.out; simp; omega⟩
    (fun x => { tmps := #[.func (.func 45) #[] #[.pointer (some ⟨b1, 0, none⟩), .pointer (some ⟨b2, 0, none⟩)], .int .i64 c, .int .i64 n, .int .i64 lv, undef, .pointer (some ⟨w.heap.size, 0, none⟩), .pointer (some ⟨w.heap.size + 1, 0, none⟩), .pointer (some ⟨w.heap.size + 2, 0, none⟩), .pointer (some ⟨w.heap.size + 3, 0, none⟩), .pointer (some ⟨w.heap.size + 4, 0, none⟩), .int .i64 x.1, .int .i64 x.2, undef, undef, undef, undef, .func (.func 45) #[] #[.pointer (some ⟨b1, 0, none⟩), .pointer (some ⟨b2, 0, none⟩)], .bool false, .func (.func 45) #[] #[.pointer (some ⟨b1, 0, none⟩), .pointer (some ⟨b2, 0, none⟩)], .int .i64 x.1, .int .i64 x.2, undef, undef, undef, undef, undef, undef, undef, undef, undef, undef, undef, undef, undef, undef, undef, undef, undef, undef, undef, undef, undef, undef, undef, undef, undef, undef, undef, undef, undef, undef, undef, undef, undef], defers := [] }) 7 ?assign ?body ?done ?stop
  case assign =>
    intro l' pre x W' K he hK
    clear he
    obtain ⟨x1, x2⟩ := x
    simp only [encE]
    gi_wp2
    exact hK
  case body =>
    rintro l' pre x Wr ⟨hpt, hpl⟩ ⟨hpre, hle, rfl⟩ hsz
    obtain ⟨k, hk⟩ : ∃ k, k = pre.length := ⟨_, rfl⟩
    have HK1 : Hid (∀ y : Int × Int, (pre ++ [y]).length = k + 1) := hide (fun y => by rw [List.length_append, ← hk]; rfl)
    rw [← hk] at hpt hpl hle ⊢
    have HPT := hide hpt
    have HPL := hide hpl
    have hin : isC c = true ∧ 0 ≤ (k : Int) ∧ (k : Int) < n := by
      unfold evenN at hle
      split at hle
      · rename_i h; exact ⟨h, by omega, by omega⟩
      · omega
    have HD := hide (fun W => HDE.out k W)
    rw [if_pos hin] at HD
    have hk0 := hin.2.1
    have hk9 : (k : Int) ≤ 300 := by have := HLV.out; omega
    generalize evenX c n k = x at *
    have exx : (x != x) = false := by simp
    have ekk : ((k : Int) != (k : Int)) = false := by simp
    obtain ⟨c0, c1, c2, c4, f4, f3, c3⟩ := hpt.cells
    clear hpt hpl hle hin hpre hk hsz
    gi_wp2_with fail
    refine ⟨trivial, (callsIn_in (HD.out _)).mono ?_⟩
    rintro _ _ ⟨rfl, rfl⟩
    rename World => Wr
    have HP1 := hide (HPT.out.seen ((k : Int) + 1))
    have HO1 : Hid (OutP (fun j => j = w.heap.size + 3 ∨ j = w.heap.size + 4) Wr (Wr.setCell ⟨w.heap.size + 4, 0, none⟩ (.int .i64 ((k : Int) + 1)))) := hide ((OutP.refl _ _).set _ (.inr rfl) _)
    obtain ⟨d0, d1, d2, d4, _, d3, _⟩ := HP1.out.cells
    by_cases hkl : (k : Int) + 1 = lv
    · have ekl : ((k : Int) + 1 == lv) = true := by rw [beq_iff_eq]; exact hkl
      have HP2 := hide (HP1.out.said true)
      have HO2 := hide (HO1.out.set ⟨w.heap.size + 3, 0, none⟩ (.inl rfl) (.bool true))
      clear hkl
      gi_wp2_with fail
      refine ⟨HO2.out, rfl, ?_⟩
      rw [HK1.out, show ((k + 1 : Nat) : Int) = (k : Int) + 1 by omega]
      exact HP2.out
    · have ekl : ((k : Int) + 1 == lv) = false := by rw [beq_eq_false_iff_ne]; exact hkl
      have HNE := hide hkl
      clear hkl
      gi_wp2_with fail
      refine ⟨HO1.out, ?_⟩
      show PtI w c n lv ((pre ++ [((k : Int), x)]).length : Nat) false _ ∧ (((pre ++ [((k : Int), x)]).length : Nat) : Int) < lv
      rw [HK1.out, show ((k + 1 : Nat) : Int) = (k : Int) + 1 by omega]
      exact ⟨HP1.out, by have := HNE.out; have := HPL.out; omega⟩
  case done =>
    rintro D xs W hD rfl ⟨hpt, _⟩ hK
    rw [evL_len] at hpt
    have HPT := hide hpt
    have HKD := hide hK
    have HD := hide (fun W => HDE.out (evenN c n : Int) W)
    have hno : ¬ (isC c = true ∧ 0 ≤ (evenN c n : Int) ∧ (evenN c n : Int) < n) := by
      rintro ⟨h1, _, h3⟩
      unfold evenN at h3
      rw [if_pos h1] at h3
      omega
    rw [if_neg hno] at HD
    obtain ⟨c0, c1, c2, c4, f4, f3, c3⟩ := hpt.cells
    generalize (evenN c n : Int) = k at *
    have HP2 := hide (HPT.out.said true)
    have hK2 : (W.setCell ⟨w.heap.size + 3, 0, none⟩ (.bool true)).heap[D]? = some (.deferred (some [])) := (Below.heap_setCell W _ _ _ (by show D ≠ w.heap.size + 3; omega)).trans hK
    have HK2 := hide hK2
    clear hpt hno hK2 hK
    gi_wp2_with fail
    refine ⟨trivial, (callsIn_wide.2 (HD.out _)).mono ?_⟩
    rintro _ _ ⟨rfl, rfl⟩
    rename World => W
    gi_wp2_with fail
    exact parts_end HP2.out (by omega) HK2.out (fun W' h => by simp [results, Tryd.results18, go_sem, h])
  case stop =>
    rintro D c' pre W hD _ ⟨rfl, hpt⟩ hK
    have HPT := hide hpt
    have HKD := hide hK
    clear hpt hK
    gi_wp2_with fail
    exact parts_end HPT.out (by omega) HKD.out (fun W' h => by simp [results, Tryd.results18, go_sem, h])
end Go.Proofs.YtgjeihgkcmheeaaDoor
