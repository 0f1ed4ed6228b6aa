/- The walk of gavellaw08.goes where nothing comes. -/
import Derived.Test.YtkiebjgpghajbaaDoorGoes

namespace Go.Proofs.YtkiebjgpghajbaaDoor
open Go.RowKit Go.Shelf

attribute [local go_sem] Oper.semAt_some

theorem four (w : World) (o0 o1 o2 o3 : Obj) :
    ((((w.alloc o0).alloc o1).alloc o2).alloc o3).heap[w.heap.size + 1 + 1 + 1]? = some o3 ∧ ((((w.alloc o0).alloc o1).alloc o2).alloc o3).heap.size = w.heap.size + 4 := by
  refine ⟨?_, by simp⟩
  have := heap_alloc_new (((w.alloc o0).alloc o1).alloc o2) o3
  simpa using this

set_option maxRecDepth 100000 in
set_option maxHeartbeats 8000000 in
theorem goes_bad {n : Int} (hn : n < 1 ∨ 10 < n) (l : List Offer) (b1 b2 : Nat) (A : Option Addr) (m c : Nat) (q : Int) (w : World) (hb1 : w.heap[b1]? = some (.cells #[.int .i64 n] 3 (0, 0))) :
    Calls Tryd.prog 15 #[.func (.func 45) #[] #[.pointer (some ⟨b1, 0, none⟩), .pointer (some ⟨b2, 0, none⟩)], .int .i64 n, .slice A m c, .int .i64 q] w (ValPost (.bool true) w) := by
  have hfn := func_nil (.func 45) #[] #[.pointer (some ⟨b1, 0, none⟩), .pointer (some ⟨b2, 0, none⟩)]
  have hcs : (decide (n < 1) = true) ∨ (decide (n < 1) = false ∧ decide (10 < n) = true) := by
    by_cases h : n < 1
    · exact .inl (by simpa using h)
    · exact .inr ⟨by simpa using h, by simpa using (by omega : 10 < n)⟩
  have HNB := hide hn
  have HN4 := hide (four w (.cells #[.int .i64 n] 3) (.cells #[.slice A m c] 22) (.cells #[.int .i64 q] 3) (.cells #[.bool false] 4))
  have HB4 : Hid (Below w.heap.size w ((((w.alloc (.cells #[.int .i64 n] 3)).alloc (.cells #[.slice A m c] 22)).alloc (.cells #[.int .i64 q] 3)).alloc (.cells #[.bool false] 4))) := hide ((((Below.refl _ _).alloc (Nat.le_refl _) _).alloc (by simp) _).alloc (by simp; omega) _ |>.alloc (by simp; omega) _)
  have HB1 := hide hb1
  clear hb1 hn
  refine (callsIn_wide (n := 9)).1 ?_
  refine callsIn_of_wp_marks Tryd.func15 rfl trivial ?_ rfl
  simp only [Tryd.ntmps15, List.size_toArray, List.length_cons, List.length_nil, Nat.reduceAdd, Nat.reduceSub, Array.replicate_succ, Array.replicate_zero, List.push_toArray, List.append_toArray, List.nil_append, List.cons_append]
  rcases hcs with h1 | ⟨h1, h2⟩
  all_goals
    gi_wp2_with fail
    obtain ⟨hq3, hz4⟩ := HN4.out
    have HQ3 := hide hq3
    clear hq3 HN4
    generalize (((w.alloc (.cells #[.int .i64 n] 3)).alloc (.cells #[.slice A m c] 22)).alloc (.cells #[.int .i64 q] 3)).alloc (.cells #[.bool false] 4) = w4 at *
    refine wpIn_rangeSeq (α := Nat) (encs := encW l) (gf := 45) (lb := #[.pointer (some ⟨b1, 0, none⟩), .pointer (some ⟨b2, 0, none⟩)]) rfl (enters_of Tryd.func45 (by kernel_rfl) rfl) (fun _ => False) (fun h => h) (fun h => h)
      (fun W2 hb hz => worths_bad (l := l) HNB.out ((hb.block _ (by have := lt_of_block HB1.out; have := HB4.out.size; omega)).trans ((HB4.out.block _ (lt_of_block HB1.out)).trans HB1.out))) (fun _ => rfl)
      (fun _ W' => Below w.heap.size w W' ∧ W'.heap[w.heap.size + 1 + 1 + 1]? = some (.cells #[.bool false] 4 (0, 0))) (fun _ _ _ => False)
      (fun s X Y row hs hg hr => ⟨hs.1.grown hg hs.1.size (fun r e => by have := (hr r e).1; omega), (hg.block _ (lt_of_block hs.2) (fun e => by have := (hr _ e.symm).1; omega)).trans hs.2⟩) (fun _ _ _ _ _ hs _ _ => hs) ⟨HB4.out, HQ3.out⟩
      (fun _ => { tmps := #[], defers := [] }) 7 ?assign ?body ?done ?stop
    case assign => exact fun _ _ _ _ _ he _ => he.elim
    case body => exact fun _ _ _ _ _ he _ => he.elim
    case done =>
      rintro D xs W' hD _ ⟨hb, hb3⟩ hK
      have d3 := cell_of_row W' _ 0 _ _ (0, 0) hb3
      have f3 := frozen_of_row W' _ 0 _ _ hb3
      have HBT : Hid ((W'.setCell ⟨w.heap.size + 1 + 1 + 1, 0, none⟩ (.bool true)).heap[w.heap.size + 1 + 1 + 1]? = some (.cells #[.bool true] 4 (0, 0))) := hide (setCell_block hb3 0 _)
      have HKF : Hid ((W'.setCell ⟨w.heap.size + 1 + 1 + 1, 0, none⟩ (.bool true)).heap[D]? = some (.deferred (some []))) := hide ((Below.heap_setCell _ _ _ _ (by show D ≠ w.heap.size + 1 + 1 + 1; omega)).trans hK)
      have HBF : Hid (Below w.heap.size w (W'.setCell ⟨w.heap.size + 1 + 1 + 1, 0, none⟩ (.bool true))) := hide (hb.setCell (by show w.heap.size ≤ w.heap.size + 1 + 1 + 1; omega) _)
      clear hb hb3 hK
      gi_wp2
      exact goes_end (by omega) HKF.out HBF.out HBT.out (fun W' h => by simp [results, Tryd.results15, go_sem, h])
    case stop => exact fun _ _ _ _ _ _ h => h.elim
end Go.Proofs.YtkiebjgpghajbaaDoor
