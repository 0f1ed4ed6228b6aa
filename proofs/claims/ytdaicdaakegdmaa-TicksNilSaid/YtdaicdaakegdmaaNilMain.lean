/- The law TicksNil: its walk. -/
import Derived.Test.YtdaicdaakegdmaaNil
namespace Go.Proofs.Ytdaicdaakegdmaa
open Go.RowKit Go.Shelf

attribute [local go_sem] Oper.semAt_some

set_option maxRecDepth 100000 in
set_option maxHeartbeats 4000000 in
theorem nothing_any {p : Option Addr} {w : World} (h : NoT w p) (n t : Int) : Calls Try.prog 23 #[.pointer p, .int .i64 n, .int .i64 t] w (ValB (.bool true) w) := by
  have HN : Hid (∀ W, Below w.heap.size w W → NoT W p) := hide (fun W hW => h.up hW)
  have HB : Hid (Below w.heap.size w (w.alloc (.cells #[.bool false] 4))) := hide ((Below.refl _ _).alloc (Nat.le_refl _) _)
  have HX : Hid ((w.alloc (.cells #[.bool false] 4)).heap[w.heap.size]? = some (.cells #[.bool false] 4 (0, 0))) := hide (heap_alloc_new w _)
  clear h
  refine (callsIn_wide (n := 3)).1 ?_
  refine callsIn_of_wp_marks Try.func23 rfl trivial ?_ rfl
  simp only [Try.ntmps23, List.size_toArray, List.length_cons, List.length_nil, Nat.reduceAdd, Nat.reduceSub, Array.replicate_succ, Array.replicate_zero, List.push_toArray, List.append_toArray, List.nil_append, List.cons_append]
  have hfe : ∀ (W : World) (b : Nat), (binOp .eql 42 (.func (.func 37) #[] #[.pointer (some ⟨b, 0, none⟩)]) .nilFunc).run Try.prog W = .ok (.bool false) W := fun _ _ => rfl
  have HA := hide (at_no (HN.out _ HB.out) n)
  have HU := hide (upto_no (HN.out _ HB.out) t)
  have HNX := hide (next_no (HN.out _ HB.out))
  gi_wp2_with (first | (refine ⟨trivial, ?_⟩; gi_at_call 40; refine (callsIn_wide.2 HA.out).mono ?_; rintro e _ ⟨rfl, rfl⟩) | (refine ⟨trivial, ?_⟩; gi_at_call 10; refine (callsIn_wide.2 HU.out).mono ?_; rintro e _ ⟨rfl, rfl⟩) | (refine ⟨trivial, ?_⟩; gi_at_call 12; refine (callsIn_wide.2 HNX.out).mono ?_; rintro e w1 ⟨rfl, hb1⟩; have HB1 : Hid (Below w.heap.size w w1) := hide (HB.out.trans (hb1.mono HB.out.size)); have HX1 : Hid (w1.heap[w.heap.size]? = some (.cells #[.bool false] 4 (0, 0))) := hide ((hb1.block _ (lt_of_block HX.out)).trans HX.out); clear hb1))
  have HD2 : Hid ((w1.alloc (.cells #[.int .i64 0, .int .i64 0] 30)).heap[w1.heap.size]? = some (.cells #[.int .i64 0, .int .i64 0] 30 (0, 0))) := hide (heap_alloc_new w1 _)
  have HB2 : Hid (Below w.heap.size w (w1.alloc (.cells #[.int .i64 0, .int .i64 0] 30))) := hide (HB1.out.alloc HB1.out.size _)
  have HX2 : Hid ((w1.alloc (.cells #[.int .i64 0, .int .i64 0] 30)).heap[w.heap.size]? = some (.cells #[.bool false] 4 (0, 0))) := hide ((Below.heap_alloc _ _ _ (lt_of_block HX1.out)).trans HX1.out)
  generalize hq : w1.heap.size = q at *
  generalize w1.alloc (.cells #[.int .i64 0, .int .i64 0] 30) = w2 at *
  gi_wp2_with (refine ⟨trivial, ?_⟩; gi_at_call 15; refine (callsIn_wide.2 (all_no (HN.out _ HB2.out))).mono ?_; rintro e w3 ⟨b, rfl, hc, hb3⟩; have HB3 : Hid (Below w.heap.size w w3) := hide (HB2.out.trans (hb3.mono HB2.out.size)); have HX3 : Hid (w3.heap[w.heap.size]? = some (.cells #[.bool false] 4 (0, 0))) := hide ((hb3.block _ (lt_of_block HX2.out)).trans HX2.out); have HD3 : Hid (w3.heap[q]? = some (.cells #[.int .i64 0, .int .i64 0] 30 (0, 0))) := hide ((hb3.block _ (lt_of_block HD2.out)).trans HD2.out); have HC := hide hc; clear hb3 hc)
  have c0 : w3.cell? ⟨w.heap.size, 0, none⟩ = some (.bool false) := cell_of_row w3 w.heap.size 0 _ 4 (0, 0) HX3.out
  have f0 : w3.frozen? ⟨w.heap.size, 0, none⟩ = false := by simp [World.frozen?, HX3.out]
  have c1 : w3.cell? ⟨q, 0, none⟩ = some (.int .i64 0) := cell_of_row w3 q 0 _ 30 (0, 0) HD3.out
  have c2 : w3.cell? ⟨q, 1, none⟩ = some (.int .i64 0) := cell_of_row w3 q 1 _ 30 (0, 0) HD3.out
  have hz2 : w.heap.size < w3.heap.size := lt_of_block HX3.out
  refine wpIn_rangeFunc_ownF (α := Empty) (encs := fun x => nomatch x) (Kp := fun _ _ => True) rfl (by omega) (gf := 37) (lb := #[.pointer (some ⟨b, 0, none⟩)]) rfl trivial (enters_of Try.func37 (by kernel_rfl) rfl)
    (empty_stops _ _ b w3 HC.out) (fun _ _ => trivial) (fun _ _ _ _ _ _ _ _ => trivial) (Below.refl _ _) (fun x => nomatch x)
    (fun _ W => ((W.cell? ⟨w.heap.size, 0, none⟩ = some (.bool false) ∧ W.frozen? ⟨w.heap.size, 0, none⟩ = false) ∧ W.cell? ⟨q, 0, none⟩ = some (.int .i64 0) ∧ W.cell? ⟨q, 1, none⟩ = some (.int .i64 0)) ∧ Below w.heap.size w W)
    (fun _ _ _ => False)
    (OwnFrom.and (Own.from (fun s A B row hs hg hr => ⟨⟨cell_kept hs.1.1 hg hr, (frozen_kept hs.1.1 hg hr).trans hs.1.2⟩, cell_kept hs.2.1 hg hr, cell_kept hs.2.2 hg hr⟩) _) (ownFrom_below (Nat.le_refl _) (by omega)))
    (fun _ _ _ _ _ hs _ _ => hs)
    ⟨⟨⟨c0, f0⟩, c1, c2⟩, HB3.out⟩
    (fun x => nomatch x) ?assign ?body ?done ?stop
  case assign => exact fun _ x => nomatch x
  case body => exact fun _ _ x => nomatch x
  case done =>
    rintro D ys W hD rfl ⟨⟨⟨hc0, hf0⟩, hc1, hc2⟩, hB⟩ hK
    have HNW := hide (HN.out W hB)
    gi_wp2_with (first | (refine ⟨trivial, ?_⟩; gi_at_call 9; refine (callsIn_wide.2 (set_no HNW.out n t)).mono ?_; rintro e _ ⟨rfl, rfl⟩) | (refine ⟨trivial, ?_⟩; gi_at_call 16; refine (callsIn_wide.2 (drop_no HNW.out n)).mono ?_; rintro e _ ⟨rfl, rfl⟩) | (refine ⟨trivial, ?_⟩; gi_at_call 24; refine (callsIn_wide.2 (now_no HNW.out)).mono ?_; rintro e _ ⟨rfl, rfl⟩) | (refine ⟨trivial, ?_⟩; gi_at_call 11; refine (callsIn_wide.2 (len_no HNW.out)).mono ?_; rintro e _ ⟨rfl, rfl⟩) | (refine ⟨trivial, ?_⟩; gi_at_call 19; refine (callsIn_wide.2 (copy_no HNW.out)).mono ?_; rintro e _ ⟨rfl, rfl⟩))
    have hK' := (KeepsOthers.setCell W ⟨w.heap.size, 0, none⟩ (.bool true)).same D _ hK rfl
    refine ⟨by simp, .inl ⟨_, _, rfl, run_takeDeferred hK', ?_⟩⟩
    have hc5 := cell_kept (World.cell?_setCell_same' W ⟨w.heap.size, 0, none⟩ (.bool true) (by rw [hc0]; rfl)) (grownBy_putObj' _ D (.deferred none)) (fun r e => by cases e; exact ⟨_, hK', rfl⟩)
    refine ⟨.bool true, ?_, rfl, (hB.setCell (p := ⟨w.heap.size, 0, none⟩) (Nat.le_refl _) _).trans (belowK_b (w := w) (Nat.le_refl _) _ D _ _ (by omega) hK' rfl rfl)⟩
    simp [results, Try.results23, go_sem, hc5]
  case stop =>
    rintro D c pre W _ _ h _
    exact h.elim

set_option maxRecDepth 100000 in
set_option maxHeartbeats 4000000 in
theorem ticksNil_any (n t : Int) (w : World) : Calls Try.prog 6 #[.int .i64 n, .int .i64 t] w (ValB (.bool true) w) := by
  have HN1 := hide (nothing_any (p := none) (w := w) (.inl rfl) n t)
  go_enter Try.func6, Try.ntmps6
  go_wp2_with fail
  refine (HN1.out).mono ?_
  rintro e w3 ⟨rfl, hb3⟩
  have HB3 := hide hb3
  have HN2 := hide (nothing_any (p := some ⟨w3.heap.size, 0, none⟩) (w := w3.alloc (.cells #[.int .i64 0, .pointer none, .map none] 68)) (.inr ⟨_, rfl, heap_alloc_new w3 _⟩) n t)
  clear hb3
  go_wp2_with fail
  refine (HN2.out).mono ?_
  rintro e w4 ⟨rfl, hb4⟩
  have HB4 : Hid (Below w.heap.size w w4) := hide ((HB3.out.alloc HB3.out.size _).trans (hb4.mono (by have := HB3.out.size; simp; omega)))
  clear hb4
  go_wp2_with fail
  refine (known_any w4).mono ?_
  rintro e w5 ⟨rfl, hb5⟩
  go_wp2_with fail
  go_ret
  exact ⟨rfl, HB4.out.trans (hb5.mono HB4.out.size)⟩
end Go.Proofs.Ytdaicdaakegdmaa
