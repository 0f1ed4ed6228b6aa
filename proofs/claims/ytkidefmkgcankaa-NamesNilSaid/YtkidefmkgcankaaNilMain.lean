/- The law NamesNil: its walk. -/
import Derived.Test.YtkidefmkgcankaaNil
namespace Go.Proofs.Ytkidefmkgcankaa
open Go.RowKit Go.Shelf

attribute [local go_sem] Oper.semAt_some

set_option maxRecDepth 100000 in
set_option maxHeartbeats 4000000 in
theorem nothing_any {p : Option Addr} {w : World} (h : NoT w p) (s : ByteArray) (n : Int) : Calls Try.prog 17 #[.pointer p, .string s, .int .i64 n] w (BelowPost (.bool true) w) := by
  have HN : Hid (∀ W, Below w.heap.size w W → NoT W p) := hide (fun W hW => h.up hW)
  have HB : Hid (Below w.heap.size w (w.alloc (.cells #[.bool false] 4))) := hide ((Below.refl _ _).alloc (Nat.le_refl _) _)
  have HX : Hid ((w.alloc (.cells #[.bool false] 4)).heap[w.heap.size]? = some (.cells #[.bool false] 4 (0, 0))) := hide (heap_alloc_new w _)
  clear h
  refine (callsIn_wide (n := 3)).1 ?_
  refine callsIn_of_wp_marks Try.func17 rfl trivial ?_ rfl
  simp only [Try.ntmps17, List.size_toArray, List.length_cons, List.length_nil, Nat.reduceAdd, Nat.reduceSub, Array.replicate_succ, Array.replicate_zero, List.push_toArray, List.append_toArray, List.nil_append, List.cons_append]
  have hfe : ∀ (W : World) (b : Nat), (binOp .eql 85 (.func (.func 48) #[] #[.pointer (some ⟨b, 0, none⟩)]) .nilFunc).run Try.prog W = .ok (.bool false) W := fun _ _ => rfl
  have HS0 : Hid (w.heap.size + 1 = (w.alloc (.cells #[.bool false] 4)).heap.size) := hide (by simp)
  have ha := add_no (HN.out _ HB.out) s
  have hfi := find_no (HN.out _ HB.out) s
  have hna := name_no (HN.out _ HB.out) n
  have hsh := short_no (HN.out _ HB.out) n
  have HA := hide ha
  have HF := hide hfi
  have HNA := hide hna
  have HSH := hide hsh
  clear ha hfi hna hsh
  gi_wp2_with (first | (refine ⟨trivial, ?_⟩; gi_at_call 19; refine (callsIn_wide.2 HA.out).mono ?_; rintro e _ ⟨rfl, rfl⟩) | (refine ⟨trivial, ?_⟩; gi_at_call 22; refine (callsIn_wide.2 HF.out).mono ?_; rintro e _ ⟨rfl, rfl⟩) | (refine ⟨trivial, ?_⟩; gi_at_call 21; refine (callsIn_wide.2 HNA.out).mono ?_; rintro e _ ⟨rfl, rfl⟩) | (refine ⟨trivial, ?_⟩; gi_at_call 23; refine (callsIn_wide.2 HSH.out).mono ?_; rintro e w1 ⟨rfl, hb1⟩; have HB1 : Hid (Below w.heap.size w w1) := hide (HB.out.trans (hb1.mono HB.out.size)); have HX1 : Hid (w1.heap[w.heap.size]? = some (.cells #[.bool false] 4 (0, 0))) := hide ((hb1.block _ (lt_of_block HX.out)).trans HX.out); clear hb1) | (refine ⟨trivial, ?_⟩; gi_at_call 38; refine (callsIn_wide.2 (all_no (HN.out _ HB1.out))).mono ?_; rintro e w2 ⟨b, rfl, hc, hb2⟩; have HB2 : Hid (Below w.heap.size w w2) := hide (HB1.out.trans (hb2.mono HB1.out.size)); have HX2 : Hid (w2.heap[w.heap.size]? = some (.cells #[.bool false] 4 (0, 0))) := hide ((hb2.block _ (lt_of_block HX1.out)).trans HX1.out); have HC := hide hc; clear hb2 hc))
  have c0 : w2.cell? ⟨w.heap.size, 0, none⟩ = some (.bool false) := cell_of_row w2 w.heap.size 0 _ 4 (0, 0) HX2.out
  have f0 : w2.frozen? ⟨w.heap.size, 0, none⟩ = false := by simp [World.frozen?, HX2.out]
  have hz2 : w.heap.size < w2.heap.size := lt_of_block HX2.out
  refine wpIn_rangeFunc_ownF (α := Empty) (encs := fun x => nomatch x) (Kp := fun _ _ => True) rfl (by omega) (gf := 48) (lb := #[.pointer (some ⟨b, 0, none⟩)]) rfl trivial (enters_of Try.func48 (by kernel_rfl) rfl)
    (empty_stops _ _ b w2 HC.out) (fun _ _ => trivial) (fun _ _ _ _ _ _ _ _ => trivial) (Below.refl _ _) (fun x => nomatch x)
    (fun _ W => (W.cell? ⟨w.heap.size, 0, none⟩ = some (.bool false) ∧ W.frozen? ⟨w.heap.size, 0, none⟩ = false) ∧ Below w.heap.size w W)
    (fun _ _ _ => False)
    (OwnFrom.and (Own.from (fun s A B row hs hg hr => ⟨cell_kept hs.1 hg hr, (frozen_kept hs.1 hg hr).trans hs.2⟩) _) (ownFrom_below (Nat.le_refl _) (by omega)))
    (fun _ _ _ _ _ hs _ _ => hs)
    ⟨⟨c0, f0⟩, HB2.out⟩
    (fun x => nomatch x) ?assign ?body ?done ?stop
  case assign => exact fun _ x => nomatch x
  case body => exact fun _ _ x => nomatch x
  case done =>
    rintro D ys W hD rfl ⟨⟨hc0, hf0⟩, hB⟩ hK
    have HNW := hide (HN.out W hB)
    have HBW := hide hB
    have HKW := hide hK
    have hlt := World.block_lt_of_cell? W _ hc0
    have HC0 : Hid (∀ W', Below W.heap.size W W' → W'.cell? ⟨w.heap.size, 0, none⟩ = some (.bool false) ∧ W'.frozen? ⟨w.heap.size, 0, none⟩ = false ∧ W'.heap[D]? = some (.deferred (some [])) ∧ Below w.heap.size w W') := hide (fun W' hb => ⟨(hb.cell (p := ⟨w.heap.size, 0, none⟩) hlt).trans hc0, by
      have e := hb.block w.heap.size hlt
      unfold World.frozen? at hf0 ⊢
      simp only [e]
      exact hf0, (hb.block D (lt_of_block hK)).trans hK, hB.trans (hb.mono hB.size)⟩)
    clear hB hK
    gi_wp2_with (first | (refine ⟨trivial, ?_⟩; gi_at_call 18; refine (callsIn_wide.2 (len_no HNW.out)).mono ?_; rintro e _ ⟨rfl, rfl⟩) | (refine ⟨trivial, ?_⟩; gi_at_call 20; refine (callsIn_wide.2 (sorted_no HNW.out)).mono ?_; rintro e W1 ⟨rfl, hb1⟩; have HBA := hide hb1; have HNB := hide (HN.out W1 (HC0.out W1 hb1).2.2.2); clear hb1) | (refine ⟨trivial, ?_⟩; gi_at_call 24; refine (callsIn_wide.2 (begins_no HNB.out s)).mono ?_; rintro e W2 ⟨rfl, hb2⟩; have HBC : Hid (Below W.heap.size W W2) := hide (HBA.out.trans (hb2.mono HBA.out.size)); have HNC := hide (HN.out W2 (HC0.out W2 HBC.out).2.2.2); clear hb2) | (refine ⟨trivial, ?_⟩; gi_at_call 36; refine (callsIn_wide.2 (copy_no HNC.out)).mono ?_; rintro e _ ⟨rfl, rfl⟩; obtain ⟨z0, z1, z2, z3⟩ := HC0.out W2 HBC.out))
    have hK' := (KeepsOthers.setCell W2 ⟨w.heap.size, 0, none⟩ (.bool true)).same D _ z2 rfl
    refine ⟨by simp, .inl ⟨_, _, rfl, run_takeDeferred hK', ?_⟩⟩
    have hc5 := cell_kept (World.cell?_setCell_same' W2 ⟨w.heap.size, 0, none⟩ (.bool true) (by rw [z0]; rfl)) (grownBy_putObj' _ D (.deferred none)) (fun r e => by cases e; exact ⟨_, hK', rfl⟩)
    refine ⟨.bool true, ?_, rfl, (z3.setCell (p := ⟨w.heap.size, 0, none⟩) (Nat.le_refl _) _).trans (belowK_b (w := w) (Nat.le_refl _) _ D _ _ (by omega) hK' rfl rfl)⟩
    simp [results, Try.results17, go_sem, hc5]
  case stop =>
    rintro D c pre W _ _ h _
    exact h.elim

set_option maxRecDepth 100000 in
set_option maxHeartbeats 4000000 in
theorem namesNil_any (s : ByteArray) (n : Int) (w : World) : Calls Try.prog 5 #[.string s, .int .i64 n] w (BelowPost (.bool true) w) := by
  have HNO : Hid (∀ W : World, NoT W none) := hide (fun _ => .inl rfl)
  have HZ : Hid (∀ W : World, NoT (W.alloc (.cells #[.slice none 0 0, .map none, .int .i64 0] 53)) (some ⟨W.heap.size, 0, none⟩)) := hide (fun W => .inr ⟨_, rfl, heap_alloc_new W _⟩)
  go_enter Try.func5, Try.ntmps5
  go_wp2_with fail
  refine (new_any 3 w (by omega) (by omega)).mono ?_
  rintro e w1 ⟨p, v, m, rfl, hnt, hb1⟩
  have HB1 := hide hb1
  have HX1 := hide hnt.blk
  have HS1 := hide (same_no (HNO.out w1) (HNO.out w1))
  have HS2 := hide (same_no (HNO.out (w1.alloc (.cells #[.slice none 0 0, .map none, .int .i64 0] 53))) (HZ.out w1))
  clear hnt hb1
  go_wp2_with fail
  refine (HS1.out).mono ?_
  rintro e _ ⟨rfl, rfl⟩
  go_wp2_with fail
  refine (HS2.out).mono ?_
  rintro e _ ⟨rfl, rfl⟩
  have HB2 : Hid (Below w.heap.size w (w1.alloc (.cells #[.slice none 0 0, .map none, .int .i64 0] 53))) := hide (HB1.out.alloc HB1.out.size _)
  have HX2 : Hid ((w1.alloc (.cells #[.slice none 0 0, .map none, .int .i64 0] 53)).heap[p]? = some (.cells #[v, .map (some m), .int .i64 3] 53 (0, 0))) := hide ((Below.heap_alloc _ _ _ (lt_of_block HX1.out)).trans HX1.out)
  generalize w1.alloc (.cells #[.slice none 0 0, .map none, .int .i64 0] 53) = w2 at *
  have HQ : Hid (Calls Try.prog 39 #[.pointer (some ⟨p, 0, none⟩)] w2 (NonePost false w2)) := hide (none_any p (some m) w2 (cell_of_row w2 p 1 _ 53 (0, 0) HX2.out))
  have HS3 := hide (same_one (HNO.out w2) HQ.out)
  have HS4 := hide (same_two (HNO.out w2) HQ.out)
  have HN1 := hide (nothing_any (HNO.out w2) s n)
  go_wp2_with fail
  refine (HS3.out).mono ?_
  rintro e _ ⟨rfl, rfl⟩
  go_wp2_with fail
  refine (HS4.out).mono ?_
  rintro e _ ⟨rfl, rfl⟩
  go_wp2_with fail
  refine (HN1.out).mono ?_
  rintro e w3 ⟨rfl, hb3⟩
  have HB3 : Hid (Below w.heap.size w w3) := hide (HB2.out.trans (hb3.mono HB2.out.size))
  have HN2 := hide (nothing_any (HZ.out w3) s n)
  clear hb3
  go_wp2_with fail
  refine (HN2.out).mono ?_
  rintro e w4 ⟨rfl, hb4⟩
  have HB4 : Hid (Below w.heap.size w w4) := hide ((HB3.out.alloc HB3.out.size _).trans (hb4.mono (by have := HB3.out.size; simp; omega)))
  clear hb4
  go_wp2_with fail
  refine (known_any w4).mono ?_
  rintro e w5 ⟨rfl, hb5⟩
  go_wp2_with fail
  go_ret
  exact ⟨rfl, HB4.out.trans (hb5.mono HB4.out.size)⟩
end Go.Proofs.Ytkidefmkgcankaa
