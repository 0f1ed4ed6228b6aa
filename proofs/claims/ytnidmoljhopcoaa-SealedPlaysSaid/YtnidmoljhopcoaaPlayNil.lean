/- The walk of gavellaw11.nothing: a nil box, a zero one. -/
import Derived.Test.YtnidmoljhopcoaaPlayGoes
namespace Go.Proofs.Ytnidmoljhopcoaa
open Go.RowKit Go.Shelf

attribute [local go_sem] Oper.semAt_some

/-- No box: nil, or a zero one. -/
def IsNo (a : Option Addr) (w : World) : Prop := a = none ∨ ∃ q, a = some ⟨q, 0, none⟩ ∧ w.heap[q]? = some (.cells #[.bool false, .int .i64 0, .slice none 0 0] 60 (0, 0))
theorem IsNo.below {a : Option Addr} {w w' : World} (h : IsNo a w) (hb : Below w.heap.size w w') : IsNo a w' := by
  rcases h with h | ⟨q, h, hq⟩
  · exact .inl h
  · exact .inr ⟨q, h, (hb.block q (lt_of_block hq)).trans hq⟩
theorem IsNo.out {p : Nat → Prop} {a : Option Addr} {w w' : World} (h : IsNo a w) (hb : OutP p w w') (hp : ∀ k, p k → w.heap.size ≤ k) : IsNo a w' := by
  rcases h with h | ⟨q, h, hq⟩
  · exact .inl h
  · exact .inr ⟨q, h, (hb.block q (lt_of_block hq) (fun e => by have := hp _ e; have := lt_of_block hq; omega)).trans hq⟩
theorem none_no (a : Option Addr) (w : World) (h : IsNo a w) : Calls Try.prog 36 #[.pointer a] w (BoolPost true w) := by
  rcases h with rfl | ⟨q, rfl, hq⟩
  · exact none_nil w
  · exact none_any q false w (cell_of_row w q 0 _ _ (0, 0) hq)

set_option maxHeartbeats 1000000 in
theorem len_no (a : Option Addr) (w : World) (h : IsNo a w) : Calls Try.prog 13 #[.pointer a] w (NumPost 0 w) := by
  have HN := hide (none_no a w h)
  clear h
  go_enter Try.func13, Try.ntmps13
  go_wp2_with fail
  refine (HN.out).mono ?_
  rintro e _ ⟨rfl, rfl⟩
  go_wp2
  go_ret
  exact ⟨rfl, rfl⟩
set_option maxHeartbeats 1000000 in
theorem drop_no (a : Option Addr) (n : Int) (w : World) (h : IsNo a w) : Calls Try.prog 30 #[.pointer a, .int .i64 n] w (NumPost 1 w) := by
  have HN := hide (none_no a w h)
  clear h
  go_enter Try.func30, Try.ntmps30
  go_wp2_with fail
  refine (HN.out).mono ?_
  rintro e _ ⟨rfl, rfl⟩
  go_wp2
  go_ret
  exact ⟨rfl, rfl⟩
set_option maxHeartbeats 1000000 in
theorem bid_no (a : Option Addr) (n c : Int) (w : World) (h : IsNo a w) : Calls Try.prog 23 #[.pointer a, .int .i64 n, .int .i64 c] w (NumPost 1 w) := by
  have HN := hide (none_no a w h)
  clear h
  go_enter Try.func23, Try.ntmps23
  go_wp2_with fail
  refine (HN.out).mono ?_
  rintro e _ ⟨rfl, rfl⟩
  go_wp2
  go_ret
  exact ⟨rfl, rfl⟩
def PtrPost (a : Option Addr) (w : World) (e : Ending) (w' : World) : Prop := e = .returned (.pointer a) ∧ w = w'
set_option maxHeartbeats 1000000 in
theorem copy_no (a : Option Addr) (w : World) (h : IsNo a w) : Calls Try.prog 35 #[.pointer a] w (PtrPost none w) := by
  have HN := hide (none_no a w h)
  clear h
  go_enter Try.func35, Try.ntmps35
  go_wp2_with fail
  refine (HN.out).mono ?_
  rintro e _ ⟨rfl, rfl⟩
  go_wp2
  go_ret
  exact ⟨rfl, rfl⟩
set_option maxHeartbeats 1000000 in
theorem of_no (a : Option Addr) (n : Int) (w : World) (h : IsNo a w) : Calls Try.prog 32 #[.pointer a, .int .i64 n] w (ValPost (.tuple #[.int .i64 0, .bool false]) w) := by
  have HN := hide (none_no a w h)
  clear h
  go_enter Try.func32, Try.ntmps32
  go_wp2_with fail
  refine (HN.out).mono ?_
  rintro e _ ⟨rfl, rfl⟩
  go_wp2
  refine bodyPost_ret (v := .tuple #[.int .i64 0, .bool false]) (by simp [results, Try.results32, go_sem]) rfl ?_
  exact ⟨rfl, Below.refl _ _⟩
set_option maxHeartbeats 1000000 in
theorem sell_no (a : Option Addr) (w : World) (h : IsNo a w) : Calls Try.prog 24 #[.pointer a] w (ValPost (.tuple #[.agg #[.bool false, .int .i64 0, .int .i64 0, .int .i64 0], .int .i64 1]) w) := by
  have HN := hide (fun ob : Obj => none_no a (w.alloc ob) (h.below ((Below.refl _ _).alloc (Nat.le_refl _) ob)))
  clear h
  go_enter Try.func24, Try.ntmps24
  go_wp2_with fail
  refine (HN.out _).mono ?_
  rintro e _ ⟨rfl, rfl⟩
  go_wp2
  refine bodyPost_ret (v := .tuple #[.agg #[.bool false, .int .i64 0, .int .i64 0, .int .i64 0], .int .i64 1]) (by simp [results, Try.results24, go_sem]) rfl ?_
  refine ⟨rfl, ?_⟩
  repeat (refine Below.setCell ?_ (by exact Nat.le_refl _) _)
  exact (Below.refl _ _).alloc (Nat.le_refl _) _

set_option maxRecDepth 100000 in
set_option maxHeartbeats 2000000 in
theorem none_seq {a : Option Addr} {bc : Nat} {p : Nat → Prop} {W : World} (hc : W.heap[bc]? = some (.cells #[.pointer a] 39 (0, 0))) (hno : IsNo a W) :
    SeqO p Try.prog 37 #[.pointer (some ⟨bc, 0, none⟩)] encB (fun xs => xs = []) (fun pre => False) (fun _ _ => False) W := by
  intro L J Jx hJ hJx hY h0
  have c0 := cell_of_row W bc 0 _ _ (0, 0) hc
  simp at c0
  have HN := hide (none_no a W hno)
  have H0 := hide h0
  clear hY hJ hJx h0 hc hno
  refine (callsIn_wide (n := 4)).1 ?_
  refine callsIn_of_wp Try.func37 rfl trivial ?_ rfl
  simp only [Try.ntmps37, List.size_toArray, List.length_cons, List.length_nil, Nat.reduceAdd, Nat.reduceSub, Array.replicate_succ, Array.replicate_zero, List.push_toArray, List.append_toArray, List.nil_append, List.cons_append]
  gi_wp2_with fail
  refine ⟨trivial, (callsIn_wide.2 HN.out).mono ?_⟩
  rintro e _ ⟨rfl, rfl⟩
  gi_wp2
  refine bodyPost_ret (results_none rfl _ _ _) rfl ?_
  exact ⟨⟨_, rfl⟩, .inl ⟨_, rfl, H0.out⟩⟩

set_option maxRecDepth 100000 in
set_option maxHeartbeats 4000000 in
theorem nothing_any (a : Option Addr) (w : World) (hno : IsNo a w) : Calls Try.prog 16 #[.pointer a] w (ValPost (.bool true) w) := by
  refine (callsIn_wide (n := 9)).1 ?_
  refine callsIn_of_wp_marks Try.func16 rfl trivial ?_ rfl
  simp only [Try.ntmps16, List.size_toArray, List.length_cons, List.length_nil, Nat.reduceAdd, Nat.reduceSub, Array.replicate_succ, Array.replicate_zero, List.push_toArray, List.append_toArray, List.nil_append, List.cons_append]
  have hfn := func_eq_nil (.func 37) #[]
  have HALL := hide (fun W => all_any a W)
  have HNO := hide hno
  clear hno
  gi_wp2_with fail
  refine ⟨trivial, (callsIn_wide.2 (HALL.out _)).mono ?_⟩
  rintro e _ ⟨rfl, rfl⟩
  have hz2 : ((w.alloc (.cells #[.bool false] 4)).alloc (.cells #[.pointer a] 39)).heap.size = w.heap.size + 2 := by simp
  have HB2 : Hid (Below w.heap.size w ((w.alloc (.cells #[.bool false] 4)).alloc (.cells #[.pointer a] 39))) := hide (((Below.refl _ _).alloc (Nat.le_refl _) _).alloc (by simp) _)
  have HK0 : Hid (((w.alloc (.cells #[.bool false] 4)).alloc (.cells #[.pointer a] 39)).heap[w.heap.size]? = some (.cells #[.bool false] 4 (0, 0))) := hide (by rw [Below.heap_alloc _ _ _ (by simp)]; exact heap_alloc_new w _)
  have HK1 : Hid (((w.alloc (.cells #[.bool false] 4)).alloc (.cells #[.pointer a] 39)).heap[w.heap.size + 1]? = some (.cells #[.pointer a] 39 (0, 0))) := hide (by
    have := heap_alloc_new (w.alloc (.cells #[.bool false] 4)) (.cells #[.pointer a] 39)
    simpa using this)
  gi_wp2_with fail
  have HFR : Hid (∀ W : World, W.heap[w.heap.size]? = some (.cells #[.bool false] 4 (0, 0)) → W.cell? ⟨w.heap.size, 0, none⟩ = some (.bool false) ∧ W.frozen? ⟨w.heap.size, 0, none⟩ = false) := hide (fun W h => ⟨cell_of_row W _ 0 _ _ (0, 0) h, frozen_of_row W _ 0 _ _ h⟩)
  clear hfn
  generalize (w.alloc (.cells #[.bool false] 4)).alloc (.cells #[.pointer a] 39) = w2 at *
  refine wpIn_rangeSeq (α := Int × Int) (encs := encB) (gf := 37) (lb := #[.pointer (some ⟨w.heap.size + 1, 0, none⟩)]) rfl (enters_of Try.func37 (by kernel_rfl) rfl) (fun _ => False) id id
    (fun W2 hb hz => none_seq (a := a) (bc := w.heap.size + 1) ((hb.block _ (by omega)).trans HK1.out) ((HNO.out.below HB2.out).below hb)) (fun _ => rfl)
    (fun pre W' => Below w.heap.size w W' ∧ W'.heap[w.heap.size]? = some (.cells #[.bool false] 4 (0, 0))) (fun c' pre W' => False)
    (fun s X Y row hs hg hr => ⟨hs.1.grown hg hs.1.size (fun r e => by have := (hr r e).1; omega), (hg.block _ (lt_of_block hs.2) (fun e => by have := (hr _ e.symm).1; omega)).trans hs.2⟩) (fun c' s X Y row hs hg hr => hs) ⟨HB2.out, HK0.out⟩
    (fun x => { tmps := #[], defers := [] }) 7 ?assign ?body ?done ?stop
  case assign => exact fun _ _ _ _ _ h _ => h.elim
  case body => exact fun _ _ _ _ _ h _ => h.elim
  case done =>
    rintro D ys W hD rfl ⟨hB, hX⟩ hK
    have HBW := hide hB
    have HXW := hide hX
    have HKW := hide hK
    have HNW := hide (HNO.out.below hB)
    clear hB hX hK
    gi_wp2_with fail
    refine ⟨trivial, (callsIn_wide.2 (of_no a 0 W HNW.out)).mono ?_⟩
    rintro e W3 ⟨rfl, hb3⟩
    have HB3 := hide hb3
    clear hb3
    gi_wp2_with fail
    refine ⟨trivial, (callsIn_wide.2 (sell_no a _ (HNW.out.below HB3.out))).mono ?_⟩
    rintro e W4 ⟨rfl, hb4⟩
    have HB4 : Hid (Below W.heap.size W W4) := hide (HB3.out.trans (hb4.mono HB3.out.size))
    have HB5 : Hid (Below W.heap.size W (W4.alloc (.cells #[.bool false, .int .i64 0, .int .i64 0, .int .i64 0] 27))) := hide (HB4.out.alloc HB4.out.size _)
    have HN5 := hide (HNW.out.below HB5.out)
    have hx5 := HFR.out _ ((HB5.out.block _ (lt_of_block HXW.out)).trans HXW.out)
    obtain ⟨c5, f5⟩ := hx5
    clear hb4
    gi_wp2_with (first | (refine ⟨trivial, ?_⟩; gi_at_call 23; refine (callsIn_wide.2 (bid_no a _ _ _ HN5.out)).mono ?_; rintro e _ ⟨rfl, rfl⟩) | (refine ⟨trivial, ?_⟩; gi_at_call 30; refine (callsIn_wide.2 (drop_no a _ _ HN5.out)).mono ?_; rintro e _ ⟨rfl, rfl⟩) | (refine ⟨trivial, ?_⟩; gi_at_call 13; refine (callsIn_wide.2 (len_no a _ HN5.out)).mono ?_; rintro e _ ⟨rfl, rfl⟩) | (refine ⟨trivial, ?_⟩; gi_at_call 35; refine (callsIn_wide.2 (copy_no a _ HN5.out)).mono ?_; rintro e _ ⟨rfl, rfl⟩) | (refine ⟨trivial, ?_⟩; gi_at_call 8; refine (callsIn_wide.2 (num_any _ _)).mono ?_; rintro e _ ⟨rfl, rfl⟩))
    have hK5 : (W4.alloc (.cells #[.bool false, .int .i64 0, .int .i64 0, .int .i64 0] 27)).heap[D]? = some (.deferred (some [])) := (HB5.out.block _ (lt_of_block HKW.out)).trans HKW.out
    have hK' := (KeepsOthers.setCell (W4.alloc (.cells #[.bool false, .int .i64 0, .int .i64 0, .int .i64 0] 27)) ⟨w.heap.size, 0, none⟩ (.bool true)).same D _ hK5 rfl
    refine ⟨by simp, .inl ⟨_, _, rfl, run_takeDeferred hK', ?_⟩⟩
    have hX5 := (HB5.out.block _ (lt_of_block HXW.out)).trans HXW.out
    have hc5 := cell_kept (World.cell?_setCell_same' _ ⟨w.heap.size, 0, none⟩ (.bool true) (by rw [c5]; rfl)) (grownBy_putObj' _ D (.deferred none)) (fun r e => by cases e; exact ⟨_, hK', rfl⟩)
    refine ⟨.bool true, ?_, rfl, ?_⟩
    · simp [results, Try.results16, go_sem, hc5]
    · exact ((HBW.out.trans (HB5.out.mono HBW.out.size)).setCell (p := ⟨w.heap.size, 0, none⟩) (Nat.le_refl _) _).grown (grownBy_putObj' _ D _) (by have := HBW.out.size; have := HB5.out.size; simp [World.setCell] at *; omega) (fun k e => by injection e with e; omega)
  case stop =>
    rintro D c pre W _ h _ _
    exact h.elim
end Go.Proofs.Ytnidmoljhopcoaa
