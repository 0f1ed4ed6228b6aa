/- Calendars that are not there, and zero ones: what each method of ticks.Ticks answers. -/
import Derived.Test.YtdaicdaakegdmaaKno
import Derived.RangeFuncNested
import Derived.RangeFuncBound
import Derived.RangeFuncCalls
import Derived.RangeFuncLeaves
import Derived.RangeFuncFrom
import Derived.Shelf.Abstract
import Derived.Shelf.RegionOpen
import Derived.WalkKit
import Derived.OwnWalkIn
import Derived.TacticsInMore
import Derived.LoopNIn
import Derived.LoopIn
namespace Go.Proofs.Ytdaicdaakegdmaa
open Go.RowKit Go.Shelf

attribute [local go_sem] Oper.semAt_some

/-- No calendar. -/
def NoT (W : World) (p : Option Addr) : Prop := p = none ∨ ∃ b, p = some ⟨b, 0, none⟩ ∧ W.heap[b]? = some (.cells #[.int .i64 0, .pointer none, .map none] 68 (0, 0))
theorem NoT.up {W W' : World} {p : Option Addr} (h : NoT W p) (hb : Below W.heap.size W W') : NoT W' p := by
  rcases h with h | ⟨b, h1, h2⟩
  · exact .inl h
  · exact .inr ⟨b, h1, (hb.block _ (lt_of_block h2)).trans h2⟩
theorem none_yes {p : Option Addr} {w : World} (h : NoT w p) : Calls Try.prog 25 #[.pointer p] w (SameP (.bool true) w) := by
  rcases h with rfl | ⟨b, rfl, h⟩
  · exact none_nil w
  · exact none_any b none w (cell_of_row w b 1 _ 68 (0, 0) h)
set_option maxHeartbeats 1000000 in
theorem len_no {p : Option Addr} {w : World} (h : NoT w p) : Calls Try.prog 11 #[.pointer p] w (SameP (.int .i64 0) w) := by
  have HN := hide (none_yes h)
  clear h
  go_enter Try.func11, Try.ntmps11
  go_wp2_with (go_at_call 25; refine (HN.out).mono ?_; rintro e _ ⟨rfl, rfl⟩)
  go_ret
  exact ⟨rfl, rfl⟩
set_option maxHeartbeats 1000000 in
theorem now_no {p : Option Addr} {w : World} (h : NoT w p) : Calls Try.prog 24 #[.pointer p] w (SameP (.int .i64 0) w) := by
  have HN := hide (none_yes h)
  clear h
  go_enter Try.func24, Try.ntmps24
  go_wp2_with (go_at_call 25; refine (HN.out).mono ?_; rintro e _ ⟨rfl, rfl⟩)
  go_ret
  exact ⟨rfl, rfl⟩
set_option maxHeartbeats 1000000 in
theorem set_no {p : Option Addr} {w : World} (h : NoT w p) (n t : Int) : Calls Try.prog 9 #[.pointer p, .int .i64 n, .int .i64 t] w (SameP (.int .i64 1) w) := by
  have HN := hide (none_yes h)
  clear h
  go_enter Try.func9, Try.ntmps9
  go_wp2_with (go_at_call 25; refine (HN.out).mono ?_; rintro e _ ⟨rfl, rfl⟩)
  go_ret
  exact ⟨rfl, rfl⟩
set_option maxHeartbeats 1000000 in
theorem drop_no {p : Option Addr} {w : World} (h : NoT w p) (n : Int) : Calls Try.prog 16 #[.pointer p, .int .i64 n] w (SameP (.int .i64 1) w) := by
  have HN := hide (none_yes h)
  clear h
  go_enter Try.func16, Try.ntmps16
  go_wp2_with (go_at_call 25; refine (HN.out).mono ?_; rintro e _ ⟨rfl, rfl⟩)
  go_ret
  exact ⟨rfl, rfl⟩
set_option maxHeartbeats 1000000 in
theorem copy_no {p : Option Addr} {w : World} (h : NoT w p) : Calls Try.prog 19 #[.pointer p] w (SameP (.pointer none) w) := by
  have HN := hide (none_yes h)
  clear h
  go_enter Try.func19, Try.ntmps19
  go_wp2_with (go_at_call 25; refine (HN.out).mono ?_; rintro e _ ⟨rfl, rfl⟩)
  go_ret
  exact ⟨rfl, rfl⟩
set_option maxHeartbeats 1000000 in
theorem at_no {p : Option Addr} {w : World} (h : NoT w p) (n : Int) : Calls Try.prog 40 #[.pointer p, .int .i64 n] w (SameP (.tuple #[.int .i64 0, .int .i64 1]) w) := by
  have HN := hide (none_yes h)
  clear h
  go_enter Try.func40, Try.ntmps40
  go_wp2_with (go_at_call 25; refine (HN.out).mono ?_; rintro e _ ⟨rfl, rfl⟩)
  go_ret2
  exact ⟨rfl, rfl⟩
set_option maxHeartbeats 1000000 in
theorem upto_no {p : Option Addr} {w : World} (h : NoT w p) (t : Int) : Calls Try.prog 10 #[.pointer p, .int .i64 t] w (SameP (.tuple #[.slice none 0 0, .int .i64 1]) w) := by
  have HN := hide (none_yes h)
  clear h
  go_enter Try.func10, Try.ntmps10
  go_wp2_with (go_at_call 25; refine (HN.out).mono ?_; rintro e _ ⟨rfl, rfl⟩)
  go_ret2
  exact ⟨rfl, rfl⟩
set_option maxHeartbeats 1000000 in
theorem next_no {p : Option Addr} {w : World} (h : NoT w p) : Calls Try.prog 12 #[.pointer p] w (ValB (.tuple #[.agg #[.int .i64 0, .int .i64 0], .bool false]) w) := by
  have HB : Hid (Below w.heap.size w (w.alloc (.cells #[.int .i64 0, .int .i64 0] 30))) := hide ((Below.refl _ _).alloc (Nat.le_refl _) _)
  have HLN := hide (len_no (h.up HB.out))
  have hx := heap_alloc_new w (.cells #[.int .i64 0, .int .i64 0] 30)
  have q0 := cell_of_row _ _ 0 _ _ (0, 0) hx
  have q1 := cell_of_row _ _ 1 _ _ (0, 0) hx
  simp only [List.getElem?_toArray, List.getElem?_cons_zero, List.getElem?_cons_succ] at q0 q1
  clear h hx
  go_enter Try.func12, Try.ntmps12
  go_wp2_with (go_at_call 11; refine (HLN.out).mono ?_; rintro e _ ⟨rfl, rfl⟩)
  refine bodyPost_ret (v := .tuple #[.agg #[.int .i64 0, .int .i64 0], .bool false]) ?_ rfl ⟨rfl, HB.out⟩
  simp [results, Try.results12, go_sem, q0, q1]

/-! ### the sort of no row -/
set_option maxRecDepth 100000 in
set_option maxHeartbeats 1000000 in
theorem insertion_none (f : Value) (w : World) : Calls Try.prog 52 #[.slice none 0 0, .int .i64 0, .int .i64 0, f] w (SameP (.tuple #[]) w) := by
  go_enter Try.func52, Try.ntmps52
  go_wp2
  go_loop [8] (fun iv => iv = .int .i64 1) (fun _ => 0)
  case atStart => rfl
  case round =>
    obtain rfl := hrel
    go_wp2_with fail
    go_end0
    exact ⟨rfl, rfl⟩
set_option maxRecDepth 100000 in
set_option maxHeartbeats 1000000 in
theorem bitsLen0 (w : World) : Calls Try.prog 49 #[.int .u64 0] w (fun e w' => ∃ z, e = .returned (.int .i64 z) ∧ w = w') := by
  go_enter Try.func49, Try.ntmps49
  go_wp2
  refine bodyPost_ret (results_tmp rfl _ _ _) rfl ?_
  exact ⟨_, rfl, rfl⟩
set_option maxRecDepth 100000 in
set_option maxHeartbeats 1000000 in
theorem pdq_none (f : Value) (w : World) (k : Int) : Calls Try.prog 48 #[.slice none 0 0, .int .i64 0, .int .i64 0, .int .i64 k, f] w (SameP (.tuple #[]) w) := by
  have HI := hide (insertion_none f w)
  go_enter Try.func48, Try.ntmps48
  go_wp2_with fail
  apply wp_loop_once
  go_wp2_with (go_at_call 52; refine (HI.out).mono ?_; rintro e _ ⟨rfl, rfl⟩)
  refine bodyPost_ret (results_none rfl _ _ _) rfl ?_
  exact ⟨rfl, rfl⟩
set_option maxRecDepth 100000 in
set_option maxHeartbeats 1000000 in
theorem sort_none (f : Value) (w : World) : Calls Try.prog 35 #[.slice none 0 0, f] w (SameP (.tuple #[]) w) := by
  have HP := hide (pdq_none f w)
  have HL := hide (bitsLen0 w)
  go_enter Try.func35, Try.ntmps35
  go_wp2_with (first | (go_at_call 49; refine (HL.out).mono ?_; rintro e _ ⟨z, rfl, rfl⟩) | (go_at_call 48; refine (HP.out _).mono ?_; rintro e _ ⟨rfl, rfl⟩))
  go_end0
  exact ⟨rfl, rfl⟩

/-- All of no calendar: a closure over a variable with no dues. -/
def AllNo (w : World) (e : Ending) (w' : World) : Prop :=
  ∃ b, e = .returned (.func (.func 37) #[] #[.pointer (some ⟨b, 0, none⟩)]) ∧ w'.heap[b]? = some (.cells #[.slice none 0 0] 22 (0, 0)) ∧ Below w.heap.size w w'
set_option maxHeartbeats 1000000 in
theorem all_no {p : Option Addr} {w : World} (h : NoT w p) : Calls Try.prog 15 #[.pointer p] w (AllNo w) := by
  have HB : Hid (Below w.heap.size w (w.alloc (.cells #[.slice none 0 0] 22))) := hide ((Below.refl _ _).alloc (Nat.le_refl _) _)
  have HN := hide (none_yes (h.up HB.out))
  clear h
  go_enter Try.func15, Try.ntmps15
  go_wp2_with (first | (go_at_call 25; refine (HN.out).mono ?_; rintro e _ ⟨rfl, rfl⟩) | (go_at_call 35; refine (sort_none _ _).mono ?_; rintro e _ ⟨rfl, rfl⟩))
  go_ret
  exact ⟨w.heap.size, rfl, heap_alloc_new w _, HB.out⟩

/-- Going over no dues. -/
theorem empty_stops {k : Nat} (encs : Empty → Array Value) (Kp : World → World → Prop) (b : Nat) (w : World) (hc : w.heap[b]? = some (.cells #[.slice none 0 0] 22 (0, 0))) :
    SeqStopsK Fence.wide k Try.prog 37 #[.pointer (some ⟨b, 0, none⟩)] encs Kp (fun xs => xs = []) (fun _ => False) 0 w := by
  intro l J Jx W hW hJ hJx hY h0
  refine callsIn_wide.2 ?_
  have hc' := (hW.block _ (lt_of_block hc)).trans hc
  have x0 : W.cell? ⟨b, 0, none⟩ = some (.slice none 0 0) := cell_of_row W b 0 _ 22 (0, 0) hc'
  simp only [List.append_toArray, List.cons_append, List.nil_append]
  go_enter Try.func37, Try.ntmps37
  go_wp2_with fail
  go_loop [7] (fun iv => iv = .int .i64 0) (fun _ => 0)
  case atStart => rfl
  case round =>
    obtain rfl := hrel
    go_wp2_with fail
    go_end0
    simpa using h0
end Go.Proofs.Ytdaicdaakegdmaa
