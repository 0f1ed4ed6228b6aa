/- Tables that are not there, and zero ones: what each method of names.Names answers. -/
import Derived.Test.YtkidefmkgcankaaKnown
import Derived.RangeFuncNested
import Derived.RangeFuncBound
import Derived.RangeFuncCalls
import Derived.RangeFuncLeaves
import Derived.RangeFuncFrom
import Derived.Shelf.Abstract
import Derived.Shelf.RegionOpen
import Derived.WalkKit
import Derived.OwnWalkIn
import Derived.TacticsInMore
import Derived.LoopNIn
import Derived.LoopIn
namespace Go.Proofs.Ytkidefmkgcankaa
open Go.RowKit Go.Shelf

attribute [local go_sem] Oper.semAt_some

/-- No table. -/
def NoT (W : World) (p : Option Addr) : Prop := p = none ∨ ∃ b, p = some ⟨b, 0, none⟩ ∧ W.heap[b]? = some (.cells #[.slice none 0 0, .map none, .int .i64 0] 53 (0, 0))
theorem NoT.up {W W' : World} {p : Option Addr} (h : NoT W p) (hb : Below W.heap.size W W') : NoT W' p := by
  rcases h with h | ⟨b, h1, h2⟩
  · exact .inl h
  · exact .inr ⟨b, h1, (hb.block _ (lt_of_block h2)).trans h2⟩
theorem none_yes {p : Option Addr} {w : World} (h : NoT w p) : Calls Try.prog 39 #[.pointer p] w (NonePost true w) := by
  rcases h with rfl | ⟨b, rfl, h⟩
  · exact none_nil w
  · exact none_any b none w (cell_of_row w b 1 _ 53 (0, 0) h)

def SamePost (v : Value) (w : World) (e : Ending) (w' : World) : Prop := e = .returned v ∧ w = w'
set_option maxHeartbeats 1000000 in
theorem len_no {p : Option Addr} {w : World} (h : NoT w p) : Calls Try.prog 18 #[.pointer p] w (SamePost (.int .i64 0) w) := by
  have HN := hide (none_yes h)
  clear h
  go_enter Try.func18, Try.ntmps18
  go_wp2_with (go_at_call 39; refine (HN.out).mono ?_; rintro e _ ⟨rfl, rfl⟩)
  go_ret
  exact ⟨rfl, rfl⟩
set_option maxHeartbeats 1000000 in
theorem add_no {p : Option Addr} {w : World} (h : NoT w p) (s : ByteArray) : Calls Try.prog 19 #[.pointer p, .string s] w (SamePost (.tuple #[.int .i64 0, .int .i64 1]) w) := by
  have HN := hide (none_yes h)
  clear h
  go_enter Try.func19, Try.ntmps19
  go_wp2_with (go_at_call 39; refine (HN.out).mono ?_; rintro e _ ⟨rfl, rfl⟩)
  go_ret2
  exact ⟨rfl, rfl⟩
set_option maxHeartbeats 1000000 in
theorem find_no {p : Option Addr} {w : World} (h : NoT w p) (s : ByteArray) : Calls Try.prog 22 #[.pointer p, .string s] w (SamePost (.tuple #[.int .i64 0, .bool false]) w) := by
  have HN := hide (none_yes h)
  clear h
  go_enter Try.func22, Try.ntmps22
  go_wp2_with (go_at_call 39; refine (HN.out).mono ?_; rintro e _ ⟨rfl, rfl⟩)
  go_ret2
  exact ⟨rfl, rfl⟩
set_option maxHeartbeats 1000000 in
theorem copy_no {p : Option Addr} {w : World} (h : NoT w p) : Calls Try.prog 36 #[.pointer p] w (SamePost (.pointer none) w) := by
  have HN := hide (none_yes h)
  clear h
  go_enter Try.func36, Try.ntmps36
  go_wp2_with (go_at_call 39; refine (HN.out).mono ?_; rintro e _ ⟨rfl, rfl⟩)
  go_ret
  exact ⟨rfl, rfl⟩
set_option maxHeartbeats 1000000 in
theorem name_no {p : Option Addr} {w : World} (h : NoT w p) (n : Int) : Calls Try.prog 21 #[.pointer p, .int .i64 n] w (SamePost (.tuple #[.string ⟨#[]⟩, .bool false]) w) := by
  have HN := hide (len_no h)
  clear h
  by_cases hn : n < 0
  · go_enter Try.func21, Try.ntmps21
    go_wp2_with (go_at_call 18; refine (HN.out).mono ?_; rintro e _ ⟨rfl, rfl⟩)
    go_ret2
    exact ⟨rfl, rfl⟩
  · have hn' : 0 ≤ n := by omega
    go_enter Try.func21, Try.ntmps21
    go_wp2_with (go_at_call 18; refine (HN.out).mono ?_; rintro e _ ⟨rfl, rfl⟩)
    go_ret2
    exact ⟨rfl, rfl⟩
def BelowPost (v : Value) (w : World) (e : Ending) (w' : World) : Prop := e = .returned v ∧ Below w.heap.size w w'
set_option maxRecDepth 100000 in
set_option maxHeartbeats 1000000 in
theorem short_no {p : Option Addr} {w : World} (h : NoT w p) (n : Int) : Calls Try.prog 23 #[.pointer p, .int .i64 n] w (BelowPost (.tuple #[.int .i64 0, .bool false]) w) := by
  have HB : Hid (Below w.heap.size w (w.alloc (.cells #[.int .i64 n] 3))) := hide ((Below.refl _ _).alloc (Nat.le_refl _) _)
  have HN := hide (name_no (h.up HB.out) n)
  clear h
  go_enter Try.func23, Try.ntmps23
  go_wp2_with fail
  refine wp_scope_straight ?_
  go_wp2_with (go_at_call 21; refine (HN.out).mono ?_; rintro e _ ⟨rfl, rfl⟩)
  go_ret2
  exact ⟨rfl, HB.out.alloc HB.out.size _⟩
/-- All of no table: a closure over a variable with no names. -/
def AllPost (w : World) (e : Ending) (w' : World) : Prop :=
  ∃ b, e = .returned (.func (.func 48) #[] #[.pointer (some ⟨b, 0, none⟩)]) ∧ w'.heap[b]? = some (.cells #[.slice none 0 0] 50 (0, 0)) ∧ Below w.heap.size w w'
set_option maxHeartbeats 1000000 in
theorem all_no {p : Option Addr} {w : World} (h : NoT w p) : Calls Try.prog 38 #[.pointer p] w (AllPost w) := by
  have HB : Hid (Below w.heap.size w (w.alloc (.cells #[.slice none 0 0] 50))) := hide ((Below.refl _ _).alloc (Nat.le_refl _) _)
  have HN := hide (none_yes (h.up HB.out))
  clear h
  go_enter Try.func38, Try.ntmps38
  go_wp2_with (go_at_call 39; refine (HN.out).mono ?_; rintro e _ ⟨rfl, rfl⟩)
  go_ret
  exact ⟨w.heap.size, rfl, heap_alloc_new w _, HB.out⟩

/-- Going over no names. -/
theorem empty_stops {k : Nat} (encs : Empty → Array Value) (Kp : World → World → Prop) (b : Nat) (w : World) (hc : w.heap[b]? = some (.cells #[.slice none 0 0] 50 (0, 0))) :
    SeqStopsK Fence.wide k Try.prog 48 #[.pointer (some ⟨b, 0, none⟩)] encs Kp (fun xs => xs = []) (fun _ => False) 0 w := by
  intro l J Jx W hW hJ hJx hY h0
  refine callsIn_wide.2 ?_
  have hc' := (hW.block _ (lt_of_block hc)).trans hc
  have x0 : W.cell? ⟨b, 0, none⟩ = some (.slice none 0 0) := cell_of_row W b 0 _ 50 (0, 0) hc'
  simp only [List.append_toArray, List.cons_append, List.nil_append]
  go_enter Try.func48, Try.ntmps48
  go_wp2_with fail
  go_loop [7] (fun iv => iv = .int .i64 0) (fun _ => 0)
  case atStart => rfl
  case round =>
    obtain rfl := hrel
    go_wp2_with fail
    go_end0
    simpa using h0

set_option maxRecDepth 100000 in
set_option maxHeartbeats 1000000 in
theorem insertion_none (f : Value) (w : World) : Calls Try.prog 55 #[.slice none 0 0, .int .i64 0, .int .i64 0, f] w (SamePost (.tuple #[]) w) := by
  go_enter Try.func55, Try.ntmps55
  go_wp2
  go_loop [8] (fun iv => iv = .int .i64 1) (fun _ => 0)
  case atStart => rfl
  case round =>
    obtain rfl := hrel
    go_wp2_with fail
    go_end0
    exact ⟨rfl, rfl⟩
set_option maxRecDepth 100000 in
set_option maxHeartbeats 1000000 in
theorem bitsLen0 (w : World) : Calls Try.prog 51 #[.int .u64 0] w (fun e w' => ∃ z, e = .returned (.int .i64 z) ∧ w = w') := by
  go_enter Try.func51, Try.ntmps51
  go_wp2
  refine bodyPost_ret (results_tmp rfl _ _ _) rfl ?_
  exact ⟨_, rfl, rfl⟩
set_option maxRecDepth 100000 in
set_option maxHeartbeats 1000000 in
theorem pdq_none (f : Value) (w : World) (k : Int) : Calls Try.prog 50 #[.slice none 0 0, .int .i64 0, .int .i64 0, .int .i64 k, f] w (SamePost (.tuple #[]) w) := by
  have HI := hide (insertion_none f w)
  go_enter Try.func50, Try.ntmps50
  go_wp2_with fail
  apply wp_loop_once
  go_wp2_with (go_at_call 55; refine (HI.out).mono ?_; rintro e _ ⟨rfl, rfl⟩)
  refine bodyPost_ret (results_none rfl _ _ _) rfl ?_
  exact ⟨rfl, rfl⟩
set_option maxRecDepth 100000 in
set_option maxHeartbeats 1000000 in
theorem sort_none (f : Value) (w : World) : Calls Try.prog 41 #[.slice none 0 0, f] w (SamePost (.tuple #[]) w) := by
  have HP := hide (pdq_none f w)
  have HL := hide (bitsLen0 w)
  go_enter Try.func41, Try.ntmps41
  go_wp2_with (first | (go_at_call 51; refine (HL.out).mono ?_; rintro e _ ⟨z, rfl, rfl⟩) | (go_at_call 50; refine (HP.out _).mono ?_; rintro e _ ⟨rfl, rfl⟩))
  go_end0
  exact ⟨rfl, rfl⟩

set_option maxRecDepth 100000 in
set_option maxHeartbeats 2000000 in
theorem begins_no {p : Option Addr} {w : World} (h : NoT w p) (s : ByteArray) : Calls Try.prog 24 #[.pointer p, .string s] w (BelowPost (.slice none 0 0) w) := by
  have HB : Hid (Below w.heap.size w (((w.alloc (.cells #[.pointer p] 32)).alloc (.cells #[.string s] 9)).alloc (.cells #[.slice none 0 0] 59))) := hide ((((Below.refl _ _).alloc (Nat.le_refl _) _).alloc (by simp) _).alloc (by simp; omega) _)
  have HX : Hid ((((w.alloc (.cells #[.pointer p] 32)).alloc (.cells #[.string s] 9)).alloc (.cells #[.slice none 0 0] 59)).heap[w.heap.size]? = some (.cells #[.pointer p] 32 (0, 0)) ∧ (((w.alloc (.cells #[.pointer p] 32)).alloc (.cells #[.string s] 9)).alloc (.cells #[.slice none 0 0] 59)).heap[w.heap.size + 2]? = some (.cells #[.slice none 0 0] 59 (0, 0))) := hide ⟨by
    rw [Below.heap_alloc _ _ _ (by simp; omega), Below.heap_alloc _ _ _ (by simp)]; exact heap_alloc_new w _, by
    have := heap_alloc_new ((w.alloc (.cells #[.pointer p] 32)).alloc (.cells #[.string s] 9)) (.cells #[.slice none 0 0] 59)
    simpa using this⟩
  have HALL := hide (all_no (h.up HB.out))
  clear h
  refine (callsIn_wide (n := 3)).1 ?_
  refine callsIn_of_wp_marks Try.func24 rfl trivial ?_ rfl
  simp only [Try.ntmps24, List.size_toArray, List.length_cons, List.length_nil, Nat.reduceAdd, Nat.reduceSub, Array.replicate_succ, Array.replicate_zero, List.push_toArray, List.append_toArray, List.nil_append, List.cons_append]
  gi_wp2_with (refine ⟨trivial, ?_⟩; gi_at_call 38; refine (callsIn_wide.2 HALL.out).mono ?_; rintro e w1 ⟨b, rfl, hc, hb1⟩)
  have hz1 : w.heap.size + 3 ≤ w1.heap.size := by have := hb1.size; simp at this; omega
  have c0 : w1.cell? ⟨w.heap.size, 0, none⟩ = some (.pointer p) := cell_of_row w1 w.heap.size 0 _ 32 (0, 0) ((hb1.block _ (by simp; omega)).trans HX.out.1)
  have c2 : w1.cell? ⟨w.heap.size + 2, 0, none⟩ = some (.slice none 0 0) := cell_of_row w1 (w.heap.size + 2) 0 _ 59 (0, 0) ((hb1.block _ (by simp)).trans HX.out.2)
  have hbw : Below w.heap.size w w1 := HB.out.trans (hb1.mono (by simp; omega))
  refine wpIn_rangeFunc_ownF (α := Empty) (encs := fun x => nomatch x) (Kp := fun _ _ => True) rfl (by omega) (gf := 48) (lb := #[.pointer (some ⟨b, 0, none⟩)]) rfl trivial (enters_of Try.func48 (by kernel_rfl) rfl)
    (empty_stops _ _ b w1 hc) (fun _ _ => trivial) (fun _ _ _ _ _ _ _ _ => trivial) (Below.refl _ _) (fun x => nomatch x)
    (fun _ W => (W.cell? ⟨w.heap.size, 0, none⟩ = some (.pointer p) ∧ W.cell? ⟨w.heap.size + 2, 0, none⟩ = some (.slice none 0 0)) ∧ Below w.heap.size w W)
    (fun _ _ _ => False)
    (OwnFrom.and (Own.from (fun s A B row hs hg hr => ⟨cell_kept hs.1 hg hr, cell_kept hs.2 hg hr⟩) _) (ownFrom_below (Nat.le_refl _) (by omega)))
    (fun _ _ _ _ _ hs _ _ => hs)
    ⟨⟨c0, c2⟩, hbw⟩
    (fun x => nomatch x) ?assign ?body ?done ?stop
  case assign => exact fun _ x => nomatch x
  case body => exact fun _ _ x => nomatch x
  case done =>
    rintro D ys W hD rfl ⟨⟨hc0, hc2⟩, hB⟩ hK
    gi_wp2_with (refine ⟨trivial, ?_⟩; gi_at_call 41; refine (callsIn_wide.2 (sort_none _ _)).mono ?_; rintro e _ ⟨rfl, rfl⟩)
    refine ⟨by simp, .inl ⟨_, _, rfl, run_takeDeferred hK, ?_⟩⟩
    exact ⟨_, results_tmp rfl _ _ _, rfl, hB.trans (belowK_b (w := w) (Nat.le_refl _) W D _ _ (by omega) hK rfl rfl)⟩
  case stop =>
    rintro D c pre W _ _ h _
    exact h.elim
set_option maxHeartbeats 1000000 in
theorem sorted_no {p : Option Addr} {w : World} (h : NoT w p) : Calls Try.prog 20 #[.pointer p] w (BelowPost (.slice none 0 0) w) := by
  have HN := hide (begins_no h ⟨#[]⟩)
  clear h
  go_enter Try.func20, Try.ntmps20
  go_wp2_with (go_at_call 24; refine (HN.out).mono ?_; rintro e w1 ⟨rfl, hb1⟩)
  go_ret
  exact ⟨rfl, hb1⟩

set_option maxRecDepth 100000 in
set_option maxHeartbeats 1000000 in
theorem same_no {p q : Option Addr} {w : World} (h : NoT w p) (h' : NoT w q) : Calls Try.prog 16 #[.pointer p, .pointer q] w (SamePost (.bool true) w) := by
  have HN : Hid (∀ r, r = p ∨ r = q → Calls Try.prog 39 #[.pointer r] w (NonePost true w)) := hide (fun r hr => by
    rcases hr with rfl | rfl
    · exact none_yes h
    · exact none_yes h')
  clear h h'
  go_enter Try.func16, Try.ntmps16
  go_wp2_with (go_at_call 39; refine (HN.out _ (by first | exact .inl rfl | exact .inr rfl)).mono ?_; rintro e _ ⟨rfl, rfl⟩)
  go_ret
  exact ⟨rfl, rfl⟩
set_option maxRecDepth 100000 in
set_option maxHeartbeats 1000000 in
theorem same_one {p q : Option Addr} {w : World} (h : NoT w p) (h' : Calls Try.prog 39 #[.pointer q] w (NonePost false w)) : Calls Try.prog 16 #[.pointer p, .pointer q] w (SamePost (.bool false) w) := by
  have HP := hide (none_yes h)
  have HQ := hide h'
  clear h h'
  go_enter Try.func16, Try.ntmps16
  go_wp2_with fail
  refine (HP.out).mono ?_
  rintro e _ ⟨rfl, rfl⟩
  go_wp2_with fail
  refine (HP.out).mono ?_
  rintro e _ ⟨rfl, rfl⟩
  go_wp2_with fail
  refine (HQ.out).mono ?_
  rintro e _ ⟨rfl, rfl⟩
  go_wp2_with fail
  go_ret
  exact ⟨rfl, rfl⟩
set_option maxRecDepth 100000 in
set_option maxHeartbeats 1000000 in
theorem same_two {p q : Option Addr} {w : World} (h : NoT w p) (h' : Calls Try.prog 39 #[.pointer q] w (NonePost false w)) : Calls Try.prog 16 #[.pointer q, .pointer p] w (SamePost (.bool false) w) := by
  have HP := hide (none_yes h)
  have HQ := hide h'
  clear h h'
  go_enter Try.func16, Try.ntmps16
  go_wp2_with fail
  refine (HQ.out).mono ?_
  rintro e _ ⟨rfl, rfl⟩
  go_wp2_with fail
  refine (HP.out).mono ?_
  rintro e _ ⟨rfl, rfl⟩
  go_wp2_with fail
  refine (HQ.out).mono ?_
  rintro e _ ⟨rfl, rfl⟩
  go_wp2_with fail
  go_ret
  exact ⟨rfl, rfl⟩
end Go.Proofs.Ytkidefmkgcankaa
