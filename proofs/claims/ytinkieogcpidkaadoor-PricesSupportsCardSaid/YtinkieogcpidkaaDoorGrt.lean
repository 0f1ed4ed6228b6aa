/- The walk of the laws' great. -/
import Derived.Test.YtinkieogcpidkaaDoorPriX
namespace Go.Proofs.YtinkieogcpidkaaDoor
open Go.RowKit Go.Maps Go.Shelf
open Go.ChangeMaps Go.WideMaps

def greatB (ls : List (List Offer)) : Bool := ls.any (fun l => decide (60 < l.length)) || decide (60 < ls.length)
set_option maxRecDepth 100000 in
set_option maxHeartbeats 2000000 in
theorem great_any (n : Int) (A : Option Addr) (c : Nat) (hs : List Hdr) (ls : List (List Offer)) (w : World) (hB : Buys w w.heap.size A hs ls) (hl : (ls.length : Int) ≤ 9223372036854775807) :
    Calls Tryd.prog 7 #[instV n A ls.length c] w (ValPost (.bool (greatB ls)) w) := by
  have hat := fun hn => hB.at_ hn
  have hget := fun i (hi : i < ls.length) => hB.get hi
  have HB0 : Hid (Below w.heap.size w (w.alloc (.cells #[.int .i64 n, .slice A ls.length c] 24))) := hide ((Below.refl _ _).alloc (Nat.le_refl _) _)
  have HX0 : Hid ((w.alloc (.cells #[.int .i64 n, .slice A ls.length c] 24)).heap[w.heap.size]? = some (.cells #[.int .i64 n, .slice A ls.length c] 24 (0, 0))) := hide (heap_alloc_new w _)
  clear hB
  simp only [instV] at *
  go_enter Tryd.func7, Tryd.ntmps7
  go_upto_region 1 with fail
  generalize w.alloc (.cells #[.int .i64 n, .slice A ls.length c] 24) = w0 at *
  have x1 := cell_of_row _ _ 1 _ _ (0, 0) HX0.out
  simp only [List.getElem?_toArray, List.getElem?_cons_zero, List.getElem?_cons_succ] at x1
  go_wp2_with fail
  go_loopw [3] (fun iv wr => ∃ k : Nat, k ≤ ls.length ∧ iv = .int .i64 k ∧ (∀ (j : Nat) l, j < k → ls[j]? = some l → decide (60 < l.length) = false) ∧ w0 = wr) (fun iv _ => ls.length - (intOf iv).toNat)
  case atStart => exact ⟨0, Nat.zero_le _, rfl, fun j y hj => absurd hj (by omega), by trivial⟩
  case round =>
    obtain ⟨k, hk, rfl, hno, rfl⟩ := hrel
    have HN := hide hno
    clear hno
    by_cases hlt : k < ls.length
    · obtain ⟨b, o, rfl, hbB, hcc⟩ := hat (by omega)
      obtain ⟨a, l, ha, hl1, _, _⟩ := hget k hlt
      obtain ⟨a1, a2⟩ := a
      have d0 := (HB0.out.cell (p := ⟨b, o + k, none⟩) hbB).trans (hcc k _ l ha hl1)
      have hki : (k : Int) < (ls.length : Int) := by omega
      have HL := hide hl1
      clear hcc ha hl1 hat hget
      simp only at d0
      by_cases h6 : 60 < l.length
      · have h6i : (60 : Int) < (l.length : Int) := by omega
        have HE : Hid (greatB ls = true) := hide (by
          unfold greatB
          rw [List.any_eq_true.2 ⟨l, List.mem_of_getElem? HL.out, decide_eq_true h6⟩]
          rfl)
        go_wp2_with fail
        go_ret
        exact ⟨by rw [HE.out]; rfl, HB0.out⟩
      · have h6i : ¬ ((60 : Int) < (l.length : Int)) := by omega
        have hw1 : IntKind.i64.wrap ((k : Int) + 1) = ((k + 1 : Nat) : Int) := by rw [Go.IntWalk.i64_in _ (by omega)]; omega
        have HD : Hid (decide (60 < l.length) = false) := hide (decide_eq_false h6)
        go_wp2_with fail
        go_roundw
        case rel => exact ⟨k + 1, by omega, by first | go_num | exact congrArg (Value.int .i64) hw1, no_next HN.out HL.out HD.out, by trivial⟩
        case measure => first | (simp [intOf]; omega) | (simp only [hw1, intOf]; omega)
    · obtain rfl : k = ls.length := by omega
      have HE : Hid (greatB ls = decide (60 < ls.length)) := hide (by
        unfold greatB
        rw [any_no HN.out, Bool.false_or])
      by_cases h6 : 60 < ls.length
      · have h6i : (60 : Int) < (ls.length : Int) := by omega
        have HF : Hid (greatB ls = true) := hide (by rw [HE.out]; exact decide_eq_true h6)
        go_wp2_with fail
        go_ret
        exact ⟨by rw [HF.out]; first | rfl | simp, HB0.out⟩
      · have h6i : ¬ ((60 : Int) < (ls.length : Int)) := by omega
        have HF : Hid (greatB ls = false) := hide (by rw [HE.out]; exact decide_eq_false h6)
        go_wp2_with fail
        go_ret
        exact ⟨by rw [HF.out]; first | rfl | simp, HB0.out⟩
theorem great_no {ls : List (List Offer)} (h : greatB ls = false) : ls.length ≤ 60 ∧ ∀ l ∈ ls, l.length ≤ 60 := by
  unfold greatB at h
  rw [Bool.or_eq_false_iff, decide_eq_false_iff_not, List.any_eq_false] at h
  exact ⟨by omega, fun l hl => by have := h.1 l hl; simp at this; omega⟩
end Go.Proofs.YtinkieogcpidkaaDoor
