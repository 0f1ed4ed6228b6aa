/- The walks of the reference of layer 15: SameInts, Same. -/
import Derived.Test.YtkjmpenaifhfjaaPart
import Derived.Deep.CutRange
namespace Go.Proofs.Ytkjmpenaifhfjaa
open Go.RowKit Go.Maps
open Go.ChangeMaps Go.WideMaps

set_option maxRecDepth 100000 in
set_option maxHeartbeats 2000000 in
theorem sameInts_eq (A : Option Addr) (c : Nat) (A' : Option Addr) (c' : Nat) (l : List Int) (w : World) (h : One intV w w.heap.size A l) (h' : One intV w w.heap.size A' l) (hl : l.length ≤ 1000000) :
    Calls Try.prog 24 #[.slice A l.length c, .slice A' l.length c'] w (ValPost (.bool true) w) := by
  have hat := One.at_ h
  have hat' := One.at_ h'
  clear h h'
  go_enter Try.func24, Try.ntmps24
  go_wp2_with fail
  go_loopw [5] (fun iv wr => ∃ k : Nat, k ≤ l.length ∧ iv = .int .i64 k ∧ Below w.heap.size w wr) (fun iv _ => l.length - (intOf iv).toNat)
  case atStart => exact ⟨0, Nat.zero_le _, rfl, Below.refl _ _⟩
  case round =>
    obtain ⟨k, hk, rfl, hb⟩ := hrel
    have HB := hide hb
    by_cases hlt : k < l.length
    · obtain ⟨b, o, rfl, hbB, hcc⟩ := hat (by omega)
      obtain ⟨b', o', rfl, hbB', hcc'⟩ := hat' (by omega)
      obtain ⟨x, hx⟩ : ∃ x, l[k]? = some x := ⟨l[k], List.getElem?_eq_getElem hlt⟩
      have d0 := (hb.cell (p := ⟨b, o + k, none⟩) hbB).trans (hcc k x hx)
      have f0 := (hb.cell (p := ⟨b', o' + k, none⟩) hbB').trans (hcc' k x hx)
      unfold intV at d0 f0
      have hki : (k : Int) < (l.length : Int) := by omega
      clear hcc hcc' hat hat' hx hb
      go_wp2_with fail
      go_quiet (fail)
      go_wp2_with fail
      go_roundw
      case rel => exact ⟨k + 1, by omega, by go_num, below_drewN HB.out _⟩
      case measure => simp [intOf]; omega
    · obtain rfl : k = l.length := by omega
      go_wp2_with fail
      go_ret
      exact ⟨rfl, HB.out⟩

set_option maxRecDepth 100000 in
set_option maxHeartbeats 2000000 in
theorem same_eq (A : Option Addr) (c : Nat) (A' : Option Addr) (c' : Nat) (l : List Int) (W : Int) (w : World) (h : One intV w w.heap.size A l) (h' : One intV w w.heap.size A' l) (hl : l.length ≤ 1000000) :
    Calls Try.prog 14 #[.agg #[.slice A l.length c, .int .i64 W], .agg #[.slice A' l.length c', .int .i64 W]] w (ValPost (.bool true) w) := by
  have HB : Hid (Below w.heap.size w ((w.alloc (.cells #[.slice A l.length c, .int .i64 W] 35)).alloc (.cells #[.slice A' l.length c', .int .i64 W] 35))) := hide (((Below.refl _ _).alloc (Nat.le_refl _) _).alloc (by simp) _)
  have HX : Hid (((w.alloc (.cells #[.slice A l.length c, .int .i64 W] 35)).alloc (.cells #[.slice A' l.length c', .int .i64 W] 35)).heap[w.heap.size]? = some (.cells #[.slice A l.length c, .int .i64 W] 35 (0, 0)) ∧
      ((w.alloc (.cells #[.slice A l.length c, .int .i64 W] 35)).alloc (.cells #[.slice A' l.length c', .int .i64 W] 35)).heap[w.heap.size + 1]? = some (.cells #[.slice A' l.length c', .int .i64 W] 35 (0, 0))) := hide ⟨by
    rw [Below.heap_alloc _ _ _ (by simp)]; exact heap_alloc_new w _, by
    have := heap_alloc_new (w.alloc (.cells #[.slice A l.length c, .int .i64 W] 35)) (.cells #[.slice A' l.length c', .int .i64 W] 35)
    simpa using this⟩
  have HS := hide (sameInts_eq A c A' c' l _ (h.up HB.out) (h'.up HB.out) hl)
  clear h h'
  go_enter Try.func14, Try.ntmps14
  go_wp2_with (go_at_call 24; refine (HS.out).mono ?_; rintro e w1 ⟨rfl, hb1⟩; have HX1 : Hid (w1.heap[w.heap.size]? = some (.cells #[.slice A l.length c, .int .i64 W] 35 (0, 0)) ∧ w1.heap[w.heap.size + 1]? = some (.cells #[.slice A' l.length c', .int .i64 W] 35 (0, 0))) := hide ⟨(hb1.block _ (by simp; omega)).trans HX.out.1, (hb1.block _ (by simp)).trans HX.out.2⟩; have x1 : w1.cell? ⟨w.heap.size, 1, none⟩ = some (.int .i64 W) := cell_of_row w1 w.heap.size 1 _ _ (0, 0) HX1.out.1; have y1 : w1.cell? ⟨w.heap.size + 1, 1, none⟩ = some (.int .i64 W) := cell_of_row w1 (w.heap.size + 1) 1 _ _ (0, 0) HX1.out.2; have HB1 : Hid (Below w.heap.size w w1) := hide (HB.out.trans (hb1.mono (by simp; omega))); clear hb1)
  go_ret
  exact ⟨rfl, HB1.out⟩
end Go.Proofs.Ytkjmpenaifhfjaa
