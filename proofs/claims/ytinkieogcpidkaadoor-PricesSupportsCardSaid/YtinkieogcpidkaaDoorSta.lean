/- What a given instance is, and the walk of the laws' helper stays. -/
import Derived.Test.YtinkieogcpidkaaDoorGiv
import Derived.Test.YtinkieogcpidkaaDoorSameInst
namespace Go.Proofs.YtinkieogcpidkaaDoor
open Go.RowKit Go.Maps Go.Shelf
open Go.ChangeMaps Go.WideMaps

section
variable {w w' : World} {base : Nat} {A : Option Addr} {c : Nat} {hs : List Hdr} {ls : List (List Offer)}
theorem OwnM.below (h : OwnM w base A c hs ls) (hb : Below w.heap.size w w') : OwnM w' base A c hs ls :=
  ⟨h.len, own_below h.hdr hb (Nat.le_refl _), fun i a l ha hl => own_below (h.row i a l ha hl) hb (Nat.le_refl _)⟩
theorem addr0' (g j : Nat) : (⟨g, 0, none⟩ : Addr).add j = ⟨g, j, none⟩ := by unfold Addr.add; split <;> simp_all
theorem OwnM.buys (h : OwnM w base A c hs ls) : Buys w w.heap.size A hs ls := by
  refine ⟨h.len, Reads.of_own h.hdr, fun i a l ha hl => ?_⟩
  have hr := h.row i a l ha hl
  have h5 : Offs w w.heap.size a.1 (l ++ [(77, 0)]) := Two.of_own (n := l.length + 1) hr (by simp)
  have h6 := Two.front h5 (k := l.length) (by simp)
  rw [List.take_append_of_le_length (Nat.le_refl _), List.take_of_length_le (Nat.le_refl _)] at h6
  refine ⟨h6, ?_⟩
  obtain ⟨_, _, e', hc'⟩ := own_sh hr
  injection e' with _ _ e'
  omega
theorem OwnM.cap (h : OwnM w base A c hs ls) : ls.length ≤ c := by
  obtain ⟨_, _, e, hc⟩ := own_sh h.hdr
  injection e with _ _ e
  omega
/-- The mark behind offers. -/
theorem OwnM.mark (h : OwnM w base A c hs ls) {i : Nat} {a : Hdr} {l : List Offer} (ha : hs[i]? = some a) (hl : ls[i]? = some l) : ∃ r, a.1 = some ⟨r, 0, none⟩ ∧ r < w.heap.size ∧ l.length + 1 ≤ a.2 ∧ w.cell? ⟨r, l.length * 2, none⟩ = some (.int .u32 77) := by
  have hr := h.row i a l ha hl
  obtain ⟨r, rc, e, _, hrl⟩ := hr.form (by omega)
  injection e with e1 _ e3
  obtain ⟨_, _, e', hc'⟩ := own_sh hr
  injection e' with _ _ e'
  refine ⟨r, e1, hrl, by omega, ?_⟩
  rw [e1] at hr
  have hm := (cells2_at (f := offV) (l ++ [(77, 0)]) l.length (77, 0) (by simp)).1
  have := hr.cells (g := r) rfl _ _ hm
  rwa [addr0'] at this
end

set_option maxRecDepth 100000 in
set_option maxHeartbeats 4000000 in
theorem stays_any (n : Int) (base : Nat) (A : Option Addr) (c : Nat) (hs : List Hdr) (A0 : Option Addr) (c0 : Nat) (hs0 : List Hdr) (ls : List (List Offer)) (w : World) (ho : OwnM w base A c hs ls) (h : Buys w w.heap.size A0 hs0 ls) (hl : ls.length ≤ 60) (hls : ∀ l ∈ ls, l.length ≤ 60) :
    Calls Tryd.prog 16 #[instV n A ls.length c, instV n A0 ls.length c0] w (ValPost (.bool true) w) := by
  have HB : Hid (Below w.heap.size w ((w.alloc (.cells #[.int .i64 n, .slice A ls.length c] 24)).alloc (.cells #[.int .i64 n, .slice A0 ls.length c0] 24))) := hide (((Below.refl _ _).alloc (Nat.le_refl _) _).alloc (by simp) _)
  have HX : Hid (((w.alloc (.cells #[.int .i64 n, .slice A ls.length c] 24)).alloc (.cells #[.int .i64 n, .slice A0 ls.length c0] 24)).heap[w.heap.size]? = some (.cells #[.int .i64 n, .slice A ls.length c] 24 (0, 0)) ∧
      ((w.alloc (.cells #[.int .i64 n, .slice A ls.length c] 24)).alloc (.cells #[.int .i64 n, .slice A0 ls.length c0] 24)).heap[w.heap.size + 1]? = some (.cells #[.int .i64 n, .slice A0 ls.length c0] 24 (0, 0))) := hide ⟨by
    rw [Below.heap_alloc _ _ _ (by simp)]; exact heap_alloc_new w _, by
    have := heap_alloc_new (w.alloc (.cells #[.int .i64 n, .slice A ls.length c] 24)) (.cells #[.int .i64 n, .slice A0 ls.length c0] 24)
    simpa using this⟩
  have HO := hide ho
  have HY := hide ho.buys
  have HA0 := hide h
  have HL := hide hls
  have HSI := hide (fun W (hb : Below w.heap.size w W) => sameInst_eq n A c hs A0 c0 hs0 ls W (ho.buys.up hb) (h.up hb) (by omega) (fun l hm => by have := hls l hm; omega))
  clear h ho hls
  simp only [instV] at *
  go_enter Tryd.func16, Tryd.ntmps16
  go_wp2_with fail
  generalize (w.alloc (.cells #[.int .i64 n, .slice A ls.length c] 24)).alloc (.cells #[.int .i64 n, .slice A0 ls.length c0] 24) = w1 at *
  have HZ1 : Hid (w.heap.size + 1 < w1.heap.size) := hide (lt_of_block HX.out.2)
  have HC : Hid (∀ W, Below w1.heap.size w1 W → W.cell? ⟨w.heap.size, 0, none⟩ = some (.int .i64 n) ∧ W.cell? ⟨w.heap.size, 1, none⟩ = some (.slice A ls.length c) ∧ W.cell? ⟨w.heap.size + 1, 0, none⟩ = some (.int .i64 n) ∧ W.cell? ⟨w.heap.size + 1, 1, none⟩ = some (.slice A0 ls.length c0)) := hide (fun W hW => ⟨cell_of_row W w.heap.size 0 _ _ (0, 0) ((hW.block _ (lt_of_block HX.out.1)).trans HX.out.1), cell_of_row W w.heap.size 1 _ _ (0, 0) ((hW.block _ (lt_of_block HX.out.1)).trans HX.out.1), cell_of_row W (w.heap.size + 1) 0 _ _ (0, 0) ((hW.block _ (lt_of_block HX.out.2)).trans HX.out.2), cell_of_row W (w.heap.size + 1) 1 _ _ (0, 0) ((hW.block _ (lt_of_block HX.out.2)).trans HX.out.2)⟩)
  go_loopw [5] (fun iv wr => ∃ k : Nat, k ≤ ls.length ∧ iv = .int .i64 k ∧ Below w1.heap.size w1 wr) (fun iv _ => ls.length - (intOf iv).toNat)
  case atStart => exact ⟨0, Nat.zero_le _, rfl, Below.refl _ _⟩
  case round =>
    obtain ⟨k, hk, rfl, hb⟩ := hrel
    have HBR := hide hb
    have HBW : Hid (Below w.heap.size w wr) := hide (HB.out.trans (hb.mono (by have := HZ1.out; omega)))
    obtain ⟨x0, x1, x2, x3⟩ := HC.out wr hb
    clear hb
    by_cases hlt : k < ls.length
    · obtain ⟨⟨a1, a2⟩, l, ha, hlx, hro, hca⟩ := HA0.out.get hlt
      obtain ⟨bb, bo, rfl, hbB, hat⟩ := HA0.out.at_ (by omega)
      obtain ⟨⟨r1, r2⟩, l2, hb, hly, hry, hcy⟩ := HY.out.get hlt
      obtain rfl : l = l2 := Option.some.inj (hlx.symm.trans hly)
      obtain ⟨yb, yo, rfl, hyB, hyt⟩ := HY.out.at_ (by omega)
      obtain ⟨r, hr, hrs, hrc, hrm⟩ := HO.out.mark hb hlx
      simp only at hr hrc
      subst hr
      have z1 := (HBW.out.cell (p := ⟨bb, bo + k, none⟩) hbB).trans (hat k _ l ha hlx)
      have z2 := (HBW.out.cell (p := ⟨yb, yo + k, none⟩) hyB).trans (hyt k _ l hb hlx)
      have z3 := (HBW.out.cell (p := ⟨r, l.length * 2, none⟩) hrs).trans hrm
      simp only at z1 z2
      have hl60 := HL.out l (List.mem_of_getElem? hlx)
      have hki : (k : Int) < (ls.length : Int) := by omega
      have hw1 : IntKind.i64.wrap ((l.length : Int) + 1) = (l.length : Int) + 1 := Go.IntWalk.i64_in _ (by omega)
      have hn1 : (0 : Int) ≤ (l.length : Int) + 1 := by omega
      have hn2 : ((l.length : Int) + 1).toNat = l.length + 1 := by omega
      have hn3 : (l.length : Int) < (l.length : Int) + 1 := by omega
      have hci : (l.length : Int) + 1 ≤ (r2 : Int) := by omega
      clear hat hyt ha hb hlx hly hro hry hca hcy hrm hrs hrc x0 x2
      go_wp2_with fail
      go_quiet (fail)
      go_wp2_with fail
      go_roundw
      case rel => exact ⟨k + 1, by omega, by go_num, below_drewN HBR.out _⟩
      case measure => simp [intOf]; omega
    · obtain rfl : k = ls.length := by omega
      go_wp2_with (go_at_call 39; refine (HSI.out _ HBW.out).mono ?_; rintro e w2 ⟨rfl, hb2⟩; have HB2 := hide (HBW.out.trans (hb2.mono HBW.out.size)); clear hb2)
      go_ret
      exact ⟨rfl, HB2.out⟩
end Go.Proofs.YtinkieogcpidkaaDoor
