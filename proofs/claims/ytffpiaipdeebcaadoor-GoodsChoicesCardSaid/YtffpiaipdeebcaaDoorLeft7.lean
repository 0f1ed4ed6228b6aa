/- What a lent instance is, and the walk of gavellaw07.left. (Printed by gen_left7.py.) -/
import Derived.Test.YtffpiaipdeebcaaDoorLent7
import Derived.Test.YtffpiaipdeebcaaDoorSs7
namespace Go.Proofs.YtffpiaipdeebcaaDoor
open Go.RowKit Go.Maps Go.Shelf
open Go.ChangeMaps Go.WideMaps

section
variable {w w' : World} {base : Nat} {A : Option Addr} {c : Nat} {hs : List Hdr} {ls : List (List Offer)}
theorem OwnL.below (h : OwnL w base A c hs ls) (hb : Below w.heap.size w w') : OwnL w' base A c hs ls := by
  obtain ⟨mb, h1, h2, h3⟩ := h.hdr
  exact ⟨h.len, ⟨mb, h1, own_below h2 hb (Nat.le_refl _), (hb.block _ (lt_of_block h3)).trans h3⟩, fun i a l ha hl => own_below (h.row i a l ha hl) hb (Nat.le_refl _)⟩
theorem addr0 (g j : Nat) : (⟨g, 0, none⟩ : Addr).add j = ⟨g, j, none⟩ := by unfold Addr.add; split <;> simp_all
/-- The cells of a lent instance. -/
theorem OwnL.cells (h : OwnL w base A c hs ls) : ∃ g mb, A = some ⟨g, 0, none⟩ ∧ g < w.heap.size ∧ mb < w.heap.size ∧ ls.length + 1 ≤ c ∧ w.cell? ⟨g, ls.length, none⟩ = some (.slice (some ⟨mb, 0, none⟩) 1 1) ∧ w.cell? ⟨mb, 1, none⟩ = some (.int .i64 772) ∧
    ∀ (i : Nat) (a : Hdr) (l : List Offer), hs[i]? = some a → ls[i]? = some l → w.cell? ⟨g, i, none⟩ = some (.slice a.1 l.length a.2) ∧ ∃ r, a.1 = some ⟨r, 0, none⟩ ∧ r < w.heap.size ∧ l.length + 1 ≤ a.2 ∧ w.cell? ⟨r, l.length * 2 + 1, none⟩ = some (.int .i64 771) := by
  obtain ⟨mb, _, h2, h3⟩ := h.hdr
  obtain ⟨g, cap, e, _, hg⟩ := h2.form (by omega)
  injection e with e1 e2 e3
  subst e1 e3
  have hc : ∀ (j : Nat) v, (List.zipWith hdrV hs ls ++ [.slice (some ⟨mb, 0, none⟩) 1 1])[j]? = some v → w.cell? ⟨g, j, none⟩ = some v := fun j v hj => by
    have := h2.cells (g := g) rfl j v hj
    rwa [addr0] at this
  have hcap : ls.length + 1 ≤ c := by
    obtain ⟨_, _, e, hc⟩ := own_sh h2
    injection e with _ _ e
    omega
  have hzl : (List.zipWith hdrV hs ls).length = ls.length := by simp [h.len]
  refine ⟨g, mb, rfl, hg, lt_of_block h3, hcap, ?_, cell_of_row w mb 1 _ _ (0, 0) h3, fun i a l ha hl => ?_⟩
  · have := hc ls.length (.slice (some ⟨mb, 0, none⟩) 1 1) (by rw [List.getElem?_append_right (by omega), hzl]; simp)
    exact this
  · have hi : i < ls.length := (List.getElem?_eq_some_iff.1 hl).1
    refine ⟨hc i (hdrV a l) (by rw [List.getElem?_append_left (by omega), List.getElem?_zipWith, ha, hl]), ?_⟩
    have hr := h.row i a l ha hl
    obtain ⟨r, rc, e, _, hrl⟩ := hr.form (by omega)
    injection e with e1 _ e3
    obtain ⟨_, _, e', hc'⟩ := own_sh hr
    injection e' with _ _ e'
    refine ⟨r, e1, hrl, by omega, ?_⟩
    rw [e1] at hr
    have hm := (cells2_at (f := offV) (l ++ [(0, 771)]) l.length (0, 771) (by simp)).2
    have := hr.cells (g := r) rfl _ _ hm
    rwa [addr0] at this
theorem OwnL.buys (h : OwnL w base A c hs ls) : Buys w w.heap.size A hs ls := by
  obtain ⟨mb, _, h2, h3⟩ := h.hdr
  have hzl : (List.zipWith hdrV hs ls).length = ls.length := by simp [h.len]
  refine ⟨h.len, ?_, fun i a l ha hl => ?_⟩
  · have h5 := Reads.front (k := ls.length) (Reads.of_own h2) (by omega)
    rw [Nat.mul_one, List.take_append_of_le_length (by omega), List.take_of_length_le (by omega)] at h5
    exact h5
  · have hr := h.row i a l ha hl
    have h5 : Offs w w.heap.size a.1 (l ++ [(0, 771)]) := Two.of_own (n := l.length + 1) hr (by simp)
    have h6 := Two.front h5 (k := l.length) (by simp)
    rw [List.take_append_of_le_length (Nat.le_refl _), List.take_of_length_le (Nat.le_refl _)] at h6
    refine ⟨h6, ?_⟩
    obtain ⟨_, _, e', hc'⟩ := own_sh hr
    injection e' with _ _ e'
    omega
theorem OwnL.nils (h : OwnL w base A c hs ls) : NilB hs := by
  intro a ha e
  obtain ⟨i, hi, rfl⟩ := List.getElem_of_mem ha
  have hl : i < ls.length := by rw [← h.len]; exact hi
  obtain ⟨r, rc, e1, _, _⟩ := (h.row i hs[i] ls[i] (List.getElem?_eq_getElem hi) (List.getElem?_eq_getElem hl)).form (by omega)
  injection e1 with e1
  rw [e] at e1
  cases e1
end

set_option maxRecDepth 100000 in
set_option maxHeartbeats 4000000 in
theorem left_any (n : Int) (base : Nat) (A : Option Addr) (c : Nat) (hs : List Hdr) (A0 : Option Addr) (c0 : Nat) (hs0 : List Hdr) (ls : List (List Offer)) (w : World) (ho : OwnL w base A c hs ls) (h : Buys w w.heap.size A0 hs0 ls) (hl : ls.length ≤ 1000) (hls : ∀ l ∈ ls, l.length ≤ 1000) :
    Calls Tryd.prog 40 #[instV n A ls.length c, instV n A0 ls.length c0] w (ValPost (.bool true) w) := by
  have HB : Hid (Below w.heap.size w ((w.alloc (.cells #[.int .i64 n, .slice A ls.length c] 49)).alloc (.cells #[.int .i64 n, .slice A0 ls.length c0] 49))) := hide (((Below.refl _ _).alloc (Nat.le_refl _) _).alloc (by simp) _)
  have HX : Hid (((w.alloc (.cells #[.int .i64 n, .slice A ls.length c] 49)).alloc (.cells #[.int .i64 n, .slice A0 ls.length c0] 49)).heap[w.heap.size]? = some (.cells #[.int .i64 n, .slice A ls.length c] 49 (0, 0)) ∧
      ((w.alloc (.cells #[.int .i64 n, .slice A ls.length c] 49)).alloc (.cells #[.int .i64 n, .slice A0 ls.length c0] 49)).heap[w.heap.size + 1]? = some (.cells #[.int .i64 n, .slice A0 ls.length c0] 49 (0, 0))) := hide ⟨by
    rw [Below.heap_alloc _ _ _ (by simp)]; exact heap_alloc_new w _, by
    have := heap_alloc_new (w.alloc (.cells #[.int .i64 n, .slice A ls.length c] 49)) (.cells #[.int .i64 n, .slice A0 ls.length c0] 49)
    simpa using this⟩
  have HSI : Hid (∀ W, Below w.heap.size w W → Calls Tryd.prog 39 #[instV n A ls.length c, instV n A0 ls.length c0] W (ValPost (.bool true) W)) := hide (fun W hW => sameInst_eq n A c hs A0 c0 hs0 ls W ((ho.below hW).buys) (h.up hW) (by omega) (fun l hm => by have := hls l hm; omega))
  obtain ⟨g, mb, hA, hg, hmb, hc, hm1, hm2, hrow⟩ := ho.cells
  have HLEN := hide ho.len
  have HROW := hide hrow
  have HA0 := hide h
  have HL := hide hls
  have HM : Hid (∀ W, Below w.heap.size w W → W.cell? ⟨g, ls.length, none⟩ = some (.slice (some ⟨mb, 0, none⟩) 1 1) ∧ W.cell? ⟨mb, 1, none⟩ = some (.int .i64 772)) := hide (fun W hW => ⟨(hW.cell (p := ⟨g, ls.length, none⟩) hg).trans hm1, (hW.cell (p := ⟨mb, 1, none⟩) hmb).trans hm2⟩)
  subst hA
  have hci : (ls.length : Int) + 1 ≤ (c : Int) := by omega
  clear hrow h ho hls hm1 hm2 hc
  simp only [instV] at *
  go_enter Tryd.func40, Tryd.ntmps40
  go_wp2_with fail
  generalize (w.alloc (.cells #[.int .i64 n, .slice (some ⟨g, 0, none⟩) ls.length c] 49)).alloc (.cells #[.int .i64 n, .slice A0 ls.length c0] 49) = w1 at *
  have HZ1 : Hid (w.heap.size + 1 < w1.heap.size) := hide (lt_of_block HX.out.2)
  have HC : Hid (∀ W, Below w1.heap.size w1 W → W.cell? ⟨w.heap.size, 0, none⟩ = some (.int .i64 n) ∧ W.cell? ⟨w.heap.size, 1, none⟩ = some (.slice (some ⟨g, 0, none⟩) ls.length c) ∧ W.cell? ⟨w.heap.size + 1, 0, none⟩ = some (.int .i64 n) ∧ W.cell? ⟨w.heap.size + 1, 1, none⟩ = some (.slice A0 ls.length c0)) := hide (fun W hW => ⟨cell_of_row W w.heap.size 0 _ _ (0, 0) ((hW.block _ (lt_of_block HX.out.1)).trans HX.out.1), cell_of_row W w.heap.size 1 _ _ (0, 0) ((hW.block _ (lt_of_block HX.out.1)).trans HX.out.1), cell_of_row W (w.heap.size + 1) 0 _ _ (0, 0) ((hW.block _ (lt_of_block HX.out.2)).trans HX.out.2), cell_of_row W (w.heap.size + 1) 1 _ _ (0, 0) ((hW.block _ (lt_of_block HX.out.2)).trans HX.out.2)⟩)
  go_loopw [5] (fun iv wr => ∃ k : Nat, k ≤ ls.length ∧ iv = .int .i64 k ∧ Below w1.heap.size w1 wr) (fun iv _ => ls.length - (intOf iv).toNat)
  case atStart => exact ⟨0, Nat.zero_le _, rfl, Below.refl _ _⟩
  case round =>
    obtain ⟨k, hk, rfl, hb⟩ := hrel
    have HBR := hide hb
    have HBW : Hid (Below w.heap.size w wr) := hide (HB.out.trans (hb.mono (by have := HZ1.out; omega)))
    obtain ⟨x0, x1, x2, x3⟩ := HC.out wr hb
    clear hb
    by_cases hlt : k < ls.length
    · obtain ⟨⟨a1, a2⟩, l, ha, hlx, hro, hca⟩ := HA0.out.get hlt
      obtain ⟨bb, bo, rfl, hbB, hat⟩ := HA0.out.at_ (by omega)
      have z1 : wr.cell? ⟨bb, bo + k, none⟩ = some (.slice a1 l.length a2) := (HBW.out.cell (p := ⟨bb, bo + k, none⟩) hbB).trans (hat k _ l ha hlx)
      have hkh : k < hs.length := by rw [HLEN.out]; exact hlt
      obtain ⟨z2, r, hr1, hr2, hr3, hr4⟩ := HROW.out k hs[k] l (List.getElem?_eq_getElem hkh) hlx
      rw [hr1] at z2
      generalize hs[k].2 = rc at *
      have z3 : wr.cell? ⟨g, k, none⟩ = some (.slice (some ⟨r, 0, none⟩) l.length rc) := (HBW.out.cell (p := ⟨g, k, none⟩) hg).trans z2
      have z4 : wr.cell? ⟨r, l.length * 2 + 1, none⟩ = some (.int .i64 771) := (HBW.out.cell (p := ⟨r, l.length * 2 + 1, none⟩) hr2).trans hr4
      have hl20 := HL.out l (List.mem_of_getElem? hlx)
      have hrc : (l.length : Int) + 1 ≤ (rc : Int) := by omega
      have hki : (k : Int) < (ls.length : Int) := by omega
      have hw1 : IntKind.i64.wrap ((l.length : Int) + 1) = (l.length : Int) + 1 := Go.IntWalk.i64_in _ (by omega)
      have hn1 : (0 : Int) ≤ (l.length : Int) + 1 := by omega
      have hn2 : ((l.length : Int) + 1).toNat = l.length + 1 := by omega
      have hn3 : (l.length : Int) < (l.length : Int) + 1 := by omega
      clear hat ha hlx hro hca z2 hr1 hr3 hr4 hkh
      go_wp2_with fail
      go_roundw
      case rel => exact ⟨k + 1, by omega, by go_num, HBR.out⟩
      case measure => simp [intOf]; omega
    · obtain rfl : k = ls.length := by omega
      have hw1 : IntKind.i64.wrap ((ls.length : Int) + 1) = (ls.length : Int) + 1 := Go.IntWalk.i64_in _ (by omega)
      have hn1 : (0 : Int) ≤ (ls.length : Int) + 1 := by omega
      have hn2 : ((ls.length : Int) + 1).toNat = ls.length + 1 := by omega
      have hn3 : (ls.length : Int) < (ls.length : Int) + 1 := by omega
      have HSS : Hid (∀ W, Below wr.heap.size wr W → (W.cell? ⟨w.heap.size, 0, none⟩ = some (.int .i64 n) ∧ W.cell? ⟨w.heap.size, 1, none⟩ = some (.slice (some ⟨g, 0, none⟩) ls.length c) ∧ W.cell? ⟨w.heap.size + 1, 0, none⟩ = some (.int .i64 n) ∧ W.cell? ⟨w.heap.size + 1, 1, none⟩ = some (.slice A0 ls.length c0)) ∧ W.cell? ⟨g, ls.length, none⟩ = some (.slice (some ⟨mb, 0, none⟩) 1 1) ∧ W.cell? ⟨mb, 1, none⟩ = some (.int .i64 772)) := hide (fun W hW => ⟨HC.out W (HBR.out.trans (hW.mono HBR.out.size)), HM.out W (HBW.out.trans (hW.mono HBW.out.size))⟩)
      have hS0 := HSS.out wr.drew ((Below.refl _ _).drew)
      have HSD := hide (HSI.out wr.drew HBW.out.drew)
      unfold ValPost at HSD
      go_upto_region 7 with fail
      clear x0 x1 x2 x3
      refine wp_region_U 22 (fun W => (W.cell? ⟨w.heap.size, 0, none⟩ = some (.int .i64 n) ∧ W.cell? ⟨w.heap.size, 1, none⟩ = some (.slice (some ⟨g, 0, none⟩) ls.length c) ∧ W.cell? ⟨w.heap.size + 1, 0, none⟩ = some (.int .i64 n) ∧ W.cell? ⟨w.heap.size + 1, 1, none⟩ = some (.slice A0 ls.length c0)) ∧ W.cell? ⟨g, ls.length, none⟩ = some (.slice (some ⟨mb, 0, none⟩) 1 1) ∧ W.cell? ⟨mb, 1, none⟩ = some (.int .i64 772)) rfl hS0 (fun hHeld => ?_)
      clear hS0
      refine AnyU.take (i := 0) (v := ?v1) rfl (by kernel_rfl) (by kernel_rfl) (by kernel_rfl) (by kernel_rfl) (fun _ _ _ h => h) (Or.inl ⟨by rfl, ?hy1⟩) hHeld ?r1
      case hy1 => (intro w hSw; (try dsimp only at hSw); go_simp <;> with_reducible rfl)
      simp only [Act.put, List.setIfInBounds_toArray, List.set_cons_zero, List.set_cons_succ]
      refine AnyU.take (i := 1) (v := ?v2) rfl (by kernel_rfl) (by kernel_rfl) (by kernel_rfl) (by kernel_rfl) (fun _ _ _ h => h) (Or.inl ⟨by rfl, ?hy2⟩) hHeld ?r2
      case hy2 => (intro w hSw; (try dsimp only at hSw); go_simp <;> with_reducible rfl)
      simp only [Act.put, List.setIfInBounds_toArray, List.set_cons_zero, List.set_cons_succ]
      refine AnyU.next (js := [2]) (by kernel_rfl) (by simp) (NextU.cons rfl (fun K hK => ?_) NextU.nil)
      go_simp
      refine (HSD.out).mono ?_
      rintro e w2 ⟨rfl, hb2⟩
      have HB2 := hide (((Below.refl wr.heap.size wr).drew).trans hb2)
      have hS2 := HSS.out w2 HB2.out
      clear hb2
      go_wp2_with fail
      refine hK.out _ _ (fun _ => hS2) (fun hHeld => ?_)
      replace hHeld := hHeld (by decide)
      try simp only [Act.put, List.setIfInBounds_toArray, List.set_cons_zero, List.set_cons_succ]
      refine AnyU.take (i := 3) (v := ?v3) rfl (by kernel_rfl) (by kernel_rfl) (by kernel_rfl) (by kernel_rfl) (fun _ _ _ h => h) (Or.inl ⟨by rfl, ?hy3⟩) hHeld ?r3
      case hy3 => (intro w hSw; (try dsimp only at hSw); go_simp <;> with_reducible rfl)
      simp only [Act.put, List.setIfInBounds_toArray, List.set_cons_zero, List.set_cons_succ]
      refine AnyU.take (i := 4) (v := ?v4) rfl (by kernel_rfl) (by kernel_rfl) (by kernel_rfl) (by kernel_rfl) (fun _ _ _ h => h) (Or.inl ⟨by rfl, ?hy4⟩) hHeld ?r4
      case hy4 => (intro w hSw; (try dsimp only at hSw); go_simp <;> with_reducible rfl)
      simp only [Act.put, List.setIfInBounds_toArray, List.set_cons_zero, List.set_cons_succ]
      refine AnyU.take (i := 5) (v := ?v5) rfl (by kernel_rfl) (by kernel_rfl) (by kernel_rfl) (by kernel_rfl) (fun _ _ _ h => h) (Or.inl ⟨by rfl, ?hy5⟩) hHeld ?r5
      case hy5 => (intro w hSw; (try dsimp only at hSw); go_simp <;> with_reducible rfl)
      simp only [Act.put, List.setIfInBounds_toArray, List.set_cons_zero, List.set_cons_succ]
      refine AnyU.take (i := 6) (v := ?v6) rfl (by kernel_rfl) (by kernel_rfl) (by kernel_rfl) (by kernel_rfl) (fun _ _ _ h => h) (Or.inl ⟨by rfl, ?hy6⟩) hHeld ?r6
      case hy6 => (intro w hSw; (try dsimp only at hSw); go_simp <;> with_reducible rfl)
      simp only [Act.put, List.setIfInBounds_toArray, List.set_cons_zero, List.set_cons_succ]
      refine AnyU.take (i := 7) (v := ?v7) rfl (by kernel_rfl) (by kernel_rfl) (by kernel_rfl) (by kernel_rfl) (fun _ _ _ h => h) (Or.inl ⟨by rfl, ?hy7⟩) hHeld ?r7
      case hy7 => (intro w hSw; (try dsimp only at hSw); go_simp <;> with_reducible rfl)
      simp only [Act.put, List.setIfInBounds_toArray, List.set_cons_zero, List.set_cons_succ]
      refine AnyU.take (i := 8) (v := ?v8) rfl (by kernel_rfl) (by kernel_rfl) (by kernel_rfl) (by kernel_rfl) (fun _ _ _ h => h) (Or.inl ⟨by rfl, ?hy8⟩) hHeld ?r8
      case hy8 => (intro w hSw; (try dsimp only at hSw); go_simp <;> with_reducible rfl)
      simp only [Act.put, List.setIfInBounds_toArray, List.set_cons_zero, List.set_cons_succ]
      refine AnyU.take (i := 9) (v := ?v9) rfl (by kernel_rfl) (by kernel_rfl) (by kernel_rfl) (by kernel_rfl) (fun _ _ _ h => h) (Or.inl ⟨by rfl, ?hy9⟩) hHeld ?r9
      case hy9 => (intro w hSw; (try dsimp only at hSw); go_simp <;> with_reducible rfl)
      simp only [Act.put, List.setIfInBounds_toArray, List.set_cons_zero, List.set_cons_succ]
      refine AnyU.take (i := 10) (v := ?v10) rfl (by kernel_rfl) (by kernel_rfl) (by kernel_rfl) (by kernel_rfl) (fun _ _ _ h => h) (Or.inl ⟨by rfl, ?hy10⟩) hHeld ?r10
      case hy10 => (intro w hSw; (try dsimp only at hSw); go_simp <;> with_reducible rfl)
      simp only [Act.put, List.setIfInBounds_toArray, List.set_cons_zero, List.set_cons_succ]
      refine AnyU.take (i := 11) (v := ?v11) rfl (by kernel_rfl) (by kernel_rfl) (by kernel_rfl) (by kernel_rfl) (fun _ _ _ h => h) (Or.inl ⟨by rfl, ?hy11⟩) hHeld ?r11
      case hy11 => (intro w hSw; (try dsimp only at hSw); go_simp <;> with_reducible rfl)
      simp only [Act.put, List.setIfInBounds_toArray, List.set_cons_zero, List.set_cons_succ]
      refine AnyU.take (i := 12) (v := ?v12) rfl (by kernel_rfl) (by kernel_rfl) (by kernel_rfl) (by kernel_rfl) (fun _ _ _ h => h) (Or.inl ⟨by rfl, ?hy12⟩) hHeld ?r12
      case hy12 => (intro w hSw; (try dsimp only at hSw); go_simp <;> with_reducible rfl)
      simp only [Act.put, List.setIfInBounds_toArray, List.set_cons_zero, List.set_cons_succ]
      refine AnyU.take (i := 13) (v := ?v13) rfl (by kernel_rfl) (by kernel_rfl) (by kernel_rfl) (by kernel_rfl) (fun _ _ _ h => h) (Or.inl ⟨by rfl, ?hy13⟩) hHeld ?r13
      case hy13 => (intro w hSw; (try dsimp only at hSw); go_simp <;> with_reducible rfl)
      simp only [Act.put, List.setIfInBounds_toArray, List.set_cons_zero, List.set_cons_succ]
      refine AnyU.take (i := 14) (v := ?v14) rfl (by kernel_rfl) (by kernel_rfl) (by kernel_rfl) (by kernel_rfl) (fun _ _ _ h => h) (Or.inl ⟨by rfl, ?hy14⟩) hHeld ?r14
      case hy14 => (intro w hSw; (try dsimp only at hSw); go_simp <;> with_reducible rfl)
      simp only [Act.put, List.setIfInBounds_toArray, List.set_cons_zero, List.set_cons_succ]
      refine AnyU.take (i := 15) (v := ?v15) rfl (by kernel_rfl) (by kernel_rfl) (by kernel_rfl) (by kernel_rfl) (fun _ _ _ h => h) (Or.inl ⟨by rfl, ?hy15⟩) hHeld ?r15
      case hy15 => (intro w hSw; (try dsimp only at hSw); go_simp <;> with_reducible rfl)
      simp only [Act.put, List.setIfInBounds_toArray, List.set_cons_zero, List.set_cons_succ]
      refine AnyU.take (i := 16) (v := ?v16) rfl (by kernel_rfl) (by kernel_rfl) (by kernel_rfl) (by kernel_rfl) (fun _ _ _ h => h) (Or.inl ⟨by rfl, ?hy16⟩) hHeld ?r16
      case hy16 => (intro w hSw; (try dsimp only at hSw); go_simp <;> with_reducible rfl)
      simp only [Act.put, List.setIfInBounds_toArray, List.set_cons_zero, List.set_cons_succ]
      refine AnyU.take (i := 17) (v := ?v17) rfl (by kernel_rfl) (by kernel_rfl) (by kernel_rfl) (by kernel_rfl) (fun _ _ _ h => h) (Or.inl ⟨by rfl, ?hy17⟩) hHeld ?r17
      case hy17 => (intro w hSw; (try dsimp only at hSw); go_simp <;> with_reducible rfl)
      simp only [Act.put, List.setIfInBounds_toArray, List.set_cons_zero, List.set_cons_succ]
      refine AnyU.take (i := 18) (v := ?v18) rfl (by kernel_rfl) (by kernel_rfl) (by kernel_rfl) (by kernel_rfl) (fun _ _ _ h => h) (Or.inl ⟨by rfl, ?hy18⟩) hHeld ?r18
      case hy18 => (intro w hSw; (try dsimp only at hSw); go_simp <;> with_reducible rfl)
      simp only [Act.put, List.setIfInBounds_toArray, List.set_cons_zero, List.set_cons_succ]
      refine AnyU.take (i := 19) (v := ?v19) rfl (by kernel_rfl) (by kernel_rfl) (by kernel_rfl) (by kernel_rfl) (fun _ _ _ h => h) (Or.inl ⟨by rfl, ?hy19⟩) hHeld ?r19
      case hy19 => (intro w hSw; (try dsimp only at hSw); go_simp <;> with_reducible rfl)
      simp only [Act.put, List.setIfInBounds_toArray, List.set_cons_zero, List.set_cons_succ]
      refine AnyU.take (i := 20) (v := ?v20) rfl (by kernel_rfl) (by kernel_rfl) (by kernel_rfl) (by kernel_rfl) (fun _ _ _ h => h) (Or.inl ⟨by rfl, ?hy20⟩) hHeld ?r20
      case hy20 => (intro w hSw; (try dsimp only at hSw); go_simp <;> with_reducible rfl)
      simp only [Act.put, List.setIfInBounds_toArray, List.set_cons_zero, List.set_cons_succ]
      refine AnyU.next (js := [21]) (by kernel_rfl) (by simp) (NextU.cons rfl (fun K hK => ?_) NextU.nil)
      go_simp
      refine hK.out _ _ (fun _ => hS2) (fun hHeld => ?_)
      replace hHeld := hHeld (by decide)
      try simp only [Act.put, List.setIfInBounds_toArray, List.set_cons_zero, List.set_cons_succ]
      refine AnyU.over (by kernel_rfl) ?_ _
      clear hS2 hHeld
      go_wp2_with fail
      go_ret
      exact ⟨rfl, HBW.out.trans (HB2.out.mono HBW.out.size)⟩
end Go.Proofs.YtffpiaipdeebcaaDoor
