/- gavelref07.SameOffers, Same (printed by gen_ss7.py). -/
import Derived.Test.YtffpiaipdeebcaaDoorGcF
import Derived.Deep.RegionHeld3
import Derived.Deep.CutRange
namespace Go.Proofs.YtffpiaipdeebcaaDoor
open Go.RowKit Go.Maps
open Go.ChangeMaps Go.WideMaps

set_option maxRecDepth 100000 in
set_option maxHeartbeats 2000000 in
theorem sameOffers_any (A : Option Addr) (c : Nat) (l : List Offer) (A' : Option Addr) (c' : Nat) (l' : List Offer) (w : World) (h : Offs w w.heap.size A l) (h' : Offs w w.heap.size A' l') (hl : l.length ≤ 1000000) :
    Calls Tryd.prog 55 #[.slice A l.length c, .slice A' l'.length c'] w (ValPost (.bool (decide (l = l'))) w) := by
  by_cases hlen : l.length = l'.length
  · have hlen' : ((l.length : Int) != (l'.length : Int)) = false := by simp [hlen]
    have hat := Offs.at_ h
    have hat' := Offs.at_ h'
    have HLN := hide hlen
    clear h h' hlen
    go_enter Tryd.func55, Tryd.ntmps55
    go_wp2_with fail
    go_loopw [5] (fun iv wr => ∃ k : Nat, k ≤ l.length ∧ iv = .int .i64 k ∧ (∀ j : Nat, j < k → l[j]? = l'[j]?) ∧ Below w.heap.size w wr) (fun iv _ => l.length - (intOf iv).toNat)
    case atStart => exact ⟨0, Nat.zero_le _, rfl, fun j hj => absurd hj (by omega), Below.refl _ _⟩
    case round =>
      obtain ⟨k, hk, rfl, hno, hb⟩ := hrel
      have HN := hide hno
      have HB := hide hb
      clear hno
      by_cases hlt : k < l.length
      · have hlt' : k < l'.length := by have := HLN.out; omega
        obtain ⟨b, o, rfl, hbB, hcc⟩ := hat (by omega)
        obtain ⟨b', o', rfl, hbB', hcc'⟩ := hat' (by omega)
        obtain ⟨x, hx⟩ : ∃ x, l[k]? = some x := ⟨l[k], List.getElem?_eq_getElem hlt⟩
        obtain ⟨y, hy⟩ : ∃ y, l'[k]? = some y := ⟨l'[k], List.getElem?_eq_getElem hlt'⟩
        obtain ⟨hc0, hc1⟩ := hcc k x hx
        obtain ⟨hc0', hc1'⟩ := hcc' k y hy
        have d0 := (hb.cell (p := ⟨b, o + k * 2, none⟩) hbB).trans hc0
        have d1 := (hb.cell (p := ⟨b, o + k * 2 + 1, none⟩) hbB).trans hc1
        have f0 := (hb.cell (p := ⟨b', o' + k * 2, none⟩) hbB').trans hc0'
        have f1 := (hb.cell (p := ⟨b', o' + k * 2 + 1, none⟩) hbB').trans hc1'
        have HX := hide hx
        have HY := hide hy
        have hki : (k : Int) < (l'.length : Int) := by omega
        clear hcc hcc' hat hat' hc0 hc1 hc0' hc1' hx hy hb
        obtain ⟨x1, x2⟩ := x
        obtain ⟨y1, y2⟩ := y
        simp only at d0 d1 f0 f1
        by_cases hxy : (x1, x2) = (y1, y2)
        · simp only [Prod.mk.injEq] at hxy
          obtain ⟨rfl, rfl⟩ := hxy
          go_wp2_with fail
          go_quiet (fail)
          go_wp2_with fail
          go_roundw
          case rel =>
            refine ⟨k + 1, by omega, by go_num, fun j hj => ?_, below_drewN HB.out _⟩
            rcases Nat.lt_or_ge j k with h1 | h1
            · exact HN.out j h1
            · obtain rfl : j = k := by omega
              rw [HX.out, HY.out]
          case measure => simp [intOf]; omega
        · have HR : Hid (decide (l = l') = false) := hide (by
            simp only [decide_eq_false_iff_not]
            intro e
            have h1 := HX.out
            rw [e, HY.out] at h1
            injection h1 with h1
            exact hxy h1.symm)
          by_cases hg : x1 = y1
          · subst hg
            have hc : (x2 == y2) = false := by
              simp only [beq_eq_false_iff_ne, ne_eq]
              intro e
              exact hxy (by rw [e])
            clear hxy
            go_wp2_with fail
            go_quiet (fail)
            go_wp2_with fail
            go_ret
            exact ⟨by rw [HR.out]; rfl, below_drewN HB.out _⟩
          · have hg' : ((x1 : Int) == (y1 : Int)) = false := by simp; omega
            clear hxy hg
            go_wp2_with fail
            go_quiet (fail)
            go_wp2_with fail
            go_ret
            exact ⟨by rw [HR.out]; rfl, below_drewN HB.out _⟩
      · obtain rfl : k = l.length := by omega
        have HR : Hid (decide (l = l') = true) := hide (by
          rw [decide_eq_true_iff]
          apply List.ext_getElem?
          intro j
          rcases Nat.lt_or_ge j l.length with h1 | h1
          · exact HN.out j h1
          · rw [List.getElem?_eq_none h1, List.getElem?_eq_none (by have := HLN.out; omega)])
        go_wp2_with fail
        go_ret
        exact ⟨by rw [HR.out]; rfl, HB.out⟩
  · have hlen' : ((l.length : Int) != (l'.length : Int)) = true := by simp; omega
    have HR : Hid (decide (l = l') = false) := hide (by simp only [decide_eq_false_iff_not]; intro e; exact hlen (by rw [e]))
    clear hlen h h'
    go_enter Tryd.func55, Tryd.ntmps55
    go_wp2_with fail
    go_ret
    exact ⟨by rw [HR.out]; rfl, Below.refl _ _⟩

set_option maxRecDepth 100000 in
set_option maxHeartbeats 2000000 in
theorem sameInst_eq (n : Int) (A : Option Addr) (c : Nat) (hs : List Hdr) (A' : Option Addr) (c' : Nat) (hs' : List Hdr) (ls : List (List Offer)) (w : World) (h : Buys w w.heap.size A hs ls) (h' : Buys w w.heap.size A' hs' ls) (hl : ls.length ≤ 1000000) (hls : BLens ls) :
    Calls Tryd.prog 39 #[instV n A ls.length c, instV n A' ls.length c'] w (ValPost (.bool true) w) := by
  have HB : Hid (Below w.heap.size w ((w.alloc (.cells #[.int .i64 n, .slice A ls.length c] 49)).alloc (.cells #[.int .i64 n, .slice A' ls.length c'] 49))) := hide (((Below.refl _ _).alloc (Nat.le_refl _) _).alloc (by simp) _)
  have HX : Hid (((w.alloc (.cells #[.int .i64 n, .slice A ls.length c] 49)).alloc (.cells #[.int .i64 n, .slice A' ls.length c'] 49)).heap[w.heap.size]? = some (.cells #[.int .i64 n, .slice A ls.length c] 49 (0, 0)) ∧
      ((w.alloc (.cells #[.int .i64 n, .slice A ls.length c] 49)).alloc (.cells #[.int .i64 n, .slice A' ls.length c'] 49)).heap[w.heap.size + 1]? = some (.cells #[.int .i64 n, .slice A' ls.length c'] 49 (0, 0))) := hide ⟨by
    rw [Below.heap_alloc _ _ _ (by simp)]; exact heap_alloc_new w _, by
    have := heap_alloc_new (w.alloc (.cells #[.int .i64 n, .slice A ls.length c] 49)) (.cells #[.int .i64 n, .slice A' ls.length c'] 49)
    simpa using this⟩
  have HA := hide h
  have HA' := hide h'
  have HL := hide hls
  clear h h' hls
  simp only [instV] at *
  go_enter Tryd.func39, Tryd.ntmps39
  go_wp2_with fail
  generalize (w.alloc (.cells #[.int .i64 n, .slice A ls.length c] 49)).alloc (.cells #[.int .i64 n, .slice A' ls.length c'] 49) = w1 at *
  have HZ1 : Hid (w.heap.size + 1 < w1.heap.size) := hide (lt_of_block HX.out.2)
  go_loopw [5] (fun iv wr => ∃ k : Nat, k ≤ ls.length ∧ iv = .int .i64 k ∧ Below w1.heap.size w1 wr) (fun iv _ => ls.length - (intOf iv).toNat)
  case atStart => exact ⟨0, Nat.zero_le _, rfl, Below.refl _ _⟩
  case round =>
    obtain ⟨k, hk, rfl, hb⟩ := hrel
    have HBR := hide hb
    have HBW : Hid (Below w.heap.size w wr) := hide (HB.out.trans (hb.mono (by have := HZ1.out; omega)))
    have HC : Hid (∀ W, Below w1.heap.size w1 W → W.cell? ⟨w.heap.size, 1, none⟩ = some (.slice A ls.length c) ∧ W.cell? ⟨w.heap.size + 1, 1, none⟩ = some (.slice A' ls.length c')) := hide (fun W hW => ⟨cell_of_row W w.heap.size 1 _ _ (0, 0) ((hW.block _ (lt_of_block HX.out.1)).trans HX.out.1), cell_of_row W (w.heap.size + 1) 1 _ _ (0, 0) ((hW.block _ (lt_of_block HX.out.2)).trans HX.out.2)⟩)
    obtain ⟨x1, x2⟩ := HC.out wr hb
    clear hb
    by_cases hlt : k < ls.length
    · obtain ⟨⟨a1, a2⟩, l, ha, hlx, hro, hca⟩ := HA.out.get hlt
      obtain ⟨⟨a1', a2'⟩, l', ha', hlx', hro', hca'⟩ := HA'.out.get hlt
      have hll : l' = l := by rw [hlx] at hlx'; injection hlx' with h; exact h.symm
      subst hll
      obtain ⟨bb, bo, rfl, hbB, hat⟩ := HA.out.at_ (by omega)
      obtain ⟨bb', bo', rfl, hbB', hat'⟩ := HA'.out.at_ (by omega)
      have HH : Hid (∀ W, Below w.heap.size w W → W.cell? ⟨bb, bo + k, none⟩ = some (.slice a1 l'.length a2) ∧ W.cell? ⟨bb', bo' + k, none⟩ = some (.slice a1' l'.length a2')) := hide (fun W hW => ⟨(hW.cell (p := ⟨bb, bo + k, none⟩) hbB).trans (hat k _ l' ha hlx), (hW.cell (p := ⟨bb', bo' + k, none⟩) hbB').trans (hat' k _ l' ha' hlx')⟩)
      have HSO : Hid (∀ W, Below w.heap.size w W → Calls Tryd.prog 55 #[.slice a1 l'.length a2, .slice a1' l'.length a2'] W (ValPost (.bool true) W)) := hide (fun W hW => by
        have := sameOffers_any a1 a2 l' a1' a2' l' W (hro.up hW) (hro'.up hW) (HL.out l' (List.mem_of_getElem? hlx))
        simpa using this)
      obtain ⟨y1, y2⟩ := HH.out wr HBW.out
      have hki : (k : Int) < (ls.length : Int) := by omega
      clear hat hat' ha ha' hlx hlx' hro hro' hca hca'
      go_wp2_with fail
      go_region_held3 (fun w' => w'.cell? ⟨w.heap.size, 1, none⟩ = some (.slice (some ⟨bb, bo, none⟩) ls.length c) ∧ w'.cell? ⟨w.heap.size + 1, 1, none⟩ = some (.slice (some ⟨bb', bo', none⟩) ls.length c') ∧ w'.cell? ⟨bb, bo + k, none⟩ = some (.slice a1 l'.length a2) ∧ w'.cell? ⟨bb', bo' + k, none⟩ = some (.slice a1' l'.length a2')) (first | exact ⟨x1, x2, y1, y2⟩ | exact ⟨r1, r2, s1, s2⟩ | go_keep) (first | (go_at_call 55; refine (HSO.out _ HBW.out.drew).mono ?_; rintro e w2 ⟨rfl, hb2⟩; have HB2 : Hid (Below w1.heap.size w1 w2) := hide (HBR.out.drew.trans (hb2.mono (by have := HBR.out.size; simpa using this))); obtain ⟨r1, r2⟩ := HC.out w2 HB2.out; obtain ⟨s1, s2⟩ := HH.out w2 (HB.out.trans (HB2.out.mono (by have := HZ1.out; omega))); clear hb2))
      go_wp2_with fail
      go_roundw
      case rel => exact ⟨k + 1, by omega, by go_num, HB2.out⟩
      case measure => simp [intOf]; omega
    · obtain rfl : k = ls.length := by omega
      go_wp2_with fail
      go_ret
      exact ⟨rfl, HBW.out⟩
end Go.Proofs.YtffpiaipdeebcaaDoor
