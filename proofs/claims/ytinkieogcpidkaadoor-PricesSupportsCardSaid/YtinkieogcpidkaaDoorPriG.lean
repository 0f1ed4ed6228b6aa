/- The walks of a board's gain, of its rest. -/
import Derived.Test.YtinkieogcpidkaaDoorPriC
import Derived.Test.YtinkieogcpidkaaDoorUntil
namespace Go.Proofs.YtinkieogcpidkaaDoor
open Go.RowKit Go.Maps Go.Shelf
open Go.ChangeMaps Go.WideMaps

set_option maxRecDepth 100000 in
set_option maxHeartbeats 4000000 in
theorem gain_any (bb : Nat) (cnt : Nat → Int) (A : Option Addr) (c : Nat) (l : List Offer) (free : Nat) (hf : free < 4294967296) (w : World) (h : w.heap[bb]? = some (.cells (rowC cnt) 76 (0, 0))) (hT : TabW w)
    (ho : Offs w w.heap.size A l) (hl : l.length ≤ 1000000) (hw : OWide l) :
    Calls Tryd.prog 45 #[.pointer (some ⟨bb, 0, none⟩), .slice A l.length c, .int .u32 (free : Int)] w (ValPost (.tuple #[.int .i64 (gainC cnt free l).1, .int .i64 (gainC cnt free l).2]) w) := by
  have hat := Offs.at_ ho
  have HWD := hide hw
  have HBR := hide h
  have HT := hide hT
  clear h hT ho hw
  go_enter Tryd.func45, Tryd.ntmps45
  go_wp2_with fail
  go_loopw [8, 9, 15] (fun bv av iv wr => ∃ k : Nat, k ≤ l.length ∧ iv = .int .i64 k ∧ bv = .int .i64 (gainK cnt free l k).1 ∧ av = .int .i64 (gainK cnt free l k).2 ∧ Below w.heap.size w wr) (fun _ _ iv _ => l.length - (intOf iv).toNat)
  case atStart => exact ⟨0, Nat.zero_le _, rfl, rfl, rfl, Below.refl _ _⟩
  case round =>
    obtain ⟨k, hk, rfl, rfl, rfl, hb⟩ := hrel
    have HB := hide hb
    clear hb
    by_cases hlt : k < l.length
    · obtain ⟨b, o, rfl, hbB, hcc⟩ := hat (by omega)
      obtain ⟨x, hx⟩ : ∃ x, l[k]? = some x := ⟨l[k], List.getElem?_eq_getElem hlt⟩
      obtain ⟨hc0, hc1⟩ := hcc k x hx
      have d0 := (HB.out.cell (p := ⟨b, o + k * 2, none⟩) hbB).trans hc0
      have d1 := (HB.out.cell (p := ⟨b, o + k * 2 + 1, none⟩) hbB).trans hc1
      have hxw := HWD.out x (List.mem_of_getElem? hx)
      have HX := hide hx
      obtain ⟨xg, xc⟩ := x
      simp only at d0 d1 hxw
      have hg32 := hxw.1
      have hki : (k : Int) < (l.length : Int) := by omega
      obtain ⟨bt, ai, hG⟩ : ∃ bt ai, gainK cnt free l k = (bt, ai) := ⟨_, _, rfl⟩
      rw [hG]
      obtain ⟨co, hco⟩ : ∃ co, costC cnt xg = co := ⟨_, rfl⟩
      obtain ⟨y, hy⟩ : ∃ y, IntKind.i64.wrap (xc - co) = y := ⟨_, rfl⟩
      have HIT : Hid (withinB xg free = true → bt < y → gainK cnt free l (k + 1) = (y, (k : Int))) := hide (fun h1 h2 => by
        have := gain_hit (cnt := cnt) HX.out h1 (by rw [hG, hco, hy]; exact h2)
        rw [this]
        simp only
        rw [hco, hy])
      have HMISS : Hid (¬ (withinB xg free = true ∧ bt < y) → gainK cnt free l (k + 1) = (bt, ai)) := hide (fun h1 => by
        have := gain_miss (cnt := cnt) HX.out (by rw [hG, hco, hy]; exact h1)
        rw [this, hG])
      have HCO := hide hco
      clear hc0 hc1 hcc hat hx hxw hG hco
      have HWI := hide (fun W => within_any xg free hg32 hf W)
      generalize hwb : withinB xg free = wb at *
      cases wb
      · have HN := hide (HMISS.out (fun h => by simp at h))
        go_wp2_with (go_at_call 36; refine (HWI.out _).mono ?_; rintro e w1 ⟨rfl, rfl⟩)
        go_roundw
        case rel => exact ⟨k + 1, by omega, by go_num, by rw [HN.out], by rw [HN.out], HB.out.alloc HB.out.size _⟩
        case measure => simp [intOf]; omega
      · have HBA : Hid (Below wr.heap.size wr (wr.alloc (.cells #[.int .u32 (xg : Int), .int .i64 xc] 59))) := hide ((Below.refl _ _).alloc (Nat.le_refl _) _)
        have HQ : Hid ((wr.alloc (.cells #[.int .u32 (xg : Int), .int .i64 xc] 59)).heap[wr.heap.size]? = some (.cells #[.int .u32 (xg : Int), .int .i64 xc] 59 (0, 0))) := hide (heap_alloc_new wr _)
        go_upto_region 6 with (go_at_call 36; refine (HWI.out _).mono ?_; rintro e w1 ⟨rfl, rfl⟩)
        generalize wr.alloc (.cells #[.int .u32 (xg : Int), .int .i64 xc] 59) = wa at *
        have HBW := hide (HB.out.trans (HBA.out.mono HB.out.size))
        have HCL := hide (cost_any bb cnt xg hg32 wa.drew ((HBW.out.block _ (lt_of_block HBR.out)).trans HBR.out) (HT.out.below HBW.out.drew))
        rw [HCO.out] at HCL
        have hS0 : wa.drew.cell? ⟨wr.heap.size, 0, none⟩ = some (.int .u32 (xg : Int)) ∧ wa.drew.cell? ⟨wr.heap.size, 1, none⟩ = some (.int .i64 xc) := ⟨cell_of_row wa.drew _ 0 _ _ (0, 0) HQ.out, cell_of_row wa.drew _ 1 _ _ (0, 0) HQ.out⟩
        refine wp_region_U 8 (fun X => X.cell? ⟨wr.heap.size, 0, none⟩ = some (.int .u32 (xg : Int)) ∧ X.cell? ⟨wr.heap.size, 1, none⟩ = some (.int .i64 xc)) rfl hS0 (fun hHeld => ?_)
        refine AnyU.take (i := 0) (v := ?v101) rfl (by kernel_rfl) (by kernel_rfl) (by kernel_rfl) (by kernel_rfl) (fun _ _ _ h => h) (Or.inl ⟨by rfl, ?hy101⟩) hHeld ?r101
        case hy101 => (intro w hSw; (try dsimp only at hSw); go_simp <;> with_reducible rfl)
        simp only [Act.put, List.setIfInBounds_toArray, List.set_cons_zero, List.set_cons_succ]
        refine AnyU.take (i := 1) (v := ?v102) rfl (by kernel_rfl) (by kernel_rfl) (by kernel_rfl) (by kernel_rfl) (fun _ _ _ h => h) (Or.inl ⟨by rfl, ?hy102⟩) hHeld ?r102
        case hy102 => (intro w hSw; (try dsimp only at hSw); go_simp <;> with_reducible rfl)
        simp only [Act.put, List.setIfInBounds_toArray, List.set_cons_zero, List.set_cons_succ]
        refine AnyU.take (i := 2) (v := ?v103) rfl (by kernel_rfl) (by kernel_rfl) (by kernel_rfl) (by kernel_rfl) (fun _ _ _ h => h) (Or.inl ⟨by rfl, ?hy103⟩) hHeld ?r103
        case hy103 => (intro w hSw; (try dsimp only at hSw); go_simp <;> with_reducible rfl)
        simp only [Act.put, List.setIfInBounds_toArray, List.set_cons_zero, List.set_cons_succ]
        refine AnyU.take (i := 3) (v := ?v104) rfl (by kernel_rfl) (by kernel_rfl) (by kernel_rfl) (by kernel_rfl) (fun _ _ _ h => h) (Or.inl ⟨by rfl, ?hy104⟩) hHeld ?r104
        case hy104 => (intro w hSw; (try dsimp only at hSw); go_simp <;> with_reducible rfl)
        simp only [Act.put, List.setIfInBounds_toArray, List.set_cons_zero, List.set_cons_succ]
        refine AnyU.take (i := 4) (v := ?v105) rfl (by kernel_rfl) (by kernel_rfl) (by kernel_rfl) (by kernel_rfl) (fun _ _ _ h => h) (Or.inl ⟨by rfl, ?hy105⟩) hHeld ?r105
        case hy105 => (intro w hSw; (try dsimp only at hSw); go_simp <;> with_reducible rfl)
        simp only [Act.put, List.setIfInBounds_toArray, List.set_cons_zero, List.set_cons_succ]
        refine AnyU.next (js := [5]) (by kernel_rfl) (by simp) (NextU.cons rfl (fun K hK => ?_) NextU.nil)
        go_simp
        refine (HCL.out).mono ?_
        rintro e w2 ⟨rfl, hb2⟩
        have hS2 : w2.cell? ⟨wr.heap.size, 0, none⟩ = some (.int .u32 (xg : Int)) ∧ w2.cell? ⟨wr.heap.size, 1, none⟩ = some (.int .i64 xc) := ⟨(hb2.cell (World.block_lt_of_cell? _ _ hS0.1)).trans hS0.1, (hb2.cell (World.block_lt_of_cell? _ _ hS0.2)).trans hS0.2⟩
        have HB2 : Hid (Below w.heap.size w w2) := hide (HBW.out.trans (show Below w.heap.size wa w2 from ⟨hb2.os, hb2.tape, hb2.output, hb2.size, fun k hk => hb2.block k (Nat.lt_of_lt_of_le hk HBW.out.size)⟩))
        clear hb2 hS0 HCL hHeld
        go_wp2_with fail
        refine hK.out _ _ (fun _ => hS2) (fun hHeld => ?_)
        replace hHeld := hHeld (by decide)
        try simp only [Act.put, List.setIfInBounds_toArray, List.set_cons_zero, List.set_cons_succ]
        refine AnyU.take (i := 6) (v := ?v106) rfl (by kernel_rfl) (by kernel_rfl) (by kernel_rfl) (by kernel_rfl) (fun _ _ _ h => h) (Or.inl ⟨by rfl, ?hy106⟩) hHeld ?r106
        case hy106 => (intro w hSw; (try dsimp only at hSw); go_simp <;> with_reducible rfl)
        simp only [Act.put, List.setIfInBounds_toArray, List.set_cons_zero, List.set_cons_succ]
        refine AnyU.take (i := 7) (v := ?v107) rfl (by kernel_rfl) (by kernel_rfl) (by kernel_rfl) (by kernel_rfl) (fun _ _ _ h => h) (Or.inl ⟨by rfl, ?hy107⟩) hHeld ?r107
        case hy107 => (intro w hSw; (try dsimp only at hSw); go_simp <;> with_reducible rfl)
        simp only [Act.put, List.setIfInBounds_toArray, List.set_cons_zero, List.set_cons_succ]
        clear hHeld hK K
        refine AnyU.over (by kernel_rfl) ?_ _
        by_cases hbt : bt < y
        · have HN := hide (HIT.out (by first | rfl | trivial) hbt)
          go_wp2_with fail
          go_roundw
          case rel => exact ⟨k + 1, by omega, by go_num, by rw [HN.out], by rw [HN.out], HB2.out⟩
          case measure => simp [intOf]; omega
        · have HN := hide (HMISS.out (fun h => hbt h.2))
          go_wp2_with fail
          go_roundw
          case rel => exact ⟨k + 1, by omega, by go_num, by rw [HN.out], by rw [HN.out], HB2.out⟩
          case measure => simp [intOf]; omega
    · obtain rfl : k = l.length := by omega
      go_wp2_with fail
      go_ret2
      exact ⟨rfl, HB.out⟩

set_option maxRecDepth 100000 in
set_option maxHeartbeats 4000000 in
theorem rest_any (bb : Nat) (cnt : Nat → Int) (n : Int) (A : Option Addr) (c : Nat) (hs : List Hdr) (ls : List (List Offer)) (k : Nat) (hk : k ≤ ls.length) (free : Nat) (hf : free < 4294967296) (w : World) (h : w.heap[bb]? = some (.cells (rowC cnt) 76 (0, 0))) (hT : TabW w)
    (hB : Buys w w.heap.size A hs ls) (hc : ls.length ≤ c) (hl : ls.length ≤ 1000000) (hls : ∀ l ∈ ls, l.length ≤ 1000000) (hw : BWide ls) :
    Calls Tryd.prog 38 #[.pointer (some ⟨bb, 0, none⟩), instV n A ls.length c, .int .i64 k, .int .u32 (free : Int)] w (ValPost (.int .i64 (restC cnt free ls k)) w) := by
  have HBY := hide hB
  have HBR := hide h
  have HT := hide hT
  have HLL := hide hls
  have HW := hide hw
  clear h hT hB hls hw
  simp only [instV] at *
  go_enter Tryd.func38, Tryd.ntmps38
  go_upto_region 1 with fail
  have HB0 : Hid (Below w.heap.size w (w.alloc (.cells #[.int .i64 n, .slice A ls.length c] 24))) := hide ((Below.refl _ _).alloc (Nat.le_refl _) _)
  have HX0 : Hid ((w.alloc (.cells #[.int .i64 n, .slice A ls.length c] 24)).heap[w.heap.size]? = some (.cells #[.int .i64 n, .slice A ls.length c] 24 (0, 0))) := hide (heap_alloc_new w _)
  generalize w.alloc (.cells #[.int .i64 n, .slice A ls.length c] 24) = w0 at *
  have HCL := hide (cost_any bb cnt free hf w0 ((HB0.out.block _ (lt_of_block HBR.out)).trans HBR.out) (HT.out.below HB0.out))
  go_upto_region 2 with (go_at_call 46; refine (HCL.out).mono ?_; rintro e w1 ⟨rfl, hb1⟩; have HB1 := hide (HB0.out.trans (hb1.mono HB0.out.size)); have x0 := cell_of_row _ _ 1 _ _ (0, 0) ((hb1.block _ (lt_of_block HX0.out)).trans HX0.out); simp only [List.getElem?_toArray, List.getElem?_cons_zero, List.getElem?_cons_succ] at x0; clear hb1)
  clear HCL
  have HBR1 := hide ((HB1.out.block _ (lt_of_block HBR.out)).trans HBR.out)
  have hk2 : (k : Int) ≤ (ls.length : Int) := by omega
  have hk3 : (k : Int) ≤ (c : Int) := by omega
  by_cases hck : c = k
  · subst hck
    have h0 : ls.length - c = 0 := by omega
    have HE : Hid (restC cnt free ls c = costC cnt free) := hide (by unfold restC; rw [h0]; rfl)
    rw [HE.out]
    go_upto_region 3 with fail
    go_loopw [9, 22] (fun sv iv wr => sv = .int .i64 (costC cnt free) ∧ iv = .int .i64 0 ∧ w1 = wr) (fun _ _ _ => 0)
    case atStart => exact ⟨rfl, rfl, by trivial⟩
    case round =>
      obtain ⟨rfl, rfl, rfl⟩ := hrel
      go_wp2_with fail
      go_ret
      exact ⟨by rw [HE.out]; rfl, HB1.out⟩
  · have hcd : ((c : Int) == (k : Int)) = false := by rw [beq_eq_false_iff_ne]; omega
    go_upto_region 3 with fail
    obtain ⟨P, hP⟩ : ∃ P, P = Option.map (fun x => x.add k) A := ⟨_, rfl⟩
    obtain ⟨m, hm⟩ : ∃ m, m = ls.length - k := ⟨_, rfl⟩
    obtain ⟨c', hc'⟩ : ∃ c', c' = c - k := ⟨_, rfl⟩
    rw [← hP, ← hm, ← hc']
    have HPP : Hid (∀ i, i < m → ∃ b o a ac l, P = some ⟨b, o, none⟩ ∧ b < w.heap.size ∧ w.cell? ⟨b, o + i, none⟩ = some (.slice a l.length ac) ∧ ls[k + i]? = some l ∧ Offs w w.heap.size a l) := hide (fun i hi => by
      obtain ⟨b, o, rfl, hb, hcc⟩ := HBY.out.at_ (by omega)
      obtain ⟨a, l, ha, hl1, ho, _⟩ := HBY.out.get (i := k + i) (by omega)
      have hadd : (⟨b, o, none⟩ : Addr).add k = ⟨b, o + k, none⟩ := by unfold Addr.add; split <;> simp_all
      refine ⟨b, o + k, a.1, a.2, l, by rw [hP, Option.map_some, hadd], hb, ?_, hl1, ho⟩
      rw [Nat.add_assoc]
      exact hcc _ _ _ ha hl1)
    have HMM : Hid (restC cnt free ls k = restK cnt free ls k m) := hide (by rw [hm]; rfl)
    rw [HMM.out]
    have HMK := hide hm
    clear hP hc' HB0 HX0 x0 hm
    go_loopw [9, 22] (fun sv iv wr => ∃ i : Nat, i ≤ m ∧ sv = .int .i64 (restK cnt free ls k i) ∧ iv = .int .i64 i ∧ Below w.heap.size w wr) (fun _ iv _ => m - (intOf iv).toNat)
    case atStart => exact ⟨0, Nat.zero_le _, rfl, rfl, HB1.out⟩
    case round =>
      obtain ⟨i, hi, rfl, rfl, hb⟩ := hrel
      have HB := hide hb
      clear hb
      by_cases hlt : i < m
      · obtain ⟨b, o, a, ac, l, rfl, hbl, hcl, hxl, hol⟩ := HPP.out i hlt
        have d0 := (HB.out.cell (p := ⟨b, o + i, none⟩) hbl).trans hcl
        have hil : (i : Int) < (m : Int) := by omega
        have hmb : m ≤ 1000000 := by have := HMK.out; omega
        have hln := HLL.out l (List.mem_of_getElem? hxl)
        have HGN := hide (gain_any bb cnt a ac l free hf wr ((HB.out.block _ (lt_of_block HBR.out)).trans HBR.out) (HT.out.below HB.out) (hol.up HB.out) hln (HW.out l (List.mem_of_getElem? hxl)))
        obtain ⟨s, hs⟩ : ∃ s, s = restK cnt free ls k i := ⟨_, rfl⟩
        obtain ⟨⟨gv, ga⟩, hgg⟩ : ∃ g, gainC cnt free l = g := ⟨_, rfl⟩
        obtain ⟨s', hs'⟩ : ∃ s', IntKind.i64.wrap (s + gv) = s' := ⟨_, rfl⟩
        have HS : Hid (restK cnt free ls k (i + 1) = s') := hide (by rw [rest_some hxl, ← hs, hgg]; exact hs')
        rw [← hs]
        rw [hgg] at HGN
        clear hcl hol hs hgg
        go_wp2_with (go_at_call 45; refine (HGN.out).mono ?_; rintro e w2 ⟨rfl, hb2⟩; have HB2 := hide (HB.out.trans (hb2.mono HB.out.size)); clear hb2)
        go_roundw
        case rel => exact ⟨i + 1, by omega, by rw [HS.out], by go_num, HB2.out⟩
        case measure => simp [intOf]; omega
      · obtain rfl : i = m := by omega
        go_wp2_with fail
        go_ret
        exact ⟨by rw [HMM.out]; rfl, HB.out⟩
end Go.Proofs.YtinkieogcpidkaaDoor
