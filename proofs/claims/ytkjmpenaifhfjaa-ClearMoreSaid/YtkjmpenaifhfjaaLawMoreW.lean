/- The law ClearMore: its walk. -/
import Derived.Test.YtkjmpenaifhfjaaLawMore
namespace Go.Proofs.Ytkjmpenaifhfjaa
open Go.RowKit Go.Maps
open Go.ChangeMaps Go.WideMaps

theorem turn_rem {b : Int} {m : Nat} (hm : 0 < m) (hm2 : m ≤ 40) (hb : -9223372036854775808 ≤ b ∧ b ≤ 9223372036854775807) : ∃ k : Nat, k < m ∧ Int.tmod (Int.tmod b m + m) m = k ∧ -(m : Int) < Int.tmod b m ∧ Int.tmod b m < m := by
  have h1 := Int.tmod_lt_of_pos b (show (0 : Int) < m by omega)
  have h2 : -(m : Int) < Int.tmod b m := by
    have := Int.lt_tmod_of_pos b (show (0 : Int) < m by omega)
    exact this
  refine ⟨(Int.tmod (Int.tmod b m + m) m).toNat, ?_, ?_, h2, h1⟩
  · have h3 := Int.tmod_lt_of_pos (Int.tmod b m + m) (show (0 : Int) < m by omega)
    have h4 := Int.tmod_nonneg (m : Int) (show 0 ≤ Int.tmod b m + m by omega)
    omega
  · have h4 := Int.tmod_nonneg (m : Int) (show 0 ≤ Int.tmod b m + m by omega)
    omega

theorem shl_all {n : Int} (h1 : 1 ≤ n) (h2 : n ≤ 10) : IntKind.u32.wrap (IntKind.u32.wrap (2 ^ n.toNat) - 1) = (allI n : Int) := by
  have hn : n = 1 ∨ n = 2 ∨ n = 3 ∨ n = 4 ∨ n = 5 ∨ n = 6 ∨ n = 7 ∨ n = 8 ∨ n = 9 ∨ n = 10 := by omega
  rcases hn with rfl | rfl | rfl | rfl | rfl | rfl | rfl | rfl | rfl | rfl <;> decide

set_option maxRecDepth 100000 in
set_option maxHeartbeats 8000000 in
theorem clearMore_any (n : Int) (A : Option Addr) (c : Nat) (hs : List Hdr) (ls : List (List Offer)) (b : Int) (og : Nat) (oc : Int) (w : World) (h : Buys w w.heap.size A hs ls) (hl : ls.length ≤ maxLen) (hls : ∀ l ∈ ls, l.length ≤ maxLen) (hw : BWide ls) (hnil : NilB hs) (hb : -9223372036854775808 ≤ b ∧ b ≤ 9223372036854775807) (hog : og < 4294967296) (hoc : -9223372036854775808 ≤ oc ∧ oc ≤ 9223372036854775807) :
    Calls Try.prog 5 #[instV n A ls.length c, .int .i64 b, .agg #[.int .u32 (og : Int), .int .i64 oc]] w (LawPost w) := by
  have HB0 : Hid (Below w.heap.size w ((w.alloc (.cells #[.int .i64 n, .slice A ls.length c] 24)).alloc (.cells #[.int .u32 (og : Int), .int .i64 oc] 51))) := hide (((Below.refl _ _).alloc (Nat.le_refl _) _).alloc (by simp) _)
  have HX0 : Hid (((w.alloc (.cells #[.int .i64 n, .slice A ls.length c] 24)).alloc (.cells #[.int .u32 (og : Int), .int .i64 oc] 51)).heap[w.heap.size]? = some (.cells #[.int .i64 n, .slice A ls.length c] 24 (0, 0)) ∧
      ((w.alloc (.cells #[.int .i64 n, .slice A ls.length c] 24)).alloc (.cells #[.int .u32 (og : Int), .int .i64 oc] 51)).heap[w.heap.size + 1]? = some (.cells #[.int .u32 (og : Int), .int .i64 oc] 51 (0, 0))) := hide ⟨by
    rw [Below.heap_alloc _ _ _ (by simp)]; exact heap_alloc_new w _, by
    have := heap_alloc_new (w.alloc (.cells #[.int .i64 n, .slice A ls.length c] 24)) (.cells #[.int .u32 (og : Int), .int .i64 oc] 51)
    simpa using this⟩
  have HLG := hide (large_any n A c hs ls _ (h.up HB0.out) (by unfold maxLen at hl; omega) (fun l hm => by have := hls l hm; unfold maxLen at this; omega))
  have HKN := hide (fun W => known_any W)
  have HA := hide h
  have HWW : Hid (∀ (W : World) (ms : List (List Offer)) (A' : Option Addr) (c' : Nat) (hs' : List Hdr), Buys W W.heap.size A' hs' ms → ms.length ≤ 40 → (∀ l ∈ ms, l.length ≤ 21) → BWide ms → Calls Try.prog 17 #[instV n A' ms.length c'] W (ValPost (.tuple #[.int .i64 (fromI n ms 0 (allI n)).1, .int .i64 (fromI n ms 0 (allI n)).2]) W)) := hide (fun W ms A' c' hs' h1 h2 h3 h4 => by
    have := W_any n A' c' hs' ms W h1 (by omega) (fun l hm => by have := h3 l hm; omega) h4
    unfold FromPost at this
    exact this)
  have HLE : Hid (∀ (W : World) (k : Nat), Buys W W.heap.size A hs ls → ls.length ≤ 40 → (∀ l ∈ ls, l.length ≤ 20) → Calls Try.prog 18 #[instV n A ls.length c, .int .i64 (k : Int)] W (ClearPost (lessI n ls k) W)) := hide (fun W k h1 h2 h3 => less_any n A c hs ls k W h1 (by omega) (fun l hm => by have := h3 l hm; omega) hw hnil)
  have HFR : Hid (∀ (W : World) (k : Nat), Buys W W.heap.size A hs ls → ls.length ≤ 40 → (∀ l ∈ ls, l.length ≤ 20) → Calls Try.prog 11 #[instV n A ls.length c, .int .i64 (k : Int), .int .u32 (allI n : Int)] W (ValPost (.tuple #[.int .i64 (fromI n ls k (allI n)).1, .int .i64 (fromI n ls k (allI n)).2]) W)) := hide (fun W k h1 h2 h3 => by
    have := from_any n A c hs ls k (allI n) W h1 (by omega) (fun l hm => by have := h3 l hm; omega) hw (allI_lt n)
    unfold FromPost at this
    exact this)
  have HW := hide hw
  clear h hl hls hw hnil
  simp only [instV] at *
  go_enter Try.func5, Try.ntmps5
  go_wp2_with fail
  generalize (w.alloc (.cells #[.int .i64 n, .slice A ls.length c] 24)).alloc (.cells #[.int .u32 (og : Int), .int .i64 oc] 51) = w0 at *
  have HZ0 : Hid (w.heap.size + 2 ≤ w0.heap.size) := hide (lt_of_block HX0.out.2)
  refine (HLG.out).mono ?_
  rintro e w1 ⟨big, rfl, hbig, hb1⟩
  have HX1 : Hid (w1.heap[w.heap.size]? = some (.cells #[.int .i64 n, .slice A ls.length c] 24 (0, 0)) ∧ w1.heap[w.heap.size + 1]? = some (.cells #[.int .u32 (og : Int), .int .i64 oc] 51 (0, 0))) := hide ⟨(hb1.block _ (lt_of_block HX0.out.1)).trans HX0.out.1, (hb1.block _ (lt_of_block HX0.out.2)).trans HX0.out.2⟩
  have HB1 : Hid (Below w.heap.size w w1) := hide (HB0.out.trans (hb1.mono HB0.out.size))
  have HZ1 : Hid (w.heap.size + 2 ≤ w1.heap.size) := hide (by have := hb1.size; have := HZ0.out; omega)
  have HBIG := hide hbig
  clear hb1 hbig
  cases big
  · obtain ⟨hl40, hl20⟩ := HBIG.out rfl
    have HL20 := hide hl20
    have x0 : w1.cell? ⟨w.heap.size, 0, none⟩ = some (.int .i64 n) := cell_of_row w1 w.heap.size 0 _ _ (0, 0) HX1.out.1
    have x1 : w1.cell? ⟨w.heap.size, 1, none⟩ = some (.slice A ls.length c) := cell_of_row w1 w.heap.size 1 _ _ (0, 0) HX1.out.1
    have HWX := hide (HWW.out w1 ls A c hs (HA.out.up HB1.out) hl40 (fun l hl => by have := hl20 l hl; omega) HW.out)
    have HE : Hid ((fromI n ls 0 (allI n)).2 = 0 → instE n ls = 0 ∧ (fromI n ls 0 (allI n)).1 = bestW ls (allI n)) := hide (fun h2 => by
      have h3 := from_two HW.out h2
      have h4 := from_ok HW.out h3 0 (Nat.zero_le _)
      have h5 : fromI n ls 0 (allI n) = (bestW ls (allI n), 0) := h4
      exact ⟨h3, by rw [h5]⟩)
    generalize fromI n ls 0 (allI n) = R at HWX HE
    obtain ⟨W0, e0⟩ := R
    clear hl20
    by_cases he : e0 = 0
    · subst he
      obtain ⟨hok, hW0⟩ := HE.out rfl
      simp only at hW0
      have HOK := hide hok
      by_cases hlen : ls.length = 0
      · have hlen' : (((ls.length : Nat) : Int) == 0) = true := by simp [hlen]
        clear hlen
        go_wp2_with fail
        refine (HWX.out).mono ?_
        rintro e w2 ⟨rfl, hb2⟩
        have HB2 : Hid (Below w.heap.size w w2) := hide (HB1.out.trans (hb2.mono HB1.out.size))
        have y1 : w2.cell? ⟨w.heap.size, 1, none⟩ = some (.slice A ls.length c) := (hb2.cell (p := ⟨w.heap.size, 1, none⟩) (lt_of_block HX1.out.1)).trans x1
        clear hb2 x0 x1 hok
        go_wp2_with fail
        refine (HKN.out w2).mono ?_
        rintro e w3 ⟨rfl, hb3⟩
        have HB3 : Hid (Below w.heap.size w w3) := hide (HB2.out.trans (hb3.mono HB2.out.size))
        clear hb3
        go_wp2_with fail
        go_ret
        exact ⟨rfl, HB3.out⟩
      · have hpos : 0 < ls.length := by omega
        obtain ⟨k, hk, hkv, hr1, hr2⟩ := turn_rem hpos hl40 hb
        have hsay := more_says HW.out hok hk (o := (og, oc)) ⟨hog, hoc⟩
        rw [← hW0] at hsay
        obtain ⟨vb, vg, vc, vd, vm, hsay⟩ := hsay
        have HSAYS := hide hsay
        clear hsay hW0 HE
        have hlen' : (((ls.length : Nat) : Int) == 0) = false := by rw [beq_eq_false_iff_ne]; omega
        have hlen0 : ((ls.length : Nat) : Int) ≠ 0 := by omega
        go_wp2_with fail
        refine (HWX.out).mono ?_
        rintro e w2 ⟨rfl, hb2⟩
        have HB2 : Hid (Below w.heap.size w w2) := hide (HB1.out.trans (hb2.mono HB1.out.size))
        have HX2 : Hid (w2.heap[w.heap.size]? = some (.cells #[.int .i64 n, .slice A ls.length c] 24 (0, 0)) ∧ w2.heap[w.heap.size + 1]? = some (.cells #[.int .u32 (og : Int), .int .i64 oc] 51 (0, 0))) := hide ⟨(hb2.block _ (lt_of_block HX1.out.1)).trans HX1.out.1, (hb2.block _ (lt_of_block HX1.out.2)).trans HX1.out.2⟩
        have HZ2 : Hid (w.heap.size + 2 ≤ w2.heap.size) := hide (by have := hb2.size; have := HZ1.out; omega)
        clear hb2 x0 x1 hok
        have x0 : w2.cell? ⟨w.heap.size, 0, none⟩ = some (.int .i64 n) := cell_of_row w2 w.heap.size 0 _ _ (0, 0) HX2.out.1
        have x1 : w2.cell? ⟨w.heap.size, 1, none⟩ = some (.slice A ls.length c) := cell_of_row w2 w.heap.size 1 _ _ (0, 0) HX2.out.1
        go_upto_region 6 with fail
        go_quiet (fail)
        go_upto_region 7 with fail
        have HX3 : Hid ((w2.drewN nq).heap[w.heap.size]? = some (.cells #[.int .i64 n, .slice A ls.length c] 24 (0, 0)) ∧ (w2.drewN nq).heap[w.heap.size + 1]? = some (.cells #[.int .u32 (og : Int), .int .i64 oc] 51 (0, 0))) := HX2
        have HB3 : Hid (Below w.heap.size w (w2.drewN nq)) := hide (below_drewN HB2.out _)
        have HZ3 : Hid (w.heap.size + 2 ≤ (w2.drewN nq).heap.size) := HZ2
        clear x0 x1
        generalize w2.drewN nq = w3 at *
        have x0 : w3.cell? ⟨w.heap.size, 0, none⟩ = some (.int .i64 n) := cell_of_row w3 w.heap.size 0 _ _ (0, 0) HX3.out.1
        have x1 : w3.cell? ⟨w.heap.size, 1, none⟩ = some (.slice A ls.length c) := cell_of_row w3 w.heap.size 1 _ _ (0, 0) HX3.out.1
        go_upto_region 8 with fail
        have HX4 : Hid ((w3.alloc (.cells #[.int .i64 n, .slice none 0 0] 24)).heap[w.heap.size]? = some (.cells #[.int .i64 n, .slice A ls.length c] 24 (0, 0)) ∧ (w3.alloc (.cells #[.int .i64 n, .slice none 0 0] 24)).heap[w.heap.size + 1]? = some (.cells #[.int .u32 (og : Int), .int .i64 oc] 51 (0, 0))) := hide ⟨(Below.heap_alloc _ _ _ (by have := HZ3.out; omega)).trans HX3.out.1, (Below.heap_alloc _ _ _ (by have := HZ3.out; omega)).trans HX3.out.2⟩
        have HB4 : Hid (Below w.heap.size w (w3.alloc (.cells #[.int .i64 n, .slice none 0 0] 24))) := hide (HB3.out.alloc HB3.out.size _)
        have HT4 : Hid ((w3.alloc (.cells #[.int .i64 n, .slice none 0 0] 24)).heap[w3.heap.size]? = some (.cells #[.int .i64 n, .slice none 0 0] 24 (0, 0))) := hide (heap_alloc_new w3 _)
        have hz4 : (w3.alloc (.cells #[.int .i64 n, .slice none 0 0] 24)).heap.size = w3.heap.size + 1 := by simp
        clear x0 x1
        generalize w3.alloc (.cells #[.int .i64 n, .slice none 0 0] 24) = w4 at *
        have HZ4 : Hid (w4.heap.size = w3.heap.size + 1) := hide hz4
        clear hz4
        have x0 : w4.cell? ⟨w.heap.size, 0, none⟩ = some (.int .i64 n) := cell_of_row w4 w.heap.size 0 _ _ (0, 0) HX4.out.1
        have x1 : w4.cell? ⟨w.heap.size, 1, none⟩ = some (.slice A ls.length c) := cell_of_row w4 w.heap.size 1 _ _ (0, 0) HX4.out.1
        go_upto_region 9 with fail
        have HX5 : Hid ((w4.alloc (.cells #[.int .i64 n, .slice none 0 0] 24)).heap[w.heap.size]? = some (.cells #[.int .i64 n, .slice A ls.length c] 24 (0, 0)) ∧ (w4.alloc (.cells #[.int .i64 n, .slice none 0 0] 24)).heap[w.heap.size + 1]? = some (.cells #[.int .u32 (og : Int), .int .i64 oc] 51 (0, 0))) := hide ⟨(Below.heap_alloc _ _ _ (by have := HZ3.out; have := HZ4.out; omega)).trans HX4.out.1, (Below.heap_alloc _ _ _ (by have := HZ3.out; have := HZ4.out; omega)).trans HX4.out.2⟩
        have HB5 : Hid (Below w.heap.size w (w4.alloc (.cells #[.int .i64 n, .slice none 0 0] 24))) := hide (HB4.out.alloc HB4.out.size _)
        have HT5 : Hid ((w4.alloc (.cells #[.int .i64 n, .slice none 0 0] 24)).heap[w3.heap.size]? = some (.cells #[.int .i64 n, .slice none 0 0] 24 (0, 0))) := hide ((Below.heap_alloc _ _ _ (by have := HZ4.out; omega)).trans HT4.out)
        have HM5 : Hid ((w4.alloc (.cells #[.int .i64 n, .slice none 0 0] 24)).heap[w4.heap.size]? = some (.cells #[.int .i64 n, .slice none 0 0] 24 (0, 0))) := hide (heap_alloc_new w4 _)
        have hz5 : (w4.alloc (.cells #[.int .i64 n, .slice none 0 0] 24)).heap.size = w4.heap.size + 1 := by simp
        clear x0 x1
        generalize w4.alloc (.cells #[.int .i64 n, .slice none 0 0] 24) = w5 at *
        have HZ5 : Hid (w5.heap.size = w4.heap.size + 1) := hide hz5
        clear hz5
        have HXC : Hid (∀ (W : World) (p : Nat), w5.grownBy W (some p) → w.heap.size + 2 ≤ p → W.cell? ⟨w.heap.size, 0, none⟩ = some (.int .i64 n) ∧ W.cell? ⟨w.heap.size, 1, none⟩ = some (.slice A ls.length c) ∧ W.cell? ⟨w.heap.size + 1, 0, none⟩ = some (.int .u32 (og : Int)) ∧ W.cell? ⟨w.heap.size + 1, 1, none⟩ = some (.int .i64 oc) ∧ Below w.heap.size w W) := hide (fun W p hg hp => by
          have h0 := (hg.block _ (lt_of_block HX5.out.1) (by simp; omega)).trans HX5.out.1
          have h1 := (hg.block _ (lt_of_block HX5.out.2) (by simp; omega)).trans HX5.out.2
          exact ⟨cell_of_row W w.heap.size 0 _ _ (0, 0) h0, cell_of_row W w.heap.size 1 _ _ (0, 0) h0, cell_of_row W (w.heap.size + 1) 0 _ _ (0, 0) h1, cell_of_row W (w.heap.size + 1) 1 _ _ (0, 0) h1, HB5.out.grown hg HB5.out.size (fun j hj => by injection hj with hj; omega)⟩)
        have HTP : Hid (w.heap.size + 2 ≤ w3.heap.size) := HZ3
        obtain ⟨x0, x1, _, _, _⟩ := HXC.out w5 w3.heap.size (grown_refl _ _) HTP.out
        go_wp2_with fail
        clear x0 x1
        go_loopw [12] (fun iv wr => ∃ (r : Nat) (A' : Option Addr) (c' : Nat) (hs' : List Hdr), r ≤ ls.length ∧ iv = .int .i64 ((ls.length : Int) - 1 - r) ∧ OwnB wr w5.heap.size A' c' hs' ((turnL ls).take r) ∧ wr.heap[w3.heap.size]? = some (.cells #[.int .i64 n, .slice A' r c'] 24 (0, 0)) ∧ w5.grownBy wr (some w3.heap.size)) (fun iv _ => (intOf iv + 1).toNat)
        case atStart => exact ⟨0, none, 0, [], Nat.zero_le _, by go_num, ⟨rfl, World.ownsRow_nil _ _ _ _, fun i a l ha _ => by simp at ha, fun a ha => by cases ha⟩, HT5.out, grown_refl _ _⟩
        case round =>
          obtain ⟨r, A', c', hs', hr, rfl, ho, hbox, hg⟩ := hrel
          rename World => wo
          have HO := hide ho
          have HBOX := hide hbox
          have HG := hide hg
          obtain ⟨x0, x1, _, _, hbw⟩ := HXC.out wo w3.heap.size hg HTP.out
          have HBW := hide hbw
          clear ho hbox hg hbw
          by_cases hlt : r < ls.length
          · obtain ⟨i, hi⟩ : ∃ i : Nat, (ls.length : Int) - 1 - r = i := ⟨ls.length - 1 - r, by omega⟩
            rw [hi]
            have hil : i < ls.length := by omega
            obtain ⟨⟨a1, a2⟩, l, ha, hlx, hro, hca⟩ := HA.out.get hil
            obtain ⟨bb, bo, rfl, hbB, hat⟩ := HA.out.at_ hpos
            have z1 : wo.cell? ⟨bb, bo + i, none⟩ = some (.slice a1 l.length a2) := (HBW.out.cell (p := ⟨bb, bo + i, none⟩) hbB).trans (hat i _ l ha hlx)
            have hwl := lt_of_block HBOX.out
            have HRO := hide (hro.up HBW.out)
            have hll := HL20.out l (List.mem_of_getElem? hlx)
            have HLX := hide hlx
            have HCB : Hid (∀ W, Below wo.heap.size wo W → W.cell? ⟨w.heap.size, 0, none⟩ = some (.int .i64 n) ∧ W.cell? ⟨w.heap.size, 1, none⟩ = some (.slice (some ⟨bb, bo, none⟩) ls.length c) ∧ W.cell? ⟨bb, bo + i, none⟩ = some (.slice a1 l.length a2) ∧ W.cell? ⟨w3.heap.size, 1, none⟩ = some (.slice A' r c') ∧ W.frozen? ⟨w3.heap.size, 1, none⟩ = false) := hide (fun W hW => ⟨(hW.cell (p := ⟨w.heap.size, 0, none⟩) (lt_of_cell x0)).trans x0, (hW.cell (p := ⟨w.heap.size, 1, none⟩) (lt_of_cell x1)).trans x1, (hW.cell (p := ⟨bb, bo + i, none⟩) (lt_of_cell z1)).trans z1, cell_of_row W w3.heap.size 1 _ _ (0, 0) ((hW.block _ hwl).trans HBOX.out), by simp [World.frozen?, (hW.block _ hwl).trans HBOX.out]⟩)
            clear hat ha hlx hro hca
            go_wp2_with fail
            go_loopw [13, 14] (fun v jv wi => ∃ (q : Nat) (A1 : Option Addr) (c1 : Nat), q ≤ l.length ∧ v = .slice A1 q c1 ∧ jv = .int .i64 ((l.length : Int) - 1 - q) ∧ wi.ownsRow wo.heap.size 51 2 (.slice A1 q c1) q (cells2 offV (l.reverse.take q)) ∧ Below wo.heap.size wo wi) (fun _ jv _ => (intOf jv + 1).toNat)
            case atStart => exact ⟨0, none, 0, Nat.zero_le _, rfl, by go_num, World.ownsRow_nil _ _ _ _, Below.refl _ _⟩
            case round =>
              obtain ⟨q, A1, c1, hq, rfl, rfl, hoq, hbq⟩ := hrel
              have HOQ := hide hoq
              have HBQ := hide hbq
              obtain ⟨y0, y1, y2, y3, y4⟩ := HCB.out wr hbq
              clear hoq hbq x0 x1 z1
              by_cases hql : q < l.length
              · obtain ⟨j, hj⟩ : ∃ j : Nat, (l.length : Int) - 1 - q = j := ⟨l.length - 1 - q, by omega⟩
                rw [hj]
                have hjl : j < l.length := by omega
                have HRQ := HRO.out.up HBQ.out
                obtain ⟨b1, o1, hA1, hb1, hat1⟩ := Offs.at_ HRQ (by omega)
                have ha1 : a1 = some ⟨b1, o1, none⟩ := hA1
                subst ha1
                obtain ⟨d0, d1⟩ := hat1 j l[j] (List.getElem?_eq_getElem hjl)
                have HSN : Hid (l.reverse.take (q + 1) = l.reverse.take q ++ [l[j]]) := hide (take_snoc (by rw [List.getElem?_reverse (by omega), show l.length - 1 - q = j by omega]; exact List.getElem?_eq_getElem hjl))
                have G1 : Hid (∀ (x y : Int), ∀ u ∈ [Value.int .u32 x, .int .i64 y], u.oneCell' = true) := hide (fun x y u hu => by simp at hu; rcases hu with rfl | rfl <;> rfl)
                have G2 : Hid (q + 1 ≤ maxLen) := hide (by unfold maxLen; omega)
                have G3 : Hid ((q + 1) * 16 ≤ 140737488355328) := hide (by omega)
                have hji : (j : Int) < (l.length : Int) := by omega
                have hii : (i : Int) < (ls.length : Int) := by omega
                generalize l[j] = x at *
                obtain ⟨xg, xc⟩ := x
                simp only at d0 d1
                have G4 : Hid (wo.heap.size ≤ wr.heap.size) := hide HBQ.out.size
                clear hat1 hA1 hb1 HRQ
                go_wp2_with (at_builtin; refine wpList_app rfl (.tmp 82) (.tmp 91) 52 rfl wo.heap.size (.agg #[.int .u32 0, .int .i64 0]) 2 16 infoO Try.underlying52 rfl (by decide) _ _ _ rfl HOQ.out 1 1 rfl rfl (G1.out _ _) G2.out G3.out G4.out ?_; intro v7 w7 hown7 hg7 hlt7 _; obtain ⟨A7, c7, hv7, _⟩ := own_sh hown7; subst hv7; have HO7 := hide hown7; have HG7 := hide hg7; clear hown7 hg7)
                go_roundw
                case rel =>
                  refine ⟨q + 1, A7, c7, by omega, rfl, by go_num, ?_, ?_⟩
                  · rw [HSN.out, cells2_append]
                    exact HO7.out
                  · exact HBQ.out.grown HG7.out HBQ.out.size (fun j hj => (HOQ.out.lt j hj).1)
                case measure => simp [intOf]
              · obtain rfl : q = l.length := by omega
                have hend : (l.length : Int) - 1 - l.length = -1 := by omega
                rw [hend]
                rename World => wi
                have HOL : Hid (wi.ownsRow wo.heap.size 51 2 (.slice A1 l.length c1) l.length (cells2 offV l.reverse)) := hide (by have := HOQ.out; rw [List.take_of_length_le (by simp)] at this; exact this)
                have hln : ((turnL ls).take r).length = r := by rw [List.length_take, turn_len]; omega
                have HLN := hide hln
                have HH : Hid (wi.ownsRow w5.heap.size 52 1 (.slice A' r c') r (List.zipWith hdrV hs' ((turnL ls).take r))) := hide (by have := own_below HO.out.hdr HBQ.out (Nat.le_refl _); rw [hln] at this; exact this)
                have HTA := hide (turn_at HLX.out (r := r) (by omega))
                have G1 : Hid (∀ (A2 : Option Addr) (n2 c2 : Nat), ∀ u ∈ [Value.slice A2 n2 c2], u.oneCell' = true) := hide (fun A2 n2 c2 u hu => by simp at hu; subst hu; rfl)
                have G2 : Hid (r + 1 ≤ maxLen) := hide (by unfold maxLen; omega)
                have G3 : Hid ((r + 1) * 24 ≤ 140737488355328) := hide (by omega)
                have G4 : Hid (w5.heap.size ≤ wi.heap.size) := hide (by have := HBQ.out.size; have := HG.out.size; omega)
                clear hln
                go_upto_region 11 with (at_builtin; refine wpList_app rfl (.tmp 94) (.tmp 96) 22 rfl w5.heap.size (.slice none 0 0) 1 24 infoOs Try.underlying22 rfl (by decide) _ _ _ rfl HH.out 1 1 rfl rfl (G1.out _ _ _) G2.out G3.out G4.out ?_; intro v7 w7 hown7 hg7 hlt7 _; obtain ⟨A7, c7, hv7, _⟩ := own_sh hown7; subst hv7; have HO7 := hide hown7; have HG7 := hide hg7; clear hown7 hg7; have HT7 : Hid (w7.heap[w3.heap.size]? = some (.cells #[.int .i64 n, .slice A' r c'] 24 (0, 0))) := hide ((HG7.out.block _ (lt_of_block ((HBQ.out.block _ hwl).trans HBOX.out)) (Ne.symm (own_ne HH.out ((HBQ.out.block _ hwl).trans HBOX.out) (by simp)))).trans ((HBQ.out.block _ hwl).trans HBOX.out)); have s1 := cell_of_row w7 w3.heap.size 1 _ _ (0, 0) HT7.out; simp at s1; have s2 : ∀ i, w7.frozen? ⟨w3.heap.size, i, none⟩ = false := (fun i => by simp [World.frozen?, HT7.out]))
                have HG77 : Hid (w5.grownBy w7 (some w3.heap.size)) := hide (((HG.out.andThen (grown_below HBQ.out) (fun j hj => by cases hj)).andThen HG7.out (fun j hj => .inl ((HH.out.lt j hj).1))))
                go_wp2_with fail
                go_roundw
                case rel =>
                  refine ⟨r + 1, A7, c7, hs' ++ [(A1, c1)], by omega, by go_num, ?_, setCell_block HT7.out 1 _, HG77.out.andThen (grown_set _) (fun j hj => .inr hj)⟩
                  rw [take_snoc HTA.out]
                  refine (HO.out.push HLN.out HBQ.out ?_ HG7.out ?_).setc (by have := HZ4.out; have := HZ5.out; omega) _
                  · rw [List.length_reverse]
                    exact own_base HOL.out HG.out.size
                  · rw [List.length_reverse]
                    exact HO7.out
                case measure => simp [intOf] <;> omega
          · obtain rfl : r = ls.length := by omega
            have hend : (ls.length : Int) - 1 - ls.length = -1 := by omega
            rw [hend]
            have HOT : Hid (OwnB wo w5.heap.size A' c' hs' (turnL ls)) := hide (by have := HO.out; rw [List.take_of_length_le (by rw [turn_len]; omega)] at this; exact this)
            have HT6 : Hid (wo.heap[w3.heap.size]? = some (.cells #[.int .i64 n, .slice A' ls.length c'] 24 (0, 0))) := HBOX
            have HM6 : Hid (wo.heap[w4.heap.size]? = some (.cells #[.int .i64 n, .slice none 0 0] 24 (0, 0))) := hide ((HG.out.block _ (lt_of_block HM5.out) (by have := HZ4.out; simp; omega)).trans HM5.out)
            have HZ6 : Hid (w5.heap.size ≤ wo.heap.size) := hide HG.out.size
            have HBW6 := HBW
            have HXC6 : Hid (∀ (W : World), wo.grownBy W (some w4.heap.size) → W.cell? ⟨w.heap.size, 0, none⟩ = some (.int .i64 n) ∧ W.cell? ⟨w.heap.size, 1, none⟩ = some (.slice A ls.length c) ∧ W.cell? ⟨w.heap.size + 1, 0, none⟩ = some (.int .u32 (og : Int)) ∧ W.cell? ⟨w.heap.size + 1, 1, none⟩ = some (.int .i64 oc) ∧ Below w.heap.size w W) := hide (fun W hg => by
              obtain ⟨h0, h1, h2, h3, h4⟩ := HXC.out wo w3.heap.size HG.out HTP.out
              have hne : ∀ b, b < w.heap.size + 2 → some b ≠ some w4.heap.size := fun b hb e => by have := HZ4.out; have := HTP.out; injection e with e; omega
              have hs : w.heap.size + 2 ≤ wo.heap.size := by have := HZ4.out; have := HZ5.out; have := HTP.out; have := HZ6.out; omega
              exact ⟨hg.cell h0 (hne _ (by simp)), hg.cell h1 (hne _ (by simp)), hg.cell h2 (hne _ (by simp)), hg.cell h3 (hne _ (by simp)), h4.grown hg h4.size (fun j hj => by have := HZ4.out; have := HTP.out; injection hj with hj; omega)⟩)
            clear HO HBOX HBW HG HXC x0 x1 HX5 HB5 HT5 HM5 HX4 HB4 HT4 HX3 HB3
            rename World => w6
            obtain ⟨x0, x1, _, _, _⟩ := HXC6.out w6 (grown_refl _ _)
            go_wp2_with fail
            clear x0 x1
            go_loopw [16] (fun iv wr => ∃ (r : Nat) (A2 : Option Addr) (c2 : Nat) (hs2 : List Hdr), r ≤ ls.length ∧ iv = .int .i64 r ∧ OwnB wr w6.heap.size A2 c2 hs2 ((moreL ls k (og, oc)).take r) ∧ wr.heap[w4.heap.size]? = some (.cells #[.int .i64 n, .slice A2 r c2] 24 (0, 0)) ∧ w6.grownBy wr (some w4.heap.size)) (fun iv _ => ls.length - (intOf iv).toNat)
            case atStart => exact ⟨0, none, 0, [], Nat.zero_le _, rfl, ⟨rfl, World.ownsRow_nil _ _ _ _, fun i a l ha _ => by simp at ha, fun a ha => by cases ha⟩, HM6.out, grown_refl _ _⟩
            case round =>
              obtain ⟨r, A2, c2, hs2, hr, rfl, ho, hbox, hg⟩ := hrel
              rename World => wo
              have HO := hide ho
              have HBOX := hide hbox
              have HG := hide hg
              obtain ⟨x0, x1, u0, u1, hbw⟩ := HXC6.out wo hg
              have HBW := hide hbw
              clear ho hbox hg hbw
              by_cases hlt : r < ls.length
              · obtain ⟨⟨a1, a2⟩, l, ha, hlx, hro, hca⟩ := HA.out.get hlt
                obtain ⟨bb, bo, rfl, hbB, hat⟩ := HA.out.at_ hpos
                have z1 : wo.cell? ⟨bb, bo + r, none⟩ = some (.slice a1 l.length a2) := (HBW.out.cell (p := ⟨bb, bo + r, none⟩) hbB).trans (hat r _ l ha hlx)
                have hwl := lt_of_block HBOX.out
                have HRO := hide (hro.up HBW.out)
                have hll := HL20.out l (List.mem_of_getElem? hlx)
                have HLX := hide hlx
                have HMA := hide (more_at (k := k) (o := (og, oc)) hlx)
                have hri : (r : Int) < (ls.length : Int) := by omega
                have hln : ((moreL ls k (og, oc)).take r).length = r := by rw [List.length_take, more_len]; omega
                have HLN := hide hln
                have H1 := hide (off_one l)
                have H2 : Hid (0 + l.length ≤ maxLen) := hide (by unfold maxLen; omega)
                have H3 : Hid ((0 + l.length) * 16 ≤ 140737488355328) := hide (by omega)
                clear hat ha hlx hro hca hln
                go_upto_region 23 with (at_builtin; refine wpList_append_any rfl (.const (.slice none 0 0)) (.tmp 110) 52 rfl wo.heap.size 51 (.agg #[.int .u32 0, .int .i64 0]) 2 16 infoO Try.underlying52 rfl (by decide) _ 0 [] rfl (World.ownsRow_nil _ _ _ _) wo.heap.size a1 l.length a2 (cells2 offV l) rfl HRO.out H1.out H2.out H3.out (Nat.le_refl _) ?_; intro v7 w7 hown7 hg7 _; rw [Nat.zero_add, List.nil_append] at hown7; obtain ⟨A7, c7, hv7, _⟩ := own_sh hown7; subst hv7; have HO7 := hide hown7; have HB7 : Hid (Below wo.heap.size wo w7) := hide ((Below.refl _ _).grown hg7 (Nat.le_refl _) (fun j hj => by cases hj)); clear hown7 hg7)
                have x0' := (HB7.out.cell (p := ⟨w.heap.size, 0, none⟩) (lt_of_cell x0)).trans x0
                have u0' := (HB7.out.cell (p := ⟨w.heap.size + 1, 0, none⟩) (lt_of_cell u0)).trans u0
                have u1' := (HB7.out.cell (p := ⟨w.heap.size + 1, 1, none⟩) (lt_of_cell u1)).trans u1
                clear x0 x1 u0 u1 z1
                by_cases hkr : k = r
                · have HMA : Hid ((moreL ls k (og, oc))[r]? = some (l ++ [(og, oc)])) := hide (by have := HMA.out; rw [if_pos hkr] at this; exact this)
                  have hkr' : (((r : Nat) : Int) == (k : Int)) = true := by rw [hkr]; simp
                  have K1 : Hid (∀ (x y : Int), ∀ u ∈ [Value.int .u32 x, .int .i64 y], u.oneCell' = true) := hide (fun x y u hu => by simp at hu; rcases hu with rfl | rfl <;> rfl)
                  have K2 : Hid (l.length + 1 ≤ maxLen) := hide (by unfold maxLen; omega)
                  have K3 : Hid ((l.length + 1) * 16 ≤ 140737488355328) := hide (by omega)
                  have K4 : Hid (wo.heap.size ≤ w7.heap.size) := hide HB7.out.size
                  clear hkr
                  go_upto_region 25 with (at_builtin; refine wpList_app rfl (.tmp 115) (.tmp 117) 52 rfl wo.heap.size (.agg #[.int .u32 0, .int .i64 0]) 2 16 infoO Try.underlying52 rfl (by decide) _ _ _ rfl HO7.out 1 1 rfl rfl (K1.out _ _) K2.out K3.out K4.out ?_; intro v8 w8 hown8 hg8 hlt8 _; obtain ⟨A8, c8, hv8, _⟩ := own_sh hown8; subst hv8; have HO8 := hide hown8; have HBZ : Hid (Below wo.heap.size wo w8) := hide (HB7.out.grown hg8 HB7.out.size (fun j hj => (HO7.out.lt j hj).1)); clear hown8 hg8)
                  have HO8' : Hid (w8.ownsRow wo.heap.size 51 2 (.slice A8 (l ++ [(og, oc)]).length c8) (l ++ [(og, oc)]).length (cells2 offV (l ++ [(og, oc)]))) := hide (by rw [List.length_append, List.length_singleton, cells2_append]; exact HO8.out)
                  clear x0' u0' u1'
                  have HTW : Hid (w8.heap[w4.heap.size]? = some (.cells #[.int .i64 n, .slice A2 r c2] 24 (0, 0))) := hide ((HBZ.out.block _ hwl).trans HBOX.out)
                  have b1 := cell_of_row w8 w4.heap.size 1 _ _ (0, 0) HTW.out
                  simp at b1
                  have HH : Hid (w8.ownsRow w6.heap.size 52 1 (.slice A2 r c2) r (List.zipWith hdrV hs2 ((moreL ls k (og, oc)).take r))) := hide (by have := own_below HO.out.hdr HBZ.out (Nat.le_refl _); rw [HLN.out] at this; exact this)
                  have G1 : Hid (∀ (A2 : Option Addr) (n2 c2 : Nat), ∀ u ∈ [Value.slice A2 n2 c2], u.oneCell' = true) := hide (fun A2 n2 c2 u hu => by simp at hu; subst hu; rfl)
                  have G2 : Hid (r + 1 ≤ maxLen) := hide (by unfold maxLen; omega)
                  have G3 : Hid ((r + 1) * 24 ≤ 140737488355328) := hide (by omega)
                  have G4 : Hid (w6.heap.size ≤ w8.heap.size) := hide (by have := HBZ.out.size; have := HG.out.size; omega)
                  go_upto_region 21 with (at_builtin; refine wpList_app rfl (.tmp 120) (.tmp 122) 22 rfl w6.heap.size (.slice none 0 0) 1 24 infoOs Try.underlying22 rfl (by decide) _ _ _ rfl HH.out 1 1 rfl rfl (G1.out _ _ _) G2.out G3.out G4.out ?_; intro v9 w9 hown9 hg9 hlt9 _; obtain ⟨A9, c9, hv9, _⟩ := own_sh hown9; subst hv9; have HO9 := hide hown9; have HG9 := hide hg9; clear hown9 hg9; have HT9 : Hid (w9.heap[w4.heap.size]? = some (.cells #[.int .i64 n, .slice A2 r c2] 24 (0, 0))) := hide ((HG9.out.block _ (lt_of_block HTW.out) (Ne.symm (own_ne HH.out HTW.out (by simp)))).trans HTW.out); have s1 := cell_of_row w9 w4.heap.size 1 _ _ (0, 0) HT9.out; simp at s1; have s2 : ∀ i, w9.frozen? ⟨w4.heap.size, i, none⟩ = false := (fun i => by simp [World.frozen?, HT9.out]))
                  have HG99 : Hid (w6.grownBy w9 (some w4.heap.size)) := hide (((HG.out.andThen (grown_below HBZ.out) (fun j hj => by cases hj)).andThen HG9.out (fun j hj => .inl ((HH.out.lt j hj).1))))
                  go_wp2_with fail
                  go_roundw
                  case rel =>
                    refine ⟨r + 1, A9, c9, hs2 ++ [(A8, c8)], by omega, by go_num, ?_, setCell_block HT9.out 1 _, HG99.out.andThen (grown_set _) (fun j hj => .inr hj)⟩
                    rw [take_snoc HMA.out]
                    refine (HO.out.push HLN.out HBZ.out ?_ HG9.out ?_).setc (by have := HZ5.out; have := HZ6.out; omega) _
                    · exact own_base HO8'.out HG.out.size
                    · rw [List.length_append, List.length_singleton]; exact HO9.out
                  case measure => simp [intOf]; omega
                · have HMA : Hid ((moreL ls k (og, oc))[r]? = some l) := hide (by have := HMA.out; rw [if_neg hkr] at this; exact this)
                  have hkr' : (((r : Nat) : Int) == (k : Int)) = false := by rw [beq_eq_false_iff_ne]; omega
                  have HBZ := HB7
                  clear hkr x0' u0' u1'
                  have HTW : Hid (w7.heap[w4.heap.size]? = some (.cells #[.int .i64 n, .slice A2 r c2] 24 (0, 0))) := hide ((HBZ.out.block _ hwl).trans HBOX.out)
                  have b1 := cell_of_row w7 w4.heap.size 1 _ _ (0, 0) HTW.out
                  simp at b1
                  have HH : Hid (w7.ownsRow w6.heap.size 52 1 (.slice A2 r c2) r (List.zipWith hdrV hs2 ((moreL ls k (og, oc)).take r))) := hide (by have := own_below HO.out.hdr HBZ.out (Nat.le_refl _); rw [HLN.out] at this; exact this)
                  have G1 : Hid (∀ (A2 : Option Addr) (n2 c2 : Nat), ∀ u ∈ [Value.slice A2 n2 c2], u.oneCell' = true) := hide (fun A2 n2 c2 u hu => by simp at hu; subst hu; rfl)
                  have G2 : Hid (r + 1 ≤ maxLen) := hide (by unfold maxLen; omega)
                  have G3 : Hid ((r + 1) * 24 ≤ 140737488355328) := hide (by omega)
                  have G4 : Hid (w6.heap.size ≤ w7.heap.size) := hide (by have := HBZ.out.size; have := HG.out.size; omega)
                  go_upto_region 21 with (at_builtin; refine wpList_app rfl (.tmp 120) (.tmp 122) 22 rfl w6.heap.size (.slice none 0 0) 1 24 infoOs Try.underlying22 rfl (by decide) _ _ _ rfl HH.out 1 1 rfl rfl (G1.out _ _ _) G2.out G3.out G4.out ?_; intro v9 w9 hown9 hg9 hlt9 _; obtain ⟨A9, c9, hv9, _⟩ := own_sh hown9; subst hv9; have HO9 := hide hown9; have HG9 := hide hg9; clear hown9 hg9; have HT9 : Hid (w9.heap[w4.heap.size]? = some (.cells #[.int .i64 n, .slice A2 r c2] 24 (0, 0))) := hide ((HG9.out.block _ (lt_of_block HTW.out) (Ne.symm (own_ne HH.out HTW.out (by simp)))).trans HTW.out); have s1 := cell_of_row w9 w4.heap.size 1 _ _ (0, 0) HT9.out; simp at s1; have s2 : ∀ i, w9.frozen? ⟨w4.heap.size, i, none⟩ = false := (fun i => by simp [World.frozen?, HT9.out]))
                  have HG99 : Hid (w6.grownBy w9 (some w4.heap.size)) := hide (((HG.out.andThen (grown_below HBZ.out) (fun j hj => by cases hj)).andThen HG9.out (fun j hj => .inl ((HH.out.lt j hj).1))))
                  go_wp2_with fail
                  go_roundw
                  case rel =>
                    refine ⟨r + 1, A9, c9, hs2 ++ [(A7, c7)], by omega, by go_num, ?_, setCell_block HT9.out 1 _, HG99.out.andThen (grown_set _) (fun j hj => .inr hj)⟩
                    rw [take_snoc HMA.out]
                    refine (HO.out.push HLN.out HBZ.out ?_ HG9.out ?_).setc (by have := HZ5.out; have := HZ6.out; omega) _
                    · exact own_base HO7.out HG.out.size
                    · exact HO9.out
                  case measure => simp [intOf]; omega
              · obtain rfl : r = ls.length := by omega
                have HOM : Hid (OwnB wo w6.heap.size A2 c2 hs2 (moreL ls k (og, oc))) := hide (by have := HO.out; rw [List.take_of_length_le (by rw [more_len]; omega)] at this; exact this)
                have HOT7 : Hid (OwnB wo w5.heap.size A' c' hs' (turnL ls)) := hide (HOT.out.apart HG.out (by have := HZ5.out; omega))
                have HT7 : Hid (wo.heap[w3.heap.size]? = some (.cells #[.int .i64 n, .slice A' ls.length c'] 24 (0, 0))) := hide ((HG.out.block _ (lt_of_block HT6.out) (by have := HZ4.out; simp; omega)).trans HT6.out)
                have HM7 : Hid (wo.heap[w4.heap.size]? = some (.cells #[.int .i64 n, .slice A2 ls.length c2] 24 (0, 0))) := HBOX
                obtain ⟨⟨a1, a2⟩, l, ha, hlx, hro, hca⟩ := HA.out.get hk
                obtain ⟨bb, bo, rfl, hbB, hat⟩ := HA.out.at_ hpos
                have z1 : wo.cell? ⟨bb, bo + k, none⟩ = some (.slice a1 l.length a2) := (HBW.out.cell (p := ⟨bb, bo + k, none⟩) hbB).trans (hat k _ l ha hlx)
                have HRO := hide (hro.up HBW.out)
                have hll := HL20.out l (List.mem_of_getElem? hlx)
                have HLX := hide hlx
                have hki : (k : Int) < (ls.length : Int) := by omega
                clear HO HBOX hat ha hlx hro hca u0 u1
                go_wp2_with fail
                go_loopw [15, 18] (fun mv jv wr => ∃ (j : Nat), j ≤ l.length ∧ jv = .int .i64 j ∧ mv = .int .i64 (mostI (l.take j)) ∧ wo = wr) (fun _ jv _ => l.length - (intOf jv).toNat)
                case atStart => exact ⟨0, Nat.zero_le _, rfl, rfl, by trivial⟩
                case round =>
                  obtain ⟨j, hj, rfl, rfl, rfl⟩ := hrel
                  by_cases hjl : j < l.length
                  · obtain ⟨b1, o1, hA1, hb1, hat1⟩ := Offs.at_ HRO.out (by omega)
                    have ha1 : a1 = some ⟨b1, o1, none⟩ := hA1
                    subst ha1
                    obtain ⟨d0, d1⟩ := hat1 j l[j] (List.getElem?_eq_getElem hjl)
                    have HSN : Hid (mostI (l.take (j + 1)) = max (mostI (l.take j)) l[j].2) := hide (by rw [take_snoc (List.getElem?_eq_getElem hjl), most_snoc])
                    have hji : (j : Int) < (l.length : Int) := by omega
                    generalize l[j] = x at *
                    obtain ⟨xg, xc⟩ := x
                    simp only at d0 d1
                    clear hat1 hA1 hb1
                    go_wp2_with fail
                    go_roundw
                    case rel => exact ⟨j + 1, by omega, by go_num, by rw [HSN.out]; congr 1; simp only; rw [Int.max_def]; split <;> split <;> omega, by trivial⟩
                    case measure => simp [intOf]; omega
                  · obtain rfl : j = l.length := by omega
                    rw [List.take_of_length_le (Nat.le_refl _)]
                    go_upto_region 30 with fail
                    have HMOST : Hid (vm = mostI l) := hide (by rw [HSAYS.out.most, HLX.out]; rfl)
                    rw [← HMOST.out]
                    have HWT : Hid (Calls Try.prog 17 #[.agg #[.int .i64 n, .slice A' ls.length c']] wo (ValPost (.tuple #[.int .i64 W0, .int .i64 0]) wo)) := hide (by
                      have := HWW.out wo (turnL ls) A' c' hs' HOT7.out.buys (by rw [turn_len]; exact hl40) (fun m hm => by
                        unfold turnL at hm
                        rw [List.mem_reverse] at hm
                        obtain ⟨l', hl', rfl⟩ := List.mem_map.1 hm
                        rw [List.length_reverse]
                        have := HL20.out l' hl'
                        omega) (wide_turn HW.out)
                      rw [turn_len, HSAYS.out.turned] at this
                      exact this)
                    have HWM : Hid (∀ W, Below wo.heap.size wo W → Calls Try.prog 17 #[.agg #[.int .i64 n, .slice A2 ls.length c2]] W (ValPost (.tuple #[.int .i64 vb, .int .i64 vg]) W)) := hide (fun W hW => by
                      have := HWW.out W (moreL ls k (og, oc)) A2 c2 hs2 ((HOM.out.below hW).buys) (by rw [more_len]; exact hl40) (fun m hm => by
                        obtain ⟨l', hl', h1⟩ := mem_more hm
                        have := HL20.out l' hl'
                        rcases h1 with rfl | rfl
                        · omega
                        · rw [List.length_append, List.length_singleton]; omega) (wide_more HW.out k ⟨hog, hoc⟩)
                      rw [more_len, HSAYS.out.more] at this
                      exact this)
                    have HCL : Hid (∀ W, Below wo.heap.size wo W → W.cell? ⟨w.heap.size, 0, none⟩ = some (.int .i64 n) ∧ W.cell? ⟨w.heap.size, 1, none⟩ = some (.slice (some ⟨bb, bo, none⟩) ls.length c) ∧ W.cell? ⟨w4.heap.size, 0, none⟩ = some (.int .i64 n) ∧ W.cell? ⟨w4.heap.size, 1, none⟩ = some (.slice A2 ls.length c2)) := hide (fun W hW => ⟨(hW.cell (p := ⟨w.heap.size, 0, none⟩) (lt_of_cell x0)).trans x0, (hW.cell (p := ⟨w.heap.size, 1, none⟩) (lt_of_cell x1)).trans x1, cell_of_row W w4.heap.size 0 _ _ (0, 0) ((hW.block _ (lt_of_block HM7.out)).trans HM7.out), cell_of_row W w4.heap.size 1 _ _ (0, 0) ((hW.block _ (lt_of_block HM7.out)).trans HM7.out)⟩)
                    have HBU : Hid (∀ W, Below wo.heap.size wo W → Buys W W.heap.size (some ⟨bb, bo, none⟩) hs ls ∧ Below w.heap.size w W) := hide (fun W hW => ⟨HA.out.up (HBW.out.trans (hW.mono HBW.out.size)), HBW.out.trans (hW.mono HBW.out.size)⟩)
                    have t0 := cell_of_row wo w3.heap.size 0 _ _ (0, 0) HT7.out
                    have t1 := cell_of_row wo w3.heap.size 1 _ _ (0, 0) HT7.out
                    simp at t0 t1
                    clear x0 x1 z1 hlt hr
                    rename World => wn
                    go_wp2_with fail
                    refine (HWT.out).mono ?_
                    rintro e w7 ⟨rfl, hb7⟩
                    have HB7 := hide hb7
                    obtain ⟨_, _, y0, y1⟩ := HCL.out w7 hb7
                    clear t0 t1 hb7
                    go_wp2_with fail
                    refine (HWM.out w7 HB7.out).mono ?_
                    rintro e w8 ⟨rfl, hb8⟩
                    have HB8 : Hid (Below wn.heap.size wn w8) := hide (HB7.out.trans (hb8.mono HB7.out.size))
                    obtain ⟨x0, x1, _, _⟩ := HCL.out w8 HB8.out
                    clear y0 y1 hb8
                    have HLS := hide (HLE.out w8 k (HBU.out w8 HB8.out).1 hl40 HL20.out)
                    go_wp2_with fail
                    refine (HLS.out).mono ?_
                    rintro e w9 ⟨v9, rfl, hown9, hb9⟩
                    obtain ⟨A9, c9, rfl, _⟩ := own_sh hown9
                    have hc1 := HSAYS.out.less.1
                    have hc2 := HSAYS.out.less.2
                    have HB9 : Hid (Below wn.heap.size wn w9) := hide (HB8.out.trans (hb9.mono HB8.out.size))
                    rw [hc1, hc2]
                    generalize (lessI n ls k).1.1.length = ln9 at *
                    clear x0 x1 hb9 hown9 hc1 hc2
                    go_upto_region 33 with fail
                    have HC10 : Hid ((w9.alloc (.cells #[.slice A9 ln9 c9, .int .i64 vc] 35)).heap[w9.heap.size]? = some (.cells #[.slice A9 ln9 c9, .int .i64 vc] 35 (0, 0))) := hide (heap_alloc_new w9 _)
                    have HB10 : Hid (Below wn.heap.size wn (w9.alloc (.cells #[.slice A9 ln9 c9, .int .i64 vc] 35))) := hide (HB9.out.alloc HB9.out.size _)
                    generalize w9.alloc (.cells #[.slice A9 ln9 c9, .int .i64 vc] 35) = w10 at *
                    obtain ⟨x0, x1, _, _⟩ := HCL.out w10 HB10.out
                    have hgood := instE_good HW.out HOK.out
                    have hn1 := hgood.lo
                    have hn2 := hgood.hi
                    have hn3 : ¬ n < 0 := by omega
                    clear hgood
                    have hsh := hide (shl_all hn1 hn2)
                    have HPART : Hid (∀ W, Below wn.heap.size wn W → Calls Try.prog 11 #[.agg #[.int .i64 n, .slice (some ⟨bb, bo, none⟩) ls.length c], .int .i64 (k : Int), .int .u32 (allI n : Int)] W (ValPost (.tuple #[.int .i64 vd, .int .i64 0]) W)) := hide (fun W hW => by
                      have := HFR.out W k (HBU.out W hW).1 hl40 HL20.out
                      rw [HSAYS.out.part] at this
                      exact this)
                    have HC11 : Hid (∀ W, Below w10.heap.size w10 W → W.cell? ⟨w9.heap.size, 0, none⟩ = some (.slice A9 ln9 c9) ∧ W.cell? ⟨w9.heap.size, 1, none⟩ = some (.int .i64 vc) ∧ W.cell? ⟨w.heap.size, 0, none⟩ = some (.int .i64 n) ∧ W.cell? ⟨w.heap.size, 1, none⟩ = some (.slice (some ⟨bb, bo, none⟩) ls.length c)) := hide (fun W hW => ⟨cell_of_row W w9.heap.size 0 _ _ (0, 0) ((hW.block _ (lt_of_block HC10.out)).trans HC10.out), cell_of_row W w9.heap.size 1 _ _ (0, 0) ((hW.block _ (lt_of_block HC10.out)).trans HC10.out), (hW.cell (p := ⟨w.heap.size, 0, none⟩) (lt_of_cell x0)).trans x0, (hW.cell (p := ⟨w.heap.size, 1, none⟩) (lt_of_cell x1)).trans x1⟩)
                    go_region_held3 (fun w' => w'.cell? ⟨w.heap.size, 0, none⟩ = some (.int .i64 n) ∧ w'.cell? ⟨w.heap.size, 1, none⟩ = some (.slice (some ⟨bb, bo, none⟩) ls.length c)) (first | go_keep | exact ⟨r2, r3⟩)
                      (first | (rw [hsh.out]; go_at_call 11; refine (HPART.out _ HB10.out.drew).mono ?_; rintro e w11 ⟨rfl, hb11⟩; obtain ⟨r0, r1, r2, r3⟩ := HC11.out w11 ((Below.refl _ _).drew.trans hb11); have HB11 : Hid (Below wn.heap.size wn w11) := hide (HB10.out.drew.trans (hb11.mono HB10.out.drew.size)); clear hb11))
                    all_goals
                      have k1 := HSAYS.out.lessLe.1
                      have k2 := HSAYS.out.lessLe.2
                      have k3 := HSAYS.out.partLe
                      have k4 := HSAYS.out.bounds
                      have k5 : IntKind.i64.wrap (vc + vm) = vc + vm := Go.IntWalk.i64_in _ (by omega)
                      have k6 := HSAYS.out.moreLe
                      have k7 : (vg == 0) = false ∨ ((vg == 0) = true ∧ W0 ≤ vb) := by
                        by_cases hg : vg = 0
                        · exact .inr ⟨by simpa using hg, k6 hg⟩
                        · exact .inl (by simpa using hg)
                      clear k4 k6
                      rcases k7 with k7 | ⟨k7, k8⟩
                    all_goals
                      go_wp2_with fail
                      refine (HKN.out w11).mono ?_
                      rintro e w12 ⟨rfl, hb12⟩
                      have HB12 : Hid (Below w.heap.size w w12) := hide ((HBU.out w11 HB11.out).2.trans (hb12.mono (HBU.out w11 HB11.out).2.size))
                      clear hb12
                      go_wp2_with fail
                      go_ret
                      exact ⟨rfl, HB12.out⟩
    · have he' : (e0 != 0) = true := by simpa using he
      go_wp2_with fail
      refine (HWX.out).mono ?_
      rintro e w2 ⟨rfl, hb2⟩
      have HB2 : Hid (Below w.heap.size w w2) := hide (HB1.out.trans (hb2.mono HB1.out.size))
      clear hb2 x0 x1
      go_wp2_with fail
      refine (HKN.out w2).mono ?_
      rintro e w3 ⟨rfl, hb3⟩
      have HB3 : Hid (Below w.heap.size w w3) := hide (HB2.out.trans (hb3.mono HB2.out.size))
      clear hb3
      go_wp2_with fail
      go_ret
      exact ⟨rfl, HB3.out⟩
  · go_wp2_with fail
    refine (HKN.out w1).mono ?_
    rintro e w2 ⟨rfl, hb2⟩
    have HB2 : Hid (Below w.heap.size w w2) := hide (HB1.out.trans (hb2.mono HB1.out.size))
    clear hb2
    go_wp2_with fail
    go_ret
    exact ⟨rfl, HB2.out⟩
end Go.Proofs.Ytkjmpenaifhfjaa
