/- The law SealedPlays: two boxes that may be. -/
import Derived.Test.YtnidmoljhopcoaaPlayMain
namespace Go.Proofs.Ytnidmoljhopcoaa
open Go.RowKit

/-- Calls in memory. -/
def OpsAt (w : World) (A : Option Addr) (n : Nat) : Prop := 0 < n → ∃ b o, A = some ⟨b, o, none⟩ ∧ b < w.heap.size ∧ ∀ k, k < n → ∃ kind on bidder leave coins : Int,
  w.cell? ⟨b, o + k * 5, none⟩ = some (.int .i64 kind) ∧ w.cell? ⟨b, o + k * 5 + 1, none⟩ = some (.int .i64 on) ∧ w.cell? ⟨b, o + k * 5 + 2, none⟩ = some (.int .i64 bidder) ∧ w.cell? ⟨b, o + k * 5 + 3, none⟩ = some (.int .i64 leave) ∧ w.cell? ⟨b, o + k * 5 + 4, none⟩ = some (.int .i64 coins)
/-- Two boxes behind k calls. -/
def StK (w : World) (k : Nat) (W : World) : Prop := ∃ s t, Duo W w.heap.size (w.heap.size + 1) false s t ∧ (s.lr = s.lo ∧ s.lo.length ≤ k) ∧ (t.lr = t.lo ∧ t.lo.length ≤ k) ∧ Below w.heap.size w W
theorem StK.below {w W W' : World} {k : Nat} (h : StK w k W) (hb : Below W.heap.size W W') : StK w k W' := by
  obtain ⟨s, t, hd, h1, h2, hB⟩ := h
  exact ⟨s, t, hd.below hb, h1, h2, hB.trans (hb.mono hB.size)⟩

set_option maxRecDepth 100000 in
set_option maxHeartbeats 8000000 in
theorem plays_good (f0 f1 : Int) (A : Option Addr) (n c : Nat) (w : World) (hf : coinsB f0 = true) (hf1 : coinsB f1 = true) (hn : (n : Int) ≤ 9223372036854775807) (hops : OpsAt w A n) :
    Calls Try.prog 4 #[.agg #[.int .i64 f0, .int .i64 f1], .slice A n c] w (ValPost (.bool true) w) := by
  have HN := hide (fun W => new_any f0 W hf)
  have HA := hide (fun W => are_eq f0 true hf W)
  have HN1 := hide (fun W => new_any f1 W hf1)
  have HA1 := hide (fun W => are_eq f1 true hf1 W)
  have HNUM0 := hide (fun W => num_any 0 W)
  have HOP := hide hops
  clear hf hf1 hops
  go_enter Try.func4, Try.ntmps4
  go_wp2_with fail
  have H0 : Hid (St0 w f0 f1 ((w.alloc (.cells #[.int .i64 f0, .int .i64 f1] 36)).alloc (.cells #[.pointer none, .pointer none, .pointer none, .pointer none] 44))) := hide ⟨by rw [Below.heap_alloc _ _ _ (by simp)]; exact heap_alloc_new w _, by have := heap_alloc_new (w.alloc (.cells #[.int .i64 f0, .int .i64 f1] 36)) (.cells #[.pointer none, .pointer none, .pointer none, .pointer none] 44); simpa using this, ((Below.refl _ _).alloc (Nat.le_refl _) _).alloc (by simp) _⟩
  go_loopw [6] (fun i wr => (i = .int .i64 0 ∧ St0 w f0 f1 wr) ∨ (i = .int .i64 1 ∧ ∃ q r, St1 w f0 f1 q r wr) ∨ (i = .int .i64 2 ∧ St2 w f0 f1 wr)) (fun i _ => 2 - (intOf i).toNat)
  case atStart => exact .inl ⟨rfl, H0.out⟩
  case round =>
    rcases hrel with ⟨rfl, h⟩ | ⟨rfl, q, r, h⟩ | ⟨rfl, h⟩
    · have c0 := cell_of_row wr w.heap.size 0 _ _ (0, 0) h.arr
      simp at c0
      have HS := hide h
      have HLT := hide (lt_of_block h.blk)
      clear h
      go_wp2_with (first | (go_at_call 10; refine (HN.out _).mono ?_; rintro e w2 ⟨q, rfl, hbx, hb2⟩; have HX := hide hbx; have HB2 := hide hb2; have HK2 := hide ((hb2.block _ (lt_of_block HS.out.blk)).trans HS.out.blk); have HA2 := hide ((hb2.block _ (lt_of_block HS.out.arr)).trans HS.out.arr); have c0' := cell_of_row w2 w.heap.size 0 _ _ (0, 0) HA2.out; simp at c0'; clear hbx hb2 c0) | (go_at_call 11; refine (HA.out _).mono ?_; rintro e _ ⟨rfl, rfl⟩) | (go_at_call 8; refine (HNUM0.out _).mono ?_; rintro e _ ⟨rfl, rfl⟩))
      have HLT2 := hide (lt_of_block HK2.out)
      have hlt2 := HLT2.out
      have d0 := cell_of_row w2 (w.heap.size + 1) 0 _ _ (0, 0) HK2.out
      have d2 := cell_of_row w2 (w.heap.size + 1) 2 _ _ (0, 0) HK2.out
      simp at d0 d2
      have g0 := frozen_of_row w2 (w.heap.size + 1) 0 _ _ HK2.out
      have g2 := frozen_of_row w2 (w.heap.size + 1) 2 _ _ HK2.out
      have hS := c0'
      go_region_held3 (fun w' => w'.cell? ⟨w.heap.size, 0, none⟩ = some (.int .i64 f0)) (first | exact hS | go_keep) (fail)
      all_goals
        go_wp2
        go_roundw
        case rel =>
          exact .inr (.inl ⟨rfl, _, _, (st1_mk HS.out HB2.out HX.out).below ((Below.refl _ _).drew)⟩)
        case measure => simp [intOf]
    · have c0 := cell_of_row wr w.heap.size 1 _ _ (0, 0) h.arr
      simp at c0
      have HS := hide h
      have HLT := hide (lt_of_block h.blk)
      clear h
      go_wp2_with (first | (go_at_call 10; refine (HN1.out _).mono ?_; rintro e w2 ⟨q', rfl, hbx, hb2⟩; have HX := hide hbx; have HB2 := hide hb2; have HK2 := hide ((hb2.block _ (lt_of_block HS.out.blk)).trans HS.out.blk); have HA2 := hide ((hb2.block _ (lt_of_block HS.out.arr)).trans HS.out.arr); have c0' := cell_of_row w2 w.heap.size 1 _ _ (0, 0) HA2.out; simp at c0'; clear hbx hb2 c0) | (go_at_call 11; refine (HA1.out _).mono ?_; rintro e _ ⟨rfl, rfl⟩) | (go_at_call 8; refine (HNUM0.out _).mono ?_; rintro e _ ⟨rfl, rfl⟩))
      have HLT2 := hide (lt_of_block HK2.out)
      have hlt2 := HLT2.out
      have d0 := cell_of_row w2 (w.heap.size + 1) 1 _ _ (0, 0) HK2.out
      have d2 := cell_of_row w2 (w.heap.size + 1) 3 _ _ (0, 0) HK2.out
      simp at d0 d2
      have g0 := frozen_of_row w2 (w.heap.size + 1) 1 _ _ HK2.out
      have g2 := frozen_of_row w2 (w.heap.size + 1) 3 _ _ HK2.out
      have hS := c0'
      go_region_held3 (fun w' => w'.cell? ⟨w.heap.size, 1, none⟩ = some (.int .i64 f1)) (first | exact hS | go_keep) (fail)
      all_goals
        go_wp2
        go_roundw
        case rel =>
          exact .inr (.inr ⟨rfl, (st2_mk HS.out HB2.out HX.out).below ((Below.refl _ _).drew)⟩)
        case measure => simp [intOf]
    · have HS : Hid (StK w 0 wr) := hide (by
        obtain ⟨q, r, q', r', hd, hB⟩ := h
        exact ⟨_, _, hd, ⟨rfl, Nat.le_refl _⟩, ⟨rfl, Nat.le_refl _⟩, hB⟩)
      clear h H0 HN HA HN1 HA1
      go_wp2_with fail
      obtain ⟨wo, rfl⟩ : ∃ wo : World, wo = wr := ⟨_, rfl⟩
      go_loopw [9] (fun i wr => ∃ k : Nat, k ≤ n ∧ k ≤ 300 ∧ i = .int .i64 k ∧ StK w k wr) (fun i _ => n - (intOf i).toNat)
      case atStart => exact ⟨0, by omega, by omega, rfl, HS.out⟩
      case round =>
        obtain ⟨k, hk, hk3, rfl, hst⟩ := hrel
        have HST := hide hst
        clear hst
        by_cases hlt1 : k < n
        · by_cases hlt2 : k < 300
          · obtain ⟨b, o, rfl, hbB, hcl⟩ := HOP.out (by omega)
            obtain ⟨kind, on, bidder, leave, coins, o0, o1, o2, o3, o4⟩ := hcl k hlt1
            obtain ⟨s, t, hd, h1, h2, hB⟩ := HST.out
            have p0 := (hB.cell (p := ⟨b, o + k * 5, none⟩) hbB).trans o0
            have p1 := (hB.cell (p := ⟨b, o + k * 5 + 1, none⟩) hbB).trans o1
            have p2 := (hB.cell (p := ⟨b, o + k * 5 + 2, none⟩) hbB).trans o2
            have p3 := (hB.cell (p := ⟨b, o + k * 5 + 3, none⟩) hbB).trans o3
            have p4 := (hB.cell (p := ⟨b, o + k * 5 + 4, none⟩) hbB).trans o4
            have HSTEP := hide (step_any w.heap.size (w.heap.size + 1) k s t kind on bidder leave coins wr hd h1 h2 (by omega) hB.size)
            have HBR := hide hB
            have hl3 : (k : Int) < 300 := by omega
            clear o0 o1 o2 o3 o4 hcl hd h1 h2 hB
            go_wp2_with fail
            refine (HSTEP.out).mono ?_
            rintro e w5 ⟨rfl, s', t', hd5, hs5, ht5, hb5⟩
            have HS5 : Hid (StK w (k + 1) w5) := hide ⟨s', t', hd5, hs5, ht5, HBR.out.trans hb5⟩
            clear hd5 hs5 ht5 hb5 p0 p1 p2 p3 p4
            go_wp2_with fail
            clear hk hk3 hl3
            have HK := hide hlt1
            have HK3 := hide hlt2
            obtain ⟨wi, rfl⟩ : ∃ wi : World, wi = wr := ⟨_, rfl⟩
            go_loopw [10] (fun j wr => ∃ m : Nat, m ≤ 2 ∧ j = .int .i64 m ∧ StK w (k + 1) wr) (fun j _ => 2 - (intOf j).toNat)
            case atStart => exact ⟨0, by omega, rfl, HS5.out⟩
            case round =>
              obtain ⟨m, hm, rfl, hsi⟩ := hrel
              have HSI := hide hsi
              clear hsi
              rcases (by omega : m = 0 ∨ m = 1 ∨ m = 2) with rfl | rfl | rfl
              · obtain ⟨s, t, hd, h1, h2, hB⟩ := HSI.out
                have HL := hide (fun W (hW : Below wr.heap.size wr W) => (len_any _ _ _ _ _ W (hd.below hW).bs).mono (fun e w' (h : NumPost _ W e w') => (⟨h.1, h.2.symm⟩ : e = .returned (.int .i64 (s.lo.length : Int)) ∧ w' = W)))
                obtain ⟨A9, c9, hu9, _⟩ := own_sh hd.rs.row
                have k0 := cell_of_row wr (w.heap.size + 1) 0 _ _ (0, 0) hd.blk
                have k2 := cell_of_row wr (w.heap.size + 1) 2 _ _ (0, 0) hd.blk
                have k1 := hd.rs.cell 1
                simp [duoC, ptr] at k0 k2 k1
                rw [hu9, h1.1] at k1
                have hlen : s.lr.length = s.lo.length := by rw [h1.1]
                clear hd h1 h2 hB hu9
                go_wp2_with fail
                go_quiet ((go_at_call 13; exact Calls.quiet_of_same (HL.out _ (by first | exact (Below.refl _ _).drew | exact below_drewN (Below.refl _ _) _))))
                go_wp2
                go_roundw
                case rel => exact ⟨1, by omega, rfl, HSI.out.below (below_drewN (Below.refl _ _) _)⟩
                case measure => simp [intOf]
              · obtain ⟨s, t, hd, h1, h2, hB⟩ := HSI.out
                have HL := hide (fun W (hW : Below wr.heap.size wr W) => (len_any _ _ _ _ _ W (hd.below hW).bt).mono (fun e w' (h : NumPost _ W e w') => (⟨h.1, h.2.symm⟩ : e = .returned (.int .i64 (t.lo.length : Int)) ∧ w' = W)))
                obtain ⟨A9, c9, hu9, _⟩ := own_sh hd.rt.row
                have k0 := cell_of_row wr (w.heap.size + 1) 1 _ _ (0, 0) hd.blk
                have k2 := cell_of_row wr (w.heap.size + 1) 3 _ _ (0, 0) hd.blk
                have k1 := hd.rt.cell 1
                simp [duoC, ptr] at k0 k2 k1
                rw [hu9, h2.1] at k1
                have hlen : t.lr.length = t.lo.length := by rw [h2.1]
                clear hd h1 h2 hB hu9
                go_wp2_with fail
                go_quiet ((go_at_call 13; exact Calls.quiet_of_same (HL.out _ (by first | exact (Below.refl _ _).drew | exact below_drewN (Below.refl _ _) _))))
                go_wp2
                go_roundw
                case rel => exact ⟨2, by omega, rfl, HSI.out.below (below_drewN (Below.refl _ _) _)⟩
                case measure => simp [intOf]
              · go_wp2_with fail
                go_roundw
                case rel => exact ⟨k + 1, by have := HK.out; omega, by have := HK3.out; omega, by go_num, HSI.out⟩
                case measure => have := HK.out; simp [intOf]; omega
          · obtain rfl : k = 300 := by omega
            go_wp2_with fail
            obtain ⟨s, t, hd, h1, h2, hB⟩ := HST.out
            obtain ⟨A1, c1, hu1, _⟩ := own_sh hd.rs.row
            obtain ⟨A2, c2, hu2, _⟩ := own_sh hd.rt.row
            have HFX : Hid (∀ W, Below wr.heap.size wr W → Duo W w.heap.size (w.heap.size + 1) false s t) := hide (fun W hW => hd.below hW)
            have HSX : Hid (∀ W, Below wr.heap.size wr W → W.cell? ⟨w.heap.size + 1, 0, none⟩ = some (.pointer (some ⟨s.q, 0, none⟩)) ∧ W.cell? ⟨w.heap.size + 1, 1, none⟩ = some (.pointer (some ⟨t.q, 0, none⟩)) ∧ W.cell? ⟨w.heap.size + 1, 2, none⟩ = some (.pointer (some ⟨s.r, 0, none⟩)) ∧ W.cell? ⟨w.heap.size + 1, 3, none⟩ = some (.pointer (some ⟨t.r, 0, none⟩)) ∧ W.cell? ⟨s.r, 1, none⟩ = some (.slice A1 s.lo.length c1) ∧ W.cell? ⟨t.r, 1, none⟩ = some (.slice A2 t.lo.length c2)) := hide (fun W hW => by
              have hx := hd.below hW
              have e1 := hx.rs.cell 1
              have e2 := hx.rt.cell 1
              rw [hu1, h1.1] at e1
              rw [hu2, h2.1] at e2
              exact ⟨cell_of_row W _ 0 _ _ (0, 0) hx.blk, cell_of_row W _ 1 _ _ (0, 0) hx.blk, cell_of_row W _ 2 _ _ (0, 0) hx.blk, cell_of_row W _ 3 _ _ (0, 0) hx.blk, e1, e2⟩)
            have HG1 : Hid (∀ W bc, Below wr.heap.size wr W → W.heap[bc]? = some (.cells #[.pointer (some ⟨s.q, 0, none⟩)] 39 (0, 0)) → Calls Try.prog 14 #[.func (.func 37) #[] #[.pointer (some ⟨bc, 0, none⟩)], .slice A1 s.lo.length c1, .int .i64 0] W (ValPost (.bool true) W)) := hide (fun W bc hW hc => by
              have hx := hd.below hW
              have hr := hx.rs.row
              rw [hu1, h1.1] at hr
              exact goes_any s.lo (by omega) A1 c1 0 W hc hx.bs (Reads.of_own hr))
            have HG2 : Hid (∀ W bc, Below wr.heap.size wr W → W.heap[bc]? = some (.cells #[.pointer (some ⟨t.q, 0, none⟩)] 39 (0, 0)) → Calls Try.prog 14 #[.func (.func 37) #[] #[.pointer (some ⟨bc, 0, none⟩)], .slice A2 t.lo.length c2, .int .i64 0] W (ValPost (.bool true) W)) := hide (fun W bc hW hc => by
              have hx := hd.below hW
              have hr := hx.rt.row
              rw [hu2, h2.1] at hr
              exact goes_any t.lo (by omega) A2 c2 0 W hc hx.bt (Reads.of_own hr))
            have HBW := hide hB
            clear hd h1 h2 hB hu1 hu2
            have HNN : Hid (∀ W : World, Calls Try.prog 16 #[.pointer none] W (ValPost (.bool true) W)) := hide (fun W => nothing_any none W (.inl rfl))
            have HNZ : Hid (∀ W : World, Calls Try.prog 16 #[.pointer (some ⟨W.heap.size, 0, none⟩)] (W.alloc (.cells #[.bool false, .int .i64 0, .slice none 0 0] 60)) (ValPost (.bool true) (W.alloc (.cells #[.bool false, .int .i64 0, .slice none 0 0] 60)))) := hide (fun W => nothing_any _ _ (.inr ⟨_, rfl, heap_alloc_new W _⟩))
            have HX0 : Hid (Below wr.heap.size wr wr.drew) := hide ((Below.refl _ _).drew)
            have HXa : Hid (Below wr.heap.size wr (wr.alloc (.cells #[.pointer (some ⟨s.q, 0, none⟩)] 39)).drew) := hide (((Below.refl _ _).alloc (Nat.le_refl _) _).drew)
            have hS := HSX.out _ HX0.out
            go_region_held3 (fun W => W.cell? ⟨w.heap.size + 1, 0, none⟩ = some (.pointer (some ⟨s.q, 0, none⟩)) ∧ W.cell? ⟨w.heap.size + 1, 1, none⟩ = some (.pointer (some ⟨t.q, 0, none⟩)) ∧ W.cell? ⟨w.heap.size + 1, 2, none⟩ = some (.pointer (some ⟨s.r, 0, none⟩)) ∧ W.cell? ⟨w.heap.size + 1, 3, none⟩ = some (.pointer (some ⟨t.r, 0, none⟩)) ∧ W.cell? ⟨s.r, 1, none⟩ = some (.slice A1 s.lo.length c1) ∧ W.cell? ⟨t.r, 1, none⟩ = some (.slice A2 t.lo.length c2)) (first | with_reducible exact hS | with_reducible exact HSX.out _ HX0.out | with_reducible exact HSX.out _ HXa.out | with_reducible exact HSX.out _ HX1.out | with_reducible exact HSX.out _ HXb.out | with_reducible exact HSX.out _ HX2.out | with_reducible exact HSX.out _ HX3.out | with_reducible exact HSX.out _ HXc.out | with_reducible exact HSX.out _ HX4.out | with_reducible exact HSX.out _ HX5.out) (first | (go_at_call 15; (with_reducible refine (all_any (some ⟨s.q, 0, none⟩) _).mono ?_); rintro e _ ⟨rfl, rfl⟩; have HCa : Hid ((wr.alloc (.cells #[.pointer (some ⟨s.q, 0, none⟩)] 39)).drew.heap[wr.heap.size]? = some (.cells #[.pointer (some ⟨s.q, 0, none⟩)] 39 (0, 0))) := hide (heap_alloc_new wr _)) | (go_at_call 14; (with_reducible refine (HG1.out _ _ HXa.out HCa.out).mono ?_); rintro e w1 ⟨rfl, hb1⟩; have HX1 : Hid (Below wr.heap.size wr w1) := hide (HXa.out.trans (hb1.mono HXa.out.size)); have HXb := hide (HX1.out.alloc HX1.out.size (.cells #[.pointer (some ⟨t.q, 0, none⟩)] 39)); clear hb1 hS) | (go_at_call 15; (with_reducible refine (all_any (some ⟨t.q, 0, none⟩) _).mono ?_); rintro e _ ⟨rfl, rfl⟩; have HCb : Hid ((w1.alloc (.cells #[.pointer (some ⟨t.q, 0, none⟩)] 39)).heap[w1.heap.size]? = some (.cells #[.pointer (some ⟨t.q, 0, none⟩)] 39 (0, 0))) := hide (heap_alloc_new w1 _)) | (go_at_call 14; (with_reducible refine (HG2.out _ _ HXb.out HCb.out).mono ?_); rintro e w2 ⟨rfl, hb2⟩; have HX2 : Hid (Below wr.heap.size wr w2) := hide (HXb.out.trans (hb2.mono HXb.out.size)); clear hb2) | (go_at_call 16; (with_reducible refine (HNN.out w2).mono ?_); rintro e w3 ⟨rfl, hb3⟩; have HX3 : Hid (Below wr.heap.size wr w3) := hide (HX2.out.trans (hb3.mono HX2.out.size)); have HXc := hide (HX3.out.alloc HX3.out.size (.cells #[.bool false, .int .i64 0, .slice none 0 0] 60)); clear hb3) | (go_at_call 16; (with_reducible refine (HNZ.out w3).mono ?_); rintro e w4 ⟨rfl, hb4⟩; have HX4 : Hid (Below wr.heap.size wr w4) := hide (HXc.out.trans (hb4.mono HXc.out.size)); clear hb4) | (go_at_call 6; (with_reducible refine (works_any _).mono ?_); rintro e w5 ⟨rfl, hb5⟩; have HX5 : Hid (Below wr.heap.size wr w5) := hide (HX4.out.trans (hb5.mono HX4.out.size)); clear hb5))
            go_wp2_with fail
            go_ret
            exact ⟨rfl, HBW.out.trans (HX5.out.mono HBW.out.size)⟩
        · obtain rfl : k = n := by omega
          go_wp2_with fail
          obtain ⟨s, t, hd, h1, h2, hB⟩ := HST.out
          obtain ⟨A1, c1, hu1, _⟩ := own_sh hd.rs.row
          obtain ⟨A2, c2, hu2, _⟩ := own_sh hd.rt.row
          have HFX : Hid (∀ W, Below wr.heap.size wr W → Duo W w.heap.size (w.heap.size + 1) false s t) := hide (fun W hW => hd.below hW)
          have HSX : Hid (∀ W, Below wr.heap.size wr W → W.cell? ⟨w.heap.size + 1, 0, none⟩ = some (.pointer (some ⟨s.q, 0, none⟩)) ∧ W.cell? ⟨w.heap.size + 1, 1, none⟩ = some (.pointer (some ⟨t.q, 0, none⟩)) ∧ W.cell? ⟨w.heap.size + 1, 2, none⟩ = some (.pointer (some ⟨s.r, 0, none⟩)) ∧ W.cell? ⟨w.heap.size + 1, 3, none⟩ = some (.pointer (some ⟨t.r, 0, none⟩)) ∧ W.cell? ⟨s.r, 1, none⟩ = some (.slice A1 s.lo.length c1) ∧ W.cell? ⟨t.r, 1, none⟩ = some (.slice A2 t.lo.length c2)) := hide (fun W hW => by
            have hx := hd.below hW
            have e1 := hx.rs.cell 1
            have e2 := hx.rt.cell 1
            rw [hu1, h1.1] at e1
            rw [hu2, h2.1] at e2
            exact ⟨cell_of_row W _ 0 _ _ (0, 0) hx.blk, cell_of_row W _ 1 _ _ (0, 0) hx.blk, cell_of_row W _ 2 _ _ (0, 0) hx.blk, cell_of_row W _ 3 _ _ (0, 0) hx.blk, e1, e2⟩)
          have HG1 : Hid (∀ W bc, Below wr.heap.size wr W → W.heap[bc]? = some (.cells #[.pointer (some ⟨s.q, 0, none⟩)] 39 (0, 0)) → Calls Try.prog 14 #[.func (.func 37) #[] #[.pointer (some ⟨bc, 0, none⟩)], .slice A1 s.lo.length c1, .int .i64 0] W (ValPost (.bool true) W)) := hide (fun W bc hW hc => by
            have hx := hd.below hW
            have hr := hx.rs.row
            rw [hu1, h1.1] at hr
            exact goes_any s.lo (by omega) A1 c1 0 W hc hx.bs (Reads.of_own hr))
          have HG2 : Hid (∀ W bc, Below wr.heap.size wr W → W.heap[bc]? = some (.cells #[.pointer (some ⟨t.q, 0, none⟩)] 39 (0, 0)) → Calls Try.prog 14 #[.func (.func 37) #[] #[.pointer (some ⟨bc, 0, none⟩)], .slice A2 t.lo.length c2, .int .i64 0] W (ValPost (.bool true) W)) := hide (fun W bc hW hc => by
            have hx := hd.below hW
            have hr := hx.rt.row
            rw [hu2, h2.1] at hr
            exact goes_any t.lo (by omega) A2 c2 0 W hc hx.bt (Reads.of_own hr))
          have HBW := hide hB
          clear hd h1 h2 hB hu1 hu2
          have HNN : Hid (∀ W : World, Calls Try.prog 16 #[.pointer none] W (ValPost (.bool true) W)) := hide (fun W => nothing_any none W (.inl rfl))
          have HNZ : Hid (∀ W : World, Calls Try.prog 16 #[.pointer (some ⟨W.heap.size, 0, none⟩)] (W.alloc (.cells #[.bool false, .int .i64 0, .slice none 0 0] 60)) (ValPost (.bool true) (W.alloc (.cells #[.bool false, .int .i64 0, .slice none 0 0] 60)))) := hide (fun W => nothing_any _ _ (.inr ⟨_, rfl, heap_alloc_new W _⟩))
          have HX0 : Hid (Below wr.heap.size wr wr.drew) := hide ((Below.refl _ _).drew)
          have HXa : Hid (Below wr.heap.size wr (wr.alloc (.cells #[.pointer (some ⟨s.q, 0, none⟩)] 39)).drew) := hide (((Below.refl _ _).alloc (Nat.le_refl _) _).drew)
          have hS := HSX.out _ HX0.out
          go_region_held3 (fun W => W.cell? ⟨w.heap.size + 1, 0, none⟩ = some (.pointer (some ⟨s.q, 0, none⟩)) ∧ W.cell? ⟨w.heap.size + 1, 1, none⟩ = some (.pointer (some ⟨t.q, 0, none⟩)) ∧ W.cell? ⟨w.heap.size + 1, 2, none⟩ = some (.pointer (some ⟨s.r, 0, none⟩)) ∧ W.cell? ⟨w.heap.size + 1, 3, none⟩ = some (.pointer (some ⟨t.r, 0, none⟩)) ∧ W.cell? ⟨s.r, 1, none⟩ = some (.slice A1 s.lo.length c1) ∧ W.cell? ⟨t.r, 1, none⟩ = some (.slice A2 t.lo.length c2)) (first | with_reducible exact hS | with_reducible exact HSX.out _ HX0.out | with_reducible exact HSX.out _ HXa.out | with_reducible exact HSX.out _ HX1.out | with_reducible exact HSX.out _ HXb.out | with_reducible exact HSX.out _ HX2.out | with_reducible exact HSX.out _ HX3.out | with_reducible exact HSX.out _ HXc.out | with_reducible exact HSX.out _ HX4.out | with_reducible exact HSX.out _ HX5.out) (first | (go_at_call 15; (with_reducible refine (all_any (some ⟨s.q, 0, none⟩) _).mono ?_); rintro e _ ⟨rfl, rfl⟩; have HCa : Hid ((wr.alloc (.cells #[.pointer (some ⟨s.q, 0, none⟩)] 39)).drew.heap[wr.heap.size]? = some (.cells #[.pointer (some ⟨s.q, 0, none⟩)] 39 (0, 0))) := hide (heap_alloc_new wr _)) | (go_at_call 14; (with_reducible refine (HG1.out _ _ HXa.out HCa.out).mono ?_); rintro e w1 ⟨rfl, hb1⟩; have HX1 : Hid (Below wr.heap.size wr w1) := hide (HXa.out.trans (hb1.mono HXa.out.size)); have HXb := hide (HX1.out.alloc HX1.out.size (.cells #[.pointer (some ⟨t.q, 0, none⟩)] 39)); clear hb1 hS) | (go_at_call 15; (with_reducible refine (all_any (some ⟨t.q, 0, none⟩) _).mono ?_); rintro e _ ⟨rfl, rfl⟩; have HCb : Hid ((w1.alloc (.cells #[.pointer (some ⟨t.q, 0, none⟩)] 39)).heap[w1.heap.size]? = some (.cells #[.pointer (some ⟨t.q, 0, none⟩)] 39 (0, 0))) := hide (heap_alloc_new w1 _)) | (go_at_call 14; (with_reducible refine (HG2.out _ _ HXb.out HCb.out).mono ?_); rintro e w2 ⟨rfl, hb2⟩; have HX2 : Hid (Below wr.heap.size wr w2) := hide (HXb.out.trans (hb2.mono HXb.out.size)); clear hb2) | (go_at_call 16; (with_reducible refine (HNN.out w2).mono ?_); rintro e w3 ⟨rfl, hb3⟩; have HX3 : Hid (Below wr.heap.size wr w3) := hide (HX2.out.trans (hb3.mono HX2.out.size)); have HXc := hide (HX3.out.alloc HX3.out.size (.cells #[.bool false, .int .i64 0, .slice none 0 0] 60)); clear hb3) | (go_at_call 16; (with_reducible refine (HNZ.out w3).mono ?_); rintro e w4 ⟨rfl, hb4⟩; have HX4 : Hid (Below wr.heap.size wr w4) := hide (HXc.out.trans (hb4.mono HXc.out.size)); clear hb4) | (go_at_call 6; (with_reducible refine (works_any _).mono ?_); rintro e w5 ⟨rfl, hb5⟩; have HX5 : Hid (Below wr.heap.size wr w5) := hide (HX4.out.trans (hb5.mono HX4.out.size)); clear hb5))
          go_wp2_with fail
          go_ret
          exact ⟨rfl, HBW.out.trans (HX5.out.mono HBW.out.size)⟩
end Go.Proofs.Ytnidmoljhopcoaa
