/- The law GoodsChoices: its walk. -/
import Derived.Test.YtffpiaipdeebcaaDoorChW
namespace Go.Proofs.YtffpiaipdeebcaaDoor
open Go.RowKit Go.Maps Go.Shelf
open Go.ChangeMaps Go.WideMaps

set_option maxRecDepth 100000 in
set_option maxHeartbeats 16000000 in
theorem choicesLaw_any (n : Int) (A : Option Addr) (c : Nat) (hs : List Hdr) (ls : List (List Offer)) (Z : Option Addr) (zc : Nat) (zs : List Int) (w : World) (h : Buys w w.heap.size A hs ls) (hw : BWide ls) (hln : (ls.length : Int) ≤ 9223372036854775807) (hls : ∀ l ∈ ls, (l.length : Int) ≤ 9223372036854775807)
    (hz : One intV w w.heap.size Z zs) (hzl : zs.length * 8 ≤ 140737488351232) (hT : TabW w) (hM : MlW w) :
    Calls Tryd.prog 7 #[instV n A ls.length c, .slice Z zs.length zc] w (ValPost (.bool true) w) := by
  have HKN := hide (fun W (hb : Below w.heap.size w W) => known_any W (hT.below hb) (hM.below hb))
  have HNM := hide (fun n W => num_any n W)
  unfold SamePost at HNM
  have HT := hide hT
  have HZS := hide hz
  have HW := hide hw
  have HH := hide h
  have HLS := hide hls
  have HB0 : Hid (Below w.heap.size w (w.alloc (.cells #[.int .i64 n, .slice A ls.length c] 49))) := hide ((Below.refl _ _).alloc (Nat.le_refl _) _)
  have HX0 := hide (heap_alloc_new w (.cells #[.int .i64 n, .slice A ls.length c] 49))
  clear h hw hz hT hM hls
  simp only [instV] at *
  go_enter Tryd.func7, Tryd.ntmps7
  go_upto_region 1 with fail
  generalize w.alloc (.cells #[.int .i64 n, .slice A ls.length c] 49) = w1 at *
  have x0 := cell_of_row _ _ 0 _ _ (0, 0) HX0.out
  have x1 := cell_of_row _ _ 1 _ _ (0, 0) HX0.out
  simp only [List.getElem?_toArray, List.getElem?_cons_zero, List.getElem?_cons_succ] at x0 x1
  by_cases hbig : 1000 < ls.length
  · have d1 : decide ((1000 : Int) < (ls.length : Int)) = true := decide_eq_true (by omega)
    clear hbig
    go_wp2_with (go_at_call 22; refine (HKN.out _ HB0.out).mono ?_; rintro e w2 ⟨rfl, hb2⟩; have HB2 := hide (HB0.out.trans (hb2.mono HB0.out.size)); clear hb2)
    go_ret
    exact ⟨rfl, HB2.out⟩
  · have d1 : decide ((1000 : Int) < (ls.length : Int)) = false := decide_eq_false (by omega)
    have HL1 : Hid (ls.length ≤ 1000) := hide (by omega)
    have hl1 : ls.length ≤ 1000 := by omega
    clear hbig
    go_upto_region 4 with fail
    clear d1
    go_loopw [5] (fun iv wr => ∃ k : Nat, k ≤ ls.length ∧ iv = .int .i64 k ∧ (∀ (j : Nat) l, j < k → ls[j]? = some l → l.length ≤ 1000) ∧ w1 = wr) (fun iv _ => ls.length - (intOf iv).toNat)
    case atStart => exact ⟨0, Nat.zero_le _, rfl, fun j l hj => absurd hj (by omega), by trivial⟩
    case round =>
      obtain ⟨k, hk, rfl, hall, rfl⟩ := hrel
      have HALL := hide hall
      clear hall
      by_cases hlt : k < ls.length
      · obtain ⟨⟨a1, a2⟩, l, ha, hlx, hro, hca⟩ := HH.out.get hlt
        obtain ⟨bb, bo, rfl, hbB, hat⟩ := HH.out.at_ (by omega)
        have z1 : w1.cell? ⟨bb, bo + k, none⟩ = some (.slice a1 l.length a2) := (HB0.out.cell (p := ⟨bb, bo + k, none⟩) hbB).trans (hat k _ l ha hlx)
        have hki : (k : Int) < (ls.length : Int) := by omega
        have HLX := hide hlx
        have hll := HLS.out l (List.mem_of_getElem? hlx)
        have HKL := hide hlt
        clear hat ha hlx hro hca
        by_cases hb : 1000 < l.length
        · have d1 : decide ((1000 : Int) < (l.length : Int)) = true := decide_eq_true (by omega)
          clear hb
          go_wp2_with (go_at_call 22; refine (HKN.out _ HB0.out).mono ?_; rintro e w2 ⟨rfl, hb2⟩; have HB2 := hide (HB0.out.trans (hb2.mono HB0.out.size)); clear hb2)
          go_ret
          exact ⟨rfl, HB2.out⟩
        · have d1 : decide ((1000 : Int) < (l.length : Int)) = false := decide_eq_false (by omega)
          have HNX : Hid (∀ (j : Nat) l, j < k + 1 → ls[j]? = some l → l.length ≤ 1000) := hide (fun j l' hj hl' => by
            rcases Nat.lt_or_ge j k with h | h
            · exact HALL.out j l' h hl'
            · obtain rfl : j = k := by omega
              have := HLX.out
              rw [hl'] at this
              injection this with this
              subst this
              omega)
          clear hb
          go_wp2_with fail
          go_roundw
          case rel => exact ⟨k + 1, HKL.out, by go_num, HNX.out, by trivial⟩
          case measure => have := HKL.out; simp [intOf]; omega
      · obtain rfl : k = ls.length := by omega
        have HLL : Hid (∀ l ∈ ls, l.length ≤ 1000) := hide (fun l hl => by
          obtain ⟨j, hj⟩ := List.getElem?_of_mem hl
          exact HALL.out j l (List.getElem?_eq_some_iff.1 hj).1 hj)
        have HLE := hide (lent_any n A c hs ls w1 (HH.out.up HB0.out) HL1.out HLL.out)
        unfold LentPost at HLE
        simp only [instV] at HLE
        clear HALL HLS
        go_upto_region 9 with (go_at_call 33; refine (HLE.out).mono ?_; rintro e w2 ⟨A1, c1, hs1, rfl, hown, hb2⟩; have HO2 := hide hown; have HB2 := hide (HB0.out.trans (hb2.mono HB0.out.size)); have HX2 := hide ((hb2.block _ (lt_of_block HX0.out)).trans HX0.out); clear hown hb2)
        have HB3 : Hid (Below w2.heap.size w2 (w2.alloc (.cells #[.int .i64 n, .slice A1 ls.length c1] 49))) := hide ((Below.refl _ _).alloc (Nat.le_refl _) _)
        have HM3 := hide (heap_alloc_new w2 (.cells #[.int .i64 n, .slice A1 ls.length c1] 49))
        obtain ⟨M, hM⟩ : ∃ M, w2.heap.size = M := ⟨_, rfl⟩
        have HMW : Hid (w.heap.size ≤ M) := hide (by rw [← hM]; exact HB2.out.size)
        rw [hM] at HM3 ⊢
        have HB3w := hide (HB2.out.trans (HB3.out.mono HB2.out.size))
        have HX3 := hide ((HB3.out.block _ (lt_of_block HX2.out)).trans HX2.out)
        have HO3 := hide (OwnL.below HO2.out HB3.out)
        clear hM HB3
        generalize w2.alloc (.cells #[.int .i64 n, .slice A1 ls.length c1] 49) = w3 at *
        have G1 := hide (ints_oneP zs)
        have G2 : Hid (0 + zs.length ≤ maxLen) := hide (by unfold maxLen; omega)
        have G3 : Hid ((0 + zs.length) * 8 ≤ 140737488355328) := hide (by omega)
        have G4 := hide (ints_oneP [771])
        have G5 : Hid (zs.length + 1 ≤ maxLen) := hide (by unfold maxLen; omega)
        have G6 : Hid ((zs.length + 1) * 8 ≤ 140737488355328) := hide (by omega)
        have HZ3 := hide (HZS.out.up HB3w.out)
        go_upto_region 10 with (first
          | (at_builtin; refine wpList_append_any rfl (.const (.slice none 0 0)) (.tmp 49) 22 rfl w3.heap.size 3 _ 1 8 infoN7 Tryd.underlying22 rfl (by decide) _ 0 [] rfl (World.ownsRow_nil _ _ _ _) w3.heap.size Z zs.length zc (zs.map intV) rfl HZ3.out G1.out G2.out G3.out (Nat.le_refl _) ?_; intro v4 w4 hown4 hg4 _; rw [Nat.zero_add, List.nil_append] at hown4; obtain ⟨A4, c4, hv4, _⟩ := own_sh hown4; subst hv4; have HO4 := hide hown4; have HB4 : Hid (Below w3.heap.size w3 w4) := hide ((Below.refl _ _).grown hg4 (Nat.le_refl _) (fun j hj => by cases hj)); clear hown4 hg4)
          | (at_builtin; refine wpList_append_any rfl (.tmp 50) (.tmp 51) 22 rfl w3.heap.size 3 _ 1 8 infoN7 Tryd.underlying22 rfl (by decide) _ zs.length (zs.map intV) rfl (own_below HO4.out ((Below.refl _ _).alloc (Nat.le_refl _) _) (Nat.le_refl _)) _ (some ⟨w4.heap.size, 0, none⟩) 1 1 ([771].map intV) rfl (reads_row7 (xs := [.int .i64 771]) (heap_alloc_new w4 _) rfl) G4.out G5.out G6.out (by have := HB4.out.size; simp; omega) ?_; intro v5 w5 hown5 hg5 _; obtain ⟨gc, cc, hv5, _⟩ := hown5.form (by omega); subst hv5; have HB5 : Hid (Below w3.heap.size w3 w5) := hide ((HB4.out.alloc HB4.out.size _).grown hg5 (by have := HB4.out.size; simp; omega) (fun j hj => (HO4.out.lt j hj).1)); have HO5 : Hid (w5.ownsRow w3.heap.size 3 1 (.slice (some ⟨gc, 0, none⟩) (zs.length + 1) cc) (zs.length + 1) ((zs ++ [771]).map intV)) := hide (by rw [List.map_append]; exact hown5); clear hown5 hg5))
        have HC5 : Hid (ChS w n A c ls M A1 c1 hs1 gc cc zs w5) := hide ⟨HB3w.out.trans (HB5.out.mono HB3w.out.size), (HB5.out.block _ (lt_of_block HX3.out)).trans HX3.out, (HB5.out.block _ (lt_of_block HM3.out)).trans HM3.out, by
          obtain ⟨q1, ⟨mb, q2, q3, q4⟩, q5⟩ := OwnL.below HO3.out HB5.out
          exact ⟨q1, ⟨mb, by have := HB0.out.size; omega, own_base q3 HB0.out.size, q4⟩, fun i a l ha hl => own_base (q5 i a l ha hl) HB0.out.size⟩, own_base HO5.out HB3w.out.size⟩
        clear HO2 HB2 HX2 HM3 HX3 HO3 HB3w HZ3 G1 G2 G3 G4 G5 G6 HO4 HB4 HB5 HO5 HB0 HX0 HLE x0 x1
        have HGC := hide (fun W (h : ChS w n A c ls M A1 c1 hs1 gc cc zs W) => gcheck_any n A1 c1 hs1 ls W h.lent.buys HW.out)
        have HRC := hide (fun W (h : ChS w n A c ls M A1 c1 hs1 gc cc zs W) => refcheck_any n A c hs ls W (HH.out.up h.bel) HW.out)
        have HWO := hide (fun W (h : ChS w n A c ls M A1 c1 hs1 gc cc zs W) => worth_all n A1 c1 hs1 ls (some ⟨gc, 0, none⟩) cc zs W h.lent.buys HW.out h.ints hzl (HT.out.below h.bel))
        have HTK := hide (fun W (h : ChS w n A c ls M A1 c1 hs1 gc cc zs W) => taken_all n A1 c1 hs1 ls (some ⟨gc, 0, none⟩) cc zs W h.lent.buys HW.out h.ints hzl (HT.out.below h.bel))
        have HRT := hide (fun W (h : ChS w n A c ls M A1 c1 hs1 gc cc zs W) => reftaken_any n A c hs ls Z zc zs W (HH.out.up h.bel) HW.out (HZS.out.up h.bel) hzl)
        unfold checkV ValPost at HGC HRC
        unfold ValPost at HWO
        unfold TakenAP at HTK
        unfold RefTakenP at HRT
        simp only [instV] at HGC HRC HWO HTK HRT
        obtain ⟨ce, hce⟩ : ∃ ce, chErr n ls zs = ce := ⟨_, rfl⟩
        obtain ⟨wo, hwo⟩ : ∃ wo, chWorth n ls zs = wo := ⟨_, rfl⟩
        obtain ⟨T, hTL⟩ : ∃ T, chTaken n ls zs = T := ⟨_, rfl⟩
        have HTL : Hid (T.length ≤ 1000) := hide (by
          rw [← hTL]
          unfold chTaken
          split
          · simp
          · rw [List.length_map]
            unfold outL
            rw [List.length_zipWith]
            have := HL1.out
            omega)
        obtain ⟨⟨r0, r1, r2⟩, hrr⟩ : ∃ r, checkT n ls = r := ⟨_, rfl⟩
        rw [hrr] at HGC HRC
        rw [hce, hwo] at HWO
        rw [hce, hTL] at HTK
        rw [hce, hwo, hTL] at HRT
        simp only at HGC HRC
        clear hce hwo hTL hrr
        obtain ⟨x0, x1, m0, m1⟩ := HC5.out.boxes
        go_upto_region 11 with (go_at_call 34; refine (HGC.out _ HC5.out).mono ?_; rintro e w6 ⟨rfl, hb6⟩; have HC6 := hide (HC5.out.below hb6); clear hb6 x0 x1 m0 m1; obtain ⟨x0, x1, m0, m1⟩ := HC6.out.boxes)
        go_upto_region 12 with (go_at_call 35; refine (HRC.out _ HC6.out).mono ?_; rintro e w7 ⟨rfl, hb7⟩; have HC7 := hide (HC6.out.below hb7); clear hb7 x0 x1 m0 m1; obtain ⟨x0, x1, m0, m1⟩ := HC7.out.boxes)
        clear HC5 HC6 HGC HRC
        have hcc : (zs.length : Int) ≤ (cc : Int) := by have := HC7.out.cap; omega
        have h0z : (0 : Int) ≤ (zs.length : Int) := by omega
        have HC7d := hide (HC7.out.below ((Below.refl _ _).drew))
        have hS0 : w7.drew.cell? ⟨M, 0, none⟩ = some (.int .i64 n) ∧ w7.drew.cell? ⟨M, 1, none⟩ = some (.slice A1 ls.length c1) := ⟨HC7d.out.boxes.2.2.1, HC7d.out.boxes.2.2.2⟩
        refine wp_region_U 11 (fun X => X.cell? ⟨M, 0, none⟩ = some (.int .i64 n) ∧ X.cell? ⟨M, 1, none⟩ = some (.slice A1 ls.length c1)) rfl hS0 (fun hHeld => ?_)
        clear hS0 x0 x1 m0 m1
        refine AnyU.take (i := 0) (v := ?v1) rfl (by kernel_rfl) (by kernel_rfl) (by kernel_rfl) (by kernel_rfl) (fun _ _ _ h => h) (Or.inl ⟨by rfl, ?hy1⟩) hHeld ?r1
        case hy1 => (intro w hSw; (try dsimp only at hSw); go_simp <;> with_reducible rfl)
        simp only [Act.put, List.setIfInBounds_toArray, List.set_cons_zero, List.set_cons_succ]
        refine AnyU.take (i := 1) (v := ?v2) rfl (by kernel_rfl) (by kernel_rfl) (by kernel_rfl) (by kernel_rfl) (fun _ _ _ h => h) (Or.inl ⟨by rfl, ?hy2⟩) hHeld ?r2
        case hy2 => (intro w hSw; (try dsimp only at hSw); go_simp <;> with_reducible rfl)
        simp only [Act.put, List.setIfInBounds_toArray, List.set_cons_zero, List.set_cons_succ]
        refine AnyU.take (i := 2) (v := ?v3) rfl (by kernel_rfl) (by kernel_rfl) (by kernel_rfl) (by kernel_rfl) (fun _ _ _ h => h) (Or.inl ⟨by rfl, ?hy3⟩) hHeld ?r3
        case hy3 => (intro w hSw; (try dsimp only at hSw); go_simp <;> with_reducible rfl)
        simp only [Act.put, List.setIfInBounds_toArray, List.set_cons_zero, List.set_cons_succ]
        refine AnyU.take (i := 3) (v := ?v4) rfl (by kernel_rfl) (by kernel_rfl) (by kernel_rfl) (by kernel_rfl) (fun _ _ _ h => h) (Or.inl ⟨by rfl, ?hy4⟩) hHeld ?r4
        case hy4 => (intro w hSw; (try dsimp only at hSw); go_simp <;> with_reducible rfl)
        simp only [Act.put, List.setIfInBounds_toArray, List.set_cons_zero, List.set_cons_succ]
        refine AnyU.take (i := 4) (v := ?v5) rfl (by kernel_rfl) (by kernel_rfl) (by kernel_rfl) (by kernel_rfl) (fun _ _ _ h => h) (Or.inl ⟨by rfl, ?hy5⟩) hHeld ?r5
        case hy5 => (intro w hSw; (try dsimp only at hSw); go_simp <;> with_reducible rfl)
        simp only [Act.put, List.setIfInBounds_toArray, List.set_cons_zero, List.set_cons_succ]
        refine AnyU.next (js := [5]) (by kernel_rfl) (by simp) (NextU.cons rfl (fun K hK => ?_) NextU.nil)
        go_simp
        refine (HWO.out _ HC7d.out).mono ?_
        rintro e w8 ⟨rfl, hb8⟩
        have HC8 := hide (HC7d.out.below hb8)
        have hS1 : w8.cell? ⟨M, 0, none⟩ = some (.int .i64 n) ∧ w8.cell? ⟨M, 1, none⟩ = some (.slice A1 ls.length c1) := ⟨HC8.out.boxes.2.2.1, HC8.out.boxes.2.2.2⟩
        clear hb8
        go_wp2_with fail
        refine hK.out _ _ (fun _ => hS1) (fun hHeld => ?_)
        replace hHeld := hHeld (by decide)
        try simp only [Act.put, List.setIfInBounds_toArray, List.set_cons_zero, List.set_cons_succ]
        refine AnyU.take (i := 6) (v := ?v6) rfl (by kernel_rfl) (by kernel_rfl) (by kernel_rfl) (by kernel_rfl) (fun _ _ _ h => h) (Or.inl ⟨by rfl, ?hy6⟩) hHeld ?r6
        case hy6 => (intro w hSw; (try dsimp only at hSw); go_simp <;> with_reducible rfl)
        simp only [Act.put, List.setIfInBounds_toArray, List.set_cons_zero, List.set_cons_succ]
        refine AnyU.take (i := 7) (v := ?v7) rfl (by kernel_rfl) (by kernel_rfl) (by kernel_rfl) (by kernel_rfl) (fun _ _ _ h => h) (Or.inl ⟨by rfl, ?hy7⟩) hHeld ?r7
        case hy7 => (intro w hSw; (try dsimp only at hSw); go_simp <;> with_reducible rfl)
        simp only [Act.put, List.setIfInBounds_toArray, List.set_cons_zero, List.set_cons_succ]
        refine AnyU.take (i := 8) (v := ?v8) rfl (by kernel_rfl) (by kernel_rfl) (by kernel_rfl) (by kernel_rfl) (fun _ _ _ h => h) (Or.inl ⟨by rfl, ?hy8⟩) hHeld ?r8
        case hy8 => (intro w hSw; (try dsimp only at hSw); go_simp <;> with_reducible rfl)
        simp only [Act.put, List.setIfInBounds_toArray, List.set_cons_zero, List.set_cons_succ]
        refine AnyU.next (js := [9]) (by kernel_rfl) (by simp) (NextU.cons rfl (fun K hK => ?_) NextU.nil)
        go_simp
        refine hK.out _ _ (fun _ => hS1) (fun hHeld => ?_)
        replace hHeld := hHeld (by decide)
        try simp only [Act.put, List.setIfInBounds_toArray, List.set_cons_zero, List.set_cons_succ]
        refine AnyU.next (js := [10]) (by kernel_rfl) (by simp) (NextU.cons rfl (fun K hK => ?_) NextU.nil)
        go_simp
        refine hK.out _ _ (fun _ => hS1) (fun hHeld => ?_)
        try simp only [Act.put, List.setIfInBounds_toArray, List.set_cons_zero, List.set_cons_succ]
        refine AnyU.over (by kernel_rfl) ?_ _
        clear hS1 hHeld
        go_upto_region 13 with fail
        have HCwa := hide (HC8.out.below ((Below.refl _ _).drew))
        have hS0 : w8.drew.cell? ⟨M, 0, none⟩ = some (.int .i64 n) ∧ w8.drew.cell? ⟨M, 1, none⟩ = some (.slice A1 ls.length c1) := ⟨HCwa.out.boxes.2.2.1, HCwa.out.boxes.2.2.2⟩
        refine wp_region_U 11 (fun X => X.cell? ⟨M, 0, none⟩ = some (.int .i64 n) ∧ X.cell? ⟨M, 1, none⟩ = some (.slice A1 ls.length c1)) rfl hS0 (fun hHeld => ?_)
        clear hS0
        generalize w8.drew = wa at *
        refine AnyU.take (i := 0) (v := ?v9) rfl (by kernel_rfl) (by kernel_rfl) (by kernel_rfl) (by kernel_rfl) (fun _ _ _ h => h) (Or.inl ⟨by rfl, ?hy9⟩) hHeld ?r9
        case hy9 => (intro w hSw; (try dsimp only at hSw); go_simp <;> with_reducible rfl)
        simp only [Act.put, List.setIfInBounds_toArray, List.set_cons_zero, List.set_cons_succ]
        refine AnyU.take (i := 1) (v := ?v10) rfl (by kernel_rfl) (by kernel_rfl) (by kernel_rfl) (by kernel_rfl) (fun _ _ _ h => h) (Or.inl ⟨by rfl, ?hy10⟩) hHeld ?r10
        case hy10 => (intro w hSw; (try dsimp only at hSw); go_simp <;> with_reducible rfl)
        simp only [Act.put, List.setIfInBounds_toArray, List.set_cons_zero, List.set_cons_succ]
        refine AnyU.take (i := 2) (v := ?v11) rfl (by kernel_rfl) (by kernel_rfl) (by kernel_rfl) (by kernel_rfl) (fun _ _ _ h => h) (Or.inl ⟨by rfl, ?hy11⟩) hHeld ?r11
        case hy11 => (intro w hSw; (try dsimp only at hSw); go_simp <;> with_reducible rfl)
        simp only [Act.put, List.setIfInBounds_toArray, List.set_cons_zero, List.set_cons_succ]
        refine AnyU.take (i := 3) (v := ?v12) rfl (by kernel_rfl) (by kernel_rfl) (by kernel_rfl) (by kernel_rfl) (fun _ _ _ h => h) (Or.inl ⟨by rfl, ?hy12⟩) hHeld ?r12
        case hy12 => (intro w hSw; (try dsimp only at hSw); go_simp <;> with_reducible rfl)
        simp only [Act.put, List.setIfInBounds_toArray, List.set_cons_zero, List.set_cons_succ]
        refine AnyU.take (i := 4) (v := ?v13) rfl (by kernel_rfl) (by kernel_rfl) (by kernel_rfl) (by kernel_rfl) (fun _ _ _ h => h) (Or.inl ⟨by rfl, ?hy13⟩) hHeld ?r13
        case hy13 => (intro w hSw; (try dsimp only at hSw); go_simp <;> with_reducible rfl)
        simp only [Act.put, List.setIfInBounds_toArray, List.set_cons_zero, List.set_cons_succ]
        refine AnyU.next (js := [5]) (by kernel_rfl) (by simp) (NextU.cons rfl (fun K hK => ?_) NextU.nil)
        go_simp
        refine (HTK.out _ HCwa.out).mono ?_
        rintro e w9 ⟨A9, c9, rfl, hown, hb⟩
        have HC9 := hide (HCwa.out.below hb)
        have HO9 := hide hown
        have HBw9 := hide hb
        have hS1 : w9.cell? ⟨M, 0, none⟩ = some (.int .i64 n) ∧ w9.cell? ⟨M, 1, none⟩ = some (.slice A1 ls.length c1) := ⟨HC9.out.boxes.2.2.1, HC9.out.boxes.2.2.2⟩
        clear hb hown
        go_wp2_with fail
        refine hK.out _ _ (fun _ => hS1) (fun hHeld => ?_)
        replace hHeld := hHeld (by decide)
        try simp only [Act.put, List.setIfInBounds_toArray, List.set_cons_zero, List.set_cons_succ]
        refine AnyU.take (i := 6) (v := ?v14) rfl (by kernel_rfl) (by kernel_rfl) (by kernel_rfl) (by kernel_rfl) (fun _ _ _ h => h) (Or.inl ⟨by rfl, ?hy14⟩) hHeld ?r14
        case hy14 => (intro w hSw; (try dsimp only at hSw); go_simp <;> with_reducible rfl)
        simp only [Act.put, List.setIfInBounds_toArray, List.set_cons_zero, List.set_cons_succ]
        refine AnyU.take (i := 7) (v := ?v15) rfl (by kernel_rfl) (by kernel_rfl) (by kernel_rfl) (by kernel_rfl) (fun _ _ _ h => h) (Or.inl ⟨by rfl, ?hy15⟩) hHeld ?r15
        case hy15 => (intro w hSw; (try dsimp only at hSw); go_simp <;> with_reducible rfl)
        simp only [Act.put, List.setIfInBounds_toArray, List.set_cons_zero, List.set_cons_succ]
        refine AnyU.take (i := 8) (v := ?v16) rfl (by kernel_rfl) (by kernel_rfl) (by kernel_rfl) (by kernel_rfl) (fun _ _ _ h => h) (Or.inl ⟨by rfl, ?hy16⟩) hHeld ?r16
        case hy16 => (intro w hSw; (try dsimp only at hSw); go_simp <;> with_reducible rfl)
        simp only [Act.put, List.setIfInBounds_toArray, List.set_cons_zero, List.set_cons_succ]
        refine AnyU.next (js := [9]) (by kernel_rfl) (by simp) (NextU.cons rfl (fun K hK => ?_) NextU.nil)
        go_simp
        refine hK.out _ _ (fun _ => hS1) (fun hHeld => ?_)
        replace hHeld := hHeld (by decide)
        try simp only [Act.put, List.setIfInBounds_toArray, List.set_cons_zero, List.set_cons_succ]
        refine AnyU.next (js := [10]) (by kernel_rfl) (by simp) (NextU.cons rfl (fun K hK => ?_) NextU.nil)
        go_simp
        refine hK.out _ _ (fun _ => hS1) (fun hHeld => ?_)
        try simp only [Act.put, List.setIfInBounds_toArray, List.set_cons_zero, List.set_cons_succ]
        refine AnyU.over (by kernel_rfl) ?_ _
        clear hS1 hHeld
        go_upto_region 14 with fail
        have HCwb := hide (HC9.out.below ((Below.refl _ _).drew))
        have hS0 : w9.drew.cell? ⟨M, 0, none⟩ = some (.int .i64 n) ∧ w9.drew.cell? ⟨M, 1, none⟩ = some (.slice A1 ls.length c1) := ⟨HCwb.out.boxes.2.2.1, HCwb.out.boxes.2.2.2⟩
        refine wp_region_U 11 (fun X => X.cell? ⟨M, 0, none⟩ = some (.int .i64 n) ∧ X.cell? ⟨M, 1, none⟩ = some (.slice A1 ls.length c1)) rfl hS0 (fun hHeld => ?_)
        clear hS0
        have HAB : Hid (Below wa.heap.size wa w9.drew) := hide (HBw9.out.drew)
        have HZ9 : Hid (w9.heap.size = w9.drew.heap.size) := hide rfl
        have HBD9 : Hid (Below w9.heap.size w9 w9.drew) := hide ((Below.refl _ _).drew)
        generalize w9.drew = wb at *
        refine AnyU.take (i := 0) (v := ?v17) rfl (by kernel_rfl) (by kernel_rfl) (by kernel_rfl) (by kernel_rfl) (fun _ _ _ h => h) (Or.inl ⟨by rfl, ?hy17⟩) hHeld ?r17
        case hy17 => (intro w hSw; (try dsimp only at hSw); go_simp <;> with_reducible rfl)
        simp only [Act.put, List.setIfInBounds_toArray, List.set_cons_zero, List.set_cons_succ]
        refine AnyU.take (i := 1) (v := ?v18) rfl (by kernel_rfl) (by kernel_rfl) (by kernel_rfl) (by kernel_rfl) (fun _ _ _ h => h) (Or.inl ⟨by rfl, ?hy18⟩) hHeld ?r18
        case hy18 => (intro w hSw; (try dsimp only at hSw); go_simp <;> with_reducible rfl)
        simp only [Act.put, List.setIfInBounds_toArray, List.set_cons_zero, List.set_cons_succ]
        refine AnyU.take (i := 2) (v := ?v19) rfl (by kernel_rfl) (by kernel_rfl) (by kernel_rfl) (by kernel_rfl) (fun _ _ _ h => h) (Or.inl ⟨by rfl, ?hy19⟩) hHeld ?r19
        case hy19 => (intro w hSw; (try dsimp only at hSw); go_simp <;> with_reducible rfl)
        simp only [Act.put, List.setIfInBounds_toArray, List.set_cons_zero, List.set_cons_succ]
        refine AnyU.take (i := 3) (v := ?v20) rfl (by kernel_rfl) (by kernel_rfl) (by kernel_rfl) (by kernel_rfl) (fun _ _ _ h => h) (Or.inl ⟨by rfl, ?hy20⟩) hHeld ?r20
        case hy20 => (intro w hSw; (try dsimp only at hSw); go_simp <;> with_reducible rfl)
        simp only [Act.put, List.setIfInBounds_toArray, List.set_cons_zero, List.set_cons_succ]
        refine AnyU.take (i := 4) (v := ?v21) rfl (by kernel_rfl) (by kernel_rfl) (by kernel_rfl) (by kernel_rfl) (fun _ _ _ h => h) (Or.inl ⟨by rfl, ?hy21⟩) hHeld ?r21
        case hy21 => (intro w hSw; (try dsimp only at hSw); go_simp <;> with_reducible rfl)
        simp only [Act.put, List.setIfInBounds_toArray, List.set_cons_zero, List.set_cons_succ]
        refine AnyU.next (js := [5]) (by kernel_rfl) (by simp) (NextU.cons rfl (fun K hK => ?_) NextU.nil)
        go_simp
        refine (HTK.out _ HCwb.out).mono ?_
        rintro e w10 ⟨A10, c10, rfl, hown, hb⟩
        have HC10 := hide (HCwb.out.below hb)
        have HO10 := hide hown
        have HBw10 := hide hb
        have hS1 : w10.cell? ⟨M, 0, none⟩ = some (.int .i64 n) ∧ w10.cell? ⟨M, 1, none⟩ = some (.slice A1 ls.length c1) := ⟨HC10.out.boxes.2.2.1, HC10.out.boxes.2.2.2⟩
        clear hb hown
        go_wp2_with fail
        refine hK.out _ _ (fun _ => hS1) (fun hHeld => ?_)
        replace hHeld := hHeld (by decide)
        try simp only [Act.put, List.setIfInBounds_toArray, List.set_cons_zero, List.set_cons_succ]
        refine AnyU.take (i := 6) (v := ?v22) rfl (by kernel_rfl) (by kernel_rfl) (by kernel_rfl) (by kernel_rfl) (fun _ _ _ h => h) (Or.inl ⟨by rfl, ?hy22⟩) hHeld ?r22
        case hy22 => (intro w hSw; (try dsimp only at hSw); go_simp <;> with_reducible rfl)
        simp only [Act.put, List.setIfInBounds_toArray, List.set_cons_zero, List.set_cons_succ]
        refine AnyU.take (i := 7) (v := ?v23) rfl (by kernel_rfl) (by kernel_rfl) (by kernel_rfl) (by kernel_rfl) (fun _ _ _ h => h) (Or.inl ⟨by rfl, ?hy23⟩) hHeld ?r23
        case hy23 => (intro w hSw; (try dsimp only at hSw); go_simp <;> with_reducible rfl)
        simp only [Act.put, List.setIfInBounds_toArray, List.set_cons_zero, List.set_cons_succ]
        refine AnyU.take (i := 8) (v := ?v24) rfl (by kernel_rfl) (by kernel_rfl) (by kernel_rfl) (by kernel_rfl) (fun _ _ _ h => h) (Or.inl ⟨by rfl, ?hy24⟩) hHeld ?r24
        case hy24 => (intro w hSw; (try dsimp only at hSw); go_simp <;> with_reducible rfl)
        simp only [Act.put, List.setIfInBounds_toArray, List.set_cons_zero, List.set_cons_succ]
        refine AnyU.next (js := [9]) (by kernel_rfl) (by simp) (NextU.cons rfl (fun K hK => ?_) NextU.nil)
        go_simp
        refine hK.out _ _ (fun _ => hS1) (fun hHeld => ?_)
        replace hHeld := hHeld (by decide)
        try simp only [Act.put, List.setIfInBounds_toArray, List.set_cons_zero, List.set_cons_succ]
        refine AnyU.next (js := [10]) (by kernel_rfl) (by simp) (NextU.cons rfl (fun K hK => ?_) NextU.nil)
        go_simp
        refine hK.out _ _ (fun _ => hS1) (fun hHeld => ?_)
        try simp only [Act.put, List.setIfInBounds_toArray, List.set_cons_zero, List.set_cons_succ]
        refine AnyU.over (by kernel_rfl) ?_ _
        clear hS1 hHeld
        go_upto_region 15 with fail
        obtain ⟨x0, x1, m0, m1⟩ := HC10.out.boxes
        go_upto_region 16 with (go_at_call 36; refine (HRT.out _ HC10.out).mono ?_; rintro e w11 ⟨A11, c11, rfl, hown, hb11⟩; have HO11 := hide hown; have HB11 := hide hb11; have HC11 := hide (HC10.out.below hb11); clear hown hb11)
        have hb9w : Below w9.heap.size w9 w11 := HBD9.out.trans ((HBw10.out.mono (Nat.le_of_eq HZ9.out)).trans (HB11.out.mono (Nat.le_trans (Nat.le_of_eq HZ9.out) HBw10.out.size)))
        have HLS : Hid (LsS wa.heap.size wb.heap.size w10.heap.size wa T A9 c9 A10 c10 A11 c11 w11) := hide ⟨HAB.out.trans ((HBw10.out.mono HAB.out.size).trans (HB11.out.mono (Nat.le_trans HAB.out.size HBw10.out.size))), ⟨_, own_below HO9.out hb9w (Nat.le_refl _)⟩, fun g e => by have := (HO9.out.lt g e).2; have := HZ9.out; omega, own_below HO10.out HB11.out (Nat.le_refl _), HO11.out⟩
        have hol : One gV w11 w11.heap.size A9 T := One.of_own (own_below HO9.out hb9w (Nat.le_refl _)) rfl
        have HSG := hide (samegoods_any A9 A11 c9 c11 T w11 hol (One.of_own HO11.out rfl) (by have := HTL.out; omega))
        unfold ValPost at HSG
        have HABS : Hid (wa.heap.size ≤ wb.heap.size ∧ wb.heap.size ≤ w10.heap.size ∧ w10.heap.size ≤ w11.heap.size) := hide ⟨HAB.out.size, HBw10.out.size, HB11.out.size⟩
        clear hb9w hol HC7 HC7d HC8 HC9 HO9 HBw9 HCwb HAB HZ9 HC10 HO10 HBw10 HO11 HB11 HWO HRT HTK x0 x1 m0 m1 HBD9
        have l0 := HC11.out.last
        have hcz : (zs.length : Int) < ((zs.length + 1 : Nat) : Int) := by omega
        go_upto_region 19 with (first
          | (go_at_call 15; refine (HNM.out _ _).mono ?_; rintro e w12 ⟨rfl, rfl⟩)
          | (go_at_call 37; refine (HSG.out).mono ?_; rintro e w12 ⟨rfl, hb12⟩; have HC12 := hide (HC11.out.below hb12); have HLS12 := hide (HLS.out.below hb12 (by have := HABS.out; omega)); have HZ12 : Hid (w11.heap.size ≤ w12.heap.size) := hide hb12.size; have l1 := HC12.out.last; clear hb12))
        have HZ0 : Hid (wa.heap.size ≤ w12.heap.size) := hide (by have := HABS.out; have := HZ12.out; omega)
        clear l0 l1 hcz HSG HLS HC11
        go_loopw [23] (fun iv wr => ∃ k : Nat, k ≤ T.length ∧ iv = .int .i64 k ∧ LsS wa.heap.size wb.heap.size w10.heap.size wa T A9 c9 A10 c10 A11 c11 wr) (fun iv _ => T.length - (intOf iv).toNat)
        case atStart => exact ⟨0, Nat.zero_le _, rfl, HLS12.out⟩
        case round =>
          rename World => wr
          obtain ⟨k, hk, rfl, hls⟩ := hrel
          have HLR := hide hls
          have htl := HTL.out
          clear hls
          by_cases hlt : k < T.length
          · obtain ⟨g, v, rfl, hc, hf, hset⟩ := HLR.out.at_ hlt HABS.out.2.1
            have HNX := hide (hset (.int .u32 99))
            have hki : (k : Int) < (T.length : Int) := by omega
            have HKT := hide hlt
            clear hset
            go_wp2_with fail
            go_roundw
            case rel => exact ⟨k + 1, HKT.out, by go_num, HNX.out⟩
            case measure => have := HKT.out; simp [intOf]; omega
          · obtain rfl : k = T.length := by omega
            have HCr := hide (HCwa.out.below HLR.out.bel)
            have HCP := hide (copyd_any n A1 c1 hs1 ls wr HCr.out.lent.buys (by have := HL1.out; omega) (fun l hl => by have := HLL.out l hl; omega) HCr.out.lent.nils)
            unfold CopyDP at HCP
            simp only [instV] at HCP
            obtain ⟨x0, x1, m0, m1⟩ := HCr.out.boxes
            go_upto_region 23 with (go_at_call 38; refine (HCP.out).mono ?_; rintro e w13 ⟨A12, c12, hs12, rfl, hown, hdist, hb13⟩; have HO13 := hide hown; have HDI := hide hdist; have HB13 := hide hb13; have HC13 := hide (HCr.out.below hb13); clear hown hdist hb13)
            have HBX : Hid (Below w13.heap.size w13 (w13.alloc (.cells #[.int .i64 n, .slice A12 ls.length c12] 49))) := hide ((Below.refl _ _).alloc (Nat.le_refl _) _)
            have HYX := hide (heap_alloc_new w13 (.cells #[.int .i64 n, .slice A12 ls.length c12] 49))
            obtain ⟨Y, hY⟩ : ∃ Y, w13.heap.size = Y := ⟨_, rfl⟩
            rw [hY] at HYX ⊢
            have HO14 := hide (HO13.out.below HBX.out)
            have HC14 := hide (HC13.out.below HBX.out)
            have HB14 := hide (HB13.out.trans (HBX.out.mono HB13.out.size))
            clear hY HBX HO13 HC13 HB13 x0 x1 m0 m1 HCP
            generalize w13.alloc (.cells #[.int .i64 n, .slice A12 ls.length c12] 49) = w14 at *
            have HSI := hide (sameInst_eq n A12 c12 hs12 A c hs ls w14 HO14.out.buys (HH.out.up HC14.out.bel) (by have := HL1.out; omega) (fun l hl => by have := HLL.out l hl; omega))
            unfold ValPost at HSI
            simp only [instV] at HSI
            have HZR : Hid (wa.heap.size ≤ wr.heap.size) := hide HLR.out.bel.size
            have HL14 := hide (HLR.out.below HB14.out HZR.out)
            obtain ⟨x0, x1, m0, m1⟩ := HC14.out.boxes
            have y0 := cell_of_row _ _ 0 _ _ (0, 0) HYX.out
            have y1 := cell_of_row _ _ 1 _ _ (0, 0) HYX.out
            simp only [List.getElem?_toArray, List.getElem?_cons_zero, List.getElem?_cons_succ] at y0 y1
            have HSG := hide (fun W (hb : Below w14.heap.size w14 W) => samegoods_any A10 A11 c10 c11 T W (One.of_own (own_below HL14.out.k hb (Nat.le_refl _)) rfl) (One.of_own (own_below HL14.out.t hb (Nat.le_refl _)) rfl) (by have := HTL.out; omega))
            unfold ValPost at HSG
            go_upto_region 26 with (first
              | (go_at_call 39; refine (HSI.out).mono ?_; rintro e w15 ⟨rfl, hb15⟩; have HB15 := hide hb15; clear hb15)
              | (go_at_call 37; refine (HSG.out _ HB15.out).mono ?_; rintro e w16 ⟨rfl, hb16⟩; have HB16 := hide (HB15.out.trans (hb16.mono HB15.out.size)); clear hb16))
            have HC16 := hide (HC14.out.below HB16.out)
            have HYW : Hid (YW wr.heap.size Y n A12 c12 hs12 ls w16 0 w16) := hide (YW.start (Below.refl _ _) ((HB16.out.block _ (lt_of_block HYX.out)).trans HYX.out) (HO14.out.below HB16.out))
            have HL12 : Hid (hs12.length = ls.length) := hide HO14.out.len
            have HZ16 : Hid (wr.heap.size ≤ w16.heap.size) := hide (by have := HB14.out.size; have := HB16.out.size; omega)
            have HBra : Hid (Below wa.heap.size wa w16) := hide (HLR.out.bel.trans ((HB14.out.trans (HB16.out.mono HB14.out.size)).mono HZR.out))
            clear x0 x1 m0 m1 y0 y1 HSI HSG HL14 HLR HCr HC14 HO14 HYX
            go_loopw [25] (fun iv W => ∃ i : Nat, i ≤ ls.length ∧ iv = .int .i64 i ∧ YW wr.heap.size Y n A12 c12 hs12 ls w16 i W) (fun iv _ => ls.length - (intOf iv).toNat)
            case atStart => exact ⟨0, Nat.zero_le _, rfl, HYW.out⟩
            case round =>
              rename World => wi
              obtain ⟨i, hi, rfl, hyw⟩ := hrel
              have HYI := hide hyw
              have y1 := hyw.box
              have hl1k := HL1.out
              clear hyw
              by_cases hil : i < ls.length
              · have hlen := HYI.out.hdr
                obtain ⟨l, hlx⟩ : ∃ l, ls[i]? = some l := ⟨ls[i], List.getElem?_eq_getElem hil⟩
                have HIL := hide hil
                have HLX := hide hlx
                have hll := HLL.out l (List.mem_of_getElem? hlx)
                clear hlen
                obtain ⟨hd, hhx⟩ : ∃ hd, hs12[i]? = some hd := ⟨hs12[i]'(by rw [HL12.out]; exact hil), List.getElem?_eq_getElem _⟩
                obtain ⟨gh, rfl, z1, zf⟩ := HYI.out.head hhx hlx
                obtain ⟨a1, a2⟩ := hd
                have HHX := hide hhx
                have hii : (i : Int) < (ls.length : Int) := by omega
                simp only at z1
                clear hlx hhx zf
                go_upto_region 29 with fail
                clear z1 y1
                go_loopw [26] (fun kv W => ∃ k : Nat, k ≤ l.length ∧ kv = .int .i64 k ∧ YW wr.heap.size Y n (some ⟨gh, 0, none⟩) c12 hs12 ls w16 i W) (fun kv _ => l.length - (intOf kv).toNat)
                case atStart => exact ⟨0, Nat.zero_le _, rfl, HYI.out⟩
                case round =>
                  rename World => wq
                  obtain ⟨k, hk, rfl, hyw⟩ := hrel
                  have HYQ := hide hyw
                  have y1 := hyw.box
                  obtain ⟨gh', hgh, z1, zf⟩ := hyw.head HHX.out HLX.out
                  injection hgh with hgh
                  injection hgh with hgh
                  subst hgh
                  simp only at z1
                  clear hyw
                  by_cases hkl : k < l.length
                  · obtain ⟨gr, v0, v1, ha1, c0, c1', f0, f1, hset⟩ := HYQ.out.cells HHX.out HLX.out hkl
                    have ha2 : a1 = some ⟨gr, 0, none⟩ := ha1
                    subst ha2
                    have HNX := hide (hset (.int .u32 99) (.int .i64 0))
                    have hki : (k : Int) < (l.length : Int) := by omega
                    have HKL := hide hkl
                    clear hset ha1 zf
                    go_wp2_with fail
                    go_roundw
                    case rel => exact ⟨k + 1, HKL.out, by go_num, HNX.out⟩
                    case measure => have := HKL.out; simp [intOf]; omega
                  · obtain rfl : k = l.length := by omega
                    obtain ⟨xs, hrow⟩ := HYQ.out.row i (a1, a2) l (Nat.le_refl _) HHX.out HLX.out
                    have HROW := hide hrow
                    have hbz : Below wq.heap.size wq (wq.alloc (.cells #[.int .u32 98, .int .i64 0] 74)).drew := ((Below.refl _ _).alloc (Nat.le_refl _) _).drew
                    have HBZ := hide hbz
                    have HMZ' : Hid ((wq.alloc (.cells #[.int .u32 98, .int .i64 0] 74)).drew.heap[wq.heap.size]? = some (.cells #[.int .u32 98, .int .i64 0] 74 (0, 0))) := hide (heap_alloc_new wq _)
                    have HQ0 : Hid (wr.heap.size ≤ wq.heap.size) := hide (Nat.le_trans HZ16.out HYQ.out.bel.size)
                    have hS0 : wq.drew.cell? ⟨Y, 1, none⟩ = some (.slice (some ⟨gh, 0, none⟩) ls.length c12) ∧ wq.drew.cell? ⟨gh, i, none⟩ = some (.slice a1 l.length a2) := ⟨y1, z1⟩
                    have hSz : (wq.alloc (.cells #[.int .u32 98, .int .i64 0] 74)).drew.cell? ⟨Y, 1, none⟩ = some (.slice (some ⟨gh, 0, none⟩) ls.length c12) ∧ (wq.alloc (.cells #[.int .u32 98, .int .i64 0] 74)).drew.cell? ⟨gh, i, none⟩ = some (.slice a1 l.length a2) := ⟨(hbz.cell (World.block_lt_of_cell? wq _ (by rw [y1]))).trans y1, (hbz.cell (World.block_lt_of_cell? wq _ (by rw [z1]))).trans z1⟩
                    clear hrow hbz zf
                    go_upto_region 32 with fail
                    refine wp_region_U 12 (fun X => X.cell? ⟨Y, 1, none⟩ = some (.slice (some ⟨gh, 0, none⟩) ls.length c12) ∧ X.cell? ⟨gh, i, none⟩ = some (.slice a1 l.length a2)) rfl hS0 (fun hHeld => ?_)
                    clear hS0 y1 z1
                    refine AnyU.take (i := 0) (v := ?v25) rfl (by kernel_rfl) (by kernel_rfl) (by kernel_rfl) (by kernel_rfl) (fun _ _ _ h => h) (Or.inl ⟨by rfl, ?hy25⟩) hHeld ?r25
                    case hy25 => (intro w hSw; (try dsimp only at hSw); go_simp <;> with_reducible rfl)
                    simp only [Act.put, List.setIfInBounds_toArray, List.set_cons_zero, List.set_cons_succ]
                    refine AnyU.take (i := 1) (v := ?v26) rfl (by kernel_rfl) (by kernel_rfl) (by kernel_rfl) (by kernel_rfl) (fun _ _ _ h => h) (Or.inl ⟨by rfl, ?hy26⟩) hHeld ?r26
                    case hy26 => (intro w hSw; (try dsimp only at hSw); go_simp <;> with_reducible rfl)
                    simp only [Act.put, List.setIfInBounds_toArray, List.set_cons_zero, List.set_cons_succ]
                    refine AnyU.take (i := 2) (v := ?v27) rfl (by kernel_rfl) (by kernel_rfl) (by kernel_rfl) (by kernel_rfl) (fun _ _ _ h => h) (Or.inl ⟨by rfl, ?hy27⟩) hHeld ?r27
                    case hy27 => (intro w hSw; (try dsimp only at hSw); go_simp <;> with_reducible rfl)
                    simp only [Act.put, List.setIfInBounds_toArray, List.set_cons_zero, List.set_cons_succ]
                    refine AnyU.take (i := 3) (v := ?v28) rfl (by kernel_rfl) (by kernel_rfl) (by kernel_rfl) (by kernel_rfl) (fun _ _ _ h => h) (Or.inl ⟨by rfl, ?hy28⟩) hHeld ?r28
                    case hy28 => (intro w hSw; (try dsimp only at hSw); go_simp <;> with_reducible rfl)
                    simp only [Act.put, List.setIfInBounds_toArray, List.set_cons_zero, List.set_cons_succ]
                    refine AnyU.take (i := 4) (v := ?v29) rfl (by kernel_rfl) (by kernel_rfl) (by kernel_rfl) (by kernel_rfl) (fun _ _ _ h => h) (Or.inl ⟨by rfl, ?hy29⟩) hHeld ?r29
                    case hy29 => (intro w hSw; (try dsimp only at hSw); go_simp <;> with_reducible rfl)
                    simp only [Act.put, List.setIfInBounds_toArray, List.set_cons_zero, List.set_cons_succ]
                    refine AnyU.take (i := 5) (v := ?v30) rfl (by kernel_rfl) (by kernel_rfl) (by kernel_rfl) (by kernel_rfl) (fun _ _ _ h => h) (Or.inl ⟨by rfl, ?hy30⟩) hHeld ?r30
                    case hy30 => (intro w hSw; (try dsimp only at hSw); go_simp <;> with_reducible rfl)
                    simp only [Act.put, List.setIfInBounds_toArray, List.set_cons_zero, List.set_cons_succ]
                    refine AnyU.take (i := 6) (v := ?v31) rfl (by kernel_rfl) (by kernel_rfl) (by kernel_rfl) (by kernel_rfl) (fun _ _ _ h => h) (Or.inl ⟨by rfl, ?hy31⟩) hHeld ?r31
                    case hy31 => (intro w hSw; (try dsimp only at hSw); go_simp <;> with_reducible rfl)
                    simp only [Act.put, List.setIfInBounds_toArray, List.set_cons_zero, List.set_cons_succ]
                    refine AnyU.take (i := 7) (v := ?v32) rfl (by kernel_rfl) (by kernel_rfl) (by kernel_rfl) (by kernel_rfl) (fun _ _ _ h => h) (Or.inl ⟨by rfl, ?hy32⟩) hHeld ?r32
                    case hy32 => (intro w hSw; (try dsimp only at hSw); go_simp <;> with_reducible rfl)
                    simp only [Act.put, List.setIfInBounds_toArray, List.set_cons_zero, List.set_cons_succ]
                    refine AnyU.take (i := 8) (v := ?v33) rfl (by kernel_rfl) (by kernel_rfl) (by kernel_rfl) (by kernel_rfl) (fun _ _ _ h => h) (Or.inl ⟨by rfl, ?hy33⟩) hHeld ?r33
                    case hy33 => (intro w hSw; (try dsimp only at hSw); go_simp <;> with_reducible rfl)
                    simp only [Act.put, List.setIfInBounds_toArray, List.set_cons_zero, List.set_cons_succ]
                    refine AnyU.next (js := [9]) (by kernel_rfl) (by simp) (NextU.cons rfl (fun K hK => ?_) NextU.nil)
                    go_simp
                    refine hK.out _ _ (fun _ => hSz) (fun hHeld => ?_)
                    replace hHeld := hHeld (by decide)
                    try simp only [Act.put, List.setIfInBounds_toArray, List.set_cons_zero, List.set_cons_succ]
                    clear hSz
                    generalize (wq.alloc (.cells #[.int .u32 98, .int .i64 0] 74)).drew = wz at *
                    refine AnyU.next (js := [10]) (by kernel_rfl) (by simp) (NextU.cons rfl (fun K hK => ?_) NextU.nil)
                    refine step_append_any rfl (.tmp 197) (.tmp 199) 63 rfl wr.heap.size 74 (.agg #[.int .u32 0, .int .i64 0]) 2 16 infoO Tryd.underlying63 rfl (by decide) _ l.length xs rfl (own_below HROW.out HBZ.out (Nat.le_refl _)) _ (some ⟨wq.heap.size, 0, none⟩) 1 1 (cells2 offV [(98, 0)]) rfl (reads_row7 (xs := [.int .u32 98, .int .i64 0]) HMZ'.out rfl) (off_one [(98, 0)]) (by unfold maxLen; omega) (by omega) (Nat.le_trans HQ0.out HBZ.out.size) ?_
                    intro v5 w5 hown5 hg5 _
                    obtain ⟨A5, c5, hv5, _⟩ := own_sh hown5
                    subst hv5
                    have hg5' : wz.grownBy w5 (hdrV (a1, a2) l).ownBlock := hg5
                    have hmid := HYQ.out.mid HHX.out HLX.out HBZ.out hg5'
                    have HDN := hide (HYQ.out.done (V := .slice A5 (l.length + 1) c5) HDI.out HHX.out HLX.out HBZ.out hg5')
                    obtain ⟨z1, zf, y1⟩ := hmid
                    simp only at z1
                    have hS5 := And.intro y1 z1
                    clear hown5 hg5 hg5'
                    refine hK.out _ _ (fun _ => hS5) (fun hHeld => ?_)
                    replace hHeld := hHeld (by decide)
                    try simp only [Act.put, List.setIfInBounds_toArray, List.set_cons_zero, List.set_cons_succ]
                    refine AnyU.next (js := [11]) (by kernel_rfl) (by simp) (NextU.cons rfl (fun K hK => ?_) NextU.nil)
                    go_simp
                    refine hK.out _ _ (fun _ => hS5) (fun hHeld => ?_)
                    replace hHeld := hHeld (by decide)
                    try simp only [Act.put, List.setIfInBounds_toArray, List.set_cons_zero, List.set_cons_succ]
                    refine AnyU.next (js := [12]) (by kernel_rfl) (by simp) (NextU.cons rfl (fun K hK => ?_) NextU.nil)
                    go_simp
                    refine hK.out _ _ (fun h => absurd h (by decide)) (fun _ => ?_)
                    try simp only [Act.put, List.setIfInBounds_toArray, List.set_cons_zero, List.set_cons_succ]
                    refine AnyU.over (by kernel_rfl) ?_ _
                    clear hS5 hHeld z1 zf y1
                    go_wp2_with fail
                    go_roundw
                    case rel => exact ⟨i + 1, HIL.out, by go_num, HDN.out⟩
                    case measure => have := HIL.out; simp [intOf]; omega
              · obtain rfl : i = ls.length := by omega
                have HCe := hide (HCwa.out.below (HBra.out.trans (HYI.out.bel.mono HZR.out)))
                have HLF := hide (left_any n w.heap.size A1 c1 hs1 A c hs ls wi HCe.out.lent (HH.out.up HCe.out.bel) HL1.out HLL.out)
                unfold ValPost at HLF
                simp only [instV] at HLF
                obtain ⟨x0, x1, m0, m1⟩ := HCe.out.boxes
                go_wp2_with (first
                  | (go_at_call 40; refine (HLF.out).mono ?_; rintro e wy ⟨rfl, hby⟩; have HBy := hide (HCe.out.bel.trans (hby.mono HCe.out.bel.size)); clear hby)
                  | (go_at_call 22; refine (HKN.out _ HBy.out).mono ?_; rintro e wz ⟨rfl, hbz⟩; have HBz := hide (HBy.out.trans (hbz.mono HBy.out.size)); clear hbz))
                go_ret
                exact ⟨rfl, HBz.out⟩
end Go.Proofs.YtffpiaipdeebcaaDoor
