/- The walk of gavelref13.Traded. -/
import Derived.Test.YtogicdljbnllgaaRefW
namespace Go.Proofs.Ytogicdljbnllgaa
open Go.Shelf Go.RowKit Go.Lib Go.Sort Go.Proofs

theorem okw_cnt {l : List (Int × Int)} (h : OkW l) : ∀ x ∈ l, 1 ≤ x.2 ∧ x.2 ≤ 64 := fun x hx => by have := h.2 x hx; omega
/-- The two sides as they were laid. -/
theorem two_start {w w1 w2 : World} {A : Option Addr} {c : Nat} {b : List (Int × Int)} {O : Option Addr} {co : Nat} {A' : Option Addr} {c' : Nat} {s : List (Int × Int)} {O' : Option Addr} {co' : Nat} (h : Wants w w.heap.size A b) (h' : Wants w w.heap.size A' s) (hb : OkW b) (hs : OkW s)
    (b1 : Below w.heap.size w w1) (o1 : w1.ownsRow w.heap.size 3 1 (.slice O (ordK κB b).length co) (ordK κB b).length ((ordK κB b).map (Value.int .i64))) (b2 : Below w1.heap.size w1 w2) (o2 : w2.ownsRow w1.heap.size 3 1 (.slice O' (ordK κS s).length co') (ordK κS s).length ((ordK κS s).map (Value.int .i64))) :
    TwoS w w2.heap.size (w2.heap.size + 1) A c b O co A' c' s O' co' ((w2.alloc (.cells #[.slice A b.length c, .slice O b.length co] 72)).alloc (.cells #[.slice A' s.length c', .slice O' s.length co'] 72)) := by
  obtain ⟨t0, t1, t2⟩ := two_boxes w2 (.cells #[.slice A b.length c, .slice O b.length co] 72) (.cells #[.slice A' s.length c', .slice O' s.length co'] 72)
  have hbw := b1.trans ((b2.trans (t2.mono b2.size)).mono b1.size)
  have o1' := Reads.of_own (own_below o1 (b2.trans (t2.mono b2.size)) (Nat.le_refl _))
  have o2' := Reads.of_own (own_below o2 t2 (Nat.le_refl _))
  exact ⟨hbw, t0, t1, ⟨(h.below hbw).more hbw.size, o1', ordK_inr _ _, by have := hb.1; omega, ordK_len _ _, okw_cnt hb⟩, ⟨(h'.below hbw).more hbw.size, o2', ordK_inr _ _, by have := hs.1; omega, ordK_len _ _, okw_cnt hs⟩⟩

set_option maxRecDepth 100000 in
set_option maxHeartbeats 8000000 in
theorem traded_any (A : Option Addr) (c : Nat) (b : List (Int × Int)) (A' : Option Addr) (c' : Nat) (s : List (Int × Int)) (w : World) (h : Wants w w.heap.size A b) (h' : Wants w w.heap.size A' s) (hb : OkW b) (hs : OkW s) :
    Calls Try.prog 30 #[.slice A b.length c, .slice A' s.length c'] w (ValPost (.int .i64 (sumT (RunA b s).1)) w) := by
  have HW := hide h
  have HW' := hide h'
  have HOK := hide (And.intro hb hs)
  have HS1 := hide (refside_any A c b true w h (by have := hb.1; omega))
  obtain ⟨KT, hK⟩ : ∃ K, K = sumT (RunA b s).1 := ⟨_, rfl⟩
  have HKK := hide hK
  rw [← hK]
  clear h h' hb hs hK
  go_enter Try.func30, Try.ntmps30
  go_wp2_with fail
  refine (HS1.out).mono ?_
  rintro e w1 ⟨v1, rfl, o1, b1⟩
  obtain ⟨O, co, rfl, _⟩ := own_sh o1
  have HO1 := hide o1
  have HB1 := hide b1
  have HS2 := hide (refside_any A' c' s false w1 ((HW'.out.below b1).more b1.size) (by have := HOK.out.2.1; omega))
  clear o1 b1 HS1
  go_wp2_with fail
  refine (HS2.out).mono ?_
  rintro e w2 ⟨v2, rfl, o2, b2⟩
  obtain ⟨O', co', rfl, _⟩ := own_sh o2
  have HT := hide (two_start (c := c) (c' := c') HW.out HW'.out HOK.out.1 HOK.out.2 HB1.out HO1.out b2 o2)
  have e1 := ordK_len (κOf true) b
  have e2 := ordK_len (κOf false) s
  rw [e1, e2]
  clear o2 b2 HS2 HO1 HB1 e1 e2
  go_upto_region 2 with fail
  obtain ⟨p5, hp5⟩ : ∃ p, p = w2.heap.size := ⟨_, rfl⟩
  generalize (w2.alloc (.cells #[.slice A b.length c, .slice O b.length co] 72)).alloc (.cells #[.slice A' s.length c', .slice O' s.length co'] 72) = w3 at *
  rw [← hp5] at HT ⊢
  clear hp5
  go_cut [7, 8] from 14 to 18 (fun l h wx => l = .int .i64 0 ∧ h = .int .i64 (min (allR b) (allR s)) ∧ TwoS w p5 (p5 + 1) A c b O co A' c' s O' co' wx)
  case first =>
    have HAB : Hid (Calls Try.prog 42 #[.agg #[.slice A b.length c, .slice O b.length co]] w3.drew (ValPost (.int .i64 (allR b)) w3.drew)) := hide (HT.out.drewN 1).allB
    obtain ⟨c0, c1, c2, c3⟩ := HT.out.cells
    have hS0 : w3.drew.cell? ⟨p5, 0, none⟩ = some (.slice A b.length c) ∧ w3.drew.cell? ⟨p5, 1, none⟩ = some (.slice O b.length co) ∧ w3.drew.cell? ⟨p5 + 1, 0, none⟩ = some (.slice A' s.length c') ∧ w3.drew.cell? ⟨p5 + 1, 1, none⟩ = some (.slice O' s.length co') := ⟨c0, c1, c2, c3⟩
    have HSS : Hid (∀ X, Below w3.heap.size w3 X → X.cell? ⟨p5, 0, none⟩ = some (.slice A b.length c) ∧ X.cell? ⟨p5, 1, none⟩ = some (.slice O b.length co) ∧ X.cell? ⟨p5 + 1, 0, none⟩ = some (.slice A' s.length c') ∧ X.cell? ⟨p5 + 1, 1, none⟩ = some (.slice O' s.length co')) := hide (fun X hb => ⟨(hb.cell (World.block_lt_of_cell? _ _ c0)).trans c0, (hb.cell (World.block_lt_of_cell? _ _ c1)).trans c1, (hb.cell (World.block_lt_of_cell? _ _ c2)).trans c2, (hb.cell (World.block_lt_of_cell? _ _ c3)).trans c3⟩)
    clear c0 c1 c2 c3
    by_cases hle : allR b ≤ allR s
    · have HMN : Hid (min (allR b) (allR s) = allR b) := hide (by omega)
      refine wp_region_U 7 (fun X => X.cell? ⟨p5, 0, none⟩ = some (.slice A b.length c) ∧ X.cell? ⟨p5, 1, none⟩ = some (.slice O b.length co) ∧ X.cell? ⟨p5 + 1, 0, none⟩ = some (.slice A' s.length c') ∧ X.cell? ⟨p5 + 1, 1, none⟩ = some (.slice O' s.length co')) rfl hS0 (fun hHeld => ?_)
      refine AnyU.take (i := 0) (v := ?v101) rfl (by kernel_rfl) (by kernel_rfl) (by kernel_rfl) (by kernel_rfl) (fun _ _ _ h => h) (Or.inl ⟨by rfl, ?hy101⟩) hHeld ?r101
      case hy101 => (intro w hSw; (try dsimp only at hSw); go_simp <;> with_reducible rfl)
      simp only [Act.put, List.setIfInBounds_toArray, List.set_cons_zero, List.set_cons_succ]
      refine AnyU.take (i := 2) (v := ?v102) rfl (by kernel_rfl) (by kernel_rfl) (by kernel_rfl) (by kernel_rfl) (fun _ _ _ h => h) (Or.inl ⟨by rfl, ?hy102⟩) hHeld ?r102
      case hy102 => (intro w hSw; (try dsimp only at hSw); go_simp <;> with_reducible rfl)
      simp only [Act.put, List.setIfInBounds_toArray, List.set_cons_zero, List.set_cons_succ]
      refine AnyU.next (js := [1]) (by kernel_rfl) (by simp) (NextU.cons rfl (fun K hK => ?_) NextU.nil)
      go_simp
      refine (HAB.out).mono ?_
      rintro e w4 ⟨rfl, hb4⟩
      have HB4 : Hid (Below w3.heap.size w3 w4) := hide ⟨hb4.os, hb4.tape, hb4.output, hb4.size, hb4.block⟩
      have HT4 := hide (HT.out.below HB4.out)
      have HAS := hide HT4.out.allS
      clear hb4 HAB
      go_wp2_with fail
      refine hK.out _ _ (fun _ => HSS.out _ HB4.out) (fun hHeld => ?_)
      replace hHeld := hHeld (by decide)
      clear hK K
      try simp only [Act.put, List.setIfInBounds_toArray, List.set_cons_zero, List.set_cons_succ]
      refine AnyU.next (js := [3]) (by kernel_rfl) (by simp) (NextU.cons rfl (fun K hK => ?_) NextU.nil)
      go_simp
      refine (HAS.out).mono ?_
      rintro e w5 ⟨rfl, hb5⟩
      have HB5 := hide hb5
      have HT5 := hide (HT4.out.below hb5)
      clear hb5 HAS
      go_wp2_with fail
      refine hK.out _ _ (fun _ => HSS.out _ (HB4.out.trans (HB5.out.mono HB4.out.size))) (fun hHeld => ?_)
      replace hHeld := hHeld (by decide)
      clear hK K
      try simp only [Act.put, List.setIfInBounds_toArray, List.set_cons_zero, List.set_cons_succ]
      refine AnyU.take (i := 4) (v := ?v103) rfl (by kernel_rfl) (by kernel_rfl) (by kernel_rfl) (by kernel_rfl) (fun _ _ _ h => h) (Or.inl ⟨by rfl, ?hy103⟩) hHeld ?r103
      case hy103 => (intro w hSw; (try dsimp only at hSw); go_simp <;> with_reducible rfl)
      simp only [Act.put, List.setIfInBounds_toArray, List.set_cons_zero, List.set_cons_succ]
      refine AnyU.take (i := 5) (v := ?v104) rfl (by kernel_rfl) (by kernel_rfl) (by kernel_rfl) (by kernel_rfl) (fun _ _ _ h => h) (Or.inl ⟨by rfl, ?hy104⟩) hHeld ?r104
      case hy104 => (intro w hSw; (try dsimp only at hSw); go_simp <;> with_reducible rfl)
      simp only [Act.put, List.setIfInBounds_toArray, List.set_cons_zero, List.set_cons_succ]
      refine AnyU.take (i := 6) (v := ?v105) rfl (by kernel_rfl) (by kernel_rfl) (by kernel_rfl) (by kernel_rfl) (fun _ _ _ h => h) (Or.inl ⟨by rfl, ?hy105⟩) hHeld ?r105
      case hy105 => (intro w hSw; (try dsimp only at hSw); go_simp <;> with_reducible rfl)
      simp only [Act.put, List.setIfInBounds_toArray, List.set_cons_zero, List.set_cons_succ]
      refine AnyU.over (by kernel_rfl) ?_ _
      go_wp2_with fail
      go_meet
      exact ⟨rfl, by rw [HMN.out], HT5.out⟩
    · have HMN : Hid (min (allR b) (allR s) = allR s) := hide (by omega)
      refine wp_region_U 7 (fun X => X.cell? ⟨p5, 0, none⟩ = some (.slice A b.length c) ∧ X.cell? ⟨p5, 1, none⟩ = some (.slice O b.length co) ∧ X.cell? ⟨p5 + 1, 0, none⟩ = some (.slice A' s.length c') ∧ X.cell? ⟨p5 + 1, 1, none⟩ = some (.slice O' s.length co')) rfl hS0 (fun hHeld => ?_)
      refine AnyU.take (i := 0) (v := ?v201) rfl (by kernel_rfl) (by kernel_rfl) (by kernel_rfl) (by kernel_rfl) (fun _ _ _ h => h) (Or.inl ⟨by rfl, ?hy201⟩) hHeld ?r201
      case hy201 => (intro w hSw; (try dsimp only at hSw); go_simp <;> with_reducible rfl)
      simp only [Act.put, List.setIfInBounds_toArray, List.set_cons_zero, List.set_cons_succ]
      refine AnyU.take (i := 2) (v := ?v202) rfl (by kernel_rfl) (by kernel_rfl) (by kernel_rfl) (by kernel_rfl) (fun _ _ _ h => h) (Or.inl ⟨by rfl, ?hy202⟩) hHeld ?r202
      case hy202 => (intro w hSw; (try dsimp only at hSw); go_simp <;> with_reducible rfl)
      simp only [Act.put, List.setIfInBounds_toArray, List.set_cons_zero, List.set_cons_succ]
      refine AnyU.next (js := [1]) (by kernel_rfl) (by simp) (NextU.cons rfl (fun K hK => ?_) NextU.nil)
      go_simp
      refine (HAB.out).mono ?_
      rintro e w4 ⟨rfl, hb4⟩
      have HB4 : Hid (Below w3.heap.size w3 w4) := hide ⟨hb4.os, hb4.tape, hb4.output, hb4.size, hb4.block⟩
      have HT4 := hide (HT.out.below HB4.out)
      have HAS := hide HT4.out.allS
      clear hb4 HAB
      go_wp2_with fail
      refine hK.out _ _ (fun _ => HSS.out _ HB4.out) (fun hHeld => ?_)
      replace hHeld := hHeld (by decide)
      clear hK K
      try simp only [Act.put, List.setIfInBounds_toArray, List.set_cons_zero, List.set_cons_succ]
      refine AnyU.next (js := [3]) (by kernel_rfl) (by simp) (NextU.cons rfl (fun K hK => ?_) NextU.nil)
      go_simp
      refine (HAS.out).mono ?_
      rintro e w5 ⟨rfl, hb5⟩
      have HB5 := hide hb5
      have HT5 := hide (HT4.out.below hb5)
      clear hb5 HAS
      go_wp2_with fail
      refine hK.out _ _ (fun _ => HSS.out _ (HB4.out.trans (HB5.out.mono HB4.out.size))) (fun hHeld => ?_)
      replace hHeld := hHeld (by decide)
      clear hK K
      try simp only [Act.put, List.setIfInBounds_toArray, List.set_cons_zero, List.set_cons_succ]
      refine AnyU.take (i := 4) (v := ?v203) rfl (by kernel_rfl) (by kernel_rfl) (by kernel_rfl) (by kernel_rfl) (fun _ _ _ h => h) (Or.inl ⟨by rfl, ?hy203⟩) hHeld ?r203
      case hy203 => (intro w hSw; (try dsimp only at hSw); go_simp <;> with_reducible rfl)
      simp only [Act.put, List.setIfInBounds_toArray, List.set_cons_zero, List.set_cons_succ]
      refine AnyU.take (i := 5) (v := ?v204) rfl (by kernel_rfl) (by kernel_rfl) (by kernel_rfl) (by kernel_rfl) (fun _ _ _ h => h) (Or.inl ⟨by rfl, ?hy204⟩) hHeld ?r204
      case hy204 => (intro w hSw; (try dsimp only at hSw); go_simp <;> with_reducible rfl)
      simp only [Act.put, List.setIfInBounds_toArray, List.set_cons_zero, List.set_cons_succ]
      refine AnyU.take (i := 6) (v := ?v205) rfl (by kernel_rfl) (by kernel_rfl) (by kernel_rfl) (by kernel_rfl) (fun _ _ _ h => h) (Or.inl ⟨by rfl, ?hy205⟩) hHeld ?r205
      case hy205 => (intro w hSw; (try dsimp only at hSw); go_simp <;> with_reducible rfl)
      simp only [Act.put, List.setIfInBounds_toArray, List.set_cons_zero, List.set_cons_succ]
      refine AnyU.over (by kernel_rfl) ?_ _
      go_wp2_with fail
      go_meet
      exact ⟨rfl, by rw [HMN.out], HT5.out⟩
  case rest =>
  obtain ⟨rfl, rfl, ht⟩ := hcut
  have HT6 := hide ht
  have HKL := hide (K_le HOK.out.1 HOK.out.2)
  have HAB := hide (allR_bound b (okw_cnt HOK.out.1))
  have HLE := hide (And.intro HOK.out.1.1 HOK.out.2.1)
  clear ht HT
  rw [← HKK.out] at HKL
  go_wp2_with fail
  go_loopw [7, 8] (fun lv hv wr => ∃ lo hi : Int, lv = .int .i64 lo ∧ hv = .int .i64 hi ∧ (0 ≤ lo ∧ lo ≤ KT ∧ KT ≤ hi ∧ hi ≤ min (allR b) (allR s)) ∧ TwoS w p5 (p5 + 1) A c b O co A' c' s O' co' wr) (fun lv hv _ => (intOf hv - intOf lv).toNat)
  case atStart => exact ⟨0, _, rfl, rfl, by have := HKL.out; omega, HT6.out⟩
  case round =>
    obtain ⟨lo, hi, rfl, rfl, hb, ht⟩ := hrel
    have HT := hide ht
    clear HT6
    have hab := HAB.out
    have hle := HLE.out
    by_cases hlt : lo < hi
    · obtain ⟨D, hD⟩ : ∃ D, D = (hi - lo + 1).tdiv 2 := ⟨_, rfl⟩
      have hDe : (hi - lo + 1).tdiv 2 = (hi - lo + 1) / 2 := Int.tdiv_eq_ediv_of_nonneg (by omega)
      have hDb : 1 ≤ D ∧ D ≤ hi - lo := by rw [hD, hDe]; omega
      have hw1 : IntKind.i64.wrap (hi - lo) = hi - lo := Go.IntWalk.i64_in _ (by omega)
      have hw2 : IntKind.i64.wrap (hi - lo + 1) = hi - lo + 1 := Go.IntWalk.i64_in _ (by omega)
      have hw3 : IntKind.i64.wrap D = D := Go.IntWalk.i64_in _ (by omega)
      obtain ⟨M, hM⟩ : ∃ M, M = lo + D := ⟨_, rfl⟩
      have hw4 : IntKind.i64.wrap (lo + D) = M := by rw [hM]; exact Go.IntWalk.i64_in _ (by omega)
      have hw5 : IntKind.i64.wrap (M - 1) = M - 1 := Go.IntWalk.i64_in _ (by omega)
      have hMb : 1 ≤ M ∧ lo < M ∧ M ≤ hi ∧ M ≤ 1000000 := by omega
      have hDt : (hi - lo + 1).tdiv 2 = D := hD.symm
      clear hDe
      obtain ⟨x, y, hx, hy, hxy⟩ := unit_meet HOK.out.1 HOK.out.2 (k := M) (by omega) (by omega) (by omega)
      rw [← HKK.out] at hxy
      obtain ⟨j, hj1, hj2, hj3⟩ := unit_at hx
      obtain ⟨k, hk1, hk2, hk3⟩ := unit_at hy
      have HUB := hide (TwoS.unitB (k := M) (HT.out.drewN 1) (by omega))
      rw [unitR_some hx, hj1] at HUB
      obtain ⟨bb, bo, rfl, hbb, hcb⟩ := Wants.at_ HW.out (by omega)
      obtain ⟨sb, so, rfl, hsb, hcs⟩ := Wants.at_ HW'.out (by omega)
      have u0 := (ht.bel.cell (p := ⟨bb, bo + j * 2, none⟩) hbb).trans (hcb j _ hj3).1
      have u1 := (ht.bel.cell (p := ⟨sb, so + k * 2, none⟩) hsb).trans (hcs k _ hk3).1
      obtain ⟨c0, c1, c2, c3⟩ := HT.out.cells
      have HSS : Hid (∀ X, Below wr.heap.size wr X → X.cell? ⟨p5, 0, none⟩ = some (.slice (some ⟨bb, bo, none⟩) b.length c) ∧ X.cell? ⟨p5, 1, none⟩ = some (.slice O b.length co) ∧ X.cell? ⟨p5 + 1, 0, none⟩ = some (.slice (some ⟨sb, so, none⟩) s.length c') ∧ X.cell? ⟨p5 + 1, 1, none⟩ = some (.slice O' s.length co') ∧ X.cell? ⟨bb, bo + j * 2, none⟩ = some (.int .i64 x.2.1) ∧ X.cell? ⟨sb, so + k * 2, none⟩ = some (.int .i64 y.2.1)) := hide (fun X hb => ⟨(hb.cell (World.block_lt_of_cell? _ _ c0)).trans c0, (hb.cell (World.block_lt_of_cell? _ _ c1)).trans c1, (hb.cell (World.block_lt_of_cell? _ _ c2)).trans c2, (hb.cell (World.block_lt_of_cell? _ _ c3)).trans c3, (hb.cell (World.block_lt_of_cell? _ _ u0)).trans u0, (hb.cell (World.block_lt_of_cell? _ _ u1)).trans u1⟩)
      have hjb : (j : Int) < (b.length : Int) := by omega
      have hks : (k : Int) < (s.length : Int) := by omega
      have HUS : Hid (unitR (sideS s) M = (k : Int)) := hide (by rw [unitR_some hy, hk1])
      have HMB := hide hMb
      have HBB := hide hb
      have HXY := hide hxy
      clear ht c0 c1 c2 c3 u0 u1 hcb hcs hbb hsb hx hy hj1 hj3 hk1 hk3 hab hle hb hxy hD hM hDb hMb
      have hlt2 : decide (lo < hi) = true := decide_eq_true hlt
      go_upto_region 5 with fail
      go_cut [43] from 29 to 43 (fun v wx => v = .bool (decide (y.2.1 ≤ x.2.1)) ∧ TwoS w p5 (p5 + 1) (some ⟨bb, bo, none⟩) c b O co (some ⟨sb, so, none⟩) c' s O' co' wx)
      case first =>
        refine wp_region_U 15 (fun X => X.cell? ⟨p5, 0, none⟩ = some (.slice (some ⟨bb, bo, none⟩) b.length c) ∧ X.cell? ⟨p5, 1, none⟩ = some (.slice O b.length co) ∧ X.cell? ⟨p5 + 1, 0, none⟩ = some (.slice (some ⟨sb, so, none⟩) s.length c') ∧ X.cell? ⟨p5 + 1, 1, none⟩ = some (.slice O' s.length co') ∧ X.cell? ⟨bb, bo + j * 2, none⟩ = some (.int .i64 x.2.1) ∧ X.cell? ⟨sb, so + k * 2, none⟩ = some (.int .i64 y.2.1)) rfl (HSS.out _ (below_drewN (Below.refl _ _) 1)) (fun hHeld => ?_)
        refine AnyU.take (i := 0) (v := ?v301) rfl (by kernel_rfl) (by kernel_rfl) (by kernel_rfl) (by kernel_rfl) (fun _ _ _ h => h) (Or.inl ⟨by rfl, ?hy301⟩) hHeld ?r301
        case hy301 => (intro w hSw; (try dsimp only at hSw); go_simp <;> with_reducible rfl)
        simp only [Act.put, List.setIfInBounds_toArray, List.set_cons_zero, List.set_cons_succ]
        refine AnyU.take (i := 1) (v := ?v302) rfl (by kernel_rfl) (by kernel_rfl) (by kernel_rfl) (by kernel_rfl) (fun _ _ _ h => h) (Or.inl ⟨by rfl, ?hy302⟩) hHeld ?r302
        case hy302 => (intro w hSw; (try dsimp only at hSw); go_simp <;> with_reducible rfl)
        simp only [Act.put, List.setIfInBounds_toArray, List.set_cons_zero, List.set_cons_succ]
        refine AnyU.take (i := 2) (v := ?v303) rfl (by kernel_rfl) (by kernel_rfl) (by kernel_rfl) (by kernel_rfl) (fun _ _ _ h => h) (Or.inl ⟨by rfl, ?hy303⟩) hHeld ?r303
        case hy303 => (intro w hSw; (try dsimp only at hSw); go_simp <;> with_reducible rfl)
        simp only [Act.put, List.setIfInBounds_toArray, List.set_cons_zero, List.set_cons_succ]
        refine AnyU.take (i := 7) (v := ?v304) rfl (by kernel_rfl) (by kernel_rfl) (by kernel_rfl) (by kernel_rfl) (fun _ _ _ h => h) (Or.inl ⟨by rfl, ?hy304⟩) hHeld ?r304
        case hy304 => (intro w hSw; (try dsimp only at hSw); go_simp <;> with_reducible rfl)
        simp only [Act.put, List.setIfInBounds_toArray, List.set_cons_zero, List.set_cons_succ]
        refine AnyU.take (i := 8) (v := ?v305) rfl (by kernel_rfl) (by kernel_rfl) (by kernel_rfl) (by kernel_rfl) (fun _ _ _ h => h) (Or.inl ⟨by rfl, ?hy305⟩) hHeld ?r305
        case hy305 => (intro w hSw; (try dsimp only at hSw); go_simp <;> with_reducible rfl)
        simp only [Act.put, List.setIfInBounds_toArray, List.set_cons_zero, List.set_cons_succ]
        refine AnyU.take (i := 9) (v := ?v306) rfl (by kernel_rfl) (by kernel_rfl) (by kernel_rfl) (by kernel_rfl) (fun _ _ _ h => h) (Or.inl ⟨by rfl, ?hy306⟩) hHeld ?r306
        case hy306 => (intro w hSw; (try dsimp only at hSw); go_simp <;> with_reducible rfl)
        simp only [Act.put, List.setIfInBounds_toArray, List.set_cons_zero, List.set_cons_succ]
        refine AnyU.next (js := [3]) (by kernel_rfl) (by simp) (NextU.cons rfl (fun K hK => ?_) NextU.nil)
        go_simp
        refine (HUB.out).mono ?_
        rintro e w4 ⟨rfl, hb4⟩
        have HB4 : Hid (Below wr.heap.size wr w4) := hide ⟨hb4.os, hb4.tape, hb4.output, hb4.size, hb4.block⟩
        have HT4 := hide (HT.out.below HB4.out)
        have HUS2 := hide (TwoS.unitS (k := M) HT4.out (by have := HMB.out; omega))
        rw [HUS.out] at HUS2
        clear hb4 HUB
        go_wp2_with fail
        refine hK.out _ _ (fun _ => HSS.out _ HB4.out) (fun hHeld => ?_)
        replace hHeld := hHeld (by decide)
        clear hK K
        try simp only [Act.put, List.setIfInBounds_toArray, List.set_cons_zero, List.set_cons_succ]
        refine AnyU.take (i := 4) (v := ?v307) rfl (by kernel_rfl) (by kernel_rfl) (by kernel_rfl) (by kernel_rfl) (fun _ _ _ h => h) (Or.inl ⟨by rfl, ?hy307⟩) hHeld ?r307
        case hy307 => (intro w hSw; (try dsimp only at hSw); go_simp <;> with_reducible rfl)
        simp only [Act.put, List.setIfInBounds_toArray, List.set_cons_zero, List.set_cons_succ]
        refine AnyU.take (i := 5) (v := ?v308) rfl (by kernel_rfl) (by kernel_rfl) (by kernel_rfl) (by kernel_rfl) (fun _ _ _ h => h) (Or.inl ⟨by rfl, ?hy308⟩) hHeld ?r308
        case hy308 => (intro w hSw; (try dsimp only at hSw); go_simp <;> with_reducible rfl)
        simp only [Act.put, List.setIfInBounds_toArray, List.set_cons_zero, List.set_cons_succ]
        refine AnyU.take (i := 6) (v := ?v309) rfl (by kernel_rfl) (by kernel_rfl) (by kernel_rfl) (by kernel_rfl) (fun _ _ _ h => h) (Or.inl ⟨by rfl, ?hy309⟩) hHeld ?r309
        case hy309 => (intro w hSw; (try dsimp only at hSw); go_simp <;> with_reducible rfl)
        simp only [Act.put, List.setIfInBounds_toArray, List.set_cons_zero, List.set_cons_succ]
        refine AnyU.next (js := [10]) (by kernel_rfl) (by simp) (NextU.cons rfl (fun K hK => ?_) NextU.nil)
        go_simp
        refine (HUS2.out).mono ?_
        rintro e w5 ⟨rfl, hb5⟩
        have HB5 := hide hb5
        have HT5 := hide (HT4.out.below hb5)
        clear hb5 HUS2
        go_wp2_with fail
        refine hK.out _ _ (fun _ => HSS.out _ (HB4.out.trans (HB5.out.mono HB4.out.size))) (fun hHeld => ?_)
        replace hHeld := hHeld (by decide)
        try simp only [Act.put, List.setIfInBounds_toArray, List.set_cons_zero, List.set_cons_succ]
        refine AnyU.take (i := 11) (v := ?v310) rfl (by kernel_rfl) (by kernel_rfl) (by kernel_rfl) (by kernel_rfl) (fun _ _ _ h => h) (Or.inl ⟨by rfl, ?hy310⟩) hHeld ?r310
        case hy310 => (intro w hSw; (try dsimp only at hSw); go_simp <;> with_reducible rfl)
        simp only [Act.put, List.setIfInBounds_toArray, List.set_cons_zero, List.set_cons_succ]
        refine AnyU.take (i := 12) (v := ?v311) rfl (by kernel_rfl) (by kernel_rfl) (by kernel_rfl) (by kernel_rfl) (fun _ _ _ h => h) (Or.inl ⟨by rfl, ?hy311⟩) hHeld ?r311
        case hy311 => (intro w hSw; (try dsimp only at hSw); go_simp <;> with_reducible rfl)
        simp only [Act.put, List.setIfInBounds_toArray, List.set_cons_zero, List.set_cons_succ]
        refine AnyU.take (i := 13) (v := ?v312) rfl (by kernel_rfl) (by kernel_rfl) (by kernel_rfl) (by kernel_rfl) (fun _ _ _ h => h) (Or.inl ⟨by rfl, ?hy312⟩) hHeld ?r312
        case hy312 => (intro w hSw; (try dsimp only at hSw); go_simp <;> with_reducible rfl)
        simp only [Act.put, List.setIfInBounds_toArray, List.set_cons_zero, List.set_cons_succ]
        refine AnyU.take (i := 14) (v := ?v313) rfl (by kernel_rfl) (by kernel_rfl) (by kernel_rfl) (by kernel_rfl) (fun _ _ _ h => h) (Or.inl ⟨by rfl, ?hy313⟩) hHeld ?r313
        case hy313 => (intro w hSw; (try dsimp only at hSw); go_simp <;> with_reducible rfl)
        simp only [Act.put, List.setIfInBounds_toArray, List.set_cons_zero, List.set_cons_succ]
        refine AnyU.over (by kernel_rfl) ?_ _
        go_wp2_with fail
        go_meet
        exact ⟨rfl, HT5.out⟩
      case rest =>
      obtain ⟨rfl, ht⟩ := hcut
      have HT7 := hide ht
      clear ht HT
      by_cases hk : M ≤ KT
      · have hd : decide (y.2.1 ≤ x.2.1) = true := decide_eq_true (HXY.out.2 hk)
        rw [hd]
        clear hd
        go_wp2_with fail
        go_roundw
        case rel => exact ⟨M, hi, rfl, rfl, by have := HBB.out; have := HMB.out; omega, HT7.out⟩
        case measure => (have := HMB.out; simp only [intOf]; omega)
      · have hd : decide (y.2.1 ≤ x.2.1) = false := decide_eq_false (fun h => hk (HXY.out.1 h))
        rw [hd]
        clear hd
        go_wp2_with fail
        go_roundw
        case rel => exact ⟨lo, M - 1, rfl, by first | rfl | exact congrArg (Value.int .i64) hw5, by have := HBB.out; have := HMB.out; omega, HT7.out⟩
        case measure => (have := HMB.out; simp only [intOf]; omega)
    · obtain rfl : lo = KT := by omega
      have HBL := hide ht.bel
      clear ht
      go_wp2_with fail
      go_ret
      exact ⟨rfl, HBL.out⟩
end Go.Proofs.Ytogicdljbnllgaa
