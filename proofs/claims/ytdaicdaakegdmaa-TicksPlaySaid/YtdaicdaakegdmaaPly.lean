/- The walk of TicksPlay. -/
import Derived.Test.YtdaicdaakegdmaaPlw
import Derived.Deep.CutRange
namespace Go.Proofs.Ytdaicdaakegdmaa
open Go.RowKit Go.Maps Go.Shelf
open Go.ChangeMaps Go.WideMaps

/-- The steps, as they are handed in. -/
structure OpsW (w : World) (A : Option Addr) (n : Nat) : Prop where
  at_ : ∀ k, k < n → ∃ g o a b c d, A = some ⟨g, o, none⟩ ∧ g < w.heap.size ∧ w.cell? ⟨g, o + k * 4, none⟩ = some (.int .i64 a) ∧ w.cell? ⟨g, o + k * 4 + 1, none⟩ = some (.int .i64 b) ∧ w.cell? ⟨g, o + k * 4 + 2, none⟩ = some (.int .i64 c) ∧ w.cell? ⟨g, o + k * 4 + 3, none⟩ = some (.int .i64 d) ∧ (-9223372036854775808 ≤ c ∧ c ≤ 9223372036854775807)
/-- The list that is handed on and wiped. -/
structure RowM (w : World) (g n c : Nat) (W : World) : Prop where
  row : ∃ xs, W.ownsRow w.heap.size 30 2 (.slice (some ⟨g, 0, none⟩) (n + 1) c) (n + 1) xs
  bel : Below w.heap.size w W
section
variable {w W W' : World} {g n c : Nat}
theorem RowM.set1 (h : RowM w g n c W) (k : Nat) (u : Value) : RowM w g n c (W.setCell ⟨g, k, none⟩ u) := by
  obtain ⟨xs, h1⟩ := h.row
  exact ⟨⟨_, (h1.stored k u).1⟩, h.bel.setCell (h1.lt g rfl).1 u⟩
theorem RowM.below (h : RowM w g n c W) (hb : Below W.heap.size W W') : RowM w g n c W' := by
  obtain ⟨xs, h1⟩ := h.row
  exact ⟨⟨xs, own_below h1 hb (Nat.le_refl _)⟩, h.bel.trans (hb.mono h.bel.size)⟩
theorem RowM.at_ (h : RowM w g n c W) {k : Nat} (hk : k < n) : ∃ u v, W.cell? ⟨g, k * 2, none⟩ = some u ∧ W.cell? ⟨g, k * 2 + 1, none⟩ = some v ∧ W.frozen? ⟨g, k * 2, none⟩ = false ∧ W.frozen? ⟨g, k * 2 + 1, none⟩ = false := by
  obtain ⟨xs, h1⟩ := h.row
  have hl : xs.length = (n + 1) * 2 := h1.1
  refine ⟨xs[k * 2]'(by omega), xs[k * 2 + 1]'(by omega), ?_, ?_, h1.frozenAt _, h1.frozenAt _⟩
  · rw [h1.cellAt _ (by omega), List.getElem?_eq_getElem]
  · rw [h1.cellAt _ (by omega), List.getElem?_eq_getElem]
end
theorem own_some {w : World} {B e size n : Nat} {v : Value} {xs : List Value} (h : w.ownsRow B e size v n xs) (hn : 0 < n) : ∃ g c, v = .slice (some ⟨g, 0, none⟩) n c ∧ n ≤ c := by
  rcases h.2 with ⟨_, h1⟩ | ⟨g, cap, cur, h1, _, _, hle, _⟩
  · omega
  · exact ⟨g, cap, h1, hle⟩
theorem ofS_low {now : Int} (list : List Du) : ∀ d ∈ ofS now list, now ≤ d.1 := by
  have : ∀ (l S : List Du), (∀ d ∈ S, now ≤ d.1) → ∀ d ∈ l.foldl (fun S d => setS now S d.2 d.1) S, now ≤ d.1 := by
    intro l
    induction l with
    | nil => intro S h; exact h
    | cons e l ih => intro S h; exact ih _ (setS_low h)
  exact this list [] (fun d hd => by cases hd)
theorem ofS_len2 (now : Int) (list : List Du) : (ofS now list).length ≤ list.length := by
  have : ∀ (l : List Du) (S : List Du), (l.foldl (fun S d => setS now S d.2 d.1) S).length ≤ S.length + l.length := by
    intro l
    induction l with
    | nil => intro S; simp
    | cons d l ih =>
      intro S
      have h1 := ih (setS now S d.2 d.1)
      have h2 := setS_le now d.2 d.1 S
      simp only [List.foldl_cons, List.length_cons]
      omega
  simpa [ofS] using this list []
/-- Two pairs, apart. -/
theorem PrsW.two {B M : Nat} {X0 X1 : Pr} {W : World} (h0 : PrW B M X0 W) (h1 : PrW B M X1 W) (ha : ∀ k, X0.Mut k → ¬ X1.All k) (hb : ∀ k, X1.Mut k → ¬ X0.All k) (s0 : ∀ k, X0.Cl k → X0.vd.ownBlock ≠ some k) (s1 : ∀ k, X1.Cl k → X1.vd.ownBlock ≠ some k) (c0 : ¬ X0.Cl X0.q) (c1 : ¬ X1.Cl X1.q) :
    PrsW B M (fun b => cond b X1 X0) [] W := by
  refine ⟨fun b => ?_, (fun Y hY => by cases hY), fun b => ?_, fun b => ?_, fun b => ?_, (fun Y hY => by cases hY)⟩
  · cases b
    · exact h0
    · exact h1
  · cases b
    · exact ha
    · exact hb
  · cases b
    · rintro k (hk | hk) e
      · exact s0 k hk e
      · exact h0.da.ap k e hk
    · rintro k (hk | hk) e
      · exact s1 k hk e
      · exact h1.da.ap k e hk
  · cases b
    · exact c0
    · exact c1
theorem DocW.lower {w : World} {B B' q : Nat} {now : Int} {v : Value} {S : List Du} (h : DocW w B q now v S) (hB : B' ≤ B) : DocW w B' q now v S :=
  ⟨h.blk, ⟨h.row.rd, fun g hg => ⟨Nat.le_trans hB (h.row.at_ g hg).1, (h.row.at_ g hg).2⟩⟩, h.ap, Nat.le_trans hB h.base, h.len⟩
theorem Pr.Cl.ge {X : Pr} {W : World} {B : Nat} (h : Cal W B X.p X.r X.x X.m X.v X.now X.l) : ∀ k, X.Cl k → B ≤ k ∧ k < W.heap.size := by
  rintro k hk
  refine ⟨?_, CalF.lt h k hk⟩
  rcases hk with hk | hk
  · exact CalF.own_foot h k hk
  · rw [hk]; exact h.base.2.2.1
theorem ofC_nil (now : Int) : ofC now [] = if isT now = false then 2 else 0 := by
  unfold ofC
  split <;> rfl
theorem ofC_bad {now : Int} (h : isT now = false) (list : List Du) : ofC now list = 2 := if_pos h

set_option maxRecDepth 100000 in
set_option maxHeartbeats 32000000 in
theorem play_any (now : Int) (A : Option Addr) (n c : Nat) (list : List Du) (A3 : Option Addr) (n3 c3 : Nat) (w : World) (h : DuesW w A n list) (h3 : OpsW w A3 n3) :
    Calls Try.prog 5 #[.int .i64 now, .slice A n c, .slice A3 n3 c3] w (ValB (.bool true) w) := by
  have HKN := hide (fun W => known_any W)
  have HD := hide h
  have H3 := hide h3
  clear h h3
  by_cases hn : (n : Int) > 100
  · go_enter Try.func5, Try.ntmps5
    go_wp2_with fail
    refine (HKN.out w).mono ?_
    rintro _ w1 ⟨rfl, hb⟩
    have HB := hide hb
    go_wp2_with fail
    go_ret
    exact ⟨rfl, HB.out⟩
  have hn' : (n : Int) ≤ 100 := by omega
  have HN : Hid (n ≤ 100) := hide (by omega)
  have HLEN := hide HD.out.len
  have G1 : Hid (∀ u ∈ flatD list, u.oneCell' = true) := hide (flatD_one list)
  have G2 : Hid (0 + n ≤ maxLen ∧ n + 1 ≤ maxLen) := hide (by unfold maxLen; have := HN.out; omega)
  have G3 : Hid ((0 + n) * 16 ≤ 140737488355328 ∧ (n + 1) * 16 ≤ 140737488355328) := hide (by have := HN.out; omega)
  have HTO := hide (two_one 0 4242)
  go_enter Try.func5, Try.ntmps5
  go_upto_region 4 with (first | (at_builtin; refine wpList_append_any rfl (.const (.slice none 0 0)) (.tmp 27) 22 rfl w.heap.size 30 (.agg #[.int .i64 0, .int .i64 0]) 2 16 infoD Try.underlying22 rfl (by decide) _ 0 [] rfl (World.ownsRow_nil _ _ _ _) w.heap.size A n c (flatD list) rfl HD.out.rd G1.out G2.out.1 G3.out.1 (Nat.le_refl _) ?_; intro v1 w1 ho1 hg1 hat1; rw [Nat.zero_add, List.nil_append] at ho1; have HO1 := hide ho1; have HB1 : Hid (Below w.heap.size w w1) := hide ((Below.refl _ w).grown hg1 (Nat.le_refl _) (fun k e => by cases e)); have HRN := hide (row_new w1 0 4242); have HO1b := hide (own_below ho1 HRN.out.1 (Nat.le_refl _)); have HZ1 : Hid (w.heap.size ≤ (w1.alloc (.cells #[.int .i64 0, .int .i64 4242] 30)).heap.size) := hide (Nat.le_trans HB1.out.size HRN.out.1.size); obtain ⟨A1, cc1, rfl⟩ := own_shape ho1; clear ho1 hg1 hat1) | (at_builtin; refine wpList_append_any rfl (.tmp 28) (.tmp 30) 22 rfl w.heap.size 30 (.agg #[.int .i64 0, .int .i64 0]) 2 16 infoD Try.underlying22 rfl (by decide) _ n (flatD list) rfl HO1b.out (w1.alloc (.cells #[.int .i64 0, .int .i64 4242] 30)).heap.size (some ⟨w1.heap.size, 0, none⟩) 1 1 [.int .i64 0, .int .i64 4242] rfl HRN.out.2 HTO.out G2.out.2 G3.out.2 HZ1.out ?_; intro v2 w2 ho2 hg2 hat2; have HO2 := hide ho2; have HB2 : Hid (Below w.heap.size w w2) := hide ((HB1.out.trans (HRN.out.1.mono HB1.out.size)).grown hg2 HZ1.out (fun k e => (HO1b.out.lt k e).1)); obtain ⟨g, cg, e2, hcg⟩ := own_some ho2 (Nat.succ_pos n); subst e2; have hcn : n ≤ cg := (by omega); clear ho2 hg2 hat2))
  have HM2 : Hid (RowM w g n cg w2) := hide ⟨⟨_, HO2.out⟩, HB2.out⟩
  have hfl : flatD list ++ [.int .i64 0, .int .i64 4242] = flatD (list ++ [(0, 4242)]) := by rw [flatD_append]; rfl
  have hln : list.length = n := HLEN.out
  have hr2 : Reads w2 w2.heap.size 2 (some ⟨g, 0, none⟩) n (flatD list) := by
    have h1 := HO2.out
    rw [hfl] at h1
    have h2 := (Reads.of_own h1).front (Nat.le_succ n)
    rw [← flatD_take, List.take_append_of_le_length (by omega), List.take_of_length_le (by omega)] at h2
    exact h2
  have HDM : Hid (DuesW w2 (some ⟨g, 0, none⟩) n list) := hide ⟨HD.out.len, hr2, HD.out.wf⟩
  have HDL := hide (HD.out.below HB2.out)
  have H42 : Hid (w2.cell? ⟨g, n * 2 + 1, none⟩ = some (.int .i64 4242)) := hide (by
    have h1 := HO2.out
    rw [hfl] at h1
    have h2 := (h1.cellAt (n * 2 + 1) (by omega)).trans (flatD_at (list ++ [(0, 4242)]) n (by simp; omega)).2
    rw [h2, gD_of (by simp; omega), List.getElem_append_right (by omega)]
    simp [HD.out.len])
  have HG : Hid (g < w2.heap.size ∧ w.heap.size ≤ g) := hide ⟨(HO2.out.lt g rfl).2, (HO2.out.lt g rfl).1⟩
  clear hfl hr2 hln HO2 HO1 HO1b HRN HZ1 HB1
  have hn0 : (0 : Int) ≤ (n : Int) := by omega
  have hn1 : (n : Int) < (n : Int) + 1 := by omega
  have hnw : IntKind.i64.wrap ((n : Int) + 1) = ((n + 1 : Nat) : Int) := by rw [Go.IntWalk.i64_in _ (by omega)]; omega
  have hnx : (n : Int) < ((n + 1 : Nat) : Int) := by omega
  have hn2 : n < n + 1 := by omega
  cases hN : isT now with
  | false =>
    have HC0 : Hid (ofC now [] = 2) := hide (by rw [ofC_nil, if_pos hN])
    have HC1 : Hid (ofC now list = 2) := hide (ofC_bad hN list)
    have HNT := hide hN
    clear hN
    have HNW := hide (new_any now w2)
    go_wp2_with fail
    refine (HNW.out).mono ?_
    rintro e w3 (⟨_, rfl, hb3⟩ | ⟨h0, _⟩)
    case inr => exact absurd (HC0.out.symm.trans h0) (by decide)
    rw [HC0.out]
    have HB3 := hide hb3
    clear hb3
    have HOF := hide (of_any now (some ⟨g, 0, none⟩) n cg list w3 (HDM.out.below HB3.out) (by have := HN.out; omega))
    go_wp2_with fail
    refine (HOF.out).mono ?_
    rintro e w4 (⟨_, rfl, hb4⟩ | ⟨h0, _⟩)
    case inr => exact absurd (HC1.out.symm.trans h0) (by decide)
    rw [HC1.out]
    have HB4 := hide hb4
    clear hb4
    have HB24 : Hid (Below w2.heap.size w2 w4) := hide (HB3.out.trans (HB4.out.mono HB3.out.size))
    have HDN := hide (docNew_any now w4)
    go_wp2_with fail
    refine (HDN.out).mono ?_
    rintro e w5 (⟨_, rfl, rfl⟩ | ⟨h0, _⟩)
    case inr => exact absurd (HNT.out.symm.trans h0) (by decide)
    have HB25 := HB24
    have HDO := hide (docOf_any now A n c list w4 (HDL.out.below HB25.out) (by have := HN.out; omega))
    go_wp2_with fail
    refine (HDO.out).mono ?_
    rintro e w6 (⟨_, rfl, hb6⟩ | ⟨h0, _⟩)
    case inr => exact absurd (HC1.out.symm.trans h0) (by decide)
    rw [HC1.out]
    have HB6 : Hid (Below w2.heap.size w2 w6) := hide (HB25.out.trans (hb6.mono HB25.out.size))
    clear hb6
    have HSA := hide (same_any (some ⟨g, 0, none⟩) cg list A c list w6 (by have h1 := (HDM.out.below HB6.out).rd; rw [← HD.out.len] at h1; exact h1) (by have h1 := (HDL.out.below HB6.out).rd; rw [← HD.out.len] at h1; exact h1) (by have := HD.out.len; have := HN.out; omega))
    rw [HLEN.out] at HSA
    have hdl : decide (list = list) = true := by simp
    go_wp2_with fail
    refine (HSA.out).mono ?_
    rintro _ w7 ⟨rfl, hb7⟩
    have HB67 := hide hb7
    have HB7 : Hid (Below w2.heap.size w2 w7) := hide (HB6.out.trans (hb7.mono HB6.out.size))
    have HM7 := hide (HM2.out.below HB7.out)
    have e42 := (HB7.out.cell (p := ⟨g, n * 2 + 1, none⟩) HG.out.1).trans H42.out
    clear hb7
    go_wp2_with fail
    go_loopw [16] (fun iv wr => ∃ k : Nat, k ≤ n ∧ iv = .int .i64 k ∧ RowM w g n cg wr ∧ w7.heap.size ≤ wr.heap.size ∧ True) (fun iv _ => n - (intOf iv).toNat)
    case atStart => exact ⟨0, Nat.zero_le _, rfl, HM7.out, Nat.le_refl _, trivial⟩
    case round =>
      obtain ⟨k, hk, rfl, hm, hwr, hpf⟩ := hrel
      have HMR := hide hm
      have HWR := hide hwr
      have HPR := hide hpf
      clear hm hpf hwr e42
      by_cases hlt : k < n
      · obtain ⟨u1, u2, z0, z1, z2, z3⟩ := HMR.out.at_ hlt
        have hki : (k : Int) < (n : Int) := by omega
        have hk0 : (0 : Int) ≤ (k : Int) := by omega
        have HM9 := hide ((HMR.out.set1 (k * 2) (.int .i64 0)).set1 (k * 2 + 1) (.int .i64 7))
        have HP9 : Hid (True) := hide trivial
        go_wp2_with fail
        go_roundw
        case rel => exact ⟨k + 1, by omega, by go_num, HM9.out, by simpa [World.setCell] using HWR.out, HP9.out⟩
        case measure => simp [intOf]; omega
      · have hki : ¬ (k : Int) < (n : Int) := by omega
        go_wp2_with fail
        refine (HKN.out wr).mono ?_
        rintro _ w9 ⟨rfl, hb9⟩
        have HB9 : Hid (Below w.heap.size w w9) := hide (HMR.out.bel.trans (hb9.mono HMR.out.bel.size))
        go_wp2_with fail
        go_ret
        exact ⟨rfl, HB9.out⟩
  | true =>
    by_cases hcb : ofC now list = 0
    · have HCB := hide hcb
      clear hcb
      have HC0 : Hid (ofC now [] = 0) := hide (by rw [ofC_nil, if_neg (by rw [hN]; simp)])
      have HNT := hide hN
      clear hN
      have HNW := hide (new_any now w2)
      go_wp2_with fail
      refine (HNW.out).mono ?_
      rintro e w3 (⟨h0, _⟩ | ⟨_, p0, rfl, r0, x0, m0, v0, l0, hc0, hr0, hb3⟩)
      · exact absurd HC0.out h0
      have HB3 := hide hb3
      have HCA0 := hide hc0
      have HRE0 : Hid (RelD l0 []) := hide hr0
      clear hc0 hr0 hb3
      have HOF := hide (of_any now (some ⟨g, 0, none⟩) n cg list w3 (HDM.out.below HB3.out) (by have := HN.out; omega))
      go_wp2_with fail
      refine (HOF.out).mono ?_
      rintro e w4 (⟨h0, _⟩ | ⟨_, p1, rfl, r1, x1, m1, v1, l1, hc1, hr1, hb4⟩)
      · exact absurd HCB.out h0
      have HB4 := hide hb4
      have HCA1 := hide hc1
      have HRE1 := hide hr1
      clear hc1 hr1 hb4
      have HB24 : Hid (Below w2.heap.size w2 w4) := hide (HB3.out.trans (HB4.out.mono HB3.out.size))
      have HDN := hide (docNew_any now w4)
      go_wp2_with fail
      refine (HDN.out).mono ?_
      rintro e w5 (⟨h0, _⟩ | ⟨_, q0, vd0, rfl, hd0, hb5⟩)
      · exact absurd (HNT.out.symm.trans h0) (by decide)
      have HDA0 := hide hd0
      have HB5 := hide hb5
      have HB25 : Hid (Below w2.heap.size w2 w5) := hide (HB24.out.trans (hb5.mono HB24.out.size))
      clear hd0 hb5
      have HDO := hide (docOf_any now A n c list w5 (HDL.out.below HB25.out) (by have := HN.out; omega))
      go_wp2_with fail
      refine (HDO.out).mono ?_
      rintro e w6 (⟨h0, _⟩ | ⟨_, q1, vd1, rfl, hd1, hb6⟩)
      · exact absurd HCB.out h0
      have HDA1 := hide hd1
      have HB56 := hide hb6
      have HB6 : Hid (Below w2.heap.size w2 w6) := hide (HB25.out.trans (hb6.mono HB25.out.size))
      clear hd1 hb6
      have HSA := hide (same_any (some ⟨g, 0, none⟩) cg list A c list w6 (by have h1 := (HDM.out.below HB6.out).rd; rw [← HD.out.len] at h1; exact h1) (by have h1 := (HDL.out.below HB6.out).rd; rw [← HD.out.len] at h1; exact h1) (by have := HD.out.len; have := HN.out; omega))
      rw [HLEN.out] at HSA
      have hdl : decide (list = list) = true := by simp
      go_wp2_with fail
      refine (HSA.out).mono ?_
      rintro _ w7 ⟨rfl, hb7⟩
      have HB67 := hide hb7
      have HB7 : Hid (Below w2.heap.size w2 w7) := hide (HB6.out.trans (hb7.mono HB6.out.size))
      have HM7 := hide (HM2.out.below HB7.out)
      have e42 := (HB7.out.cell (p := ⟨g, n * 2 + 1, none⟩) HG.out.1).trans H42.out
      clear hb7
      obtain ⟨X, hX⟩ : ∃ X : Bool → Pr, X = fun b => cond b (⟨p1, r1, x1, m1, q1, v1, vd1, now, l1, ofS now list⟩ : Pr) ⟨p0, r0, x0, m0, q0, v0, vd0, now, l0, []⟩ := ⟨_, rfl⟩
      have HPR : Hid (PrsW w2.heap.size 100 X [] w7) := hide (by
        rw [hX]
        have k0 := Pr.Cl.ge (X := ⟨p0, r0, x0, m0, q0, v0, vd0, now, l0, []⟩) HCA0.out
        have k1 := Pr.Cl.ge (X := ⟨p1, r1, x1, m1, q1, v1, vd1, now, l1, ofS now list⟩) HCA1.out
        have d0 : ∀ k, (k = q0 ∨ vd0.ownBlock = some k) → w4.heap.size ≤ k ∧ k < w5.heap.size := fun k hk => by
          rcases hk with rfl | hk
          · exact ⟨HDA0.out.base, lt_of_block HDA0.out.blk⟩
          · exact HDA0.out.row.at_ k hk
        have d1 : ∀ k, (k = q1 ∨ vd1.ownBlock = some k) → w5.heap.size ≤ k ∧ k < w6.heap.size := fun k hk => by
          rcases hk with rfl | hk
          · exact ⟨HDA1.out.base, lt_of_block HDA1.out.blk⟩
          · exact HDA1.out.row.at_ k hk
        have z3 := HB3.out.size
        have z4 := HB4.out.size
        have z5 := HB5.out.size
        refine PrsW.two ⟨CalF.below (CalF.below (CalF.below (CalF.below HCA0.out HB4.out) HB5.out) HB56.out) HB67.out, HRE0.out, ((HDA0.out.below HB56.out).below HB67.out).lower HB24.out.size, HNT.out, (fun d hd => by cases hd), by simp⟩
          ⟨CalF.lower (CalF.below (CalF.below (CalF.below HCA1.out HB5.out) HB56.out) HB67.out) HB3.out.size, HRE1.out, (HDA1.out.below HB67.out).lower HB25.out.size, HNT.out, ofS_low list, by have := ofS_len2 now list; have := HD.out.len; have := HN.out; show (ofS now list).length ≤ 100; omega⟩ ?_ ?_ ?_ ?_ ?_ ?_
        · rintro k (hk | hk) ((hj | hj) | hj)
          · have := k0 k hk; have := k1 k hj; omega
          · have := k0 k hk; have := d1 k (.inl hj); omega
          · have := k0 k hk; have := d1 k (.inr hj); omega
          · have := d0 k (.inl hk); have := k1 k hj; omega
          · have := d0 k (.inl hk); have := d1 k (.inl hj); omega
          · have := d0 k (.inl hk); have := d1 k (.inr hj); omega
        · rintro k (hk | hk) ((hj | hj) | hj)
          · have := k1 k hk; have := k0 k hj; omega
          · have := k1 k hk; have := d0 k (.inl hj); omega
          · have := k1 k hk; have := d0 k (.inr hj); omega
          · have := d1 k (.inl hk); have := k0 k hj; omega
          · have := d1 k (.inl hk); have := d0 k (.inl hj); omega
          · have := d1 k (.inl hk); have := d0 k (.inr hj); omega
        · intro k hk e; have := k0 k hk; have := d0 k (.inr e); omega
        · intro k hk e; have := k1 k hk; have := d1 k (.inr e); omega
        · intro hk; have h1 : w2.heap.size ≤ q0 ∧ q0 < w3.heap.size := k0 _ hk; have := d0 q0 (.inl rfl); omega
        · intro hk; have h1 : w3.heap.size ≤ q1 ∧ q1 < w4.heap.size := k1 _ hk; have := d1 q1 (.inl rfl); omega)
      have HXE : Hid ((X false).p = p0 ∧ (X true).p = p1 ∧ (X false).q = q0 ∧ (X true).q = q1) := hide (by rw [hX]; exact ⟨rfl, rfl, rfl, rfl⟩)
      clear hX
      go_wp2_with fail
      go_loopw [16] (fun iv wr => ∃ k : Nat, k ≤ n ∧ iv = .int .i64 k ∧ RowM w g n cg wr ∧ w7.heap.size ≤ wr.heap.size ∧ PrsW w2.heap.size 100 X [] wr) (fun iv _ => n - (intOf iv).toNat)
      case atStart => exact ⟨0, Nat.zero_le _, rfl, HM7.out, Nat.le_refl _, HPR.out⟩
      case round =>
        obtain ⟨k, hk, rfl, hm, hwr, hpf⟩ := hrel
        have HMR := hide hm
        have HWR := hide hwr
        have HPR := hide hpf
        clear hm hpf hwr e42
        by_cases hlt : k < n
        · obtain ⟨u1, u2, z0, z1, z2, z3⟩ := HMR.out.at_ hlt
          have hki : (k : Int) < (n : Int) := by omega
          have hk0 : (0 : Int) ≤ (k : Int) := by omega
          have HM9 := hide ((HMR.out.set1 (k * 2) (.int .i64 0)).set1 (k * 2 + 1) (.int .i64 7))
          have HP9 : Hid (PrsW w2.heap.size 100 X [] ((wr.setCell ⟨g, k * 2, none⟩ (.int .i64 0)).setCell ⟨g, k * 2 + 1, none⟩ (.int .i64 7))) := hide ((HPR.out.only (T := fun i => i = g) (Only.set (S := fun i => i = g) (Only.refl _ _) ⟨g, k * 2, none⟩ rfl _) (fun i e => ⟨fun c hA => by have := (HPR.out.cur c).ge i hA; have := HG.out.1; omega, fun Y hY => by cases hY⟩)).only (T := fun i => i = g) (Only.set (S := fun i => i = g) (Only.refl _ _) ⟨g, k * 2 + 1, none⟩ rfl _) (fun i e => ⟨fun c hA => by have := (HPR.out.cur c).ge i hA; have := HG.out.1; omega, fun Y hY => by cases hY⟩))
          go_wp2_with fail
          go_roundw
          case rel => exact ⟨k + 1, by omega, by go_num, HM9.out, by simpa [World.setCell] using HWR.out, HP9.out⟩
          case measure => simp [intOf]; omega
        · have hki : ¬ (k : Int) < (n : Int) := by omega
          have HBW : Hid (Below w.heap.size w wr) := hide HMR.out.bel
          have HPRX := HPR
          have HZW : Hid (w2.heap.size ≤ wr.heap.size) := hide (Nat.le_trans HB7.out.size (Nat.le_trans HWR.out (Nat.le_refl _)))
          have HBB : Hid (Below wr.heap.size wr (wr.alloc (.cells #[.pointer (some ⟨p0, 0, none⟩), .pointer (some ⟨p1, 0, none⟩), .pointer (some ⟨q0, 0, none⟩), .pointer (some ⟨q1, 0, none⟩), .slice none 0 0, .slice none 0 0] 58))) := hide ((Below.refl _ _).alloc (Nat.le_refl _) _)
          have HST : Hid (StW w2.heap.size 100 wr.heap.size X [] (.slice none 0 0) (.slice none 0 0) (wr.alloc (.cells #[.pointer (some ⟨p0, 0, none⟩), .pointer (some ⟨p1, 0, none⟩), .pointer (some ⟨q0, 0, none⟩), .pointer (some ⟨q1, 0, none⟩), .slice none 0 0, .slice none 0 0] 58))) := hide (by
            have hx := heap_alloc_new wr (.cells #[.pointer (some ⟨p0, 0, none⟩), .pointer (some ⟨p1, 0, none⟩), .pointer (some ⟨q0, 0, none⟩), .pointer (some ⟨q1, 0, none⟩), .slice none 0 0, .slice none 0 0] 58)
            obtain ⟨e1, e2, e3, e4⟩ := HXE.out
            refine ⟨⟨?_, World.ownsRow_nil _ _ _ _, World.ownsRow_nil _ _ _ _, HZW.out⟩, HPRX.out.below HBB.out, fun k hk => ?_⟩
            · rw [e1, e2, e3, e4]; exact hx
            · rcases hk with rfl | hk | hk
              · exact ⟨fun c hA => by have := (HPRX.out.cur c).lt _ hA; omega, (fun Y hY => by cases hY)⟩
              · cases hk
              · cases hk)
          have HBWb : Hid (Below w.heap.size w (wr.alloc (.cells #[.pointer (some ⟨p0, 0, none⟩), .pointer (some ⟨p1, 0, none⟩), .pointer (some ⟨q0, 0, none⟩), .pointer (some ⟨q1, 0, none⟩), .slice none 0 0, .slice none 0 0] 58))) := hide (HBW.out.trans (HBB.out.mono HBW.out.size))
          have HWP : Hid (w2.heap.size ≤ (wr.alloc (.cells #[.pointer (some ⟨p0, 0, none⟩), .pointer (some ⟨p1, 0, none⟩), .pointer (some ⟨q0, 0, none⟩), .pointer (some ⟨q1, 0, none⟩), .slice none 0 0, .slice none 0 0] 58)).heap.size) := hide (Nat.le_trans HZW.out HBB.out.size)
          clear HM7 HPR HPRX HB7 HXE HZW
          go_wp2_with fail
          generalize wr.alloc (.cells #[.pointer (some ⟨p0, 0, none⟩), .pointer (some ⟨p1, 0, none⟩), .pointer (some ⟨q0, 0, none⟩), .pointer (some ⟨q1, 0, none⟩), .slice none 0 0, .slice none 0 0] 58) = wb at *
          generalize wr.heap.size = wp at *
          go_loopw [18] (fun iv W => ∃ (k : Nat) (X : Bool → Pr) (os : List Pr) (vo vw : Value), k ≤ 150 ∧ iv = .int .i64 k ∧ StW w2.heap.size (100 + k) wp X os vo vw W ∧ os.length ≤ 10 ∧ w2.heap.size ≤ W.heap.size ∧ Below w.heap.size w W) (fun iv _ => 150 - (intOf iv).toNat)
          case atStart => exact ⟨0, X, [], _, _, Nat.zero_le _, rfl, HST.out, by simp, HWP.out, HBWb.out⟩
          case round =>
            rename World => wk
            clear HST HWP HBWb HBB HBW
            obtain ⟨k, X, os, vo, vw, hk, rfl, hst, hos, hwz, hb⟩ := hrel
            have HK := hide hk
            have HST := hide hst
            have HOS := hide hos
            have HWZ := hide hwz
            have HBK := hide hb
            clear hst hos hwz hb hk
            have hk0 : (0 : Int) ≤ (k : Int) := by omega
            have hk9 : (k : Int) ≤ 150 := by have := HK.out; omega
            go_upto_region 22 with fail
            go_cut [134] from 127 to 134 (fun z wx => z = .bool (decide (k < n3 ∧ k < 150)) ∧ wk = wx)
            case first =>
              by_cases h1 : k < n3
              · have h1' : (k : Int) < (n3 : Int) := by omega
                by_cases h2 : k < 150
                · have h2' : (k : Int) < 150 := by omega
                  have HDC := hide (decide_eq_true (p := k < n3 ∧ k < 150) ⟨h1, h2⟩)
                  clear h1 h2
                  go_wp2_with fail
                  go_meet
                  exact ⟨congrArg Value.bool HDC.out.symm, rfl⟩
                · have h2' : ¬ (k : Int) < 150 := by omega
                  have HDC := hide (decide_eq_false (p := k < n3 ∧ k < 150) (fun h => h2 h.2))
                  clear h1 h2
                  go_wp2_with fail
                  go_meet
                  exact ⟨congrArg Value.bool HDC.out.symm, rfl⟩
              · have h1' : ¬ (k : Int) < (n3 : Int) := by omega
                have HDC := hide (decide_eq_false (p := k < n3 ∧ k < 150) (fun h => h1 h.1))
                clear h1
                go_wp2_with fail
                go_meet
                exact ⟨congrArg Value.bool HDC.out.symm, rfl⟩
            case rest =>
              obtain ⟨rfl, rfl⟩ := hcut
              by_cases hlt : k < n3 ∧ k < 150
              · have hd : decide (k < n3 ∧ k < 150) = true := decide_eq_true hlt
                rw [hd]
                have h1' : (k : Int) < (n3 : Int) := by omega
                have HLT := hide hlt.2
                obtain ⟨g3, o3, a, b, cN, d, rfl, hg3, s0, s1, s2, s3, hcb⟩ := H3.out.at_ k hlt.1
                have t0 := (HBK.out.cell (p := ⟨g3, o3 + k * 4, none⟩) hg3).trans s0
                have t1 := (HBK.out.cell (p := ⟨g3, o3 + k * 4 + 1, none⟩) hg3).trans s1
                have t2 := (HBK.out.cell (p := ⟨g3, o3 + k * 4 + 2, none⟩) hg3).trans s2
                have t3 := (HBK.out.cell (p := ⟨g3, o3 + k * 4 + 3, none⟩) hg3).trans s3
                have HSTEP : Hid (Calls Try.prog 21 #[.pointer (some ⟨wp, 0, none⟩), .agg #[.int .i64 a, .int .i64 b, .int .i64 cN, .int .i64 d]] wk (StepP w2.heap.size (100 + k) wp 0 wk)) := hide (step_any HST.out (by have := HK.out; omega) HOS.out HWZ.out a b cN d hcb)
                clear hd hlt s0 s1 s2 s3 hcb hg3
                go_wp2_with fail
                refine (HSTEP.out).mono ?_
                rintro _ ws ⟨rfl, X2, os2, vo2, vw2, hst2, hos2, _, hbs⟩
                have HS2 : Hid (StW w2.heap.size (100 + (k + 1)) wp X2 os2 vo2 vw2 ws) := hide hst2
                have HO2 := hide hos2
                have HZ2 : Hid (w2.heap.size ≤ ws.heap.size) := hide (Nat.le_trans HWZ.out hbs.size)
                have HB2s : Hid (Below w.heap.size w ws) := hide (HBK.out.trans (hbs.mono HB2.out.size))
                clear hst2 hos2 hbs t0 t1 t2 t3
                go_wp2_with fail
                go_roundw
                case rel => exact ⟨k + 1, X2, os2, vo2, vw2, HLT.out, by go_num, HS2.out, HO2.out, HZ2.out, HB2s.out⟩
                case measure => have := HLT.out; simp [intOf]; omega
              · have hd : decide (k < n3 ∧ k < 150) = false := decide_eq_false hlt
                rw [hd]
                have HEN := hide (HST.out.more (M' := 1000) (by have := HK.out; omega)).end_
                clear hd hlt HST HK
                go_wp2_with fail
                go_loopw [20] (fun iv W => ∃ (j : Nat) (prs : List Pr) (vo vw : Value), j ≤ 2 ∧ iv = .int .i64 j ∧ EndW w2.heap.size 1000 wp X prs vo vw W ∧ prs.length ≤ 10 + j ∧ w2.heap.size ≤ W.heap.size ∧ Below w.heap.size w W) (fun iv _ => 2 - (intOf iv).toNat)
                case atStart => exact ⟨0, os, vo, vw, Nat.zero_le _, rfl, HEN.out, HOS.out, HWZ.out, HBK.out⟩
                case round =>
                  rename World => wj
                  clear HEN HWZ HBK HOS
                  obtain ⟨j, prs, vo, vw, hj, rfl, hen, hos, hwz, hb⟩ := hrel
                  have HJ := hide hj
                  have HEN := hide hen
                  have HOS := hide hos
                  have HWZ := hide hwz
                  have HBK := hide hb
                  obtain ⟨A4, c4, hvo⟩ := own_shape hen.rows.ro
                  rw [List.length_map] at hvo
                  subst hvo
                  obtain ⟨A5, c5, hvw⟩ := own_shape hen.rows.rq
                  rw [List.length_map] at hvw
                  subst hvw
                  clear hen hos hwz hb hj
                  by_cases hj2 : j < 2
                  · have hj3 : (j : Int) < 2 := by omega
                    have hj0 : (0 : Int) ≤ (j : Int) := by omega
                    have HJ2 := hide hj2
                    obtain ⟨Y, hY⟩ : ∃ Y, Y = X (decide (j = 1)) := ⟨_, rfl⟩
                    have HY := hide hY
                    have hat := HEN.out.rows.at_ hj2
                    rw [← hY] at hat
                    obtain ⟨cT, cR⟩ := hat
                    simp only [ptrV] at cT cR
                    have w4 : wj.cell? ⟨wp, 4, none⟩ = some (.slice A4 prs.length c4) := cell_of_row wj wp 4 _ _ (0, 0) HEN.out.rows.blk
                    have hro := HEN.out.rows.ro
                    rw [List.length_map, List.map_map] at hro
                    have HPN := hide (ptr_new wj.drew Y.p 24)
                    have HRO := hide (own_below (w := wj.drew) hro HPN.out.1 (Nat.le_refl _))
                    have HRW := hide (RowsW.below (W := wj.drew) (HEN.out.below ((Below.refl _ wj).drew)).rows HPN.out.1)
                    have G1 : Hid (∀ u ∈ [ptrV Y.p], u.oneCell' = true) := hide (ptr_one _)
                    have G2 : Hid (prs.length + 1 ≤ maxLen) := hide (by unfold maxLen; have := HOS.out; omega)
                    have G3 : Hid ((prs.length + 1) * 8 ≤ 140737488355328) := hide (by have := HOS.out; omega)
                    have G4 : Hid (w2.heap.size ≤ (wj.drew.alloc (.cells #[ptrV Y.p] 24)).heap.size) := hide (Nat.le_trans HWZ.out HPN.out.1.size)
                    obtain ⟨P, hP⟩ : ∃ P : World → Prop, P = fun W => W.cell? ⟨wp, 4, none⟩ = some (.slice A4 prs.length c4) ∧ W.cell? ⟨wp, j, none⟩ = some (.pointer (some ⟨Y.p, 0, none⟩)) := ⟨_, rfl⟩
                    have hP0 : P wj.drew := by rw [hP]; exact ⟨w4, cT⟩
                    have HPA := hide (show P (wj.drew.alloc (.cells #[ptrV Y.p] 24)) from by rw [hP]; exact ⟨(HPN.out.1.cell (lt_of_cell w4)).trans w4, (HPN.out.1.cell (lt_of_cell cT)).trans cT⟩)
                    have HPE := hide hP
                    clear hro w4 cT hY
                    go_wp2_with fail
                    refine wp_region_U 15 P (by kernel_rfl) hP0 (fun hHeld => ?_)
                    refine AnyU.take (i := 0) (v := ?v5001) rfl (by kernel_rfl) (by kernel_rfl) (by kernel_rfl) (by kernel_rfl) (fun _ _ _ h => h) (Or.inl ⟨by rfl, ?hy5001⟩) hHeld ?r5001
                    case hy5001 => (intro w hSw; (try dsimp only at hSw); rw [hP] at hSw; obtain ⟨z0, z1⟩ := hSw; go_simp <;> with_reducible rfl)
                    simp only [Act.put, List.setIfInBounds_toArray, List.set_cons_zero, List.set_cons_succ]
                    refine AnyU.take (i := 1) (v := ?v5002) rfl (by kernel_rfl) (by kernel_rfl) (by kernel_rfl) (by kernel_rfl) (fun _ _ _ h => h) (Or.inl ⟨by rfl, ?hy5002⟩) hHeld ?r5002
                    case hy5002 => (intro w hSw; (try dsimp only at hSw); rw [hP] at hSw; obtain ⟨z0, z1⟩ := hSw; go_simp <;> with_reducible rfl)
                    simp only [Act.put, List.setIfInBounds_toArray, List.set_cons_zero, List.set_cons_succ]
                    refine AnyU.take (i := 2) (v := ?v5003) rfl (by kernel_rfl) (by kernel_rfl) (by kernel_rfl) (by kernel_rfl) (fun _ _ _ h => h) (Or.inl ⟨by rfl, ?hy5003⟩) hHeld ?r5003
                    case hy5003 => (intro w hSw; (try dsimp only at hSw); rw [hP] at hSw; obtain ⟨z0, z1⟩ := hSw; go_simp <;> with_reducible rfl)
                    simp only [Act.put, List.setIfInBounds_toArray, List.set_cons_zero, List.set_cons_succ]
                    refine AnyU.take (i := 3) (v := ?v5004) rfl (by kernel_rfl) (by kernel_rfl) (by kernel_rfl) (by kernel_rfl) (fun _ _ _ h => h) (Or.inl ⟨by rfl, ?hy5004⟩) hHeld ?r5004
                    case hy5004 => (intro w hSw; (try dsimp only at hSw); rw [hP] at hSw; obtain ⟨z0, z1⟩ := hSw; go_simp <;> with_reducible rfl)
                    simp only [Act.put, List.setIfInBounds_toArray, List.set_cons_zero, List.set_cons_succ]
                    refine AnyU.take (i := 4) (v := ?v5005) rfl (by kernel_rfl) (by kernel_rfl) (by kernel_rfl) (by kernel_rfl) (fun _ _ _ h => h) (Or.inl ⟨by rfl, ?hy5005⟩) hHeld ?r5005
                    case hy5005 => (intro w hSw; (try dsimp only at hSw); rw [hP] at hSw; obtain ⟨z0, z1⟩ := hSw; go_simp <;> with_reducible rfl)
                    simp only [Act.put, List.setIfInBounds_toArray, List.set_cons_zero, List.set_cons_succ]
                    refine AnyU.take (i := 5) (v := ?v5006) rfl (by kernel_rfl) (by kernel_rfl) (by kernel_rfl) (by kernel_rfl) (fun _ _ _ h => h) (Or.inl ⟨by rfl, ?hy5006⟩) hHeld ?r5006
                    case hy5006 => (intro w hSw; (try dsimp only at hSw); rw [hP] at hSw; obtain ⟨z0, z1⟩ := hSw; go_simp <;> with_reducible rfl)
                    simp only [Act.put, List.setIfInBounds_toArray, List.set_cons_zero, List.set_cons_succ]
                    refine AnyU.take (i := 6) (v := ?v5007) rfl (by kernel_rfl) (by kernel_rfl) (by kernel_rfl) (by kernel_rfl) (fun _ _ _ h => h) (Or.inl ⟨by rfl, ?hy5007⟩) hHeld ?r5007
                    case hy5007 => (intro w hSw; (try dsimp only at hSw); rw [hP] at hSw; obtain ⟨z0, z1⟩ := hSw; go_simp <;> with_reducible rfl)
                    simp only [Act.put, List.setIfInBounds_toArray, List.set_cons_zero, List.set_cons_succ]
                    refine AnyU.take (i := 7) (v := ?v5008) rfl (by kernel_rfl) (by kernel_rfl) (by kernel_rfl) (by kernel_rfl) (fun _ _ _ h => h) (Or.inl ⟨by rfl, ?hy5008⟩) hHeld ?r5008
                    case hy5008 => (intro w hSw; (try dsimp only at hSw); rw [hP] at hSw; obtain ⟨z0, z1⟩ := hSw; go_simp <;> with_reducible rfl)
                    simp only [Act.put, List.setIfInBounds_toArray, List.set_cons_zero, List.set_cons_succ]
                    refine AnyU.take (i := 8) (v := ?v5009) rfl (by kernel_rfl) (by kernel_rfl) (by kernel_rfl) (by kernel_rfl) (fun _ _ _ h => h) (Or.inl ⟨by rfl, ?hy5009⟩) hHeld ?r5009
                    case hy5009 => (intro w hSw; (try dsimp only at hSw); rw [hP] at hSw; obtain ⟨z0, z1⟩ := hSw; go_simp <;> with_reducible rfl)
                    simp only [Act.put, List.setIfInBounds_toArray, List.set_cons_zero, List.set_cons_succ]
                    refine AnyU.take (i := 9) (v := ?v5010) rfl (by kernel_rfl) (by kernel_rfl) (by kernel_rfl) (by kernel_rfl) (fun _ _ _ h => h) (Or.inl ⟨by rfl, ?hy5010⟩) hHeld ?r5010
                    case hy5010 => (intro w hSw; (try dsimp only at hSw); rw [hP] at hSw; obtain ⟨z0, z1⟩ := hSw; go_simp <;> with_reducible rfl)
                    simp only [Act.put, List.setIfInBounds_toArray, List.set_cons_zero, List.set_cons_succ]
                    refine AnyU.take (i := 10) (v := ?v5011) rfl (by kernel_rfl) (by kernel_rfl) (by kernel_rfl) (by kernel_rfl) (fun _ _ _ h => h) (Or.inl ⟨by rfl, ?hy5011⟩) hHeld ?r5011
                    case hy5011 => (intro w hSw; (try dsimp only at hSw); rw [hP] at hSw; obtain ⟨z0, z1⟩ := hSw; go_simp <;> with_reducible rfl)
                    simp only [Act.put, List.setIfInBounds_toArray, List.set_cons_zero, List.set_cons_succ]
                    clear hHeld
                    refine AnyU.next (js := [11]) (by kernel_rfl) (by simp) (NextU.cons rfl (fun K hK => ?_) NextU.nil)
                    go_simp
                    refine hK.out _ _ (fun _ => HPA.out) (fun hHeld => ?_)
                    try simp only [Act.put, List.setIfInBounds_toArray, List.set_cons_zero, List.set_cons_succ]
                    clear hK K hHeld
                    refine AnyU.next (js := [12]) (by kernel_rfl) (by simp) (NextU.cons rfl (fun K hK => ?_) NextU.nil)
                    refine step_append_any rfl (.tmp 153) (.tmp 160) 55 rfl w2.heap.size 24 (.pointer none) 1 8 info24 Try.underlying55 rfl (by decide) _ prs.length (prs.map (ptrV ∘ Pr.p)) rfl HRO.out (wj.drew.alloc (.cells #[ptrV Y.p] 24)).heap.size (some ⟨wj.drew.heap.size, 0, none⟩) 1 1 [ptrV Y.p] rfl HPN.out.2 G1.out G2.out G3.out G4.out ?_
                    intro v6 W6 hown hg hat
                    have HQ := hide (HRW.out.push_o (v' := v6) (W2 := W6) (p := Y.p) (by rw [List.length_map, List.map_map]; exact hown) hg hat)
                    obtain ⟨A6, c6, rfl⟩ := own_shape hown
                    have HP6 : Hid (P W6) := hide (by
                      have hra := HEN.out.rows.at_ HJ2.out
                      rw [← HY.out] at hra
                      rw [HPE.out]
                      have hr6 : RowsW w2.heap.size wp (X false).p (X true).p (X false).q (X true).q [] [] (.slice none 0 0) (.slice none 0 0) wj → True := fun _ => trivial
                      refine ⟨cell_of_row W6 wp 4 _ _ (0, 0) HQ.out.1, ?_⟩
                      rw [HY.out]
                      have hjj : j = 0 ∨ j = 1 := by have := HJ2.out; omega
                      rcases hjj with rfl | rfl
                      · exact cell_of_row W6 wp 0 _ _ (0, 0) HQ.out.1
                      · exact cell_of_row W6 wp 1 _ _ (0, 0) HQ.out.1)
                    clear hown hg hat
                    refine hK.out _ _ (fun _ => HP6.out) (fun hHeld => ?_)
                    try simp only [Act.put, List.setIfInBounds_toArray, List.set_cons_zero, List.set_cons_succ]
                    clear hK K hHeld
                    refine AnyU.next (js := [13]) (by kernel_rfl) (by simp) (NextU.cons rfl (fun K hK => ?_) NextU.nil)
                    go_simp
                    refine hK.out _ _ (fun _ => HP6.out) (fun hHeld => ?_)
                    try simp only [Act.put, List.setIfInBounds_toArray, List.set_cons_zero, List.set_cons_succ]
                    clear hK K hHeld
                    refine AnyU.next (js := [14]) (by kernel_rfl) (by simp) (NextU.cons rfl (fun K hK => ?_) NextU.nil)
                    go_simp
                    refine hK.out _ _ (fun _ => HP6.out) (fun hHeld => ?_)
                    try simp only [Act.put, List.setIfInBounds_toArray, List.set_cons_zero, List.set_cons_succ]
                    clear hK K hHeld
                    have g4 := cell_of_row W6 wp 4 _ _ (0, 0) HQ.out.1
                    have f4 := frozen_of_row W6 wp 4 _ _ HQ.out.1
                    simp only [List.getElem?_toArray, List.getElem?_cons_zero, List.getElem?_cons_succ] at g4
                    refine AnyU.next (js := [15]) (by kernel_rfl) (by simp) (NextU.cons rfl (fun K hK => ?_) NextU.nil)
                    go_simp
                    refine hK.out _ _ (fun h => absurd h (by decide)) (fun hHeld => ?_)
                    try simp only [Act.put, List.setIfInBounds_toArray, List.set_cons_zero, List.set_cons_succ]
                    clear hK K hHeld
                    clear g4 f4
                    refine AnyU.over (by kernel_rfl) ?_ _
                    have HR7 : Hid (RowsW w2.heap.size wp (X false).p (X true).p (X false).q (X true).q (prs.map Pr.p ++ [Y.p]) (prs.map Pr.q) (.slice A6 (prs.length + 1) c6) (.slice A5 prs.length c5) (W6.setCell ⟨wp, 4, none⟩ (.slice A6 (prs.length + 1) c6))) := hide HQ.out.2.1
                    have HBd : Hid (Below wj.heap.size wj (wj.drew.alloc (.cells #[ptrV Y.p] 24))) := hide (((Below.refl _ wj).drew).trans HPN.out.1)
                    have HC7 : Hid ((∀ b, PrW w2.heap.size 1000 (X b) (W6.setCell ⟨wp, 4, none⟩ (.slice A6 (prs.length + 1) c6))) ∧ (∀ Z ∈ prs, PrW w2.heap.size 1000 Z (W6.setCell ⟨wp, 4, none⟩ (.slice A6 (prs.length + 1) c6)))) := hide ⟨fun b => ((HEN.out.cur b).below HBd.out).only HQ.out.2.2.1 (fun i hi ho => (HEN.out.own i ho).1 b hi), fun Z hZ => ((HEN.out.each Z hZ).below HBd.out).only HQ.out.2.2.1 (fun i hi ho => (HEN.out.own i ho).2 Z hZ hi)⟩
                    have HO7 : Hid (∀ i, OwW wp (.slice A6 (prs.length + 1) c6) (.slice A5 prs.length c5) i → (∀ b, ¬ (X b).All i) ∧ ∀ Z ∈ prs, ¬ Z.All i) := hide (fun i hi => by
                      rcases HQ.out.2.2.2 i hi with e | e
                      · exact HEN.out.own i e
                      · have hz : wj.heap.size ≤ (wj.drew.alloc (.cells #[ptrV Y.p] 24)).heap.size := HBd.out.size
                        exact ⟨fun b hA => by have := (HEN.out.cur b).lt i hA; omega, fun Z hZ hA => by have := (HEN.out.each Z hZ).lt i hA; omega⟩)
                    have HB7 : Hid (Below w.heap.size w (W6.setCell ⟨wp, 4, none⟩ (.slice A6 (prs.length + 1) c6))) := hide (HBK.out.trans ((HBd.out.mono HBK.out.size).trans ((HQ.out.2.2.1.below G4.out (fun i hi => (HEN.out.rows.lt i hi).1)).mono HB2.out.size)))
                    have HZ7 : Hid (w2.heap.size ≤ (W6.setCell ⟨wp, 4, none⟩ (.slice A6 (prs.length + 1) c6)).heap.size) := hide (Nat.le_trans G4.out HQ.out.2.2.1.size)
                    clear HQ HPN HRO HRW HP6 HPA HPE hP hP0 HBd cR
                    generalize W6.setCell ⟨wp, 4, none⟩ (.slice A6 (prs.length + 1) c6) = w7 at *
                    have hat := HR7.out.at_ HJ2.out
                    rw [← HY.out] at hat
                    obtain ⟨_, cR⟩ := hat
                    simp only [ptrV] at cR
                    have w5 : w7.cell? ⟨wp, 5, none⟩ = some (.slice A5 prs.length c5) := cell_of_row w7 wp 5 _ _ (0, 0) HR7.out.blk
                    have hrq := HR7.out.rq
                    rw [List.length_map, List.map_map] at hrq
                    have HPN := hide (ptr_new w7.drew Y.q 38)
                    have HRQ := hide (own_below (w := w7.drew) hrq HPN.out.1 (Nat.le_refl _))
                    have HRW := hide ((HR7.out.below ((Below.refl _ w7).drew)).below HPN.out.1)
                    have K1 : Hid (∀ u ∈ [ptrV Y.q], u.oneCell' = true) := hide (ptr_one _)
                    have K4 : Hid (w2.heap.size ≤ (w7.drew.alloc (.cells #[ptrV Y.q] 38)).heap.size) := hide (Nat.le_trans HZ7.out HPN.out.1.size)
                    obtain ⟨P, hP⟩ : ∃ P : World → Prop, P = fun W => W.cell? ⟨wp, 5, none⟩ = some (.slice A5 prs.length c5) ∧ W.cell? ⟨wp, 2 + j, none⟩ = some (.pointer (some ⟨Y.q, 0, none⟩)) := ⟨_, rfl⟩
                    have hP0 : P w7.drew := by rw [hP]; exact ⟨w5, cR⟩
                    have HPA := hide (show P (w7.drew.alloc (.cells #[ptrV Y.q] 38)) from by rw [hP]; exact ⟨(HPN.out.1.cell (lt_of_cell w5)).trans w5, (HPN.out.1.cell (lt_of_cell cR)).trans cR⟩)
                    have HPE := hide hP
                    clear hrq w5 cR
                    go_wp2_with fail
                    refine wp_region_U 15 P (by kernel_rfl) hP0 (fun hHeld => ?_)
                    refine AnyU.take (i := 0) (v := ?v5101) rfl (by kernel_rfl) (by kernel_rfl) (by kernel_rfl) (by kernel_rfl) (fun _ _ _ h => h) (Or.inl ⟨by rfl, ?hy5101⟩) hHeld ?r5101
                    case hy5101 => (intro w hSw; (try dsimp only at hSw); rw [hP] at hSw; obtain ⟨z0, z1⟩ := hSw; go_simp <;> with_reducible rfl)
                    simp only [Act.put, List.setIfInBounds_toArray, List.set_cons_zero, List.set_cons_succ]
                    refine AnyU.take (i := 1) (v := ?v5102) rfl (by kernel_rfl) (by kernel_rfl) (by kernel_rfl) (by kernel_rfl) (fun _ _ _ h => h) (Or.inl ⟨by rfl, ?hy5102⟩) hHeld ?r5102
                    case hy5102 => (intro w hSw; (try dsimp only at hSw); rw [hP] at hSw; obtain ⟨z0, z1⟩ := hSw; go_simp <;> with_reducible rfl)
                    simp only [Act.put, List.setIfInBounds_toArray, List.set_cons_zero, List.set_cons_succ]
                    refine AnyU.take (i := 2) (v := ?v5103) rfl (by kernel_rfl) (by kernel_rfl) (by kernel_rfl) (by kernel_rfl) (fun _ _ _ h => h) (Or.inl ⟨by rfl, ?hy5103⟩) hHeld ?r5103
                    case hy5103 => (intro w hSw; (try dsimp only at hSw); rw [hP] at hSw; obtain ⟨z0, z1⟩ := hSw; go_simp <;> with_reducible rfl)
                    simp only [Act.put, List.setIfInBounds_toArray, List.set_cons_zero, List.set_cons_succ]
                    refine AnyU.take (i := 3) (v := ?v5104) rfl (by kernel_rfl) (by kernel_rfl) (by kernel_rfl) (by kernel_rfl) (fun _ _ _ h => h) (Or.inl ⟨by rfl, ?hy5104⟩) hHeld ?r5104
                    case hy5104 => (intro w hSw; (try dsimp only at hSw); rw [hP] at hSw; obtain ⟨z0, z1⟩ := hSw; go_simp <;> with_reducible rfl)
                    simp only [Act.put, List.setIfInBounds_toArray, List.set_cons_zero, List.set_cons_succ]
                    refine AnyU.take (i := 4) (v := ?v5105) rfl (by kernel_rfl) (by kernel_rfl) (by kernel_rfl) (by kernel_rfl) (fun _ _ _ h => h) (Or.inl ⟨by rfl, ?hy5105⟩) hHeld ?r5105
                    case hy5105 => (intro w hSw; (try dsimp only at hSw); rw [hP] at hSw; obtain ⟨z0, z1⟩ := hSw; go_simp <;> with_reducible rfl)
                    simp only [Act.put, List.setIfInBounds_toArray, List.set_cons_zero, List.set_cons_succ]
                    refine AnyU.take (i := 5) (v := ?v5106) rfl (by kernel_rfl) (by kernel_rfl) (by kernel_rfl) (by kernel_rfl) (fun _ _ _ h => h) (Or.inl ⟨by rfl, ?hy5106⟩) hHeld ?r5106
                    case hy5106 => (intro w hSw; (try dsimp only at hSw); rw [hP] at hSw; obtain ⟨z0, z1⟩ := hSw; go_simp <;> with_reducible rfl)
                    simp only [Act.put, List.setIfInBounds_toArray, List.set_cons_zero, List.set_cons_succ]
                    refine AnyU.take (i := 6) (v := ?v5107) rfl (by kernel_rfl) (by kernel_rfl) (by kernel_rfl) (by kernel_rfl) (fun _ _ _ h => h) (Or.inl ⟨by rfl, ?hy5107⟩) hHeld ?r5107
                    case hy5107 => (intro w hSw; (try dsimp only at hSw); rw [hP] at hSw; obtain ⟨z0, z1⟩ := hSw; go_simp <;> with_reducible rfl)
                    simp only [Act.put, List.setIfInBounds_toArray, List.set_cons_zero, List.set_cons_succ]
                    refine AnyU.take (i := 7) (v := ?v5108) rfl (by kernel_rfl) (by kernel_rfl) (by kernel_rfl) (by kernel_rfl) (fun _ _ _ h => h) (Or.inl ⟨by rfl, ?hy5108⟩) hHeld ?r5108
                    case hy5108 => (intro w hSw; (try dsimp only at hSw); rw [hP] at hSw; obtain ⟨z0, z1⟩ := hSw; go_simp <;> with_reducible rfl)
                    simp only [Act.put, List.setIfInBounds_toArray, List.set_cons_zero, List.set_cons_succ]
                    refine AnyU.take (i := 8) (v := ?v5109) rfl (by kernel_rfl) (by kernel_rfl) (by kernel_rfl) (by kernel_rfl) (fun _ _ _ h => h) (Or.inl ⟨by rfl, ?hy5109⟩) hHeld ?r5109
                    case hy5109 => (intro w hSw; (try dsimp only at hSw); rw [hP] at hSw; obtain ⟨z0, z1⟩ := hSw; go_simp <;> with_reducible rfl)
                    simp only [Act.put, List.setIfInBounds_toArray, List.set_cons_zero, List.set_cons_succ]
                    refine AnyU.take (i := 9) (v := ?v5110) rfl (by kernel_rfl) (by kernel_rfl) (by kernel_rfl) (by kernel_rfl) (fun _ _ _ h => h) (Or.inl ⟨by rfl, ?hy5110⟩) hHeld ?r5110
                    case hy5110 => (intro w hSw; (try dsimp only at hSw); rw [hP] at hSw; obtain ⟨z0, z1⟩ := hSw; go_simp <;> with_reducible rfl)
                    simp only [Act.put, List.setIfInBounds_toArray, List.set_cons_zero, List.set_cons_succ]
                    refine AnyU.take (i := 10) (v := ?v5111) rfl (by kernel_rfl) (by kernel_rfl) (by kernel_rfl) (by kernel_rfl) (fun _ _ _ h => h) (Or.inl ⟨by rfl, ?hy5111⟩) hHeld ?r5111
                    case hy5111 => (intro w hSw; (try dsimp only at hSw); rw [hP] at hSw; obtain ⟨z0, z1⟩ := hSw; go_simp <;> with_reducible rfl)
                    simp only [Act.put, List.setIfInBounds_toArray, List.set_cons_zero, List.set_cons_succ]
                    clear hHeld
                    refine AnyU.next (js := [11]) (by kernel_rfl) (by simp) (NextU.cons rfl (fun K hK => ?_) NextU.nil)
                    go_simp
                    refine hK.out _ _ (fun _ => HPA.out) (fun hHeld => ?_)
                    try simp only [Act.put, List.setIfInBounds_toArray, List.set_cons_zero, List.set_cons_succ]
                    clear hK K hHeld
                    refine AnyU.next (js := [12]) (by kernel_rfl) (by simp) (NextU.cons rfl (fun K hK => ?_) NextU.nil)
                    refine step_append_any rfl (.tmp 168) (.tmp 175) 56 rfl w2.heap.size 38 (.pointer none) 1 8 info38 Try.underlying56 rfl (by decide) _ prs.length (prs.map (ptrV ∘ Pr.q)) rfl HRQ.out (w7.drew.alloc (.cells #[ptrV Y.q] 38)).heap.size (some ⟨w7.drew.heap.size, 0, none⟩) 1 1 [ptrV Y.q] rfl HPN.out.2 K1.out G2.out G3.out K4.out ?_
                    intro v8 W8 hown hg hat
                    have HQ := hide (HRW.out.push_q (v' := v8) (W2 := W8) (p := Y.q) (by rw [List.length_map, List.map_map]; exact hown) hg hat)
                    obtain ⟨A8, c8, rfl⟩ := own_shape hown
                    have HP8 : Hid (P W8) := hide (by
                      rw [HPE.out]
                      refine ⟨cell_of_row W8 wp 5 _ _ (0, 0) HQ.out.1, ?_⟩
                      rw [HY.out]
                      have hjj : j = 0 ∨ j = 1 := by have := HJ2.out; omega
                      rcases hjj with rfl | rfl
                      · exact cell_of_row W8 wp 2 _ _ (0, 0) HQ.out.1
                      · exact cell_of_row W8 wp 3 _ _ (0, 0) HQ.out.1)
                    clear hown hg hat
                    refine hK.out _ _ (fun _ => HP8.out) (fun hHeld => ?_)
                    try simp only [Act.put, List.setIfInBounds_toArray, List.set_cons_zero, List.set_cons_succ]
                    clear hK K hHeld
                    refine AnyU.next (js := [13]) (by kernel_rfl) (by simp) (NextU.cons rfl (fun K hK => ?_) NextU.nil)
                    go_simp
                    refine hK.out _ _ (fun _ => HP8.out) (fun hHeld => ?_)
                    try simp only [Act.put, List.setIfInBounds_toArray, List.set_cons_zero, List.set_cons_succ]
                    clear hK K hHeld
                    refine AnyU.next (js := [14]) (by kernel_rfl) (by simp) (NextU.cons rfl (fun K hK => ?_) NextU.nil)
                    go_simp
                    refine hK.out _ _ (fun _ => HP8.out) (fun hHeld => ?_)
                    try simp only [Act.put, List.setIfInBounds_toArray, List.set_cons_zero, List.set_cons_succ]
                    clear hK K hHeld
                    have g4 := cell_of_row W8 wp 5 _ _ (0, 0) HQ.out.1
                    have f4 := frozen_of_row W8 wp 5 _ _ HQ.out.1
                    simp only [List.getElem?_toArray, List.getElem?_cons_zero, List.getElem?_cons_succ] at g4
                    refine AnyU.next (js := [15]) (by kernel_rfl) (by simp) (NextU.cons rfl (fun K hK => ?_) NextU.nil)
                    go_simp
                    refine hK.out _ _ (fun h => absurd h (by decide)) (fun hHeld => ?_)
                    try simp only [Act.put, List.setIfInBounds_toArray, List.set_cons_zero, List.set_cons_succ]
                    clear hK K hHeld
                    clear g4 f4
                    refine AnyU.over (by kernel_rfl) ?_ _
                    have HBd : Hid (Below w7.heap.size w7 (w7.drew.alloc (.cells #[ptrV Y.q] 38))) := hide (((Below.refl _ w7).drew).trans HPN.out.1)
                    have hall : ∀ i, OwW wp (.slice A6 (prs.length + 1) c6) (.slice A8 (prs.length + 1) c8) i → (∀ b, ¬ (X b).All i) ∧ ∀ Z ∈ prs, ¬ Z.All i := fun i hi => by
                      rcases HQ.out.2.2.2 i hi with e | e
                      · exact HO7.out i e
                      · have hz : w7.heap.size ≤ (w7.drew.alloc (.cells #[ptrV Y.q] 38)).heap.size := HBd.out.size
                        exact ⟨fun b hA => by have := (HC7.out.1 b).lt i hA; omega, fun Z hZ hA => by have := (HC7.out.2 Z hZ).lt i hA; omega⟩
                    have HE9 : Hid (EndW w2.heap.size 1000 wp X (prs ++ [Y]) (.slice A6 (prs.length + 1) c6) (.slice A8 (prs.length + 1) c8) (W8.setCell ⟨wp, 5, none⟩ (.slice A8 (prs.length + 1) c8))) := hide (by
                      have hc : ∀ b, PrW w2.heap.size 1000 (X b) (W8.setCell ⟨wp, 5, none⟩ (.slice A8 (prs.length + 1) c8)) := fun b => ((HC7.out.1 b).below HBd.out).only HQ.out.2.2.1 (fun i hi ho => (HO7.out i ho).1 b hi)
                      refine ⟨?_, hc, fun Z hZ => ?_, fun i hi => ⟨(hall i hi).1, fun Z hZ => ?_⟩⟩
                      · rw [List.map_append, List.map_append]
                        exact HQ.out.2.1
                      · rcases List.mem_append.1 hZ with hZ | hZ
                        · exact ((HC7.out.2 Z hZ).below HBd.out).only HQ.out.2.2.1 (fun i hi ho => (HO7.out i ho).2 Z hZ hi)
                        · obtain rfl := List.mem_singleton.1 hZ
                          rw [HY.out]; exact hc _
                      · rcases List.mem_append.1 hZ with hZ | hZ
                        · exact (hall i hi).2 Z hZ
                        · obtain rfl := List.mem_singleton.1 hZ
                          rw [HY.out]; exact (hall i hi).1 _)
                    have HB9 : Hid (Below w.heap.size w (W8.setCell ⟨wp, 5, none⟩ (.slice A8 (prs.length + 1) c8))) := hide (HB7.out.trans ((HBd.out.mono HB7.out.size).trans ((HQ.out.2.2.1.below K4.out (fun i hi => (HR7.out.lt i hi).1)).mono HB2.out.size)))
                    have HZ9 : Hid (w2.heap.size ≤ (W8.setCell ⟨wp, 5, none⟩ (.slice A8 (prs.length + 1) c8)).heap.size) := hide (Nat.le_trans K4.out HQ.out.2.2.1.size)
                    clear hall HQ HPN HRQ HRW HP8 HPA HPE hP hP0 HBd
                    generalize W8.setCell ⟨wp, 5, none⟩ (.slice A8 (prs.length + 1) c8) = w9 at *
                    go_wp2_with fail
                    go_roundw
                    case rel => exact ⟨j + 1, _, _, _, HJ2.out, by go_num, HE9.out, by simp only [List.length_append, List.length_cons, List.length_nil]; have := HOS.out; omega, HZ9.out, HB9.out⟩
                    case measure => have := HJ2.out; simp [intOf]; omega
                  · have hj3 : ¬ (j : Int) < 2 := by omega
                    have HPL : Hid (prs.length ≤ 12) := hide (by have := HOS.out; have := HJ.out; omega)
                    clear hj2 HOS HJ
                    go_wp2_with fail
                    go_loopw [21] (fun iv W => ∃ i : Nat, i ≤ prs.length ∧ iv = .int .i64 i ∧ EndW w2.heap.size 1000 wp X prs (.slice A4 prs.length c4) (.slice A5 prs.length c5) W ∧ Below w.heap.size w W) (fun iv _ => prs.length - (intOf iv).toNat)
                    case atStart => exact ⟨0, Nat.zero_le _, rfl, HEN.out, HBK.out⟩
                    case round =>
                      rename World => wi
                      clear HEN HWZ HBK
                      obtain ⟨i, hi, rfl, hen, hb⟩ := hrel
                      have HI := hide hi
                      have HEN := hide hen
                      have HBK := hide hb
                      have w4 : wi.cell? ⟨wp, 4, none⟩ = some (.slice A4 prs.length c4) := cell_of_row wi wp 4 _ _ (0, 0) hen.rows.blk
                      have w5 : wi.cell? ⟨wp, 5, none⟩ = some (.slice A5 prs.length c5) := cell_of_row wi wp 5 _ _ (0, 0) hen.rows.blk
                      clear hen hb hi
                      have hi0 : (0 : Int) ≤ (i : Int) := by omega
                      by_cases hlt : i < prs.length
                      · have hil : (i : Int) < (prs.length : Int) := by omega
                        have HLT := hide hlt
                        have hi9 : (i : Int) ≤ 12 := by have := HPL.out; omega
                        obtain ⟨Y, g1, g2, cc1, cc2, hYm, e1, e2, k1, k2⟩ := HEN.out.at_ hlt
                        injection e1 with e1 _ _
                        injection e2 with e2 _ _
                        subst e1 e2
                        simp only [ptrV] at k1 k2
                        have HED := hide ((HEN.out.below ((Below.refl _ wi).drew)).each Y hYm)
                        have HTD := hide (told_any HED.out.ca HED.out.ra HED.out.da (by have := HED.out.len; omega) 0)
                        obtain ⟨P, hP⟩ : ∃ P : World → Prop, P = fun W => W.cell? ⟨wp, 4, none⟩ = some (.slice (some ⟨g1, 0, none⟩) prs.length c4) ∧ W.cell? ⟨wp, 5, none⟩ = some (.slice (some ⟨g2, 0, none⟩) prs.length c5) ∧ W.cell? ⟨g1, i, none⟩ = some (.pointer (some ⟨Y.p, 0, none⟩)) ∧ W.cell? ⟨g2, i, none⟩ = some (.pointer (some ⟨Y.q, 0, none⟩)) := ⟨_, rfl⟩
                        have hP0 : P wi.drew := by rw [hP]; exact ⟨w4, w5, k1, k2⟩
                        have HPW : Hid (∀ W, Below wi.heap.size wi W → P W) := hide (fun W hW => by rw [hP]; exact ⟨(hW.cell (lt_of_cell w4)).trans w4, (hW.cell (lt_of_cell w5)).trans w5, (hW.cell (lt_of_cell k1)).trans k1, (hW.cell (lt_of_cell k2)).trans k2⟩)
                        clear hYm hlt
                        go_wp2_with fail
                        clear w4 w5 k1 k2
                        refine wp_region_U 16 P (by kernel_rfl) hP0 (fun hHeld => ?_)
                        refine AnyU.take (i := 0) (v := ?v5201) rfl (by kernel_rfl) (by kernel_rfl) (by kernel_rfl) (by kernel_rfl) (fun _ _ _ h => h) (Or.inl ⟨by rfl, ?hy5201⟩) hHeld ?r5201
                        case hy5201 => (intro w hSw; (try dsimp only at hSw); rw [hP] at hSw; obtain ⟨z0, z1, z2, z3⟩ := hSw; go_simp <;> with_reducible rfl)
                        simp only [Act.put, List.setIfInBounds_toArray, List.set_cons_zero, List.set_cons_succ]
                        refine AnyU.take (i := 1) (v := ?v5202) rfl (by kernel_rfl) (by kernel_rfl) (by kernel_rfl) (by kernel_rfl) (fun _ _ _ h => h) (Or.inl ⟨by rfl, ?hy5202⟩) hHeld ?r5202
                        case hy5202 => (intro w hSw; (try dsimp only at hSw); rw [hP] at hSw; obtain ⟨z0, z1, z2, z3⟩ := hSw; go_simp <;> with_reducible rfl)
                        simp only [Act.put, List.setIfInBounds_toArray, List.set_cons_zero, List.set_cons_succ]
                        refine AnyU.take (i := 2) (v := ?v5203) rfl (by kernel_rfl) (by kernel_rfl) (by kernel_rfl) (by kernel_rfl) (fun _ _ _ h => h) (Or.inl ⟨by rfl, ?hy5203⟩) hHeld ?r5203
                        case hy5203 => (intro w hSw; (try dsimp only at hSw); rw [hP] at hSw; obtain ⟨z0, z1, z2, z3⟩ := hSw; go_simp <;> with_reducible rfl)
                        simp only [Act.put, List.setIfInBounds_toArray, List.set_cons_zero, List.set_cons_succ]
                        refine AnyU.take (i := 3) (v := ?v5204) rfl (by kernel_rfl) (by kernel_rfl) (by kernel_rfl) (by kernel_rfl) (fun _ _ _ h => h) (Or.inl ⟨by rfl, ?hy5204⟩) hHeld ?r5204
                        case hy5204 => (intro w hSw; (try dsimp only at hSw); rw [hP] at hSw; obtain ⟨z0, z1, z2, z3⟩ := hSw; go_simp <;> with_reducible rfl)
                        simp only [Act.put, List.setIfInBounds_toArray, List.set_cons_zero, List.set_cons_succ]
                        refine AnyU.take (i := 4) (v := ?v5205) rfl (by kernel_rfl) (by kernel_rfl) (by kernel_rfl) (by kernel_rfl) (fun _ _ _ h => h) (Or.inl ⟨by rfl, ?hy5205⟩) hHeld ?r5205
                        case hy5205 => (intro w hSw; (try dsimp only at hSw); rw [hP] at hSw; obtain ⟨z0, z1, z2, z3⟩ := hSw; go_simp <;> with_reducible rfl)
                        simp only [Act.put, List.setIfInBounds_toArray, List.set_cons_zero, List.set_cons_succ]
                        refine AnyU.take (i := 5) (v := ?v5206) rfl (by kernel_rfl) (by kernel_rfl) (by kernel_rfl) (by kernel_rfl) (fun _ _ _ h => h) (Or.inl ⟨by rfl, ?hy5206⟩) hHeld ?r5206
                        case hy5206 => (intro w hSw; (try dsimp only at hSw); rw [hP] at hSw; obtain ⟨z0, z1, z2, z3⟩ := hSw; go_simp <;> with_reducible rfl)
                        simp only [Act.put, List.setIfInBounds_toArray, List.set_cons_zero, List.set_cons_succ]
                        refine AnyU.take (i := 6) (v := ?v5207) rfl (by kernel_rfl) (by kernel_rfl) (by kernel_rfl) (by kernel_rfl) (fun _ _ _ h => h) (Or.inl ⟨by rfl, ?hy5207⟩) hHeld ?r5207
                        case hy5207 => (intro w hSw; (try dsimp only at hSw); rw [hP] at hSw; obtain ⟨z0, z1, z2, z3⟩ := hSw; go_simp <;> with_reducible rfl)
                        simp only [Act.put, List.setIfInBounds_toArray, List.set_cons_zero, List.set_cons_succ]
                        refine AnyU.take (i := 7) (v := ?v5208) rfl (by kernel_rfl) (by kernel_rfl) (by kernel_rfl) (by kernel_rfl) (fun _ _ _ h => h) (Or.inl ⟨by rfl, ?hy5208⟩) hHeld ?r5208
                        case hy5208 => (intro w hSw; (try dsimp only at hSw); rw [hP] at hSw; obtain ⟨z0, z1, z2, z3⟩ := hSw; go_simp <;> with_reducible rfl)
                        simp only [Act.put, List.setIfInBounds_toArray, List.set_cons_zero, List.set_cons_succ]
                        refine AnyU.take (i := 8) (v := ?v5209) rfl (by kernel_rfl) (by kernel_rfl) (by kernel_rfl) (by kernel_rfl) (fun _ _ _ h => h) (Or.inl ⟨by rfl, ?hy5209⟩) hHeld ?r5209
                        case hy5209 => (intro w hSw; (try dsimp only at hSw); rw [hP] at hSw; obtain ⟨z0, z1, z2, z3⟩ := hSw; go_simp <;> with_reducible rfl)
                        simp only [Act.put, List.setIfInBounds_toArray, List.set_cons_zero, List.set_cons_succ]
                        refine AnyU.take (i := 9) (v := ?v5210) rfl (by kernel_rfl) (by kernel_rfl) (by kernel_rfl) (by kernel_rfl) (fun _ _ _ h => h) (Or.inl ⟨by rfl, ?hy5210⟩) hHeld ?r5210
                        case hy5210 => (intro w hSw; (try dsimp only at hSw); rw [hP] at hSw; obtain ⟨z0, z1, z2, z3⟩ := hSw; go_simp <;> with_reducible rfl)
                        simp only [Act.put, List.setIfInBounds_toArray, List.set_cons_zero, List.set_cons_succ]
                        refine AnyU.take (i := 10) (v := ?v5211) rfl (by kernel_rfl) (by kernel_rfl) (by kernel_rfl) (by kernel_rfl) (fun _ _ _ h => h) (Or.inl ⟨by rfl, ?hy5211⟩) hHeld ?r5211
                        case hy5211 => (intro w hSw; (try dsimp only at hSw); rw [hP] at hSw; obtain ⟨z0, z1, z2, z3⟩ := hSw; go_simp <;> with_reducible rfl)
                        simp only [Act.put, List.setIfInBounds_toArray, List.set_cons_zero, List.set_cons_succ]
                        refine AnyU.take (i := 11) (v := ?v5212) rfl (by kernel_rfl) (by kernel_rfl) (by kernel_rfl) (by kernel_rfl) (fun _ _ _ h => h) (Or.inl ⟨by rfl, ?hy5212⟩) hHeld ?r5212
                        case hy5212 => (intro w hSw; (try dsimp only at hSw); rw [hP] at hSw; obtain ⟨z0, z1, z2, z3⟩ := hSw; go_simp <;> with_reducible rfl)
                        simp only [Act.put, List.setIfInBounds_toArray, List.set_cons_zero, List.set_cons_succ]
                        refine AnyU.take (i := 12) (v := ?v5213) rfl (by kernel_rfl) (by kernel_rfl) (by kernel_rfl) (by kernel_rfl) (fun _ _ _ h => h) (Or.inl ⟨by rfl, ?hy5213⟩) hHeld ?r5213
                        case hy5213 => (intro w hSw; (try dsimp only at hSw); rw [hP] at hSw; obtain ⟨z0, z1, z2, z3⟩ := hSw; go_simp <;> with_reducible rfl)
                        simp only [Act.put, List.setIfInBounds_toArray, List.set_cons_zero, List.set_cons_succ]
                        refine AnyU.take (i := 13) (v := ?v5214) rfl (by kernel_rfl) (by kernel_rfl) (by kernel_rfl) (by kernel_rfl) (fun _ _ _ h => h) (Or.inl ⟨by rfl, ?hy5214⟩) hHeld ?r5214
                        case hy5214 => (intro w hSw; (try dsimp only at hSw); rw [hP] at hSw; obtain ⟨z0, z1, z2, z3⟩ := hSw; go_simp <;> with_reducible rfl)
                        simp only [Act.put, List.setIfInBounds_toArray, List.set_cons_zero, List.set_cons_succ]
                        clear hHeld
                        refine AnyU.next (js := [14]) (by kernel_rfl) (by simp) (NextU.cons rfl (fun K hK => ?_) NextU.nil)
                        go_simp
                        refine (HTD.out).mono ?_
                        rintro _ wt ⟨rfl, hbt⟩
                        have HBT : Hid (Below wi.heap.size wi wt) := hide (((Below.refl _ wi).drew).trans hbt)
                        have HPT := hide (HPW.out wt HBT.out)
                        have HET := hide (HEN.out.below HBT.out)
                        have HBX : Hid (Below w.heap.size w wt) := hide (HBK.out.trans (HBT.out.mono HBK.out.size))
                        clear hbt
                        refine hK.out _ _ (fun _ => HPT.out) (fun hHeld => ?_)
                        try simp only [Act.put, List.setIfInBounds_toArray, List.set_cons_zero, List.set_cons_succ]
                        clear hK K
                        have hHeld := hHeld (by decide)
                        refine AnyU.take (i := 15) (v := ?v5215) rfl (by kernel_rfl) (by kernel_rfl) (by kernel_rfl) (by kernel_rfl) (fun _ _ _ h => h) (Or.inl ⟨by rfl, ?hy5215⟩) hHeld ?r5215
                        case hy5215 => (intro w hSw; (try dsimp only at hSw); rw [hP] at hSw; obtain ⟨z0, z1, z2, z3⟩ := hSw; go_simp <;> with_reducible rfl)
                        simp only [Act.put, List.setIfInBounds_toArray, List.set_cons_zero, List.set_cons_succ]
                        clear hHeld
                        refine AnyU.over (by kernel_rfl) ?_ _
                        clear hP0 hP
                        go_wp2_with fail
                        go_roundw
                        case rel => exact ⟨i + 1, HLT.out, by go_num, HET.out, HBX.out⟩
                        case measure => have := HLT.out; simp [intOf]; omega
                      · have hil : ¬ (i : Int) < (prs.length : Int) := by omega
                        clear hlt
                        go_wp2_with fail
                        refine (HKN.out wi).mono ?_
                        rintro _ wz ⟨rfl, hbz⟩
                        have HBZ : Hid (Below w.heap.size w wz) := hide (HBK.out.trans (hbz.mono HBK.out.size))
                        clear hbz
                        go_wp2_with fail
                        go_ret
                        exact ⟨rfl, HBZ.out⟩
    · have HCB := hide hcb
      clear hcb
      have HC0 : Hid (ofC now [] = 0) := hide (by rw [ofC_nil, if_neg (by rw [hN]; simp)])
      have HNT := hide hN
      clear hN
      have HNW := hide (new_any now w2)
      go_wp2_with fail
      refine (HNW.out).mono ?_
      rintro e w3 (⟨h0, _⟩ | ⟨_, p0, rfl, r0, x0, m0, v0, l0, hc0, hr0, hb3⟩)
      · exact absurd HC0.out h0
      have HB3 := hide hb3
      have HCA0 := hide hc0
      have HRE0 : Hid (RelD l0 []) := hide hr0
      clear hc0 hr0 hb3
      have HOF := hide (of_any now (some ⟨g, 0, none⟩) n cg list w3 (HDM.out.below HB3.out) (by have := HN.out; omega))
      go_wp2_with fail
      refine (HOF.out).mono ?_
      rintro e w4 (⟨_, rfl, hb4⟩ | ⟨h0, _⟩)
      case inr => exact absurd h0 HCB.out
      have HB4 := hide hb4
      clear hb4
      have HB24 : Hid (Below w2.heap.size w2 w4) := hide (HB3.out.trans (HB4.out.mono HB3.out.size))
      have HDN := hide (docNew_any now w4)
      go_wp2_with fail
      refine (HDN.out).mono ?_
      rintro e w5 (⟨h0, _⟩ | ⟨_, q0, vd0, rfl, hd0, hb5⟩)
      · exact absurd (HNT.out.symm.trans h0) (by decide)
      have HDA0 := hide hd0
      have HB5 := hide hb5
      have HB25 : Hid (Below w2.heap.size w2 w5) := hide (HB24.out.trans (hb5.mono HB24.out.size))
      clear hd0 hb5
      have HDO := hide (docOf_any now A n c list w5 (HDL.out.below HB25.out) (by have := HN.out; omega))
      go_wp2_with fail
      refine (HDO.out).mono ?_
      rintro e w6 (⟨_, rfl, hb6⟩ | ⟨h0, _⟩)
      case inr => exact absurd h0 HCB.out
      have HB56 := hide hb6
      have HB6 : Hid (Below w2.heap.size w2 w6) := hide (HB25.out.trans (hb6.mono HB25.out.size))
      have hcc : (ofC now list != ofC now list) = false := by simp
      generalize ofC now list = cc at *
      clear hb6
      have HSA := hide (same_any (some ⟨g, 0, none⟩) cg list A c list w6 (by have h1 := (HDM.out.below HB6.out).rd; rw [← HD.out.len] at h1; exact h1) (by have h1 := (HDL.out.below HB6.out).rd; rw [← HD.out.len] at h1; exact h1) (by have := HD.out.len; have := HN.out; omega))
      rw [HLEN.out] at HSA
      have hdl : decide (list = list) = true := by simp
      go_wp2_with fail
      refine (HSA.out).mono ?_
      rintro _ w7 ⟨rfl, hb7⟩
      have HB67 := hide hb7
      have HB7 : Hid (Below w2.heap.size w2 w7) := hide (HB6.out.trans (hb7.mono HB6.out.size))
      have HM7 := hide (HM2.out.below HB7.out)
      have e42 := (HB7.out.cell (p := ⟨g, n * 2 + 1, none⟩) HG.out.1).trans H42.out
      clear hb7
      obtain ⟨X0, hX0⟩ : ∃ X0 : Pr, X0 = ⟨p0, r0, x0, m0, q0, v0, vd0, now, l0, []⟩ := ⟨_, rfl⟩
      have HPR : Hid (PrW w2.heap.size 100 X0 w7) := hide (by
        rw [hX0]
        refine ⟨CalF.below (CalF.below (CalF.below (CalF.below HCA0.out HB4.out) HB5.out) HB56.out) HB67.out, HRE0.out, ((HDA0.out.below HB56.out).below HB67.out).lower HB24.out.size, HNT.out, (fun d hd => by cases hd), by simp⟩)
      have HSEP : Hid ((∀ k, X0.Cl k → k < w3.heap.size) ∧ (∀ k, (k = X0.q ∨ X0.vd.ownBlock = some k) → w4.heap.size ≤ k)) := hide (by
        rw [hX0]
        refine ⟨fun k hk => CalF.lt HCA0.out k hk, fun k hk => ?_⟩
        rcases hk with hk | hk
        · rw [hk]; exact HDA0.out.base
        · exact (HDA0.out.row.at_ k hk).1)
      have HX0 := hide hX0
      go_wp2_with fail
      go_loopw [16] (fun iv wr => ∃ k : Nat, k ≤ n ∧ iv = .int .i64 k ∧ RowM w g n cg wr ∧ w7.heap.size ≤ wr.heap.size ∧ PrW w2.heap.size 100 X0 wr) (fun iv _ => n - (intOf iv).toNat)
      case atStart => exact ⟨0, Nat.zero_le _, rfl, HM7.out, Nat.le_refl _, HPR.out⟩
      case round =>
        obtain ⟨k, hk, rfl, hm, hwr, hpf⟩ := hrel
        have HMR := hide hm
        have HWR := hide hwr
        have HPR := hide hpf
        clear hm hpf hwr e42
        by_cases hlt : k < n
        · obtain ⟨u1, u2, z0, z1, z2, z3⟩ := HMR.out.at_ hlt
          have hki : (k : Int) < (n : Int) := by omega
          have hk0 : (0 : Int) ≤ (k : Int) := by omega
          have HM9 := hide ((HMR.out.set1 (k * 2) (.int .i64 0)).set1 (k * 2 + 1) (.int .i64 7))
          have HP9 : Hid (PrW w2.heap.size 100 X0 ((wr.setCell ⟨g, k * 2, none⟩ (.int .i64 0)).setCell ⟨g, k * 2 + 1, none⟩ (.int .i64 7))) := hide ((HPR.out.only (T := fun i => i = g) (Only.set (S := fun i => i = g) (Only.refl _ _) ⟨g, k * 2, none⟩ rfl _) (fun i hi e => by have := HPR.out.ge i hi; have := HG.out.1; omega)).only (T := fun i => i = g) (Only.set (S := fun i => i = g) (Only.refl _ _) ⟨g, k * 2 + 1, none⟩ rfl _) (fun i hi e => by have := HPR.out.ge i hi; have := HG.out.1; omega))
          go_wp2_with fail
          go_roundw
          case rel => exact ⟨k + 1, by omega, by go_num, HM9.out, by simpa [World.setCell] using HWR.out, HP9.out⟩
          case measure => simp [intOf]; omega
        · have hki : ¬ (k : Int) < (n : Int) := by omega
          have HCP := hide (copy_any HPR.out.ca HPR.out.ra HPR.out.tick HPR.out.low (by have := HPR.out.len; omega))
          rw [HX0.out] at HCP
          simp only at HCP
          go_wp2_with fail
          refine (HCP.out).mono ?_
          rintro _ w8 ⟨p1, rfl, r1, x1, m1, v1, l1, hc1, hr1, hb8⟩
          have HB8 := hide hb8
          have HCA1 := hide hc1
          have HRE1 := hide hr1
          have HPR8 := hide (HPR.out.below hb8)
          have HDC := hide (docCopy_any HPR8.out.da (Nat.le_trans HB7.out.size (Nat.le_trans HWR.out hb8.size)))
          rw [HX0.out] at HDC
          simp only at HDC
          clear hc1 hr1 hb8
          go_wp2_with fail
          refine (HDC.out).mono ?_
          rintro _ w9 ⟨q1, rfl, hd9, hb9, hq9⟩
          have HB9 : Hid (Below wr.heap.size wr w9) := hide (HB8.out.trans (hb9.mono HB8.out.size))
          have HBW : Hid (Below w.heap.size w w9) := hide (HMR.out.bel.trans (HB9.out.mono HMR.out.bel.size))
          obtain ⟨X, hX⟩ : ∃ X : Bool → Pr, X = fun b => cond b (⟨p1, r1, x1, m1, q1, v1, X0.vd, now, l1, []⟩ : Pr) X0 := ⟨_, rfl⟩
          have HPR9 : Hid (PrsW w2.heap.size 100 X [] w9) := hide (by
            rw [hX]
            have hz := HWR.out
            have hz7 := HB7.out.size
            have hp9 := HPR8.out.below hb9
            have k1 := Pr.Cl.ge (X := ⟨p1, r1, x1, m1, q1, v1, X0.vd, now, l1, []⟩) HCA1.out
            have hd9' : DocW w9 w2.heap.size q1 now X0.vd [] := by have h := hd9; rw [HX0.out]; exact h
            have hall : ∀ k, X0.All k → k < wr.heap.size := HPR.out.lt
            have hs := HSEP.out
            have hz3 := HB3.out.size
            have hz4 := HB4.out.size
            refine PrsW.two hp9 ⟨CalF.lower (CalF.below HCA1.out hb9) (Nat.le_trans hz7 hz), HRE1.out, hd9', HNT.out, (fun d hd => by cases hd), by simp⟩ ?_ ?_ ?_ ?_ ?_ ?_
            · rintro k hk ((hj | hj) | hj)
              · have := hall k (.inl hk); have := k1 k hj; omega
              · have hj : k = q1 := hj
                have := hall k (.inl hk); have := HB8.out.size; omega
              · rcases hk with hk | hk
                · have := hs.1 k hk; have := hs.2 k (.inr hj); omega
                · exact HPR.out.da.ap k hj hk
            · rintro k (hk | hk) hj
              · have := hall k hj; have := k1 k hk; omega
              · have hk : k = q1 := hk
                have := hall k hj; have := HB8.out.size; omega
            · intro k hk e
              have := hs.1 k hk; have := hs.2 k (.inr e); omega
            · intro k hk e
              have := k1 k hk; have := hall k (.inr e); omega
            · intro hk
              have := hs.1 _ hk; have := hs.2 _ (.inl rfl); omega
            · intro hk
              have := k1 _ hk
              have hk : q1 < w8.heap.size := this.2
              omega)
          have HXE : Hid ((X false).p = p0 ∧ (X true).p = p1 ∧ (X false).q = q0 ∧ (X true).q = q1) := hide (by rw [hX, HX0.out]; exact ⟨rfl, rfl, rfl, rfl⟩)
          clear hX hd9 hb9 hq9
          have HPRX := HPR9
          have HZW : Hid (w2.heap.size ≤ w9.heap.size) := hide (Nat.le_trans HB7.out.size (Nat.le_trans HWR.out HB9.out.size))
          have HBB : Hid (Below w9.heap.size w9 (w9.alloc (.cells #[.pointer (some ⟨p0, 0, none⟩), .pointer (some ⟨p1, 0, none⟩), .pointer (some ⟨q0, 0, none⟩), .pointer (some ⟨q1, 0, none⟩), .slice none 0 0, .slice none 0 0] 58))) := hide ((Below.refl _ _).alloc (Nat.le_refl _) _)
          have HST : Hid (StW w2.heap.size 100 w9.heap.size X [] (.slice none 0 0) (.slice none 0 0) (w9.alloc (.cells #[.pointer (some ⟨p0, 0, none⟩), .pointer (some ⟨p1, 0, none⟩), .pointer (some ⟨q0, 0, none⟩), .pointer (some ⟨q1, 0, none⟩), .slice none 0 0, .slice none 0 0] 58))) := hide (by
            have hx := heap_alloc_new w9 (.cells #[.pointer (some ⟨p0, 0, none⟩), .pointer (some ⟨p1, 0, none⟩), .pointer (some ⟨q0, 0, none⟩), .pointer (some ⟨q1, 0, none⟩), .slice none 0 0, .slice none 0 0] 58)
            obtain ⟨e1, e2, e3, e4⟩ := HXE.out
            refine ⟨⟨?_, World.ownsRow_nil _ _ _ _, World.ownsRow_nil _ _ _ _, HZW.out⟩, HPRX.out.below HBB.out, fun k hk => ?_⟩
            · rw [e1, e2, e3, e4]; exact hx
            · rcases hk with rfl | hk | hk
              · exact ⟨fun c hA => by have := (HPRX.out.cur c).lt _ hA; omega, (fun Y hY => by cases hY)⟩
              · cases hk
              · cases hk)
          have HBWb : Hid (Below w.heap.size w (w9.alloc (.cells #[.pointer (some ⟨p0, 0, none⟩), .pointer (some ⟨p1, 0, none⟩), .pointer (some ⟨q0, 0, none⟩), .pointer (some ⟨q1, 0, none⟩), .slice none 0 0, .slice none 0 0] 58))) := hide (HBW.out.trans (HBB.out.mono HBW.out.size))
          have HWP : Hid (w2.heap.size ≤ (w9.alloc (.cells #[.pointer (some ⟨p0, 0, none⟩), .pointer (some ⟨p1, 0, none⟩), .pointer (some ⟨q0, 0, none⟩), .pointer (some ⟨q1, 0, none⟩), .slice none 0 0, .slice none 0 0] 58)).heap.size) := hide (Nat.le_trans HZW.out HBB.out.size)
          clear HM7 HPR HPRX HB7 HXE HZW
          go_wp2_with fail
          generalize w9.alloc (.cells #[.pointer (some ⟨p0, 0, none⟩), .pointer (some ⟨p1, 0, none⟩), .pointer (some ⟨q0, 0, none⟩), .pointer (some ⟨q1, 0, none⟩), .slice none 0 0, .slice none 0 0] 58) = wb at *
          generalize w9.heap.size = wp at *
          go_loopw [18] (fun iv W => ∃ (k : Nat) (X : Bool → Pr) (os : List Pr) (vo vw : Value), k ≤ 150 ∧ iv = .int .i64 k ∧ StW w2.heap.size (100 + k) wp X os vo vw W ∧ os.length ≤ 10 ∧ w2.heap.size ≤ W.heap.size ∧ Below w.heap.size w W) (fun iv _ => 150 - (intOf iv).toNat)
          case atStart => exact ⟨0, X, [], _, _, Nat.zero_le _, rfl, HST.out, by simp, HWP.out, HBWb.out⟩
          case round =>
            rename World => wk
            clear HST HWP HBWb HBB HBW
            obtain ⟨k, X, os, vo, vw, hk, rfl, hst, hos, hwz, hb⟩ := hrel
            have HK := hide hk
            have HST := hide hst
            have HOS := hide hos
            have HWZ := hide hwz
            have HBK := hide hb
            clear hst hos hwz hb hk
            have hk0 : (0 : Int) ≤ (k : Int) := by omega
            have hk9 : (k : Int) ≤ 150 := by have := HK.out; omega
            go_upto_region 22 with fail
            go_cut [134] from 127 to 134 (fun z wx => z = .bool (decide (k < n3 ∧ k < 150)) ∧ wk = wx)
            case first =>
              by_cases h1 : k < n3
              · have h1' : (k : Int) < (n3 : Int) := by omega
                by_cases h2 : k < 150
                · have h2' : (k : Int) < 150 := by omega
                  have HDC := hide (decide_eq_true (p := k < n3 ∧ k < 150) ⟨h1, h2⟩)
                  clear h1 h2
                  go_wp2_with fail
                  go_meet
                  exact ⟨congrArg Value.bool HDC.out.symm, rfl⟩
                · have h2' : ¬ (k : Int) < 150 := by omega
                  have HDC := hide (decide_eq_false (p := k < n3 ∧ k < 150) (fun h => h2 h.2))
                  clear h1 h2
                  go_wp2_with fail
                  go_meet
                  exact ⟨congrArg Value.bool HDC.out.symm, rfl⟩
              · have h1' : ¬ (k : Int) < (n3 : Int) := by omega
                have HDC := hide (decide_eq_false (p := k < n3 ∧ k < 150) (fun h => h1 h.1))
                clear h1
                go_wp2_with fail
                go_meet
                exact ⟨congrArg Value.bool HDC.out.symm, rfl⟩
            case rest =>
              obtain ⟨rfl, rfl⟩ := hcut
              by_cases hlt : k < n3 ∧ k < 150
              · have hd : decide (k < n3 ∧ k < 150) = true := decide_eq_true hlt
                rw [hd]
                have h1' : (k : Int) < (n3 : Int) := by omega
                have HLT := hide hlt.2
                obtain ⟨g3, o3, a, b, cN, d, rfl, hg3, s0, s1, s2, s3, hcb⟩ := H3.out.at_ k hlt.1
                have t0 := (HBK.out.cell (p := ⟨g3, o3 + k * 4, none⟩) hg3).trans s0
                have t1 := (HBK.out.cell (p := ⟨g3, o3 + k * 4 + 1, none⟩) hg3).trans s1
                have t2 := (HBK.out.cell (p := ⟨g3, o3 + k * 4 + 2, none⟩) hg3).trans s2
                have t3 := (HBK.out.cell (p := ⟨g3, o3 + k * 4 + 3, none⟩) hg3).trans s3
                have HSTEP : Hid (Calls Try.prog 21 #[.pointer (some ⟨wp, 0, none⟩), .agg #[.int .i64 a, .int .i64 b, .int .i64 cN, .int .i64 d]] wk (StepP w2.heap.size (100 + k) wp 0 wk)) := hide (step_any HST.out (by have := HK.out; omega) HOS.out HWZ.out a b cN d hcb)
                clear hd hlt s0 s1 s2 s3 hcb hg3
                go_wp2_with fail
                refine (HSTEP.out).mono ?_
                rintro _ ws ⟨rfl, X2, os2, vo2, vw2, hst2, hos2, _, hbs⟩
                have HS2 : Hid (StW w2.heap.size (100 + (k + 1)) wp X2 os2 vo2 vw2 ws) := hide hst2
                have HO2 := hide hos2
                have HZ2 : Hid (w2.heap.size ≤ ws.heap.size) := hide (Nat.le_trans HWZ.out hbs.size)
                have HB2s : Hid (Below w.heap.size w ws) := hide (HBK.out.trans (hbs.mono HB2.out.size))
                clear hst2 hos2 hbs t0 t1 t2 t3
                go_wp2_with fail
                go_roundw
                case rel => exact ⟨k + 1, X2, os2, vo2, vw2, HLT.out, by go_num, HS2.out, HO2.out, HZ2.out, HB2s.out⟩
                case measure => have := HLT.out; simp [intOf]; omega
              · have hd : decide (k < n3 ∧ k < 150) = false := decide_eq_false hlt
                rw [hd]
                have HEN := hide (HST.out.more (M' := 1000) (by have := HK.out; omega)).end_
                clear hd hlt HST HK
                go_wp2_with fail
                go_loopw [20] (fun iv W => ∃ (j : Nat) (prs : List Pr) (vo vw : Value), j ≤ 2 ∧ iv = .int .i64 j ∧ EndW w2.heap.size 1000 wp X prs vo vw W ∧ prs.length ≤ 10 + j ∧ w2.heap.size ≤ W.heap.size ∧ Below w.heap.size w W) (fun iv _ => 2 - (intOf iv).toNat)
                case atStart => exact ⟨0, os, vo, vw, Nat.zero_le _, rfl, HEN.out, HOS.out, HWZ.out, HBK.out⟩
                case round =>
                  rename World => wj
                  clear HEN HWZ HBK HOS
                  obtain ⟨j, prs, vo, vw, hj, rfl, hen, hos, hwz, hb⟩ := hrel
                  have HJ := hide hj
                  have HEN := hide hen
                  have HOS := hide hos
                  have HWZ := hide hwz
                  have HBK := hide hb
                  obtain ⟨A4, c4, hvo⟩ := own_shape hen.rows.ro
                  rw [List.length_map] at hvo
                  subst hvo
                  obtain ⟨A5, c5, hvw⟩ := own_shape hen.rows.rq
                  rw [List.length_map] at hvw
                  subst hvw
                  clear hen hos hwz hb hj
                  by_cases hj2 : j < 2
                  · have hj3 : (j : Int) < 2 := by omega
                    have hj0 : (0 : Int) ≤ (j : Int) := by omega
                    have HJ2 := hide hj2
                    obtain ⟨Y, hY⟩ : ∃ Y, Y = X (decide (j = 1)) := ⟨_, rfl⟩
                    have HY := hide hY
                    have hat := HEN.out.rows.at_ hj2
                    rw [← hY] at hat
                    obtain ⟨cT, cR⟩ := hat
                    simp only [ptrV] at cT cR
                    have w4 : wj.cell? ⟨wp, 4, none⟩ = some (.slice A4 prs.length c4) := cell_of_row wj wp 4 _ _ (0, 0) HEN.out.rows.blk
                    have hro := HEN.out.rows.ro
                    rw [List.length_map, List.map_map] at hro
                    have HPN := hide (ptr_new wj.drew Y.p 24)
                    have HRO := hide (own_below (w := wj.drew) hro HPN.out.1 (Nat.le_refl _))
                    have HRW := hide (RowsW.below (W := wj.drew) (HEN.out.below ((Below.refl _ wj).drew)).rows HPN.out.1)
                    have G1 : Hid (∀ u ∈ [ptrV Y.p], u.oneCell' = true) := hide (ptr_one _)
                    have G2 : Hid (prs.length + 1 ≤ maxLen) := hide (by unfold maxLen; have := HOS.out; omega)
                    have G3 : Hid ((prs.length + 1) * 8 ≤ 140737488355328) := hide (by have := HOS.out; omega)
                    have G4 : Hid (w2.heap.size ≤ (wj.drew.alloc (.cells #[ptrV Y.p] 24)).heap.size) := hide (Nat.le_trans HWZ.out HPN.out.1.size)
                    obtain ⟨P, hP⟩ : ∃ P : World → Prop, P = fun W => W.cell? ⟨wp, 4, none⟩ = some (.slice A4 prs.length c4) ∧ W.cell? ⟨wp, j, none⟩ = some (.pointer (some ⟨Y.p, 0, none⟩)) := ⟨_, rfl⟩
                    have hP0 : P wj.drew := by rw [hP]; exact ⟨w4, cT⟩
                    have HPA := hide (show P (wj.drew.alloc (.cells #[ptrV Y.p] 24)) from by rw [hP]; exact ⟨(HPN.out.1.cell (lt_of_cell w4)).trans w4, (HPN.out.1.cell (lt_of_cell cT)).trans cT⟩)
                    have HPE := hide hP
                    clear hro w4 cT hY
                    go_wp2_with fail
                    refine wp_region_U 15 P (by kernel_rfl) hP0 (fun hHeld => ?_)
                    refine AnyU.take (i := 0) (v := ?v3001) rfl (by kernel_rfl) (by kernel_rfl) (by kernel_rfl) (by kernel_rfl) (fun _ _ _ h => h) (Or.inl ⟨by rfl, ?hy3001⟩) hHeld ?r3001
                    case hy3001 => (intro w hSw; (try dsimp only at hSw); rw [hP] at hSw; obtain ⟨z0, z1⟩ := hSw; go_simp <;> with_reducible rfl)
                    simp only [Act.put, List.setIfInBounds_toArray, List.set_cons_zero, List.set_cons_succ]
                    refine AnyU.take (i := 1) (v := ?v3002) rfl (by kernel_rfl) (by kernel_rfl) (by kernel_rfl) (by kernel_rfl) (fun _ _ _ h => h) (Or.inl ⟨by rfl, ?hy3002⟩) hHeld ?r3002
                    case hy3002 => (intro w hSw; (try dsimp only at hSw); rw [hP] at hSw; obtain ⟨z0, z1⟩ := hSw; go_simp <;> with_reducible rfl)
                    simp only [Act.put, List.setIfInBounds_toArray, List.set_cons_zero, List.set_cons_succ]
                    refine AnyU.take (i := 2) (v := ?v3003) rfl (by kernel_rfl) (by kernel_rfl) (by kernel_rfl) (by kernel_rfl) (fun _ _ _ h => h) (Or.inl ⟨by rfl, ?hy3003⟩) hHeld ?r3003
                    case hy3003 => (intro w hSw; (try dsimp only at hSw); rw [hP] at hSw; obtain ⟨z0, z1⟩ := hSw; go_simp <;> with_reducible rfl)
                    simp only [Act.put, List.setIfInBounds_toArray, List.set_cons_zero, List.set_cons_succ]
                    refine AnyU.take (i := 3) (v := ?v3004) rfl (by kernel_rfl) (by kernel_rfl) (by kernel_rfl) (by kernel_rfl) (fun _ _ _ h => h) (Or.inl ⟨by rfl, ?hy3004⟩) hHeld ?r3004
                    case hy3004 => (intro w hSw; (try dsimp only at hSw); rw [hP] at hSw; obtain ⟨z0, z1⟩ := hSw; go_simp <;> with_reducible rfl)
                    simp only [Act.put, List.setIfInBounds_toArray, List.set_cons_zero, List.set_cons_succ]
                    refine AnyU.take (i := 4) (v := ?v3005) rfl (by kernel_rfl) (by kernel_rfl) (by kernel_rfl) (by kernel_rfl) (fun _ _ _ h => h) (Or.inl ⟨by rfl, ?hy3005⟩) hHeld ?r3005
                    case hy3005 => (intro w hSw; (try dsimp only at hSw); rw [hP] at hSw; obtain ⟨z0, z1⟩ := hSw; go_simp <;> with_reducible rfl)
                    simp only [Act.put, List.setIfInBounds_toArray, List.set_cons_zero, List.set_cons_succ]
                    refine AnyU.take (i := 5) (v := ?v3006) rfl (by kernel_rfl) (by kernel_rfl) (by kernel_rfl) (by kernel_rfl) (fun _ _ _ h => h) (Or.inl ⟨by rfl, ?hy3006⟩) hHeld ?r3006
                    case hy3006 => (intro w hSw; (try dsimp only at hSw); rw [hP] at hSw; obtain ⟨z0, z1⟩ := hSw; go_simp <;> with_reducible rfl)
                    simp only [Act.put, List.setIfInBounds_toArray, List.set_cons_zero, List.set_cons_succ]
                    refine AnyU.take (i := 6) (v := ?v3007) rfl (by kernel_rfl) (by kernel_rfl) (by kernel_rfl) (by kernel_rfl) (fun _ _ _ h => h) (Or.inl ⟨by rfl, ?hy3007⟩) hHeld ?r3007
                    case hy3007 => (intro w hSw; (try dsimp only at hSw); rw [hP] at hSw; obtain ⟨z0, z1⟩ := hSw; go_simp <;> with_reducible rfl)
                    simp only [Act.put, List.setIfInBounds_toArray, List.set_cons_zero, List.set_cons_succ]
                    refine AnyU.take (i := 7) (v := ?v3008) rfl (by kernel_rfl) (by kernel_rfl) (by kernel_rfl) (by kernel_rfl) (fun _ _ _ h => h) (Or.inl ⟨by rfl, ?hy3008⟩) hHeld ?r3008
                    case hy3008 => (intro w hSw; (try dsimp only at hSw); rw [hP] at hSw; obtain ⟨z0, z1⟩ := hSw; go_simp <;> with_reducible rfl)
                    simp only [Act.put, List.setIfInBounds_toArray, List.set_cons_zero, List.set_cons_succ]
                    refine AnyU.take (i := 8) (v := ?v3009) rfl (by kernel_rfl) (by kernel_rfl) (by kernel_rfl) (by kernel_rfl) (fun _ _ _ h => h) (Or.inl ⟨by rfl, ?hy3009⟩) hHeld ?r3009
                    case hy3009 => (intro w hSw; (try dsimp only at hSw); rw [hP] at hSw; obtain ⟨z0, z1⟩ := hSw; go_simp <;> with_reducible rfl)
                    simp only [Act.put, List.setIfInBounds_toArray, List.set_cons_zero, List.set_cons_succ]
                    refine AnyU.take (i := 9) (v := ?v3010) rfl (by kernel_rfl) (by kernel_rfl) (by kernel_rfl) (by kernel_rfl) (fun _ _ _ h => h) (Or.inl ⟨by rfl, ?hy3010⟩) hHeld ?r3010
                    case hy3010 => (intro w hSw; (try dsimp only at hSw); rw [hP] at hSw; obtain ⟨z0, z1⟩ := hSw; go_simp <;> with_reducible rfl)
                    simp only [Act.put, List.setIfInBounds_toArray, List.set_cons_zero, List.set_cons_succ]
                    refine AnyU.take (i := 10) (v := ?v3011) rfl (by kernel_rfl) (by kernel_rfl) (by kernel_rfl) (by kernel_rfl) (fun _ _ _ h => h) (Or.inl ⟨by rfl, ?hy3011⟩) hHeld ?r3011
                    case hy3011 => (intro w hSw; (try dsimp only at hSw); rw [hP] at hSw; obtain ⟨z0, z1⟩ := hSw; go_simp <;> with_reducible rfl)
                    simp only [Act.put, List.setIfInBounds_toArray, List.set_cons_zero, List.set_cons_succ]
                    clear hHeld
                    refine AnyU.next (js := [11]) (by kernel_rfl) (by simp) (NextU.cons rfl (fun K hK => ?_) NextU.nil)
                    go_simp
                    refine hK.out _ _ (fun _ => HPA.out) (fun hHeld => ?_)
                    try simp only [Act.put, List.setIfInBounds_toArray, List.set_cons_zero, List.set_cons_succ]
                    clear hK K hHeld
                    refine AnyU.next (js := [12]) (by kernel_rfl) (by simp) (NextU.cons rfl (fun K hK => ?_) NextU.nil)
                    refine step_append_any rfl (.tmp 153) (.tmp 160) 55 rfl w2.heap.size 24 (.pointer none) 1 8 info24 Try.underlying55 rfl (by decide) _ prs.length (prs.map (ptrV ∘ Pr.p)) rfl HRO.out (wj.drew.alloc (.cells #[ptrV Y.p] 24)).heap.size (some ⟨wj.drew.heap.size, 0, none⟩) 1 1 [ptrV Y.p] rfl HPN.out.2 G1.out G2.out G3.out G4.out ?_
                    intro v6 W6 hown hg hat
                    have HQ := hide (HRW.out.push_o (v' := v6) (W2 := W6) (p := Y.p) (by rw [List.length_map, List.map_map]; exact hown) hg hat)
                    obtain ⟨A6, c6, rfl⟩ := own_shape hown
                    have HP6 : Hid (P W6) := hide (by
                      have hra := HEN.out.rows.at_ HJ2.out
                      rw [← HY.out] at hra
                      rw [HPE.out]
                      have hr6 : RowsW w2.heap.size wp (X false).p (X true).p (X false).q (X true).q [] [] (.slice none 0 0) (.slice none 0 0) wj → True := fun _ => trivial
                      refine ⟨cell_of_row W6 wp 4 _ _ (0, 0) HQ.out.1, ?_⟩
                      rw [HY.out]
                      have hjj : j = 0 ∨ j = 1 := by have := HJ2.out; omega
                      rcases hjj with rfl | rfl
                      · exact cell_of_row W6 wp 0 _ _ (0, 0) HQ.out.1
                      · exact cell_of_row W6 wp 1 _ _ (0, 0) HQ.out.1)
                    clear hown hg hat
                    refine hK.out _ _ (fun _ => HP6.out) (fun hHeld => ?_)
                    try simp only [Act.put, List.setIfInBounds_toArray, List.set_cons_zero, List.set_cons_succ]
                    clear hK K hHeld
                    refine AnyU.next (js := [13]) (by kernel_rfl) (by simp) (NextU.cons rfl (fun K hK => ?_) NextU.nil)
                    go_simp
                    refine hK.out _ _ (fun _ => HP6.out) (fun hHeld => ?_)
                    try simp only [Act.put, List.setIfInBounds_toArray, List.set_cons_zero, List.set_cons_succ]
                    clear hK K hHeld
                    refine AnyU.next (js := [14]) (by kernel_rfl) (by simp) (NextU.cons rfl (fun K hK => ?_) NextU.nil)
                    go_simp
                    refine hK.out _ _ (fun _ => HP6.out) (fun hHeld => ?_)
                    try simp only [Act.put, List.setIfInBounds_toArray, List.set_cons_zero, List.set_cons_succ]
                    clear hK K hHeld
                    have g4 := cell_of_row W6 wp 4 _ _ (0, 0) HQ.out.1
                    have f4 := frozen_of_row W6 wp 4 _ _ HQ.out.1
                    simp only [List.getElem?_toArray, List.getElem?_cons_zero, List.getElem?_cons_succ] at g4
                    refine AnyU.next (js := [15]) (by kernel_rfl) (by simp) (NextU.cons rfl (fun K hK => ?_) NextU.nil)
                    go_simp
                    refine hK.out _ _ (fun h => absurd h (by decide)) (fun hHeld => ?_)
                    try simp only [Act.put, List.setIfInBounds_toArray, List.set_cons_zero, List.set_cons_succ]
                    clear hK K hHeld
                    clear g4 f4
                    refine AnyU.over (by kernel_rfl) ?_ _
                    have HR7 : Hid (RowsW w2.heap.size wp (X false).p (X true).p (X false).q (X true).q (prs.map Pr.p ++ [Y.p]) (prs.map Pr.q) (.slice A6 (prs.length + 1) c6) (.slice A5 prs.length c5) (W6.setCell ⟨wp, 4, none⟩ (.slice A6 (prs.length + 1) c6))) := hide HQ.out.2.1
                    have HBd : Hid (Below wj.heap.size wj (wj.drew.alloc (.cells #[ptrV Y.p] 24))) := hide (((Below.refl _ wj).drew).trans HPN.out.1)
                    have HC7 : Hid ((∀ b, PrW w2.heap.size 1000 (X b) (W6.setCell ⟨wp, 4, none⟩ (.slice A6 (prs.length + 1) c6))) ∧ (∀ Z ∈ prs, PrW w2.heap.size 1000 Z (W6.setCell ⟨wp, 4, none⟩ (.slice A6 (prs.length + 1) c6)))) := hide ⟨fun b => ((HEN.out.cur b).below HBd.out).only HQ.out.2.2.1 (fun i hi ho => (HEN.out.own i ho).1 b hi), fun Z hZ => ((HEN.out.each Z hZ).below HBd.out).only HQ.out.2.2.1 (fun i hi ho => (HEN.out.own i ho).2 Z hZ hi)⟩
                    have HO7 : Hid (∀ i, OwW wp (.slice A6 (prs.length + 1) c6) (.slice A5 prs.length c5) i → (∀ b, ¬ (X b).All i) ∧ ∀ Z ∈ prs, ¬ Z.All i) := hide (fun i hi => by
                      rcases HQ.out.2.2.2 i hi with e | e
                      · exact HEN.out.own i e
                      · have hz : wj.heap.size ≤ (wj.drew.alloc (.cells #[ptrV Y.p] 24)).heap.size := HBd.out.size
                        exact ⟨fun b hA => by have := (HEN.out.cur b).lt i hA; omega, fun Z hZ hA => by have := (HEN.out.each Z hZ).lt i hA; omega⟩)
                    have HB7 : Hid (Below w.heap.size w (W6.setCell ⟨wp, 4, none⟩ (.slice A6 (prs.length + 1) c6))) := hide (HBK.out.trans ((HBd.out.mono HBK.out.size).trans ((HQ.out.2.2.1.below G4.out (fun i hi => (HEN.out.rows.lt i hi).1)).mono HB2.out.size)))
                    have HZ7 : Hid (w2.heap.size ≤ (W6.setCell ⟨wp, 4, none⟩ (.slice A6 (prs.length + 1) c6)).heap.size) := hide (Nat.le_trans G4.out HQ.out.2.2.1.size)
                    clear HQ HPN HRO HRW HP6 HPA HPE hP hP0 HBd cR
                    generalize W6.setCell ⟨wp, 4, none⟩ (.slice A6 (prs.length + 1) c6) = w7 at *
                    have hat := HR7.out.at_ HJ2.out
                    rw [← HY.out] at hat
                    obtain ⟨_, cR⟩ := hat
                    simp only [ptrV] at cR
                    have w5 : w7.cell? ⟨wp, 5, none⟩ = some (.slice A5 prs.length c5) := cell_of_row w7 wp 5 _ _ (0, 0) HR7.out.blk
                    have hrq := HR7.out.rq
                    rw [List.length_map, List.map_map] at hrq
                    have HPN := hide (ptr_new w7.drew Y.q 38)
                    have HRQ := hide (own_below (w := w7.drew) hrq HPN.out.1 (Nat.le_refl _))
                    have HRW := hide ((HR7.out.below ((Below.refl _ w7).drew)).below HPN.out.1)
                    have K1 : Hid (∀ u ∈ [ptrV Y.q], u.oneCell' = true) := hide (ptr_one _)
                    have K4 : Hid (w2.heap.size ≤ (w7.drew.alloc (.cells #[ptrV Y.q] 38)).heap.size) := hide (Nat.le_trans HZ7.out HPN.out.1.size)
                    obtain ⟨P, hP⟩ : ∃ P : World → Prop, P = fun W => W.cell? ⟨wp, 5, none⟩ = some (.slice A5 prs.length c5) ∧ W.cell? ⟨wp, 2 + j, none⟩ = some (.pointer (some ⟨Y.q, 0, none⟩)) := ⟨_, rfl⟩
                    have hP0 : P w7.drew := by rw [hP]; exact ⟨w5, cR⟩
                    have HPA := hide (show P (w7.drew.alloc (.cells #[ptrV Y.q] 38)) from by rw [hP]; exact ⟨(HPN.out.1.cell (lt_of_cell w5)).trans w5, (HPN.out.1.cell (lt_of_cell cR)).trans cR⟩)
                    have HPE := hide hP
                    clear hrq w5 cR
                    go_wp2_with fail
                    refine wp_region_U 15 P (by kernel_rfl) hP0 (fun hHeld => ?_)
                    refine AnyU.take (i := 0) (v := ?v3101) rfl (by kernel_rfl) (by kernel_rfl) (by kernel_rfl) (by kernel_rfl) (fun _ _ _ h => h) (Or.inl ⟨by rfl, ?hy3101⟩) hHeld ?r3101
                    case hy3101 => (intro w hSw; (try dsimp only at hSw); rw [hP] at hSw; obtain ⟨z0, z1⟩ := hSw; go_simp <;> with_reducible rfl)
                    simp only [Act.put, List.setIfInBounds_toArray, List.set_cons_zero, List.set_cons_succ]
                    refine AnyU.take (i := 1) (v := ?v3102) rfl (by kernel_rfl) (by kernel_rfl) (by kernel_rfl) (by kernel_rfl) (fun _ _ _ h => h) (Or.inl ⟨by rfl, ?hy3102⟩) hHeld ?r3102
                    case hy3102 => (intro w hSw; (try dsimp only at hSw); rw [hP] at hSw; obtain ⟨z0, z1⟩ := hSw; go_simp <;> with_reducible rfl)
                    simp only [Act.put, List.setIfInBounds_toArray, List.set_cons_zero, List.set_cons_succ]
                    refine AnyU.take (i := 2) (v := ?v3103) rfl (by kernel_rfl) (by kernel_rfl) (by kernel_rfl) (by kernel_rfl) (fun _ _ _ h => h) (Or.inl ⟨by rfl, ?hy3103⟩) hHeld ?r3103
                    case hy3103 => (intro w hSw; (try dsimp only at hSw); rw [hP] at hSw; obtain ⟨z0, z1⟩ := hSw; go_simp <;> with_reducible rfl)
                    simp only [Act.put, List.setIfInBounds_toArray, List.set_cons_zero, List.set_cons_succ]
                    refine AnyU.take (i := 3) (v := ?v3104) rfl (by kernel_rfl) (by kernel_rfl) (by kernel_rfl) (by kernel_rfl) (fun _ _ _ h => h) (Or.inl ⟨by rfl, ?hy3104⟩) hHeld ?r3104
                    case hy3104 => (intro w hSw; (try dsimp only at hSw); rw [hP] at hSw; obtain ⟨z0, z1⟩ := hSw; go_simp <;> with_reducible rfl)
                    simp only [Act.put, List.setIfInBounds_toArray, List.set_cons_zero, List.set_cons_succ]
                    refine AnyU.take (i := 4) (v := ?v3105) rfl (by kernel_rfl) (by kernel_rfl) (by kernel_rfl) (by kernel_rfl) (fun _ _ _ h => h) (Or.inl ⟨by rfl, ?hy3105⟩) hHeld ?r3105
                    case hy3105 => (intro w hSw; (try dsimp only at hSw); rw [hP] at hSw; obtain ⟨z0, z1⟩ := hSw; go_simp <;> with_reducible rfl)
                    simp only [Act.put, List.setIfInBounds_toArray, List.set_cons_zero, List.set_cons_succ]
                    refine AnyU.take (i := 5) (v := ?v3106) rfl (by kernel_rfl) (by kernel_rfl) (by kernel_rfl) (by kernel_rfl) (fun _ _ _ h => h) (Or.inl ⟨by rfl, ?hy3106⟩) hHeld ?r3106
                    case hy3106 => (intro w hSw; (try dsimp only at hSw); rw [hP] at hSw; obtain ⟨z0, z1⟩ := hSw; go_simp <;> with_reducible rfl)
                    simp only [Act.put, List.setIfInBounds_toArray, List.set_cons_zero, List.set_cons_succ]
                    refine AnyU.take (i := 6) (v := ?v3107) rfl (by kernel_rfl) (by kernel_rfl) (by kernel_rfl) (by kernel_rfl) (fun _ _ _ h => h) (Or.inl ⟨by rfl, ?hy3107⟩) hHeld ?r3107
                    case hy3107 => (intro w hSw; (try dsimp only at hSw); rw [hP] at hSw; obtain ⟨z0, z1⟩ := hSw; go_simp <;> with_reducible rfl)
                    simp only [Act.put, List.setIfInBounds_toArray, List.set_cons_zero, List.set_cons_succ]
                    refine AnyU.take (i := 7) (v := ?v3108) rfl (by kernel_rfl) (by kernel_rfl) (by kernel_rfl) (by kernel_rfl) (fun _ _ _ h => h) (Or.inl ⟨by rfl, ?hy3108⟩) hHeld ?r3108
                    case hy3108 => (intro w hSw; (try dsimp only at hSw); rw [hP] at hSw; obtain ⟨z0, z1⟩ := hSw; go_simp <;> with_reducible rfl)
                    simp only [Act.put, List.setIfInBounds_toArray, List.set_cons_zero, List.set_cons_succ]
                    refine AnyU.take (i := 8) (v := ?v3109) rfl (by kernel_rfl) (by kernel_rfl) (by kernel_rfl) (by kernel_rfl) (fun _ _ _ h => h) (Or.inl ⟨by rfl, ?hy3109⟩) hHeld ?r3109
                    case hy3109 => (intro w hSw; (try dsimp only at hSw); rw [hP] at hSw; obtain ⟨z0, z1⟩ := hSw; go_simp <;> with_reducible rfl)
                    simp only [Act.put, List.setIfInBounds_toArray, List.set_cons_zero, List.set_cons_succ]
                    refine AnyU.take (i := 9) (v := ?v3110) rfl (by kernel_rfl) (by kernel_rfl) (by kernel_rfl) (by kernel_rfl) (fun _ _ _ h => h) (Or.inl ⟨by rfl, ?hy3110⟩) hHeld ?r3110
                    case hy3110 => (intro w hSw; (try dsimp only at hSw); rw [hP] at hSw; obtain ⟨z0, z1⟩ := hSw; go_simp <;> with_reducible rfl)
                    simp only [Act.put, List.setIfInBounds_toArray, List.set_cons_zero, List.set_cons_succ]
                    refine AnyU.take (i := 10) (v := ?v3111) rfl (by kernel_rfl) (by kernel_rfl) (by kernel_rfl) (by kernel_rfl) (fun _ _ _ h => h) (Or.inl ⟨by rfl, ?hy3111⟩) hHeld ?r3111
                    case hy3111 => (intro w hSw; (try dsimp only at hSw); rw [hP] at hSw; obtain ⟨z0, z1⟩ := hSw; go_simp <;> with_reducible rfl)
                    simp only [Act.put, List.setIfInBounds_toArray, List.set_cons_zero, List.set_cons_succ]
                    clear hHeld
                    refine AnyU.next (js := [11]) (by kernel_rfl) (by simp) (NextU.cons rfl (fun K hK => ?_) NextU.nil)
                    go_simp
                    refine hK.out _ _ (fun _ => HPA.out) (fun hHeld => ?_)
                    try simp only [Act.put, List.setIfInBounds_toArray, List.set_cons_zero, List.set_cons_succ]
                    clear hK K hHeld
                    refine AnyU.next (js := [12]) (by kernel_rfl) (by simp) (NextU.cons rfl (fun K hK => ?_) NextU.nil)
                    refine step_append_any rfl (.tmp 168) (.tmp 175) 56 rfl w2.heap.size 38 (.pointer none) 1 8 info38 Try.underlying56 rfl (by decide) _ prs.length (prs.map (ptrV ∘ Pr.q)) rfl HRQ.out (w7.drew.alloc (.cells #[ptrV Y.q] 38)).heap.size (some ⟨w7.drew.heap.size, 0, none⟩) 1 1 [ptrV Y.q] rfl HPN.out.2 K1.out G2.out G3.out K4.out ?_
                    intro v8 W8 hown hg hat
                    have HQ := hide (HRW.out.push_q (v' := v8) (W2 := W8) (p := Y.q) (by rw [List.length_map, List.map_map]; exact hown) hg hat)
                    obtain ⟨A8, c8, rfl⟩ := own_shape hown
                    have HP8 : Hid (P W8) := hide (by
                      rw [HPE.out]
                      refine ⟨cell_of_row W8 wp 5 _ _ (0, 0) HQ.out.1, ?_⟩
                      rw [HY.out]
                      have hjj : j = 0 ∨ j = 1 := by have := HJ2.out; omega
                      rcases hjj with rfl | rfl
                      · exact cell_of_row W8 wp 2 _ _ (0, 0) HQ.out.1
                      · exact cell_of_row W8 wp 3 _ _ (0, 0) HQ.out.1)
                    clear hown hg hat
                    refine hK.out _ _ (fun _ => HP8.out) (fun hHeld => ?_)
                    try simp only [Act.put, List.setIfInBounds_toArray, List.set_cons_zero, List.set_cons_succ]
                    clear hK K hHeld
                    refine AnyU.next (js := [13]) (by kernel_rfl) (by simp) (NextU.cons rfl (fun K hK => ?_) NextU.nil)
                    go_simp
                    refine hK.out _ _ (fun _ => HP8.out) (fun hHeld => ?_)
                    try simp only [Act.put, List.setIfInBounds_toArray, List.set_cons_zero, List.set_cons_succ]
                    clear hK K hHeld
                    refine AnyU.next (js := [14]) (by kernel_rfl) (by simp) (NextU.cons rfl (fun K hK => ?_) NextU.nil)
                    go_simp
                    refine hK.out _ _ (fun _ => HP8.out) (fun hHeld => ?_)
                    try simp only [Act.put, List.setIfInBounds_toArray, List.set_cons_zero, List.set_cons_succ]
                    clear hK K hHeld
                    have g4 := cell_of_row W8 wp 5 _ _ (0, 0) HQ.out.1
                    have f4 := frozen_of_row W8 wp 5 _ _ HQ.out.1
                    simp only [List.getElem?_toArray, List.getElem?_cons_zero, List.getElem?_cons_succ] at g4
                    refine AnyU.next (js := [15]) (by kernel_rfl) (by simp) (NextU.cons rfl (fun K hK => ?_) NextU.nil)
                    go_simp
                    refine hK.out _ _ (fun h => absurd h (by decide)) (fun hHeld => ?_)
                    try simp only [Act.put, List.setIfInBounds_toArray, List.set_cons_zero, List.set_cons_succ]
                    clear hK K hHeld
                    clear g4 f4
                    refine AnyU.over (by kernel_rfl) ?_ _
                    have HBd : Hid (Below w7.heap.size w7 (w7.drew.alloc (.cells #[ptrV Y.q] 38))) := hide (((Below.refl _ w7).drew).trans HPN.out.1)
                    have hall : ∀ i, OwW wp (.slice A6 (prs.length + 1) c6) (.slice A8 (prs.length + 1) c8) i → (∀ b, ¬ (X b).All i) ∧ ∀ Z ∈ prs, ¬ Z.All i := fun i hi => by
                      rcases HQ.out.2.2.2 i hi with e | e
                      · exact HO7.out i e
                      · have hz : w7.heap.size ≤ (w7.drew.alloc (.cells #[ptrV Y.q] 38)).heap.size := HBd.out.size
                        exact ⟨fun b hA => by have := (HC7.out.1 b).lt i hA; omega, fun Z hZ hA => by have := (HC7.out.2 Z hZ).lt i hA; omega⟩
                    have HE9 : Hid (EndW w2.heap.size 1000 wp X (prs ++ [Y]) (.slice A6 (prs.length + 1) c6) (.slice A8 (prs.length + 1) c8) (W8.setCell ⟨wp, 5, none⟩ (.slice A8 (prs.length + 1) c8))) := hide (by
                      have hc : ∀ b, PrW w2.heap.size 1000 (X b) (W8.setCell ⟨wp, 5, none⟩ (.slice A8 (prs.length + 1) c8)) := fun b => ((HC7.out.1 b).below HBd.out).only HQ.out.2.2.1 (fun i hi ho => (HO7.out i ho).1 b hi)
                      refine ⟨?_, hc, fun Z hZ => ?_, fun i hi => ⟨(hall i hi).1, fun Z hZ => ?_⟩⟩
                      · rw [List.map_append, List.map_append]
                        exact HQ.out.2.1
                      · rcases List.mem_append.1 hZ with hZ | hZ
                        · exact ((HC7.out.2 Z hZ).below HBd.out).only HQ.out.2.2.1 (fun i hi ho => (HO7.out i ho).2 Z hZ hi)
                        · obtain rfl := List.mem_singleton.1 hZ
                          rw [HY.out]; exact hc _
                      · rcases List.mem_append.1 hZ with hZ | hZ
                        · exact (hall i hi).2 Z hZ
                        · obtain rfl := List.mem_singleton.1 hZ
                          rw [HY.out]; exact (hall i hi).1 _)
                    have HB9 : Hid (Below w.heap.size w (W8.setCell ⟨wp, 5, none⟩ (.slice A8 (prs.length + 1) c8))) := hide (HB7.out.trans ((HBd.out.mono HB7.out.size).trans ((HQ.out.2.2.1.below K4.out (fun i hi => (HR7.out.lt i hi).1)).mono HB2.out.size)))
                    have HZ9 : Hid (w2.heap.size ≤ (W8.setCell ⟨wp, 5, none⟩ (.slice A8 (prs.length + 1) c8)).heap.size) := hide (Nat.le_trans K4.out HQ.out.2.2.1.size)
                    clear hall HQ HPN HRQ HRW HP8 HPA HPE hP hP0 HBd
                    generalize W8.setCell ⟨wp, 5, none⟩ (.slice A8 (prs.length + 1) c8) = w9 at *
                    go_wp2_with fail
                    go_roundw
                    case rel => exact ⟨j + 1, _, _, _, HJ2.out, by go_num, HE9.out, by simp only [List.length_append, List.length_cons, List.length_nil]; have := HOS.out; omega, HZ9.out, HB9.out⟩
                    case measure => have := HJ2.out; simp [intOf]; omega
                  · have hj3 : ¬ (j : Int) < 2 := by omega
                    have HPL : Hid (prs.length ≤ 12) := hide (by have := HOS.out; have := HJ.out; omega)
                    clear hj2 HOS HJ
                    go_wp2_with fail
                    go_loopw [21] (fun iv W => ∃ i : Nat, i ≤ prs.length ∧ iv = .int .i64 i ∧ EndW w2.heap.size 1000 wp X prs (.slice A4 prs.length c4) (.slice A5 prs.length c5) W ∧ Below w.heap.size w W) (fun iv _ => prs.length - (intOf iv).toNat)
                    case atStart => exact ⟨0, Nat.zero_le _, rfl, HEN.out, HBK.out⟩
                    case round =>
                      rename World => wi
                      clear HEN HWZ HBK
                      obtain ⟨i, hi, rfl, hen, hb⟩ := hrel
                      have HI := hide hi
                      have HEN := hide hen
                      have HBK := hide hb
                      have w4 : wi.cell? ⟨wp, 4, none⟩ = some (.slice A4 prs.length c4) := cell_of_row wi wp 4 _ _ (0, 0) hen.rows.blk
                      have w5 : wi.cell? ⟨wp, 5, none⟩ = some (.slice A5 prs.length c5) := cell_of_row wi wp 5 _ _ (0, 0) hen.rows.blk
                      clear hen hb hi
                      have hi0 : (0 : Int) ≤ (i : Int) := by omega
                      by_cases hlt : i < prs.length
                      · have hil : (i : Int) < (prs.length : Int) := by omega
                        have HLT := hide hlt
                        have hi9 : (i : Int) ≤ 12 := by have := HPL.out; omega
                        obtain ⟨Y, g1, g2, cc1, cc2, hYm, e1, e2, k1, k2⟩ := HEN.out.at_ hlt
                        injection e1 with e1 _ _
                        injection e2 with e2 _ _
                        subst e1 e2
                        simp only [ptrV] at k1 k2
                        have HED := hide ((HEN.out.below ((Below.refl _ wi).drew)).each Y hYm)
                        have HTD := hide (told_any HED.out.ca HED.out.ra HED.out.da (by have := HED.out.len; omega) 0)
                        obtain ⟨P, hP⟩ : ∃ P : World → Prop, P = fun W => W.cell? ⟨wp, 4, none⟩ = some (.slice (some ⟨g1, 0, none⟩) prs.length c4) ∧ W.cell? ⟨wp, 5, none⟩ = some (.slice (some ⟨g2, 0, none⟩) prs.length c5) ∧ W.cell? ⟨g1, i, none⟩ = some (.pointer (some ⟨Y.p, 0, none⟩)) ∧ W.cell? ⟨g2, i, none⟩ = some (.pointer (some ⟨Y.q, 0, none⟩)) := ⟨_, rfl⟩
                        have hP0 : P wi.drew := by rw [hP]; exact ⟨w4, w5, k1, k2⟩
                        have HPW : Hid (∀ W, Below wi.heap.size wi W → P W) := hide (fun W hW => by rw [hP]; exact ⟨(hW.cell (lt_of_cell w4)).trans w4, (hW.cell (lt_of_cell w5)).trans w5, (hW.cell (lt_of_cell k1)).trans k1, (hW.cell (lt_of_cell k2)).trans k2⟩)
                        clear hYm hlt
                        go_wp2_with fail
                        clear w4 w5 k1 k2
                        refine wp_region_U 16 P (by kernel_rfl) hP0 (fun hHeld => ?_)
                        refine AnyU.take (i := 0) (v := ?v3201) rfl (by kernel_rfl) (by kernel_rfl) (by kernel_rfl) (by kernel_rfl) (fun _ _ _ h => h) (Or.inl ⟨by rfl, ?hy3201⟩) hHeld ?r3201
                        case hy3201 => (intro w hSw; (try dsimp only at hSw); rw [hP] at hSw; obtain ⟨z0, z1, z2, z3⟩ := hSw; go_simp <;> with_reducible rfl)
                        simp only [Act.put, List.setIfInBounds_toArray, List.set_cons_zero, List.set_cons_succ]
                        refine AnyU.take (i := 1) (v := ?v3202) rfl (by kernel_rfl) (by kernel_rfl) (by kernel_rfl) (by kernel_rfl) (fun _ _ _ h => h) (Or.inl ⟨by rfl, ?hy3202⟩) hHeld ?r3202
                        case hy3202 => (intro w hSw; (try dsimp only at hSw); rw [hP] at hSw; obtain ⟨z0, z1, z2, z3⟩ := hSw; go_simp <;> with_reducible rfl)
                        simp only [Act.put, List.setIfInBounds_toArray, List.set_cons_zero, List.set_cons_succ]
                        refine AnyU.take (i := 2) (v := ?v3203) rfl (by kernel_rfl) (by kernel_rfl) (by kernel_rfl) (by kernel_rfl) (fun _ _ _ h => h) (Or.inl ⟨by rfl, ?hy3203⟩) hHeld ?r3203
                        case hy3203 => (intro w hSw; (try dsimp only at hSw); rw [hP] at hSw; obtain ⟨z0, z1, z2, z3⟩ := hSw; go_simp <;> with_reducible rfl)
                        simp only [Act.put, List.setIfInBounds_toArray, List.set_cons_zero, List.set_cons_succ]
                        refine AnyU.take (i := 3) (v := ?v3204) rfl (by kernel_rfl) (by kernel_rfl) (by kernel_rfl) (by kernel_rfl) (fun _ _ _ h => h) (Or.inl ⟨by rfl, ?hy3204⟩) hHeld ?r3204
                        case hy3204 => (intro w hSw; (try dsimp only at hSw); rw [hP] at hSw; obtain ⟨z0, z1, z2, z3⟩ := hSw; go_simp <;> with_reducible rfl)
                        simp only [Act.put, List.setIfInBounds_toArray, List.set_cons_zero, List.set_cons_succ]
                        refine AnyU.take (i := 4) (v := ?v3205) rfl (by kernel_rfl) (by kernel_rfl) (by kernel_rfl) (by kernel_rfl) (fun _ _ _ h => h) (Or.inl ⟨by rfl, ?hy3205⟩) hHeld ?r3205
                        case hy3205 => (intro w hSw; (try dsimp only at hSw); rw [hP] at hSw; obtain ⟨z0, z1, z2, z3⟩ := hSw; go_simp <;> with_reducible rfl)
                        simp only [Act.put, List.setIfInBounds_toArray, List.set_cons_zero, List.set_cons_succ]
                        refine AnyU.take (i := 5) (v := ?v3206) rfl (by kernel_rfl) (by kernel_rfl) (by kernel_rfl) (by kernel_rfl) (fun _ _ _ h => h) (Or.inl ⟨by rfl, ?hy3206⟩) hHeld ?r3206
                        case hy3206 => (intro w hSw; (try dsimp only at hSw); rw [hP] at hSw; obtain ⟨z0, z1, z2, z3⟩ := hSw; go_simp <;> with_reducible rfl)
                        simp only [Act.put, List.setIfInBounds_toArray, List.set_cons_zero, List.set_cons_succ]
                        refine AnyU.take (i := 6) (v := ?v3207) rfl (by kernel_rfl) (by kernel_rfl) (by kernel_rfl) (by kernel_rfl) (fun _ _ _ h => h) (Or.inl ⟨by rfl, ?hy3207⟩) hHeld ?r3207
                        case hy3207 => (intro w hSw; (try dsimp only at hSw); rw [hP] at hSw; obtain ⟨z0, z1, z2, z3⟩ := hSw; go_simp <;> with_reducible rfl)
                        simp only [Act.put, List.setIfInBounds_toArray, List.set_cons_zero, List.set_cons_succ]
                        refine AnyU.take (i := 7) (v := ?v3208) rfl (by kernel_rfl) (by kernel_rfl) (by kernel_rfl) (by kernel_rfl) (fun _ _ _ h => h) (Or.inl ⟨by rfl, ?hy3208⟩) hHeld ?r3208
                        case hy3208 => (intro w hSw; (try dsimp only at hSw); rw [hP] at hSw; obtain ⟨z0, z1, z2, z3⟩ := hSw; go_simp <;> with_reducible rfl)
                        simp only [Act.put, List.setIfInBounds_toArray, List.set_cons_zero, List.set_cons_succ]
                        refine AnyU.take (i := 8) (v := ?v3209) rfl (by kernel_rfl) (by kernel_rfl) (by kernel_rfl) (by kernel_rfl) (fun _ _ _ h => h) (Or.inl ⟨by rfl, ?hy3209⟩) hHeld ?r3209
                        case hy3209 => (intro w hSw; (try dsimp only at hSw); rw [hP] at hSw; obtain ⟨z0, z1, z2, z3⟩ := hSw; go_simp <;> with_reducible rfl)
                        simp only [Act.put, List.setIfInBounds_toArray, List.set_cons_zero, List.set_cons_succ]
                        refine AnyU.take (i := 9) (v := ?v3210) rfl (by kernel_rfl) (by kernel_rfl) (by kernel_rfl) (by kernel_rfl) (fun _ _ _ h => h) (Or.inl ⟨by rfl, ?hy3210⟩) hHeld ?r3210
                        case hy3210 => (intro w hSw; (try dsimp only at hSw); rw [hP] at hSw; obtain ⟨z0, z1, z2, z3⟩ := hSw; go_simp <;> with_reducible rfl)
                        simp only [Act.put, List.setIfInBounds_toArray, List.set_cons_zero, List.set_cons_succ]
                        refine AnyU.take (i := 10) (v := ?v3211) rfl (by kernel_rfl) (by kernel_rfl) (by kernel_rfl) (by kernel_rfl) (fun _ _ _ h => h) (Or.inl ⟨by rfl, ?hy3211⟩) hHeld ?r3211
                        case hy3211 => (intro w hSw; (try dsimp only at hSw); rw [hP] at hSw; obtain ⟨z0, z1, z2, z3⟩ := hSw; go_simp <;> with_reducible rfl)
                        simp only [Act.put, List.setIfInBounds_toArray, List.set_cons_zero, List.set_cons_succ]
                        refine AnyU.take (i := 11) (v := ?v3212) rfl (by kernel_rfl) (by kernel_rfl) (by kernel_rfl) (by kernel_rfl) (fun _ _ _ h => h) (Or.inl ⟨by rfl, ?hy3212⟩) hHeld ?r3212
                        case hy3212 => (intro w hSw; (try dsimp only at hSw); rw [hP] at hSw; obtain ⟨z0, z1, z2, z3⟩ := hSw; go_simp <;> with_reducible rfl)
                        simp only [Act.put, List.setIfInBounds_toArray, List.set_cons_zero, List.set_cons_succ]
                        refine AnyU.take (i := 12) (v := ?v3213) rfl (by kernel_rfl) (by kernel_rfl) (by kernel_rfl) (by kernel_rfl) (fun _ _ _ h => h) (Or.inl ⟨by rfl, ?hy3213⟩) hHeld ?r3213
                        case hy3213 => (intro w hSw; (try dsimp only at hSw); rw [hP] at hSw; obtain ⟨z0, z1, z2, z3⟩ := hSw; go_simp <;> with_reducible rfl)
                        simp only [Act.put, List.setIfInBounds_toArray, List.set_cons_zero, List.set_cons_succ]
                        refine AnyU.take (i := 13) (v := ?v3214) rfl (by kernel_rfl) (by kernel_rfl) (by kernel_rfl) (by kernel_rfl) (fun _ _ _ h => h) (Or.inl ⟨by rfl, ?hy3214⟩) hHeld ?r3214
                        case hy3214 => (intro w hSw; (try dsimp only at hSw); rw [hP] at hSw; obtain ⟨z0, z1, z2, z3⟩ := hSw; go_simp <;> with_reducible rfl)
                        simp only [Act.put, List.setIfInBounds_toArray, List.set_cons_zero, List.set_cons_succ]
                        clear hHeld
                        refine AnyU.next (js := [14]) (by kernel_rfl) (by simp) (NextU.cons rfl (fun K hK => ?_) NextU.nil)
                        go_simp
                        refine (HTD.out).mono ?_
                        rintro _ wt ⟨rfl, hbt⟩
                        have HBT : Hid (Below wi.heap.size wi wt) := hide (((Below.refl _ wi).drew).trans hbt)
                        have HPT := hide (HPW.out wt HBT.out)
                        have HET := hide (HEN.out.below HBT.out)
                        have HBX : Hid (Below w.heap.size w wt) := hide (HBK.out.trans (HBT.out.mono HBK.out.size))
                        clear hbt
                        refine hK.out _ _ (fun _ => HPT.out) (fun hHeld => ?_)
                        try simp only [Act.put, List.setIfInBounds_toArray, List.set_cons_zero, List.set_cons_succ]
                        clear hK K
                        have hHeld := hHeld (by decide)
                        refine AnyU.take (i := 15) (v := ?v3215) rfl (by kernel_rfl) (by kernel_rfl) (by kernel_rfl) (by kernel_rfl) (fun _ _ _ h => h) (Or.inl ⟨by rfl, ?hy3215⟩) hHeld ?r3215
                        case hy3215 => (intro w hSw; (try dsimp only at hSw); rw [hP] at hSw; obtain ⟨z0, z1, z2, z3⟩ := hSw; go_simp <;> with_reducible rfl)
                        simp only [Act.put, List.setIfInBounds_toArray, List.set_cons_zero, List.set_cons_succ]
                        clear hHeld
                        refine AnyU.over (by kernel_rfl) ?_ _
                        clear hP0 hP
                        go_wp2_with fail
                        go_roundw
                        case rel => exact ⟨i + 1, HLT.out, by go_num, HET.out, HBX.out⟩
                        case measure => have := HLT.out; simp [intOf]; omega
                      · have hil : ¬ (i : Int) < (prs.length : Int) := by omega
                        clear hlt
                        go_wp2_with fail
                        refine (HKN.out wi).mono ?_
                        rintro _ wz ⟨rfl, hbz⟩
                        have HBZ : Hid (Below w.heap.size w wz) := hide (HBK.out.trans (hbz.mono HBK.out.size))
                        clear hbz
                        go_wp2_with fail
                        go_ret
                        exact ⟨rfl, HBZ.out⟩
end Go.Proofs.Ytdaicdaakegdmaa
