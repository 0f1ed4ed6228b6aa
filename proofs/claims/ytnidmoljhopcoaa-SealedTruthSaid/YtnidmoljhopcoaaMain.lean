/- gavellaw11.SealedTruth: the walk. -/
import Derived.Test.YtnidmoljhopcoaaTurned
import Derived.Test.YtnidmoljhopcoaaTruth
import Derived.Lib.SmallJoins
import Derived.Deep.CutRange
import Derived.Laws.OwnMore
namespace Go.Proofs.Ytnidmoljhopcoaa
open Go.RowKit

def argV (floor : Int) (A : Option Addr) (n c : Nat) (who other : Int) : Value := .agg #[.int .i64 floor, .slice A n c, .int .i64 who, .int .i64 other]

set_option maxRecDepth 100000 in
set_option maxHeartbeats 4000000 in
theorem truth_long (floor who other : Int) (A : Option Addr) (n c : Nat) (w : World) (hl : 60 < n) :
    Calls Try.prog 3 #[argV floor A n c who other] w (ValPost (.bool true) w) := by
  have HWK := hide (fun W => works_any W)
  simp only [argV]
  go_enter Try.func3, Try.ntmps3
  go_wp2_with fail
  go_quiet (fail)
  go_wp2_with (go_at_call 6; refine (HWK.out _).mono ?_; rintro e w1 ⟨rfl, hb1⟩)
  go_ret
  refine ⟨rfl, Below.trans (below_drewN ((Below.refl _ _).alloc (Nat.le_refl _) _) _) (hb1.mono (B' := w.heap.size) (by simp))⟩

set_option maxRecDepth 100000 in
set_option maxHeartbeats 4000000 in
theorem truth_bad (floor who other : Int) (A : Option Addr) (c : Nat) (l : List (Int × Int)) (w : World) (hl : l.length ≤ 60) (h : Bids w w.heap.size A l) (hw : Wide l) (e : Int)
    (he : sellI floor l = (noSold, e)) (hne : e ≠ 0) :
    Calls Try.prog 3 #[argV floor A l.length c who other] w (ValPost (.bool true) w) := by
  have HWK := hide (fun W => works_any W)
  have HNUM := hide (fun W => num_any e W)
  have HS : Hid (∀ W, Below w.heap.size w W → Calls Try.prog 7 #[.int .i64 floor, .slice A l.length c] W (ValPost (pairV (noSold, e)) W)) :=
    hide (fun W hb => by rw [← he]; exact sell_any floor A c l W ((h.below hb).more hb.size) (by omega) hw)
  simp only [pairV, soldV, noSold] at HS
  clear he
  simp only [argV]
  go_enter Try.func3, Try.ntmps3
  go_wp2_with fail
  go_quiet (fail)
  have HB0 : Hid (Below w.heap.size w ((w.alloc (.cells #[.int .i64 floor, .slice A l.length c, .int .i64 who, .int .i64 other] 24)).drewN nq)) := hide (below_drewN ((Below.refl _ _).alloc (Nat.le_refl _) _) _)
  go_wp2_with (first | (go_at_call 7; refine (HS.out _ HB0.out).mono ?_; rintro e' w1 ⟨rfl, hb1⟩; have HZ1 : Hid (Below w.heap.size w w1) := hide (HB0.out.trans (hb1.mono (by simp))); clear hb1) | (go_at_call 8; refine (HNUM.out _).mono ?_; rintro e' _ ⟨rfl, rfl⟩) | (go_at_call 6; refine (HWK.out _).mono ?_; rintro e' w2 ⟨rfl, hb2⟩))
  go_ret
  exact ⟨rfl, (HZ1.out.alloc HZ1.out.size _).trans (hb2.mono (by have := HZ1.out.size; simp; omega))⟩

set_option maxRecDepth 100000 in
set_option maxHeartbeats 4000000 in
theorem truth_nil (floor who other : Int) (A : Option Addr) (c : Nat) (w : World) (h : Bids w w.heap.size A [])
    (he : sellI floor [] = (noSold, 0)) :
    Calls Try.prog 3 #[argV floor A 0 c who other] w (ValPost (.bool true) w) := by
  have HWK := hide (fun W => works_any W)
  have HNUM := hide (fun W => num_any 0 W)
  have HS : Hid (∀ W, Below w.heap.size w W → Calls Try.prog 7 #[.int .i64 floor, .slice A 0 c] W (ValPost (pairV (noSold, 0)) W)) :=
    hide (fun W hb => by rw [← he]; exact sell_any floor A c [] W ((h.below hb).more hb.size) (by simp) (fun x hx => by cases hx))
  simp only [pairV, soldV, noSold] at HS
  clear he
  simp only [argV]
  go_enter Try.func3, Try.ntmps3
  go_wp2_with fail
  go_quiet (fail)
  have HB0 : Hid (Below w.heap.size w ((w.alloc (.cells #[.int .i64 floor, .slice A 0 c, .int .i64 who, .int .i64 other] 24)).drewN nq)) := hide (below_drewN ((Below.refl _ _).alloc (Nat.le_refl _) _) _)
  go_wp2_with (first | (go_at_call 7; refine (HS.out _ HB0.out).mono ?_; rintro e' w1 ⟨rfl, hb1⟩; have HZ1 : Hid (Below w.heap.size w w1) := hide (HB0.out.trans (hb1.mono (by simp))); clear hb1) | (go_at_call 8; refine (HNUM.out _).mono ?_; rintro e' _ ⟨rfl, rfl⟩) | (go_at_call 6; refine (HWK.out _).mono ?_; rintro e' w2 ⟨rfl, hb2⟩))
  go_ret
  exact ⟨rfl, (HZ1.out.alloc HZ1.out.size _).trans (hb2.mono (by have := HZ1.out.size; simp; omega))⟩

theorem flat_set (l : List (Int × Int)) (k : Nat) (x : Int × Int) (o : Int) (hx : l[k]? = some x) : (flat l).set (k * 2 + 1) (.int .i64 o) = flat (l.take k ++ (x.1, o) :: l.drop (k + 1)) := by
  induction l generalizing k with
  | nil => simp at hx
  | cons b l ih =>
    have e : flat (b :: l) = .int .i64 b.1 :: .int .i64 b.2 :: flat l := rfl
    cases k with
    | zero =>
      simp at hx
      subst hx
      rw [e]
      rfl
    | succ k =>
      simp at hx
      have e2 : flat ((b :: l).take (k + 1) ++ (x.1, o) :: (b :: l).drop (k + 1 + 1)) = .int .i64 b.1 :: .int .i64 b.2 :: flat (l.take k ++ (x.1, o) :: l.drop (k + 1)) := rfl
      rw [e, e2, ← ih k hx, show (k + 1) * 2 + 1 = (k * 2 + 1) + 1 + 1 from by omega]
      rfl

theorem row_out {l : List (Int × Int)} {k : Nat} {x : Int × Int} {W w2 : World} {B : Nat} {v v' : Value} (hx : l[k]? = some x) (hk : k < l.length) (hown : w2.ownsRow B 33 2 v' (0 + l.length) ([] ++ flat l)) (hg : W.grownBy w2 v.ownBlock) :
    ∃ g cp, v' = .slice (some ⟨g, 0, none⟩) l.length cp ∧ w2.cell? ⟨g, k * 2 + 1, none⟩ = some (.int .i64 x.2) ∧ w2.frozen? ⟨g, k * 2 + 1, none⟩ = false ∧ Hid (w2.ownsRow B 33 2 (.slice (some ⟨g, 0, none⟩) l.length cp) l.length (flat l)) ∧ Hid (W.grownBy w2 v.ownBlock) := by
  rw [Nat.zero_add, List.nil_append] at hown
  obtain ⟨g, cp, rfl⟩ := Go.Joins.ownsRow_form hown (by omega)
  refine ⟨g, cp, rfl, ?_, hown.frozenAt _, hide hown, hide hg⟩
  rw [hown.cellAt _ (by omega), (flat_at l k x hx).2]

theorem place_of (who : Int) (n : Nat) (h0 : 0 < n) (hl : n ≤ 60) : ∃ k : Nat, (wrap64 (who.tmod n + n)).tmod n = k ∧ k < n := by
  have h1 : who.tmod n < n := Int.tmod_lt_of_pos who (by omega)
  have h2 : -(n : Int) < who.tmod n := Int.lt_tmod_of_pos who (by omega)
  rw [Go.IntWalk.wrap64_in _ (by omega)]
  have h3 : 0 ≤ (who.tmod n + n).tmod n := Int.tmod_nonneg _ (by omega)
  have h4 : (who.tmod n + n).tmod n < n := Int.tmod_lt_of_pos _ (by omega)
  exact ⟨((who.tmod n + n).tmod n).toNat, by omega, by omega⟩

set_option maxRecDepth 100000 in
set_option maxHeartbeats 8000000 in
theorem truth_main (floor who other : Int) (A : Option Addr) (c : Nat) (l : List (Int × Int)) (w : World) (hl : l.length ≤ 60) (hlc : l.length ≤ c) (h0 : 0 < l.length) (h : Bids w w.heap.size A l) (hw : Wide l)
    (hwho : -9223372036854775808 ≤ who ∧ who ≤ 9223372036854775807) (hm : MayBe floor l) :
    Calls Try.prog 3 #[argV floor A l.length c who other] w (ValPost (.bool true) w) := by
  have HWK := hide (fun W => works_any W)
  have HNUM := hide (fun v W => num_any v W)
  have HSP := hide (come_sale floor l)
  have HMB := hide hm
  have HBI := hide h
  have HWD := hide hw
  have HS : Hid (∀ W, Below w.heap.size w W → Calls Try.prog 7 #[.int .i64 floor, .slice A l.length c] W (ValPost (pairV (comeI floor l, 0)) W)) :=
    hide (fun W hb => by rw [← sell_may hm]; exact sell_any floor A c l W ((h.below hb).more hb.size) (by omega) hw)
  have HTU : Hid (∀ W, Below w.heap.size w W → Calls Try.prog 9 #[.int .i64 floor, .slice A l.length c, soldV (comeI floor l)] W (ValPost (.bool true) W)) :=
    hide (fun W hb => turned_any floor A c l (comeI floor l) W ((h.below hb).more hb.size) (by omega) hw (sell_turned hm))
  generalize comeI floor l = s at HSP HS HTU
  obtain ⟨b, o, rfl, hbB, hcell⟩ := h.at_ h0
  obtain ⟨k, hk, hkl⟩ := place_of who l.length h0 hl
  obtain ⟨x, hx⟩ : ∃ x, l[k]? = some x := ⟨l[k], List.getElem?_eq_getElem hkl⟩
  obtain ⟨hc0, hc1⟩ := hcell k x hx
  have HX := hide hx
  have HC := hide hcell
  have G1 : Hid (∀ u ∈ flat l, u.oneCell' = true) := hide (by intro u hu; simp only [flat, List.mem_flatMap] at hu; obtain ⟨y, _, hu⟩ := hu; simp at hu; rcases hu with rfl | rfl <;> rfl)
  have G2 : Hid (0 + l.length ≤ maxLen) := hide (by unfold maxLen; omega)
  have G3 : Hid ((0 + l.length) * 16 ≤ 140737488355328) := hide (by omega)
  have HO0 : Hid (∀ (W : World) (n : Nat), Below w.heap.size w W → n = W.heap.size → (W.alloc (.cells #[] 33)).ownsRow w.heap.size 33 2 (.slice (some ⟨n, 0, none⟩) 0 0) 0 []) := hide (fun W n hb hn => by rw [hn]; exact World.ownsRow_made W #[] 0 hb.size (by decide) rfl)
  have HR0 : Hid (∀ W : World, Below w.heap.size w W → Reads W w.heap.size 2 (some ⟨b, o, none⟩) l.length (flat l)) := hide (fun W hb => Reads.below h hb)
  clear hm h hw hx hcell
  obtain ⟨s1, s2, s3, s4⟩ := s
  obtain ⟨x1, x2⟩ := x
  have HPR := hide (sell_price HSP.out)
  simp only [pairV, soldV] at HS HTU
  simp only at hc0 hc1
  simp only [argV]
  go_enter Try.func3, Try.ntmps3
  go_wp2_with fail
  go_quiet (fail)
  have HB0 : Hid (Below w.heap.size w ((w.alloc (.cells #[.int .i64 floor, .slice (some ⟨b, o, none⟩) l.length c, .int .i64 who, .int .i64 other] 24)).drewN nq)) := hide (below_drewN ((Below.refl _ _).alloc (Nat.le_refl _) _) _)
  go_upto_region 7 with (first | (go_at_call 7; refine (HS.out _ HB0.out).mono ?_; rintro e' w1 ⟨rfl, hb1⟩; have HZ1 : Hid (Below w.heap.size w w1) := hide (HB0.out.trans (hb1.mono (by simp))); clear hb1) | (go_at_call 8; refine (HNUM.out _ _).mono ?_; rintro e' _ ⟨rfl, rfl⟩))
  go_cut [71] from 47 (fun v wx => v = .bool false ∧ wx = w1.alloc (.cells #[.bool s1, .int .i64 s2, .int .i64 s3, .int .i64 s4] 27))
  case first =>
    rcases s1 with _ | _
    · have hno := HPR.out.2 rfl
      simp only [noSold, Prod.mk.injEq, true_and] at hno
      obtain ⟨rfl, rfl, rfl⟩ := hno
      go_wp2_with fail
      go_meet
      exact ⟨rfl, rfl⟩
    · obtain ⟨p1, p2⟩ := HPR.out.1 rfl
      have d1 : decide (s4 < floor) = false := decide_eq_false (Int.not_lt.2 p1)
      have d2 : decide (s3 < s4) = false := decide_eq_false (Int.not_lt.2 p2)
      clear p1 p2
      go_wp2_with fail
      go_meet
      exact ⟨rfl, rfl⟩
  case rest =>
    obtain ⟨rfl, rfl⟩ := hcut
    go_upto_region 12 with fail
    have HO1 := hide (HO0.out _ _ (HZ1.out.alloc HZ1.out.size (.cells #[.bool s1, .int .i64 s2, .int .i64 s3, .int .i64 s4] 27)) rfl)
    have HR1 := hide (HR0.out _ ((HZ1.out.alloc HZ1.out.size (.cells #[.bool s1, .int .i64 s2, .int .i64 s3, .int .i64 s4] 27)).alloc (by have := HZ1.out.size; simp; omega) (.cells #[] 33)))
    have G4 : Hid (w.heap.size ≤ ((w1.alloc (.cells #[.bool s1, .int .i64 s2, .int .i64 s3, .int .i64 s4] 27)).alloc (.cells #[] 33)).heap.size) := hide (by have := HZ1.out.size; simp; omega)
    rw [World.size_alloc] at HO1
    have hkk : (k : Int) < l.length := by omega
    clear hk
    go_upto_region 13 with (at_builtin; refine wpList_append_any rfl (.tmp 91) (.tmp 92) 22 rfl w.heap.size 33 (.agg #[.int .i64 0, .int .i64 0]) 2 16 info33 Try.underlying22 rfl (by decide) _ 0 [] rfl HO1.out w.heap.size (some ⟨b, o, none⟩) l.length c (flat l) rfl HR1.out G1.out G2.out G3.out G4.out ?_; intro v' w2 hown hg _; obtain ⟨gm, cpm, hv', e0, f0, HM, HG⟩ := row_out HX.out hkl hown hg; subst hv'; clear hown hg)
    have hsb : w2.heap[w1.heap.size]? = some (.cells #[.bool s1, .int .i64 s2, .int .i64 s3, .int .i64 s4] 27 (0, 0)) := by
      rw [HG.out.block _ (by simp; omega) (by simp [Value.ownBlock, Act.eval, go_sem])]
      rw [Below.heap_alloc _ _ _ (by simp)]
      exact heap_alloc_new _ _
    have HSB := hide hsb
    have hst := HM.out.stored (k * 2 + 1) (.int .i64 other)
    rw [flat_set l k (x1, x2) other HX.out] at hst
    have hz1 := HZ1.out.size
    have hgm : w.heap.size ≤ gm ∧ gm < w2.heap.size := HM.out.lt gm rfl
    have hb2 : Below w.heap.size w w2 := ((HZ1.out.alloc hz1 _).alloc (by simp; omega) _).grown HG.out (by simp; omega) (fun j hj => by simp [Value.ownBlock, Act.eval, go_sem] at hj; omega)
    have hb3 := hide (hb2.grown hst.2 hb2.size (fun j hj => by injection hj with hj; omega))
    have HS3 := hide ((hst.2.block _ (lt_of_block hsb) (by intro e; exact own_ne HM.out hsb (by simp) e.symm)).trans hsb)
    have HM3 := hide hst.1
    clear hsb hst hb2 HG HSB
    go_upto_region 14 with fail
    generalize w2.setCell ⟨gm, k * 2 + 1, none⟩ (.int .i64 other) = w3 at hb3 HS3 HM3 ⊢
    have hml : (l.take k ++ (x1, other) :: l.drop (k + 1)).length = l.length := by simp; omega
    have hsp : l = l.take k ++ (x1, x2) :: l.drop (k + 1) := by
      have h1 := split_at l k hkl
      rw [List.getElem?_eq_getElem hkl] at HX
      have h2 : l[k] = (x1, x2) := Option.some.inj HX.out
      rwa [h2] at h1
    have HCT : Hid (Calls Try.prog 7 #[.int .i64 floor, .slice (some ⟨gm, 0, none⟩) l.length cpm] w3 (ValPost (pairV (sellI floor (l.take k ++ (x1, other) :: l.drop (k + 1)))) w3)) := by
      have h1 := Reads.of_own HM3.out
      have h2 := sell_any floor (some ⟨gm, 0, none⟩) cpm (l.take k ++ (x1, other) :: l.drop (k + 1)) w3 (by unfold Bids; rw [hml]; exact h1) (by omega) (fun y hy => by
        rcases mem_mid.1 hy with rfl | h3
        · exact HWD.out (x1, x2) (List.mem_of_getElem? HX.out)
        · exact HWD.out y (by rw [hsp]; exact mem_mid.2 (.inr h3)))
      rw [hml] at h2
      exact hide h2
    have HTC := hide (sell_cases floor (l.take k ++ (x1, other) :: l.drop (k + 1)))
    have HSP' := HSP.out
    have hnd : ((l.take k ++ (x1, x2) :: l.drop (k + 1)).map (·.1)).Nodup := by rw [← hsp]; exact HMB.out.2.2
    have HF : Hid (∀ t, SaleP floor (l.take k ++ (x1, other) :: l.drop (k + 1)) t → (s1 = true → s2 = x1 → s4 ≤ x2 ∧ (t.1 = true → t.2.1 = x1 → s4 = t.2.2.2)) ∧ (¬ (s1 = true ∧ s2 = x1) → t.1 = true → t.2.1 = x1 → x2 ≤ t.2.2.2)) :=
      hide (fun t ht => truth_other hnd (by rw [← hsp]; exact HSP') ht)
    have HCS := hide (come_sale floor (l.take k ++ (x1, other) :: l.drop (k + 1)))
    generalize sellI floor (l.take k ++ (x1, other) :: l.drop (k + 1)) = tf at HCT HTC
    generalize comeI floor (l.take k ++ (x1, other) :: l.drop (k + 1)) = tc at HTC HCS
    obtain ⟨⟨t1, t2, t3, t4⟩, f⟩ := tf
    have HFF : Hid (f = 0 → (s1 = true → s2 = x1 → s4 ≤ x2 ∧ (t1 = true → t2 = x1 → s4 = t4)) ∧ (¬ (s1 = true ∧ s2 = x1) → t1 = true → t2 = x1 → x2 ≤ t4)) := by
      refine hide (fun hf => ?_)
      rcases HTC.out with ⟨h1, _⟩ | ⟨_, h2⟩
      · exact absurd hf h1
      · simp only [Prod.mk.injEq] at h2
        have := HF.out tc HCS.out
        rw [← h2.1] at this
        exact this
    simp only [pairV, soldV] at HCT
    have hl3 := lt_of_block HS3.out
    have HSPL := hide hsp
    have HND := hide hnd
    clear hml hsp HSP' hnd HTC HCS HF hz1 hgm
    go_upto_if 107 with (first | (go_at_call 7; refine (HCT.out).mono ?_; rintro e' w4 ⟨rfl, hb4⟩; have HS4 := hide ((hb4.block _ hl3).trans HS3.out); have HZ4 : Hid (Below w.heap.size w w4) := hide (hb3.out.trans (hb4.mono hb3.out.size)); clear hb4) | (go_at_call 8; refine (HNUM.out _ _).mono ?_; rintro e' _ ⟨rfl, rfl⟩))
    have hz4 := HZ4.out.size
    have HZ5 := hide (HZ4.out.alloc hz4 (.cells #[.bool t1, .int .i64 t2, .int .i64 t3, .int .i64 t4] 27))
    have hsb5 := (Below.heap_alloc w4 (.cells #[.bool t1, .int .i64 t2, .int .i64 t3, .int .i64 t4] 27) w1.heap.size (lt_of_block HS4.out)).trans HS4.out
    have htb5 := heap_alloc_new w4 (.cells #[.bool t1, .int .i64 t2, .int .i64 t3, .int .i64 t4] 27)
    have hzs5 : w4.heap.size < (w4.alloc (.cells #[.bool t1, .int .i64 t2, .int .i64 t3, .int .i64 t4] 27)).heap.size := by simp
    generalize w4.alloc (.cells #[.bool t1, .int .i64 t2, .int .i64 t3, .int .i64 t4] 27) = w5 at HZ5 hsb5 htb5 hzs5 ⊢
    have es := fun i => cell_of_row w5 w1.heap.size i _ 27 (0, 0) hsb5
    have et := fun i => cell_of_row w5 w4.heap.size i _ 27 (0, 0) htb5
    have d0 := (HZ5.out.cell (p := ⟨b, o + k * 2, none⟩) hbB).trans hc0
    have d1 := (HZ5.out.cell (p := ⟨b, o + k * 2 + 1, none⟩) hbB).trans hc1
    have HSB5 := hide hsb5
    clear hsb5 htb5 hc0 hc1 e0 f0
    go_cut [13, 14, 15, 16] from 108 (fun _ _ _ _ wx => Below w5.heap.size w5 wx)
    case first =>
      by_cases hf : f = 0
      · obtain ⟨FA, FB⟩ := HFF.out hf
        have HFA := hide FA
        have HFB := hide FB
        subst hf
        clear FA FB
        by_cases c1 : s1 = true ∧ s2 = x1
        · obtain ⟨rfl, rfl⟩ := c1
          obtain ⟨q1, q2⟩ := HFA.out rfl rfl
          have g1 : decide (x2 < s4) = false := decide_eq_false (Int.not_lt.2 q1)
          clear q1
          rcases t1 with _ | _
          · clear q2
            go_wp2_with fail
            go_quiet (fail)
            go_wp2_with fail
            go_quiet (fail)
            go_wp2_with fail
            go_meet
            exact below_drewN (Below.refl _ _) _
          · by_cases c2 : t2 = s2
            · subst c2
              obtain rfl := q2 rfl rfl
              clear q2
              go_wp2_with fail
              go_quiet (fail)
              go_wp2_with fail
              go_quiet (fail)
              go_wp2_with fail
              go_meet
              exact below_drewN (Below.refl _ _) _
            · clear q2
              have g2 : (t2 == s2) = false := by simpa using c2
              clear c2
              go_wp2_with fail
              go_quiet (fail)
              go_wp2_with fail
              go_quiet (fail)
              go_wp2_with fail
              go_meet
              exact below_drewN (Below.refl _ _) _
        · rcases t1 with _ | _
          · rcases s1 with _ | _
            · clear c1
              go_wp2_with fail
              go_quiet (fail)
              go_wp2_with fail
              go_quiet (fail)
              go_wp2_with fail
              go_meet
              exact below_drewN (Below.refl _ _) _
            · have g3 : (s2 == x1) = false := by simpa using c1
              clear c1
              go_wp2_with fail
              go_quiet (fail)
              go_wp2_with fail
              go_quiet (fail)
              go_wp2_with fail
              go_meet
              exact below_drewN (Below.refl _ _) _
          · by_cases c2 : t2 = x1
            · subst c2
              have q := HFB.out c1 rfl rfl
              have g1 : decide (t4 < x2) = false := decide_eq_false (Int.not_lt.2 q)
              clear q
              rcases s1 with _ | _
              · clear c1
                go_wp2_with fail
                go_quiet (fail)
                go_wp2_with fail
                go_quiet (fail)
                go_wp2_with fail
                go_meet
                exact below_drewN (Below.refl _ _) _
              · have g3 : (s2 == t2) = false := by simpa using c1
                clear c1
                go_wp2_with fail
                go_quiet (fail)
                go_wp2_with fail
                go_quiet (fail)
                go_wp2_with fail
                go_meet
                exact below_drewN (Below.refl _ _) _
            · have g2 : (t2 == x1) = false := by simpa using c2
              clear c2
              rcases s1 with _ | _
              · clear c1
                go_wp2_with fail
                go_quiet (fail)
                go_wp2_with fail
                go_quiet (fail)
                go_wp2_with fail
                go_meet
                exact below_drewN (Below.refl _ _) _
              · have g3 : (s2 == x1) = false := by simpa using c1
                clear c1
                go_wp2_with fail
                go_quiet (fail)
                go_wp2_with fail
                go_quiet (fail)
                go_wp2_with fail
                go_meet
                exact below_drewN (Below.refl _ _) _
      · have hf' : (f == 0) = false := by simpa using hf
        clear hf
        go_wp2_with fail
        go_meet
        exact Below.refl _ _
    case rest =>
      rename World => w6
      have HZ6 := hide (HZ5.out.trans (hcut.mono HZ5.out.size))
      have HS6 := hide ((hcut.block _ (lt_of_block HSB5.out)).trans HSB5.out)
      clear hcut es et d0 d1 HSB5 HZ5 HS4 HZ4 hz4 hzs5 hb3 HS3 HM3 HM HFF HCT HNUM
      go_upto_region 20 with fail
      have hz6 := HZ6.out.size
      have HO2 : Hid (∀ (W : World) (n : Nat), Below w6.heap.size w6 W → n = W.heap.size → (W.alloc (.cells #[] 33)).ownsRow w6.heap.size 33 2 (.slice (some ⟨n, 0, none⟩) 0 0) 0 []) := hide (fun W n hb hn => by rw [hn]; exact World.ownsRow_made W #[] 0 hb.size (by decide) rfl)
      have hcmp1 : k ≤ c := by omega
      have hcmp2 : k + 1 ≤ l.length := by omega
      have HO3 : Hid ((w6.alloc (.cells #[] 33)).drew.ownsRow w6.heap.size 33 2 (.slice (some ⟨w6.heap.size, 0, none⟩) 0 0) 0 []) := hide (World.ownsRow.drew (World.ownsRow_made w6 #[] 0 (Nat.le_refl _) (by decide) rfl))
      have HB7 : Hid (Below w.heap.size w (w6.alloc (.cells #[] 33)).drew) := hide (HZ6.out.alloc hz6 _).drew
      have HB76 : Hid (Below w6.heap.size w6 (w6.alloc (.cells #[] 33)).drew) := hide ((Below.refl _ _).alloc (Nat.le_refl _) _).drew
      have HRa : Hid (∀ W : World, Below w.heap.size w W → Reads W w.heap.size 2 (some ⟨b, o, none⟩) k (flat (l.take k))) := hide (fun W hb => by rw [← flat_take]; exact (HR0.out W hb).front (by omega))
      have HRb : Hid (∀ W : World, Below w.heap.size w W → Reads W w.heap.size 2 (if c = k + 1 then some ⟨b, o, none⟩ else some ⟨b, o + (k + 1) * 2, none⟩) (l.length - (k + 1)) (flat (l.drop (k + 1)))) := hide (fun W hb => by
        rw [← flat_drop]
        have := (HR0.out W hb).cut (k := k + 1) (cap := c) (by omega) hlc
        simpa [Addr.add] using this)
      obtain ⟨Af, hAf⟩ : ∃ Af, (if c = k + 1 then some (⟨b, o, none⟩ : Addr) else some ⟨b, o + (k + 1) * 2, none⟩) = Af := ⟨_, rfl⟩
      rw [hAf] at HRb
      have Ga : Hid (∀ u ∈ flat (l.take k), u.oneCell' = true) := hide (by intro u hu; rw [← flat_take] at hu; exact G1.out u (List.mem_of_mem_take hu))
      have Gb : Hid (∀ u ∈ flat (l.drop (k + 1)), u.oneCell' = true) := hide (by intro u hu; rw [← flat_drop] at hu; exact G1.out u (List.mem_of_mem_drop hu))
      have G5 : Hid (0 + k ≤ maxLen) := hide (by unfold maxLen; omega)
      have G6 : Hid ((0 + k) * 16 ≤ 140737488355328) := hide (by omega)
      have G7 : Hid (w6.heap.size ≤ (w6.alloc (.cells #[] 33)).drew.heap.size) := hide (by simp)
      have G8 : Hid (0 + k + (l.length - (k + 1)) ≤ maxLen) := hide (by unfold maxLen; omega)
      have G9 : Hid ((0 + k + (l.length - (k + 1))) * 16 ≤ 140737488355328) := hide (by omega)
      have hwr : IntKind.i64.wrap ((k : Int) + 1) = (k : Int) + 1 := by unfold IntKind.wrap; simp [IntKind.signed, IntKind.bits]; omega
      have hwr2 : (k : Int) + 1 ≤ (l.length : Int) := by omega
      have hwr3 : 0 ≤ (k : Int) + 1 := by omega
      have hwr4 : ((k : Int) + 1).toNat = k + 1 := by omega
      go_cut [17] from 167 (fun v wx => wx.ownsRow w6.heap.size 33 2 v (l.length - 1) (flat (l.take k ++ l.drop (k + 1))) ∧ Below w6.heap.size w6 wx)
      case first =>
        go_region_law (first | (refine step_append_any rfl (.tmp 167) (.tmp 170) 22 rfl w6.heap.size 33 (.agg #[.int .i64 0, .int .i64 0]) 2 16 info33 Try.underlying22 rfl (by decide) _ 0 [] rfl HO3.out w.heap.size (some ⟨b, o, none⟩) k c (flat (l.take k)) rfl (HRa.out _ HB7.out) Ga.out G5.out G6.out G7.out ?_; intro v1 w7 hown1 hg1 _; have HOW1 := hide hown1; have HB8 : Hid (Below w6.heap.size w6 w7) := hide (HB76.out.grown hg1 G7.out (fun j hj => by have := Option.some.inj (show some w6.heap.size = some j from hj); omega)); clear hown1 hg1) | (refine step_append_any rfl (.tmp 171) (.tmp 175) 22 rfl w6.heap.size 33 (.agg #[.int .i64 0, .int .i64 0]) 2 16 info33 Try.underlying22 rfl (by decide) _ (0 + k) ([] ++ flat (l.take k)) rfl HOW1.out w.heap.size Af (l.length - (k + 1)) (c - (k + 1)) (flat (l.drop (k + 1))) rfl (HRb.out _ (HZ6.out.trans (HB8.out.mono hz6))) Gb.out G8.out G9.out HB8.out.size ?_; intro v2 w8 hown2 hg2 _; have HOW2 := hide hown2; have HB9 : Hid (Below w6.heap.size w6 w8) := hide (HB8.out.grown hg2 HB8.out.size (fun j hj => (HOW1.out.lt j hj).1)); clear hown2 hg2))
        go_wp2_with fail
        go_meet
        refine ⟨?_, HB9.out⟩
        have h1 := HOW2.out
        rw [flat_append, show l.length - 1 = 0 + k + (l.length - (k + 1)) from by omega]
        exact h1
      case rest =>
        rename World => w7
        obtain ⟨hown, hb7⟩ := hcut
        obtain ⟨A7, cp7, hu17, _⟩ := own_sh hown
        subst hu17
        have hlen7 : (l.take k ++ l.drop (k + 1)).length = l.length - 1 := by simp; omega
        have HSL : Hid (Calls Try.prog 7 #[.int .i64 floor, .slice A7 (l.length - 1) cp7] w7 (ValPost (pairV (comeI floor (l.take k ++ l.drop (k + 1)), 0)) w7)) := by
          have h1 := Reads.of_own hown
          have h2 := sell_any floor A7 cp7 (l.take k ++ l.drop (k + 1)) w7 (by unfold Bids; rw [hlen7]; exact h1) (by omega) (fun y hy => HWD.out y (by rw [HSPL.out]; exact mem_mid.2 (.inr hy)))
          rw [hlen7, sell_may (may_less (x := (x1, x2)) (by rw [← HSPL.out]; exact HMB.out))] at h2
          exact hide h2
        have HUL : Hid ((comeI floor (l.take k ++ l.drop (k + 1))).1 = true → s1 = true ∧ (comeI floor (l.take k ++ l.drop (k + 1))).2.2.2 ≤ s4) :=
          hide (truth_less HND.out (by rw [← HSPL.out]; exact HSP.out) (come_sale floor (l.take k ++ l.drop (k + 1))))
        generalize comeI floor (l.take k ++ l.drop (k + 1)) = u at HSL HUL
        obtain ⟨t1', t2', t3', t4'⟩ := u
        simp only [pairV, soldV] at HSL
        have HS7 := hide ((hb7.block _ (lt_of_block HS6.out)).trans HS6.out)
        have HZ7 := hide (HZ6.out.trans (hb7.mono hz6))
        have hl7 := lt_of_block HS7.out
        have HNUM := hide (fun v W => num_any v W)
        clear hown hb7 hlen7 hwr hwr2 hwr3 hwr4 HRa HRb Ga Gb G5 G6 G7 G8 G9 HO3 HB7 HB76 HO2
        go_upto_region 22 with (go_at_call 7; refine (HSL.out).mono ?_; rintro e' w8 ⟨rfl, hb8⟩; have HS8 := hide ((hb8.block _ hl7).trans HS7.out); have HZ8 : Hid (Below w.heap.size w w8) := hide (HZ7.out.trans (hb8.mono HZ7.out.size)); clear hb8)
        have hz8 := HZ8.out.size
        have HZ9 := hide (HZ8.out.alloc hz8 (.cells #[.bool t1', .int .i64 t2', .int .i64 t3', .int .i64 t4'] 27))
        have hs9 := (Below.heap_alloc w8 (.cells #[.bool t1', .int .i64 t2', .int .i64 t3', .int .i64 t4'] 27) w1.heap.size (lt_of_block HS8.out)).trans HS8.out
        have hu9 := heap_alloc_new w8 (.cells #[.bool t1', .int .i64 t2', .int .i64 t3', .int .i64 t4'] 27)
        generalize w8.alloc (.cells #[.bool t1', .int .i64 t2', .int .i64 t3', .int .i64 t4'] 27) = w9 at HZ9 hs9 hu9 ⊢
        have es := fun i => cell_of_row w9 w1.heap.size i _ 27 (0, 0) hs9
        have eu := fun i => cell_of_row w9 w8.heap.size i _ 27 (0, 0) hu9
        have hl9 := lt_of_block hs9
        have hl9' := lt_of_block hu9
        have HTU9 := hide (HTU.out w9 HZ9.out)
        clear hs9 hu9 hAf
        rcases t1' with _ | _
        · go_wp2_with (first | (go_at_call 8; refine (HNUM.out _ _).mono ?_; rintro e' _ ⟨rfl, rfl⟩) | (go_at_call 9; refine (HTU9.out).mono ?_; rintro e' w10 ⟨rfl, hb10⟩; have HZ10 : Hid (Below w.heap.size w w10) := hide (HZ9.out.trans (hb10.mono HZ9.out.size)); clear hb10) | (go_at_call 6; refine (HWK.out _).mono ?_; rintro e' w11 ⟨rfl, hb11⟩))
          go_ret
          exact ⟨rfl, HZ10.out.trans (hb11.mono HZ10.out.size)⟩
        · obtain ⟨rfl, q1⟩ := HUL.out rfl
          have g1 : decide (s4 < t4') = false := decide_eq_false (Int.not_lt.2 q1)
          clear q1
          go_wp2_with (first | (go_at_call 8; refine (HNUM.out _ _).mono ?_; rintro e' _ ⟨rfl, rfl⟩) | (go_at_call 9; refine (HTU9.out).mono ?_; rintro e' w10 ⟨rfl, hb10⟩; have HZ10 : Hid (Below w.heap.size w w10) := hide (HZ9.out.trans (hb10.mono HZ9.out.size)); clear hb10) | (go_at_call 6; refine (HWK.out _).mono ?_; rintro e' w11 ⟨rfl, hb11⟩))
          go_ret
          exact ⟨rfl, HZ10.out.trans (hb11.mono HZ10.out.size)⟩
end Go.Proofs.Ytnidmoljhopcoaa
