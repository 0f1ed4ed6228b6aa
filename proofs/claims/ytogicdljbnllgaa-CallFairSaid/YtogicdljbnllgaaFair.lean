/- The walk of the law CallFair. -/
import Derived.Test.YtogicdljbnllgaaFairN
import Derived.Test.YtogicdljbnllgaaInU
import Derived.TacticsInMore
import Derived.LoopNIn
import Derived.LoopIn
import Derived.Sort.CutIn
import Derived.Sort.BigQuietIn
namespace Go.Proofs.Ytogicdljbnllgaa
open Go.Shelf Go.RowKit Go.Lib Go.Sort Go.Proofs

attribute [local go_sem] Oper.semAt_some

/-- What Clear has answered, in the law's own cells. -/
structure FrS (w : World) (q g1 g2 n m : Nat) (pr tr lo hi : Int) (l1 l2 : List Int) (W : World) : Prop where
  bel : Below w.heap.size w W
  r : W.heap[w.heap.size]? = some (.cells #[.bool false] 4 (0, 0))
  c : W.heap[q]? = some (.cells (callV n m pr tr lo hi g1 g2) 28 (0, 0))
  b : W.heap[g1]? = some (.cells (rowI l1) 3 (0, 0))
  s : W.heap[g2]? = some (.cells (rowI l2) 3 (0, 0))
section
variable {w W W' : World} {q g1 g2 n m : Nat} {pr tr lo hi : Int} {l1 l2 : List Int}
theorem FrS.below (h : FrS w q g1 g2 n m pr tr lo hi l1 l2 W) (hb : Below W.heap.size W W') : FrS w q g1 g2 n m pr tr lo hi l1 l2 W' :=
  ⟨h.bel.trans (hb.mono h.bel.size), (hb.block _ (lt_of_block h.r)).trans h.r, (hb.block _ (lt_of_block h.c)).trans h.c, (hb.block _ (lt_of_block h.b)).trans h.b, (hb.block _ (lt_of_block h.s)).trans h.s⟩
theorem FrS.drewN (h : FrS w q g1 g2 n m pr tr lo hi l1 l2 W) (k : Nat) : FrS w q g1 g2 n m pr tr lo hi l1 l2 (W.drewN k) := h.below (below_drewN (Below.refl _ _) k)
theorem FrS.cells (h : FrS w q g1 g2 n m pr tr lo hi l1 l2 W) : W.cell? ⟨q, 0, none⟩ = some (.int .i64 pr) ∧ W.cell? ⟨q, 1, none⟩ = some (.int .i64 tr) ∧ W.cell? ⟨q, 2, none⟩ = some (.int .i64 lo) ∧ W.cell? ⟨q, 3, none⟩ = some (.int .i64 hi) ∧ W.cell? ⟨q, 4, none⟩ = some (.slice (some ⟨g1, 0, none⟩) n n) ∧ W.cell? ⟨q, 5, none⟩ = some (.slice (some ⟨g2, 0, none⟩) m m) :=
  ⟨cell_of_row _ _ 0 _ _ (0, 0) h.c, cell_of_row _ _ 1 _ _ (0, 0) h.c, cell_of_row _ _ 2 _ _ (0, 0) h.c, cell_of_row _ _ 3 _ _ (0, 0) h.c, cell_of_row _ _ 4 _ _ (0, 0) h.c, cell_of_row _ _ 5 _ _ (0, 0) h.c⟩
end
theorem fair_clear (A : Option Addr) (c : Nat) (b : List (Int × Int)) (A' : Option Addr) (c' : Nat) (s : List (Int × Int)) (w : World) (h : Wants w w.heap.size A b) (h' : Wants w w.heap.size A' s) :
    Calls Try.prog 11 #[.slice A b.length c, .slice A' s.length c'] w fun e W =>
      (checkI b s ≠ 0 ∧ e = .returned (.tuple #[noCall, .int .i64 (checkI b s)]) ∧ Below w.heap.size w W) ∨
      (checkI b s = 0 ∧ ∃ pr tr lo hi l1 l2 g1 g2, FairC b s (pr, tr, lo, hi, l1, l2) ∧ l1 = givenB b.length (RunA b s).1 ∧ l2 = givenS s.length (RunA b s).1 ∧ e = .returned (.tuple #[.agg (callV b.length s.length pr tr lo hi g1 g2), .int .i64 0]) ∧ Below w.heap.size w W ∧
        W.heap[g1]? = some (.cells (rowI l1) 3 (0, 0)) ∧ W.heap[g2]? = some (.cells (rowI l2) 3 (0, 0))) := by
  refine (clear_any A c b A' c' s w h h').mono ?_
  rintro e W ⟨hb, ⟨hk, he⟩ | ⟨hk, g1, g2, he, _, _, _, h1, h2⟩⟩
  · exact .inl ⟨hk, he, hb⟩
  · obtain ⟨hob, hos⟩ := ok_of_check hk
    have hF := fair_clr hob hos
    have hl : (clrOf b.length s.length (RunA b s)).2.2.2.2 = (givenB b.length (RunA b s).1, givenS s.length (RunA b s).1) := by
      by_cases hn : (RunA b s).1 = []
      · rw [clr_none hn, hn]
      · rw [clr_some hn]
    obtain ⟨C, hC⟩ : ∃ C, C = clrOf b.length s.length (RunA b s) := ⟨_, rfl⟩
    rw [← hC] at hF hl he h1 h2
    obtain ⟨pr, tr, lo, hi, l1, l2⟩ := C
    simp only [Prod.mk.injEq] at hl
    refine .inr ⟨hk, pr, tr, lo, hi, l1, l2, g1, g2, hF, hl.1, hl.2, ?_, hb, h1, h2⟩
    rw [he]
    have e1 := hF.lenB
    have e2 := hF.lenS
    simp only at e1 e2
    unfold calledV
    simp only [e1, e2]
theorem fair_ret {fn : Func} {tmps : Array Value} {w W : World} (hB : Below w.heap.size w W) (hb : W.heap[w.heap.size]? = some (.cells #[.bool true] 4 (0, 0)))
    (hr : ∀ W', W'.cell? ⟨w.heap.size, 0, none⟩ = some (.bool true) → (results fn tmps).run Try.prog W' = .ok (.bool true) W') : LeavesInM Fence.wide 9 Try.prog fn tmps (ValPost (.bool true) w) [] .returning W :=
  ⟨.bool true, hr _ (cell_of_row _ _ 0 _ _ (0, 0) hb), rfl, hB⟩

set_option maxRecDepth 100000 in
set_option maxHeartbeats 16000000 in
theorem fairLaw_any (A : Option Addr) (c : Nat) (b : List (Int × Int)) (A' : Option Addr) (c' : Nat) (s : List (Int × Int)) (w : World) (h : Wants w w.heap.size A b) (h' : Wants w w.heap.size A' s) (hz : A = none → c = 0) (hz' : A' = none → c' = 0) :
    Calls Try.prog 6 #[.slice A b.length c, .slice A' s.length c'] w (ValPost (.bool true) w) := by
  have hb0 : Below w.heap.size w (w.alloc (.cells #[.bool false] 4)) := (Below.refl _ _).alloc (Nat.le_refl _) _
  have hr0 : (w.alloc (.cells #[.bool false] 4)).heap[w.heap.size]? = some (.cells #[.bool false] 4 (0, 0)) := heap_alloc_new w _
  have HB0 := hide hb0
  have HR0 := hide hr0
  have HW := hide h
  have HW' := hide h'
  have HZ := hide hz
  have HZ' := hide hz'
  clear hb0 hr0 h h' hz hz'
  refine (callsIn_wide (n := 9)).1 ?_
  refine callsIn_of_wp_marks Try.func6 rfl trivial ?_ rfl
  simp only [Try.ntmps6, List.size_toArray, List.length_cons, List.length_nil, Nat.reduceAdd, Nat.reduceSub, Array.replicate_succ, Array.replicate_zero, List.push_toArray, List.append_toArray, List.nil_append, List.cons_append]
  gi_wp2_with fail
  generalize w.alloc (.cells #[.bool false] 4) = w0 at *
  refine ⟨trivial, (callsIn_wide.2 (known_any w0)).mono ?_⟩
  rintro e w1 ⟨rfl, hb1⟩
  simp only
  have HB1 := hide (HB0.out.trans (hb1.mono HB0.out.size))
  have HR1 := hide ((hb1.block _ (lt_of_block HR0.out)).trans HR0.out)
  clear hb1 HB0 HR0
  gi_wp2_with fail
  refine ⟨trivial, (callsIn_wide.2 (great_any A c b.length w1)).mono ?_⟩
  rintro e w2 ⟨rfl, hb2⟩
  simp only
  have HB2 := hide (HB1.out.trans (hb2.mono HB1.out.size))
  have HR2 := hide ((hb2.block _ (lt_of_block HR1.out)).trans HR1.out)
  clear hb2 HB1 HR1
  by_cases hg : greatN b.length = true
  · rw [hg]
    have x0 := cell_of_row _ _ 0 _ _ (0, 0) HR2.out
    have x1 := frozen_of_row _ _ 0 _ _ HR2.out
    simp only [List.getElem?_toArray, List.getElem?_cons_zero] at x0
    gi_wp2_with fail
    refine ⟨trivial, ?_⟩
    gi_wp2_with fail
    exact fair_ret (HB2.out.setCell (Nat.le_refl _) _) (setCell_block HR2.out 0 _) (fun W' h => by simp [results, Try.results6, go_sem, h])
  rw [Bool.not_eq_true] at hg
  rw [hg]
  clear hg
  gi_wp2_with fail
  refine ⟨trivial, (callsIn_wide.2 (great_any A' c' s.length w2)).mono ?_⟩
  rintro e w3 ⟨rfl, hb3⟩
  simp only
  have HB3 := hide (HB2.out.trans (hb3.mono HB2.out.size))
  have HR3 := hide ((hb3.block _ (lt_of_block HR2.out)).trans HR2.out)
  clear hb3 HB2 HR2
  by_cases hg : greatN s.length = true
  · rw [hg]
    have x0 := cell_of_row _ _ 0 _ _ (0, 0) HR3.out
    have x1 := frozen_of_row _ _ 0 _ _ HR3.out
    simp only [List.getElem?_toArray, List.getElem?_cons_zero] at x0
    gi_wp2_with fail
    exact fair_ret (HB3.out.setCell (Nat.le_refl _) _) (setCell_block HR3.out 0 _) (fun W' h => by simp [results, Try.results6, go_sem, h])
  rw [Bool.not_eq_true] at hg
  rw [hg]
  clear hg
  have HCL := hide (fair_clear A c b A' c' s w3 ((HW.out.below HB3.out).more HB3.out.size) ((HW'.out.below HB3.out).more HB3.out.size))
  gi_wp2_with fail
  refine ⟨trivial, (callsIn_wide.2 HCL.out).mono ?_⟩
  rintro e w4 (⟨hk, rfl, hb4⟩ | ⟨hk, pr, tr, lo, hi, l1, l2, g1, g2, hF, hl1, hl2, rfl, hb4, hg1, hg2⟩)
  · simp only
    have HB4 := hide (HB3.out.trans (hb4.mono HB3.out.size))
    have HR4 := hide ((hb4.block _ (lt_of_block HR3.out)).trans HR3.out)
    have hk1 : (checkI b s != 0) = true := by simpa using hk
    generalize checkI b s = ck at *
    have hal : Below w4.heap.size w4 (w4.alloc (.cells zeroC 28)) := (Below.refl _ _).alloc (Nat.le_refl _) _
    have HB5 := hide (HB4.out.alloc HB4.out.size (.cells zeroC 28))
    have HR5 := hide ((hal.block _ (lt_of_block HR4.out)).trans HR4.out)
    have HC5 : Hid ((w4.alloc (.cells zeroC 28)).heap[w4.heap.size]? = some (.cells zeroC 28 (0, 0))) := hide (heap_alloc_new w4 _)
    clear hb4 HB3 HR3 HCL hk hal HB4 HR4
    unfold noCall
    gi_wp2_with fail
    obtain ⟨q, hq⟩ : ∃ q, q = w4.heap.size := ⟨_, rfl⟩
    unfold zeroC at HB5 HR5 HC5
    generalize w4.alloc (.cells #[.int .i64 0, .int .i64 0, .int .i64 0, .int .i64 0, .slice none 0 0, .slice none 0 0] 28) = w5 at *
    rw [← hq] at HC5 ⊢
    clear hq
    refine ⟨trivial, (callsIn_wide.2 (num_any ck w5)).mono ?_⟩
    rintro e w6 ⟨rfl, hb6⟩
    simp only
    have HB6 := hide (HB5.out.trans (hb6.mono HB5.out.size))
    have HR6 := hide ((hb6.block _ (lt_of_block HR5.out)).trans HR5.out)
    have hc6 := (hb6.block _ (lt_of_block HC5.out)).trans HC5.out
    have x0 := cell_of_row _ _ 0 _ _ (0, 0) HR6.out
    have x1 := frozen_of_row _ _ 0 _ _ HR6.out
    have y0 := cell_of_row _ _ 0 _ _ (0, 0) hc6
    have y1 := cell_of_row _ _ 1 _ _ (0, 0) hc6
    have y4 := cell_of_row _ _ 4 _ _ (0, 0) hc6
    have y5 := cell_of_row _ _ 5 _ _ (0, 0) hc6
    simp only [List.getElem?_toArray, List.getElem?_cons_zero, List.getElem?_cons_succ] at x0 y0 y1 y4 y5
    clear hb6 HB5 HR5 HC5 hc6
    gi_wp2_with fail
    exact fair_ret (HB6.out.setCell (Nat.le_refl _) _) (setCell_block HR6.out 0 _) (fun W' h => by simp [results, Try.results6, go_sem, h])
  · simp only
    have HB4 := hide (HB3.out.trans (hb4.mono HB3.out.size))
    have HF := hide hF
    have HK := hide (ok_of_check hk)
    have HL := hide (And.intro hl1 hl2)
    have hal : Below w4.heap.size w4 (w4.alloc (.cells (callV b.length s.length pr tr lo hi g1 g2) 28)) := (Below.refl _ _).alloc (Nat.le_refl _) _
    have HS5 : Hid (FrS w w4.heap.size g1 g2 b.length s.length pr tr lo hi l1 l2 (w4.alloc (.cells (callV b.length s.length pr tr lo hi g1 g2) 28))) := hide
      ⟨HB4.out.alloc HB4.out.size _, (hal.block _ (lt_of_block ((hb4.block _ (lt_of_block HR3.out)).trans HR3.out))).trans ((hb4.block _ (lt_of_block HR3.out)).trans HR3.out), heap_alloc_new w4 _, (hal.block _ (lt_of_block hg1)).trans hg1, (hal.block _ (lt_of_block hg2)).trans hg2⟩
    clear hb4 HB3 HR3 HCL hk hal HB4 hF hl1 hl2 hg1 hg2
    gi_wp2_with fail
    obtain ⟨q, hq⟩ : ∃ q, q = w4.heap.size := ⟨_, rfl⟩
    generalize w4.alloc (.cells (callV b.length s.length pr tr lo hi g1 g2) 28) = w5 at *
    rw [← hq] at HS5 ⊢
    clear hq
    refine ⟨trivial, (callsIn_wide.2 (num_any 0 w5)).mono ?_⟩
    rintro e w6 ⟨rfl, hb6⟩
    simp only
    have HS6 := hide (HS5.out.below hb6)
    clear hb6 HS5
    obtain ⟨c0, c1, c2, c3, c4, c5⟩ := HS6.out.cells
    have hlo : ¬ pr < lo := by have := HF.out.lo; simp only at this; omega
    have hhi : ¬ hi < pr := by have := HF.out.hi; simp only at this; omega
    gi_wp2_with fail
    clear c0 c1 c2 c3 c4 c5 hlo hhi
    have HNN : Hid ((∀ x ∈ l1, 0 ≤ x) ∧ (∀ x ∈ l2, 0 ≤ x)) := hide (by
      have h1 := HF.out.lenB
      have h2 := HF.out.lenS
      simp only at h1 h2
      refine ⟨fun x hx => ?_, fun x hx => ?_⟩
      · obtain ⟨i, hi, rfl⟩ := List.getElem_of_mem hx
        obtain ⟨a, ha, h0, _⟩ := HF.out.buy i _ (List.getElem?_eq_getElem (by omega))
        simp only at ha
        rw [List.getElem?_eq_getElem hi] at ha
        cases ha
        exact h0
      · obtain ⟨i, hi, rfl⟩ := List.getElem_of_mem hx
        obtain ⟨a, ha, h0, _⟩ := HF.out.sell i _ (List.getElem?_eq_getElem (by omega))
        simp only at ha
        rw [List.getElem?_eq_getElem hi] at ha
        cases ha
        exact h0)
    have HLN : Hid (b.length ≤ 4096 ∧ s.length ≤ 4096) := hide ⟨HK.out.1.1, HK.out.2.1⟩
    gi_loopw [7, 9] (fun sv iv W => ∃ k : Nat, k ≤ b.length ∧ sv = .int .i64 (l1.take k).sum ∧ iv = .int .i64 k ∧ FrS w q g1 g2 b.length s.length pr tr lo hi l1 l2 W) (fun _ iv _ => b.length - (intOf iv).toNat)
    case atStart => exact ⟨0, Nat.zero_le _, rfl, rfl, HS6.out⟩
    case round =>
      rename World => wr
      obtain ⟨k, hk, rfl, rfl, hs⟩ := hrel
      have HS := hide hs
      clear HS6 hs
      by_cases hlt : k < b.length
      · obtain ⟨c0, c1, c2, c3, c4, c5⟩ := HS.out.cells
        obtain ⟨⟨x, n⟩, hx⟩ : ∃ z, b[k]? = some z := ⟨b[k], List.getElem?_eq_getElem hlt⟩
        obtain ⟨a, ha, ha0, han, hap, haq⟩ := HF.out.buy k _ hx
        simp only at ha ha0 han hap haq
        obtain ⟨bb, bo, rfl, hbb, hcb⟩ := Wants.at_ HW.out (by omega)
        have e0 := (HS.out.bel.cell (p := ⟨bb, bo + k * 2, none⟩) hbb).trans (hcb k _ hx).1
        have e1 := (HS.out.bel.cell (p := ⟨bb, bo + k * 2 + 1, none⟩) hbb).trans (hcb k _ hx).2
        have m0 := row_at HS.out.b ha
        have hki : (k : Int) < (b.length : Int) := by omega
        simp only at e0 e1
        have HA := hide ha
        have HN := hide (And.intro ha0 han)
        clear hcb hbb hx ha
        gi_upto_region 15 with fail
        clear c2 c3 c4 c5 m0
        gi_cut [143] from 331 (fun v wx => v = .bool false ∧ ∃ m, wx = wr.drewN m)
        case first =>
          as_aux_lemma =>
            have t1 : decide (a < 0) = false := decide_eq_false (by omega)
            have t2 : decide (n < a) = false := decide_eq_false (by omega)
            refine wpIn_region_quiet_lit rfl (by kernel_rfl) (by kernel_rfl) ?_
            by_cases hp : 0 < a
            · have t3 : decide (0 < a) = true := decide_eq_true hp
              have t4 : decide (x < pr) = false := decide_eq_false (by have := hap hp; omega)
              by_cases ht : 0 < tr
              · have t5 : decide (0 < tr) = true := decide_eq_true ht
                by_cases hq : pr < x
                · have t6 : decide (pr < x) = true := decide_eq_true hq
                  have t7 : (a != n) = false := by rw [haq ht hq]; simp
                  clear hap haq
                  repeat (gi_big_quiet_step (fail))
                  refine wpQuietIn_nil ?_
                  intro _ hw'
                  obtain ⟨nq, hw''⟩ := hw'
                  subst hw''
                  gi_wp2_with fail
                  gi_meet
                  exact ⟨rfl, _, rfl⟩
                · have t6 : decide (pr < x) = false := decide_eq_false hq
                  clear hap haq
                  repeat (gi_big_quiet_step (fail))
                  refine wpQuietIn_nil ?_
                  intro _ hw'
                  obtain ⟨nq, hw''⟩ := hw'
                  subst hw''
                  gi_wp2_with fail
                  gi_meet
                  exact ⟨rfl, _, rfl⟩
              · have t5 : decide (0 < tr) = false := decide_eq_false ht
                clear hap haq
                repeat (gi_big_quiet_step (fail))
                refine wpQuietIn_nil ?_
                intro _ hw'
                obtain ⟨nq, hw''⟩ := hw'
                subst hw''
                gi_wp2_with fail
                gi_meet
                exact ⟨rfl, _, rfl⟩
            · have t3 : decide (0 < a) = false := decide_eq_false hp
              by_cases ht : 0 < tr
              · have t5 : decide (0 < tr) = true := decide_eq_true ht
                by_cases hq : pr < x
                · have t6 : decide (pr < x) = true := decide_eq_true hq
                  have t7 : (a != n) = false := by rw [haq ht hq]; simp
                  clear hap haq
                  repeat (gi_big_quiet_step (fail))
                  refine wpQuietIn_nil ?_
                  intro _ hw'
                  obtain ⟨nq, hw''⟩ := hw'
                  subst hw''
                  gi_wp2_with fail
                  gi_meet
                  exact ⟨rfl, _, rfl⟩
                · have t6 : decide (pr < x) = false := decide_eq_false hq
                  clear hap haq
                  repeat (gi_big_quiet_step (fail))
                  refine wpQuietIn_nil ?_
                  intro _ hw'
                  obtain ⟨nq, hw''⟩ := hw'
                  subst hw''
                  gi_wp2_with fail
                  gi_meet
                  exact ⟨rfl, _, rfl⟩
              · have t5 : decide (0 < tr) = false := decide_eq_false ht
                clear hap haq
                repeat (gi_big_quiet_step (fail))
                refine wpQuietIn_nil ?_
                intro _ hw'
                obtain ⟨nq, hw''⟩ := hw'
                subst hw''
                gi_wp2_with fail
                gi_meet
                exact ⟨rfl, _, rfl⟩
        case rest =>
          obtain ⟨rfl, m, rfl⟩ := hcut
          have hss := take_sum_succ HA.out
          have hsb := take_sum_le l1 (k + 1) HNN.out.1
          have hst := HF.out.sumB
          have htr := HF.out.tr
          simp only at hst htr
          have hsw : IntKind.i64.wrap ((l1.take k).sum + a) = (l1.take (k + 1)).sum := by rw [hss, Go.IntWalk.i64_in _ (by omega)]
          have hk1 : IntKind.i64.wrap ((k : Int) + 1) = ((k + 1 : Nat) : Int) := by rw [Go.IntWalk.i64_in _ (by have := HLN.out; omega)]; omega
          clear hss hsb hst htr hap haq ha0 han e0 e1 c0 c1
          gi_wp2_with fail
          go_roundw
          case rel => exact ⟨k + 1, by omega, by first | rfl | exact congrArg (Value.int .i64) hsw, by first | go_num | exact congrArg (Value.int .i64) hk1, HS.out.drewN _⟩
          case measure => first | exact meas_i hlt hk1 | exact meas_i hlt (by omega)
      · obtain rfl : k = b.length := by omega
        have hfull : (l1.take b.length).sum = tr := by
          have h1 := HF.out.lenB
          have h2 := HF.out.sumB
          simp only at h1 h2
          rw [List.take_of_length_le (by omega), h2]
        rw [hfull]
        clear hfull
        gi_wp2_with fail
        gi_loopw [8, 11] (fun sv iv W => ∃ k : Nat, k ≤ s.length ∧ sv = .int .i64 (l2.take k).sum ∧ iv = .int .i64 k ∧ FrS w q g1 g2 b.length s.length pr tr lo hi l1 l2 W) (fun _ iv _ => s.length - (intOf iv).toNat)
        case atStart => exact ⟨0, Nat.zero_le _, rfl, rfl, HS.out⟩
        case round =>
          clear HS
          rename World => wr
          obtain ⟨k, hk, rfl, rfl, hs⟩ := hrel
          have HS := hide hs
          clear hs
          by_cases hlt : k < s.length
          · obtain ⟨c0, c1, c2, c3, c4, c5⟩ := HS.out.cells
            obtain ⟨⟨x, n⟩, hx⟩ : ∃ z, s[k]? = some z := ⟨s[k], List.getElem?_eq_getElem hlt⟩
            obtain ⟨a, ha, ha0, han, hap, haq⟩ := HF.out.sell k _ hx
            simp only at ha ha0 han hap haq
            obtain ⟨bb, bo, rfl, hbb, hcb⟩ := Wants.at_ HW'.out (by omega)
            have e0 := (HS.out.bel.cell (p := ⟨bb, bo + k * 2, none⟩) hbb).trans (hcb k _ hx).1
            have e1 := (HS.out.bel.cell (p := ⟨bb, bo + k * 2 + 1, none⟩) hbb).trans (hcb k _ hx).2
            have m0 := row_at HS.out.s ha
            have hki : (k : Int) < (s.length : Int) := by omega
            simp only at e0 e1
            have HA := hide ha
            have HN := hide (And.intro ha0 han)
            clear hcb hbb hx ha
            gi_upto_region 22 with fail
            clear c2 c3 c4 c5 m0
            gi_cut [206] from 331 (fun v wx => v = .bool false ∧ ∃ m, wx = wr.drewN m)
            case first =>
              as_aux_lemma =>
                have t1 : decide (a < 0) = false := decide_eq_false (by omega)
                have t2 : decide (n < a) = false := decide_eq_false (by omega)
                refine wpIn_region_quiet_lit rfl (by kernel_rfl) (by kernel_rfl) ?_
                by_cases hp : 0 < a
                · have t3 : decide (0 < a) = true := decide_eq_true hp
                  have t4 : decide (pr < x) = false := decide_eq_false (by have := hap hp; omega)
                  by_cases ht : 0 < tr
                  · have t5 : decide (0 < tr) = true := decide_eq_true ht
                    by_cases hq : x < pr
                    · have t6 : decide (x < pr) = true := decide_eq_true hq
                      have t7 : (a != n) = false := by rw [haq ht hq]; simp
                      clear hap haq
                      repeat (gi_big_quiet_step (fail))
                      refine wpQuietIn_nil ?_
                      intro _ hw'
                      obtain ⟨nq, hw''⟩ := hw'
                      subst hw''
                      gi_wp2_with fail
                      gi_meet
                      exact ⟨rfl, _, rfl⟩
                    · have t6 : decide (x < pr) = false := decide_eq_false hq
                      clear hap haq
                      repeat (gi_big_quiet_step (fail))
                      refine wpQuietIn_nil ?_
                      intro _ hw'
                      obtain ⟨nq, hw''⟩ := hw'
                      subst hw''
                      gi_wp2_with fail
                      gi_meet
                      exact ⟨rfl, _, rfl⟩
                  · have t5 : decide (0 < tr) = false := decide_eq_false ht
                    clear hap haq
                    repeat (gi_big_quiet_step (fail))
                    refine wpQuietIn_nil ?_
                    intro _ hw'
                    obtain ⟨nq, hw''⟩ := hw'
                    subst hw''
                    gi_wp2_with fail
                    gi_meet
                    exact ⟨rfl, _, rfl⟩
                · have t3 : decide (0 < a) = false := decide_eq_false hp
                  by_cases ht : 0 < tr
                  · have t5 : decide (0 < tr) = true := decide_eq_true ht
                    by_cases hq : x < pr
                    · have t6 : decide (x < pr) = true := decide_eq_true hq
                      have t7 : (a != n) = false := by rw [haq ht hq]; simp
                      clear hap haq
                      repeat (gi_big_quiet_step (fail))
                      refine wpQuietIn_nil ?_
                      intro _ hw'
                      obtain ⟨nq, hw''⟩ := hw'
                      subst hw''
                      gi_wp2_with fail
                      gi_meet
                      exact ⟨rfl, _, rfl⟩
                    · have t6 : decide (x < pr) = false := decide_eq_false hq
                      clear hap haq
                      repeat (gi_big_quiet_step (fail))
                      refine wpQuietIn_nil ?_
                      intro _ hw'
                      obtain ⟨nq, hw''⟩ := hw'
                      subst hw''
                      gi_wp2_with fail
                      gi_meet
                      exact ⟨rfl, _, rfl⟩
                  · have t5 : decide (0 < tr) = false := decide_eq_false ht
                    clear hap haq
                    repeat (gi_big_quiet_step (fail))
                    refine wpQuietIn_nil ?_
                    intro _ hw'
                    obtain ⟨nq, hw''⟩ := hw'
                    subst hw''
                    gi_wp2_with fail
                    gi_meet
                    exact ⟨rfl, _, rfl⟩
            case rest =>
              obtain ⟨rfl, m, rfl⟩ := hcut
              have hss := take_sum_succ HA.out
              have hsb := take_sum_le l2 (k + 1) HNN.out.2
              have hst := HF.out.sumS
              have htr := HF.out.tr
              simp only at hst htr
              have hsw : IntKind.i64.wrap ((l2.take k).sum + a) = (l2.take (k + 1)).sum := by rw [hss, Go.IntWalk.i64_in _ (by omega)]
              have hk1 : IntKind.i64.wrap ((k : Int) + 1) = ((k + 1 : Nat) : Int) := by rw [Go.IntWalk.i64_in _ (by have := HLN.out; omega)]; omega
              clear hss hsb hst htr hap haq ha0 han e0 e1 c0 c1
              gi_wp2_with fail
              go_roundw
              case rel => exact ⟨k + 1, by omega, by first | rfl | exact congrArg (Value.int .i64) hsw, by first | go_num | exact congrArg (Value.int .i64) hk1, HS.out.drewN _⟩
              case measure => first | exact meas_i hlt hk1 | exact meas_i hlt (by omega)
          · obtain rfl : k = s.length := by omega
            have hfull : (l2.take s.length).sum = tr := by
              have h1 := HF.out.lenS
              have h2 := HF.out.sumS
              simp only at h1 h2
              rw [List.take_of_length_le (by omega), h2]
            rw [hfull]
            clear hfull
            have HFL := hide (fills_any A c b A' c' s wr ((HW.out.below HS.out.bel).more HS.out.bel.size) ((HW'.out.below HS.out.bel).more HS.out.bel.size) (by have := HLN.out; omega) (by have := HLN.out; omega) HZ.out HZ'.out)
            gi_wp2_with fail
            refine ⟨trivial, (callsIn_wide.2 HFL.out).mono ?_⟩
            rintro e w7 ⟨rfl, hb7, A2, c2, A3, c3, hc2, hc3, ho2, ho3⟩
            simp only
            have HS7 := hide (HS.out.below hb7)
            obtain ⟨f, hf⟩ : ∃ f, f = wr.heap.size := ⟨_, rfl⟩
            rw [← hf] at hc2 hc3 ho2 ho3 ⊢
            have HX2 := hide hc2
            have HX3 := hide hc3
            have HO2 := hide ho2
            have HO3 := hide ho3
            have hfe : ∀ (W : World), (binOp .eql 48 (.func (.func 37) #[] #[.pointer (some ⟨f, 0, none⟩), .pointer (some ⟨f + 1, 0, none⟩)]) .nilFunc).run Try.prog W = .ok (.bool false) W := fun _ => rfl
            clear hb7 HFL HS hc2 hc3 ho2 ho3 hf
            gi_upto_region 28 with fail
            clear hfe
            have hmx : Try.prog.follows .mixedOrders = true := by kernel_rfl
            gi_cut [14, 15] from 331 (fun v1 v2 wx => ∃ p1 p2 y1 y2, v1 = .pointer (some ⟨p1, 0, none⟩) ∧ v2 = .pointer (some ⟨p2, 0, none⟩) ∧ Cop w7.drew p1 p2 y1 y2 b.length s.length l1 l2 wx)
            case first =>
              rename_i JJ KK hJJ hKK
              as_aux_lemma =>
                have HG1 : Hid ((∀ u ∈ l1.map (Value.int .i64), u.oneCell' = true) ∧ 0 + b.length ≤ maxLen ∧ (0 + b.length) * 8 ≤ 140737488355328) := hide ⟨fun u hu => (by obtain ⟨x, _, rfl⟩ := List.mem_map.1 hu; rfl), by have := HLN.out; unfold maxLen; omega, by have := HLN.out; omega⟩
                have HG2 : Hid ((∀ u ∈ l2.map (Value.int .i64), u.oneCell' = true) ∧ 0 + s.length ≤ maxLen ∧ (0 + s.length) * 8 ≤ 140737488355328) := hide ⟨fun u hu => (by obtain ⟨x, _, rfl⟩ := List.mem_map.1 hu; rfl), by have := HLN.out; unfold maxLen; omega, by have := HLN.out; omega⟩
                have HRD1 : Hid (∀ W, Below w7.drew.heap.size w7.drew W → Reads W W.heap.size 1 (some ⟨g1, 0, none⟩) b.length (l1.map (Value.int .i64))) := hide (fun W hb => by
                  have h1 := HF.out.lenB
                  simp only at h1
                  rw [← h1]
                  exact ints_row ((hb.block _ (lt_of_block HS7.out.b)).trans HS7.out.b))
                have HRD2 : Hid (∀ W, Below w7.drew.heap.size w7.drew W → Reads W W.heap.size 1 (some ⟨g2, 0, none⟩) s.length (l2.map (Value.int .i64))) := hide (fun W hb => by
                  have h1 := HF.out.lenS
                  simp only at h1
                  rw [← h1]
                  exact ints_row ((hb.block _ (lt_of_block HS7.out.s)).trans HS7.out.s))
                obtain ⟨_, _, _, _, c4, c5⟩ := HS7.out.cells
                have hS0 : w7.drew.cell? ⟨q, 4, none⟩ = some (.slice (some ⟨g1, 0, none⟩) b.length b.length) ∧ w7.drew.cell? ⟨q, 5, none⟩ = some (.slice (some ⟨g2, 0, none⟩) s.length s.length) := ⟨c4, c5⟩
                clear c4 c5
                refine wpIn_region_U 9 (fun X => X.cell? ⟨q, 4, none⟩ = some (.slice (some ⟨g1, 0, none⟩) b.length b.length) ∧ X.cell? ⟨q, 5, none⟩ = some (.slice (some ⟨g2, 0, none⟩) s.length s.length)) hmx (by kernel_rfl) hS0 (fun hHeld => ?_)
                generalize w7.drew = wd at *
                obtain ⟨B0, hB0⟩ : ∃ B0, B0 = wd.heap.size := ⟨_, rfl⟩
                have HM := hide (MidF.start (B0 := B0) (w8 := wd) (Nat.le_of_eq hB0) (.slice none 0 0) (.slice none 0 0) 0 0 b.length s.length l1 l2)
                refine AnyU.take (i := 0) (v := ?v301) rfl (by kernel_rfl) (by kernel_rfl) (by kernel_rfl) (by kernel_rfl) (fun _ _ _ h => h) (Or.inl ⟨by rfl, ?hy301⟩) hHeld ?r301
                case hy301 => (intro w hSw; (try dsimp only at hSw); go_simp <;> with_reducible rfl)
                simp only [Act.put, List.setIfInBounds_toArray, List.set_cons_zero, List.set_cons_succ]
                refine AnyU.take (i := 1) (v := ?v302) rfl (by kernel_rfl) (by kernel_rfl) (by kernel_rfl) (by kernel_rfl) (fun _ _ _ h => h) (Or.inl ⟨by rfl, ?hy302⟩) hHeld ?r302
                case hy302 => (intro w hSw; (try dsimp only at hSw); go_simp <;> with_reducible rfl)
                simp only [Act.put, List.setIfInBounds_toArray, List.set_cons_zero, List.set_cons_succ]
                refine AnyU.take (i := 3) (v := ?v303) rfl (by kernel_rfl) (by kernel_rfl) (by kernel_rfl) (by kernel_rfl) (fun _ _ _ h => h) (Or.inl ⟨by rfl, ?hy303⟩) hHeld ?r303
                case hy303 => (intro w hSw; (try dsimp only at hSw); go_simp <;> with_reducible rfl)
                simp only [Act.put, List.setIfInBounds_toArray, List.set_cons_zero, List.set_cons_succ]
                refine AnyU.take (i := 4) (v := ?v304) rfl (by kernel_rfl) (by kernel_rfl) (by kernel_rfl) (by kernel_rfl) (fun _ _ _ h => h) (Or.inl ⟨by rfl, ?hy304⟩) hHeld ?r304
                case hy304 => (intro w hSw; (try dsimp only at hSw); go_simp <;> with_reducible rfl)
                simp only [Act.put, List.setIfInBounds_toArray, List.set_cons_zero, List.set_cons_succ]
                have HSS : Hid (∀ X, Below wd.heap.size wd X → X.cell? ⟨q, 4, none⟩ = some (.slice (some ⟨g1, 0, none⟩) b.length b.length) ∧ X.cell? ⟨q, 5, none⟩ = some (.slice (some ⟨g2, 0, none⟩) s.length s.length)) := hide (fun X hb => ⟨(hb.cell (World.block_lt_of_cell? _ _ hS0.1)).trans hS0.1, (hb.cell (World.block_lt_of_cell? _ _ hS0.2)).trans hS0.2⟩)
                clear hS0
                refine AnyU.next (js := [2, 6, 7]) (by kernel_rfl) (by simp) (NextU.cons rfl (fun K hK => ?_) (NextU.cons rfl (fun K hK => ?_) (NextU.cons rfl (fun K hK => ?_) (NextU.nil))))
                · have HNI : Hid (wd.ownsRow wd.heap.size 3 1 (.slice none 0 0) 0 []) := hide (World.ownsRow_nil _ _ _ _)
                  have HRD := hide (HRD1.out wd HM.out.bel)
                  refine step_append_any rfl (.const (.slice none 0 0)) (.tmp 216) 26 rfl wd.heap.size 3 (.int .i64 0) 1 8 infoI Try.underlying26 rfl (by decide) _ 0 [] rfl HNI.out wd.heap.size (some ⟨g1, 0, none⟩) b.length b.length _ rfl HRD.out HG1.out.1 HG1.out.2.1 HG1.out.2.2 (Nat.le_refl _) ?_
                  intro y1 wd1 hown1 hg1 _
                  rw [Nat.zero_add, List.nil_append] at hown1
                  obtain ⟨Ay, cy, hv, _⟩ := own_sh hown1
                  subst hv
                  have HM1 := hide (HM.out.app1 hown1 hg1)
                  clear hown1 hg1 HNI HRD HM
                  refine hK.out _ _ (fun _ => HSS.out _ HM1.out.bel) (fun hHeld => ?_)
                  replace hHeld := hHeld (by decide)
                  clear hK K
                  try simp only [Act.put, List.setIfInBounds_toArray, List.set_cons_zero, List.set_cons_succ]
                  refine AnyU.next (js := [5, 6, 7]) (by kernel_rfl) (by simp) (NextU.cons rfl (fun K hK => ?_) (NextU.cons rfl (fun K hK => ?_) (NextU.cons rfl (fun K hK => ?_) (NextU.nil))))
                  · have HNI : Hid (wd1.ownsRow wd1.heap.size 3 1 (.slice none 0 0) 0 []) := hide (World.ownsRow_nil _ _ _ _)
                    have HRD := hide (HRD2.out wd1 HM1.out.bel)
                    refine step_append_any rfl (.const (.slice none 0 0)) (.tmp 219) 26 rfl wd1.heap.size 3 (.int .i64 0) 1 8 infoI Try.underlying26 rfl (by decide) _ 0 [] rfl HNI.out wd1.heap.size (some ⟨g2, 0, none⟩) s.length s.length _ rfl HRD.out HG2.out.1 HG2.out.2.1 HG2.out.2.2 (Nat.le_refl _) ?_
                    intro y2 wd2 hown1 hg1 _
                    rw [Nat.zero_add, List.nil_append] at hown1
                    obtain ⟨Az, cz, hv, _⟩ := own_sh hown1
                    subst hv
                    have HM2 := hide (HM1.out.app2 hown1 hg1)
                    clear hown1 hg1 HNI HRD HM1
                    refine hK.out _ _ (fun _ => HSS.out _ HM2.out.bel) (fun hHeld => ?_)
                    replace hHeld := hHeld (by decide)
                    clear hK K
                    try simp only [Act.put, List.setIfInBounds_toArray, List.set_cons_zero, List.set_cons_succ]
                    refine AnyU.next (js := [6, 7]) (by kernel_rfl) (by simp) (NextU.cons rfl (fun K hK => ?_) (NextU.cons rfl (fun K hK => ?_) (NextU.nil)))
                    · go_simp
                      have HM3 := hide HM2.out.al3
                      refine hK.out _ _ (fun _ => HSS.out _ HM3.out.bel) (fun hHeld => ?_)
                      obtain ⟨p1, hp1⟩ : ∃ p1, p1 = wd2.heap.size := ⟨_, rfl⟩
                      generalize wd2.alloc (.cells #[.slice none 0 0] 26) = wd3 at *
                      rw [← hp1] at HM3 ⊢
                      clear hp1 HM2
                      replace hHeld := hHeld (by decide)
                      clear hK K
                      try simp only [Act.put, List.setIfInBounds_toArray, List.set_cons_zero, List.set_cons_succ]
                      refine AnyU.next (js := [7]) (by kernel_rfl) (by simp) (NextU.cons rfl (fun K hK => ?_) (NextU.nil))
                      go_simp
                      have HM4 := hide HM3.out.al4
                      refine hK.out _ _ (fun _ => HSS.out _ HM4.out.bel) (fun hHeld => ?_)
                      obtain ⟨p2, hp2⟩ : ∃ p2, p2 = wd3.heap.size := ⟨_, rfl⟩
                      generalize wd3.alloc (.cells #[.slice none 0 0] 26) = wd4 at *
                      rw [← hp2] at HM4 ⊢
                      clear hp2 HM3
                      replace hHeld := hHeld (by decide)
                      clear hK K
                      try simp only [Act.put, List.setIfInBounds_toArray, List.set_cons_zero, List.set_cons_succ]
                      obtain ⟨x3, _⟩ := HM4.out.a3 rfl
                      obtain ⟨x4, _⟩ := HM4.out.a4 rfl
                      have x5 := (Below.heap_setCell wd4 ⟨p1, 0, none⟩ (.slice Ay b.length cy) p2 (fun e => HM4.out.np rfl rfl e.symm)).trans x4
                      have z0 := cell_of_row _ _ 0 _ _ (0, 0) x3
                      have z1 := frozen_of_row _ _ 0 _ _ x3
                      have z2 := cell_of_row _ _ 0 _ _ (0, 0) x5
                      have z3 := frozen_of_row _ _ 0 _ _ x5
                      simp only [List.getElem?_toArray, List.getElem?_cons_zero] at z0 z2
                      have HDN := hide (HM4.out.done hB0)
                      have HB8 : Hid (Below wd.heap.size wd (wd4.setCell ⟨p1, 0, none⟩ (.slice Ay b.length cy))) := hide (HM4.out.bel.setCell (hB0 ▸ (HM4.out.a3 rfl).2) _)
                      clear x3 x4 x5 HM4
                      refine AnyU.next (js := [8]) (by kernel_rfl) (by simp) (NextU.cons rfl (fun K hK => ?_) NextU.nil)
                      go_simp
                      refine hK.out _ _ (fun _ => HSS.out _ HB8.out) (fun hHeld => ?_)
                      replace hHeld := hHeld (by decide)
                      clear hK K
                      try simp only [Act.put, List.setIfInBounds_toArray, List.set_cons_zero, List.set_cons_succ]
                      refine AnyU.next (js := [9]) (by kernel_rfl) (by simp) (NextU.cons rfl (fun K hK => ?_) NextU.nil)
                      go_simp
                      refine hK.out _ _ (fun h => absurd h (by decide)) (fun _ => ?_)
                      clear hK K
                      try simp only [Act.put, List.setIfInBounds_toArray, List.set_cons_zero, List.set_cons_succ]
                      refine AnyU.over (by kernel_rfl) ?_ _
                      show KK _ _
                      refine hKK _ _ (Met.intro (hJJ _ _ ?_))
                      (repeat apply Exists.intro)
                      exact ⟨⟨p1, p2, _, _, rfl, rfl, HDN.out⟩, rfl⟩
                    · go_simp
                      have HM5 := hide HM2.out.al4
                      refine hK.out _ _ (fun _ => HSS.out _ HM5.out.bel) (fun hHeld => ?_)
                      obtain ⟨p2, hp2⟩ : ∃ p2, p2 = wd2.heap.size := ⟨_, rfl⟩
                      generalize wd2.alloc (.cells #[.slice none 0 0] 26) = wd5 at *
                      rw [← hp2] at HM5 ⊢
                      clear hp2 HM2
                      replace hHeld := hHeld (by decide)
                      clear hK K
                      try simp only [Act.put, List.setIfInBounds_toArray, List.set_cons_zero, List.set_cons_succ]
                      refine AnyU.next (js := [6]) (by kernel_rfl) (by simp) (NextU.cons rfl (fun K hK => ?_) (NextU.nil))
                      go_simp
                      have HM6 := hide HM5.out.al3
                      refine hK.out _ _ (fun _ => HSS.out _ HM6.out.bel) (fun hHeld => ?_)
                      obtain ⟨p1, hp1⟩ : ∃ p1, p1 = wd5.heap.size := ⟨_, rfl⟩
                      generalize wd5.alloc (.cells #[.slice none 0 0] 26) = wd6 at *
                      rw [← hp1] at HM6 ⊢
                      clear hp1 HM5
                      replace hHeld := hHeld (by decide)
                      clear hK K
                      try simp only [Act.put, List.setIfInBounds_toArray, List.set_cons_zero, List.set_cons_succ]
                      obtain ⟨x3, _⟩ := HM6.out.a3 rfl
                      obtain ⟨x4, _⟩ := HM6.out.a4 rfl
                      have x5 := (Below.heap_setCell wd6 ⟨p1, 0, none⟩ (.slice Ay b.length cy) p2 (fun e => HM6.out.np rfl rfl e.symm)).trans x4
                      have z0 := cell_of_row _ _ 0 _ _ (0, 0) x3
                      have z1 := frozen_of_row _ _ 0 _ _ x3
                      have z2 := cell_of_row _ _ 0 _ _ (0, 0) x5
                      have z3 := frozen_of_row _ _ 0 _ _ x5
                      simp only [List.getElem?_toArray, List.getElem?_cons_zero] at z0 z2
                      have HDN := hide (HM6.out.done hB0)
                      have HB8 : Hid (Below wd.heap.size wd (wd6.setCell ⟨p1, 0, none⟩ (.slice Ay b.length cy))) := hide (HM6.out.bel.setCell (hB0 ▸ (HM6.out.a3 rfl).2) _)
                      clear x3 x4 x5 HM6
                      refine AnyU.next (js := [8]) (by kernel_rfl) (by simp) (NextU.cons rfl (fun K hK => ?_) NextU.nil)
                      go_simp
                      refine hK.out _ _ (fun _ => HSS.out _ HB8.out) (fun hHeld => ?_)
                      replace hHeld := hHeld (by decide)
                      clear hK K
                      try simp only [Act.put, List.setIfInBounds_toArray, List.set_cons_zero, List.set_cons_succ]
                      refine AnyU.next (js := [9]) (by kernel_rfl) (by simp) (NextU.cons rfl (fun K hK => ?_) NextU.nil)
                      go_simp
                      refine hK.out _ _ (fun h => absurd h (by decide)) (fun _ => ?_)
                      clear hK K
                      try simp only [Act.put, List.setIfInBounds_toArray, List.set_cons_zero, List.set_cons_succ]
                      refine AnyU.over (by kernel_rfl) ?_ _
                      show KK _ _
                      refine hKK _ _ (Met.intro (hJJ _ _ ?_))
                      (repeat apply Exists.intro)
                      exact ⟨⟨p1, p2, _, _, rfl, rfl, HDN.out⟩, rfl⟩
                  · go_simp
                    have HM7 := hide HM1.out.al3
                    refine hK.out _ _ (fun _ => HSS.out _ HM7.out.bel) (fun hHeld => ?_)
                    obtain ⟨p1, hp1⟩ : ∃ p1, p1 = wd1.heap.size := ⟨_, rfl⟩
                    generalize wd1.alloc (.cells #[.slice none 0 0] 26) = wd7 at *
                    rw [← hp1] at HM7 ⊢
                    clear hp1 HM1
                    replace hHeld := hHeld (by decide)
                    clear hK K
                    try simp only [Act.put, List.setIfInBounds_toArray, List.set_cons_zero, List.set_cons_succ]
                    refine AnyU.next (js := [5, 7]) (by kernel_rfl) (by simp) (NextU.cons rfl (fun K hK => ?_) (NextU.cons rfl (fun K hK => ?_) (NextU.nil)))
                    · have HNI : Hid (wd7.ownsRow wd7.heap.size 3 1 (.slice none 0 0) 0 []) := hide (World.ownsRow_nil _ _ _ _)
                      have HRD := hide (HRD2.out wd7 HM7.out.bel)
                      refine step_append_any rfl (.const (.slice none 0 0)) (.tmp 219) 26 rfl wd7.heap.size 3 (.int .i64 0) 1 8 infoI Try.underlying26 rfl (by decide) _ 0 [] rfl HNI.out wd7.heap.size (some ⟨g2, 0, none⟩) s.length s.length _ rfl HRD.out HG2.out.1 HG2.out.2.1 HG2.out.2.2 (Nat.le_refl _) ?_
                      intro y2 wd8 hown1 hg1 _
                      rw [Nat.zero_add, List.nil_append] at hown1
                      obtain ⟨Az, cz, hv, _⟩ := own_sh hown1
                      subst hv
                      have HM8 := hide (HM7.out.app2 hown1 hg1)
                      clear hown1 hg1 HNI HRD HM7
                      refine hK.out _ _ (fun _ => HSS.out _ HM8.out.bel) (fun hHeld => ?_)
                      replace hHeld := hHeld (by decide)
                      clear hK K
                      try simp only [Act.put, List.setIfInBounds_toArray, List.set_cons_zero, List.set_cons_succ]
                      refine AnyU.next (js := [7]) (by kernel_rfl) (by simp) (NextU.cons rfl (fun K hK => ?_) (NextU.nil))
                      go_simp
                      have HM9 := hide HM8.out.al4
                      refine hK.out _ _ (fun _ => HSS.out _ HM9.out.bel) (fun hHeld => ?_)
                      obtain ⟨p2, hp2⟩ : ∃ p2, p2 = wd8.heap.size := ⟨_, rfl⟩
                      generalize wd8.alloc (.cells #[.slice none 0 0] 26) = wd9 at *
                      rw [← hp2] at HM9 ⊢
                      clear hp2 HM8
                      replace hHeld := hHeld (by decide)
                      clear hK K
                      try simp only [Act.put, List.setIfInBounds_toArray, List.set_cons_zero, List.set_cons_succ]
                      obtain ⟨x3, _⟩ := HM9.out.a3 rfl
                      obtain ⟨x4, _⟩ := HM9.out.a4 rfl
                      have x5 := (Below.heap_setCell wd9 ⟨p1, 0, none⟩ (.slice Ay b.length cy) p2 (fun e => HM9.out.np rfl rfl e.symm)).trans x4
                      have z0 := cell_of_row _ _ 0 _ _ (0, 0) x3
                      have z1 := frozen_of_row _ _ 0 _ _ x3
                      have z2 := cell_of_row _ _ 0 _ _ (0, 0) x5
                      have z3 := frozen_of_row _ _ 0 _ _ x5
                      simp only [List.getElem?_toArray, List.getElem?_cons_zero] at z0 z2
                      have HDN := hide (HM9.out.done hB0)
                      have HB8 : Hid (Below wd.heap.size wd (wd9.setCell ⟨p1, 0, none⟩ (.slice Ay b.length cy))) := hide (HM9.out.bel.setCell (hB0 ▸ (HM9.out.a3 rfl).2) _)
                      clear x3 x4 x5 HM9
                      refine AnyU.next (js := [8]) (by kernel_rfl) (by simp) (NextU.cons rfl (fun K hK => ?_) NextU.nil)
                      go_simp
                      refine hK.out _ _ (fun _ => HSS.out _ HB8.out) (fun hHeld => ?_)
                      replace hHeld := hHeld (by decide)
                      clear hK K
                      try simp only [Act.put, List.setIfInBounds_toArray, List.set_cons_zero, List.set_cons_succ]
                      refine AnyU.next (js := [9]) (by kernel_rfl) (by simp) (NextU.cons rfl (fun K hK => ?_) NextU.nil)
                      go_simp
                      refine hK.out _ _ (fun h => absurd h (by decide)) (fun _ => ?_)
                      clear hK K
                      try simp only [Act.put, List.setIfInBounds_toArray, List.set_cons_zero, List.set_cons_succ]
                      refine AnyU.over (by kernel_rfl) ?_ _
                      show KK _ _
                      refine hKK _ _ (Met.intro (hJJ _ _ ?_))
                      (repeat apply Exists.intro)
                      exact ⟨⟨p1, p2, _, _, rfl, rfl, HDN.out⟩, rfl⟩
                    · go_simp
                      have HM10 := hide HM7.out.al4
                      refine hK.out _ _ (fun _ => HSS.out _ HM10.out.bel) (fun hHeld => ?_)
                      obtain ⟨p2, hp2⟩ : ∃ p2, p2 = wd7.heap.size := ⟨_, rfl⟩
                      generalize wd7.alloc (.cells #[.slice none 0 0] 26) = wd10 at *
                      rw [← hp2] at HM10 ⊢
                      clear hp2 HM7
                      replace hHeld := hHeld (by decide)
                      clear hK K
                      try simp only [Act.put, List.setIfInBounds_toArray, List.set_cons_zero, List.set_cons_succ]
                      refine AnyU.next (js := [5]) (by kernel_rfl) (by simp) (NextU.cons rfl (fun K hK => ?_) (NextU.nil))
                      have HNI : Hid (wd10.ownsRow wd10.heap.size 3 1 (.slice none 0 0) 0 []) := hide (World.ownsRow_nil _ _ _ _)
                      have HRD := hide (HRD2.out wd10 HM10.out.bel)
                      refine step_append_any rfl (.const (.slice none 0 0)) (.tmp 219) 26 rfl wd10.heap.size 3 (.int .i64 0) 1 8 infoI Try.underlying26 rfl (by decide) _ 0 [] rfl HNI.out wd10.heap.size (some ⟨g2, 0, none⟩) s.length s.length _ rfl HRD.out HG2.out.1 HG2.out.2.1 HG2.out.2.2 (Nat.le_refl _) ?_
                      intro y2 wd11 hown1 hg1 _
                      rw [Nat.zero_add, List.nil_append] at hown1
                      obtain ⟨Az, cz, hv, _⟩ := own_sh hown1
                      subst hv
                      have HM11 := hide (HM10.out.app2 hown1 hg1)
                      clear hown1 hg1 HNI HRD HM10
                      refine hK.out _ _ (fun _ => HSS.out _ HM11.out.bel) (fun hHeld => ?_)
                      replace hHeld := hHeld (by decide)
                      clear hK K
                      try simp only [Act.put, List.setIfInBounds_toArray, List.set_cons_zero, List.set_cons_succ]
                      obtain ⟨x3, _⟩ := HM11.out.a3 rfl
                      obtain ⟨x4, _⟩ := HM11.out.a4 rfl
                      have x5 := (Below.heap_setCell wd11 ⟨p1, 0, none⟩ (.slice Ay b.length cy) p2 (fun e => HM11.out.np rfl rfl e.symm)).trans x4
                      have z0 := cell_of_row _ _ 0 _ _ (0, 0) x3
                      have z1 := frozen_of_row _ _ 0 _ _ x3
                      have z2 := cell_of_row _ _ 0 _ _ (0, 0) x5
                      have z3 := frozen_of_row _ _ 0 _ _ x5
                      simp only [List.getElem?_toArray, List.getElem?_cons_zero] at z0 z2
                      have HDN := hide (HM11.out.done hB0)
                      have HB8 : Hid (Below wd.heap.size wd (wd11.setCell ⟨p1, 0, none⟩ (.slice Ay b.length cy))) := hide (HM11.out.bel.setCell (hB0 ▸ (HM11.out.a3 rfl).2) _)
                      clear x3 x4 x5 HM11
                      refine AnyU.next (js := [8]) (by kernel_rfl) (by simp) (NextU.cons rfl (fun K hK => ?_) NextU.nil)
                      go_simp
                      refine hK.out _ _ (fun _ => HSS.out _ HB8.out) (fun hHeld => ?_)
                      replace hHeld := hHeld (by decide)
                      clear hK K
                      try simp only [Act.put, List.setIfInBounds_toArray, List.set_cons_zero, List.set_cons_succ]
                      refine AnyU.next (js := [9]) (by kernel_rfl) (by simp) (NextU.cons rfl (fun K hK => ?_) NextU.nil)
                      go_simp
                      refine hK.out _ _ (fun h => absurd h (by decide)) (fun _ => ?_)
                      clear hK K
                      try simp only [Act.put, List.setIfInBounds_toArray, List.set_cons_zero, List.set_cons_succ]
                      refine AnyU.over (by kernel_rfl) ?_ _
                      show KK _ _
                      refine hKK _ _ (Met.intro (hJJ _ _ ?_))
                      (repeat apply Exists.intro)
                      exact ⟨⟨p1, p2, _, _, rfl, rfl, HDN.out⟩, rfl⟩
                  · go_simp
                    have HM12 := hide HM1.out.al4
                    refine hK.out _ _ (fun _ => HSS.out _ HM12.out.bel) (fun hHeld => ?_)
                    obtain ⟨p2, hp2⟩ : ∃ p2, p2 = wd1.heap.size := ⟨_, rfl⟩
                    generalize wd1.alloc (.cells #[.slice none 0 0] 26) = wd12 at *
                    rw [← hp2] at HM12 ⊢
                    clear hp2 HM1
                    replace hHeld := hHeld (by decide)
                    clear hK K
                    try simp only [Act.put, List.setIfInBounds_toArray, List.set_cons_zero, List.set_cons_succ]
                    refine AnyU.next (js := [5, 6]) (by kernel_rfl) (by simp) (NextU.cons rfl (fun K hK => ?_) (NextU.cons rfl (fun K hK => ?_) (NextU.nil)))
                    · have HNI : Hid (wd12.ownsRow wd12.heap.size 3 1 (.slice none 0 0) 0 []) := hide (World.ownsRow_nil _ _ _ _)
                      have HRD := hide (HRD2.out wd12 HM12.out.bel)
                      refine step_append_any rfl (.const (.slice none 0 0)) (.tmp 219) 26 rfl wd12.heap.size 3 (.int .i64 0) 1 8 infoI Try.underlying26 rfl (by decide) _ 0 [] rfl HNI.out wd12.heap.size (some ⟨g2, 0, none⟩) s.length s.length _ rfl HRD.out HG2.out.1 HG2.out.2.1 HG2.out.2.2 (Nat.le_refl _) ?_
                      intro y2 wd13 hown1 hg1 _
                      rw [Nat.zero_add, List.nil_append] at hown1
                      obtain ⟨Az, cz, hv, _⟩ := own_sh hown1
                      subst hv
                      have HM13 := hide (HM12.out.app2 hown1 hg1)
                      clear hown1 hg1 HNI HRD HM12
                      refine hK.out _ _ (fun _ => HSS.out _ HM13.out.bel) (fun hHeld => ?_)
                      replace hHeld := hHeld (by decide)
                      clear hK K
                      try simp only [Act.put, List.setIfInBounds_toArray, List.set_cons_zero, List.set_cons_succ]
                      refine AnyU.next (js := [6]) (by kernel_rfl) (by simp) (NextU.cons rfl (fun K hK => ?_) (NextU.nil))
                      go_simp
                      have HM14 := hide HM13.out.al3
                      refine hK.out _ _ (fun _ => HSS.out _ HM14.out.bel) (fun hHeld => ?_)
                      obtain ⟨p1, hp1⟩ : ∃ p1, p1 = wd13.heap.size := ⟨_, rfl⟩
                      generalize wd13.alloc (.cells #[.slice none 0 0] 26) = wd14 at *
                      rw [← hp1] at HM14 ⊢
                      clear hp1 HM13
                      replace hHeld := hHeld (by decide)
                      clear hK K
                      try simp only [Act.put, List.setIfInBounds_toArray, List.set_cons_zero, List.set_cons_succ]
                      obtain ⟨x3, _⟩ := HM14.out.a3 rfl
                      obtain ⟨x4, _⟩ := HM14.out.a4 rfl
                      have x5 := (Below.heap_setCell wd14 ⟨p1, 0, none⟩ (.slice Ay b.length cy) p2 (fun e => HM14.out.np rfl rfl e.symm)).trans x4
                      have z0 := cell_of_row _ _ 0 _ _ (0, 0) x3
                      have z1 := frozen_of_row _ _ 0 _ _ x3
                      have z2 := cell_of_row _ _ 0 _ _ (0, 0) x5
                      have z3 := frozen_of_row _ _ 0 _ _ x5
                      simp only [List.getElem?_toArray, List.getElem?_cons_zero] at z0 z2
                      have HDN := hide (HM14.out.done hB0)
                      have HB8 : Hid (Below wd.heap.size wd (wd14.setCell ⟨p1, 0, none⟩ (.slice Ay b.length cy))) := hide (HM14.out.bel.setCell (hB0 ▸ (HM14.out.a3 rfl).2) _)
                      clear x3 x4 x5 HM14
                      refine AnyU.next (js := [8]) (by kernel_rfl) (by simp) (NextU.cons rfl (fun K hK => ?_) NextU.nil)
                      go_simp
                      refine hK.out _ _ (fun _ => HSS.out _ HB8.out) (fun hHeld => ?_)
                      replace hHeld := hHeld (by decide)
                      clear hK K
                      try simp only [Act.put, List.setIfInBounds_toArray, List.set_cons_zero, List.set_cons_succ]
                      refine AnyU.next (js := [9]) (by kernel_rfl) (by simp) (NextU.cons rfl (fun K hK => ?_) NextU.nil)
                      go_simp
                      refine hK.out _ _ (fun h => absurd h (by decide)) (fun _ => ?_)
                      clear hK K
                      try simp only [Act.put, List.setIfInBounds_toArray, List.set_cons_zero, List.set_cons_succ]
                      refine AnyU.over (by kernel_rfl) ?_ _
                      show KK _ _
                      refine hKK _ _ (Met.intro (hJJ _ _ ?_))
                      (repeat apply Exists.intro)
                      exact ⟨⟨p1, p2, _, _, rfl, rfl, HDN.out⟩, rfl⟩
                    · go_simp
                      have HM15 := hide HM12.out.al3
                      refine hK.out _ _ (fun _ => HSS.out _ HM15.out.bel) (fun hHeld => ?_)
                      obtain ⟨p1, hp1⟩ : ∃ p1, p1 = wd12.heap.size := ⟨_, rfl⟩
                      generalize wd12.alloc (.cells #[.slice none 0 0] 26) = wd15 at *
                      rw [← hp1] at HM15 ⊢
                      clear hp1 HM12
                      replace hHeld := hHeld (by decide)
                      clear hK K
                      try simp only [Act.put, List.setIfInBounds_toArray, List.set_cons_zero, List.set_cons_succ]
                      refine AnyU.next (js := [5]) (by kernel_rfl) (by simp) (NextU.cons rfl (fun K hK => ?_) (NextU.nil))
                      have HNI : Hid (wd15.ownsRow wd15.heap.size 3 1 (.slice none 0 0) 0 []) := hide (World.ownsRow_nil _ _ _ _)
                      have HRD := hide (HRD2.out wd15 HM15.out.bel)
                      refine step_append_any rfl (.const (.slice none 0 0)) (.tmp 219) 26 rfl wd15.heap.size 3 (.int .i64 0) 1 8 infoI Try.underlying26 rfl (by decide) _ 0 [] rfl HNI.out wd15.heap.size (some ⟨g2, 0, none⟩) s.length s.length _ rfl HRD.out HG2.out.1 HG2.out.2.1 HG2.out.2.2 (Nat.le_refl _) ?_
                      intro y2 wd16 hown1 hg1 _
                      rw [Nat.zero_add, List.nil_append] at hown1
                      obtain ⟨Az, cz, hv, _⟩ := own_sh hown1
                      subst hv
                      have HM16 := hide (HM15.out.app2 hown1 hg1)
                      clear hown1 hg1 HNI HRD HM15
                      refine hK.out _ _ (fun _ => HSS.out _ HM16.out.bel) (fun hHeld => ?_)
                      replace hHeld := hHeld (by decide)
                      clear hK K
                      try simp only [Act.put, List.setIfInBounds_toArray, List.set_cons_zero, List.set_cons_succ]
                      obtain ⟨x3, _⟩ := HM16.out.a3 rfl
                      obtain ⟨x4, _⟩ := HM16.out.a4 rfl
                      have x5 := (Below.heap_setCell wd16 ⟨p1, 0, none⟩ (.slice Ay b.length cy) p2 (fun e => HM16.out.np rfl rfl e.symm)).trans x4
                      have z0 := cell_of_row _ _ 0 _ _ (0, 0) x3
                      have z1 := frozen_of_row _ _ 0 _ _ x3
                      have z2 := cell_of_row _ _ 0 _ _ (0, 0) x5
                      have z3 := frozen_of_row _ _ 0 _ _ x5
                      simp only [List.getElem?_toArray, List.getElem?_cons_zero] at z0 z2
                      have HDN := hide (HM16.out.done hB0)
                      have HB8 : Hid (Below wd.heap.size wd (wd16.setCell ⟨p1, 0, none⟩ (.slice Ay b.length cy))) := hide (HM16.out.bel.setCell (hB0 ▸ (HM16.out.a3 rfl).2) _)
                      clear x3 x4 x5 HM16
                      refine AnyU.next (js := [8]) (by kernel_rfl) (by simp) (NextU.cons rfl (fun K hK => ?_) NextU.nil)
                      go_simp
                      refine hK.out _ _ (fun _ => HSS.out _ HB8.out) (fun hHeld => ?_)
                      replace hHeld := hHeld (by decide)
                      clear hK K
                      try simp only [Act.put, List.setIfInBounds_toArray, List.set_cons_zero, List.set_cons_succ]
                      refine AnyU.next (js := [9]) (by kernel_rfl) (by simp) (NextU.cons rfl (fun K hK => ?_) NextU.nil)
                      go_simp
                      refine hK.out _ _ (fun h => absurd h (by decide)) (fun _ => ?_)
                      clear hK K
                      try simp only [Act.put, List.setIfInBounds_toArray, List.set_cons_zero, List.set_cons_succ]
                      refine AnyU.over (by kernel_rfl) ?_ _
                      show KK _ _
                      refine hKK _ _ (Met.intro (hJJ _ _ ?_))
                      (repeat apply Exists.intro)
                      exact ⟨⟨p1, p2, _, _, rfl, rfl, HDN.out⟩, rfl⟩
                · go_simp
                  have HM17 := hide HM.out.al3
                  refine hK.out _ _ (fun _ => HSS.out _ HM17.out.bel) (fun hHeld => ?_)
                  obtain ⟨p1, hp1⟩ : ∃ p1, p1 = wd.heap.size := ⟨_, rfl⟩
                  generalize wd.alloc (.cells #[.slice none 0 0] 26) = wd17 at *
                  rw [← hp1] at HM17 ⊢
                  clear hp1 HM
                  replace hHeld := hHeld (by decide)
                  clear hK K
                  try simp only [Act.put, List.setIfInBounds_toArray, List.set_cons_zero, List.set_cons_succ]
                  refine AnyU.next (js := [2, 7]) (by kernel_rfl) (by simp) (NextU.cons rfl (fun K hK => ?_) (NextU.cons rfl (fun K hK => ?_) (NextU.nil)))
                  · have HNI : Hid (wd17.ownsRow wd17.heap.size 3 1 (.slice none 0 0) 0 []) := hide (World.ownsRow_nil _ _ _ _)
                    have HRD := hide (HRD1.out wd17 HM17.out.bel)
                    refine step_append_any rfl (.const (.slice none 0 0)) (.tmp 216) 26 rfl wd17.heap.size 3 (.int .i64 0) 1 8 infoI Try.underlying26 rfl (by decide) _ 0 [] rfl HNI.out wd17.heap.size (some ⟨g1, 0, none⟩) b.length b.length _ rfl HRD.out HG1.out.1 HG1.out.2.1 HG1.out.2.2 (Nat.le_refl _) ?_
                    intro y1 wd18 hown1 hg1 _
                    rw [Nat.zero_add, List.nil_append] at hown1
                    obtain ⟨Ay, cy, hv, _⟩ := own_sh hown1
                    subst hv
                    have HM18 := hide (HM17.out.app1 hown1 hg1)
                    clear hown1 hg1 HNI HRD HM17
                    refine hK.out _ _ (fun _ => HSS.out _ HM18.out.bel) (fun hHeld => ?_)
                    replace hHeld := hHeld (by decide)
                    clear hK K
                    try simp only [Act.put, List.setIfInBounds_toArray, List.set_cons_zero, List.set_cons_succ]
                    refine AnyU.next (js := [5, 7]) (by kernel_rfl) (by simp) (NextU.cons rfl (fun K hK => ?_) (NextU.cons rfl (fun K hK => ?_) (NextU.nil)))
                    · have HNI : Hid (wd18.ownsRow wd18.heap.size 3 1 (.slice none 0 0) 0 []) := hide (World.ownsRow_nil _ _ _ _)
                      have HRD := hide (HRD2.out wd18 HM18.out.bel)
                      refine step_append_any rfl (.const (.slice none 0 0)) (.tmp 219) 26 rfl wd18.heap.size 3 (.int .i64 0) 1 8 infoI Try.underlying26 rfl (by decide) _ 0 [] rfl HNI.out wd18.heap.size (some ⟨g2, 0, none⟩) s.length s.length _ rfl HRD.out HG2.out.1 HG2.out.2.1 HG2.out.2.2 (Nat.le_refl _) ?_
                      intro y2 wd19 hown1 hg1 _
                      rw [Nat.zero_add, List.nil_append] at hown1
                      obtain ⟨Az, cz, hv, _⟩ := own_sh hown1
                      subst hv
                      have HM19 := hide (HM18.out.app2 hown1 hg1)
                      clear hown1 hg1 HNI HRD HM18
                      refine hK.out _ _ (fun _ => HSS.out _ HM19.out.bel) (fun hHeld => ?_)
                      replace hHeld := hHeld (by decide)
                      clear hK K
                      try simp only [Act.put, List.setIfInBounds_toArray, List.set_cons_zero, List.set_cons_succ]
                      refine AnyU.next (js := [7]) (by kernel_rfl) (by simp) (NextU.cons rfl (fun K hK => ?_) (NextU.nil))
                      go_simp
                      have HM20 := hide HM19.out.al4
                      refine hK.out _ _ (fun _ => HSS.out _ HM20.out.bel) (fun hHeld => ?_)
                      obtain ⟨p2, hp2⟩ : ∃ p2, p2 = wd19.heap.size := ⟨_, rfl⟩
                      generalize wd19.alloc (.cells #[.slice none 0 0] 26) = wd20 at *
                      rw [← hp2] at HM20 ⊢
                      clear hp2 HM19
                      replace hHeld := hHeld (by decide)
                      clear hK K
                      try simp only [Act.put, List.setIfInBounds_toArray, List.set_cons_zero, List.set_cons_succ]
                      obtain ⟨x3, _⟩ := HM20.out.a3 rfl
                      obtain ⟨x4, _⟩ := HM20.out.a4 rfl
                      have x5 := (Below.heap_setCell wd20 ⟨p1, 0, none⟩ (.slice Ay b.length cy) p2 (fun e => HM20.out.np rfl rfl e.symm)).trans x4
                      have z0 := cell_of_row _ _ 0 _ _ (0, 0) x3
                      have z1 := frozen_of_row _ _ 0 _ _ x3
                      have z2 := cell_of_row _ _ 0 _ _ (0, 0) x5
                      have z3 := frozen_of_row _ _ 0 _ _ x5
                      simp only [List.getElem?_toArray, List.getElem?_cons_zero] at z0 z2
                      have HDN := hide (HM20.out.done hB0)
                      have HB8 : Hid (Below wd.heap.size wd (wd20.setCell ⟨p1, 0, none⟩ (.slice Ay b.length cy))) := hide (HM20.out.bel.setCell (hB0 ▸ (HM20.out.a3 rfl).2) _)
                      clear x3 x4 x5 HM20
                      refine AnyU.next (js := [8]) (by kernel_rfl) (by simp) (NextU.cons rfl (fun K hK => ?_) NextU.nil)
                      go_simp
                      refine hK.out _ _ (fun _ => HSS.out _ HB8.out) (fun hHeld => ?_)
                      replace hHeld := hHeld (by decide)
                      clear hK K
                      try simp only [Act.put, List.setIfInBounds_toArray, List.set_cons_zero, List.set_cons_succ]
                      refine AnyU.next (js := [9]) (by kernel_rfl) (by simp) (NextU.cons rfl (fun K hK => ?_) NextU.nil)
                      go_simp
                      refine hK.out _ _ (fun h => absurd h (by decide)) (fun _ => ?_)
                      clear hK K
                      try simp only [Act.put, List.setIfInBounds_toArray, List.set_cons_zero, List.set_cons_succ]
                      refine AnyU.over (by kernel_rfl) ?_ _
                      show KK _ _
                      refine hKK _ _ (Met.intro (hJJ _ _ ?_))
                      (repeat apply Exists.intro)
                      exact ⟨⟨p1, p2, _, _, rfl, rfl, HDN.out⟩, rfl⟩
                    · go_simp
                      have HM21 := hide HM18.out.al4
                      refine hK.out _ _ (fun _ => HSS.out _ HM21.out.bel) (fun hHeld => ?_)
                      obtain ⟨p2, hp2⟩ : ∃ p2, p2 = wd18.heap.size := ⟨_, rfl⟩
                      generalize wd18.alloc (.cells #[.slice none 0 0] 26) = wd21 at *
                      rw [← hp2] at HM21 ⊢
                      clear hp2 HM18
                      replace hHeld := hHeld (by decide)
                      clear hK K
                      try simp only [Act.put, List.setIfInBounds_toArray, List.set_cons_zero, List.set_cons_succ]
                      refine AnyU.next (js := [5]) (by kernel_rfl) (by simp) (NextU.cons rfl (fun K hK => ?_) (NextU.nil))
                      have HNI : Hid (wd21.ownsRow wd21.heap.size 3 1 (.slice none 0 0) 0 []) := hide (World.ownsRow_nil _ _ _ _)
                      have HRD := hide (HRD2.out wd21 HM21.out.bel)
                      refine step_append_any rfl (.const (.slice none 0 0)) (.tmp 219) 26 rfl wd21.heap.size 3 (.int .i64 0) 1 8 infoI Try.underlying26 rfl (by decide) _ 0 [] rfl HNI.out wd21.heap.size (some ⟨g2, 0, none⟩) s.length s.length _ rfl HRD.out HG2.out.1 HG2.out.2.1 HG2.out.2.2 (Nat.le_refl _) ?_
                      intro y2 wd22 hown1 hg1 _
                      rw [Nat.zero_add, List.nil_append] at hown1
                      obtain ⟨Az, cz, hv, _⟩ := own_sh hown1
                      subst hv
                      have HM22 := hide (HM21.out.app2 hown1 hg1)
                      clear hown1 hg1 HNI HRD HM21
                      refine hK.out _ _ (fun _ => HSS.out _ HM22.out.bel) (fun hHeld => ?_)
                      replace hHeld := hHeld (by decide)
                      clear hK K
                      try simp only [Act.put, List.setIfInBounds_toArray, List.set_cons_zero, List.set_cons_succ]
                      obtain ⟨x3, _⟩ := HM22.out.a3 rfl
                      obtain ⟨x4, _⟩ := HM22.out.a4 rfl
                      have x5 := (Below.heap_setCell wd22 ⟨p1, 0, none⟩ (.slice Ay b.length cy) p2 (fun e => HM22.out.np rfl rfl e.symm)).trans x4
                      have z0 := cell_of_row _ _ 0 _ _ (0, 0) x3
                      have z1 := frozen_of_row _ _ 0 _ _ x3
                      have z2 := cell_of_row _ _ 0 _ _ (0, 0) x5
                      have z3 := frozen_of_row _ _ 0 _ _ x5
                      simp only [List.getElem?_toArray, List.getElem?_cons_zero] at z0 z2
                      have HDN := hide (HM22.out.done hB0)
                      have HB8 : Hid (Below wd.heap.size wd (wd22.setCell ⟨p1, 0, none⟩ (.slice Ay b.length cy))) := hide (HM22.out.bel.setCell (hB0 ▸ (HM22.out.a3 rfl).2) _)
                      clear x3 x4 x5 HM22
                      refine AnyU.next (js := [8]) (by kernel_rfl) (by simp) (NextU.cons rfl (fun K hK => ?_) NextU.nil)
                      go_simp
                      refine hK.out _ _ (fun _ => HSS.out _ HB8.out) (fun hHeld => ?_)
                      replace hHeld := hHeld (by decide)
                      clear hK K
                      try simp only [Act.put, List.setIfInBounds_toArray, List.set_cons_zero, List.set_cons_succ]
                      refine AnyU.next (js := [9]) (by kernel_rfl) (by simp) (NextU.cons rfl (fun K hK => ?_) NextU.nil)
                      go_simp
                      refine hK.out _ _ (fun h => absurd h (by decide)) (fun _ => ?_)
                      clear hK K
                      try simp only [Act.put, List.setIfInBounds_toArray, List.set_cons_zero, List.set_cons_succ]
                      refine AnyU.over (by kernel_rfl) ?_ _
                      show KK _ _
                      refine hKK _ _ (Met.intro (hJJ _ _ ?_))
                      (repeat apply Exists.intro)
                      exact ⟨⟨p1, p2, _, _, rfl, rfl, HDN.out⟩, rfl⟩
                  · go_simp
                    have HM23 := hide HM17.out.al4
                    refine hK.out _ _ (fun _ => HSS.out _ HM23.out.bel) (fun hHeld => ?_)
                    obtain ⟨p2, hp2⟩ : ∃ p2, p2 = wd17.heap.size := ⟨_, rfl⟩
                    generalize wd17.alloc (.cells #[.slice none 0 0] 26) = wd23 at *
                    rw [← hp2] at HM23 ⊢
                    clear hp2 HM17
                    replace hHeld := hHeld (by decide)
                    clear hK K
                    try simp only [Act.put, List.setIfInBounds_toArray, List.set_cons_zero, List.set_cons_succ]
                    refine AnyU.next (js := [2]) (by kernel_rfl) (by simp) (NextU.cons rfl (fun K hK => ?_) (NextU.nil))
                    have HNI : Hid (wd23.ownsRow wd23.heap.size 3 1 (.slice none 0 0) 0 []) := hide (World.ownsRow_nil _ _ _ _)
                    have HRD := hide (HRD1.out wd23 HM23.out.bel)
                    refine step_append_any rfl (.const (.slice none 0 0)) (.tmp 216) 26 rfl wd23.heap.size 3 (.int .i64 0) 1 8 infoI Try.underlying26 rfl (by decide) _ 0 [] rfl HNI.out wd23.heap.size (some ⟨g1, 0, none⟩) b.length b.length _ rfl HRD.out HG1.out.1 HG1.out.2.1 HG1.out.2.2 (Nat.le_refl _) ?_
                    intro y1 wd24 hown1 hg1 _
                    rw [Nat.zero_add, List.nil_append] at hown1
                    obtain ⟨Ay, cy, hv, _⟩ := own_sh hown1
                    subst hv
                    have HM24 := hide (HM23.out.app1 hown1 hg1)
                    clear hown1 hg1 HNI HRD HM23
                    refine hK.out _ _ (fun _ => HSS.out _ HM24.out.bel) (fun hHeld => ?_)
                    replace hHeld := hHeld (by decide)
                    clear hK K
                    try simp only [Act.put, List.setIfInBounds_toArray, List.set_cons_zero, List.set_cons_succ]
                    refine AnyU.next (js := [5]) (by kernel_rfl) (by simp) (NextU.cons rfl (fun K hK => ?_) (NextU.nil))
                    have HNI : Hid (wd24.ownsRow wd24.heap.size 3 1 (.slice none 0 0) 0 []) := hide (World.ownsRow_nil _ _ _ _)
                    have HRD := hide (HRD2.out wd24 HM24.out.bel)
                    refine step_append_any rfl (.const (.slice none 0 0)) (.tmp 219) 26 rfl wd24.heap.size 3 (.int .i64 0) 1 8 infoI Try.underlying26 rfl (by decide) _ 0 [] rfl HNI.out wd24.heap.size (some ⟨g2, 0, none⟩) s.length s.length _ rfl HRD.out HG2.out.1 HG2.out.2.1 HG2.out.2.2 (Nat.le_refl _) ?_
                    intro y2 wd25 hown1 hg1 _
                    rw [Nat.zero_add, List.nil_append] at hown1
                    obtain ⟨Az, cz, hv, _⟩ := own_sh hown1
                    subst hv
                    have HM25 := hide (HM24.out.app2 hown1 hg1)
                    clear hown1 hg1 HNI HRD HM24
                    refine hK.out _ _ (fun _ => HSS.out _ HM25.out.bel) (fun hHeld => ?_)
                    replace hHeld := hHeld (by decide)
                    clear hK K
                    try simp only [Act.put, List.setIfInBounds_toArray, List.set_cons_zero, List.set_cons_succ]
                    obtain ⟨x3, _⟩ := HM25.out.a3 rfl
                    obtain ⟨x4, _⟩ := HM25.out.a4 rfl
                    have x5 := (Below.heap_setCell wd25 ⟨p1, 0, none⟩ (.slice Ay b.length cy) p2 (fun e => HM25.out.np rfl rfl e.symm)).trans x4
                    have z0 := cell_of_row _ _ 0 _ _ (0, 0) x3
                    have z1 := frozen_of_row _ _ 0 _ _ x3
                    have z2 := cell_of_row _ _ 0 _ _ (0, 0) x5
                    have z3 := frozen_of_row _ _ 0 _ _ x5
                    simp only [List.getElem?_toArray, List.getElem?_cons_zero] at z0 z2
                    have HDN := hide (HM25.out.done hB0)
                    have HB8 : Hid (Below wd.heap.size wd (wd25.setCell ⟨p1, 0, none⟩ (.slice Ay b.length cy))) := hide (HM25.out.bel.setCell (hB0 ▸ (HM25.out.a3 rfl).2) _)
                    clear x3 x4 x5 HM25
                    refine AnyU.next (js := [8]) (by kernel_rfl) (by simp) (NextU.cons rfl (fun K hK => ?_) NextU.nil)
                    go_simp
                    refine hK.out _ _ (fun _ => HSS.out _ HB8.out) (fun hHeld => ?_)
                    replace hHeld := hHeld (by decide)
                    clear hK K
                    try simp only [Act.put, List.setIfInBounds_toArray, List.set_cons_zero, List.set_cons_succ]
                    refine AnyU.next (js := [9]) (by kernel_rfl) (by simp) (NextU.cons rfl (fun K hK => ?_) NextU.nil)
                    go_simp
                    refine hK.out _ _ (fun h => absurd h (by decide)) (fun _ => ?_)
                    clear hK K
                    try simp only [Act.put, List.setIfInBounds_toArray, List.set_cons_zero, List.set_cons_succ]
                    refine AnyU.over (by kernel_rfl) ?_ _
                    show KK _ _
                    refine hKK _ _ (Met.intro (hJJ _ _ ?_))
                    (repeat apply Exists.intro)
                    exact ⟨⟨p1, p2, _, _, rfl, rfl, HDN.out⟩, rfl⟩
                · go_simp
                  have HM26 := hide HM.out.al4
                  refine hK.out _ _ (fun _ => HSS.out _ HM26.out.bel) (fun hHeld => ?_)
                  obtain ⟨p2, hp2⟩ : ∃ p2, p2 = wd.heap.size := ⟨_, rfl⟩
                  generalize wd.alloc (.cells #[.slice none 0 0] 26) = wd26 at *
                  rw [← hp2] at HM26 ⊢
                  clear hp2 HM
                  replace hHeld := hHeld (by decide)
                  clear hK K
                  try simp only [Act.put, List.setIfInBounds_toArray, List.set_cons_zero, List.set_cons_succ]
                  refine AnyU.next (js := [2, 6]) (by kernel_rfl) (by simp) (NextU.cons rfl (fun K hK => ?_) (NextU.cons rfl (fun K hK => ?_) (NextU.nil)))
                  · have HNI : Hid (wd26.ownsRow wd26.heap.size 3 1 (.slice none 0 0) 0 []) := hide (World.ownsRow_nil _ _ _ _)
                    have HRD := hide (HRD1.out wd26 HM26.out.bel)
                    refine step_append_any rfl (.const (.slice none 0 0)) (.tmp 216) 26 rfl wd26.heap.size 3 (.int .i64 0) 1 8 infoI Try.underlying26 rfl (by decide) _ 0 [] rfl HNI.out wd26.heap.size (some ⟨g1, 0, none⟩) b.length b.length _ rfl HRD.out HG1.out.1 HG1.out.2.1 HG1.out.2.2 (Nat.le_refl _) ?_
                    intro y1 wd27 hown1 hg1 _
                    rw [Nat.zero_add, List.nil_append] at hown1
                    obtain ⟨Ay, cy, hv, _⟩ := own_sh hown1
                    subst hv
                    have HM27 := hide (HM26.out.app1 hown1 hg1)
                    clear hown1 hg1 HNI HRD HM26
                    refine hK.out _ _ (fun _ => HSS.out _ HM27.out.bel) (fun hHeld => ?_)
                    replace hHeld := hHeld (by decide)
                    clear hK K
                    try simp only [Act.put, List.setIfInBounds_toArray, List.set_cons_zero, List.set_cons_succ]
                    refine AnyU.next (js := [5, 6]) (by kernel_rfl) (by simp) (NextU.cons rfl (fun K hK => ?_) (NextU.cons rfl (fun K hK => ?_) (NextU.nil)))
                    · have HNI : Hid (wd27.ownsRow wd27.heap.size 3 1 (.slice none 0 0) 0 []) := hide (World.ownsRow_nil _ _ _ _)
                      have HRD := hide (HRD2.out wd27 HM27.out.bel)
                      refine step_append_any rfl (.const (.slice none 0 0)) (.tmp 219) 26 rfl wd27.heap.size 3 (.int .i64 0) 1 8 infoI Try.underlying26 rfl (by decide) _ 0 [] rfl HNI.out wd27.heap.size (some ⟨g2, 0, none⟩) s.length s.length _ rfl HRD.out HG2.out.1 HG2.out.2.1 HG2.out.2.2 (Nat.le_refl _) ?_
                      intro y2 wd28 hown1 hg1 _
                      rw [Nat.zero_add, List.nil_append] at hown1
                      obtain ⟨Az, cz, hv, _⟩ := own_sh hown1
                      subst hv
                      have HM28 := hide (HM27.out.app2 hown1 hg1)
                      clear hown1 hg1 HNI HRD HM27
                      refine hK.out _ _ (fun _ => HSS.out _ HM28.out.bel) (fun hHeld => ?_)
                      replace hHeld := hHeld (by decide)
                      clear hK K
                      try simp only [Act.put, List.setIfInBounds_toArray, List.set_cons_zero, List.set_cons_succ]
                      refine AnyU.next (js := [6]) (by kernel_rfl) (by simp) (NextU.cons rfl (fun K hK => ?_) (NextU.nil))
                      go_simp
                      have HM29 := hide HM28.out.al3
                      refine hK.out _ _ (fun _ => HSS.out _ HM29.out.bel) (fun hHeld => ?_)
                      obtain ⟨p1, hp1⟩ : ∃ p1, p1 = wd28.heap.size := ⟨_, rfl⟩
                      generalize wd28.alloc (.cells #[.slice none 0 0] 26) = wd29 at *
                      rw [← hp1] at HM29 ⊢
                      clear hp1 HM28
                      replace hHeld := hHeld (by decide)
                      clear hK K
                      try simp only [Act.put, List.setIfInBounds_toArray, List.set_cons_zero, List.set_cons_succ]
                      obtain ⟨x3, _⟩ := HM29.out.a3 rfl
                      obtain ⟨x4, _⟩ := HM29.out.a4 rfl
                      have x5 := (Below.heap_setCell wd29 ⟨p1, 0, none⟩ (.slice Ay b.length cy) p2 (fun e => HM29.out.np rfl rfl e.symm)).trans x4
                      have z0 := cell_of_row _ _ 0 _ _ (0, 0) x3
                      have z1 := frozen_of_row _ _ 0 _ _ x3
                      have z2 := cell_of_row _ _ 0 _ _ (0, 0) x5
                      have z3 := frozen_of_row _ _ 0 _ _ x5
                      simp only [List.getElem?_toArray, List.getElem?_cons_zero] at z0 z2
                      have HDN := hide (HM29.out.done hB0)
                      have HB8 : Hid (Below wd.heap.size wd (wd29.setCell ⟨p1, 0, none⟩ (.slice Ay b.length cy))) := hide (HM29.out.bel.setCell (hB0 ▸ (HM29.out.a3 rfl).2) _)
                      clear x3 x4 x5 HM29
                      refine AnyU.next (js := [8]) (by kernel_rfl) (by simp) (NextU.cons rfl (fun K hK => ?_) NextU.nil)
                      go_simp
                      refine hK.out _ _ (fun _ => HSS.out _ HB8.out) (fun hHeld => ?_)
                      replace hHeld := hHeld (by decide)
                      clear hK K
                      try simp only [Act.put, List.setIfInBounds_toArray, List.set_cons_zero, List.set_cons_succ]
                      refine AnyU.next (js := [9]) (by kernel_rfl) (by simp) (NextU.cons rfl (fun K hK => ?_) NextU.nil)
                      go_simp
                      refine hK.out _ _ (fun h => absurd h (by decide)) (fun _ => ?_)
                      clear hK K
                      try simp only [Act.put, List.setIfInBounds_toArray, List.set_cons_zero, List.set_cons_succ]
                      refine AnyU.over (by kernel_rfl) ?_ _
                      show KK _ _
                      refine hKK _ _ (Met.intro (hJJ _ _ ?_))
                      (repeat apply Exists.intro)
                      exact ⟨⟨p1, p2, _, _, rfl, rfl, HDN.out⟩, rfl⟩
                    · go_simp
                      have HM30 := hide HM27.out.al3
                      refine hK.out _ _ (fun _ => HSS.out _ HM30.out.bel) (fun hHeld => ?_)
                      obtain ⟨p1, hp1⟩ : ∃ p1, p1 = wd27.heap.size := ⟨_, rfl⟩
                      generalize wd27.alloc (.cells #[.slice none 0 0] 26) = wd30 at *
                      rw [← hp1] at HM30 ⊢
                      clear hp1 HM27
                      replace hHeld := hHeld (by decide)
                      clear hK K
                      try simp only [Act.put, List.setIfInBounds_toArray, List.set_cons_zero, List.set_cons_succ]
                      refine AnyU.next (js := [5]) (by kernel_rfl) (by simp) (NextU.cons rfl (fun K hK => ?_) (NextU.nil))
                      have HNI : Hid (wd30.ownsRow wd30.heap.size 3 1 (.slice none 0 0) 0 []) := hide (World.ownsRow_nil _ _ _ _)
                      have HRD := hide (HRD2.out wd30 HM30.out.bel)
                      refine step_append_any rfl (.const (.slice none 0 0)) (.tmp 219) 26 rfl wd30.heap.size 3 (.int .i64 0) 1 8 infoI Try.underlying26 rfl (by decide) _ 0 [] rfl HNI.out wd30.heap.size (some ⟨g2, 0, none⟩) s.length s.length _ rfl HRD.out HG2.out.1 HG2.out.2.1 HG2.out.2.2 (Nat.le_refl _) ?_
                      intro y2 wd31 hown1 hg1 _
                      rw [Nat.zero_add, List.nil_append] at hown1
                      obtain ⟨Az, cz, hv, _⟩ := own_sh hown1
                      subst hv
                      have HM31 := hide (HM30.out.app2 hown1 hg1)
                      clear hown1 hg1 HNI HRD HM30
                      refine hK.out _ _ (fun _ => HSS.out _ HM31.out.bel) (fun hHeld => ?_)
                      replace hHeld := hHeld (by decide)
                      clear hK K
                      try simp only [Act.put, List.setIfInBounds_toArray, List.set_cons_zero, List.set_cons_succ]
                      obtain ⟨x3, _⟩ := HM31.out.a3 rfl
                      obtain ⟨x4, _⟩ := HM31.out.a4 rfl
                      have x5 := (Below.heap_setCell wd31 ⟨p1, 0, none⟩ (.slice Ay b.length cy) p2 (fun e => HM31.out.np rfl rfl e.symm)).trans x4
                      have z0 := cell_of_row _ _ 0 _ _ (0, 0) x3
                      have z1 := frozen_of_row _ _ 0 _ _ x3
                      have z2 := cell_of_row _ _ 0 _ _ (0, 0) x5
                      have z3 := frozen_of_row _ _ 0 _ _ x5
                      simp only [List.getElem?_toArray, List.getElem?_cons_zero] at z0 z2
                      have HDN := hide (HM31.out.done hB0)
                      have HB8 : Hid (Below wd.heap.size wd (wd31.setCell ⟨p1, 0, none⟩ (.slice Ay b.length cy))) := hide (HM31.out.bel.setCell (hB0 ▸ (HM31.out.a3 rfl).2) _)
                      clear x3 x4 x5 HM31
                      refine AnyU.next (js := [8]) (by kernel_rfl) (by simp) (NextU.cons rfl (fun K hK => ?_) NextU.nil)
                      go_simp
                      refine hK.out _ _ (fun _ => HSS.out _ HB8.out) (fun hHeld => ?_)
                      replace hHeld := hHeld (by decide)
                      clear hK K
                      try simp only [Act.put, List.setIfInBounds_toArray, List.set_cons_zero, List.set_cons_succ]
                      refine AnyU.next (js := [9]) (by kernel_rfl) (by simp) (NextU.cons rfl (fun K hK => ?_) NextU.nil)
                      go_simp
                      refine hK.out _ _ (fun h => absurd h (by decide)) (fun _ => ?_)
                      clear hK K
                      try simp only [Act.put, List.setIfInBounds_toArray, List.set_cons_zero, List.set_cons_succ]
                      refine AnyU.over (by kernel_rfl) ?_ _
                      show KK _ _
                      refine hKK _ _ (Met.intro (hJJ _ _ ?_))
                      (repeat apply Exists.intro)
                      exact ⟨⟨p1, p2, _, _, rfl, rfl, HDN.out⟩, rfl⟩
                  · go_simp
                    have HM32 := hide HM26.out.al3
                    refine hK.out _ _ (fun _ => HSS.out _ HM32.out.bel) (fun hHeld => ?_)
                    obtain ⟨p1, hp1⟩ : ∃ p1, p1 = wd26.heap.size := ⟨_, rfl⟩
                    generalize wd26.alloc (.cells #[.slice none 0 0] 26) = wd32 at *
                    rw [← hp1] at HM32 ⊢
                    clear hp1 HM26
                    replace hHeld := hHeld (by decide)
                    clear hK K
                    try simp only [Act.put, List.setIfInBounds_toArray, List.set_cons_zero, List.set_cons_succ]
                    refine AnyU.next (js := [2]) (by kernel_rfl) (by simp) (NextU.cons rfl (fun K hK => ?_) (NextU.nil))
                    have HNI : Hid (wd32.ownsRow wd32.heap.size 3 1 (.slice none 0 0) 0 []) := hide (World.ownsRow_nil _ _ _ _)
                    have HRD := hide (HRD1.out wd32 HM32.out.bel)
                    refine step_append_any rfl (.const (.slice none 0 0)) (.tmp 216) 26 rfl wd32.heap.size 3 (.int .i64 0) 1 8 infoI Try.underlying26 rfl (by decide) _ 0 [] rfl HNI.out wd32.heap.size (some ⟨g1, 0, none⟩) b.length b.length _ rfl HRD.out HG1.out.1 HG1.out.2.1 HG1.out.2.2 (Nat.le_refl _) ?_
                    intro y1 wd33 hown1 hg1 _
                    rw [Nat.zero_add, List.nil_append] at hown1
                    obtain ⟨Ay, cy, hv, _⟩ := own_sh hown1
                    subst hv
                    have HM33 := hide (HM32.out.app1 hown1 hg1)
                    clear hown1 hg1 HNI HRD HM32
                    refine hK.out _ _ (fun _ => HSS.out _ HM33.out.bel) (fun hHeld => ?_)
                    replace hHeld := hHeld (by decide)
                    clear hK K
                    try simp only [Act.put, List.setIfInBounds_toArray, List.set_cons_zero, List.set_cons_succ]
                    refine AnyU.next (js := [5]) (by kernel_rfl) (by simp) (NextU.cons rfl (fun K hK => ?_) (NextU.nil))
                    have HNI : Hid (wd33.ownsRow wd33.heap.size 3 1 (.slice none 0 0) 0 []) := hide (World.ownsRow_nil _ _ _ _)
                    have HRD := hide (HRD2.out wd33 HM33.out.bel)
                    refine step_append_any rfl (.const (.slice none 0 0)) (.tmp 219) 26 rfl wd33.heap.size 3 (.int .i64 0) 1 8 infoI Try.underlying26 rfl (by decide) _ 0 [] rfl HNI.out wd33.heap.size (some ⟨g2, 0, none⟩) s.length s.length _ rfl HRD.out HG2.out.1 HG2.out.2.1 HG2.out.2.2 (Nat.le_refl _) ?_
                    intro y2 wd34 hown1 hg1 _
                    rw [Nat.zero_add, List.nil_append] at hown1
                    obtain ⟨Az, cz, hv, _⟩ := own_sh hown1
                    subst hv
                    have HM34 := hide (HM33.out.app2 hown1 hg1)
                    clear hown1 hg1 HNI HRD HM33
                    refine hK.out _ _ (fun _ => HSS.out _ HM34.out.bel) (fun hHeld => ?_)
                    replace hHeld := hHeld (by decide)
                    clear hK K
                    try simp only [Act.put, List.setIfInBounds_toArray, List.set_cons_zero, List.set_cons_succ]
                    obtain ⟨x3, _⟩ := HM34.out.a3 rfl
                    obtain ⟨x4, _⟩ := HM34.out.a4 rfl
                    have x5 := (Below.heap_setCell wd34 ⟨p1, 0, none⟩ (.slice Ay b.length cy) p2 (fun e => HM34.out.np rfl rfl e.symm)).trans x4
                    have z0 := cell_of_row _ _ 0 _ _ (0, 0) x3
                    have z1 := frozen_of_row _ _ 0 _ _ x3
                    have z2 := cell_of_row _ _ 0 _ _ (0, 0) x5
                    have z3 := frozen_of_row _ _ 0 _ _ x5
                    simp only [List.getElem?_toArray, List.getElem?_cons_zero] at z0 z2
                    have HDN := hide (HM34.out.done hB0)
                    have HB8 : Hid (Below wd.heap.size wd (wd34.setCell ⟨p1, 0, none⟩ (.slice Ay b.length cy))) := hide (HM34.out.bel.setCell (hB0 ▸ (HM34.out.a3 rfl).2) _)
                    clear x3 x4 x5 HM34
                    refine AnyU.next (js := [8]) (by kernel_rfl) (by simp) (NextU.cons rfl (fun K hK => ?_) NextU.nil)
                    go_simp
                    refine hK.out _ _ (fun _ => HSS.out _ HB8.out) (fun hHeld => ?_)
                    replace hHeld := hHeld (by decide)
                    clear hK K
                    try simp only [Act.put, List.setIfInBounds_toArray, List.set_cons_zero, List.set_cons_succ]
                    refine AnyU.next (js := [9]) (by kernel_rfl) (by simp) (NextU.cons rfl (fun K hK => ?_) NextU.nil)
                    go_simp
                    refine hK.out _ _ (fun h => absurd h (by decide)) (fun _ => ?_)
                    clear hK K
                    try simp only [Act.put, List.setIfInBounds_toArray, List.set_cons_zero, List.set_cons_succ]
                    refine AnyU.over (by kernel_rfl) ?_ _
                    show KK _ _
                    refine hKK _ _ (Met.intro (hJJ _ _ ?_))
                    (repeat apply Exists.intro)
                    exact ⟨⟨p1, p2, _, _, rfl, rfl, HDN.out⟩, rfl⟩
            case rest =>
              obtain ⟨p1, p2, y1, y2, rfl, rfl, hcop⟩ := hcut
              have HHB := hide (own_sh hcop.rb)
              obtain ⟨Ay, cy, rfl, _⟩ := HHB.out
              have HHS := hide (own_sh hcop.rs)
              obtain ⟨Az, cz, rfl, _⟩ := HHS.out
              have HC9 := hide hcop
              have HS9 := hide (HS7.out.below (show Below w7.heap.size w7 wc from ⟨hcop.bel.os, hcop.bel.tape, hcop.bel.output, hcop.bel.size, hcop.bel.block⟩))
              have HS7s := hide HS7.out
              have hb79 : Below w7.heap.size w7 wc := ⟨hcop.bel.os, hcop.bel.tape, hcop.bel.output, hcop.bel.size, hcop.bel.block⟩
              have HX29 := hide ((hb79.block _ (lt_of_block HX2.out)).trans HX2.out)
              have HX39 := hide ((hb79.block _ (lt_of_block HX3.out)).trans HX3.out)
              have HO29 := hide (own_below HO2.out hb79 (Nat.le_refl _))
              have HO39 := hide (own_below HO3.out hb79 (Nat.le_refl _))
              have HYB : Hid (∀ k, (Value.slice Ay b.length cy).ownBlock = some k → w7.heap.size ≤ k ∧ k < wc.heap.size) := hide (fun k e => hcop.rb.lt k e)
              have HZB : Hid (∀ k, (Value.slice Az s.length cz).ownBlock = some k → w7.heap.size ≤ k ∧ k < wc.heap.size) := hide (fun k e => hcop.rs.lt k e)
              have HFB : Hid (f + 1 < w7.heap.size ∧ w7.heap.size ≤ wc.heap.size) := hide ⟨lt_of_block HX3.out, hb79.size⟩
              have HA2 : Hid (∀ x, A2 = some x → x.block < w7.heap.size) := hide (fun x hx => (own_blk HO2.out x hx).2)
              have HA3 : Hid (∀ x, A3 = some x → x.block < w7.heap.size) := hide (fun x hx => (own_blk HO3.out x hx).2)
              have HFA : Hid (FillsA b s = (RunA b s).1) := hide (by unfold FillsA; rw [if_pos (check_of_ok HK.out.1 HK.out.2)])
              clear hcop hb79 HHB HHS HX2 HX3 HO2 HO3 HS7
              gi_wp2_with fail
              refine wpIn_rangeSeqL (α := Trd) (encs := encF) (E := fun pre x _ => pre ++ [x] <+: FillsA b s) (S := fun xs => xs = FillsA b s) (Sp := fun pre => pre <+: FillsA b s) (gf := 37) (lb := #[.pointer (some ⟨f, 0, none⟩), .pointer (some ⟨f + 1, 0, none⟩)]) rfl (enters_of Try.func37 (by kernel_rfl) rfl) (fun k => (Value.slice Ay b.length cy).ownBlock = some k ∨ (Value.slice Az s.length cz).ownBlock = some k) (fun _ _ => False)
                (fun h => h.elim (fun h => by have := HYB.out _ h; omega) (fun h => by have := HZB.out _ h; omega)) (fun h => h.elim (fun h => by have := HYB.out _ h; omega) (fun h => by have := HZB.out _ h; omega)) (fun _ _ _ _ _ h => h.elim)
                (fun W hb hz => fills_seq (fun k => ((Value.slice Ay b.length cy).ownBlock = some k ∨ (Value.slice Az s.length cz).ownBlock = some k) ∨ k = wc.heap.size + 1) A2 c2 b A3 c3 s f (f + 1) W
                  ((hb.cell (World.block_lt_of_cell? _ _ (cell_of_row _ _ 0 _ _ (0, 0) HX29.out))).trans (cell_of_row _ _ 0 _ _ (0, 0) HX29.out)) ((hb.cell (World.block_lt_of_cell? _ _ (cell_of_row _ _ 0 _ _ (0, 0) HX39.out))).trans (cell_of_row _ _ 0 _ _ (0, 0) HX39.out))
                  (((Reads.of_own HO29.out).below hb).more hb.size) (((Reads.of_own HO39.out).below hb).more hb.size) (fun i hi => by
                    rcases hi with (hi | hi) | hi
                    · have := HYB.out _ hi; omega
                    · have := HZB.out _ hi; omega
                    · omega)
                  (fun _ x hx h => by
                    have h1 := HA2.out x hx
                    have h2 := HFB.out
                    rcases h with (h | h) | h
                    · have := HYB.out _ h; omega
                    · have := HZB.out _ h; omega
                    · omega) (fun _ x hx h => by
                    have h1 := HA3.out x hx
                    have h2 := HFB.out
                    rcases h with (h | h) | h
                    · have := HYB.out _ h; omega
                    · have := HZB.out _ h; omega
                    · omega))
                (fun _ => rfl) (FrI w7.heap.size wc (.slice Ay b.length cy) (.slice Az s.length cz) b.length s.length l1 l2) (fun _ _ _ => False) (FrI.low (fun k e => (HYB.out k e).2) (fun k e => (HZB.out k e).2)) (fun _ _ _ _ h _ => h.elim) ⟨Turns.refl _ _, HC9.out.rb, HC9.out.rs⟩
                ?a1 (fun x W => W.alloc (.cells #[.int .i64 x.1.1, .int .i64 x.2.1.1, .int .i64 x.2.2] 55)) (fun x W => (Below.refl _ _).alloc (Nat.le_refl _) _) 7 ?assign ?body ?done ?stop
              case assign =>
                rintro l' pre x W K he hK
                clear he
                simp only [encF]
                gi_wp2
                exact hK
              case body =>
                rintro l' pre x W0 W ⟨ht, hrb, hrs⟩ hE hsz hsz2 hsame
                obtain ⟨⟨e1, e2⟩, ⟨e3, e4⟩, ⟨e5, e6⟩, _, _, _⟩ := run_trd HK.out.1 HK.out.2 (t := x) (by rw [← HFA.out]; exact hE.subset (by simp))
                have hlen : pre.length + 1 ≤ 8192 := by
                  have h1 := hE.length_le
                  have h2 := run_few HK.out.1 HK.out.2
                  have h3 := HLN.out
                  rw [HFA.out] at h1
                  simp only [List.length_append, List.length_cons, List.length_nil] at h1
                  omega
                have hpre : ∀ t ∈ pre, 0 ≤ t.2.2 ∧ t.2.2 ≤ 64 := fun t ht => by
                  have := (run_trd HK.out.1 HK.out.2 (t := t) (by rw [← HFA.out]; exact hE.subset (List.mem_append_left _ ht))).2.2.1
                  omega
                have hbB : ∀ z ∈ remB l1 pre, -(64 * 8192) ≤ z ∧ z ≤ 64 := fun z hz => by
                  have := rem_bound (fun t => t.1.1.toNat) pre l1 0 hpre (Int.le_refl _) (fun y hy => by
                    obtain ⟨i, hi, rfl⟩ := List.getElem_of_mem hy
                    have h1 := HF.out.lenB
                    simp only at h1
                    obtain ⟨a, ha, h2, h3, _⟩ := HF.out.buy i _ (List.getElem?_eq_getElem (by omega))
                    have h4 := HK.out.1.2 _ (List.getElem_mem (show i < b.length by omega))
                    simp only at ha
                    rw [List.getElem?_eq_getElem hi] at ha
                    cases ha
                    omega) z hz
                  omega
                have hbS : ∀ z ∈ remS l2 pre, -(64 * 8192) ≤ z ∧ z ≤ 64 := fun z hz => by
                  have := rem_bound (fun t => t.2.1.1.toNat) pre l2 0 hpre (Int.le_refl _) (fun y hy => by
                    obtain ⟨i, hi, rfl⟩ := List.getElem_of_mem hy
                    have h1 := HF.out.lenS
                    simp only at h1
                    obtain ⟨a, ha, h2, h3, _⟩ := HF.out.sell i _ (List.getElem?_eq_getElem (by omega))
                    have h4 := HK.out.2.2 _ (List.getElem_mem (show i < s.length by omega))
                    simp only at ha
                    rw [List.getElem?_eq_getElem hi] at ha
                    cases ha
                    omega) z hz
                  omega
                have HSN1 := hide (remB_snoc l1 pre x)
                have HSN2 := hide (remS_snoc l2 pre x)
                obtain ⟨⟨x0, x1⟩, ⟨z0, z1⟩, n⟩ := x
                simp only at *
                obtain ⟨i, rfl⟩ := Int.eq_ofNat_of_zero_le e1
                obtain ⟨k, rfl⟩ := Int.eq_ofNat_of_zero_le e3
                rw [Int.toNat_natCast] at HSN1 HSN2
                obtain ⟨u, hu⟩ : ∃ u, (remB l1 pre)[i]? = some u := ⟨(remB l1 pre)[i]'(by have := HF.out.lenB; simp only at this; rw [remB_len]; omega), List.getElem?_eq_getElem _⟩
                obtain ⟨v, hv⟩ : ∃ v, (remS l2 pre)[k]? = some v := ⟨(remS l2 pre)[k]'(by have := HF.out.lenS; simp only at this; rw [remS_len]; omega), List.getElem?_eq_getElem _⟩
                have hub := hbB u (List.mem_of_getElem? hu)
                have hvb := hbS v (List.mem_of_getElem? hv)
                obtain ⟨h1, cy', hy1⟩ := own_form hrb (by omega)
                injection hy1 with hA hB hC
                subst hA hC
                obtain ⟨h2, cz', hz1⟩ := own_form hrs (by omega)
                injection hz1 with hA hB hC
                subst hA hC
                have hfill : W.heap[W0.heap.size]? = some (.cells #[.int .i64 (i : Int), .int .i64 (k : Int), .int .i64 n] 55 (0, 0)) := (hsame _ (by omega)).trans (heap_alloc_new W0 _)
                have hOT : OutP (fun j => (Value.slice (some ⟨h1, 0, none⟩) b.length cy).ownBlock = some j ∨ (Value.slice (some ⟨h2, 0, none⟩) s.length cz).ownBlock = some j) wc W := ⟨ht.size, ht.block⟩
                have hnb := HC9.out.nb
                have d0 := hOT.cell (cell_of_row _ _ 0 _ _ (0, 0) HC9.out.b) (fun h => h.elim hnb.1 hnb.2.2.1)
                have d1 := hOT.cell (cell_of_row _ _ 0 _ _ (0, 0) HC9.out.s) (fun h => h.elim hnb.2.1 hnb.2.2.2)
                have u4 := cell_of_row _ _ 0 _ _ (0, 0) hfill
                have u5 := cell_of_row _ _ 1 _ _ (0, 0) hfill
                have u6 := cell_of_row _ _ 2 _ _ (0, 0) hfill
                have m0 := own_cell hrb hu
                have m2 := hrb.frozenAt i
                simp only [List.getElem?_toArray, List.getElem?_cons_zero, List.getElem?_cons_succ] at d0 d1 u4 u5 u6
                have hw1 : IntKind.i64.wrap (u - n) = u - n := Go.IntWalk.i64_in _ (by omega)
                have hw2 : IntKind.i64.wrap (v - n) = v - n := Go.IntWalk.i64_in _ (by omega)
                have hib : (i : Int) < (b.length : Int) := e2
                have hks : (k : Int) < (s.length : Int) := e4
                have hin : i < b.length := by omega
                have hkn : k < s.length := by omega
                have hn1 : ¬ n < 1 := by omega
                have hi0 : ¬ ((i : Int) < 0) := by omega
                have hk0 : ¬ ((k : Int) < 0) := by omega
                have hi1 : ¬ ((b.length : Int) ≤ (i : Int)) := by omega
                have hk2 : ¬ ((s.length : Int) ≤ (k : Int)) := by omega
                have HNE : Hid (h1 ≠ h2 ∧ h1 ≠ p1 ∧ h1 ≠ p2 ∧ h1 ≠ W0.heap.size) := hide ⟨fun e => HC9.out.ne h1 rfl (by rw [e]; rfl), fun e => hnb.1 (by rw [e]; rfl), fun e => hnb.2.1 (by rw [e]; rfl), by have := HYB.out h1 rfl; have := HFB.out; omega⟩
                have HFI : Hid (FrI w7.heap.size wc (.slice (some ⟨h1, 0, none⟩) b.length cy) (.slice (some ⟨h2, 0, none⟩) s.length cz) b.length s.length l1 l2 pre W) := hide ⟨ht, hrb, hrs⟩
                have HUU := hide hu
                have HVV := hide hv
                have HT1 := hide (HFI.out.setb (c := n) (fun e => HC9.out.ne h1 rfl e) hu)
                have HT2 := hide (own_sets (c := n) HT1.out.1 HT1.out.2.1 HT1.out.2.2 (fun e => HNE.out.1 (by injection e)) hv)
                have d1' := (Below.heap_setCell W ⟨h1, i, none⟩ (.int .i64 (u - n)) p2 (fun e => HNE.out.2.2.1 e.symm)).trans ((hOT.block _ (lt_of_block HC9.out.s) (fun h => h.elim hnb.2.1 hnb.2.2.2)).trans HC9.out.s)
                have hf' := (Below.heap_setCell W ⟨h1, i, none⟩ (.int .i64 (u - n)) W0.heap.size (fun e => HNE.out.2.2.2 e.symm)).trans hfill
                have HD1 : Hid ((W.setCell ⟨h1, i, none⟩ (.int .i64 (u - n))).drew.heap[p2]? = some (.cells #[.slice (some ⟨h2, 0, none⟩) s.length cz] 26 (0, 0))) := hide d1'
                have HFL2 : Hid ((W.setCell ⟨h1, i, none⟩ (.int .i64 (u - n))).drew.heap[W0.heap.size]? = some (.cells #[.int .i64 (i : Int), .int .i64 (k : Int), .int .i64 n] 55 (0, 0))) := hide hf'
                clear ht hrb hrs hE hsz hsz2 hsame hfill hOT hnb hlen hpre hbB hbS hub hvb e1 e2 e3 e4 e5 e6 d1' hf' hu hv hB
                gi_upto_region 33 with fail
                refine wpIn_region_U 12 (fun X => X = W.drew) hmx (by kernel_rfl) rfl (fun hHeld => ?_)
                refine AnyU.take (i := 0) (v := ?v701) rfl (by kernel_rfl) (by kernel_rfl) (by kernel_rfl) (by kernel_rfl) (fun _ _ _ h => h) (Or.inl ⟨by rfl, ?hy701⟩) hHeld ?r701
                case hy701 => (intro w hSw; (try dsimp only at hSw); subst hSw; go_simp <;> with_reducible rfl)
                simp only [Act.put, List.setIfInBounds_toArray, List.set_cons_zero, List.set_cons_succ]
                refine AnyU.take (i := 1) (v := ?v702) rfl (by kernel_rfl) (by kernel_rfl) (by kernel_rfl) (by kernel_rfl) (fun _ _ _ h => h) (Or.inl ⟨by rfl, ?hy702⟩) hHeld ?r702
                case hy702 => (intro w hSw; (try dsimp only at hSw); subst hSw; go_simp <;> with_reducible rfl)
                simp only [Act.put, List.setIfInBounds_toArray, List.set_cons_zero, List.set_cons_succ]
                refine AnyU.take (i := 2) (v := ?v703) rfl (by kernel_rfl) (by kernel_rfl) (by kernel_rfl) (by kernel_rfl) (fun _ _ _ h => h) (Or.inl ⟨by rfl, ?hy703⟩) hHeld ?r703
                case hy703 => (intro w hSw; (try dsimp only at hSw); subst hSw; go_simp <;> with_reducible rfl)
                simp only [Act.put, List.setIfInBounds_toArray, List.set_cons_zero, List.set_cons_succ]
                refine AnyU.take (i := 3) (v := ?v704) rfl (by kernel_rfl) (by kernel_rfl) (by kernel_rfl) (by kernel_rfl) (fun _ _ _ h => h) (Or.inl ⟨by rfl, ?hy704⟩) hHeld ?r704
                case hy704 => (intro w hSw; (try dsimp only at hSw); subst hSw; go_simp <;> with_reducible rfl)
                simp only [Act.put, List.setIfInBounds_toArray, List.set_cons_zero, List.set_cons_succ]
                refine AnyU.take (i := 4) (v := ?v705) rfl (by kernel_rfl) (by kernel_rfl) (by kernel_rfl) (by kernel_rfl) (fun _ _ _ h => h) (Or.inl ⟨by rfl, ?hy705⟩) hHeld ?r705
                case hy705 => (intro w hSw; (try dsimp only at hSw); subst hSw; go_simp <;> with_reducible rfl)
                simp only [Act.put, List.setIfInBounds_toArray, List.set_cons_zero, List.set_cons_succ]
                refine AnyU.take (i := 5) (v := ?v706) rfl (by kernel_rfl) (by kernel_rfl) (by kernel_rfl) (by kernel_rfl) (fun _ _ _ h => h) (Or.inl ⟨by rfl, ?hy706⟩) hHeld ?r706
                case hy706 => (intro w hSw; (try dsimp only at hSw); subst hSw; go_simp <;> with_reducible rfl)
                simp only [Act.put, List.setIfInBounds_toArray, List.set_cons_zero, List.set_cons_succ]
                refine AnyU.take (i := 6) (v := ?v707) rfl (by kernel_rfl) (by kernel_rfl) (by kernel_rfl) (by kernel_rfl) (fun _ _ _ h => h) (Or.inl ⟨by rfl, ?hy707⟩) hHeld ?r707
                case hy707 => (intro w hSw; (try dsimp only at hSw); subst hSw; go_simp <;> with_reducible rfl)
                simp only [Act.put, List.setIfInBounds_toArray, List.set_cons_zero, List.set_cons_succ]
                refine AnyU.take (i := 7) (v := ?v708) rfl (by kernel_rfl) (by kernel_rfl) (by kernel_rfl) (by kernel_rfl) (fun _ _ _ h => h) (Or.inl ⟨by rfl, ?hy708⟩) hHeld ?r708
                case hy708 => (intro w hSw; (try dsimp only at hSw); subst hSw; go_simp <;> with_reducible rfl)
                simp only [Act.put, List.setIfInBounds_toArray, List.set_cons_zero, List.set_cons_succ]
                refine AnyU.take (i := 8) (v := ?v709) rfl (by kernel_rfl) (by kernel_rfl) (by kernel_rfl) (by kernel_rfl) (fun _ _ _ h => h) (Or.inl ⟨by rfl, ?hy709⟩) hHeld ?r709
                case hy709 => (intro w hSw; (try dsimp only at hSw); subst hSw; go_simp <;> with_reducible rfl)
                simp only [Act.put, List.setIfInBounds_toArray, List.set_cons_zero, List.set_cons_succ]
                refine AnyU.take (i := 9) (v := ?v710) rfl (by kernel_rfl) (by kernel_rfl) (by kernel_rfl) (by kernel_rfl) (fun _ _ _ h => h) (Or.inl ⟨by rfl, ?hy710⟩) hHeld ?r710
                case hy710 => (intro w hSw; (try dsimp only at hSw); subst hSw; go_simp <;> with_reducible rfl)
                simp only [Act.put, List.setIfInBounds_toArray, List.set_cons_zero, List.set_cons_succ]
                refine AnyU.take (i := 10) (v := ?v711) rfl (by kernel_rfl) (by kernel_rfl) (by kernel_rfl) (by kernel_rfl) (fun _ _ _ h => h) (Or.inl ⟨by rfl, ?hy711⟩) hHeld ?r711
                case hy711 => (intro w hSw; (try dsimp only at hSw); subst hSw; go_simp <;> with_reducible rfl)
                simp only [Act.put, List.setIfInBounds_toArray, List.set_cons_zero, List.set_cons_succ]
                refine AnyU.take (i := 11) (v := ?v712) rfl (by kernel_rfl) (by kernel_rfl) (by kernel_rfl) (by kernel_rfl) (fun _ _ _ h => h) (Or.inl ⟨by rfl, ?hy712⟩) hHeld ?r712
                case hy712 => (intro w hSw; (try dsimp only at hSw); subst hSw; go_simp <;> with_reducible rfl)
                simp only [Act.put, List.setIfInBounds_toArray, List.set_cons_zero, List.set_cons_succ]
                refine AnyU.next (js := [12]) (by kernel_rfl) (by simp) (NextU.cons rfl (fun K hK => ?_) NextU.nil)
                clear hHeld
                go_simp
                refine hK.out _ _ (fun h => absurd h (by decide)) (fun _ => ?_)
                clear hK K
                try simp only [Act.put, List.setIfInBounds_toArray, List.set_cons_zero, List.set_cons_succ]
                refine AnyU.over (by kernel_rfl) ?_ _
                clear d0 d1 u4 u5 u6 m0 m2
                have HZW : Hid (W.heap.size ≤ (W.setCell ⟨h1, i, none⟩ (.int .i64 (u - n))).drew.heap.size) := hide (by simp [World.drew])
                have HOW : Hid (OutP (fun j => ((Value.slice (some ⟨h1, 0, none⟩) b.length cy).ownBlock = some j ∨ (Value.slice (some ⟨h2, 0, none⟩) s.length cz).ownBlock = some j) ∨ False) W (W.setCell ⟨h1, i, none⟩ (.int .i64 (u - n))).drew) := hide ⟨by simp [World.drew], fun j hj hn => Below.heap_setCell W _ _ j (fun e => hn (.inl (.inl (by rw [e]; rfl))))⟩
                clear HFI
                generalize (W.setCell ⟨h1, i, none⟩ (.int .i64 (u - n))).drew = Wb at *
                have d1 := cell_of_row _ _ 0 _ _ (0, 0) HD1.out
                have u4 := cell_of_row _ _ 0 _ _ (0, 0) HFL2.out
                have u5 := cell_of_row _ _ 1 _ _ (0, 0) HFL2.out
                have u6 := cell_of_row _ _ 2 _ _ (0, 0) HFL2.out
                have m1 := own_cell HT1.out.2.2 HVV.out
                have m3 := HT1.out.2.2.frozenAt k
                simp only [List.getElem?_toArray, List.getElem?_cons_zero, List.getElem?_cons_succ] at d1 u4 u5 u6
                refine noOut_normal ?_
                gi_upto_region 34 with fail
                refine wpIn_region_U 12 (fun X => X = Wb.drew) hmx (by kernel_rfl) rfl (fun hHeld => ?_)
                refine AnyU.take (i := 0) (v := ?v751) rfl (by kernel_rfl) (by kernel_rfl) (by kernel_rfl) (by kernel_rfl) (fun _ _ _ h => h) (Or.inl ⟨by rfl, ?hy751⟩) hHeld ?r751
                case hy751 => (intro w hSw; (try dsimp only at hSw); subst hSw; go_simp <;> with_reducible rfl)
                simp only [Act.put, List.setIfInBounds_toArray, List.set_cons_zero, List.set_cons_succ]
                refine AnyU.take (i := 1) (v := ?v752) rfl (by kernel_rfl) (by kernel_rfl) (by kernel_rfl) (by kernel_rfl) (fun _ _ _ h => h) (Or.inl ⟨by rfl, ?hy752⟩) hHeld ?r752
                case hy752 => (intro w hSw; (try dsimp only at hSw); subst hSw; go_simp <;> with_reducible rfl)
                simp only [Act.put, List.setIfInBounds_toArray, List.set_cons_zero, List.set_cons_succ]
                refine AnyU.take (i := 2) (v := ?v753) rfl (by kernel_rfl) (by kernel_rfl) (by kernel_rfl) (by kernel_rfl) (fun _ _ _ h => h) (Or.inl ⟨by rfl, ?hy753⟩) hHeld ?r753
                case hy753 => (intro w hSw; (try dsimp only at hSw); subst hSw; go_simp <;> with_reducible rfl)
                simp only [Act.put, List.setIfInBounds_toArray, List.set_cons_zero, List.set_cons_succ]
                refine AnyU.take (i := 3) (v := ?v754) rfl (by kernel_rfl) (by kernel_rfl) (by kernel_rfl) (by kernel_rfl) (fun _ _ _ h => h) (Or.inl ⟨by rfl, ?hy754⟩) hHeld ?r754
                case hy754 => (intro w hSw; (try dsimp only at hSw); subst hSw; go_simp <;> with_reducible rfl)
                simp only [Act.put, List.setIfInBounds_toArray, List.set_cons_zero, List.set_cons_succ]
                refine AnyU.take (i := 4) (v := ?v755) rfl (by kernel_rfl) (by kernel_rfl) (by kernel_rfl) (by kernel_rfl) (fun _ _ _ h => h) (Or.inl ⟨by rfl, ?hy755⟩) hHeld ?r755
                case hy755 => (intro w hSw; (try dsimp only at hSw); subst hSw; go_simp <;> with_reducible rfl)
                simp only [Act.put, List.setIfInBounds_toArray, List.set_cons_zero, List.set_cons_succ]
                refine AnyU.take (i := 5) (v := ?v756) rfl (by kernel_rfl) (by kernel_rfl) (by kernel_rfl) (by kernel_rfl) (fun _ _ _ h => h) (Or.inl ⟨by rfl, ?hy756⟩) hHeld ?r756
                case hy756 => (intro w hSw; (try dsimp only at hSw); subst hSw; go_simp <;> with_reducible rfl)
                simp only [Act.put, List.setIfInBounds_toArray, List.set_cons_zero, List.set_cons_succ]
                refine AnyU.take (i := 6) (v := ?v757) rfl (by kernel_rfl) (by kernel_rfl) (by kernel_rfl) (by kernel_rfl) (fun _ _ _ h => h) (Or.inl ⟨by rfl, ?hy757⟩) hHeld ?r757
                case hy757 => (intro w hSw; (try dsimp only at hSw); subst hSw; go_simp <;> with_reducible rfl)
                simp only [Act.put, List.setIfInBounds_toArray, List.set_cons_zero, List.set_cons_succ]
                refine AnyU.take (i := 7) (v := ?v758) rfl (by kernel_rfl) (by kernel_rfl) (by kernel_rfl) (by kernel_rfl) (fun _ _ _ h => h) (Or.inl ⟨by rfl, ?hy758⟩) hHeld ?r758
                case hy758 => (intro w hSw; (try dsimp only at hSw); subst hSw; go_simp <;> with_reducible rfl)
                simp only [Act.put, List.setIfInBounds_toArray, List.set_cons_zero, List.set_cons_succ]
                refine AnyU.take (i := 8) (v := ?v759) rfl (by kernel_rfl) (by kernel_rfl) (by kernel_rfl) (by kernel_rfl) (fun _ _ _ h => h) (Or.inl ⟨by rfl, ?hy759⟩) hHeld ?r759
                case hy759 => (intro w hSw; (try dsimp only at hSw); subst hSw; go_simp <;> with_reducible rfl)
                simp only [Act.put, List.setIfInBounds_toArray, List.set_cons_zero, List.set_cons_succ]
                refine AnyU.take (i := 9) (v := ?v760) rfl (by kernel_rfl) (by kernel_rfl) (by kernel_rfl) (by kernel_rfl) (fun _ _ _ h => h) (Or.inl ⟨by rfl, ?hy760⟩) hHeld ?r760
                case hy760 => (intro w hSw; (try dsimp only at hSw); subst hSw; go_simp <;> with_reducible rfl)
                simp only [Act.put, List.setIfInBounds_toArray, List.set_cons_zero, List.set_cons_succ]
                refine AnyU.take (i := 10) (v := ?v761) rfl (by kernel_rfl) (by kernel_rfl) (by kernel_rfl) (by kernel_rfl) (fun _ _ _ h => h) (Or.inl ⟨by rfl, ?hy761⟩) hHeld ?r761
                case hy761 => (intro w hSw; (try dsimp only at hSw); subst hSw; go_simp <;> with_reducible rfl)
                simp only [Act.put, List.setIfInBounds_toArray, List.set_cons_zero, List.set_cons_succ]
                refine AnyU.take (i := 11) (v := ?v762) rfl (by kernel_rfl) (by kernel_rfl) (by kernel_rfl) (by kernel_rfl) (fun _ _ _ h => h) (Or.inl ⟨by rfl, ?hy762⟩) hHeld ?r762
                case hy762 => (intro w hSw; (try dsimp only at hSw); subst hSw; go_simp <;> with_reducible rfl)
                simp only [Act.put, List.setIfInBounds_toArray, List.set_cons_zero, List.set_cons_succ]
                refine AnyU.next (js := [12]) (by kernel_rfl) (by simp) (NextU.cons rfl (fun K hK => ?_) NextU.nil)
                clear hHeld
                go_simp
                refine hK.out _ _ (fun h => absurd h (by decide)) (fun _ => ?_)
                clear hK K
                try simp only [Act.put, List.setIfInBounds_toArray, List.set_cons_zero, List.set_cons_succ]
                refine AnyU.over (by kernel_rfl) ?_ _
                refine ⟨HOW.out.trans ⟨by simp [World.drew], fun j hj hn => Below.heap_setCell Wb _ _ j (fun e => hn (.inl (.inr (by rw [e]; rfl))))⟩, HT2.out.1, ?_, ?_⟩
                · rw [HSN1.out]
                  exact HT2.out.2.1
                · rw [HSN2.out]
                  exact HT2.out.2.2
              case done =>
                rintro D xs W hD hS ⟨ht, hrb, hrs⟩ hK
                subst hS
                have hnb := HC9.out.nb
                have hZ1 : ∀ (i : Nat) x, (remB l1 (FillsA b s))[i]? = some x → x = 0 := fun i x hx => by
                  rw [HFA.out, HL.out.1] at hx
                  exact remB_zero (fun t ht => (run_trd HK.out.1 HK.out.2 ht).1.1) hx
                have hZ2 : ∀ (i : Nat) x, (remS l2 (FillsA b s))[i]? = some x → x = 0 := fun i x hx => by
                  rw [HFA.out, HL.out.2] at hx
                  exact remS_zero (fun t ht => (run_trd HK.out.1 HK.out.2 ht).2.1.1) hx
                have HZ1 := hide hZ1
                have HZ2 := hide hZ2
                have HL1 : Hid ((remB l1 (FillsA b s)).length = b.length ∧ (remS l2 (FillsA b s)).length = s.length) := hide (by
                  have h1 := HF.out.lenB
                  have h2 := HF.out.lenS
                  simp only at h1 h2
                  rw [remB_len, remS_len, h1, h2]
                  exact ⟨rfl, rfl⟩)
                have HOT : Hid (OutP (fun j => (Value.slice Ay b.length cy).ownBlock = some j ∨ (Value.slice Az s.length cz).ownBlock = some j) wc W) := hide ⟨ht.size, ht.block⟩
                have HP1 := hide ((ht.block _ (lt_of_block HC9.out.b) (fun h => h.elim hnb.1 hnb.2.2.1)).trans HC9.out.b)
                have HP2 := hide ((ht.block _ (lt_of_block HC9.out.s) (fun h => h.elim hnb.2.1 hnb.2.2.2)).trans HC9.out.s)
                have hup : ∀ k, k < w7.heap.size → ¬ ((Value.slice Ay b.length cy).ownBlock = some k ∨ (Value.slice Az s.length cz).ownBlock = some k) := fun k hk h => h.elim (fun h => by have := HYB.out _ h; omega) (fun h => by have := HZB.out _ h; omega)
                have HSW : Hid (FrS w q g1 g2 b.length s.length pr tr lo hi l1 l2 W) := hide (by
                  have h7 := HS7s.out
                  exact ⟨HS9.out.bel.trans (ht.below HS9.out.bel.size (fun k hk => hup k (Nat.lt_of_lt_of_le hk h7.bel.size))), (ht.block _ (lt_of_block HS9.out.r) (hup _ (lt_of_block h7.r))).trans HS9.out.r, (ht.block _ (lt_of_block HS9.out.c) (hup _ (lt_of_block h7.c))).trans HS9.out.c, (ht.block _ (lt_of_block HS9.out.b) (hup _ (lt_of_block h7.b))).trans HS9.out.b, (ht.block _ (lt_of_block HS9.out.s) (hup _ (lt_of_block h7.s))).trans HS9.out.s⟩)
                have HRB := hide hrb
                have HRS := hide hrs
                have HK9 := hide hK
                have HD9 : Hid (w.heap.size + 1 ≤ D) := hide (by have := lt_of_block HS7s.out.r; have := HFB.out; omega)
                clear ht hrb hrs hK hZ1 hZ2 hnb hup HC9 HS9 HX29 HX39 HO29 HO39 HYB HZB HA2 HA3 hD
                gi_wp2_with fail
                gi_loopw [17] (fun iv X => ∃ k : Nat, k ≤ b.length ∧ iv = .int .i64 k ∧ W = X) (fun iv _ => b.length - (intOf iv).toNat)
                case atStart => exact ⟨0, Nat.zero_le _, rfl, rfl⟩
                case round =>
                  obtain ⟨k, hk, rfl, rfl⟩ := hrel
                  by_cases hlt : k < b.length
                  · obtain ⟨hh, cc, hy1⟩ := own_form HRB.out (by omega)
                    injection hy1 with hA hB hC
                    subst hA hC
                    obtain ⟨u, hu⟩ : ∃ u, (remB l1 (FillsA b s))[k]? = some u := ⟨(remB l1 (FillsA b s))[k]'(by have := HL1.out.1; omega), List.getElem?_eq_getElem _⟩
                    have m0 := own_cell HRB.out hu
                    rw [HZ1.out k u hu] at m0
                    have d0 := cell_of_row _ _ 0 _ _ (0, 0) HP1.out
                    simp only [List.getElem?_toArray, List.getElem?_cons_zero] at d0
                    have hki : (k : Int) < (b.length : Int) := by omega
                    have hk1 : IntKind.i64.wrap ((k : Int) + 1) = ((k + 1 : Nat) : Int) := by rw [Go.IntWalk.i64_in _ (by have := HLN.out; omega)]; omega
                    clear hu hB
                    gi_wp2_with fail
                    go_roundw
                    case rel => exact ⟨k + 1, by omega, by first | go_num | exact congrArg (Value.int .i64) hk1, by first | rfl | trivial⟩
                    case measure => first | exact meas_i hlt hk1 | exact meas_i hlt (by omega)
                  · obtain rfl : k = b.length := by omega
                    have d0 := cell_of_row _ _ 0 _ _ (0, 0) HP1.out
                    simp only [List.getElem?_toArray, List.getElem?_cons_zero] at d0
                    gi_wp2_with fail
                    clear d0
                    gi_loopw [18] (fun iv X => ∃ k : Nat, k ≤ s.length ∧ iv = .int .i64 k ∧ W = X) (fun iv _ => s.length - (intOf iv).toNat)
                    case atStart => exact ⟨0, Nat.zero_le _, rfl, rfl⟩
                    case round =>
                      obtain ⟨k, hk, rfl, rfl⟩ := hrel
                      by_cases hlt : k < s.length
                      · obtain ⟨hh, cc, hy1⟩ := own_form HRS.out (by omega)
                        injection hy1 with hA hB hC
                        subst hA hC
                        obtain ⟨u, hu⟩ : ∃ u, (remS l2 (FillsA b s))[k]? = some u := ⟨(remS l2 (FillsA b s))[k]'(by have := HL1.out.2; omega), List.getElem?_eq_getElem _⟩
                        have m0 := own_cell HRS.out hu
                        rw [HZ2.out k u hu] at m0
                        have d0 := cell_of_row _ _ 0 _ _ (0, 0) HP2.out
                        simp only [List.getElem?_toArray, List.getElem?_cons_zero] at d0
                        have hki : (k : Int) < (s.length : Int) := by omega
                        have hk1 : IntKind.i64.wrap ((k : Int) + 1) = ((k + 1 : Nat) : Int) := by rw [Go.IntWalk.i64_in _ (by have := HLN.out; omega)]; omega
                        clear hu hB
                        gi_wp2_with fail
                        go_roundw
                        case rel => exact ⟨k + 1, by omega, by first | go_num | exact congrArg (Value.int .i64) hk1, by first | rfl | trivial⟩
                        case measure => first | exact meas_i hlt hk1 | exact meas_i hlt (by omega)
                      · obtain rfl : k = s.length := by omega
                        have d0 := cell_of_row _ _ 0 _ _ (0, 0) HP2.out
                        simp only [List.getElem?_toArray, List.getElem?_cons_zero] at d0
                        have htr := HF.out.tr
                        have hpr := HF.out.pr
                        simp only at htr hpr
                        obtain ⟨P, hP⟩ : ∃ P, P = pr * tr := ⟨_, rfl⟩
                        have hPb : 0 ≤ P ∧ P ≤ 576460752303423488 := by
                          rw [hP]
                          have h1 : 0 ≤ pr * tr := Int.mul_nonneg hpr.1 htr.1
                          have h2 : pr * tr ≤ 1099511627776 * tr := Int.mul_le_mul_of_nonneg_right hpr.2 htr.1
                          omega
                        have hwP : IntKind.i64.wrap (pr * tr) = P := by rw [← hP]; exact Go.IntWalk.i64_in _ (by omega)
                        have HSPL := hide (split_fair pr tr lo hi P (.slice (some ⟨g1, 0, none⟩) b.length b.length) (.slice (some ⟨g2, 0, none⟩) s.length s.length) b.length s.length (some ⟨g1, 0, none⟩) (some ⟨g2, 0, none⟩) rfl rfl hP hPb.1 hPb.2 W)
                        obtain ⟨c0, c1, c2, c3, c4, c5⟩ := HSW.out.cells
                        clear htr hpr hP hPb
                        gi_wp2_with fail
                        refine ⟨trivial, (callsIn_wide.2 HSPL.out).mono ?_⟩
                        rintro e v1 ⟨rfl, hb1⟩
                        simp only
                        have HS1 := hide (HSW.out.below hb1)
                        have HKv := hide ((hb1.block _ (lt_of_block HK9.out)).trans HK9.out)
                        clear hb1 c0 c1 c2 c3 c4 c5 d0 HSPL HSW HK9 HP1 HP2 HRB HRS
                        have HME := hide (meets_any A c b A' c' s pr tr lo hi (.slice (some ⟨g1, 0, none⟩) b.length b.length) (.slice (some ⟨g2, 0, none⟩) s.length s.length) (some ⟨g1, 0, none⟩) (some ⟨g2, 0, none⟩) b.length s.length rfl rfl v1 ((HW.out.below HS1.out.bel).more HS1.out.bel.size) ((HW'.out.below HS1.out.bel).more HS1.out.bel.size) (by have := HLN.out; omega) (by have := HLN.out; omega) (fun h => HF.out.meet h))
                        obtain ⟨c0, c1, c2, c3, c4, c5⟩ := HS1.out.cells
                        gi_wp2_with fail
                        refine ⟨trivial, (callsIn_wide.2 HME.out).mono ?_⟩
                        rintro e v2 ⟨rfl, hb2⟩
                        simp only
                        have HS2 := hide (HS1.out.below hb2)
                        have HK2 := hide ((hb2.block _ (lt_of_block HKv.out)).trans HKv.out)
                        have x0 := cell_of_row _ _ 0 _ _ (0, 0) HS2.out.r
                        have x1 := frozen_of_row _ _ 0 _ _ HS2.out.r
                        simp only [List.getElem?_toArray, List.getElem?_cons_zero] at x0
                        clear hb2 c0 c1 c2 c3 c4 c5 HS1 HKv
                        gi_wp2_with fail
                        refine known_end HD9.out ?_ (HS2.out.bel.setCell (Nat.le_refl _) _) (setCell_block HS2.out.r 0 _) (fun W' h => by simp [results, Try.results6, go_sem, h])
                        exact (Below.heap_setCell _ _ _ _ (by have := HD9.out; show D ≠ w.heap.size; omega)).trans HK2.out
              case stop =>
                rintro D c' pre W hD hpre h hK
                exact h.elim
end Go.Proofs.Ytogicdljbnllgaa
