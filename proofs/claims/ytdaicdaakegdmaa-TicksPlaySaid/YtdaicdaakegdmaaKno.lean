/- The walks of New, the document's Same, known. -/
import Derived.Test.YtdaicdaakegdmaaOfL
namespace Go.Proofs.Ytdaicdaakegdmaa
open Go.RowKit Go.Maps Go.Shelf
open Go.ChangeMaps Go.WideMaps

theorem duesW_nil (w : World) : DuesW w none 0 [] := ⟨rfl, by simpa [flatD] using Reads.none_ w w.heap.size 2, fun d hd => by cases hd⟩
theorem new_any (now : Int) (w : World) : Calls Try.prog 8 #[.int .i64 now] w (OfP now [] w) := by
  have HO := hide (of_any now none 0 0 [] w (duesW_nil w) (by omega))
  go_enter Try.func8, Try.ntmps8
  go_wp2_with fail
  refine (HO.out).mono ?_
  rintro e w1 h
  have H := hide h
  rcases h with ⟨h1, rfl, h3⟩ | ⟨h1, p, rfl, h3⟩
  · clear h1 h3
    go_wp2_with fail
    go_ret2
    exact H.out
  · clear h1 h3
    go_wp2_with fail
    go_ret2
    exact H.out

theorem below_drewN {w w' : World} {B : Nat} (h : Below B w w') (q : Nat) : Below B w (w'.drewN q) := ⟨h.os, h.tape, h.output, h.size, h.block⟩
theorem DuesW.below {w w' : World} {A : Option Addr} {n : Nat} {list : List Du} (h : DuesW w A n list) (hb : Below w.heap.size w w') : DuesW w' A n list := ⟨h.len, (h.rd.below hb).more hb.size, h.wf⟩
set_option maxRecDepth 100000 in
set_option maxHeartbeats 2000000 in
theorem same_any (A : Option Addr) (c : Nat) (l : List Du) (A' : Option Addr) (c' : Nat) (l' : List Du) (w : World) (h : Reads w w.heap.size 2 A l.length (flatD l)) (h' : Reads w w.heap.size 2 A' l'.length (flatD l')) (hl : l.length ≤ 2000000) :
    Calls Try.prog 18 #[.slice A l.length c, .slice A' l'.length c'] w (ValB (.bool (decide (l = l'))) w) := by
  by_cases hlen : l.length = l'.length
  · have hlen' : ((l.length : Int) != (l'.length : Int)) = false := by simp [hlen]
    have hat : ∀ k, k < l.length → ∃ g o, A = some ⟨g, o, none⟩ ∧ g < w.heap.size ∧ w.cell? ⟨g, o + k * 2, none⟩ = some (.int .i64 (gD l k).1) ∧ w.cell? ⟨g, o + k * 2 + 1, none⟩ = some (.int .i64 (gD l k).2) := fun k hk => by
      obtain ⟨g, o, e, hg, hc⟩ := h.2 (by omega)
      have := flatD_at l k hk
      exact ⟨g, o, e, hg, hc _ _ this.1, hc _ _ this.2⟩
    have hat' : ∀ k, k < l'.length → ∃ g o, A' = some ⟨g, o, none⟩ ∧ g < w.heap.size ∧ w.cell? ⟨g, o + k * 2, none⟩ = some (.int .i64 (gD l' k).1) ∧ w.cell? ⟨g, o + k * 2 + 1, none⟩ = some (.int .i64 (gD l' k).2) := fun k hk => by
      obtain ⟨g, o, e, hg, hc⟩ := h'.2 (by omega)
      have := flatD_at l' k hk
      exact ⟨g, o, e, hg, hc _ _ this.1, hc _ _ this.2⟩
    have HLN := hide hlen
    have HAT := hide hat
    have HAT' := hide hat'
    clear h h' hlen hat hat'
    go_enter Try.func18, Try.ntmps18
    go_wp2_with fail
    go_loopw [5] (fun iv wr => ∃ k : Nat, k ≤ l.length ∧ iv = .int .i64 k ∧ (∀ j : Nat, j < k → gD l j = gD l' j) ∧ Below w.heap.size w wr) (fun iv _ => l.length - (intOf iv).toNat)
    case atStart => exact ⟨0, Nat.zero_le _, rfl, fun j hj => absurd hj (by omega), Below.refl _ _⟩
    case round =>
      obtain ⟨k, hk, rfl, hno, hb⟩ := hrel
      have HN := hide hno
      have HB := hide hb
      clear hno
      by_cases hlt : k < l.length
      · have hlt' : k < l'.length := by have := HLN.out; omega
        obtain ⟨b, o, rfl, hbB, hc0, hc1⟩ := HAT.out k hlt
        obtain ⟨b', o', rfl, hbB', hc0', hc1'⟩ := HAT'.out k hlt'
        have d0 := (hb.cell (p := ⟨b, o + k * 2, none⟩) hbB).trans hc0
        have d1 := (hb.cell (p := ⟨b, o + k * 2 + 1, none⟩) hbB).trans hc1
        have f0 := (hb.cell (p := ⟨b', o' + k * 2, none⟩) hbB').trans hc0'
        have f1 := (hb.cell (p := ⟨b', o' + k * 2 + 1, none⟩) hbB').trans hc1'
        have HXE : Hid (gD l k ≠ gD l' k → decide (l = l') = false) := hide (fun h => by simp only [decide_eq_false_iff_not]; intro e; exact h (by rw [e]))
        have HXN : Hid (gD l k = gD l' k → ∀ j : Nat, j < k + 1 → gD l j = gD l' j) := hide (fun h j hj => by
          rcases Nat.lt_or_ge j k with h1 | h1
          · exact HN.out j h1
          · obtain rfl : j = k := by omega
            exact h)
        have hki : (k : Int) < (l'.length : Int) := by omega
        have hki2 : (k : Int) < (l.length : Int) := by omega
        have hk0 : (0 : Int) ≤ (k : Int) := by omega
        clear hc0 hc1 hc0' hc1' hb
        generalize gD l k = x at *
        generalize gD l' k = y at *
        obtain ⟨x1, x2⟩ := x
        obtain ⟨y1, y2⟩ := y
        simp only at d0 d1 f0 f1
        by_cases hxy : (x1, x2) = (y1, y2)
        · have HXN2 := hide (HXN.out hxy)
          simp only [Prod.mk.injEq] at hxy
          obtain ⟨rfl, rfl⟩ := hxy
          go_wp2_with fail
          go_quiet (fail)
          go_wp2_with fail
          go_roundw
          case rel => exact ⟨k + 1, by omega, by go_num, HXN2.out, below_drewN HB.out _⟩
          case measure => simp [intOf]; omega
        · have HR := hide (HXE.out hxy)
          by_cases hg : x1 = y1
          · subst hg
            have hc : (x2 == y2) = false := by
              simp only [beq_eq_false_iff_ne, ne_eq]
              intro e
              exact hxy (by rw [e])
            clear hxy
            go_wp2_with fail
            go_quiet (fail)
            go_wp2_with fail
            go_ret
            exact ⟨by rw [HR.out]; rfl, below_drewN HB.out _⟩
          · have hg' : ((x1 : Int) == (y1 : Int)) = false := by simp; omega
            clear hxy hg
            go_wp2_with fail
            go_quiet (fail)
            go_wp2_with fail
            go_ret
            exact ⟨by rw [HR.out]; rfl, below_drewN HB.out _⟩
      · obtain rfl : k = l.length := by omega
        have HR : Hid (decide (l = l') = true) := hide (by
          rw [decide_eq_true_iff]
          apply List.ext_getElem HLN.out
          intro j h1 h2
          have := HN.out j h1
          rwa [gD_of h1, gD_of h2] at this)
        go_wp2_with fail
        go_ret
        exact ⟨by rw [HR.out]; rfl, HB.out⟩
  · have hlen' : ((l.length : Int) != (l'.length : Int)) = true := by simp; omega
    have HR : Hid (decide (l = l') = false) := hide (by simp only [decide_eq_false_iff_not]; intro e; exact hlen (by rw [e]))
    clear hlen h h'
    go_enter Try.func18, Try.ntmps18
    go_wp2_with fail
    go_ret
    exact ⟨by rw [HR.out]; rfl, Below.refl _ _⟩

set_option maxRecDepth 100000 in
set_option maxHeartbeats 4000000 in
theorem known_any (w : World) : Calls Try.prog 7 #[] w (ValB (.bool true) w) := by
  have HN := hide (new_any 5 w)
  have e0 : ofC 5 [] = 0 := by decide
  go_enter Try.func7, Try.ntmps7
  go_wp2_with fail
  refine (HN.out).mono ?_
  rintro e w1 (⟨h, _⟩ | ⟨_, p, rfl, r, x, m, v, l, hc, hr, hb⟩)
  · exact absurd e0 h
  have e1 : ofS 5 [] = [] := rfl
  rw [e1] at hr
  have HC1 := hide hc
  have HB1 := hide hb
  have HS1 := hide (set_any hc hr hb.size 1 9 (by omega) (by rw [hr.length]; simp))
  rw [show setC 5 1 9 = 0 by decide, show setS 5 [] 1 9 = [(9, 1)] by decide] at HS1
  clear hc hr hb e0 e1
  go_wp2_with fail
  refine (HS1.out).mono ?_
  rintro _ w2 ⟨rfl, v2, l2, hc2, hr2, ho2, _⟩
  have HB2 : Hid (Below w.heap.size w w2) := hide (HB1.out.trans (foot_below HC1.out ho2 HB1.out.size))
  have HC2 := hide hc2
  have HS2 := hide (set_any hc2 hr2 HB2.out.size 3 7 (by omega) (by rw [hr2.length]; simp))
  rw [show setC 5 3 7 = 0 by decide, show setS 5 [(9, 1)] 3 7 = [(7, 3), (9, 1)] by decide] at HS2
  clear hc2 hr2 ho2
  go_wp2_with fail
  refine (HS2.out).mono ?_
  rintro _ w3 ⟨rfl, v3, l3, hc3, hr3, ho3, _⟩
  have HB3 : Hid (Below w.heap.size w w3) := hide (HB2.out.trans (foot_below HC2.out ho3 HB2.out.size))
  have HC3 := hide hc3
  have HS3 := hide (set_any hc3 hr3 HB3.out.size 2 7 (by omega) (by rw [hr3.length]; simp))
  rw [show setC 5 2 7 = 0 by decide, show setS 5 [(7, 3), (9, 1)] 2 7 = [(7, 2), (7, 3), (9, 1)] by decide] at HS3
  clear hc3 hr3 ho3
  go_wp2_with fail
  refine (HS3.out).mono ?_
  rintro _ w4 ⟨rfl, v4, l4, hc4, hr4, ho4, _⟩
  have HB4 : Hid (Below w.heap.size w w4) := hide (HB3.out.trans (foot_below HC3.out ho4 HB3.out.size))
  have HC4 := hide hc4
  have HS4 := hide (set_any hc4 hr4 HB4.out.size 4 4 (by omega) (by rw [hr4.length]; simp))
  rw [show setC 5 4 4 = 6 by decide, show setS 5 [(7, 2), (7, 3), (9, 1)] 4 4 = [(7, 2), (7, 3), (9, 1)] by decide] at HS4
  clear hc4 hr4 ho4
  go_wp2_with fail
  refine (HS4.out).mono ?_
  rintro _ w5 ⟨rfl, v5, l5, hc5, hr5, ho5, _⟩
  have HB5 : Hid (Below w.heap.size w w5) := hide (HB4.out.trans (foot_below HC4.out ho5 HB4.out.size))
  have HC5 := hide hc5
  have HU := hide (upto_any (t := 7) hc5 hr5 HB5.out.size (by decide) (by decide))
  clear hc5 hr5 ho5
  go_wp2_with fail
  refine (HU.out).mono ?_
  rintro _ w6 ⟨vo, v6, l6, rfl, hro, hc6, hr6, ho6, _, _⟩
  have HB6 : Hid (Below w.heap.size w w6) := hide (HB5.out.trans (foot_below HC5.out ho6 HB5.out.size))
  have hlen6 := hr6.length
  rw [show ([(7, 2), (7, 3), (9, 1)] : List Du).takeWhile (fun d => decide (d.1 ≤ 7)) = [(7, 2), (7, 3)] by decide] at hro
  rw [show ([(7, 2), (7, 3), (9, 1)] : List Du).dropWhile (fun d => decide (d.1 ≤ 7)) = [(9, 1)] by decide] at hlen6
  have HLEN := hide hlen6
  have HC6 := hide hc6
  obtain ⟨A6, c6, rfl⟩ := own_shape hro
  have HRO := hide hro
  clear hc6 hr6 ho6 hro hlen6
  have hb6 : Below w6.heap.size w6 (w6.alloc (.cells #[.int .i64 7, .int .i64 2, .int .i64 7, .int .i64 3] 30)) := (Below.refl _ _).alloc (Nat.le_refl _) _
  have ha6 : Reads (w6.alloc (.cells #[.int .i64 7, .int .i64 2, .int .i64 7, .int .i64 3] 30)) (w6.alloc (.cells #[.int .i64 7, .int .i64 2, .int .i64 7, .int .i64 3] 30)).heap.size 2 A6 [((7 : Int), (2 : Int)), (7, 3)].length (flatD [((7 : Int), (2 : Int)), (7, 3)]) := ((Reads.of_own HRO.out).below hb6).more hb6.size
  have hn6 : Reads (w6.alloc (.cells #[.int .i64 7, .int .i64 2, .int .i64 7, .int .i64 3] 30)) (w6.alloc (.cells #[.int .i64 7, .int .i64 2, .int .i64 7, .int .i64 3] 30)).heap.size 2 (some ⟨w6.heap.size, 0, none⟩) [((7 : Int), (2 : Int)), (7, 3)].length (flatD [((7 : Int), (2 : Int)), (7, 3)]) :=
    ⟨rfl, fun _ => ⟨w6.heap.size, 0, rfl, by simp, fun j u hj => by rw [show (⟨w6.heap.size, 0 + j, none⟩ : Addr) = (⟨w6.heap.size, 0, none⟩ : Addr).add j by simp [Addr.add]]; exact cells_new w6 [.int .i64 7, .int .i64 2, .int .i64 7, .int .i64 3] 30 j u hj⟩⟩
  have HM := hide (same_any A6 c6 [(7, 2), (7, 3)] (some ⟨w6.heap.size, 0, none⟩) 2 [(7, 2), (7, 3)] _ ha6 hn6 (by simp))
  rw [show decide ([((7 : Int), (2 : Int)), (7, 3)] = [(7, 2), (7, 3)]) = true by decide] at HM
  have HBA := hide hb6
  clear ha6 hn6 hb6
  go_wp2_with fail
  refine (HM.out).mono ?_
  rintro _ w7 ⟨rfl, hb7⟩
  have HB7 := hide (HBA.out.trans (hb7.mono HBA.out.size))
  have HL7 := hide (len_any (CalF.below HC6.out HB7.out))
  have HW7 := hide (now_any (CalF.below HC6.out HB7.out))
  rw [HLEN.out] at HL7
  clear hb7
  go_wp2_with (first | (refine (HL7.out).mono ?_; rintro e _ ⟨rfl, rfl⟩) | (refine (HW7.out).mono ?_; rintro e _ ⟨rfl, rfl⟩))
  go_ret
  exact ⟨rfl, HB6.out.trans (HB7.out.mono HB6.out.size)⟩
end Go.Proofs.Ytdaicdaakegdmaa
