/- The walks of gavelref13.side, gavelref13.Check, gavelref13.At. -/
import Derived.Test.YtogicdljbnllgaaRefU
namespace Go.Proofs.Ytogicdljbnllgaa
open Go.Shelf Go.RowKit Go.Lib Go.Sort Go.Proofs

def SideRP (A : Option Addr) (c : Nat) (l : List (Int × Int)) (o : List Int) (w : World) (e : Ending) (w' : World) : Prop :=
  ∃ v, e = .returned (.agg #[.slice A l.length c, v]) ∧ w'.ownsRow w.heap.size 3 1 v o.length (o.map (Value.int .i64)) ∧ Below w.heap.size w w'
set_option maxRecDepth 100000 in
set_option maxHeartbeats 2000000 in
theorem refside_any (A : Option Addr) (c : Nat) (l : List (Int × Int)) (bu : Bool) (w : World) (h : Wants w w.heap.size A l) (hl : l.length ≤ 1000000) :
    Calls Try.prog 29 #[.slice A l.length c, .bool bu] w (SideRP A c l (ordK (κOf bu) l) w) := by
  have hal : Below w.heap.size w (w.alloc (.cells #[.slice none 0 0, .slice none 0 0] 72)) := (Below.refl _ _).alloc (Nat.le_refl _) _
  have HO := hide (reforder_any A c l bu (w.alloc (.cells #[.slice none 0 0, .slice none 0 0] 72)) ((h.below hal).more hal.size) hl)
  have HB := hide hal
  have HZ : Hid ((w.alloc (.cells #[.slice none 0 0, .slice none 0 0] 72)).heap[w.heap.size]? = some (.cells #[.slice none 0 0, .slice none 0 0] 72 (0, 0))) := hide (heap_alloc_new w _)
  clear hal h
  go_enter Try.func29, Try.ntmps29
  go_wp2_with fail
  generalize w.alloc (.cells #[.slice none 0 0, .slice none 0 0] 72) = w0 at *
  refine (HO.out).mono ?_
  rintro e w1 ⟨v, rfl, hown, hb1⟩
  obtain ⟨B, cb, rfl, _⟩ := own_sh hown
  have hz1 := (hb1.block _ (lt_of_block HZ.out)).trans HZ.out
  have x0 := cell_of_row _ _ 0 _ _ (0, 0) hz1
  have x1 := cell_of_row _ _ 1 _ _ (0, 0) hz1
  have x2 : ∀ i, w1.frozen? ⟨w.heap.size, i, none⟩ = false := fun i => frozen_of_row w1 _ i _ _ hz1
  simp only [List.getElem?_toArray, List.getElem?_cons_zero, List.getElem?_cons_succ] at x0 x1
  have HB1 := hide (HB.out.trans (hb1.mono HB.out.size))
  have hne := own_ne hown hz1 (fun cur e => by injection e with _ e _; exact absurd e (by decide))
  have HWN := hide (own_base hown HB.out.size)
  have HNE := hide hne
  have HZ2 := hide (setCell_block (setCell_block hz1 0 (.slice A l.length c)) 1 (.slice B (ordK (κOf bu) l).length cb))
  clear hown hb1 hz1 hne HO
  go_wp2_with fail
  have hc0 := cell_of_row _ _ 0 _ _ (0, 0) HZ2.out
  have hc1 := cell_of_row _ _ 1 _ _ (0, 0) HZ2.out
  simp only [List.setIfInBounds_toArray, List.set_cons_zero, List.set_cons_succ, List.getElem?_toArray, List.getElem?_cons_zero, List.getElem?_cons_succ] at hc0 hc1
  refine bodyPost_ret (v := .agg #[.slice A l.length c, .slice B (ordK (κOf bu) l).length cb]) (by simp [results, Try.results29, go_sem, hc0, hc1]) rfl ?_
  exact ⟨_, rfl, ownsRow_setCell_other (ownsRow_setCell_other HWN.out HNE.out _) HNE.out _, (HB1.out.setCell (Nat.le_refl _) _).setCell (Nat.le_refl _) _⟩

theorem both_at {b s : List (Int × Int)} {i : Nat} {x : Int × Int} (h : (b ++ s)[i]? = some x) : (i < b.length ∧ b[i]? = some x) ∨ (b.length ≤ i ∧ s[i - b.length]? = some x) := by
  by_cases hi : i < b.length
  · rw [List.getElem?_append_left hi] at h
    exact .inl ⟨hi, h⟩
  · rw [List.getElem?_append_right (by omega)] at h
    exact .inr ⟨by omega, h⟩
theorem check_bad {b s : List (Int × Int)} (hl : ¬ (4096 < b.length ∨ 4096 < s.length)) {i : Nat} {x : Int × Int} (h : (b ++ s)[i]? = some x) (hb : badW x = true) : checkI b s = 2 := by
  unfold checkI
  rw [if_neg hl, if_pos]
  rcases both_at h with ⟨_, h⟩ | ⟨_, h⟩
  · exact .inl (List.any_eq_true.2 ⟨x, List.mem_of_getElem? h, hb⟩)
  · exact .inr (List.any_eq_true.2 ⟨x, List.mem_of_getElem? h, hb⟩)
theorem check_good {b s : List (Int × Int)} (hl : ¬ (4096 < b.length ∨ 4096 < s.length)) (h : ∀ (j : Nat) x, j < (b ++ s).length → (b ++ s)[j]? = some x → badW x = false) : checkI b s = 0 := by
  unfold checkI
  rw [if_neg hl, if_neg]
  have key : ∀ x ∈ b ++ s, badW x = false := fun x hx => by
    obtain ⟨i, hi, rfl⟩ := List.getElem_of_mem hx
    exact h i _ hi (List.getElem?_eq_getElem hi)
  rintro (hb | hb)
  · obtain ⟨x, hx, h1⟩ := List.any_eq_true.1 hb
    rw [key x (List.mem_append_left _ hx)] at h1
    cases h1
  · obtain ⟨x, hx, h1⟩ := List.any_eq_true.1 hb
    rw [key x (List.mem_append_right _ hx)] at h1
    cases h1
set_option maxRecDepth 100000 in
set_option maxHeartbeats 8000000 in
theorem refcheck_any (A : Option Addr) (c : Nat) (b : List (Int × Int)) (A' : Option Addr) (c' : Nat) (s : List (Int × Int)) (w : World) (h : Wants w w.heap.size A b) (h' : Wants w w.heap.size A' s) :
    Calls Try.prog 28 #[.slice A b.length c, .slice A' s.length c'] w (IntPost (checkI b s) w) := by
  have HW := hide h
  have HW' := hide h'
  clear h h'
  by_cases hl1 : 4096 < b.length
  · have e : checkI b s = 3 := by unfold checkI; rw [if_pos (.inl hl1)]
    rw [e]
    have h1 : 4096 < (b.length : Int) := by omega
    have h2 : decide (4096 < (b.length : Int)) = true := decide_eq_true h1
    clear e
    go_enter Try.func28, Try.ntmps28
    go_wp2_with fail
    go_ret
    exact ⟨rfl, Below.refl _ _⟩
  by_cases hl2 : 4096 < s.length
  · have e : checkI b s = 3 := by unfold checkI; rw [if_pos (.inr hl2)]
    rw [e]
    have h1 : ¬ 4096 < (b.length : Int) := by omega
    have h2 : 4096 < (s.length : Int) := by omega
    clear e
    go_enter Try.func28, Try.ntmps28
    go_wp2_with fail
    go_ret
    exact ⟨rfl, Below.refl _ _⟩
  have HL : Hid (¬ (4096 < b.length ∨ 4096 < s.length)) := hide (by omega)
  have h1 : ¬ 4096 < (b.length : Int) := by omega
  have h2 : ¬ 4096 < (s.length : Int) := by omega
  have hsum : IntKind.i64.wrap ((b.length : Int) + (s.length : Int)) = ((b.length + s.length : Nat) : Int) := by rw [Go.IntWalk.i64_in _ (by omega)]; omega
  go_enter Try.func28, Try.ntmps28
  go_wp2_with fail
  go_loopw [5] (fun iv wr => ∃ i : Nat, i ≤ b.length + s.length ∧ iv = .int .i64 i ∧ Hid (∀ (j : Nat) x, j < i → (b ++ s)[j]? = some x → badW x = false) ∧ Below w.heap.size w wr) (fun iv _ => b.length + s.length - (intOf iv).toNat)
  case atStart => exact ⟨0, Nat.zero_le _, rfl, hide (fun j x hj => absurd hj (by omega)), Below.refl _ _⟩
  case round =>
    obtain ⟨i, hi, rfl, HG, hb⟩ := hrel
    by_cases hlt : i < b.length + s.length
    · obtain ⟨⟨x, n⟩, hx⟩ : ∃ x, (b ++ s)[i]? = some x := ⟨(b ++ s)[i]'(by rw [List.length_append]; exact hlt), List.getElem?_eq_getElem _⟩
      have hii : (i : Int) < ((b.length + s.length : Nat) : Int) := by omega
      have hii2 : (i : Int) < (b.length : Int) + (s.length : Int) := by omega
      have HX := hide hx
      have HBI := hide hb
      have hal : Below wr.heap.size wr ((wr.alloc (.cells #[.int .i64 0, .int .i64 0] 51))) := (Below.refl _ _).alloc (Nat.le_refl _) _
      have HZI : Hid ((wr.alloc (.cells #[.int .i64 0, .int .i64 0] 51)).heap[wr.heap.size]? = some (.cells #[.int .i64 0, .int .i64 0] 51 (0, 0))) := hide (heap_alloc_new wr _)
      have HB0 := hide (hb.alloc hb.size (.cells #[.int .i64 0, .int .i64 0] 51))
      have HRS : Hid (w.heap.size ≤ wr.heap.size) := hide hb.size
      have hk1 : IntKind.i64.wrap ((i : Int) + 1) = ((i + 1 : Nat) : Int) := by rw [Go.IntWalk.i64_in _ (by omega)]; omega
      rcases both_at hx with ⟨hib, hbi⟩ | ⟨hib, hsi⟩
      · obtain ⟨bb, bo, rfl, hbB, hc⟩ := Wants.at_ HW.out (by omega)
        have q0 := (HB0.out.cell (p := ⟨bb, bo + i * 2, none⟩) hbB).trans (hc i _ hbi).1
        have q1 := (HB0.out.cell (p := ⟨bb, bo + i * 2 + 1, none⟩) hbB).trans (hc i _ hbi).2
        have hil : (i : Int) < (b.length : Int) := by omega
        simp only at q0 q1
        clear hx hb hc hbB hbi hal
        go_upto_region 7 with fail
        obtain ⟨r, hr⟩ : ∃ r, r = wr.heap.size := ⟨_, rfl⟩
        generalize wr.alloc (.cells #[.int .i64 0, .int .i64 0] 51) = w3 at *
        rw [← hr] at HZI HRS ⊢
        have y0 := cell_of_row _ _ 0 _ _ (0, 0) HZI.out
        have y1 := cell_of_row _ _ 1 _ _ (0, 0) HZI.out
        have y2 : ∀ i, w3.frozen? ⟨r, i, none⟩ = false := fun i => frozen_of_row w3 _ i _ _ HZI.out
        simp only [List.getElem?_toArray, List.getElem?_cons_zero, List.getElem?_cons_succ] at y0 y1
        have HZ2 := hide (setCell_block (setCell_block HZI.out 0 (.int .i64 x)) 1 (.int .i64 n))
        have HB2 : Hid (Below w.heap.size w ((w3.setCell ⟨r, 0, none⟩ (.int .i64 x)).setCell ⟨r, 1, none⟩ (.int .i64 n))) := hide ((HB0.out.setCell HRS.out _).setCell HRS.out _)
        clear hr
        go_upto_region 10 with fail
        clear y0 y1 y2 q0 q1
        generalize (w3.setCell ⟨r, 0, none⟩ (.int .i64 x)).setCell ⟨r, 1, none⟩ (.int .i64 n) = w4 at *
        have y0 := cell_of_row _ _ 0 _ _ (0, 0) HZ2.out
        have y1 := cell_of_row _ _ 1 _ _ (0, 0) HZ2.out
        simp only [List.setIfInBounds_toArray, List.set_cons_zero, List.set_cons_succ, List.getElem?_toArray, List.getElem?_cons_zero, List.getElem?_cons_succ] at y0 y1
        by_cases p1 : x < 0
        · have e := check_bad HL.out HX.out (by unfold badW; simp [p1])
          have HE := hide e
          clear e
          go_wp2_with fail
          go_ret
          exact ⟨by rw [HE.out]; rfl, HB2.out⟩
        by_cases p2 : 1099511627776 < x
        · have e := check_bad HL.out HX.out (by unfold badW; simp [p2])
          have HE := hide e
          clear e
          go_wp2_with fail
          go_ret
          exact ⟨by rw [HE.out]; rfl, HB2.out⟩
        by_cases p3 : n < 1
        · have e := check_bad HL.out HX.out (by unfold badW; simp [p3])
          have HE := hide e
          clear e
          go_wp2_with fail
          go_ret
          exact ⟨by rw [HE.out]; rfl, HB2.out⟩
        by_cases p4 : 64 < n
        · have e := check_bad HL.out HX.out (by unfold badW; simp [p4])
          have HE := hide e
          clear e
          go_wp2_with fail
          go_ret
          exact ⟨by rw [HE.out]; rfl, HB2.out⟩
        have HG2 : Hid (∀ (j : Nat) z, j < i + 1 → (b ++ s)[j]? = some z → badW z = false) := hide (fun j z hj hz => by
          by_cases e : j = i
          · subst e
            rw [HX.out] at hz
            cases hz
            unfold badW
            simp only [decide_eq_false p1, decide_eq_false p2, decide_eq_false p3, decide_eq_false p4, Bool.or_self]
          · exact HG.out j z (by omega) hz)
        go_wp2_with fail
        go_roundw
        case rel => exact ⟨i + 1, by omega, by first | go_num | exact congrArg (Value.int .i64) hk1, HG2, HB2.out⟩
        case measure => (simp only [intOf]; omega)
      · obtain ⟨bb, bo, rfl, hbB, hc⟩ := Wants.at_ HW'.out (by omega)
        obtain ⟨k, hk⟩ : ∃ k, k = i - b.length := ⟨_, rfl⟩
        rw [← hk] at hsi
        have q0 := (HB0.out.cell (p := ⟨bb, bo + k * 2, none⟩) hbB).trans (hc k _ hsi).1
        have q1 := (HB0.out.cell (p := ⟨bb, bo + k * 2 + 1, none⟩) hbB).trans (hc k _ hsi).2
        have hil : ¬ (i : Int) < (b.length : Int) := by omega
        have hkl : (k : Int) < (s.length : Int) := by omega
        have hkn : k < s.length := by omega
        have hsub : IntKind.i64.wrap ((i : Int) - (b.length : Int)) = (k : Int) := by rw [Go.IntWalk.i64_in _ (by omega)]; omega
        have hsub2 : (i : Int) - (b.length : Int) = (k : Int) := by omega
        simp only at q0 q1
        clear hx hb hc hbB hsi hal hk
        go_upto_region 7 with fail
        obtain ⟨r, hr⟩ : ∃ r, r = wr.heap.size := ⟨_, rfl⟩
        generalize wr.alloc (.cells #[.int .i64 0, .int .i64 0] 51) = w3 at *
        rw [← hr] at HZI HRS ⊢
        have y0 := cell_of_row _ _ 0 _ _ (0, 0) HZI.out
        have y1 := cell_of_row _ _ 1 _ _ (0, 0) HZI.out
        have y2 : ∀ i, w3.frozen? ⟨r, i, none⟩ = false := fun i => frozen_of_row w3 _ i _ _ HZI.out
        simp only [List.getElem?_toArray, List.getElem?_cons_zero, List.getElem?_cons_succ] at y0 y1
        have HZ2 := hide (setCell_block (setCell_block HZI.out 0 (.int .i64 x)) 1 (.int .i64 n))
        have HB2 : Hid (Below w.heap.size w ((w3.setCell ⟨r, 0, none⟩ (.int .i64 x)).setCell ⟨r, 1, none⟩ (.int .i64 n))) := hide ((HB0.out.setCell HRS.out _).setCell HRS.out _)
        clear hr
        go_upto_region 10 with fail
        clear y0 y1 y2 q0 q1
        generalize (w3.setCell ⟨r, 0, none⟩ (.int .i64 x)).setCell ⟨r, 1, none⟩ (.int .i64 n) = w4 at *
        have y0 := cell_of_row _ _ 0 _ _ (0, 0) HZ2.out
        have y1 := cell_of_row _ _ 1 _ _ (0, 0) HZ2.out
        simp only [List.setIfInBounds_toArray, List.set_cons_zero, List.set_cons_succ, List.getElem?_toArray, List.getElem?_cons_zero, List.getElem?_cons_succ] at y0 y1
        by_cases p1 : x < 0
        · have e := check_bad HL.out HX.out (by unfold badW; simp [p1])
          have HE := hide e
          clear e
          go_wp2_with fail
          go_ret
          exact ⟨by rw [HE.out]; rfl, HB2.out⟩
        by_cases p2 : 1099511627776 < x
        · have e := check_bad HL.out HX.out (by unfold badW; simp [p2])
          have HE := hide e
          clear e
          go_wp2_with fail
          go_ret
          exact ⟨by rw [HE.out]; rfl, HB2.out⟩
        by_cases p3 : n < 1
        · have e := check_bad HL.out HX.out (by unfold badW; simp [p3])
          have HE := hide e
          clear e
          go_wp2_with fail
          go_ret
          exact ⟨by rw [HE.out]; rfl, HB2.out⟩
        by_cases p4 : 64 < n
        · have e := check_bad HL.out HX.out (by unfold badW; simp [p4])
          have HE := hide e
          clear e
          go_wp2_with fail
          go_ret
          exact ⟨by rw [HE.out]; rfl, HB2.out⟩
        have HG2 : Hid (∀ (j : Nat) z, j < i + 1 → (b ++ s)[j]? = some z → badW z = false) := hide (fun j z hj hz => by
          by_cases e : j = i
          · subst e
            rw [HX.out] at hz
            cases hz
            unfold badW
            simp only [decide_eq_false p1, decide_eq_false p2, decide_eq_false p3, decide_eq_false p4, Bool.or_self]
          · exact HG.out j z (by omega) hz)
        go_wp2_with fail
        go_roundw
        case rel => exact ⟨i + 1, by omega, by first | go_num | exact congrArg (Value.int .i64) hk1, HG2, HB2.out⟩
        case measure => (simp only [intOf]; omega)
    · obtain rfl : i = b.length + s.length := by omega
      have e := check_good HL.out (fun j x hj hjx => HG.out j x (by rw [List.length_append] at hj; exact hj) hjx)
      have HE := hide e
      have hii : ¬ (((b.length + s.length : Nat) : Int) < ((b.length + s.length : Nat) : Int)) := by omega
      have hii2 : ¬ (((b.length + s.length : Nat) : Int) < (b.length : Int) + (s.length : Int)) := by omega
      have HBI := hide hb
      clear e hb
      go_wp2_with fail
      go_ret
      exact ⟨by rw [HE.out]; rfl, HBI.out⟩
end Go.Proofs.Ytogicdljbnllgaa
