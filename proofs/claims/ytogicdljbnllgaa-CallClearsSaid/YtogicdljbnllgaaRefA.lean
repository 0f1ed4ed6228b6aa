/- The walk of gavelref13.At. -/
import Derived.Test.YtogicdljbnllgaaRefG
namespace Go.Proofs.Ytogicdljbnllgaa
open Go.Shelf Go.RowKit Go.Lib Go.Sort Go.Proofs

set_option maxRecDepth 100000 in
set_option maxHeartbeats 8000000 in
theorem refat_any (A : Option Addr) (c : Nat) (b : List (Int × Int)) (A' : Option Addr) (c' : Nat) (s : List (Int × Int)) (price : Int) (w : World) (h : Wants w w.heap.size A b) (h' : Wants w w.heap.size A' s) :
    Calls Try.prog 16 #[.slice A b.length c, .slice A' s.length c', .int .i64 price] w (AtP (atA b s price) w) := by
  have HW := hide h
  have HW' := hide h'
  have HC := hide (refcheck_any A c b A' c' s w h h')
  clear h h'
  go_enter Try.func16, Try.ntmps16
  go_wp2_with fail
  refine (HC.out).mono ?_
  rintro e w1 ⟨rfl, b1⟩
  have HB1 := hide b1
  clear b1 HC
  by_cases hk : checkI b s = 0
  case neg =>
    have hg : atA b s price = (0, 0, checkI b s) := by unfold atA; rw [if_pos hk]
    have HGA := hide hg
    have hk1 : (checkI b s != 0) = true := by simpa using hk
    have hk2 : (checkI b s == 0) = false := by simpa using hk
    obtain ⟨ck, hck⟩ : ∃ ck, ck = checkI b s := ⟨_, rfl⟩
    rw [← hck] at hk1 hk2 HGA ⊢
    clear hk hg hck
    go_wp2_with fail
    refine bodyPost_ret (v := .tuple #[.int .i64 0, .int .i64 0, .int .i64 ck]) (by simp [results, Try.results16, go_sem]) rfl ?_
    exact ⟨by rw [HGA.out], HB1.out⟩
  have HOK := hide (ok_of_check hk)
  have HKZ := hide hk
  rw [hk]
  clear hk
  by_cases hp1 : price < 0
  · have HGA : Hid (atA b s price = (0, 0, 2)) := hide (by unfold atA; rw [if_neg (fun h => h HKZ.out), if_pos (.inl hp1)])
    go_wp2_with fail
    refine bodyPost_ret (v := .tuple #[.int .i64 0, .int .i64 0, .int .i64 2]) (by simp [results, Try.results16, go_sem]) rfl ?_
    exact ⟨by rw [HGA.out], HB1.out⟩
  by_cases hp2 : 1099511627776 < price
  · have HGA : Hid (atA b s price = (0, 0, 2)) := hide (by unfold atA; rw [if_neg (fun h => h HKZ.out), if_pos (.inr hp2)])
    go_wp2_with fail
    refine bodyPost_ret (v := .tuple #[.int .i64 0, .int .i64 0, .int .i64 2]) (by simp [results, Try.results16, go_sem]) rfl ?_
    exact ⟨by rw [HGA.out], HB1.out⟩
  have HGA : Hid (atA b s price = (untI (fun x => decide (price ≤ x.1)) b, untI (fun x => decide (x.1 ≤ price)) s, 0)) := hide (by unfold atA; rw [if_neg (fun h => h HKZ.out), if_neg (by omega)])
  go_wp2_with fail
  clear hp1 hp2
  go_loopw [10, 12] (fun sv iv wr => ∃ i : Nat, i ≤ b.length ∧ sv = .int .i64 (untI (fun x => decide (price ≤ x.1)) (b.take i)) ∧ iv = .int .i64 i ∧ w1 = wr) (fun _ iv _ => b.length - (intOf iv).toNat)
  case atStart => exact ⟨0, Nat.zero_le _, rfl, rfl, rfl⟩
  case round =>
    obtain ⟨i, hi', rfl, rfl, rfl⟩ := hrel
    by_cases hlt : i < b.length
    · obtain ⟨⟨x, n⟩, hx⟩ : ∃ z, b[i]? = some z := ⟨b[i], List.getElem?_eq_getElem hlt⟩
      obtain ⟨bb, bo, rfl, hbb, hcb⟩ := Wants.at_ HW.out (by omega)
      have u0 := (HB1.out.cell (p := ⟨bb, bo + i * 2, none⟩) hbb).trans (hcb i _ hx).1
      have u1 := (HB1.out.cell (p := ⟨bb, bo + i * 2 + 1, none⟩) hbb).trans (hcb i _ hx).2
      simp only at u0 u1
      have hts := untI_snoc (fun x => decide (price ≤ x.1)) (b.take i) (x, n)
      rw [← take_snoc hx] at hts
      have hbd := untI_bound (fun x => decide (price ≤ x.1)) (b.take i) (fun z hz => okw_cnt HOK.out.1 z (List.mem_of_mem_take hz))
      have hln : (b.take i).length ≤ 4096 := by rw [List.length_take]; have := HOK.out.1.1; omega
      have hnb := okw_cnt HOK.out.1 _ (List.mem_of_getElem? hx)
      simp only at hts hnb
      generalize untI (fun x => decide (price ≤ x.1)) (b.take i) = S0 at *
      obtain ⟨S1, hS1⟩ : ∃ S, S = untI (fun x => decide (price ≤ x.1)) (b.take (i + 1)) := ⟨_, rfl⟩
      rw [← hS1] at hts
      have HS1 := hide hS1
      clear hS1
      have hil : (i : Int) < (b.length : Int) := by omega
      have hk1 : IntKind.i64.wrap ((i : Int) + 1) = ((i + 1 : Nat) : Int) := by rw [Go.IntWalk.i64_in _ (by have := HOK.out.1.1; omega)]; omega
      by_cases hc : price ≤ x
      · have hd : decide (price ≤ x) = true := decide_eq_true hc
        rw [hd, if_pos rfl] at hts
        have hw : IntKind.i64.wrap (S0 + n) = S1 := by rw [hts]; exact Go.IntWalk.i64_in _ (by omega)
        clear hbb hcb hx hts hbd hln hnb
        go_wp2_with fail
        go_roundw
        case rel => exact ⟨i + 1, by omega, congrArg (Value.int .i64) HS1.out, by first | go_num | exact congrArg (Value.int .i64) hk1, by first | rfl | trivial⟩
        case measure => first | exact meas_i hlt hk1 | exact meas_i hlt (by omega)
      · have hd : decide (price ≤ x) = false := decide_eq_false hc
        rw [hd] at hts
        simp only [Bool.false_eq_true, if_false] at hts
        have HTS := hide hts
        clear hbb hcb hx hts hbd hln hnb
        go_wp2_with fail
        go_roundw
        case rel => exact ⟨i + 1, by omega, by rw [← HS1.out, HTS.out], by first | go_num | exact congrArg (Value.int .i64) hk1, by first | rfl | trivial⟩
        case measure => first | exact meas_i hlt hk1 | exact meas_i hlt (by omega)
    · obtain rfl : i = b.length := by omega
      rw [List.take_length]
      obtain ⟨U1, hU1⟩ : ∃ U, U = untI (fun x => decide (price ≤ x.1)) b := ⟨_, rfl⟩
      have HU1 := hide hU1
      rw [← hU1]
      clear hU1
      go_wp2_with fail
      go_loopw [11, 13] (fun sv iv wr => ∃ i : Nat, i ≤ s.length ∧ sv = .int .i64 (untI (fun x => decide (x.1 ≤ price)) (s.take i)) ∧ iv = .int .i64 i ∧ w1 = wr) (fun _ iv _ => s.length - (intOf iv).toNat)
      case atStart => exact ⟨0, Nat.zero_le _, rfl, rfl, by first | rfl | trivial⟩
      case round =>
        obtain ⟨i, hi', rfl, rfl, rfl⟩ := hrel
        by_cases hlt : i < s.length
        · obtain ⟨⟨x, n⟩, hx⟩ : ∃ z, s[i]? = some z := ⟨s[i], List.getElem?_eq_getElem hlt⟩
          obtain ⟨bb, bo, rfl, hbb, hcb⟩ := Wants.at_ HW'.out (by omega)
          have u0 := (HB1.out.cell (p := ⟨bb, bo + i * 2, none⟩) hbb).trans (hcb i _ hx).1
          have u1 := (HB1.out.cell (p := ⟨bb, bo + i * 2 + 1, none⟩) hbb).trans (hcb i _ hx).2
          simp only at u0 u1
          have hts := untI_snoc (fun x => decide (x.1 ≤ price)) (s.take i) (x, n)
          rw [← take_snoc hx] at hts
          have hbd := untI_bound (fun x => decide (x.1 ≤ price)) (s.take i) (fun z hz => okw_cnt HOK.out.2 z (List.mem_of_mem_take hz))
          have hln : (s.take i).length ≤ 4096 := by rw [List.length_take]; have := HOK.out.2.1; omega
          have hnb := okw_cnt HOK.out.2 _ (List.mem_of_getElem? hx)
          simp only at hts hnb
          generalize untI (fun x => decide (x.1 ≤ price)) (s.take i) = S0 at *
          obtain ⟨S1, hS1⟩ : ∃ S, S = untI (fun x => decide (x.1 ≤ price)) (s.take (i + 1)) := ⟨_, rfl⟩
          rw [← hS1] at hts
          have HS1 := hide hS1
          clear hS1
          have hil : (i : Int) < (s.length : Int) := by omega
          have hk1 : IntKind.i64.wrap ((i : Int) + 1) = ((i + 1 : Nat) : Int) := by rw [Go.IntWalk.i64_in _ (by have := HOK.out.2.1; omega)]; omega
          by_cases hc : x ≤ price
          · have hd : decide (x ≤ price) = true := decide_eq_true hc
            rw [hd, if_pos rfl] at hts
            have hw : IntKind.i64.wrap (S0 + n) = S1 := by rw [hts]; exact Go.IntWalk.i64_in _ (by omega)
            clear hbb hcb hx hts hbd hln hnb
            go_wp2_with fail
            go_roundw
            case rel => exact ⟨i + 1, by omega, congrArg (Value.int .i64) HS1.out, by first | go_num | exact congrArg (Value.int .i64) hk1, by first | rfl | trivial⟩
            case measure => first | exact meas_i hlt hk1 | exact meas_i hlt (by omega)
          · have hd : decide (x ≤ price) = false := decide_eq_false hc
            rw [hd] at hts
            simp only [Bool.false_eq_true, if_false] at hts
            have HTS := hide hts
            clear hbb hcb hx hts hbd hln hnb
            go_wp2_with fail
            go_roundw
            case rel => exact ⟨i + 1, by omega, by rw [← HS1.out, HTS.out], by first | go_num | exact congrArg (Value.int .i64) hk1, by first | rfl | trivial⟩
            case measure => first | exact meas_i hlt hk1 | exact meas_i hlt (by omega)
        · obtain rfl : i = s.length := by omega
          rw [List.take_length]
          obtain ⟨U2, hU2⟩ : ∃ U, U = untI (fun x => decide (x.1 ≤ price)) s := ⟨_, rfl⟩
          have HU2 := hide hU2
          rw [← hU2]
          clear hU2
          go_wp2_with fail
          refine bodyPost_ret (v := .tuple #[.int .i64 U1, .int .i64 U2, .int .i64 0]) (by simp [results, Try.results16, go_sem]) rfl ?_
          exact ⟨by rw [HGA.out, HU1.out, HU2.out], HB1.out⟩
end Go.Proofs.Ytogicdljbnllgaa
