/- The walks of the document's Within, Apart, Next. -/
import Derived.Test.YtffpiaipdeebcaaDoorGd2
namespace Go.Proofs.YtffpiaipdeebcaaDoor
open Go.RowKit Go.Maps Go.Shelf
open Go.ChangeMaps Go.WideMaps

theorem all_drop {l : List Nat} {f : Nat → Bool} {k : Nat} (hk : k ≤ l.length) (h : ∀ (j : Nat) y, j < k → l[j]? = some y → f y = true) (he : k = l.length) : l.all f = true := by
  rw [List.all_eq_true]
  intro x hx
  obtain ⟨i, hi, rfl⟩ := List.getElem_of_mem hx
  exact h i _ (by omega) (List.getElem?_eq_getElem hi)
theorem eachL_at {s k x : Nat} (h : (eachL s)[k]? = some x) : x < 32 ∧ s.testBit x = true := mem_eachL.1 (List.mem_of_getElem? h)
theorem hasB_nat {s x : Nat} (h : x < 32) : hasB s (x : Int) = s.testBit x := by
  unfold hasB
  rw [decide_eq_true (show (0 : Int) ≤ (x : Int) by omega), decide_eq_true (show (x : Int) < 32 by omega)]
  rfl
set_option maxRecDepth 100000 in
set_option maxHeartbeats 4000000 in
theorem refwithin_any (a b : Nat) (ha : a < 4294967296) (hb : b < 4294967296) (w : World) : Calls Tryd.prog 19 #[.int .u32 (a : Int), .int .u32 (b : Int)] w (ValPost (.bool (withinB a b)) w) := by
  have HEA := hide (refeach_any a ha w)
  unfold EachP at HEA
  have HHS := hide (fun g W => refhas_any b hb g W)
  unfold SamePost at HHS
  have HWE := hide (within_each a b ha hb)
  have HAT := hide (fun k x (h : (eachL a)[k]? = some x) => eachL_at h)
  have hel := eachL_len a
  obtain ⟨L, hL⟩ : ∃ L, eachL a = L := ⟨_, rfl⟩
  obtain ⟨R, hR⟩ : ∃ R, withinB a b = R := ⟨_, rfl⟩
  rw [hL] at HEA HWE HAT hel
  rw [hR] at HWE ⊢
  clear hL hR
  go_enter Tryd.func19, Tryd.ntmps19
  go_upto_region 3 with (go_at_call 21; refine (HEA.out).mono ?_; rintro e w1 ⟨A, c, rfl, hone, hb1⟩; have HO := hide hone; have HB := hide hb1; clear hone hb1)
  go_loopw [6] (fun iv wr => ∃ k : Nat, k ≤ L.length ∧ iv = .int .i64 k ∧ (∀ (j : Nat) y, j < k → L[j]? = some y → b.testBit y = true) ∧ w1 = wr) (fun iv _ => L.length - (intOf iv).toNat)
  case atStart => exact ⟨0, Nat.zero_le _, rfl, fun j y hj => absurd hj (by omega), by trivial⟩
  case round =>
    obtain ⟨k, hk, rfl, hno, rfl⟩ := hrel
    have HN := hide hno
    clear hno
    by_cases hlt : k < L.length
    · obtain ⟨bb, bo, rfl, hbB, hcc⟩ := One.at_ HO.out (by omega)
      obtain ⟨x, hx⟩ : ∃ x, L[k]? = some x := ⟨L[k], List.getElem?_eq_getElem hlt⟩
      have d0 := hcc k x hx
      have hki : (k : Int) < (L.length : Int) := by omega
      have HX := hide hx
      have HH := hide (HHS.out x w1)
      rw [hasB_nat (HAT.out k x hx).1] at HH
      clear hcc hx
      cases hbt : b.testBit x
      · have HE : Hid (R = false) := hide (by rw [← HWE.out, List.all_eq_false]; exact ⟨x, List.mem_of_getElem? HX.out, by rw [hbt]; simp⟩)
        rw [hbt] at HH
        clear hbt
        go_wp2_with (go_at_call 17; refine (HH.out).mono ?_; rintro e w2 ⟨rfl, rfl⟩)
        go_ret
        exact ⟨by rw [HE.out]; rfl, HB.out⟩
      · rw [hbt] at HH
        have HBT := hide hbt
        clear hbt
        go_wp2_with (go_at_call 17; refine (HH.out).mono ?_; rintro e w2 ⟨rfl, rfl⟩)
        go_roundw
        case rel =>
          refine ⟨k + 1, by omega, by go_num, fun j y hj hy => ?_, by trivial⟩
          rcases Nat.lt_or_ge j k with h | h
          · exact HN.out j y h hy
          · obtain rfl : j = k := by omega
            obtain rfl : x = y := Option.some.inj (HX.out.symm.trans hy)
            exact HBT.out
        case measure => simp [intOf]; omega
    · obtain rfl : k = L.length := by omega
      have HE : Hid (R = true) := hide (by rw [← HWE.out]; exact all_drop (Nat.le_refl _) HN.out rfl)
      go_wp2_with fail
      go_ret
      exact ⟨by rw [HE.out]; rfl, HB.out⟩
theorem nextR_drop {s : Nat} {l : List Nat} {k x : Nat} (h : l[k]? = some x) : nextR s (l.drop k) = if s.testBit x then nextR (s - 2 ^ x) (l.drop (k + 1)) else (s + 2 ^ x, true) := by
  rw [List.drop_eq_getElem_cons (List.getElem?_eq_some_iff.1 h).1, (List.getElem?_eq_some_iff.1 h).2]
  rfl
set_option maxRecDepth 100000 in
set_option maxHeartbeats 4000000 in
theorem refnext_any (s o : Nat) (hs : s < 4294967296) (ho : o < 4294967296) (w : World) : Calls Tryd.prog 31 #[.int .u32 (s : Int), .int .u32 (o : Int)] w (ValPost (.tuple #[.int .u32 ((nextG s o).1 : Nat), .bool (nextG s o).2]) w) := by
  rw [next_same hs ho]
  have HN : Hid (nextD s o = if !withinB s o || s == o then (0, false) else nextR s (eachL o)) := hide rfl
  have HW := hide (refwithin_any s o hs ho w)
  have HEA := hide (fun W => refeach_any o ho W)
  unfold EachP at HEA
  have HHS := hide (fun s hs g W => refhas_any s hs g W)
  unfold SamePost at HHS
  have HBT := hide (fun g h0 h1 W => refbit_any g h0 h1 W)
  unfold SamePost at HBT
  have HAT := hide (fun k x (h : (eachL o)[k]? = some x) => (eachL_at h).1)
  have hel := eachL_len o
  obtain ⟨L, hL⟩ : ∃ L, eachL o = L := ⟨_, rfl⟩
  obtain ⟨r, hr⟩ : ∃ r, nextD s o = r := ⟨_, rfl⟩
  rw [hL] at HEA HAT hel HN
  rw [hr] at HN ⊢
  clear hL hr
  go_enter Tryd.func31, Tryd.ntmps31
  cases hwi : withinB s o
  · rw [hwi] at HW HN
    go_wp2_with (go_at_call 19; refine (HW.out).mono ?_; rintro e w1 ⟨rfl, hb1⟩; have HB := hide hb1; clear hb1)
    go_ret2
    exact ⟨by rw [HN.out]; rfl, HB.out⟩
  rw [hwi] at HW HN
  by_cases he : s = o
  · subst he
    have HE : Hid (r = (0, false)) := hide (by rw [HN.out]; simp)
    go_wp2_with (go_at_call 19; refine (HW.out).mono ?_; rintro e w1 ⟨rfl, hb1⟩; have HB := hide hb1; clear hb1)
    go_ret2
    exact ⟨by rw [HE.out]; rfl, HB.out⟩
  have HE : Hid (r = nextR s L) := hide (by rw [HN.out]; simp [he])
  have he2 : ((s : Int) == (o : Int)) = false := by rw [beq_eq_false_iff_ne]; omega
  clear HN hwi
  go_upto_region 3 with (go_at_call 19; refine (HW.out).mono ?_; rintro e w1 ⟨rfl, hb1⟩; have HB := hide hb1; clear hb1)
  go_upto_region 5 with (go_at_call 21; refine (HEA.out w1).mono ?_; rintro e w2 ⟨A, c, rfl, hone, hb2⟩; have HO := hide hone; have HB := hide (HB.out.trans (hb2.mono HB.out.size)); clear hone hb2)
  go_loopw [0, 7] (fun sv iv wr => ∃ k t : Nat, k ≤ L.length ∧ sv = .int .u32 t ∧ t < 4294967296 ∧ iv = .int .i64 k ∧ r = nextR t (L.drop k) ∧ w2 = wr) (fun _ iv _ => L.length - (intOf iv).toNat)
  case atStart => exact ⟨0, s, Nat.zero_le _, rfl, hs, rfl, HE.out, by trivial⟩
  case round =>
    obtain ⟨k, t, hk, rfl, ht, rfl, hre, rfl⟩ := hrel
    have HR := hide hre
    clear hre HE
    by_cases hlt : k < L.length
    · obtain ⟨bb, bo, rfl, hbB, hcc⟩ := One.at_ HO.out (by omega)
      obtain ⟨x, hx⟩ : ∃ x, L[k]? = some x := ⟨L[k], List.getElem?_eq_getElem hlt⟩
      have d0 := hcc k x hx
      have hki : (k : Int) < (L.length : Int) := by omega
      have hx32 := HAT.out k x hx
      have HH := hide (HHS.out t ht x w2)
      rw [hasB_nat hx32] at HH
      have HBX := hide (HBT.out x (by omega) (by omega) w2)
      rw [Int.toNat_natCast] at HBX
      have hrn := HR.out
      rw [nextR_drop hx] at hrn
      have hor := or_pow t x
      have hol := or_lt ht hx32
      have hge := fun h => Nat.ge_two_pow_of_testBit (x := t) (i := x) h
      obtain ⟨q, hq⟩ : ∃ q : Nat, 2 ^ x = q := ⟨_, rfl⟩
      rw [hq] at HBX hrn hor hol hge
      clear hcc hx hq
      cases hbt : t.testBit x
      · rw [hbt] at HH hrn hor
        rw [if_neg (by simp)] at hor hrn
        rw [← hor] at hol
        have hsum : IntKind.u32.wrap ((t : Int) + (q : Int)) = ((t + q : Nat) : Int) := by rw [Go.IntWalk.u32_in _ (by omega)]; omega
        have HRN := hide hrn
        clear hbt hor hge hrn
        go_wp2_with (first
          | (go_at_call 17; refine (HH.out).mono ?_; rintro e w3 ⟨rfl, rfl⟩)
          | (go_at_call 42; refine (HBX.out).mono ?_; rintro e w3 ⟨rfl, rfl⟩))
        go_ret2
        exact ⟨by rw [HRN.out]; first | rfl | exact congrArg (fun z => Ending.returned (.tuple #[.int .u32 z, .bool true])) hsum, HB.out⟩
      · rw [hbt] at HH hrn
        rw [if_pos rfl] at hrn
        have hqt := hge hbt
        have hsub : IntKind.u32.wrap ((t : Int) - (q : Int)) = ((t - q : Nat) : Int) := by rw [Go.IntWalk.u32_in _ (by omega)]; omega
        have HRN := hide hrn
        clear hbt hor hge hrn
        go_wp2_with (first
          | (go_at_call 17; refine (HH.out).mono ?_; rintro e w3 ⟨rfl, rfl⟩)
          | (go_at_call 42; refine (HBX.out).mono ?_; rintro e w3 ⟨rfl, rfl⟩))
        go_roundw
        case rel => exact ⟨k + 1, t - q, by omega, by first | rfl | exact congrArg (Value.int .u32) hsub | go_num, by omega, by go_num, HRN.out, by trivial⟩
        case measure => simp [intOf]; omega
    · obtain rfl : k = L.length := by omega
      have HRN : Hid (r = (0, false)) := hide (by rw [HR.out, List.drop_length]; rfl)
      go_wp2_with fail
      go_ret2
      exact ⟨by rw [HRN.out]; rfl, HB.out⟩
end Go.Proofs.YtffpiaipdeebcaaDoor
