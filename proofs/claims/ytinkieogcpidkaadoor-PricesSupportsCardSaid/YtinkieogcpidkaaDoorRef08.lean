/- The walks of the reference of layer 8: All, May, Check, Instance, SameOffers, SameInstance: what they compute. -/
import Derived.Test.YtinkieogcpidkaaDoorInstW
import Derived.Laws.OwnMore
namespace Go.Proofs.YtinkieogcpidkaaDoor
open Go.RowKit

set_option maxHeartbeats 1000000 in
theorem all08_any (n : Int) (h0 : 0 ≤ n) (h1 : n ≤ 31) (w : World) : Calls Tryd.prog 24 #[.int .i64 n] w fun e w' => e = .returned (.int .u32 (allG n.toNat : Int)) ∧ w' = w := by
  have hq : ∃ q : Nat, 2 ^ n.toNat = q ∧ 1 ≤ q ∧ q ≤ 2147483648 := ⟨_, rfl, Nat.one_le_two_pow, by
    have := Nat.pow_le_pow_right (n := 2) (by omega) (show n.toNat ≤ 31 by omega)
    have h4 : 2 ^ 31 = 2147483648 := rfl
    omega⟩
  obtain ⟨q, hq, hq1, hq2⟩ := hq
  have hz : ((2 : Int) ^ n.toNat) = (q : Int) := by rw [← hq]; simp
  have e3 : (allG n.toNat : Int) = (q : Int) - 1 := by unfold allG; rw [hq]; omega
  rw [e3]
  have HZ := hide hz
  clear hq e3 hz
  go_enter Tryd.func24, Tryd.ntmps24
  go_wp2
  go_ret
  refine ⟨?_, rfl⟩
  have e5 : ((2 : Int) ^ n.toNat % 4294967296 - 1) % 4294967296 = (q : Int) - 1 := by rw [HZ.out]; omega
  show Ending.returned (.int .u32 (((2 : Int) ^ n.toNat % 4294967296 - 1) % 4294967296)) = _
  rw [e5]

def mayO (n : Int) (o : Offer) : Bool := !badO (allG n.toNat) o
set_option maxRecDepth 100000 in
set_option maxHeartbeats 2000000 in
theorem may08_any (n : Int) (o : Offer) (h0 : 1 ≤ n) (h1 : n ≤ 10) (ho : o.1 < 4294967296) (w : World) : Calls Tryd.prog 50 #[.int .i64 n, .agg #[.int .u32 (o.1 : Int), .int .i64 o.2]] w (ValPost (.bool (mayO n o)) w) := by
  obtain ⟨a, c⟩ := o
  simp only at ho
  have hall := allG_lt n.toNat (by omega)
  have HA := hide (fun W => all08_any n (by omega) (by omega) W)
  have hx := andNot_lessG a (allG n.toNat) ho hall
  have e : mayO n (a, c) = (((a : Int) != 0) && ((lessG a (allG n.toNat) : Int) == 0) && decide (1 ≤ c) && decide (c ≤ 1099511627776)) := by
    unfold mayO badO withinB
    rw [u32_beq]
    have e1 : ((a : Int) != 0) = !(a == 0) := by rw [bne, u32_beq]
    have e2 : decide (1 ≤ c) = !decide (c < 1) := by rw [← decide_not]; simp only [decide_eq_decide]; omega
    have e3 : decide (c ≤ 1099511627776) = !decide (1099511627776 < c) := by rw [← decide_not]; simp only [decide_eq_decide]; omega
    rw [e1, e2, e3]
    simp
  rw [e]
  clear e
  have hB : ∀ d, Below w.heap.size w ((w.alloc (.cells #[.int .u32 (a : Int), .int .i64 c] 59)).drewN d) := fun d => below_drewN ((Below.refl _ _).alloc (Nat.le_refl _) _) d
  generalize (lessG a (allG n.toNat) : Int) = la at *
  generalize (allG n.toNat : Int) = al at *
  generalize (a : Int) = a' at *
  have HB := hide hB
  clear hall ho hB
  by_cases c1 : a' = 0
  · have t1 : (a' != 0) = false := by simp [c1]
    rw [t1]
    clear c1
    go_enter Tryd.func50, Tryd.ntmps50
    go_wp2_with fail
    go_quiet (fail)
    go_wp2_with fail
    go_ret
    exact ⟨rfl, HB.out _⟩
  · have t1 : (a' != 0) = true := by simpa using c1
    rw [t1]
    clear c1
    by_cases c2 : la = 0
    · have t2 : (la == 0) = true := by simp [c2]
      rw [t2]
      clear c2
      by_cases c3 : 1 ≤ c
      · have t3 : decide (1 ≤ c) = true := by simpa using c3
        rw [t3]
        go_enter Tryd.func50, Tryd.ntmps50
        go_wp2_with fail
        go_quiet ((go_at_call 24; exact Calls.quiet_of_same (HA.out _)))
        go_wp2_with fail
        go_ret
        exact ⟨rfl, HB.out _⟩
      · have t3 : decide (1 ≤ c) = false := by simpa using c3
        rw [t3]
        go_enter Tryd.func50, Tryd.ntmps50
        go_wp2_with fail
        go_quiet ((go_at_call 24; exact Calls.quiet_of_same (HA.out _)))
        go_wp2_with fail
        go_ret
        exact ⟨rfl, HB.out _⟩
    · have t2 : (la == 0) = false := by simpa using c2
      rw [t2]
      clear c2
      go_enter Tryd.func50, Tryd.ntmps50
      go_wp2_with fail
      go_quiet ((go_at_call 24; exact Calls.quiet_of_same (HA.out _)))
      go_wp2_with fail
      go_ret
      exact ⟨rfl, HB.out _⟩

set_option maxRecDepth 100000 in
set_option maxHeartbeats 2000000 in
theorem check08_any (n : Int) (A : Option Addr) (c : Nat) (l : List Offer) (w : World) (h : Offs w w.heap.size A l) (hl : l.length ≤ 1000000) (hw : OWide l) :
    Calls Tryd.prog 41 #[.int .i64 n, .slice A l.length c] w (CheckPost n l w) := by
  by_cases h1 : n < 1
  · have hr : checkO n l = (0, 2) := by unfold checkO; rw [if_pos (.inl h1)]
    unfold CheckPost
    rw [hr]
    clear hr
    go_enter Tryd.func41, Tryd.ntmps41
    go_wp2
    go_ret2
    exact ⟨rfl, Below.refl _ _⟩
  · by_cases h2 : 10 < n
    · have hr : checkO n l = (0, 2) := by unfold checkO; rw [if_pos (.inr h2)]
      unfold CheckPost
      rw [hr]
      clear hr
      go_enter Tryd.func41, Tryd.ntmps41
      go_wp2
      go_ret2
      exact ⟨rfl, Below.refl _ _⟩
    · by_cases h3 : 8 < l.length
      · have hr : checkO n l = (0, 3) := by unfold checkO; rw [if_neg (by omega), if_pos h3]
        unfold CheckPost
        rw [hr]
        clear hr
        have h3' : (8 : Int) < (l.length : Int) := by omega
        go_enter Tryd.func41, Tryd.ntmps41
        go_wp2
        go_ret2
        exact ⟨rfl, Below.refl _ _⟩
      · have hr : checkO n l = if 0 ≤ idxTo (badO (allG n.toNat)) l then (idxTo (badO (allG n.toNat)) l, 180) else (0, 0) := by unfold checkO; rw [if_neg (by omega), if_neg h3]
        have HR := hide hr
        have h3' : (l.length : Int) ≤ 8 := by omega
        have hat := Offs.at_ h
        have HM : Hid (∀ (x : Offer) (W : World), x ∈ l → Calls Tryd.prog 50 #[.int .i64 n, .agg #[.int .u32 (x.1 : Int), .int .i64 x.2]] W (ValPost (.bool (mayO n x)) W)) := hide (fun x W hx => may08_any n x (by omega) (by omega) (hw x hx).1 W)
        clear hr h hw
        go_enter Tryd.func41, Tryd.ntmps41
        go_wp2_with fail
        go_loopw [6] (fun iv wr => ∃ k : Nat, k ≤ l.length ∧ iv = .int .i64 k ∧ (∀ j y, j < k → l[j]? = some y → badO (allG n.toNat) y = false) ∧ Below w.heap.size w wr) (fun iv _ => l.length - (intOf iv).toNat)
        case atStart => exact ⟨0, Nat.zero_le _, rfl, fun j y hj => absurd hj (by omega), Below.refl _ _⟩
        case round =>
          obtain ⟨k, hk, rfl, hno, hb⟩ := hrel
          have HN := hide hno
          clear hno
          by_cases hlt : k < l.length
          · obtain ⟨b, o, rfl, hbB, hcc⟩ := hat (by omega)
            obtain ⟨x, hx⟩ : ∃ x, l[k]? = some x := ⟨l[k], List.getElem?_eq_getElem hlt⟩
            obtain ⟨hc0, hc1⟩ := hcc k x hx
            have d0 := (hb.cell (p := ⟨b, o + k * 2, none⟩) hbB).trans hc0
            have d1 := (hb.cell (p := ⟨b, o + k * 2 + 1, none⟩) hbB).trans hc1
            have hz := hb.size
            have HX := hide hx
            have HB := hide hb
            have HC := hide (HM.out x wr (List.mem_of_getElem? hx))
            clear hc0 hc1 hcc hat hx hb
            by_cases hp : badO (allG n.toNat) x = true
            · have HI := hide (idxTo_hit HX.out hp HN.out)
              have hm : mayO n x = false := by unfold mayO; rw [hp]; rfl
              rw [hm] at HC
              clear hp hm
              go_wp2_with (go_at_call 50; refine (HC.out).mono ?_; rintro e w1 ⟨rfl, hb1⟩)
              go_ret2
              refine ⟨?_, HB.out.trans (hb1.mono hz)⟩
              rw [HR.out, HI.out, if_pos (by omega)]
              rfl
            · have hp' : badO (allG n.toNat) x = false := by simpa using hp
              have hm : mayO n x = true := by unfold mayO; rw [hp']; rfl
              rw [hm] at HC
              have HP := hide hp'
              clear hp hp' hm
              go_wp2_with (go_at_call 50; refine (HC.out).mono ?_; rintro e w1 ⟨rfl, hb1⟩)
              go_roundw
              case rel => exact ⟨k + 1, by omega, by go_num, no_next HN.out HX.out HP.out, HB.out.trans (hb1.mono hz)⟩
              case measure => simp [intOf]; omega
          · obtain rfl : k = l.length := by omega
            have HI := hide (idxTo_miss HN.out)
            go_wp2_with fail
            go_ret2
            refine ⟨?_, hb⟩
            rw [HR.out, HI.out, if_neg (by omega)]
            rfl

set_option maxRecDepth 100000 in
set_option maxHeartbeats 2000000 in
theorem sameOffers_any (A : Option Addr) (c : Nat) (l : List Offer) (A' : Option Addr) (c' : Nat) (l' : List Offer) (w : World) (h : Offs w w.heap.size A l) (h' : Offs w w.heap.size A' l') (hl : l.length ≤ 1000000) :
    Calls Tryd.prog 29 #[.slice A l.length c, .slice A' l'.length c'] w (ValPost (.bool (decide (l = l'))) w) := by
  by_cases hlen : l.length = l'.length
  · have hlen' : ((l.length : Int) != (l'.length : Int)) = false := by simp [hlen]
    have hat := Offs.at_ h
    have hat' := Offs.at_ h'
    have HLN := hide hlen
    clear h h' hlen
    go_enter Tryd.func29, Tryd.ntmps29
    go_wp2_with fail
    go_loopw [5] (fun iv wr => ∃ k : Nat, k ≤ l.length ∧ iv = .int .i64 k ∧ (∀ j : Nat, j < k → l[j]? = l'[j]?) ∧ Below w.heap.size w wr) (fun iv _ => l.length - (intOf iv).toNat)
    case atStart => exact ⟨0, Nat.zero_le _, rfl, fun j hj => absurd hj (by omega), Below.refl _ _⟩
    case round =>
      obtain ⟨k, hk, rfl, hno, hb⟩ := hrel
      have HN := hide hno
      have HB := hide hb
      clear hno
      by_cases hlt : k < l.length
      · have hlt' : k < l'.length := by have := HLN.out; omega
        obtain ⟨b, o, rfl, hbB, hcc⟩ := hat (by omega)
        obtain ⟨b', o', rfl, hbB', hcc'⟩ := hat' (by omega)
        obtain ⟨x, hx⟩ : ∃ x, l[k]? = some x := ⟨l[k], List.getElem?_eq_getElem hlt⟩
        obtain ⟨y, hy⟩ : ∃ y, l'[k]? = some y := ⟨l'[k], List.getElem?_eq_getElem hlt'⟩
        obtain ⟨hc0, hc1⟩ := hcc k x hx
        obtain ⟨hc0', hc1'⟩ := hcc' k y hy
        have d0 := (hb.cell (p := ⟨b, o + k * 2, none⟩) hbB).trans hc0
        have d1 := (hb.cell (p := ⟨b, o + k * 2 + 1, none⟩) hbB).trans hc1
        have f0 := (hb.cell (p := ⟨b', o' + k * 2, none⟩) hbB').trans hc0'
        have f1 := (hb.cell (p := ⟨b', o' + k * 2 + 1, none⟩) hbB').trans hc1'
        have HX := hide hx
        have HY := hide hy
        have hki : (k : Int) < (l'.length : Int) := by omega
        clear hcc hcc' hat hat' hc0 hc1 hc0' hc1' hx hy hb
        obtain ⟨x1, x2⟩ := x
        obtain ⟨y1, y2⟩ := y
        simp only at d0 d1 f0 f1
        by_cases hxy : (x1, x2) = (y1, y2)
        · simp only [Prod.mk.injEq] at hxy
          obtain ⟨rfl, rfl⟩ := hxy
          go_wp2_with fail
          go_quiet (fail)
          go_wp2_with fail
          go_roundw
          case rel =>
            refine ⟨k + 1, by omega, by go_num, fun j hj => ?_, below_drewN HB.out _⟩
            rcases Nat.lt_or_ge j k with h1 | h1
            · exact HN.out j h1
            · obtain rfl : j = k := by omega
              rw [HX.out, HY.out]
          case measure => simp [intOf]; omega
        · have HR : Hid (decide (l = l') = false) := hide (by
            simp only [decide_eq_false_iff_not]
            intro e
            have h1 := HX.out
            rw [e, HY.out] at h1
            injection h1 with h1
            exact hxy h1.symm)
          by_cases hg : x1 = y1
          · subst hg
            have hc : (x2 == y2) = false := by
              simp only [beq_eq_false_iff_ne, ne_eq]
              intro e
              exact hxy (by rw [e])
            clear hxy
            go_wp2_with fail
            go_quiet (fail)
            go_wp2_with fail
            go_ret
            exact ⟨by rw [HR.out]; rfl, below_drewN HB.out _⟩
          · have hg' : ((x1 : Int) == (y1 : Int)) = false := by simp; omega
            clear hxy hg
            go_wp2_with fail
            go_quiet (fail)
            go_wp2_with fail
            go_ret
            exact ⟨by rw [HR.out]; rfl, below_drewN HB.out _⟩
      · obtain rfl : k = l.length := by omega
        have HR : Hid (decide (l = l') = true) := hide (by
          rw [decide_eq_true_iff]
          apply List.ext_getElem?
          intro j
          rcases Nat.lt_or_ge j l.length with h1 | h1
          · exact HN.out j h1
          · rw [List.getElem?_eq_none h1, List.getElem?_eq_none (by have := HLN.out; omega)])
        go_wp2_with fail
        go_ret
        exact ⟨by rw [HR.out]; rfl, HB.out⟩
  · have hlen' : ((l.length : Int) != (l'.length : Int)) = true := by simp; omega
    have HR : Hid (decide (l = l') = false) := hide (by simp only [decide_eq_false_iff_not]; intro e; exact hlen (by rw [e]))
    clear hlen h h'
    go_enter Tryd.func29, Tryd.ntmps29
    go_wp2_with fail
    go_ret
    exact ⟨by rw [HR.out]; rfl, Below.refl _ _⟩
end Go.Proofs.YtinkieogcpidkaaDoor
