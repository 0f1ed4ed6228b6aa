/- The walk of clear.Compare: the order of two choices. -/
import Derived.Test.YtkjmpenaifhfjaaAllP
import Derived.Test.YtkjmpenaifhfjaaPart
import Derived.Deep.RegionHeld3
import Derived.BigQuiet
namespace Go.Proofs.Ytkjmpenaifhfjaa
open Go.RowKit Go.Maps
open Go.ChangeMaps Go.WideMaps

def StayPost (v : Value) (w : World) (e : Ending) (w' : World) : Prop := e = .returned v ∧ w = w'
def sgnI (x y : Int) : Int := if x < y then -1 else if y < x then 1 else 0
theorem cmpL_nil_left (b : List Int) : cmpL [] b = if b.length = 0 then 0 else -1 := by cases b <;> simp [cmpL]
theorem cmpL_nil_right (a : List Int) : cmpL a [] = if a.length = 0 then 0 else 1 := by cases a <;> simp [cmpL]
theorem cmpL_end {a b : List Int} {k : Nat} (hk : k ≤ a.length) (hk' : k ≤ b.length) (h : k = a.length ∨ k = b.length) : cmpL (a.drop k) (b.drop k) = sgnI a.length b.length := by
  rcases h with h | h
  · rw [List.drop_of_length_le (l := a) (by omega), cmpL_nil_left, List.length_drop]
    unfold sgnI
    split
    · rw [if_neg (by omega), if_neg (by omega)]
    · rw [if_pos (by omega)]
  · rw [List.drop_of_length_le (l := b) (by omega), cmpL_nil_right, List.length_drop]
    unfold sgnI
    split
    · rw [if_neg (by omega), if_neg (by omega)]
    · rw [if_neg (by omega), if_pos (by omega)]
theorem cmpL_step {a b : List Int} {k : Nat} {p q : Int} (hp : a[k]? = some p) (hq : b[k]? = some q) :
    cmpL (a.drop k) (b.drop k) = if (p < 0 ∧ q < 0) ∨ p = q then cmpL (a.drop (k + 1)) (b.drop (k + 1)) else if q < 0 ∨ (0 ≤ p ∧ p < q) then -1 else 1 := by
  obtain ⟨h1, rfl⟩ := List.getElem?_eq_some_iff.1 hp
  obtain ⟨h2, rfl⟩ := List.getElem?_eq_some_iff.1 hq
  rw [List.drop_eq_getElem_cons h1, List.drop_eq_getElem_cons h2]
  rfl

set_option maxHeartbeats 1000000 in
theorem nanint_any (x : Int) (w : World) : Calls Try.prog 55 #[.int .i64 x] w (StayPost (.bool false) w) := by
  go_enter Try.func55, Try.ntmps55
  go_wp2_with fail
  go_ret
  exact ⟨rfl, rfl⟩
set_option maxHeartbeats 1000000 in
theorem cmpint_any (x y : Int) (w : World) : Calls Try.prog 45 #[.int .i64 x, .int .i64 y] w (StayPost (.int .i64 (sgnI x y)) w) := by
  have HN := hide (fun x => nanint_any x w)
  unfold sgnI
  rcases Int.lt_trichotomy x y with h | h | h
  · rw [if_pos h]
    go_enter Try.func45, Try.ntmps45
    go_wp2_with (go_at_call 55; refine (HN.out _).mono ?_; rintro e w1 ⟨rfl, rfl⟩)
    go_ret
    exact ⟨rfl, rfl⟩
  · rw [if_neg (by omega), if_neg (by omega)]
    subst h
    go_enter Try.func45, Try.ntmps45
    go_wp2_with (go_at_call 55; refine (HN.out _).mono ?_; rintro e w1 ⟨rfl, rfl⟩)
    go_ret
    exact ⟨rfl, rfl⟩
  · have h1 : ¬ x < y := by omega
    rw [if_neg h1, if_pos h]
    go_enter Try.func45, Try.ntmps45
    go_wp2_with (go_at_call 55; refine (HN.out _).mono ?_; rintro e w1 ⟨rfl, rfl⟩)
    go_ret
    exact ⟨rfl, rfl⟩

set_option maxRecDepth 100000 in
set_option maxHeartbeats 4000000 in
theorem compare_any (A : Option Addr) (ca : Nat) (a : List Int) (B : Option Addr) (cb : Nat) (b : List Int) (w : World) (ha : One intV w w.heap.size A a) (hb : One intV w w.heap.size B b) (hla : a.length * 8 ≤ 140737488351232) (hlb : b.length * 8 ≤ 140737488351232) :
    Calls Try.prog 26 #[.slice A a.length ca, .slice B b.length cb] w (ValPost (.int .i64 (cmpL a b)) w) := by
  have HA := hide ha
  have HBB := hide hb
  have HC := hide (fun x y w => cmpint_any x y w)
  clear ha hb
  have hc : a.length ≤ b.length ∨ b.length < a.length := by omega
  obtain ⟨m, hm, hma, hmb, HM, hmm⟩ : ∃ m : Nat, (m = a.length ∧ (a.length : Int) ≤ b.length ∧ ¬ ((b.length : Int) < a.length) ∨ m = b.length ∧ (b.length : Int) < a.length ∧ ¬ ((a.length : Int) ≤ b.length) ∧ ¬ ((a.length : Int) < b.length)) ∧ m ≤ a.length ∧ m ≤ b.length ∧ Hid (m = a.length ∨ m = b.length) ∧ min (a.length : Int) (b.length : Int) = (m : Int) := by
    rcases hc with h | h
    · exact ⟨a.length, by omega, by omega, by omega, hide (by omega), by omega⟩
    · exact ⟨b.length, by omega, by omega, by omega, hide (by omega), by omega⟩
  clear hc
  rcases hm with ⟨hm, hc1, hc2⟩ | ⟨hm, hc1, hc2, hc3⟩
  all_goals
    go_enter Try.func26, Try.ntmps26
    go_wp2_with fail
    go_loopw [11] (fun iv wr => ∃ k : Nat, k ≤ m ∧ iv = .int .i64 k ∧ cmpL a b = cmpL (a.drop k) (b.drop k) ∧ Below w.heap.size w wr) (fun iv _ => m - (intOf iv).toNat)
    case atStart => exact ⟨0, Nat.zero_le _, rfl, by simp, Below.refl _ _⟩
    case round =>
      obtain ⟨k, hk, rfl, hcm, hbe⟩ := hrel
      have HCM := hide hcm
      have HBE := hide hbe
      clear hcm hbe
      by_cases hlt : k < m
      · obtain ⟨ab, ao, rfl, haB, hat⟩ := One.at_ HA.out (by omega)
        obtain ⟨bb, bo, rfl, hbB, hbt⟩ := One.at_ HBB.out (by omega)
        obtain ⟨p, hp⟩ : ∃ p, a[k]? = some p := ⟨a[k], List.getElem?_eq_getElem (by omega)⟩
        obtain ⟨q, hq⟩ : ∃ q, b[k]? = some q := ⟨b[k], List.getElem?_eq_getElem (by omega)⟩
        have d0 : wr.cell? ⟨ab, ao + k, none⟩ = some (.int .i64 p) := (HBE.out.cell (p := ⟨ab, ao + k, none⟩) haB).trans (hat k p hp)
        have d1 : wr.cell? ⟨bb, bo + k, none⟩ = some (.int .i64 q) := (HBE.out.cell (p := ⟨bb, bo + k, none⟩) hbB).trans (hbt k q hq)
        have HST := hide (cmpL_step hp hq)
        have hki : (k : Int) < (m : Int) := by omega
        have hka : (k : Int) < (a.length : Int) := by omega
        have hkb : (k : Int) < (b.length : Int) := by omega
        clear hat hbt hp hq
        by_cases heq : p = q
        · have HNX : Hid (cmpL a b = cmpL (a.drop (k + 1)) (b.drop (k + 1))) := hide (by rw [HCM.out, HST.out, if_pos (.inr heq)])
          have e1 : (p == q) = true := by simpa using heq
          clear heq
          go_wp2_with fail
          go_quiet (fail)
          go_wp2_with fail
          go_roundw
          case rel => exact ⟨k + 1, by omega, by go_num, HNX.out, below_drewN HBE.out _⟩
          case measure => simp [intOf]; omega
        · have e1 : (p == q) = false := by simpa using heq
          by_cases hpn : p < 0
          · by_cases hqn : q < 0
            · have HNX : Hid (cmpL a b = cmpL (a.drop (k + 1)) (b.drop (k + 1))) := hide (by rw [HCM.out, HST.out, if_pos (.inl ⟨hpn, hqn⟩)])
              clear heq
              go_wp2_with fail
              go_quiet (fail)
              go_wp2_with fail
              go_roundw
              case rel => exact ⟨k + 1, by omega, by go_num, HNX.out, below_drewN HBE.out _⟩
              case measure => simp [intOf]; omega
            · have HR : Hid (cmpL a b = 1) := hide (by rw [HCM.out, HST.out, if_neg (by omega), if_neg (by omega)])
              have dq : decide (q < 0) = false := decide_eq_false hqn
              clear heq
              go_wp2_with fail
              go_quiet (fail)
              go_wp2_with fail
              go_ret
              exact ⟨by rw [HR.out]; rfl, below_drewN HBE.out _⟩
          · by_cases hqn : q < 0
            · have HR : Hid (cmpL a b = -1) := hide (by rw [HCM.out, HST.out, if_neg (by omega), if_pos (by omega)])
              have dp : decide (p < 0) = false := decide_eq_false hpn
              clear hpn
              clear heq
              go_wp2_with fail
              go_quiet (fail)
              go_wp2_with fail
              go_ret
              exact ⟨by rw [HR.out]; rfl, below_drewN HBE.out _⟩
            · have HR : Hid (cmpL a b = sgnI p q) := hide (by
                rw [HCM.out, HST.out, if_neg (by omega)]
                unfold sgnI
                by_cases h : p < q
                · rw [if_pos (by omega), if_pos h]
                · rw [if_neg (by omega), if_neg h, if_pos (by omega)])
              clear heq
              have dp : decide (p < 0) = false := decide_eq_false hpn
              have dq : decide (q < 0) = false := decide_eq_false hqn
              clear hpn hqn
              go_wp2_with fail
              go_quiet (fail)
              go_wp2_with fail
              go_region_held3 (fun w' => w'.cell? ⟨ab, ao + k, none⟩ = some (.int .i64 p) ∧ w'.cell? ⟨bb, bo + k, none⟩ = some (.int .i64 q)) (first | exact ⟨d0, d1⟩ | go_keep) (first | (go_at_call 45; refine (HC.out p q _).mono ?_; rintro e w1 ⟨rfl, rfl⟩))
              go_wp2_with fail
              go_ret
              exact ⟨by rw [HR.out]; rfl, by first | exact below_drewN HBE.out _ | exact (below_drewN HBE.out _).drew | exact below_drewN (below_drewN HBE.out _) _⟩
      · have hke : k = m := by omega
        rw [hm] at hke
        subst hke
        have HR : Hid (cmpL a b = sgnI a.length b.length) := hide (by rw [HCM.out, cmpL_end (by omega) (by omega) (by omega)])
        go_wp2_with (first | (go_at_call 45; refine (HC.out _ _ _).mono ?_; rintro e w1 ⟨rfl, rfl⟩))
        go_ret
        exact ⟨by rw [HR.out]; rfl, HBE.out⟩

end Go.Proofs.Ytkjmpenaifhfjaa
