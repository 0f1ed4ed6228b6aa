/- The walks of the document's Check and Sell of bids. -/
import Derived.Test.YtnidmoljhopcoaaSellsB
namespace Go.Proofs.Ytnidmoljhopcoaa
open Go.RowKit

def checkI (floor : Int) (l : List (Int × Int)) : Int := if coinsB floor = false ∨ l.any badB = true then 2 else if dupB l = true then 5 else 0
theorem badB_of {x1 x2 : Int} : badB (x1, x2) = true ↔ x1 < 0 ∨ coinsB x2 = false := by
  unfold badB
  simp
theorem any_bad {l : List (Int × Int)} {k : Nat} {x : Int × Int} (hx : l[k]? = some x) (hb : badB x = true) : l.any badB = true := List.any_eq_true.2 ⟨x, List.mem_of_getElem? hx, hb⟩
theorem no_bad {l : List (Int × Int)} (h : ∀ j y, j < l.length → l[j]? = some y → badB y = false) : l.any badB = false := by
  rw [List.any_eq_false]
  intro x hx
  obtain ⟨i, hi, rfl⟩ := List.getElem_of_mem hx
  rw [h i _ hi (List.getElem?_eq_getElem hi)]
  simp
theorem dup_at {l : List (Int × Int)} {i k : Nat} {x y : Int × Int} (hk : k < i) (hx : l[k]? = some x) (hy : l[i]? = some y) (he : x.1 = y.1) : dupB l = true := by
  unfold dupB
  rw [decide_eq_true_eq]
  intro hn
  obtain ⟨h1, rfl⟩ := List.getElem?_eq_some_iff.1 hx
  obtain ⟨h2, rfl⟩ := List.getElem?_eq_some_iff.1 hy
  have h5 := List.pairwise_iff_getElem.1 hn k i (by simpa using h1) (by simpa using h2) hk
  simp at h5
  exact h5 he
theorem no_dup {l : List (Int × Int)} (h : ∀ p q x y, p < q → q < l.length → l[p]? = some x → l[q]? = some y → x.1 ≠ y.1) : dupB l = false := by
  unfold dupB
  rw [decide_eq_false_iff_not]
  intro hn
  refine hn (List.pairwise_iff_getElem.2 (fun i j hi hj hij => ?_))
  have hi' : i < l.length := by simpa using hi
  have hj' : j < l.length := by simpa using hj
  have h5 := h i j l[i] l[j] hij hj' (List.getElem?_eq_getElem _) (List.getElem?_eq_getElem _)
  simpa using h5

set_option maxRecDepth 100000 in
set_option maxHeartbeats 4000000 in
theorem refcheck_any (floor : Int) (A : Option Addr) (c : Nat) (l : List (Int × Int)) (w : World) (h : Bids w w.heap.size A l) (hl : l.length ≤ 1000000) :
    Calls Try.prog 39 #[.int .i64 floor, .slice A l.length c] w (IntPost (checkI floor l) w) := by
  have HAT := hide h.at_
  have HC := hide (fun c W => are_any c W)
  clear h
  rcases hcf : coinsB floor with _ | _
  · have hR : checkI floor l = 2 := by unfold checkI; rw [if_pos (.inl hcf)]
    rw [hR]
    have HF := hide (fun W => are_any floor W)
    rw [hcf] at HF
    clear hR hcf
    go_enter Try.func39, Try.ntmps39
    go_wp2_with (go_at_call 11; refine (HF.out _).mono ?_; rintro e _ ⟨rfl, rfl⟩)
    go_ret
    exact ⟨rfl, Below.refl _ _⟩
  · have HF := hide (fun W => are_any floor W)
    rw [hcf] at HF
    have HR : Hid (checkI floor l = if l.any badB = true then 2 else if dupB l = true then 5 else 0) := hide (by unfold checkI; by_cases hb : l.any badB = true <;> simp [hcf, hb])
    clear hcf
    go_enter Try.func39, Try.ntmps39
    go_wp2_with (go_at_call 11; refine (HF.out _).mono ?_; rintro e _ ⟨rfl, rfl⟩)
    go_loopw [5] (fun i wr => ∃ k : Nat, k ≤ l.length ∧ i = .int .i64 k ∧ Hid (∀ j y, j < k → l[j]? = some y → badB y = false) ∧ Below w.heap.size w wr) (fun i _ => l.length - (intOf i).toNat)
    case atStart => exact ⟨0, Nat.zero_le _, rfl, hide (fun j y hj => by omega), Below.refl _ _⟩
    case round =>
      obtain ⟨k, hk, rfl, HN, hb⟩ := hrel
      by_cases hlt : k < l.length
      · obtain ⟨b, o, rfl, hB, hc⟩ := HAT.out (by omega)
        obtain ⟨x, hx⟩ : ∃ x, l[k]? = some x := ⟨l[k], List.getElem?_eq_getElem hlt⟩
        have d1 := (hb.cell (p := ⟨b, o + k * 2, none⟩) hB).trans (hc k x hx).1
        have d2 := (hb.cell (p := ⟨b, o + k * 2 + 1, none⟩) hB).trans (hc k x hx).2
        obtain ⟨x1, x2⟩ := x
        simp only at d1 d2
        have HX := hide hx
        have HB := hide hb
        clear hc hx hb
        rcases Int.lt_or_le x1 0 with h1 | h1
        · have hd1 : decide (x1 < 0) = true := decide_eq_true h1
          have HQ : Hid (checkI floor l = 2) := hide (by rw [HR.out, if_pos (any_bad HX.out (badB_of.2 (.inl h1)))])
          go_wp2_with fail
          go_ret
          exact ⟨by rw [HQ.out]; rfl, HB.out⟩
        · have hd1 : decide (x1 < 0) = false := decide_eq_false (by omega)
          have hd2 : ¬ x1 < 0 := by omega
          have HA2 := hide (fun W => are_any x2 W)
          rcases hc2 : coinsB x2 with _ | _
          · rw [hc2] at HA2
            have HQ : Hid (checkI floor l = 2) := hide (by rw [HR.out, if_pos (any_bad HX.out (badB_of.2 (.inr hc2)))])
            clear hc2
            go_wp2_with (go_at_call 11; refine (HA2.out _).mono ?_; rintro e _ ⟨rfl, rfl⟩)
            go_ret
            exact ⟨by rw [HQ.out]; rfl, HB.out⟩
          · rw [hc2] at HA2
            have HN2 : Hid (∀ j y, j < k + 1 → l[j]? = some y → badB y = false) := hide (fun j y hj hy => by
              rcases Nat.lt_or_ge j k with h5 | h5
              · exact HN.out j y h5 hy
              · obtain rfl : j = k := by omega
                rw [HX.out] at hy
                injection hy with hy
                subst hy
                rw [← Bool.not_eq_true, badB_of]
                simp [hc2]
                omega)
            clear hc2
            go_wp2_with (go_at_call 11; refine (HA2.out _).mono ?_; rintro e _ ⟨rfl, rfl⟩)
            go_roundw
            case rel => exact ⟨k + 1, by omega, by go_num, HN2, HB.out⟩
            case measure => (simp [intOf] <;> omega)
      · obtain rfl : k = l.length := by omega
        have HR2 : Hid (checkI floor l = if dupB l = true then 5 else 0) := hide (by rw [HR.out, no_bad HN.out]; simp)
        have HBO := hide hb
        clear hb hlt hk
        go_wp2_with fail
        obtain ⟨wo, rfl⟩ : ∃ wo : World, wo = wr := ⟨_, rfl⟩
        go_loopw [6] (fun i wr => ∃ k : Nat, k ≤ l.length ∧ i = .int .i64 k ∧ Hid (∀ p q x y, p < q → q < k → l[p]? = some x → l[q]? = some y → x.1 ≠ y.1) ∧ Below w.heap.size w wr) (fun i _ => l.length - (intOf i).toNat)
        case atStart => exact ⟨0, Nat.zero_le _, rfl, hide (fun p q x y _ hq => by omega), HBO.out⟩
        case round =>
          obtain ⟨k, hk, rfl, HD, hb⟩ := hrel
          have HB := hide hb
          clear hb
          by_cases hlt : k < l.length
          · obtain ⟨b, o, rfl, hB, hc⟩ := HAT.out (by omega)
            obtain ⟨x, hx⟩ : ∃ x, l[k]? = some x := ⟨l[k], List.getElem?_eq_getElem hlt⟩
            have HXK := hide hx
            have HCX := hide (hc k x hx).1
            have HCC := hide (fun j y hy => (hc j y hy).1)
            clear hc hx
            go_wp2_with fail
            obtain ⟨wp, rfl⟩ : ∃ wo : World, wo = wr := ⟨_, rfl⟩
            go_loopw [7] (fun i wr => ∃ j : Nat, j ≤ k ∧ i = .int .i64 j ∧ Hid (∀ p y, p < j → l[p]? = some y → y.1 ≠ x.1) ∧ Below w.heap.size w wr) (fun i _ => k - (intOf i).toNat)
            case atStart => exact ⟨0, Nat.zero_le _, rfl, hide (fun p y hp => by omega), HB.out⟩
            case round =>
              obtain ⟨j, hj, rfl, HE, hb3⟩ := hrel
              have HB3 := hide hb3
              by_cases hjk : j < k
              · obtain ⟨y, hy⟩ : ∃ y, l[j]? = some y := ⟨l[j]'(by omega), List.getElem?_eq_getElem _⟩
                have d1 := (hb3.cell (p := ⟨b, o + j * 2, none⟩) hB).trans (HCC.out j y hy)
                have d2 := (hb3.cell (p := ⟨b, o + k * 2, none⟩) hB).trans HCX.out
                have hkl : (k : Int) < (l.length : Int) := by omega
                have hjl : (j : Int) < (l.length : Int) := by omega
                have HY := hide hy
                clear hy hb3
                by_cases he : y.1 = x.1
                · have heq : (y.1 == x.1) = true := by simp [he]
                  have HQ : Hid (checkI floor l = 5) := hide (by rw [HR2.out, if_pos (dup_at hjk HY.out HXK.out he)])
                  generalize y.1 = y1 at *
                  generalize x.1 = x1 at *
                  clear he
                  go_wp2_with fail
                  go_quiet (fail)
                  go_wp2
                  go_ret
                  exact ⟨by rw [HQ.out]; rfl, below_drewN HB3.out _⟩
                · have heq : (y.1 == x.1) = false := by simp [he]
                  have HE2 : Hid (∀ p y, p < j + 1 → l[p]? = some y → y.1 ≠ x.1) := hide (fun p z hp hz => by
                    rcases Nat.lt_or_ge p j with h5 | h5
                    · exact HE.out p z h5 hz
                    · obtain rfl : p = j := by omega
                      rw [HY.out] at hz
                      injection hz with hz
                      subst hz
                      exact he)
                  clear he
                  go_wp2_with fail
                  go_quiet (fail)
                  go_wp2
                  go_roundw
                  case rel => exact ⟨j + 1, by omega, by go_num, HE2, below_drewN HB3.out _⟩
                  case measure => (simp [intOf] <;> omega)
              · obtain rfl : j = k := by omega
                have HD2 : Hid (∀ p q x y, p < q → q < j + 1 → l[p]? = some x → l[q]? = some y → x.1 ≠ y.1) := hide (fun p q x' y hpq hq hx' hy => by
                  rcases Nat.lt_or_ge q j with h5 | h5
                  · exact HD.out p q x' y hpq h5 hx' hy
                  · obtain rfl : q = j := by omega
                    rw [HXK.out] at hy
                    injection hy with hy
                    subst hy
                    exact HE.out p x' hpq hx')
                clear hb3
                go_wp2_with fail
                go_roundw
                case rel => exact ⟨j + 1, by omega, by go_num, HD2, HB3.out⟩
                case measure => (simp [intOf] <;> omega)
          · obtain rfl : k = l.length := by omega
            have HQ : Hid (checkI floor l = 0) := hide (by rw [HR2.out, no_dup HD.out]; simp)
            go_wp2_with fail
            go_ret
            exact ⟨by rw [HQ.out]; rfl, HB.out⟩

theorem sell_check (floor : Int) (l : List (Int × Int)) : sellI floor l = if checkI floor l = 0 then (comeI floor l, 0) else (noSold, checkI floor l) := by
  unfold sellI checkI
  by_cases h1 : coinsB floor = false ∨ l.any badB = true
  · rw [if_pos h1, if_pos h1]; rfl
  · rw [if_neg h1, if_neg h1]
    by_cases h2 : dupB l = true
    · rw [if_pos h2, if_pos h2]; rfl
    · rw [if_neg h2, if_neg h2]; rfl
set_option maxRecDepth 100000 in
set_option maxHeartbeats 2000000 in
theorem refsell_any (floor : Int) (A : Option Addr) (c : Nat) (l : List (Int × Int)) (w : World) (h : Bids w w.heap.size A l) (hl : l.length ≤ 1000000) :
    Calls Try.prog 18 #[.int .i64 floor, .slice A l.length c] w (ValPost (pairV (sellI floor l)) w) := by
  have HCK : Hid (∀ W, Below w.heap.size w W → Calls Try.prog 39 #[.int .i64 floor, .slice A l.length c] W (IntPost (checkI floor l) W)) := hide (fun W hW => refcheck_any floor A c l W ((h.below hW).more hW.size) hl)
  have HCM : Hid (∀ W, Below w.heap.size w W → Calls Try.prog 34 #[.int .i64 floor, .slice A l.length c] W (ValPost (soldV (comeI floor l)) W)) := hide (fun W hW => refcome_any floor A c l W ((h.below hW).more hW.size) hl)
  rw [sell_check]
  have HB0 : Hid (Below w.heap.size w (w.alloc (.cells #[.bool false, .int .i64 0, .int .i64 0, .int .i64 0] 27))) := hide ((Below.refl _ _).alloc (Nat.le_refl _) _)
  have hlt : w.heap.size < (w.alloc (.cells #[.bool false, .int .i64 0, .int .i64 0, .int .i64 0] 27)).heap.size := by simp
  clear h
  by_cases hz : checkI floor l = 0
  · rw [if_pos hz]
    rw [hz] at HCK
    generalize comeI floor l = s4 at *
    obtain ⟨y1, y2, y3, y4⟩ := s4
    simp only [soldV] at HCM
    clear hz
    go_enter Try.func18, Try.ntmps18
    go_wp2_with fail
    refine (HCK.out _ HB0.out).mono ?_
    rintro e w1 ⟨rfl, hb1⟩
    have HB1 : Hid (Below w.heap.size w w1) := hide (HB0.out.trans (hb1.mono HB0.out.size))
    have hc1 := fun o => (bcell hb1).1 w.heap.size o hlt
    have hf1 := fun o => (bcell hb1).2 w.heap.size o hlt
    have hz1 : w.heap.size < w1.heap.size := by have := hb1.size; omega
    clear hb1
    go_wp2_with fail
    refine (HCM.out _ HB1.out).mono ?_
    rintro e w2 ⟨rfl, hb2⟩
    have HB2 : Hid (Below w.heap.size w w2) := hide (HB1.out.trans (hb2.mono HB1.out.size))
    have hc2 := fun o => (bcell hb2).1 w.heap.size o hz1
    have hf2 := fun o => (bcell hb2).2 w.heap.size o hz1
    have hz2 : w.heap.size < w2.heap.size := by have := hb2.size; omega
    clear hb2
    go_wp2_with fail
    refine bodyPost_ret (v := pairV ((y1, y2, y3, y4), 0)) (by simp [results, Try.results18, go_sem, pairV, soldV, hc1, hz1, hc2, hz2]) rfl ?_
    refine ⟨rfl, ?_⟩
    repeat (refine Below.setCell ?_ (by exact Nat.le_refl _) _)
    exact HB2.out
  · rw [if_neg hz]
    have hne : (checkI floor l != 0) = true := by simp [hz]
    have hne2 : ¬ checkI floor l = 0 := hz
    generalize checkI floor l = ck at *
    clear hz
    go_enter Try.func18, Try.ntmps18
    go_wp2_with fail
    refine (HCK.out _ HB0.out).mono ?_
    rintro e w1 ⟨rfl, hb1⟩
    have HB1 : Hid (Below w.heap.size w w1) := hide (HB0.out.trans (hb1.mono HB0.out.size))
    have hc1 := fun o => (bcell hb1).1 w.heap.size o hlt
    have hf1 := fun o => (bcell hb1).2 w.heap.size o hlt
    have hz1 : w.heap.size < w1.heap.size := by have := hb1.size; omega
    clear hb1
    go_wp2_with fail
    refine bodyPost_ret (v := pairV (noSold, ck)) (by simp [results, Try.results18, go_sem, pairV, soldV, noSold, hc1, hz1]) rfl ?_
    refine ⟨rfl, ?_⟩
    repeat (refine Below.setCell ?_ (by exact Nat.le_refl _) _)
    exact HB1.out
end Go.Proofs.Ytnidmoljhopcoaa
