/- The walks of total, Sum, the document's all and Sum, SameInts, lent, kept. -/
import Derived.Test.YtgjeihgkcmheeaaDoorMon
namespace Go.Proofs.YtgjeihgkcmheeaaDoor
open Go.RowKit Go.Shelf

theorem num_any (e : Int) (w : World) : Calls Tryd.prog 14 #[.int .i64 e] w (SameP (.int .i64 e) w) := by
  go_enter Tryd.func14, Tryd.ntmps14
  go_wp2_with fail
  go_ret
  exact ⟨rfl, rfl⟩
/-- The sum of coins, or none. -/
def totR (l : List Int) : Int × Bool := if l.length ≤ 1048576 ∧ allC l = true then (sumL l, true) else (0, false)
def sumR (l : List Int) : Int × Int := if allC l = true then (if sumL l ≤ 1099511627776 then (sumL l, 0) else (0, 120)) else (0, 2)
theorem get_of {l : List Int} {k : Nat} (h : k < l.length) : ∃ x, l[k]? = some x := ⟨l[k], List.getElem?_eq_getElem h⟩
theorem sumL_pre {l : List Int} (h : allC l = true) (k : Nat) : sumL (l.take k) ≤ sumL l := by
  have h1 : sumL l = sumL (l.take k) + sumL (l.drop k) := by rw [← sumL_append, List.take_append_drop]
  have h2 : allC (l.drop k) = true := by
    unfold allC at h ⊢
    rw [List.all_eq_true] at h ⊢
    exact fun c hc => h c (List.mem_of_mem_drop hc)
  have := sumL_bound h2
  omega
theorem wrap_in {z : Int} (h : -9223372036854775808 ≤ z ∧ z ≤ 9223372036854775807) : IntKind.i64.wrap z = z := Go.IntWalk.i64_in _ h

set_option maxRecDepth 100000 in
set_option maxHeartbeats 4000000 in
theorem total_any {w : World} {A : Option Addr} {n c : Nat} {l : List Int} (h : Reads w w.heap.size 1 A n (intV l)) (hn : n ≤ 4611686018427387904) :
    Calls Tryd.prog 38 #[.slice A n c] w (SameP (.tuple #[.int .i64 (totR l).1, .bool (totR l).2]) w) := by
  have HR := hide h
  have HL := hide h.len
  have HC := hide (contains_any (c := c) h hn)
  obtain ⟨r1, h1⟩ : ∃ r, (totR l).1 = r := ⟨_, rfl⟩
  obtain ⟨r2, h2⟩ : ∃ r, (totR l).2 = r := ⟨_, rfl⟩
  have H1 := hide h1
  have H2 := hide h2
  rw [h1, h2]
  clear h h1 h2
  by_cases hm : n ≤ 1048576
  · have hm0 : (n : Int) ≤ 1048576 := by omega
    cases hb : allC l with
    | true =>
      have HB := hide hb
      rw [hb] at HC
      have HT : Hid (totR l = (sumL l, true)) := hide (if_pos ⟨by rw [HL.out]; exact hm, hb⟩)
      clear hb
      go_enter Tryd.func38, Tryd.ntmps38
      go_wp2_with fail
      refine (HC.out).mono ?_
      rintro _ _ ⟨rfl, rfl⟩
      go_wp2_with fail
      go_loop [16, 4] (fun iv sv => ∃ (k : Nat) (s : Int), k ≤ n ∧ iv = .int .i64 k ∧ sv = .int .i64 s ∧ sumL (l.take k) = s) (fun iv _ => n - (intOf iv).toNat)
      case atStart => exact ⟨0, 0, Nat.zero_le _, rfl, rfl, rfl⟩
      case round =>
        obtain ⟨k, s, hk, rfl, rfl, hs⟩ := hrel
        have HS := hide hs
        have hk0 : (0 : Int) ≤ (k : Int) := by omega
        have hk9 : (k : Int) ≤ 1048576 := by omega
        have hsb := sumL_takeB HB.out k
        rw [hs] at hsb
        clear hs
        have hs0 : 0 ≤ s := hsb.1
        have hs1 : s ≤ 1152921504606846976 := by omega
        clear hsb
        by_cases hlt : k < n
        · obtain ⟨x, hx⟩ := get_of (l := l) (k := k) (by have := HL.out; omega)
          obtain ⟨g, o, rfl, _, hc⟩ := HR.out.int hlt hx
          have hki : (k : Int) < (n : Int) := by omega
          obtain ⟨hx0, hx1⟩ := allC_get HB.out hx
          have HX := hide ((sumL_take hx).trans (by rw [HS.out]))
          have HLT := hide hlt
          have hw := wrap_in (z := s + x) (by omega)
          clear hx hlt
          go_wp2_with fail
          go_roundw
          case rel => exact ⟨k + 1, s + x, HLT.out, by go_num, rfl, HX.out⟩
          case measure => have := HLT.out; simp [intOf]; omega
        · have hki : ¬ (k : Int) < (n : Int) := by omega
          have hkn : k = n := by omega
          subst hkn
          have HX : Hid (s = r1 ∧ true = r2) := hide (by
            have h1 := H1.out
            have h2 := H2.out
            rw [HT.out] at h1 h2
            refine ⟨?_, h2⟩
            rw [← HS.out, List.take_of_length_le (by have := HL.out; omega)]
            exact h1)
          go_wp2_with fail
          go_ret2
          exact ⟨by rw [HX.out.1, HX.out.2]; rfl, rfl⟩
    | false =>
      rw [hb] at HC
      have HT : Hid ((0 : Int) = r1 ∧ false = r2) := hide (by
        have h1 := H1.out
        have h2 := H2.out
        have e : totR l = (0, false) := if_neg (fun h => by rw [hb] at h; exact absurd h.2 (by decide))
        rw [e] at h1 h2
        exact ⟨h1, h2⟩)
      clear hb
      go_enter Tryd.func38, Tryd.ntmps38
      go_wp2_with fail
      refine (HC.out).mono ?_
      rintro _ _ ⟨rfl, rfl⟩
      go_wp2_with fail
      go_ret2
      exact ⟨by rw [← HT.out.1, ← HT.out.2]; rfl, rfl⟩
  · have hm0 : ¬ (n : Int) ≤ 1048576 := by omega
    have HT : Hid ((0 : Int) = r1 ∧ false = r2) := hide (by
      have h1 := H1.out
      have h2 := H2.out
      have e : totR l = (0, false) := if_neg (fun h => hm (by rw [← HL.out]; exact h.1))
      rw [e] at h1 h2
      exact ⟨h1, h2⟩)
    clear hm
    go_enter Tryd.func38, Tryd.ntmps38
    go_wp2_with fail
    go_ret2
    exact ⟨by rw [← HT.out.1, ← HT.out.2]; rfl, rfl⟩
theorem sumR_big {l : List Int} (hb : allC l = true) {k : Nat} (hk : 1099511627776 < sumL (l.take k)) : sumR l = (0, 120) := by
  unfold sumR
  have := sumL_pre hb k
  rw [if_pos hb, if_neg (by omega)]
set_option maxRecDepth 100000 in
set_option maxHeartbeats 4000000 in
theorem sum_any {w : World} {A : Option Addr} {n c : Nat} {l : List Int} (h : Reads w w.heap.size 1 A n (intV l)) (hn : n ≤ 4611686018427387904) :
    Calls Tryd.prog 24 #[.slice A n c] w (SameP (.tuple #[.int .i64 (sumR l).1, .int .i64 (sumR l).2]) w) := by
  have HR := hide h
  have HL := hide h.len
  have HC := hide (contains_any (c := c) h hn)
  obtain ⟨r1, h1⟩ : ∃ r, (sumR l).1 = r := ⟨_, rfl⟩
  obtain ⟨r2, h2⟩ : ∃ r, (sumR l).2 = r := ⟨_, rfl⟩
  have H1 := hide h1
  have H2 := hide h2
  rw [h1, h2]
  have hn9 : (n : Int) ≤ 4611686018427387904 := by omega
  clear h h1 h2
  have HE : Hid (∀ a b, sumR l = (a, b) → a = r1 ∧ b = r2) := hide (fun a b e => by
    have h1 := H1.out
    have h2 := H2.out
    rw [e] at h1 h2
    exact ⟨h1, h2⟩)
  cases hb : allC l with
  | true =>
    have HB := hide hb
    rw [hb] at HC
    clear hb
    go_enter Tryd.func24, Tryd.ntmps24
    go_wp2_with fail
    refine (HC.out).mono ?_
    rintro _ _ ⟨rfl, rfl⟩
    go_wp2_with fail
    go_loop [11, 4] (fun iv sv => ∃ (k : Nat) (s : Int), k ≤ n ∧ iv = .int .i64 k ∧ sv = .int .i64 s ∧ sumL (l.take k) = s ∧ s ≤ 1099511627776) (fun iv _ => n - (intOf iv).toNat)
    case atStart => exact ⟨0, 0, Nat.zero_le _, rfl, rfl, rfl, by decide⟩
    case round =>
      obtain ⟨k, s, hk, rfl, rfl, hs, hs1⟩ := hrel
      have HS := hide hs
      have hk0 : (0 : Int) ≤ (k : Int) := by omega
      have hk9 : (k : Int) ≤ 4611686018427387904 := by omega
      have hsb := sumL_takeB HB.out k
      rw [hs] at hsb
      clear hs
      have hs0 : 0 ≤ s := hsb.1
      clear hsb
      by_cases hlt : k < n
      · obtain ⟨x, hx⟩ := get_of (l := l) (k := k) (by have := HL.out; omega)
        obtain ⟨g, o, rfl, _, hc⟩ := HR.out.int hlt hx
        have hki : (k : Int) < (n : Int) := by omega
        obtain ⟨hx0, hx1⟩ := allC_get HB.out hx
        have HX := hide ((sumL_take hx).trans (by rw [HS.out]))
        have HLT := hide hlt
        have hw := wrap_in (z := s + x) (by omega)
        clear hx hlt
        by_cases hbig : 1099511627776 < s + x
        · have HT := hide (HE.out _ _ (sumR_big HB.out (k := k + 1) (by rw [HX.out]; exact hbig)))
          go_wp2_with fail
          go_ret2
          exact ⟨by rw [← HT.out.1, ← HT.out.2]; rfl, rfl⟩
        · have hbig' : s + x ≤ 1099511627776 := by omega
          have HBG := hide hbig'
          go_wp2_with fail
          go_roundw
          case rel => exact ⟨k + 1, s + x, HLT.out, by go_num, rfl, HX.out, HBG.out⟩
          case measure => have := HLT.out; simp [intOf]; omega
      · have hki : ¬ (k : Int) < (n : Int) := by omega
        have hkn : k = n := by omega
        subst hkn
        have HX : Hid (s = r1 ∧ 0 = r2) := hide (HE.out _ _ (by
          have e : sumL l = s := by rw [← HS.out, List.take_of_length_le (by have := HL.out; omega)]
          unfold sumR
          rw [if_pos HB.out, e, if_pos hs1]))
        go_wp2_with fail
        go_ret2
        exact ⟨by rw [HX.out.1, ← HX.out.2]; rfl, rfl⟩
  | false =>
    rw [hb] at HC
    have HT := hide (HE.out 0 2 (by unfold sumR; rw [hb]; rfl))
    clear hb
    go_enter Tryd.func24, Tryd.ntmps24
    go_wp2_with fail
    refine (HC.out).mono ?_
    rintro _ _ ⟨rfl, rfl⟩
    go_wp2_with fail
    go_ret2
    exact ⟨by rw [← HT.out.1, ← HT.out.2]; rfl, rfl⟩
set_option maxRecDepth 100000 in
set_option maxHeartbeats 4000000 in
theorem all_any {w : World} {A : Option Addr} {n c : Nat} {l : List Int} (h : Reads w w.heap.size 1 A n (intV l)) (hn : n ≤ 4611686018427387904) :
    Calls Tryd.prog 43 #[.slice A n c] w (SameP (.bool (allC l)) w) := by
  have HR := hide h
  have HL := hide h.len
  have hn9 : (n : Int) ≤ 4611686018427387904 := by omega
  obtain ⟨r, hr⟩ : ∃ r, allC l = r := ⟨_, rfl⟩
  have HE := hide hr
  rw [hr]
  clear h hn hr
  go_enter Tryd.func43, Tryd.ntmps43
  go_wp2_with fail
  go_loop [3] (fun iv => ∃ k : Nat, k ≤ n ∧ iv = .int .i64 k ∧ ∀ j : Nat, j < k → ∀ c, l[j]? = some c → isC c = true) (fun iv => n - (intOf iv).toNat)
  case atStart => exact ⟨0, Nat.zero_le _, rfl, fun j hj => absurd hj (by omega)⟩
  case round =>
    obtain ⟨k, hk, rfl, hp⟩ := hrel
    have HP := hide hp
    clear hp
    have hk0 : (0 : Int) ≤ (k : Int) := by omega
    have hk9 : (k : Int) ≤ 4611686018427387904 := by omega
    by_cases hlt : k < n
    · have hkl : k < l.length := by have := HL.out; omega
      obtain ⟨x, hx⟩ := get_of hkl
      obtain ⟨g, o, rfl, _, hc⟩ := HR.out.int hlt hx
      have hki : (k : Int) < (n : Int) := by omega
      have HN := hide (docAre_any x w)
      have HLT := hide hlt
      have hxl : l[k] = x := by rw [List.getElem?_eq_getElem hkl] at hx; exact Option.some.inj hx
      cases hb : isC x with
      | true =>
        have HX := hide (allC_take hkl HP.out (by rw [hxl]; exact hb))
        rw [hb] at HN
        clear hx hxl hkl hb hlt
        go_wp2_with fail
        refine (HN.out).mono ?_
        rintro _ _ ⟨rfl, rfl⟩
        go_wp2_with fail
        go_roundw
        case rel => exact ⟨k + 1, HLT.out, by go_num, HX.out⟩
        case measure => have := HLT.out; simp [intOf]; omega
      | false =>
        have HX := hide (allC_bad hkl (by rw [hxl]; exact hb))
        rw [hb] at HN
        clear hx hxl hkl hb hlt
        go_wp2_with fail
        refine (HN.out).mono ?_
        rintro _ _ ⟨rfl, rfl⟩
        go_wp2_with fail
        go_ret
        exact ⟨by rw [← HE.out, HX.out]; rfl, rfl⟩
    · have hki : ¬ (k : Int) < (n : Int) := by omega
      have hkn : k = n := by omega
      subst hkn
      have HX := hide (allC_full (l := l) (fun j hj => HP.out j (by have := HL.out; omega)))
      go_wp2_with fail
      go_ret
      exact ⟨by rw [← HE.out, HX.out]; rfl, rfl⟩
set_option maxRecDepth 100000 in
set_option maxHeartbeats 4000000 in
theorem docSum_any {w : World} {A : Option Addr} {n c : Nat} {l : List Int} (h : Reads w w.heap.size 1 A n (intV l)) (hn : n ≤ 4611686018427387904) :
    Calls Tryd.prog 25 #[.slice A n c] w (SameP (.tuple #[.int .i64 (sumR l).1, .int .i64 (sumR l).2]) w) := by
  have HR := hide h
  have HL := hide h.len
  have HC := hide (all_any (c := c) h hn)
  obtain ⟨r1, h1⟩ : ∃ r, (sumR l).1 = r := ⟨_, rfl⟩
  obtain ⟨r2, h2⟩ : ∃ r, (sumR l).2 = r := ⟨_, rfl⟩
  have H1 := hide h1
  have H2 := hide h2
  rw [h1, h2]
  have hn9 : (n : Int) ≤ 4611686018427387904 := by omega
  clear h h1 h2
  have HE : Hid (∀ a b, sumR l = (a, b) → a = r1 ∧ b = r2) := hide (fun a b e => by
    have h1 := H1.out
    have h2 := H2.out
    rw [e] at h1 h2
    exact ⟨h1, h2⟩)
  cases hb : allC l with
  | true =>
    have HB := hide hb
    rw [hb] at HC
    clear hb
    go_enter Tryd.func25, Tryd.ntmps25
    go_wp2_with fail
    refine (HC.out).mono ?_
    rintro _ _ ⟨rfl, rfl⟩
    go_wp2_with fail
    go_loop [5, 4] (fun iv sv => ∃ (k : Nat) (s : Int), k ≤ n ∧ iv = .int .i64 k ∧ sv = .int .i64 s ∧ sumL (l.take k) = s ∧ s ≤ 1099511627776) (fun iv _ => n - (intOf iv).toNat)
    case atStart => exact ⟨0, 0, Nat.zero_le _, rfl, rfl, rfl, by decide⟩
    case round =>
      obtain ⟨k, s, hk, rfl, rfl, hs, hs1⟩ := hrel
      have HS := hide hs
      have hk0 : (0 : Int) ≤ (k : Int) := by omega
      have hk9 : (k : Int) ≤ 4611686018427387904 := by omega
      have hsb := sumL_takeB HB.out k
      rw [hs] at hsb
      clear hs
      have hs0 : 0 ≤ s := hsb.1
      clear hsb
      by_cases hlt : k < n
      · obtain ⟨x, hx⟩ := get_of (l := l) (k := k) (by have := HL.out; omega)
        obtain ⟨g, o, rfl, _, hc⟩ := HR.out.int hlt hx
        have hki : (k : Int) < (n : Int) := by omega
        obtain ⟨hx0, hx1⟩ := allC_get HB.out hx
        have HX := hide ((sumL_take hx).trans (by rw [HS.out]))
        have HLT := hide hlt
        have hw := wrap_in (z := s + x) (by omega)
        clear hx hlt
        by_cases hbig : 1099511627776 < s + x
        · have HT := hide (HE.out _ _ (sumR_big HB.out (k := k + 1) (by rw [HX.out]; exact hbig)))
          go_wp2_with fail
          go_ret2
          exact ⟨by rw [← HT.out.1, ← HT.out.2]; rfl, rfl⟩
        · have hbig' : s + x ≤ 1099511627776 := by omega
          have HBG := hide hbig'
          go_wp2_with fail
          go_roundw
          case rel => exact ⟨k + 1, s + x, HLT.out, by go_num, rfl, HX.out, HBG.out⟩
          case measure => have := HLT.out; simp [intOf]; omega
      · have hki : ¬ (k : Int) < (n : Int) := by omega
        have hkn : k = n := by omega
        subst hkn
        have HX : Hid (s = r1 ∧ 0 = r2) := hide (HE.out _ _ (by
          have e : sumL l = s := by rw [← HS.out, List.take_of_length_le (by have := HL.out; omega)]
          unfold sumR
          rw [if_pos HB.out, e, if_pos hs1]))
        go_wp2_with fail
        go_ret2
        exact ⟨by rw [HX.out.1, ← HX.out.2]; rfl, rfl⟩
  | false =>
    rw [hb] at HC
    have HT := hide (HE.out 0 2 (by unfold sumR; rw [hb]; rfl))
    clear hb
    go_enter Tryd.func25, Tryd.ntmps25
    go_wp2_with fail
    refine (HC.out).mono ?_
    rintro _ _ ⟨rfl, rfl⟩
    go_wp2_with fail
    go_ret2
    exact ⟨by rw [← HT.out.1, ← HT.out.2]; rfl, rfl⟩
theorem bel_drewN {w w' : World} {B : Nat} (h : Below B w w') (q : Nat) : Below B w (w'.drewN q) := ⟨h.os, h.tape, h.output, h.size, h.block⟩
set_option maxRecDepth 100000 in
set_option maxHeartbeats 4000000 in
theorem same_any {w : World} {A1 A2 : Option Addr} {n1 n2 c1 c2 : Nat} {r t : List Int} (h1 : Reads w w.heap.size 1 A1 n1 (intV r)) (h2 : Reads w w.heap.size 1 A2 n2 (intV t)) (hl : n1 ≤ 4611686018427387904) :
    Calls Tryd.prog 15 #[.slice A1 n1 c1, .slice A2 n2 c2] w (BelP (.bool (decide (r = t))) w) := by
  have HR1 := hide h1
  have HR2 := hide h2
  have HL1 := hide h1.len
  have HL2 := hide h2.len
  have hl9 : (n1 : Int) ≤ 4611686018427387904 := by omega
  obtain ⟨b, hb⟩ : ∃ b, decide (r = t) = b := ⟨_, rfl⟩
  have HB := hide hb
  rw [hb]
  clear h1 h2 hl hb
  by_cases hne : n1 = n2
  · have HNE := hide hne
    have hn1 : ((n1 : Int) == (n2 : Int)) = true := by rw [hne]; simp
    clear hne
    go_enter Tryd.func15, Tryd.ntmps15
    go_wp2_with fail
    go_loopw [5] (fun iv wr => ∃ k : Nat, k ≤ n1 ∧ iv = .int .i64 k ∧ (∀ j : Nat, j < k → r[j]? = t[j]?) ∧ Below w.heap.size w wr) (fun iv _ => n1 - (intOf iv).toNat)
    case atStart => exact ⟨0, Nat.zero_le _, rfl, fun j hj => absurd hj (by omega), Below.refl _ _⟩
    case round =>
      obtain ⟨k, hk, rfl, hno, hbel⟩ := hrel
      have HNO := hide hno
      have HBW := hide hbel
      have hk0 : (0 : Int) ≤ (k : Int) := by omega
      have hk9 : (k : Int) ≤ 4611686018427387904 := by omega
      clear hno hbel
      by_cases hlt : k < n1
      · obtain ⟨x, hx⟩ := get_of (l := r) (k := k) (by have := HL1.out; omega)
        obtain ⟨y, hy⟩ := get_of (l := t) (k := k) (by have := HL2.out; have := HNE.out; omega)
        obtain ⟨b1, o1, rfl, _, d1⟩ := (HR1.out.below HBW.out).int hlt hx
        obtain ⟨b2, o2, rfl, _, d2⟩ := (HR2.out.below HBW.out).int (by have := HNE.out; omega) hy
        have hki : (k : Int) < (n1 : Int) := by omega
        have hki2 : (k : Int) < (n2 : Int) := by have := HNE.out; omega
        have HLT := hide hlt
        by_cases he : x = y
        · subst he
          have HX : Hid (∀ j : Nat, j < k + 1 → r[j]? = t[j]?) := hide (fun j hj => by
            rcases Nat.lt_or_ge j k with h1 | h1
            · exact HNO.out j h1
            · obtain rfl : j = k := by omega
              rw [hx, hy])
          have hee : ((x : Int) == (x : Int)) = true := by simp
          clear hx hy hlt
          go_wp2_with fail
          go_quiet (fail)
          go_wp2_with fail
          go_roundw
          case rel => exact ⟨k + 1, HLT.out, by go_num, HX.out, bel_drewN HBW.out _⟩
          case measure => have := HLT.out; simp [intOf]; omega
        · have hee : ((x : Int) == (y : Int)) = false := by rw [beq_eq_false_iff_ne]; omega
          have HV : Hid (b = false) := hide (by
            rw [← HB.out]
            refine decide_eq_false (fun e => he ?_)
            rw [e, hy] at hx
            exact (Option.some.inj hx).symm)
          clear hx hy hlt he
          go_wp2_with fail
          go_quiet (fail)
          go_wp2_with fail
          go_ret
          exact ⟨by rw [HV.out]; rfl, bel_drewN HBW.out _⟩
      · have hki : ¬ (k : Int) < (n1 : Int) := by omega
        have HV : Hid (b = true) := hide (by
          rw [← HB.out]
          refine decide_eq_true (List.ext_getElem? (fun j => ?_))
          rcases Nat.lt_or_ge j r.length with h1 | h1
          · exact HNO.out j (by have := HL1.out; omega)
          · rw [List.getElem?_eq_none h1, List.getElem?_eq_none (by have := HL1.out; have := HL2.out; have := HNE.out; omega)])
        go_wp2_with fail
        go_ret
        exact ⟨by rw [HV.out]; rfl, HBW.out⟩
  · have HV : Hid (b = false) := hide (by
      rw [← HB.out]
      exact decide_eq_false (fun e => hne (by rw [← HL1.out, ← HL2.out, e])))
    have hn1 : ((n1 : Int) == (n2 : Int)) = false := by rw [beq_eq_false_iff_ne]; omega
    clear hne
    go_enter Tryd.func15, Tryd.ntmps15
    go_wp2_with fail
    go_ret
    exact ⟨by rw [HV.out]; rfl, Below.refl _ _⟩
end Go.Proofs.YtgjeihgkcmheeaaDoor
