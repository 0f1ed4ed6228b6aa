/- What a call answers is fair: plain. -/
import Derived.Test.YtogicdljbnllgaaFairQ
namespace Go.Proofs.Ytogicdljbnllgaa
open Go.Shelf Go.RowKit Go.Lib Go.Sort Go.Proofs

/-- A price at which shares are fair. -/
structure FairAt (b s : List (Int × Int)) (ts : List Trd) (p : Int) : Prop where
  buy : ∀ (i : Nat) z, b[i]? = some z → 0 ≤ giv ts (i : Int) ∧ giv ts (i : Int) ≤ z.2 ∧ (0 < giv ts (i : Int) → p ≤ z.1) ∧ (p < z.1 → giv ts (i : Int) = z.2)
  sell : ∀ (i : Nat) z, s[i]? = some z → 0 ≤ giv (ts.map swp) (i : Int) ∧ giv (ts.map swp) (i : Int) ≤ z.2 ∧ (0 < giv (ts.map swp) (i : Int) → z.1 ≤ p) ∧ (z.1 < p → giv (ts.map swp) (i : Int) = z.2)
def loOf (R : List Trd × Option (Int × Int) × Option (Int × Int)) : Int := match R.2.1 with | none => lowT R.1 | some u => max (lowT R.1) u.2
def hiOf (R : List Trd × Option (Int × Int) × Option (Int × Int)) : Int := match R.2.2 with | none => highT R.1 | some u => min (highT R.1) u.2
theorem clr_none {n m : Nat} {R : List Trd × Option (Int × Int) × Option (Int × Int)} (h : R.1 = []) : clrOf n m R = (0, 0, 0, 0, givenB n [], givenS m []) := by unfold clrOf; rw [if_pos h]
theorem clr_some {n m : Nat} {R : List Trd × Option (Int × Int) × Option (Int × Int)} (h : R.1 ≠ []) : clrOf n m R = (loOf R + (hiOf R - loOf R).tdiv 2, sumT R.1, loOf R, hiOf R, givenB n R.1, givenS m R.1) := by
  unfold clrOf loOf hiOf
  rw [if_neg h]
  rfl
theorem low_high {b s : List (Int × Int)} (hb : OkW b) (hs : OkW s) (hne : (RunA b s).1 ≠ []) : lowT (RunA b s).1 ≤ highT (RunA b s).1 := by
  obtain ⟨t, ht⟩ : ∃ t, (RunA b s).1.getLast? = some t := by
    cases hl : (RunA b s).1.getLast? with
    | none => exact absurd (List.getLast?_eq_none_iff.1 hl) hne
    | some t => exact ⟨t, rfl⟩
  have := (run_trd hb hs (List.mem_of_getLast? ht)).2.2.2.2.2
  unfold lowT highT
  rw [ht]
  exact this
theorem run_swapA {b s : List (Int × Int)} (hb : OkW b) (hs : OkW s) : runW ((ordT s (ordK κS s)).map negT) ((ordT b (ordK κB b)).map negT) 0 0 = ((RunA b s).1.map swp, (RunA b s).2.2.map negU, (RunA b s).2.1.map negU) := run_swap (hb.mid hs)
theorem lo_hi {b s : List (Int × Int)} (hb : OkW b) (hs : OkW s) (hne : (RunA b s).1 ≠ []) : loOf (RunA b s) ≤ hiOf (RunA b s) := by
  have h1 := low_high hb hs hne
  have h2 : ∀ u, (RunA b s).2.1 = some u → u.2 ≤ highT (RunA b s).1 := run_after (hb.mid hs) (downB b) hne
  have h3 : ∀ v, (RunA b s).2.2 = some v → lowT (RunA b s).1 ≤ v.2 := fun v hv => by
    have := run_after (hb.mid hs).swap (upS s)
    rw [run_swapA hb hs] at this
    have := this (by simpa using hne) (negU v) (by simp [hv])
    simp only [high_swap _ hne, negU] at this
    omega
  have h4 : ∀ u v, (RunA b s).2.1 = some u → (RunA b s).2.2 = some v → u.2 < v.2 := run_gap (hb.mid hs)
  unfold loOf hiOf
  cases e1 : (RunA b s).2.1 with
  | none =>
    cases e2 : (RunA b s).2.2 with
    | none => simp only; omega
    | some v => have := h3 v e2; simp only; omega
  | some u =>
    have := h2 u e1
    cases e2 : (RunA b s).2.2 with
    | none => simp only; omega
    | some v => have := h3 v e2; have := h4 u v e1 e2; simp only; omega
theorem lo_le {R : List Trd × Option (Int × Int) × Option (Int × Int)} : lowT R.1 ≤ loOf R ∧ ∀ u, R.2.1 = some u → u.2 ≤ loOf R := by
  unfold loOf
  cases e : R.2.1 with
  | none => exact ⟨Int.le_refl _, fun u hu => by cases hu⟩
  | some u => exact ⟨by simp only; omega, fun v hv => by cases hv; simp only; omega⟩
theorem hi_le {R : List Trd × Option (Int × Int) × Option (Int × Int)} : hiOf R ≤ highT R.1 ∧ ∀ u, R.2.2 = some u → hiOf R ≤ u.2 := by
  unfold hiOf
  cases e : R.2.2 with
  | none => exact ⟨Int.le_refl _, fun u hu => by cases hu⟩
  | some u => exact ⟨by simp only; omega, fun v hv => by cases hv; simp only; omega⟩
theorem mid_price {lo hi : Int} (h : lo ≤ hi) : lo ≤ lo + (hi - lo).tdiv 2 ∧ lo + (hi - lo).tdiv 2 ≤ hi := by
  have : (hi - lo).tdiv 2 = (hi - lo) / 2 := Int.tdiv_eq_ediv_of_nonneg (by omega)
  rw [this]
  omega
theorem fair_some {b s : List (Int × Int)} (hb : OkW b) (hs : OkW s) {p : Int} (hl : loOf (RunA b s) ≤ p) (hh : p ≤ hiOf (RunA b s)) : FairAt b s (RunA b s).1 p where
  buy i z h := by
    obtain ⟨a, _, ha, h0, h1, h2, h3⟩ := fairB hb hs h
    rw [← ha]
    refine ⟨h0, h1, fun hp => ?_, fun hp => ?_⟩
    · have := h2 hp; have := (hi_le (R := RunA b s)).1; omega
    · rcases Int.lt_or_le a z.2 with hlt | hge
      · obtain ⟨u, hu, hz⟩ := h3 hlt
        have := (lo_le (R := RunA b s)).2 u hu
        omega
      · omega
  sell i z h := by
    obtain ⟨a, _, ha, h0, h1, h2, h3⟩ := fairS hb hs h
    rw [← ha]
    refine ⟨h0, h1, fun hp => ?_, fun hp => ?_⟩
    · have := h2 hp; have := (lo_le (R := RunA b s)).1; omega
    · rcases Int.lt_or_le a z.2 with hlt | hge
      · obtain ⟨u, hu, hz⟩ := h3 hlt
        have := (hi_le (R := RunA b s)).2 u hu
        omega
      · omega
/-- If there are no trades, no two meet. -/
theorem none_meet {b s : List (Int × Int)} (hb : OkW b) (hs : OkW s) (he : (RunA b s).1 = []) {i k : Nat} {x y : Int × Int} (hx : b[i]? = some x) (hy : s[k]? = some y) : x.1 < y.1 := by
  obtain ⟨a, _, ha, _, _, _, h3⟩ := fairB hb hs hx
  obtain ⟨a', _, ha', _, _, _, h3'⟩ := fairS hb hs hy
  have e1 := hb.2 x (List.mem_of_getElem? hx)
  have e2 := hs.2 y (List.mem_of_getElem? hy)
  rw [he] at ha ha'
  simp only [giv, List.map_nil] at ha ha'
  obtain ⟨u, hu, hz⟩ := h3 (by omega)
  obtain ⟨v, hv, hz'⟩ := h3' (by omega)
  have := run_gap (hb.mid hs) u v hu hv
  omega
theorem fair_none {b s : List (Int × Int)} (hb : OkW b) (hs : OkW s) (he : (RunA b s).1 = []) : ∃ p, FairAt b s (RunA b s).1 p := by
  rw [he]
  cases hn : (RunA b s).2.1 with
  | none =>
    refine ⟨0, ⟨fun i z h => ?_, fun i z h => ?_⟩⟩
    · obtain ⟨a, _, ha, _, _, _, h3⟩ := fairB hb hs h
      have e1 := hb.2 z (List.mem_of_getElem? h)
      rw [he] at ha
      simp only [giv] at ha
      obtain ⟨u, hu, _⟩ := h3 (by omega)
      rw [hn] at hu
      cases hu
    · have e2 := hs.2 z (List.mem_of_getElem? h)
      simp only [List.map_nil, giv]
      omega
  | some u =>
    refine ⟨u.2, ⟨fun i z h => ?_, fun i z h => ?_⟩⟩
    · obtain ⟨a, _, ha, _, _, _, h3⟩ := fairB hb hs h
      have e1 := hb.2 z (List.mem_of_getElem? h)
      rw [he] at ha
      simp only [giv] at ha ⊢
      obtain ⟨u', hu, hz⟩ := h3 (by omega)
      rw [hn] at hu
      cases hu
      omega
    · obtain ⟨a, _, ha, _, _, _, h3⟩ := fairS hb hs h
      have e2 := hs.2 z (List.mem_of_getElem? h)
      rw [he] at ha
      simp only [List.map_nil, giv] at ha ⊢
      obtain ⟨v, hv, hz⟩ := h3 (by omega)
      have := run_gap (hb.mid hs) u v hn hv
      omega
theorem fair_any {b s : List (Int × Int)} (hb : OkW b) (hs : OkW s) : ∃ p, FairAt b s (RunA b s).1 p := by
  by_cases he : (RunA b s).1 = []
  · exact fair_none hb hs he
  · have h := lo_hi hb hs he
    exact ⟨loOf (RunA b s), fair_some hb hs (Int.le_refl _) h⟩
theorem addAt_sum (l : List Int) (i : Nat) (n : Int) (h : i < l.length) : (addAt l i n).sum = l.sum + n := by
  unfold addAt
  induction l generalizing i with
  | nil => simp at h
  | cons x l ih =>
    cases i with
    | zero => simp only [List.getD_cons_zero, List.set_cons_zero, List.sum_cons]; omega
    | succ i =>
      have := ih i (by simpa using h)
      simp only [List.getD_cons_succ, List.set_cons_succ, List.sum_cons]
      omega
theorem fold_sum (f : Trd → Nat) (ts : List Trd) : ∀ l : List Int, (∀ t ∈ ts, f t < l.length) → (ts.foldl (fun l t => addAt l (f t) t.2.2) l).sum = l.sum + sumT ts := by
  induction ts with
  | nil => intro l _; simp [sumT]
  | cons t ts ih =>
    intro l h
    rw [List.foldl_cons, ih _ (fun u hu => by rw [addAt_len]; exact h u (List.mem_cons_of_mem _ hu)), addAt_sum _ _ _ (h t List.mem_cons_self), sumT_cons]
    omega
theorem zero_sum (n : Nat) : (List.replicate n (0 : Int)).sum = 0 := by induction n with | zero => rfl | succ n ih => rw [List.replicate_succ, List.sum_cons, ih]; rfl
theorem givenB_sum {b s : List (Int × Int)} (hb : OkW b) (hs : OkW s) : (givenB b.length (RunA b s).1).sum = sumT (RunA b s).1 := by
  unfold givenB
  rw [fold_sum (fun t => t.1.1.toNat) _ _ (fun t ht => by rw [List.length_replicate]; have := (run_trd hb hs ht).1; omega), zero_sum, Int.zero_add]
theorem givenS_sum {b s : List (Int × Int)} (hb : OkW b) (hs : OkW s) : (givenS s.length (RunA b s).1).sum = sumT (RunA b s).1 := by
  unfold givenS
  rw [fold_sum (fun t => t.2.1.1.toNat) _ _ (fun t ht => by rw [List.length_replicate]; have := (run_trd hb hs ht).2.1; omega), zero_sum, Int.zero_add]
/-- All that the law asks of what Clear answers. -/
structure FairC (b s : List (Int × Int)) (C : Int × Int × Int × Int × List Int × List Int) : Prop where
  lenB : C.2.2.2.2.1.length = b.length
  lenS : C.2.2.2.2.2.length = s.length
  lo : C.2.2.1 ≤ C.1
  hi : C.1 ≤ C.2.2.2.1
  pr : 0 ≤ C.1 ∧ C.1 ≤ 1099511627776
  tr : 0 ≤ C.2.1 ∧ C.2.1 ≤ 524288
  buy : ∀ (i : Nat) z, b[i]? = some z → ∃ a, C.2.2.2.2.1[i]? = some a ∧ 0 ≤ a ∧ a ≤ z.2 ∧ (0 < a → C.1 ≤ z.1) ∧ (0 < C.2.1 → C.1 < z.1 → a = z.2)
  sell : ∀ (i : Nat) z, s[i]? = some z → ∃ a, C.2.2.2.2.2[i]? = some a ∧ 0 ≤ a ∧ a ≤ z.2 ∧ (0 < a → z.1 ≤ C.1) ∧ (0 < C.2.1 → z.1 < C.1 → a = z.2)
  sumB : C.2.2.2.2.1.sum = C.2.1
  sumS : C.2.2.2.2.2.sum = C.2.1
  meet : ¬ 0 < C.2.1 → ∀ (i k : Nat) x y, b[i]? = some x → s[k]? = some y → x.1 < y.1
theorem fair_clr {b s : List (Int × Int)} (hb : OkW b) (hs : OkW s) : FairC b s (clrOf b.length s.length (RunA b s)) := by
  have hT := run_sum (hb.mid hs)
  have hT2 : sumT (RunA b s).1 ≤ 524288 := by
    have h1 := (sumT_bound (RunA b s).1 (fun t ht => by have := (run_trd hb hs ht).2.2.1; omega)).2
    have h2 := run_few hb hs
    have h3 := hb.1
    have h4 := hs.1
    omega
  by_cases he : (RunA b s).1 = []
  · rw [clr_none he]
    have hB : givenB b.length (RunA b s).1 = givenB b.length [] := by rw [he]
    have hS : givenS s.length (RunA b s).1 = givenS s.length [] := by rw [he]
    refine ⟨givenB_len _ _, givenS_len _ _, Int.le_refl _, Int.le_refl _, by simp only; omega, by simp only; omega, fun i z h => ?_, fun i z h => ?_, ?_, ?_, fun _ i k x y hx hy => none_meet hb hs he hx hy⟩
    · obtain ⟨a, h1, ha, h0, h2, _⟩ := fairB hb hs h
      rw [hB] at h1
      rw [he] at ha
      simp only [giv] at ha
      exact ⟨a, h1, h0, h2, fun h => by omega, fun h => absurd h (show ¬ (0 : Int) < 0 by decide)⟩
    · obtain ⟨a, h1, ha, h0, h2, _⟩ := fairS hb hs h
      rw [hS] at h1
      rw [he] at ha
      simp only [giv, List.map_nil] at ha
      exact ⟨a, h1, h0, h2, fun h => by omega, fun h => absurd h (show ¬ (0 : Int) < 0 by decide)⟩
    · simp only; rw [← hB, givenB_sum hb hs, he]; rfl
    · simp only; rw [← hS, givenS_sum hb hs, he]; rfl
  · rw [clr_some he]
    have hlh := lo_hi hb hs he
    obtain ⟨m1, m2⟩ := mid_price hlh
    obtain ⟨p, hp⟩ : ∃ p, p = loOf (RunA b s) + (hiOf (RunA b s) - loOf (RunA b s)).tdiv 2 := ⟨_, rfl⟩
    rw [← hp] at m1 m2 ⊢
    have hf := fair_some hb hs m1 m2
    have hpb : 0 ≤ p ∧ p ≤ 1099511627776 := by
      obtain ⟨t, ht⟩ : ∃ t, (RunA b s).1.getLast? = some t := by
        cases hl : (RunA b s).1.getLast? with
        | none => exact absurd (List.getLast?_eq_none_iff.1 hl) he
        | some t => exact ⟨t, rfl⟩
      obtain ⟨_, _, _, ⟨c, h4⟩, ⟨c', h5⟩, _⟩ := run_trd hb hs (List.mem_of_getLast? ht)
      have k1 := hb.2 _ (List.mem_of_getElem? h4)
      have k2 := hs.2 _ (List.mem_of_getElem? h5)
      have q1 : lowT (RunA b s).1 = t.2.1.2 := by unfold lowT; rw [ht]; rfl
      have q2 : highT (RunA b s).1 = t.1.2 := by unfold highT; rw [ht]; rfl
      have q3 := (lo_le (R := RunA b s)).1
      have q4 := (hi_le (R := RunA b s)).1
      simp only at k1 k2
      omega
    refine ⟨givenB_len _ _, givenS_len _ _, m1, m2, hpb, ⟨hT, hT2⟩, fun i z h => ?_, fun i z h => ?_, givenB_sum hb hs, givenS_sum hb hs, fun h => ?_⟩
    · obtain ⟨a, h1, ha, h0, h2, _⟩ := fairB hb hs h
      obtain ⟨_, _, h3, h4⟩ := hf.buy i z h
      rw [← ha] at h3 h4
      exact ⟨a, h1, h0, h2, h3, fun _ => h4⟩
    · obtain ⟨a, h1, ha, h0, h2, _⟩ := fairS hb hs h
      obtain ⟨_, _, h3, h4⟩ := hf.sell i z h
      rw [← ha] at h3 h4
      exact ⟨a, h1, h0, h2, h3, fun _ => h4⟩
    · exact absurd (sumT_pos (RunA b s).1 (fun t ht => (run_trd hb hs ht).2.2.1.1) he) h
end Go.Proofs.Ytogicdljbnllgaa
