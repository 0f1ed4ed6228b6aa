/- Whole numbers as real ones; the walk of money.Rate. -/
import Derived.Test.YtgjeihgkcmheeaaDoorPt3
namespace Go.Proofs.YtgjeihgkcmheeaaDoor
open Go.RowKit Go.Shelf

theorem cut_zero {M : Nat} (h0 : M ≠ 0) (way : Ieee.Toward) (neg : Bool) : way.cut neg M 0 = M := by
  have h := cut_exact (M := M) (t := 0) h0 way neg
  rwa [Nat.pow_zero, Nat.mul_one] at h
theorem nearest_up {n L M : Nat} (h0 : n ≠ 0) (hL : n.log2 = L) (h52 : L ≤ 52) (hM : M = n * 2 ^ (52 - L)) (h1 : M < 9007199254740992) (h2 : 0 < M) : Ieee.double.nearest false n 0 = (1022 + L) * 4503599627370496 + M := by
  unfold Ieee.Format.nearest
  rw [if_neg h0, frac_eq, least_eq, binade_eq, infRung_eq, hL]
  have hlast : max ((0 : Int) + (L : Int) - ((52 : Nat) : Int)) (-1074) = (L : Int) - 52 := by omega
  simp only [hlast]
  have e1 : ((0 : Int) - ((L : Int) - 52)).toNat = 52 - L := by omega
  have e2 : ((L : Int) - 52 - 0).toNat = 0 := by omega
  have e3 : ((L : Int) - 52 - -1074).toNat = 1022 + L := by omega
  rw [e1, e2, e3, Nat.shiftLeft_eq, ← hM, cut_zero (by omega)]
  unfold Ieee.Format.word
  rw [if_neg (by decide)]
  clear hM
  omega
/-- A whole number below 2 ^ 53 is written as it is. -/
theorem nearest_int {n : Nat} (h0 : n ≠ 0) (hn : n < 9007199254740992) : ∃ L M, L ≤ 52 ∧ n.log2 = L ∧ M = n * 2 ^ (52 - L) ∧ 4503599627370496 ≤ M ∧ M < 9007199254740992 ∧ Ieee.double.nearest false n 0 = (1022 + L) * 4503599627370496 + M := by
  have hl := log_53 h0 hn
  have h1 : 2 ^ n.log2 ≤ n := Nat.log2_self_le h0
  have h2 : n < 2 ^ (n.log2 + 1) := Nat.lt_log2_self
  obtain ⟨L, hL⟩ : ∃ L, L = n.log2 := ⟨_, rfl⟩
  rw [← hL] at hl h1 h2
  have p1 : 2 ^ L * 2 ^ (52 - L) = 4503599627370496 := by rw [← Nat.pow_add, show L + (52 - L) = 52 from by omega]
  have p2 : 2 ^ (L + 1) * 2 ^ (52 - L) = 9007199254740992 := by rw [← Nat.pow_add, show L + 1 + (52 - L) = 53 from by omega]
  obtain ⟨M, hM⟩ : ∃ M, M = n * 2 ^ (52 - L) := ⟨_, rfl⟩
  have g1 : 4503599627370496 ≤ M := by rw [hM, ← p1]; exact Nat.mul_le_mul_right _ h1
  have g2 : M < 9007199254740992 := by rw [hM, ← p2]; exact Nat.mul_lt_mul_of_pos_right h2 (Nat.two_pow_pos _)
  exact ⟨L, M, hl, hL.symm, hM, g1, g2, nearest_up h0 hL.symm hl hM g2 (Nat.lt_of_lt_of_le (by decide) g1)⟩
theorem float_int (n : Nat) : floatOfInt .f64 (n : Int) = Ieee.double.nearest false n 0 := by
  show Ieee.double.nearest (decide ((n : Int) < 0)) (n : Int).natAbs 0 = _
  rw [decide_eq_false (by omega), Int.natAbs_natCast]
theorem read_int {n : Nat} (hn : n < 9007199254740992) : ∃ m p, Ieee.double.read (floatOfInt .f64 (n : Int)) = .number false m p ∧ (m = 0 ↔ n = 0) := by
  rw [float_int]
  by_cases h0 : n = 0
  · subst h0
    exact ⟨0, -1074, by decide +kernel, by simp⟩
  · obtain ⟨L, M, h1, _, _, h3, h4, h5⟩ := nearest_int h0 hn
    rw [h5]
    obtain ⟨a, b⟩ := mk_of (k := 1022 + L) h4 (.inl h3)
    have h := read_pos (x := (1022 + L) * 4503599627370496 + M) (by omega)
    rw [a, b] at h
    exact ⟨_, _, h, by omega⟩
/-- A part of a whole. -/
def rateW (p n : Int) : Nat := (Ieee.double.div (floatOfInt .f64 p) (floatOfInt .f64 n)).getD 0
def rateR (p n : Int) : Nat × Int := if isC p && isC n && !(n == 0) then (rateW p n, 0) else (0, 2)
theorem rateW_some {p n : Int} (hp : isC p = true) (hn : isC n = true) (h0 : n ≠ 0) : Ieee.double.div (floatOfInt .f64 p) (floatOfInt .f64 n) = some (rateW p n) := by
  rw [isC_iff] at hp hn
  obtain ⟨a, rfl⟩ : ∃ a : Nat, p = a := ⟨p.toNat, by omega⟩
  obtain ⟨b, rfl⟩ : ∃ a : Nat, n = a := ⟨n.toNat, by omega⟩
  unfold rateW Ieee.Format.div
  obtain ⟨m, q, e1, _⟩ := read_int (n := a) (by omega)
  obtain ⟨m2, q2, e2, e3⟩ := read_int (n := b) (by omega)
  rw [e1, e2]
  unfold Ieee.Datum.quotient
  have : ¬ m2 = 0 := by rw [e3]; omega
  simp only [this, if_false]
  rfl
set_option maxRecDepth 100000 in
set_option maxHeartbeats 2000000 in
theorem rate_any (p n : Int) (w : World) : Calls Tryd.prog 36 #[.int .i64 p, .int .i64 n] w (SameP (.tuple #[.float .f64 (rateR p n).1, .int .i64 (rateR p n).2]) w) := by
  have HP := hide (are_any p w)
  have HN := hide (are_any n w)
  unfold rateR
  cases hp : isC p with
  | false =>
    rw [hp] at HP
    clear hp
    go_enter Tryd.func36, Tryd.ntmps36
    go_wp2_with fail
    refine (HP.out).mono ?_
    rintro _ _ ⟨rfl, rfl⟩
    go_wp2_with fail
    go_ret2
    exact ⟨rfl, rfl⟩
  | true =>
    cases hn : isC n with
    | false =>
      rw [hp] at HP
      rw [hn] at HN
      clear hp hn
      go_enter Tryd.func36, Tryd.ntmps36
      go_wp2_with fail
      refine (HP.out).mono ?_
      rintro _ _ ⟨rfl, rfl⟩
      go_wp2_with fail
      refine (HN.out).mono ?_
      rintro _ _ ⟨rfl, rfl⟩
      go_wp2_with fail
      go_ret2
      exact ⟨rfl, rfl⟩
    | true =>
      by_cases h0 : n = 0
      · subst h0
        rw [hp] at HP
        rw [hn] at HN
        clear hp hn
        go_enter Tryd.func36, Tryd.ntmps36
        go_wp2_with fail
        refine (HP.out).mono ?_
        rintro _ _ ⟨rfl, rfl⟩
        go_wp2_with fail
        refine (HN.out).mono ?_
        rintro _ _ ⟨rfl, rfl⟩
        go_wp2_with fail
        go_ret2
        exact ⟨rfl, rfl⟩
      · have hd : ∀ W, (binOp .quo 48 (.float .f64 (floatOfInt .f64 p)) (.float .f64 (floatOfInt .f64 n))).run Tryd.prog W = .ok (.float .f64 (rateW p n)) W := fun W => run_float_arith W .quo 48 .f64 _ _ _ (rateW_some hp hn h0)
        have hc : ∀ (q : Int) W, (convert 2 48 (.int .i64 q)).run Tryd.prog W = .ok (.float .f64 (floatOfInt .f64 q)) W := fun q W => run_convert_int_float W 2 48 .i64 .f64 q (by kernel_rfl) Tryd.underlying48
        have hz : (n == 0) = false := by rw [beq_eq_false_iff_ne]; exact h0
        rw [hp] at HP
        rw [hn] at HN
        rw [hz]
        clear hp hn h0
        generalize rateW p n = r at *
        go_enter Tryd.func36, Tryd.ntmps36
        go_wp2_with fail
        refine (HP.out).mono ?_
        rintro _ _ ⟨rfl, rfl⟩
        go_wp2_with fail
        refine (HN.out).mono ?_
        rintro _ _ ⟨rfl, rfl⟩
        go_wp2_with fail
        go_ret2
        exact ⟨rfl, rfl⟩
end Go.Proofs.YtgjeihgkcmheeaaDoor
