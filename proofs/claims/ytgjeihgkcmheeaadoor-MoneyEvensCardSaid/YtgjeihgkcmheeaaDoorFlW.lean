/- The walks of math.Abs, IsInf, IsNaN, normalize, Frexp, Ldexp. -/
import Derived.Test.YtgjeihgkcmheeaaDoorMn2
import Derived.Test.YtgjeihgkcmheeaaDoorFlP
import Derived.Laws.Bits64b
import Derived.Laws.BitsAllLaws
import Derived.WalkLawsBesides
namespace Go.Proofs.YtgjeihgkcmheeaaDoor
open Go.RowKit Go.Shelf

theorem clear_sign {x : Nat} (hx : x < 9223372036854775808) : bits .andNot .u64 (x : Int) 9223372036854775808 = (x : Int) := by
  have h := u64_andNot_nat x 9223372036854775808 (by omega) (by omega)
  have e : x &&& (18446744073709551615 - 9223372036854775808) = x := by
    have := Nat.and_two_pow_sub_one_eq_mod x 63
    rw [show 18446744073709551615 - 9223372036854775808 = 2 ^ 63 - 1 from rfl, this]
    exact Nat.mod_eq_of_lt hx
  rw [e] at h
  exact h
theorem clear_exp {x : Nat} (hx : x < 9223372036854775808) : bits .andNot .u64 (x : Int) 9218868437227405312 = ((x % 4503599627370496 : Nat) : Int) := by
  have h := u64_andNot_nat x 9218868437227405312 (by omega) (by omega)
  have e : x &&& (18446744073709551615 - 9218868437227405312) = x % 4503599627370496 := by
    have e1 : 18446744073709551615 - 9218868437227405312 = 2 ^ 63 ||| (2 ^ 52 - 1) := by decide
    rw [e1, Nat.and_or_distrib_left, Nat.and_two_pow_sub_one_eq_mod]
    have e2 : x &&& 2 ^ 63 = 0 := by
      apply Nat.eq_of_testBit_eq
      intro i
      rw [Nat.testBit_and, Nat.testBit_two_pow, Nat.zero_testBit]
      by_cases h : 63 = i
      · subst h; rw [Nat.testBit_lt_two_pow (by simpa using hx)]; rfl
      · simp [h]
    rw [e2, Nat.zero_or]
  rw [e] at h
  exact h
theorem put_exp {a k : Nat} (ha : a < 4503599627370496) (hk : k < 2048) : bits .or .u64 (a : Int) ((k * 4503599627370496 : Nat) : Int) = ((k * 4503599627370496 + a : Nat) : Int) := by
  rw [bits_or_u64_nat _ _ (by omega) (by omega), Nat.or_comm, Nat.mul_comm k]
  rw [show 4503599627370496 * k + a = 2 ^ 52 * k + a from rfl, Nat.two_pow_add_eq_or_of_lt ha]
theorem get_exp {x : Nat} (hx : x < 9223372036854775808) : bits .and .u64 ((x / 4503599627370496 : Nat) : Int) 2047 = ((x / 4503599627370496 : Nat) : Int) := by
  have h := bits_and_u64_nat (x / 4503599627370496) 2047 (by omega) (by omega)
  have e : x / 4503599627370496 &&& 2047 = x / 4503599627370496 := by
    rw [show 2047 = 2 ^ 11 - 1 from rfl, Nat.and_two_pow_sub_one_eq_mod]
    exact Nat.mod_eq_of_lt (by omega)
  rw [e] at h
  exact h
theorem run_tobits (x : Nat) (W : World) : (callFunc 53 #[.float .f64 x]).run Tryd.prog W = .ok (.value (.int .u64 (x : Int))) W := by
  rw [run_callFunc_extern Tryd.func53 (by kernel_rfl) (by kernel_rfl) (by kernel_rfl) (e := Extern.MathFloatBits.float64bits) (by kernel_rfl)]
  rfl
theorem run_ofbits (n : Int) (W : World) : (callFunc 58 #[.int .u64 n]).run Tryd.prog W = .ok (.value (.float .f64 n.toNat)) W := by
  rw [run_callFunc_extern Tryd.func58 (by kernel_rfl) (by kernel_rfl) (by kernel_rfl) (e := Extern.MathFloatBits.float64frombits) (by kernel_rfl)]
  rfl
theorem wrapU' {z : Int} (h : 0 ≤ z ∧ z ≤ 18446744073709551615) : IntKind.u64.wrap z = z := by rw [IntKind.wrap_u64]; omega
set_option maxRecDepth 100000 in
set_option maxHeartbeats 2000000 in
theorem abs_pos (x : Nat) (hx : x < 9223372036854775808) (w : World) : Calls Tryd.prog 101 #[.float .f64 x] w (SameP (.float .f64 x) w) := by
  have hc := clear_sign hx
  have r1 := run_tobits
  have r2 := run_ofbits
  clear hx
  go_enter Tryd.func101, Tryd.ntmps101
  go_wp2_with fail
  go_ret
  exact ⟨rfl, rfl⟩
theorem order_self {x : Nat} (hx : x < 9218868437227405312) : FloatKind.f64.format.order x x = some .eq := (order_pos hx hx).trans (by rw [Nat.compare_eq_eq.2 rfl])
theorem order_lt {x y : Nat} (hy : y < 9218868437227405312) (h : x < y) : FloatKind.f64.format.order x y = some .lt := (order_pos (by omega) hy).trans (by rw [Nat.compare_eq_lt.2 h])
theorem order_gt {x y : Nat} (hx : x < 9218868437227405312) (h : y < x) : FloatKind.f64.format.order x y = some .gt := (order_pos hx (by omega)).trans (by rw [Nat.compare_eq_gt.2 h])
theorem nan_pos (x : Nat) (hx : x < 9218868437227405312) (w : World) : Calls Tryd.prog 87 #[.float .f64 x] w (SameP (.bool false) w) := by
  have h1 := order_self hx
  clear hx
  go_enter Tryd.func87, Tryd.ntmps87
  go_wp2_with fail
  go_ret
  exact ⟨rfl, rfl⟩
set_option maxRecDepth 100000 in
set_option maxHeartbeats 2000000 in
theorem inf_pos (x : Nat) (hx : x < 9218868437227405312) (w : World) : Calls Tryd.prog 86 #[.float .f64 x, .int .i64 0] w (SameP (.bool false) w) := by
  have HA := hide (abs_pos x (by omega) w)
  have h1 : FloatKind.f64.format.order x 9218868437227405311 = some .lt ∨ FloatKind.f64.format.order x 9218868437227405311 = some .eq := by
    rcases Nat.lt_or_ge x 9218868437227405311 with h | h
    · exact .inl (order_lt (by decide) h)
    · have : x = 9218868437227405311 := by omega
      subst this
      exact .inr (order_self (by decide))
  clear hx
  go_enter Tryd.func86, Tryd.ntmps86
  go_wp2_with fail
  refine (HA.out).mono ?_
  rintro _ _ ⟨rfl, rfl⟩
  rcases h1 with h1 | h1
  · go_wp2_with fail
    go_ret
    exact ⟨rfl, rfl⟩
  · go_wp2_with fail
    go_ret
    exact ⟨rfl, rfl⟩
theorem run_mul {x y r : Nat} (h : Ieee.double.mul x y = some r) (W : World) : (binOp .mul 48 (.float .f64 x) (.float .f64 y)).run Tryd.prog W = .ok (.float .f64 r) W := run_float_arith W .mul 48 .f64 x y r h
theorem word_lt {k M : Nat} (hM : M < 9007199254740992) (hk : k ≤ 2045) : k * 4503599627370496 + M < 9218868437227405312 := by omega
set_option maxRecDepth 100000 in
set_option maxHeartbeats 2000000 in
theorem norm_any (x M sh : Nat) (hN : NF x M sh) (h0 : 0 < x) (hx : x < 9218868437227405312) (w : World) :
    Calls Tryd.prog 88 #[.float .f64 x] w (SameP (.tuple #[.float .f64 (if x < 4503599627370496 then (52 - sh) * 4503599627370496 + M else x), .int .i64 (if x < 4503599627370496 then -52 else 0)]) w) := by
  have HA := hide (abs_pos x (by omega) w)
  by_cases h : x < 4503599627370496
  · have h1 := order_lt (y := 4503599627370496) (by decide) h
    have hk : kO x = 0 := by unfold kO; omega
    have h2 := mul_pow (x := x) (j := 1074) (M := M) (t := 52 - sh) (k := 52 - sh) hx (by decide) (by have := hN.ge; omega) hN.lt (.inl hN.ge) (by omega) (by
      rw [hN.eq, Nat.mul_assoc, ← Nat.pow_add, show sh + (52 - sh) = 52 from by have := hN.s52; omega]) (by rw [hk]; omega)
    have h3 := run_mul h2
    rw [if_pos h, if_pos h]
    generalize (52 - sh) * 4503599627370496 + M = y at *
    clear h hx h0 h2 hk hN
    go_enter Tryd.func88, Tryd.ntmps88
    go_wp2_with fail
    refine (HA.out).mono ?_
    rintro _ _ ⟨rfl, rfl⟩
    go_wp2_with fail
    go_ret2
    exact ⟨rfl, rfl⟩
  · have h1 : FloatKind.f64.format.order x 4503599627370496 = some .gt ∨ FloatKind.f64.format.order x 4503599627370496 = some .eq := by
      rcases Nat.lt_or_ge 4503599627370496 x with h2 | h2
      · exact .inl (order_gt hx h2)
      · have : x = 4503599627370496 := by omega
        rw [this]
        exact .inr (order_self (by decide))
    rw [if_neg h, if_neg h]
    clear h hx h0 hN
    rcases h1 with h1 | h1
    · go_enter Tryd.func88, Tryd.ntmps88
      go_wp2_with fail
      refine (HA.out).mono ?_
      rintro _ _ ⟨rfl, rfl⟩
      go_wp2_with fail
      go_ret2
      exact ⟨rfl, rfl⟩
    · go_enter Tryd.func88, Tryd.ntmps88
      go_wp2_with fail
      refine (HA.out).mono ?_
      rintro _ _ ⟨rfl, rfl⟩
      go_wp2_with fail
      go_ret2
      exact ⟨rfl, rfl⟩
theorem NF.big {x M sh : Nat} (h : NF x M sh) (hx : ¬ x < 4503599627370496) : sh = 0 ∧ M = 4503599627370496 + x % 4503599627370496 ∧ kO x + 1 = x / 4503599627370496 := by
  have e : mO x = 4503599627370496 + x % 4503599627370496 := if_neg hx
  have hge := h.ge
  have hlt := h.lt
  have heq := h.eq
  have h0 : sh = 0 := by
    rcases h.or with h1 | h1
    · exact h1
    · rcases Nat.eq_zero_or_pos sh with h2 | h2
      · exact h2
      · have h3 : 2 ^ 1 ≤ 2 ^ sh := Nat.pow_le_pow_right (by decide) h2
        have h4 := Nat.mul_le_mul_left (mO x) h3
        rw [← heq] at h4
        omega
  rw [h0, Nat.pow_zero, Nat.mul_one, e] at heq
  refine ⟨h0, heq, ?_⟩
  unfold kO
  omega
set_option maxRecDepth 100000 in
set_option maxHeartbeats 4000000 in
/-- A word that is not nothing, cut into a number of 53 bits and a power of two. -/
theorem frexp_any (x M sh : Nat) (hN : NF x M sh) (h0 : 0 < x) (hx : x < 9218868437227405312) (w : World) :
    Calls Tryd.prog 68 #[.float .f64 x] w (SameP (.tuple #[.float .f64 (1021 * 4503599627370496 + M), .int .i64 ((kO x : Int) - 1021 - sh)]) w) := by
  have r1 := run_tobits
  have r2 := run_ofbits
  have HNM := hide (norm_any x M sh hN h0 hx w)
  have HI := hide (inf_pos x hx w)
  have HA := hide (nan_pos x hx w)
  have o1 := order_gt (y := 0) hx h0
  have key : ∀ y e0, y < 9223372036854775808 → y % 4503599627370496 = M - 4503599627370496 → e0 + ((y / 4503599627370496 : Nat) : Int) - 1022 = (kO x : Int) - 1021 - sh → -52 ≤ e0 ∧ e0 ≤ 0 →
      ∃ q a : Nat, (y : Int) / 4503599627370496 = (q : Int) ∧ bits .and .u64 (q : Int) 2047 = (q : Int) ∧ IntKind.i64.wrap (q : Int) = (q : Int) ∧ IntKind.i64.wrap ((q : Int) - 1023) = (q : Int) - 1023 ∧ IntKind.i64.wrap ((q : Int) - 1023 + 1) = (q : Int) - 1023 + 1 ∧ IntKind.i64.wrap (e0 + ((q : Int) - 1023 + 1)) = (kO x : Int) - 1021 - sh ∧
        bits .andNot .u64 (y : Int) 9218868437227405312 = (a : Int) ∧ bits .or .u64 (a : Int) 4602678819172646912 = ((1021 * 4503599627370496 + M : Nat) : Int) := by
    intro y e0 h1 h2 h3 h4
    refine ⟨y / 4503599627370496, y % 4503599627370496, rfl, get_exp h1, wrap_in (by omega), wrap_in (by omega), wrap_in (by omega), ?_, clear_exp h1, ?_⟩
    · have e : e0 + (((y / 4503599627370496 : Nat) : Int) - 1023 + 1) = (kO x : Int) - 1021 - sh := by omega
      rw [e]
      exact wrap_in (by have := kO_le hx; have := hN.s52; omega)
    · have h5 := put_exp (a := y % 4503599627370496) (k := 1022) (Nat.mod_lt _ (by decide)) (by decide)
      have e1 : (1022 * 4503599627370496 : Nat) + y % 4503599627370496 = 1021 * 4503599627370496 + M := by have := hN.ge; omega
      rw [e1] at h5
      exact h5
  have hM1 := hN.ge
  have hM2 := hN.lt
  by_cases h : x < 4503599627370496
  · rw [if_pos h, if_pos h] at HNM
    obtain ⟨Y, hY⟩ : ∃ Y, Y = (52 - sh) * 4503599627370496 + M := ⟨_, rfl⟩
    rw [← hY] at HNM
    have hs := hN.s52
    have hk : kO x = 0 := by unfold kO; omega
    obtain ⟨q, a, f1, f2, f3, f4, f5, f6, f7, f8⟩ := key Y (-52) (by omega) (by omega) (by rw [hk]; omega) (by omega)
    obtain ⟨R, hR⟩ : ∃ R, R = 1021 * 4503599627370496 + M := ⟨_, rfl⟩
    obtain ⟨E, hE⟩ : ∃ E, E = (kO x : Int) - 1021 - sh := ⟨_, rfl⟩
    rw [← hR] at f8 ⊢
    rw [← hE] at f6 ⊢
    clear key hM1 hM2 h hx h0 hN hY hs hk hR hE
    go_enter Tryd.func68, Tryd.ntmps68
    go_wp2_with fail
    refine (HI.out).mono ?_
    rintro _ _ ⟨rfl, rfl⟩
    go_wp2_with fail
    refine (HA.out).mono ?_
    rintro _ _ ⟨rfl, rfl⟩
    go_wp2_with fail
    refine (HNM.out).mono ?_
    rintro _ _ ⟨rfl, rfl⟩
    go_wp2_with fail
    go_ret2
    exact ⟨rfl, rfl⟩
  · rw [if_neg h, if_neg h] at HNM
    obtain ⟨b1, b2, b3⟩ := hN.big h
    obtain ⟨q, a, f1, f2, f3, f4, f5, f6, f7, f8⟩ := key x 0 (by omega) (by omega) (by omega) (by omega)
    rw [Int.zero_add] at f6
    obtain ⟨R, hR⟩ : ∃ R, R = 1021 * 4503599627370496 + M := ⟨_, rfl⟩
    obtain ⟨E, hE⟩ : ∃ E, E = (kO x : Int) - 1021 - sh := ⟨_, rfl⟩
    rw [← hR] at f8 ⊢
    rw [← hE] at f6 ⊢
    have HE : Hid ((q : Int) - 1023 + 1 = E) := hide (f5.symm.trans f6)
    clear key hM1 hM2 h hx h0 hN b1 b2 b3 hR hE f6
    go_enter Tryd.func68, Tryd.ntmps68
    go_wp2_with fail
    refine (HI.out).mono ?_
    rintro _ _ ⟨rfl, rfl⟩
    go_wp2_with fail
    refine (HA.out).mono ?_
    rintro _ _ ⟨rfl, rfl⟩
    go_wp2_with fail
    refine (HNM.out).mono ?_
    rintro _ _ ⟨rfl, rfl⟩
    go_wp2_with fail
    go_ret2
    exact ⟨by rw [← HE.out]; rfl, rfl⟩
theorem Frexp_any (x M sh : Nat) (hN : NF x M sh) (h0 : 0 < x) (hx : x < 9218868437227405312) (w : World) :
    Calls Tryd.prog 54 #[.float .f64 x] w (SameP (.tuple #[.float .f64 (1021 * 4503599627370496 + M), .int .i64 ((kO x : Int) - 1021 - sh)]) w) := by
  have HF := hide (frexp_any x M sh hN h0 hx w)
  clear hN h0 hx
  go_enter Tryd.func54, Tryd.ntmps54
  go_wp2_with fail
  refine (HF.out).mono ?_
  rintro _ _ ⟨rfl, rfl⟩
  go_wp2_with fail
  go_ret2
  exact ⟨rfl, rfl⟩
theorem i64_and2047 (n : Int) : bits .and .i64 n 2047 = n % 2048 := by
  have h127 : (BitVec.ofInt 64 2047).toNat = 2 ^ 11 - 1 := by decide
  have key : (BitVec.ofInt 64 n &&& BitVec.ofInt 64 2047).toNat = (n % ((2 ^ 64 : Nat) : Int)).toNat % 2 ^ 11 := by
    rw [BitVec.toNat_and, BitVec.toNat_ofInt, h127, Nat.and_two_pow_sub_one_eq_mod]
  show IntKind.i64.wrap ((BitVec.ofInt 64 n &&& BitVec.ofInt 64 2047).toNat : Nat) = n % 2048
  rw [key, IntKind.wrap_i64]
  omega
theorem nf_norm {k M : Nat} (h1 : 4503599627370496 ≤ M) (h2 : M < 9007199254740992) : NF (k * 4503599627370496 + M) M 0 := by
  obtain ⟨a, b⟩ := mk_of (k := k) h2 (.inl h1)
  exact ⟨by rw [a]; exact (Nat.mul_one _).symm, h1, h2, by omega, .inl rfl⟩
set_option maxRecDepth 100000 in
set_option maxHeartbeats 4000000 in
/-- A number moved by a power of two, where it stays a number of 53 bits. -/
theorem ldexp_any (k M j : Nat) (e : Int) (h1 : 4503599627370496 ≤ M) (h2 : M < 9007199254740992) (hk : k ≤ 2045) (hj : (k : Int) + e = j) (hj2 : j ≤ 2045) (w : World) :
    Calls Tryd.prog 70 #[.float .f64 (k * 4503599627370496 + M), .int .i64 e] w (SameP (.float .f64 (j * 4503599627370496 + M)) w) := by
  have r1 := run_tobits
  have r2 := run_ofbits
  have hx : k * 4503599627370496 + M < 9218868437227405312 := word_lt h2 hk
  have hN := nf_norm (k := k) h1 h2
  have HNM := norm_any (k * 4503599627370496 + M) M 0 hN (by omega) hx w
  rw [if_neg (by omega), if_neg (by omega)] at HNM
  have HI := hide (inf_pos _ hx w)
  have HA := hide (nan_pos _ hx w)
  have o1 := order_gt (y := 0) hx (by omega)
  have m1 := run_mul (mul_one (k := j) (M := M) (by omega) h2 (.inl h1) hj2)
  obtain ⟨X, hX⟩ : ∃ X, X = k * 4503599627370496 + M := ⟨_, rfl⟩
  obtain ⟨Y, hY⟩ : ∃ Y, Y = j * 4503599627370496 + M := ⟨_, rfl⟩
  rw [← hX] at HNM HI HA o1 hx ⊢
  rw [← hY] at m1 ⊢
  have HNM := hide HNM
  have f1 : (X : Int) / 4503599627370496 = ((k + 1 : Nat) : Int) := by omega
  obtain ⟨q, hq⟩ : ∃ q, q = k + 1 := ⟨_, rfl⟩
  rw [← hq] at f1
  have f0 : IntKind.i64.wrap (e + 0) = e := by rw [Int.add_zero]; exact wrap_in (by omega)
  have f00 : IntKind.i64.wrap e = e := wrap_in (by omega)
  have f2 : IntKind.i64.wrap (q : Int) = (q : Int) := wrap_in (by omega)
  have f3 : bits .and .i64 (q : Int) 2047 = (q : Int) := by rw [i64_and2047]; omega
  have f4 : IntKind.i64.wrap ((q : Int) - 1023) = (q : Int) - 1023 := wrap_in (by omega)
  obtain ⟨E, hE⟩ : ∃ E : Int, E = (j : Int) - 1022 := ⟨_, rfl⟩
  have f5 : IntKind.i64.wrap (e + ((q : Int) - 1023)) = E := by
    have : e + ((q : Int) - 1023) = E := by omega
    rw [this]; exact wrap_in (by omega)
  have f6 : ¬ E < -1075 := by omega
  have f7 : ¬ 1023 < E := by omega
  have f8 : ¬ E < -1022 := by omega
  have f9 := clear_exp (x := X) (by omega)
  obtain ⟨a, ha⟩ : ∃ a, a = X % 4503599627370496 := ⟨_, rfl⟩
  rw [← ha] at f9
  have g1 : IntKind.i64.wrap (E + 1023) = ((j + 1 : Nat) : Int) := by
    have : E + 1023 = ((j + 1 : Nat) : Int) := by omega
    rw [this]; exact wrap_in (by omega)
  obtain ⟨p, hp⟩ : ∃ p, p = j + 1 := ⟨_, rfl⟩
  rw [← hp] at g1
  have g2 : IntKind.u64.wrap (p : Int) = (p : Int) := wrapU' (by omega)
  obtain ⟨b, hb⟩ : ∃ b, b = p * 4503599627370496 := ⟨_, rfl⟩
  have g3 : IntKind.u64.wrap ((p : Int) * 4503599627370496) = (b : Int) := by
    have : (p : Int) * 4503599627370496 = (b : Int) := by omega
    rw [this]; exact wrapU' (by omega)
  have g4 : bits .or .u64 (a : Int) (b : Int) = (Y : Int) := by
    have h := put_exp (a := a) (k := p) (by omega) (by omega)
    rw [← hb] at h
    have e2 : b + a = Y := by omega
    rw [h, e2]
  clear hX hY hN hx h1 h2 hk hj hj2 hq hE ha hp hb
  go_enter Tryd.func70, Tryd.ntmps70
  go_wp2_with fail
  refine (HI.out).mono ?_
  rintro _ _ ⟨rfl, rfl⟩
  go_wp2_with fail
  refine (HA.out).mono ?_
  rintro _ _ ⟨rfl, rfl⟩
  go_wp2_with fail
  refine (HNM.out).mono ?_
  rintro _ _ ⟨rfl, rfl⟩
  go_wp2_with fail
  go_ret
  exact ⟨rfl, rfl⟩
theorem Ldexp_any (k M j : Nat) (e : Int) (h1 : 4503599627370496 ≤ M) (h2 : M < 9007199254740992) (hk : k ≤ 2045) (hj : (k : Int) + e = j) (hj2 : j ≤ 2045) (w : World) :
    Calls Tryd.prog 55 #[.float .f64 (k * 4503599627370496 + M), .int .i64 e] w (SameP (.float .f64 (j * 4503599627370496 + M)) w) := by
  have HF := hide (ldexp_any k M j e h1 h2 hk hj hj2 w)
  obtain ⟨X, hX⟩ : ∃ X, X = k * 4503599627370496 + M := ⟨_, rfl⟩
  obtain ⟨Y, hY⟩ : ∃ Y, Y = j * 4503599627370496 + M := ⟨_, rfl⟩
  rw [← hX, ← hY] at HF ⊢
  clear h1 h2 hk hj hj2 hX hY
  go_enter Tryd.func55, Tryd.ntmps55
  go_wp2_with fail
  refine (HF.out).mono ?_
  rintro _ _ ⟨rfl, rfl⟩
  go_wp2_with fail
  go_ret
  exact ⟨rfl, rfl⟩
end Go.Proofs.YtgjeihgkcmheeaaDoor
