/- The walk of money.Part. -/
import Derived.Test.YtgjeihgkcmheeaaDoorPt2
import Derived.Test.YtgjeihgkcmheeaaDoorFlN
namespace Go.Proofs.YtgjeihgkcmheeaaDoor
open Go.RowKit Go.Shelf

/-- A rate against nothing and one. -/
theorem rate_facts {b : Nat} (hb : b < 18446744073709551616) : (geF b 0 && leF b 4607182418800017408) = rateOK b := by
  unfold rateOK
  cases kindF hb with
  | pos h =>
    rw [(ge_pos h (by decide)).1, (ge_pos h (by decide)).2, decide_eq_true (Nat.zero_le _), Bool.true_and]
    have : (b == 9223372036854775808) = false := by rw [beq_eq_false_iff_ne]; omega
    rw [this, Bool.or_false]
  | inf h =>
    subst h
    rw [(ge_inf (by decide)).1, (ge_inf (by decide)).2]; decide
  | neg y h hy =>
    subst h
    rw [(ge_neg hy (by decide)).1, (ge_neg hy (by decide)).2]
    by_cases h0 : y = 0
    · subst h0; decide
    · rw [decide_eq_false h0]
      have : (9223372036854775808 + y == 9223372036854775808) = false := by rw [beq_eq_false_iff_ne]; omega
      rw [this, decide_eq_false (p := 9223372036854775808 + y ≤ 4607182418800017408) (by omega), decide_eq_true (p := (0:Nat) = 0) rfl]; rfl
  | ninf h =>
    subst h
    rw [(ge_ninf (by decide)).1]; decide
  | nan n f h h1 h2 =>
    rw [(ge_nan h).1]
    have : (b == 9223372036854775808) = false := by rw [beq_eq_false_iff_ne]; exact h2
    rw [this, decide_eq_false (by omega)]; rfl
theorem ge_form (b y : Nat) : (FloatKind.f64.format.order b y == some .gt || FloatKind.f64.format.order b y == some .eq) = geF b y := rfl
theorem le_form (b y : Nat) : (FloatKind.f64.format.order b y == some .lt || FloatKind.f64.format.order b y == some .eq) = leF b y := rfl
set_option maxRecDepth 100000 in
set_option maxHeartbeats 4000000 in
theorem part_bad (c : Int) (b : Nat) (hb : b < 18446744073709551616) (h : (isC c && rateOK b) = false) (w : World) : Calls Tryd.prog 31 #[.int .i64 c, .float .f64 b] w (SameP (.tuple #[.int .i64 0, .int .i64 2]) w) := by
  have HA := hide (are_any c w)
  rw [← rate_facts hb] at h
  have f1 := ge_form b 0
  have f2 := le_form b 4607182418800017408
  generalize geF b 0 = g0 at *
  generalize leF b 4607182418800017408 = g1 at *
  generalize isC c = ok at *
  clear hb
  cases ok with
  | false =>
    clear h
    go_enter Tryd.func31, Tryd.ntmps31
    go_wp2_with fail
    refine (HA.out).mono ?_
    rintro _ _ ⟨rfl, rfl⟩
    go_wp2_with fail
    go_ret2
    exact ⟨rfl, rfl⟩
  | true =>
    cases g0 with
    | false =>
      clear h
      go_enter Tryd.func31, Tryd.ntmps31
      go_wp2_with fail
      refine (HA.out).mono ?_
      rintro _ _ ⟨rfl, rfl⟩
      go_wp2_with fail
      go_ret2
      exact ⟨rfl, rfl⟩
    | true =>
      have h1 : g1 = false := by simpa using h
      subst h1
      clear h
      go_enter Tryd.func31, Tryd.ntmps31
      go_wp2_with fail
      refine (HA.out).mono ?_
      rintro _ _ ⟨rfl, rfl⟩
      go_wp2_with fail
      go_ret2
      exact ⟨rfl, rfl⟩
theorem run_tou {x n : Nat} (h : floatToIntVal .f64 x .u64 = some (n : Int)) (W : World) : (convert 48 69 (.float .f64 x)).run Tryd.prog W = .ok (.int .u64 (n : Int)) W :=
  run_convert_float_int W 48 69 .f64 .u64 x n (by kernel_rfl) Tryd.underlying69 h
theorem tou_word {M : Nat} (h1 : 4503599627370496 ≤ M) (h2 : M < 9007199254740992) : floatToIntVal .f64 (1074 * 4503599627370496 + M) .u64 = some (M : Int) := by
  have e : FloatKind.f64.decode (1074 * 4503599627370496 + M) = .number false M 0 := by
    obtain ⟨a, b⟩ := mk_of (k := 1074) h2 (.inl h1)
    have h := read_pos (x := 1074 * 4503599627370496 + M) (by omega)
    rw [a, b] at h
    exact h
  unfold floatToIntVal
  rw [e]
  have e2 : (Ieee.Datum.number false M 0).toInt .zero = some (M : Int) := by
    unfold Ieee.Datum.toInt Ieee.Datum.integral
    have := cut_exact (M := M) (t := 0) (by omega) .zero false
    rw [Nat.pow_zero, Nat.mul_one] at this
    show (match Ieee.Datum.number false (Ieee.Toward.zero.cut false (M <<< 0) 0) 0 with | .number s m _ => some (Ieee.signed s m 0) | _ => none) = _
    rw [Nat.shiftLeft_zero, this]
    rfl
  rw [e2]
  have e3 : IntKind.u64.min ≤ (M : Int) ∧ (M : Int) ≤ IntKind.u64.max := by
    show (0 : Int) ≤ M ∧ (M : Int) ≤ 18446744073709551615
    omega
  simp only [e3, and_self, if_true]
theorem frexp_zero (b : Nat) (h : FloatKind.f64.format.order b 0 = some .eq) (w : World) : Calls Tryd.prog 54 #[.float .f64 b] w (SameP (.tuple #[.float .f64 b, .int .i64 0]) w) := by
  have h1 : Calls Tryd.prog 68 #[.float .f64 b] w (SameP (.tuple #[.float .f64 b, .int .i64 0]) w) := by
    go_enter Tryd.func68, Tryd.ntmps68
    go_wp2_with fail
    go_ret2
    exact ⟨rfl, rfl⟩
  have H1 := hide h1
  clear h1
  go_enter Tryd.func54, Tryd.ntmps54
  go_wp2_with fail
  refine (H1.out).mono ?_
  rintro _ _ ⟨rfl, rfl⟩
  go_wp2_with fail
  go_ret2
  exact ⟨rfl, rfl⟩
theorem ldexp_zero (b : Nat) (e : Int) (h : FloatKind.f64.format.order b 0 = some .eq) (w : World) : Calls Tryd.prog 55 #[.float .f64 b, .int .i64 e] w (SameP (.float .f64 b) w) := by
  have h1 : Calls Tryd.prog 70 #[.float .f64 b, .int .i64 e] w (SameP (.float .f64 b) w) := by
    go_enter Tryd.func70, Tryd.ntmps70
    go_wp2_with fail
    go_ret
    exact ⟨rfl, rfl⟩
  have H1 := hide h1
  clear h1
  go_enter Tryd.func55, Tryd.ntmps55
  go_wp2_with fail
  refine (H1.out).mono ?_
  rintro _ _ ⟨rfl, rfl⟩
  go_wp2_with fail
  go_ret
  exact ⟨rfl, rfl⟩
theorem lt_cell {w : World} {a : Addr} {v : Value} (h : w.cell? a = some v) : a.block < w.heap.size := by
  rcases Nat.lt_or_ge a.block w.heap.size with hlt | hge
  · exact hlt
  · unfold World.cell? at h
    rw [Array.getElem?_eq_none hge] at h
    simp at h
theorem TabW.below {w w' : World} (h : TabW w) (hb : Below w.heap.size w w') : TabW w' := fun j hj => (hb.cell (p := ⟨3, j, none⟩) (lt_cell (h j hj))).trans (h j hj)
set_option maxRecDepth 100000 in
set_option maxHeartbeats 4000000 in
/-- All behind the rate's cut: a number of 53 bits, by how much it is moved down. -/
theorem part_core (cn M D b fr : Nat) (E : Int) (hc : cn ≤ 1099511627776) (hM : M < 9007199254740992) (hD : 52 ≤ D ∧ D ≤ 5000) (hE : 53 - E = D) (w : World) (hT : TabW w)
    (f1 : geF b 0 = true) (f2 : leF b 4607182418800017408 = true)
    (h1 : Calls Tryd.prog 54 #[.float .f64 b] w (SameP (.tuple #[.float .f64 fr, .int .i64 E]) w)) (x : Nat) (h2 : Calls Tryd.prog 55 #[.float .f64 fr, .int .i64 53] w (SameP (.float .f64 x) w)) (h3 : floatToIntVal .f64 x .u64 = some (M : Int)) :
    Calls Tryd.prog 31 #[.int .i64 (cn : Int), .float .f64 b] w (BelP (.tuple #[.int .i64 (rnd (cn * M) D : Nat), .int .i64 0]) w) := by
  have HA := are_any (cn : Int) w
  have hcc : isC (cn : Int) = true := isC_iff.2 (by omega)
  rw [hcc] at HA
  have HA := hide HA
  have HF := hide h1
  have HL := hide h2
  have f3 := run_tou h3
  rw [← ge_form] at f1
  rw [← le_form] at f2
  obtain ⟨X, hX⟩ : ∃ X, X = cn * M := ⟨_, rfl⟩
  have hXb : X < 9903520314283042199192993792 := by
    rw [hX]
    have := Nat.mul_le_mul hc (show M ≤ 9007199254740991 by omega)
    omega
  have hM0 := shelf_bits_Mul64 cn M (by omega) (by omega) w
  rw [← hX] at hM0 ⊢
  have hi29 : X / 18446744073709551616 < 536870912 := by omega
  have fc : IntKind.u64.wrap (cn : Int) = (cn : Int) := wrapU' (by omega)
  have fD : IntKind.i64.wrap (53 - E) = (D : Int) := by rw [hE]; exact wrap_in (by omega)
  by_cases hbig : 120 < D
  · have HR : Hid (rnd X D = 0) := hide (by
      have p1 : X < 2 ^ (D - 1) := Nat.lt_of_lt_of_le (show X < 2 ^ 93 from hXb) (Nat.pow_le_pow_right (by decide) (by omega))
      have p2 : X < 2 ^ D := Nat.lt_of_lt_of_le p1 (Nat.pow_le_pow_right (by decide) (by omega))
      unfold rnd
      rw [Nat.div_eq_of_lt p1, Nat.div_eq_of_lt p2]
      simp)
    obtain ⟨hi, hh⟩ : ∃ a, a = X / 18446744073709551616 := ⟨_, rfl⟩
    obtain ⟨lo, hl⟩ : ∃ a, a = X % 18446744073709551616 := ⟨_, rfl⟩
    rw [← hh, ← hl] at hM0
    have HM := hide hM0
    have fb : (120 : Int) < (D : Int) := by omega
    rw [HR.out]
    clear hc hM hD hE h1 h2 h3 hcc hX hXb hM0 hi29 hbig hh hl
    go_enter Tryd.func31, Tryd.ntmps31
    go_wp2_with fail
    refine (HA.out).mono ?_
    rintro _ _ ⟨rfl, rfl⟩
    go_wp2_with fail
    refine (HF.out).mono ?_
    rintro _ _ ⟨rfl, rfl⟩
    go_wp2_with fail
    refine (HL.out).mono ?_
    rintro _ _ ⟨rfl, rfl⟩
    go_wp2_with fail
    refine (HM.out).mono ?_
    rintro _ _ ⟨rfl, rfl⟩
    go_wp2_with fail
    go_ret2
    exact ⟨rfl, Below.refl _ _⟩
  · have hS1 := fun W => shifted_any X D (by omega) (by
      rcases Nat.lt_or_ge D 64 with h | h
      · have : 2 ^ (64 - D) ≤ 2 ^ 13 := Nat.pow_le_pow_right (by decide) (by omega)
        have := Nat.mul_le_mul (show X / 18446744073709551616 ≤ 536870912 by omega) this
        omega
      · have : 64 - D = 0 := by omega
        rw [this]; omega) (by omega) W
    have hS2 := fun W => shifted_any X (D - 1) (by omega) (by
      rcases Nat.lt_or_ge (D - 1) 64 with h | h
      · have : 2 ^ (64 - (D - 1)) ≤ 2 ^ 13 := Nat.pow_le_pow_right (by decide) (by omega)
        have := Nat.mul_le_mul (show X / 18446744073709551616 ≤ 536870912 by omega) this
        omega
      · have : 64 - (D - 1) = 0 := by omega
        rw [this]; omega) (by omega) W
    have hTR := fun W (h : TabW W) => trailing_any X (by omega) W h
    have hti := trail_iff (X := X) (k := D - 1) (by omega) (by omega)
    have htl := trailR_le (X := X) (by omega)
    have hwb : X / 2 ^ D ≤ 4398046511104 := by
      have h52 : 2 ^ 52 ≤ 2 ^ D := Nat.pow_le_pow_right (by decide) (by omega)
      have h4 : X / 2 ^ D ≤ X / 2 ^ 52 := Nat.div_le_div_left h52 (by decide)
      have : (2 : Nat) ^ 52 = 4503599627370496 := rfl
      rw [this] at h4
      omega
    obtain ⟨hi, hh⟩ : ∃ a, a = X / 18446744073709551616 := ⟨_, rfl⟩
    obtain ⟨lo, hl⟩ : ∃ a, a = X % 18446744073709551616 := ⟨_, rfl⟩
    obtain ⟨wh, hwh⟩ : ∃ a, a = X / 2 ^ D := ⟨_, rfl⟩
    obtain ⟨tr, htr⟩ : ∃ a, a = trailR X := ⟨_, rfl⟩
    obtain ⟨D1, hD1⟩ : ∃ a, a = D - 1 := ⟨_, rfl⟩
    obtain ⟨ha, hha⟩ : ∃ a, a = X / 2 ^ D1 := ⟨_, rfl⟩
    have hab : ha < 18446744073709551616 := by
      have h51 : 2 ^ 51 ≤ 2 ^ D1 := Nat.pow_le_pow_right (by decide) (by omega)
      have h4 : X / 2 ^ D1 ≤ X / 2 ^ 51 := Nat.div_le_div_left h51 (by decide)
      have : (2 : Nat) ^ 51 = 2251799813685248 := rfl
      rw [this] at h4
      omega
    have hRn : rnd X D = wh + (if ha % 2 = 1 ∧ (tr < D1 ∨ wh % 2 = 1) then 1 else 0) := by
      have : X % 2 ^ (D - 1) ≠ 0 ↔ tr < D1 := by
        rw [htr, hD1]
        have := hti
        omega
      unfold rnd
      simp only [this, ← hwh]
      rw [← hD1, ← hha]
    rw [← hD1] at hS2
    simp only [← hh, ← hl, ← hwh, ← hha, ← htr] at hM0 hS1 hS2 hTR hti htl hwb
    have HM := hide hM0
    have HS1 := hide hS1
    have HS2 := hide hS2
    have HTR := hide hTR
    have HTB := hide hT
    have HRN := hide hRn
    have fb : ¬ (120 : Int) < (D : Int) := by omega
    have fd : IntKind.i64.wrap ((D : Int) - 1) = (D1 : Int) := by
      have : (D : Int) - 1 = (D1 : Int) := by omega
      rw [this]; exact wrap_in (by omega)
    have g1 : bits .and .u64 (ha : Int) 1 = ((ha % 2 : Nat) : Int) := by
      have h := bits_and_u64_nat ha 1 hab (by decide)
      rw [Nat.and_one_is_mod] at h
      exact h
    have g2 : bits .and .u64 (wh : Int) 1 = ((wh % 2 : Nat) : Int) := by
      have h := bits_and_u64_nat wh 1 (by omega) (by decide)
      rw [Nat.and_one_is_mod] at h
      exact h
    have g3 : IntKind.u64.wrap ((wh : Int) + 1) = ((wh + 1 : Nat) : Int) := by
      have : (wh : Int) + 1 = ((wh + 1 : Nat) : Int) := by omega
      rw [this]; exact wrapU' (by omega)
    have g4 : IntKind.i64.wrap (wh : Int) = (wh : Int) := wrap_in (by omega)
    have g5 : IntKind.i64.wrap ((wh + 1 : Nat) : Int) = ((wh + 1 : Nat) : Int) := wrap_in (by omega)
    obtain ⟨wp, hwp⟩ : ∃ a, a = wh + 1 := ⟨_, rfl⟩
    rw [← hwp] at g3 g5
    obtain ⟨hm, hhm⟩ : ∃ a, a = ha % 2 := ⟨_, rfl⟩
    obtain ⟨wm, hwm⟩ : ∃ a, a = wh % 2 := ⟨_, rfl⟩
    rw [← hhm] at g1
    rw [← hwm] at g2
    rw [← hhm, ← hwm] at hRn
    have HRN := hide hRn
    have HW1 := hide hwp
    obtain ⟨R, hR⟩ : ∃ a, a = rnd X D := ⟨_, rfl⟩
    rw [← hR] at HRN ⊢
    have HHM : Hid (hm < 2 ∧ wm < 2) := hide (by omega)
    clear hc hM hD hE h1 h2 h3 hcc hX hXb hM0 hi29 hbig hh hl hS1 hS2 hTR hti htl hwb hwh hha htr hD1 hab hRn hwp hhm hwm hR hT
    go_enter Tryd.func31, Tryd.ntmps31
    go_wp2_with fail
    refine (HA.out).mono ?_
    rintro _ _ ⟨rfl, rfl⟩
    go_wp2_with fail
    refine (HF.out).mono ?_
    rintro _ _ ⟨rfl, rfl⟩
    go_wp2_with fail
    refine (HL.out).mono ?_
    rintro _ _ ⟨rfl, rfl⟩
    go_wp2_with fail
    refine (HM.out).mono ?_
    rintro _ _ ⟨rfl, rfl⟩
    rename World => w0
    go_wp2_with fail
    refine (HS1.out _).mono ?_
    rintro _ w1 ⟨rfl, hb1⟩
    have HB1 := hide hb1
    clear hb1
    go_wp2_with fail
    refine (HS2.out _).mono ?_
    rintro _ w2 ⟨rfl, hb2⟩
    have HB2 := hide (HB1.out.trans (hb2.mono HB1.out.size))
    have HT2 := hide (HTR.out w2 (HTB.out.below HB2.out))
    clear hb2
    go_wp2_with fail
    refine (HT2.out).mono ?_
    rintro _ _ ⟨rfl, rfl⟩
    rename World => w3
    by_cases k1 : hm = 1
    · have ki : (hm : Int) = 1 := by omega
      clear g1
      by_cases k2 : tr < D1
      · have HV : Hid (R = wp) := hide (by rw [HRN.out, if_pos ⟨k1, .inl k2⟩, HW1.out])
        clear k1
        go_wp2_with fail
        go_ret2
        exact ⟨by rw [HV.out]; rfl, HB2.out⟩
      · by_cases k3 : wm = 1
        · have HV : Hid (R = wp) := hide (by rw [HRN.out, if_pos ⟨k1, .inr k3⟩, HW1.out])
          have g2a : bits .and .u64 (wh : Int) 1 = 1 := by rw [g2, k3]; rfl
          clear k1 k3 g2
          go_wp2_with fail
          go_ret2
          exact ⟨by rw [HV.out]; rfl, HB2.out⟩
        · have HV : Hid (R = wh) := hide (by rw [HRN.out, if_neg (by omega)]; rfl)
          have k4 : wm = 0 := by have := HHM.out; omega
          have g2a : bits .and .u64 (wh : Int) 1 = 0 := by rw [g2, k4]; rfl
          clear k1 k3 k4 g2
          go_wp2_with fail
          go_ret2
          exact ⟨by rw [HV.out]; rfl, HB2.out⟩
    · have HV : Hid (R = wh) := hide (by rw [HRN.out, if_neg (by omega)]; rfl)
      have k4 : hm = 0 := by have := HHM.out; omega
      have ki : (hm : Int) = 0 := by omega
      clear k1 k4 g1
      go_wp2_with fail
      go_ret2
      exact ⟨by rw [HV.out]; rfl, HB2.out⟩
theorem rnd_zero (D : Nat) : rnd 0 D = 0 := by unfold rnd; simp
set_option maxHeartbeats 1000000 in
theorem part_any (c : Int) (b : Nat) (hb : b < 18446744073709551616) (w : World) (hT : TabW w) : Calls Tryd.prog 31 #[.int .i64 c, .float .f64 b] w (BelP (.tuple #[.int .i64 (partR c b).1, .int .i64 (partR c b).2]) w) := by
  unfold partR
  cases h : (isC c && rateOK b) with
  | false =>
    rw [if_neg (by simp)]
    exact (part_bad c b hb h w).mono (fun e w' ⟨h1, h2⟩ => ⟨h1, by rw [← h2]; exact Below.refl _ _⟩)
  | true =>
    rw [if_pos rfl]
    rw [Bool.and_eq_true] at h
    obtain ⟨hc, hr⟩ := h
    have hcb := isC_iff.1 hc
    have hrf := rate_facts hb
    rw [hr, Bool.and_eq_true] at hrf
    obtain ⟨cn, rfl⟩ : ∃ cn : Nat, c = cn := ⟨c.toNat, by omega⟩
    rw [Int.toNat_natCast]
    by_cases hz : b = 0 ∨ b = 9223372036854775808
    · have h0 : FloatKind.f64.format.order b 0 = some .eq := by
        rcases hz with rfl | rfl <;> decide +kernel
      have h1 : floatToIntVal .f64 b .u64 = some ((0 : Nat) : Int) := by
        rcases hz with rfl | rfl <;> decide +kernel
      have h2 := part_core cn 0 53 b b 0 (by omega) (by decide) (by omega) (by decide) w hT hrf.1 hrf.2 (frexp_zero b h0 w) b (ldexp_zero b 53 h0 w) h1
      have h3 : partV cn b = rnd (cn * 0) 53 := by
        unfold partV
        rw [Nat.mul_zero, rnd_zero]
        rcases hz with rfl | rfl
        · rw [if_neg (by decide), show mO 0 = 0 from rfl, Nat.mul_zero, rnd_zero]
        · rw [if_pos rfl]
      rw [h3]
      exact h2
    · have hbo : b ≤ 4607182418800017408 := by
        unfold rateOK at hr
        rw [Bool.or_eq_true, decide_eq_true_eq, beq_iff_eq] at hr
        omega
      have hb0 : 0 < b := by omega
      obtain ⟨M, sh, hN⟩ := nf_of hb0
      have hk : kO b ≤ 1022 := by unfold kO; omega
      have hs := hN.s52
      have h2 := part_core cn M (1074 - kO b + sh) b (1021 * 4503599627370496 + M) ((kO b : Int) - 1021 - sh) (by omega) hN.lt (by omega) (by omega) w hT hrf.1 hrf.2 (Frexp_any b M sh hN hb0 (by omega) w) (1074 * 4503599627370496 + M) (Ldexp_any 1021 M 1074 53 hN.ge hN.lt (by decide) (by decide) (by decide) w) (tou_word hN.ge hN.lt)
      have h3 : partV cn b = rnd (cn * M) (1074 - kO b + sh) := by
        unfold partV
        rw [if_neg (by omega), hN.eq, ← Nat.mul_assoc, rnd_scale (by omega)]
      rw [h3]
      exact h2
end Go.Proofs.YtgjeihgkcmheeaaDoor
