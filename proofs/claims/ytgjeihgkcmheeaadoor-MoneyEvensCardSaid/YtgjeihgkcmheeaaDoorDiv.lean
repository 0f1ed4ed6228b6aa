/- The walk of math/bits.Div64. -/
import Derived.Test.YtgjeihgkcmheeaaDoorMn2
import Derived.Test.YtgjeihgkcmheeaaDoorDivP
import Derived.Test.YtgjeihgkcmheeaaDoorLay2
import Derived.Laws.Bits64b
import Derived.Deep.CutBlock
namespace Go.Proofs.YtgjeihgkcmheeaaDoor
open Go.RowKit Go.Shelf

def DivQ (X y : Nat) (w : World) (e : Ending) (w' : World) : Prop := e = .returned (.tuple #[.int .u64 ((X / y : Nat) : Int), .int .u64 ((X % y : Nat) : Int)]) ∧ Below w.heap.size w w'
theorem wrapU {z : Int} (h : 0 ≤ z ∧ z ≤ 18446744073709551615) : IntKind.u64.wrap z = z := by rw [IntKind.wrap_u64]; omega
theorem wrapN {z : Nat} (h : z < 18446744073709551616) : IntKind.u64.wrap (z : Int) = (z : Int) := wrapU (by omega)
theorem maskN (a : Nat) (ha : a < 18446744073709551616) : bits .and .u64 (a : Int) 4294967295 = ((a % 4294967296 : Nat) : Int) := by
  have h := bits_and_u64_nat a 4294967295 ha (by omega)
  have e : a &&& 4294967295 = a % 4294967296 := Nat.and_two_pow_sub_one_eq_mod a 32
  rw [e] at h
  exact h
theorem shlN {a s X : Nat} (h : a * 2 ^ s = X) (hX : X < 18446744073709551616) : IntKind.u64.wrap ((a : Int) * 2 ^ s) = (X : Int) := by
  have e : (a : Int) * 2 ^ s = ((X : Nat) : Int) := by rw [← h, Int.natCast_mul, Int.natCast_pow]; rfl
  rw [e]; exact wrapN hX
theorem shlM (a s : Nat) : IntKind.u64.wrap ((a : Int) * 2 ^ s) = ((a * 2 ^ s % 18446744073709551616 : Nat) : Int) := by
  have e : (a : Int) * 2 ^ s = ((a * 2 ^ s : Nat) : Int) := by rw [Int.natCast_mul, Int.natCast_pow]; rfl
  rw [e, IntKind.wrap_u64]; omega
theorem shrN (a s : Nat) : (a : Int) / 2 ^ s = ((a / 2 ^ s : Nat) : Int) := by rw [Int.natCast_ediv, Int.natCast_pow]; rfl
theorem tdivN (a b : Nat) : (a : Int).tdiv b = ((a / b : Nat) : Int) := by rw [Int.tdiv_eq_ediv_of_nonneg (by omega)]; rfl
theorem orN (A B s : Nat) (hB : B < 2 ^ s) (hX : A * 2 ^ s + B < 18446744073709551616) : bits .or .u64 ((A * 2 ^ s : Nat) : Int) (B : Int) = ((A * 2 ^ s + B : Nat) : Int) := by
  rw [bits_or_u64_nat _ _ (by omega) (by omega), Nat.mul_comm A, Nat.two_pow_add_eq_or_of_lt hB]
set_option maxHeartbeats 2000000 in
theorem div_low (lo y : Nat) (hy : 0 < y) (hlo : lo < 18446744073709551616) (hyy : y < 18446744073709551616) (w : World) : Calls Tryd.prog 40 #[.int .u64 (0 : Int), .int .u64 lo, .int .u64 y] w (DivQ lo y w) := by
  have hy0 : ((y : Int) == 0) = false := by rw [beq_eq_false_iff_ne]; omega
  have hy1 : ¬ ((y : Int) ≤ 0) := by omega
  have hl0 : (0 : Int) ≤ lo := by omega
  have e3 : IntKind.u64.wrap ((lo : Int) / y) = (lo : Int) / y := wrapN (z := lo / y) (Nat.lt_of_le_of_lt (Nat.div_le_self _ _) hlo)
  go_enter Tryd.func40, Tryd.ntmps40
  go_wp2_with fail
  go_quiet (fail)
  go_wp2_with fail
  go_ret2
  refine ⟨?_, bel_drewN (Below.refl _ _) _⟩
  rfl
/-- The numbers of a division: scaled by 2 ^ s. -/
structure DivN (hi lo y s t Y U V y1 y0 v1 v0 : Nat) : Prop where
  st : s + t = 64
  s64 : s < 64
  yy : Y = y * 2 ^ s
  yb : Y < 18446744073709551616
  hh : hi * 2 ^ s < 18446744073709551616
  uu : U = hi * 2 ^ s + lo / 2 ^ t
  ub : U < Y
  lb : lo / 2 ^ t < 2 ^ s
  vv : V = lo * 2 ^ s % 18446744073709551616
  tot : (hi * 18446744073709551616 + lo) * 2 ^ s = U * 18446744073709551616 + V
  y1e : y1 = Y / 4294967296
  y0e : y0 = Y % 4294967296
  v1e : v1 = V / 4294967296
  v0e : v0 = V % 4294967296
  big : 2147483648 ≤ y1
theorem bitLen_spec {y : Nat} (h0 : 0 < y) (hy : y < 18446744073709551616) : 0 < Lib.bitLen y ∧ Lib.bitLen y ≤ 64 ∧ 2 ^ (Lib.bitLen y - 1) ≤ y ∧ y < 2 ^ Lib.bitLen y := by
  have key : ∀ (f x : Nat), 0 < x → x < 2 ^ f → 0 < Lib.bitLenAux f x ∧ Lib.bitLenAux f x ≤ f ∧ 2 ^ (Lib.bitLenAux f x - 1) ≤ x ∧ x < 2 ^ Lib.bitLenAux f x := by
    intro f
    induction f with
    | zero => intro x h0 h1; rw [Nat.pow_zero] at h1; omega
    | succ f ih =>
      intro x h0 h1
      rw [Lib.bitLenAux, if_neg (by omega)]
      by_cases hx : x / 2 = 0
      · have : x = 1 := by omega
        subst this
        have e : Lib.bitLenAux f (1 / 2) = 0 := by cases f <;> simp [Lib.bitLenAux]
        rw [e]
        exact ⟨by decide, by omega, by decide, by decide⟩
      · obtain ⟨a, b, c, d⟩ := ih (x / 2) (by omega) (by rw [Nat.pow_succ] at h1; omega)
        generalize Lib.bitLenAux f (x / 2) = L at *
        refine ⟨by omega, by omega, ?_, ?_⟩
        · have e : 1 + L - 1 = (L - 1) + 1 := by omega
          rw [e, Nat.pow_succ]; omega
        · rw [Nat.add_comm, Nat.pow_succ]; omega
  exact key 64 y h0 hy
theorem divN_of {hi lo y : Nat} (h0 : 0 < hi) (hhi : hi < y) (hlo : lo < 18446744073709551616) (hyy : y < 18446744073709551616) : ∃ s t Y U V y1 y0 v1 v0, s = 64 - Lib.bitLen y ∧ Lib.bitLen y ≤ 64 ∧ DivN hi lo y s t Y U V y1 y0 v1 v0 := by
  obtain ⟨b0, b1, b2, b3⟩ := bitLen_spec (y := y) (by omega) hyy
  obtain ⟨s, hs⟩ : ∃ s, s = 64 - Lib.bitLen y := ⟨_, rfl⟩
  obtain ⟨t, ht⟩ : ∃ t, t = 64 - s := ⟨_, rfl⟩
  have hLt : Lib.bitLen y = t := by omega
  rw [hLt] at b0 b1 b2 b3 hs
  have p64 : 2 ^ t * 2 ^ s = 18446744073709551616 := by rw [← Nat.pow_add, show t + s = 64 from by omega]
  have p63 : 2 ^ (t - 1) * 2 ^ s = 9223372036854775808 := by rw [← Nat.pow_add, show t - 1 + s = 63 from by omega]
  have ps : 0 < 2 ^ s := Nat.two_pow_pos s
  have pt : 0 < 2 ^ t := Nat.two_pow_pos t
  have hY1 : y * 2 ^ s < 18446744073709551616 := by rw [← p64]; exact Nat.mul_lt_mul_of_pos_right b3 ps
  have hY2 : 9223372036854775808 ≤ y * 2 ^ s := by rw [← p63]; exact Nat.mul_le_mul_right _ b2
  have hlb : lo / 2 ^ t < 2 ^ s := by rw [Nat.div_lt_iff_lt_mul pt, Nat.mul_comm, p64]; exact hlo
  have hU : hi * 2 ^ s + lo / 2 ^ t < y * 2 ^ s := by
    have : (hi + 1) * 2 ^ s ≤ y * 2 ^ s := Nat.mul_le_mul_right _ hhi
    rw [Nat.add_mul] at this
    omega
  have hV : lo * 2 ^ s = lo / 2 ^ t * 18446744073709551616 + lo * 2 ^ s % 18446744073709551616 := by
    have e1 : lo * 2 ^ s / 18446744073709551616 = lo / 2 ^ t := by rw [← p64]; exact Nat.mul_div_mul_right _ _ ps
    have e2 := Nat.div_add_mod (lo * 2 ^ s) 18446744073709551616
    rw [e1] at e2
    omega
  refine ⟨s, t, y * 2 ^ s, hi * 2 ^ s + lo / 2 ^ t, lo * 2 ^ s % 18446744073709551616, _, _, _, _, by omega, by omega, ⟨by omega, by omega, rfl, hY1, ?_, rfl, hU, hlb, rfl, ?_, rfl, rfl, rfl, rfl, ?_⟩⟩
  · omega
  · have e3 : (hi * 18446744073709551616 + lo) * 2 ^ s = hi * 2 ^ s * 18446744073709551616 + lo * 2 ^ s := by rw [Nat.add_mul, Nat.mul_right_comm]
    rw [e3]
    omega
  · omega

theorem start_facts {y1 u : Nat} (hu : u < 18446744073709551616) : ∃ q p r, q = u / y1 ∧ r = u % y1 ∧ IntKind.u64.wrap ((u : Int) / y1) = (q : Int) ∧ IntKind.u64.wrap ((q : Int) * y1) = (p : Int) ∧ IntKind.u64.wrap ((u : Int) - p) = (r : Int) := by
  have e := Nat.div_add_mod u y1
  have e3 : y1 * (u / y1) = u / y1 * y1 := Nat.mul_comm _ _
  have e1 := Nat.div_le_self u y1
  have e2 := Nat.mod_le u y1
  obtain ⟨q, hq⟩ : ∃ q, q = u / y1 := ⟨_, rfl⟩
  obtain ⟨p, hp⟩ : ∃ p, p = q * y1 := ⟨_, rfl⟩
  obtain ⟨r, hr⟩ : ∃ r, r = u % y1 := ⟨_, rfl⟩
  rw [← hq, ← hr] at e
  rw [← hq] at e3 e1
  rw [← hr] at e2
  refine ⟨q, p, r, hq, hr, ?_, ?_, ?_⟩
  · have e5 : (u : Int) / y1 = (q : Int) := by rw [hq]; rfl
    rw [e5]; exact wrapN (by omega)
  · have e6 : (q : Int) * y1 = (p : Int) := by rw [hp]; exact (Int.natCast_mul q y1).symm
    rw [e6]; exact wrapN (by omega)
  · have e7 : (u : Int) - (p : Int) = (r : Int) := by omega
    rw [e7]; exact wrapN (by omega)
/-- What a round reckons. -/
theorem test_facts {q r y0 v : Nat} (hq : q < 4294967296) (hy : y0 < 4294967296) (hr : r < 4294967296) (hv : v < 4294967296) : ∃ P R S : Nat, IntKind.u64.wrap ((q : Int) * y0) = (P : Int) ∧ IntKind.u64.wrap (4294967296 * (r : Int)) = (R : Int) ∧ IntKind.u64.wrap ((R : Int) + v) = (S : Int) ∧ P = q * y0 ∧ S = r * 4294967296 + v := by
  have h1 : q * y0 ≤ 4294967295 * 4294967295 := Nat.mul_le_mul (by omega) (by omega)
  refine ⟨q * y0, 4294967296 * r, r * 4294967296 + v, ?_, ?_, ?_, rfl, rfl⟩
  · have e : (q : Int) * y0 = ((q * y0 : Nat) : Int) := (Int.natCast_mul _ _).symm
    rw [e]; exact wrapN (by omega)
  · exact wrapU (by omega)
  · have e : (((4294967296 * r : Nat) : Int) + v) = ((r * 4294967296 + v : Nat) : Int) := by omega
    rw [e]; exact wrapN (by omega)
theorem less_facts {q r y1 : Nat} (hq0 : 0 < q) (hq : q ≤ 4294967297) (hr : r < 4294967296) (hy : y1 < 4294967296) : ∃ p s : Nat, p = q - 1 ∧ s = r + y1 ∧ IntKind.u64.wrap ((q : Int) - 1) = (p : Int) ∧ IntKind.u64.wrap ((r : Int) + y1) = (s : Int) := by
  refine ⟨q - 1, r + y1, rfl, rfl, ?_, ?_⟩
  · have e : (q : Int) - 1 = ((q - 1 : Nat) : Int) := by omega
    rw [e]; exact wrapN (by omega)
  · have e : (r : Int) + y1 = ((r + y1 : Nat) : Int) := by omega
    rw [e]; exact wrapN (by omega)
theorem rest_facts {u v Q Y R : Nat} (hR : R + Q * Y = u * 4294967296 + v) (hb : R < 18446744073709551616) : ∃ A B C : Nat, IntKind.u64.wrap ((u : Int) * 4294967296) = (A : Int) ∧ IntKind.u64.wrap ((A : Int) + v) = (B : Int) ∧ IntKind.u64.wrap ((Q : Int) * Y) = (C : Int) ∧ IntKind.u64.wrap ((B : Int) - C) = (R : Int) := by
  refine ⟨u * 4294967296 % 18446744073709551616, (u * 4294967296 % 18446744073709551616 + v) % 18446744073709551616, Q * Y % 18446744073709551616, ?_, ?_, ?_, ?_⟩
  · rw [IntKind.wrap_u64]; omega
  · rw [IntKind.wrap_u64]; omega
  · have e : (Q : Int) * Y = ((Q * Y : Nat) : Int) := (Int.natCast_mul _ _).symm
    rw [e, IntKind.wrap_u64]; omega
  · rw [IntKind.wrap_u64]
    generalize Q * Y = P at *
    omega

set_option maxRecDepth 100000 in
set_option maxHeartbeats 8000000 in
theorem div_any (hi lo y : Nat) (h0 : 0 < hi) (hhi : hi < y) (hlo : lo < 18446744073709551616) (hyy : y < 18446744073709551616) (w : World) : Calls Tryd.prog 40 #[.int .u64 hi, .int .u64 lo, .int .u64 y] w (DivQ (hi * 18446744073709551616 + lo) y w) := by
  have hy0 : ((y : Int) == 0) = false := by rw [beq_eq_false_iff_ne]; omega
  have hh0 : ((hi : Int) == 0) = false := by rw [beq_eq_false_iff_ne]; omega
  have hy1 : ¬ ((y : Int) ≤ hi) := by omega
  obtain ⟨s, t, Y, U, V, y1, y0, v1, v0, hs, hbl, hN⟩ := divN_of h0 hhi hlo hyy
  have HD := hide hN
  have HLZ : Hid (Calls Tryd.prog 61 #[.int .u64 y] w fun e w' => e = .returned (.int .i64 (s : Int)) ∧ w' = w) := hide ((shelf_bits_LeadingZeros64 (y : Int) w (by omega) (by omega)).mono (by
    rintro _ _ ⟨rfl, rfl⟩
    refine ⟨?_, rfl⟩
    have e : (64 - (Lib.bitLen (y : Int).toNat : Int)) = (s : Int) := by rw [Int.toNat_natCast]; omega
    rw [e]))
  have hY : 0 < y := by omega
  have HY := hide hY
  have fs : IntKind.u64.wrap (s : Int) = (s : Int) := wrapN (by have := hN.s64; omega)
  have ft : IntKind.u64.wrap (64 - (s : Int)) = (t : Int) := by
    have e : (64 - (s : Int)) = ((t : Nat) : Int) := by have := hN.st; omega
    rw [e]; exact wrapN (by have := hN.st; omega)
  have fm : min s 64 = s := by have := hN.s64; omega
  have fmt : min t 64 = t := by have := hN.st; omega
  have fY : IntKind.u64.wrap ((y : Int) * 2 ^ s) = (Y : Int) := shlN hN.yy.symm hN.yb
  have fy1 : (Y : Int) / 4294967296 = (y1 : Int) := by rw [hN.y1e]; rfl
  have fy0 : bits .and .u64 (Y : Int) 4294967295 = (y0 : Int) := by rw [hN.y0e]; exact maskN Y hN.yb
  have fB : (lo : Int) / 2 ^ t = ((lo / 2 ^ t : Nat) : Int) := shrN lo t
  obtain ⟨B, hB⟩ : ∃ B, B = lo / 2 ^ t := ⟨_, rfl⟩
  rw [← hB] at fB
  have fH : IntKind.u64.wrap ((hi : Int) * 2 ^ s) = ((hi * 2 ^ s : Nat) : Int) := shlN rfl hN.hh
  obtain ⟨H, hH⟩ : ∃ H, H = hi * 2 ^ s := ⟨_, rfl⟩
  rw [← hH] at fH
  have fU : bits .or .u64 (H : Int) (B : Int) = (U : Int) := by
    rw [hN.uu, hH, hB]
    exact orN hi _ s hN.lb (by have := hN.uu; have := hN.ub; have := hN.yb; omega)
  have fV : IntKind.u64.wrap ((lo : Int) * 2 ^ s) = (V : Int) := by rw [hN.vv]; exact shlM lo s
  have fv1 : (V : Int) / 4294967296 = (v1 : Int) := by rw [hN.v1e]; rfl
  have fv0 : bits .and .u64 (V : Int) 4294967295 = (v0 : Int) := by rw [hN.v0e]; exact maskN V (by rw [hN.vv]; omega)
  have fy1z : ((y1 : Int) == 0) = false := by rw [beq_eq_false_iff_ne]; have := hN.big; omega
  have fy1n : ¬ y1 = 0 := by have := hN.big; omega
  have hUb : U < 18446744073709551616 := by have := hN.ub; have := hN.yb; omega
  have hbg := hN.big
  have hy0b : y0 < 4294967296 := by rw [hN.y0e]; omega
  have hv1b : v1 < 4294967296 := by rw [hN.v1e, hN.vv]; omega
  have hv0b : v0 < 4294967296 := by rw [hN.v0e]; omega
  have hYe : Y = y1 * 4294967296 + y0 := by rw [hN.y1e, hN.y0e]; omega
  have hUY : U < y1 * 4294967296 + y0 := by have := hN.ub; omega
  have HB := hide (show 2147483648 ≤ y1 ∧ y0 < 4294967296 ∧ v1 < 4294967296 ∧ v0 < 4294967296 ∧ Y = y1 * 4294967296 + y0 ∧ y1 < 4294967296 ∧ U < y1 * 4294967296 + y0 from ⟨hbg, hy0b, hv1b, hv0b, hYe, by rw [hN.y1e]; have := hN.yb; omega, hUY⟩)
  obtain ⟨q, p, r, hq, hr, fq, fp, fr⟩ := start_facts (y1 := y1) hUb
  have HD0 : Hid (DigI y1 y0 U v1 q r ∧ r < 4294967296) := hide (by
    rw [hq, hr]
    exact ⟨dig_start hbg hy0b hUY hv1b, by have := Nat.mod_lt U (show 0 < y1 by omega); have := HB.out.2.2.2.2.2.1; omega⟩)
  obtain ⟨Q1, hQ1⟩ : ∃ Q1, Q1 = (U * 4294967296 + v1) / (y1 * 4294967296 + y0) := ⟨_, rfl⟩
  have HQ1 := hide hQ1
  clear hN hs hbl hY hy1 hH hB hq hr hbg hy0b hv1b hv0b hYe hUY hQ1
  go_enter Tryd.func40, Tryd.ntmps40
  go_wp2_with fail
  refine (HLZ.out).mono ?_
  rintro _ _ ⟨rfl, rfl⟩
  go_upto_block 0 with fail
  rename World => w
  clear fs ft fm fmt fY fy1 fy0 fB fH fU fV fv1 fv0 fq fp fr hy0 hh0 HLZ
  have HH := hide (show 0 < hi ∧ hi < y ∧ lo < 18446744073709551616 ∧ y < 18446744073709551616 ∧ U < 18446744073709551616 from ⟨h0, hhi, hlo, hyy, hUb⟩)
  clear h0 hhi hlo hyy hUb
  go_cut [15, 16] from 67 to 85 (fun z _ wx => z = .int .u64 (Q1 : Int) ∧ w = wx)
  case first =>
    go_wp2_with fail
    go_loop [15, 16] (fun qv rv => ∃ q r : Nat, qv = .int .u64 q ∧ rv = .int .u64 r ∧ DigI y1 y0 U v1 q r ∧ r < 4294967296) (fun qv _ => (intOf qv).toNat)
    case atStart => exact ⟨_, _, rfl, rfl, HD0.out⟩
    case round =>
      clear HD0
      obtain ⟨q, r, rfl, rfl, hd, hr⟩ := hrel
      have HDI := hide hd
      have HR := hide hr
      have hq1 := hd.le
      have HQL := hide hq1
      clear hd
      obtain ⟨b1, b2, b3, b4, b5, b6, b7⟩ := HB.out
      by_cases hge : 4294967296 ≤ q
      · obtain ⟨hq0, hdn, hle⟩ := HDI.out.next b1 b2 b7 b3 (.inl hge)
        obtain ⟨p, s', hp, hs', f1, f2⟩ := less_facts hq0 hq1 hr b6
        rw [← hp, ← hs'] at hdn
        rw [← hp] at hle
        have HX := hide (⟨hdn, hle⟩ : DigI y1 y0 U v1 p s' ∧ p ≤ 4294967296)
        have HP := hide (show p < q by omega)
        have hgeI : (4294967296 : Int) ≤ q := by omega
        clear hq0 hdn hle hp hs' hr hq1 b1 b2 b3 b4 b5 b6 b7 hge
        by_cases hs2 : 4294967296 ≤ s'
        · have HO := hide ((HX.out.1.out HB.out.1 HB.out.2.1 HX.out.2 hs2).trans HQ1.out.symm)
          have hs4 : (4294967296 : Int) ≤ s' := by omega
          clear hs2
          go_wp2_with fail
          go_meet
          exact ⟨by rw [HO.out], rfl⟩
        · have hs3 : s' < 4294967296 := by omega
          have HS3 := hide hs3
          have hs4 : ¬ (4294967296 : Int) ≤ s' := by omega
          clear hs2 hs3
          go_wp2_with fail
          go_roundw
          case rel => exact ⟨p, s', rfl, rfl, HX.out.1, HS3.out⟩
          case measure => have := HP.out; simp [intOf]; omega
      · have hlt : q < 4294967296 := by omega
        obtain ⟨P, R, S, g1, g2, g3, hP, hS⟩ := test_facts hlt b2 hr b3
        by_cases hgt : S < P
        · obtain ⟨hq0, hdn, hle⟩ := HDI.out.next b1 b2 b7 b3 (.inr (by rw [← hP, ← hS]; exact hgt))
          obtain ⟨p, s', hp, hs', f1, f2⟩ := less_facts hq0 hq1 hr b6
          rw [← hp, ← hs'] at hdn
          rw [← hp] at hle
          have HX := hide (⟨hdn, hle⟩ : DigI y1 y0 U v1 p s' ∧ p ≤ 4294967296)
          have HP := hide (show p < q by omega)
          have hltI : ¬ (4294967296 : Int) ≤ q := by omega
          clear hq0 hdn hle hp hs' hr hq1 b1 b2 b3 b4 b5 b6 b7 hP hS hge hlt
          by_cases hs2 : 4294967296 ≤ s'
          · have HO := hide ((HX.out.1.out HB.out.1 HB.out.2.1 HX.out.2 hs2).trans HQ1.out.symm)
            have hs4 : (4294967296 : Int) ≤ s' := by omega
            clear hs2
            go_wp2_with fail
            go_meet
            exact ⟨by rw [HO.out], rfl⟩
          · have hs3 : s' < 4294967296 := by omega
            have HS3 := hide hs3
            have hs4 : ¬ (4294967296 : Int) ≤ s' := by omega
            clear hs2 hs3
            go_wp2_with fail
            go_roundw
            case rel => exact ⟨p, s', rfl, rfl, HX.out.1, HS3.out⟩
            case measure => have := HP.out; simp [intOf]; omega
        · have HO := hide ((HDI.out.done b1 (by rw [← hP, ← hS]; omega)).trans HQ1.out.symm)
          have hgtI : (P : Int) ≤ S := by omega
          have hgtN : P ≤ S := by omega
          have hltI : ¬ (4294967296 : Int) ≤ q := by omega
          clear hr hq1 b1 b2 b3 b4 b5 b6 b7 hP hS hge hlt hgt
          go_wp2_with fail
          go_meet
          exact ⟨by rw [HO.out], rfl⟩
  case rest =>
    obtain ⟨rfl, rfl⟩ := hcut
    clear HD0
    obtain ⟨b1, b2, b3, b4, b5, b6, b7⟩ := HB.out
    obtain ⟨R1, hR1⟩ : ∃ R1, R1 = (U * 4294967296 + v1) % (y1 * 4294967296 + y0) := ⟨_, rfl⟩
    have hdr := dig_rest (u := U) (v := v1) (y0 := y0) b1 HQ1.out
    have hR1b : R1 < y1 * 4294967296 + y0 := by rw [hR1]; exact Nat.mod_lt _ (by omega)
    have hYb := HD.out.yb
    have hR1c : R1 < 18446744073709551616 := by omega
    obtain ⟨A, B2, C, k1, k2, k3, k4⟩ := rest_facts (u := U) (v := v1) (Q := Q1) (Y := Y) (R := R1) (by rw [b5, hR1, ← hdr.2]; exact Nat.sub_add_cancel hdr.1) hR1c
    obtain ⟨q, p, r, hq, hr, fq, fp, fr⟩ := start_facts (y1 := y1) hR1c
    have HD0 : Hid (DigI y1 y0 R1 v0 q r ∧ r < 4294967296) := hide (by
      rw [hq, hr]
      exact ⟨dig_start b1 b2 hR1b b4, by have := Nat.mod_lt R1 (show 0 < y1 by omega); omega⟩)
    obtain ⟨Q0, hQ0⟩ : ∃ Q0, Q0 = (R1 * 4294967296 + v0) / (y1 * 4294967296 + y0) := ⟨_, rfl⟩
    have HQ0 := hide hQ0
    have HR1 := hide (show R1 = (U * 4294967296 + v1) % (y1 * 4294967296 + y0) ∧ R1 < y1 * 4294967296 + y0 from ⟨hR1, hR1b⟩)
    clear b1 b2 b3 b4 b5 b6 b7 hR1 hdr hR1b hYb hR1c hq hr hQ0
    go_upto_block 2 with fail
    clear k1 k2 k3 k4 fq fp fr
    go_cut [18, 16] from 102 to 120 (fun z _ wx => z = .int .u64 (Q0 : Int) ∧ w = wx)
    case first =>
      go_wp2_with fail
      go_loop [18, 16] (fun qv rv => ∃ q r : Nat, qv = .int .u64 q ∧ rv = .int .u64 r ∧ DigI y1 y0 R1 v0 q r ∧ r < 4294967296) (fun qv _ => (intOf qv).toNat)
      case atStart => exact ⟨_, _, rfl, rfl, HD0.out⟩
      case round =>
        clear HD0
        obtain ⟨q, r, rfl, rfl, hd, hr⟩ := hrel
        have HDI := hide hd
        have HR := hide hr
        have hq1 := hd.le
        have HQL := hide hq1
        clear hd
        obtain ⟨b1, b2, b3, b4, b5, b6, b7⟩ := HB.out
        by_cases hge : 4294967296 ≤ q
        · obtain ⟨hq0, hdn, hle⟩ := HDI.out.next b1 b2 HR1.out.2 b4 (.inl hge)
          obtain ⟨p, s', hp, hs', f1, f2⟩ := less_facts hq0 hq1 hr b6
          rw [← hp, ← hs'] at hdn
          rw [← hp] at hle
          have HX := hide (⟨hdn, hle⟩ : DigI y1 y0 R1 v0 p s' ∧ p ≤ 4294967296)
          have HP := hide (show p < q by omega)
          have hgeI : (4294967296 : Int) ≤ q := by omega
          clear hq0 hdn hle hp hs' hr hq1 b1 b2 b3 b4 b5 b6 b7 hge
          by_cases hs2 : 4294967296 ≤ s'
          · have HO := hide ((HX.out.1.out HB.out.1 HB.out.2.1 HX.out.2 hs2).trans HQ0.out.symm)
            have hs4 : (4294967296 : Int) ≤ s' := by omega
            clear hs2
            go_wp2_with fail
            go_meet
            exact ⟨by rw [HO.out], rfl⟩
          · have hs3 : s' < 4294967296 := by omega
            have HS3 := hide hs3
            have hs4 : ¬ (4294967296 : Int) ≤ s' := by omega
            clear hs2 hs3
            go_wp2_with fail
            go_roundw
            case rel => exact ⟨p, s', rfl, rfl, HX.out.1, HS3.out⟩
            case measure => have := HP.out; simp [intOf]; omega
        · have hlt : q < 4294967296 := by omega
          obtain ⟨P, R, S, g1, g2, g3, hP, hS⟩ := test_facts hlt b2 hr b4
          by_cases hgt : S < P
          · obtain ⟨hq0, hdn, hle⟩ := HDI.out.next b1 b2 HR1.out.2 b4 (.inr (by rw [← hP, ← hS]; exact hgt))
            obtain ⟨p, s', hp, hs', f1, f2⟩ := less_facts hq0 hq1 hr b6
            rw [← hp, ← hs'] at hdn
            rw [← hp] at hle
            have HX := hide (⟨hdn, hle⟩ : DigI y1 y0 R1 v0 p s' ∧ p ≤ 4294967296)
            have HP := hide (show p < q by omega)
            have hltI : ¬ (4294967296 : Int) ≤ q := by omega
            clear hq0 hdn hle hp hs' hr hq1 b1 b2 b3 b4 b5 b6 b7 hP hS hge hlt
            by_cases hs2 : 4294967296 ≤ s'
            · have HO := hide ((HX.out.1.out HB.out.1 HB.out.2.1 HX.out.2 hs2).trans HQ0.out.symm)
              have hs4 : (4294967296 : Int) ≤ s' := by omega
              clear hs2
              go_wp2_with fail
              go_meet
              exact ⟨by rw [HO.out], rfl⟩
            · have hs3 : s' < 4294967296 := by omega
              have HS3 := hide hs3
              have hs4 : ¬ (4294967296 : Int) ≤ s' := by omega
              clear hs2 hs3
              go_wp2_with fail
              go_roundw
              case rel => exact ⟨p, s', rfl, rfl, HX.out.1, HS3.out⟩
              case measure => have := HP.out; simp [intOf]; omega
          · have HO := hide ((HDI.out.done b1 (by rw [← hP, ← hS]; omega)).trans HQ0.out.symm)
            have hgtI : (P : Int) ≤ S := by omega
            have hgtN : P ≤ S := by omega
            have hltI : ¬ (4294967296 : Int) ≤ q := by omega
            clear hr hq1 b1 b2 b3 b4 b5 b6 b7 hP hS hge hlt hgt
            go_wp2_with fail
            go_meet
            exact ⟨by rw [HO.out], rfl⟩
    case rest =>
      obtain ⟨rfl, rfl⟩ := hcut
      clear HD0
      obtain ⟨b1, b2, b3, b4, b5, b6, b7⟩ := HB.out
      obtain ⟨R0, hR0⟩ : ∃ R0, R0 = (R1 * 4294967296 + v0) % (y1 * 4294967296 + y0) := ⟨_, rfl⟩
      have hdr := dig_rest (u := R1) (v := v0) (y0 := y0) b1 HQ0.out
      have hYb := HD.out.yb
      have hR0b : R0 < 18446744073709551616 := by have : R0 < y1 * 4294967296 + y0 := (by rw [hR0]; exact Nat.mod_lt _ (by omega)); omega
      obtain ⟨A, B2, C, k1, k2, k3, k4⟩ := rest_facts (u := R1) (v := v0) (Q := Q0) (Y := Y) (R := R0) (by rw [b5, hR0, ← hdr.2]; exact Nat.sub_add_cancel hdr.1) hR0b
      have hQ1b : Q1 < 4294967296 := by rw [HQ1.out]; exact dig_lt b1 b2 b7 b3
      have hQ0b : Q0 < 4294967296 := by rw [HQ0.out]; exact dig_lt b1 b2 HR1.out.2 b4
      have m1 : IntKind.u64.wrap ((Q1 : Int) * 4294967296) = ((Q1 * 4294967296 : Nat) : Int) := wrapU (by omega)
      obtain ⟨D, hD⟩ : ∃ D, D = Q1 * 4294967296 := ⟨_, rfl⟩
      rw [← hD] at m1
      have hV : V = v1 * 4294967296 + v0 := by rw [HD.out.v1e, HD.out.v0e]; omega
      have h2 := two_digits (u := U) (v1 := v1) (v0 := v0) (y := y1 * 4294967296 + y0) (by omega)
      rw [← HQ1.out, ← HR1.out.1, ← HQ0.out, ← hR0, ← hV, ← b5, ← HD.out.tot, HD.out.yy] at h2
      have h3 := scaled (X := hi * 18446744073709551616 + lo) (y := y) s
      rw [h3.1] at h2
      obtain ⟨q9, hq9⟩ : ∃ q9, q9 = (hi * 18446744073709551616 + lo) / y := ⟨_, rfl⟩
      obtain ⟨r9, hr9⟩ : ∃ r9, r9 = (hi * 18446744073709551616 + lo) % y := ⟨_, rfl⟩
      rw [← h2.2, ← hr9] at h3
      rw [← hq9] at h2
      have m2 : IntKind.u64.wrap ((D : Int) + Q0) = (q9 : Int) := by
        have e : (D : Int) + Q0 = (q9 : Int) := by have := h2.1; omega
        rw [e]; exact wrapN (by have := h2.1; omega)
      have m3 : (R0 : Int) / 2 ^ s = (r9 : Int) := by rw [shrN, h3.2]
      have m4 : min s 64 = s := by have := HD.out.s64; omega
      have HE : Hid (q9 = (hi * 18446744073709551616 + lo) / y ∧ r9 = (hi * 18446744073709551616 + lo) % y) := hide ⟨hq9, hr9⟩
      clear b1 b2 b3 b4 b5 b6 b7 hR0 hdr hYb hR0b hQ1b hQ0b hD hV h2 h3 hq9 hr9
      go_wp2_with fail
      go_ret2
      refine ⟨?_, Below.refl _ _⟩
      rw [← HE.out.1, ← HE.out.2]
      rfl
end Go.Proofs.YtgjeihgkcmheeaaDoor
