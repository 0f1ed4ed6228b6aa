/- The library's stable sort: the walk of its rotation. -/
import Derived.Test.YtgjeihgkcmheeaaDoorStabW
namespace Go.Proofs.YtgjeihgkcmheeaaDoor
open Go.Shelf Go.RowKit Go.Lib Go.Sort Go.Proofs

set_option maxHeartbeats 16000000 in
set_option maxRecDepth 1000000 in
theorem rotate_any (g : Nat) (cb : Array Value) (blk off cap a m b : Nat) (d0 d : Array Int) (w0 w : World)
    (R : Row1 (Value.int .i64) w0 blk off d0) (hs : d0.size = d.size) (S : SW (Value.int .i64) w0 blk off d w) (ham : a < m) (hmb : m < b) (hb : b ≤ d.size) (hsz : d.size < 4611686018427387904) :
    Calls Tryd.prog 91 #[.slice (some ⟨blk, off, none⟩) d.size cap, .int .i64 a, .int .i64 m, .int .i64 b, .func (.func g) #[] cb] w fun e w' => e = .returned (.tuple #[]) ∧ ∃ d', SW (Value.int .i64) w0 blk off d' w' ∧ d'.size = d.size ∧ (∀ x, d'[x]! = rotv d a m b x) ∧ PermIn a b d d' := by
  have S0 : Aside (SW (Value.int .i64) w0 blk off d w) := S
  have hw1 : IntKind.i64.wrap ((m : Int) - (a : Int)) = (m : Int) - (a : Int) := by rw [IntKind.wrap_i64]; omega
  have hw2 : IntKind.i64.wrap ((b : Int) - (m : Int)) = (b : Int) - (m : Int) := by rw [IntKind.wrap_i64]; omega
  clear S
  go_enter Tryd.func91, Tryd.ntmps91
  go_wp2
  clear hw1 hw2
  go_loopg [10, 11] (b - a) (fun g1 vi vj wr => ∃ (i j : Nat) (dk : Array Int), vi = .int .i64 i ∧ vj = .int .i64 j ∧ 1 ≤ i ∧ 1 ≤ j ∧ i + a ≤ m ∧ m + j ≤ b ∧ i + j ≤ g1 ∧ dk.size = d.size ∧ Aside (SW (Value.int .i64) w0 blk off dk wr) ∧ Hid (∀ x, rotv dk (m - i) m (m + j) x = rotv d a m b x) ∧ Hid (PermIn a b d dk))
  case atStart => exact ⟨m - a, b - m, d, by first | go_num | (congr 1; omega), by first | go_num | (congr 1; omega), by omega, by omega, by omega, by omega, by omega, rfl, S0, hide (fun x => by rw [show m - (m - a) = a by omega, show m + (b - m) = b by omega]), hide (permIn_refl d a b)⟩
  case round =>
    clear S0
    obtain ⟨i, j, dk, rfl, rfl, hi1, hj1, him, hjb, hg1, hsk, S1, HV, HP⟩ := hrel
    have hw3 : IntKind.i64.wrap ((m : Int) - (i : Int)) = (m : Int) - (i : Int) := by rw [IntKind.wrap_i64]; omega
    rcases Nat.lt_trichotomy i j with hij | hij | hij
    · have hne : ((i : Int) != (j : Int)) = true := by simp; omega
      have hgt : decide ((i : Int) > (j : Int)) = false := by simp; omega
      have hgt2 : ¬ (j : Int) < (i : Int) := by omega
      have hw4 : IntKind.i64.wrap ((m : Int) + (j : Int)) = (m : Int) + (j : Int) := by rw [IntKind.wrap_i64]; omega
      have hw5 : IntKind.i64.wrap ((m : Int) + (j : Int) - (i : Int)) = (m : Int) + (j : Int) - (i : Int) := by rw [IntKind.wrap_i64]; omega
      have hw6 : IntKind.i64.wrap ((j : Int) - (i : Int)) = (j : Int) - (i : Int) := by rw [IntKind.wrap_i64]; omega
      have HC := hide (swapRange_any g cb blk off cap (m - i) (m + j - i) i d0 dk w0 wr R (by omega) S1.out (by omega) (by omega) (by omega))
      rw [hsk, show ((m - i : Nat) : Int) = (m : Int) - (i : Int) by omega, show ((m + j - i : Nat) : Int) = (m : Int) + (j : Int) - (i : Int) by omega] at HC
      clear S1
      go_wp2_with fail
      refine (HC.out).mono ?_
      rintro e w2 ⟨rfl, d2, S2, hs2, hv2, hp2⟩
      have S3 : Aside (SW (Value.int .i64) w0 blk off d2 w2) := S2
      have HV2 : Hid (∀ x, rotv d2 (m - i) m (m + (j - i)) x = rotv d a m b x) := hide (fun x => (rot_right (by omega) hij hv2 x).trans (HV.out x))
      have HP2 : Hid (PermIn a b d d2) := hide (permIn_trans _ _ _ a b HP.out (permIn_mono _ _ _ _ a b (by omega) (by omega) (by omega) hp2))
      clear S2 hv2 hp2 HC HV HP
      go_wp2_with fail
      go_roundg (i + (j - i))
      case measure => omega
      case rel => exact ⟨i, j - i, d2, rfl, by first | go_num | (congr 1; omega), by omega, by omega, by omega, by omega, by omega, hs2, S3, HV2, HP2⟩
    · subst hij
      have hne : ((i : Int) != (i : Int)) = false := by simp
      have HC := hide (swapRange_any g cb blk off cap (m - i) m i d0 dk w0 wr R (by omega) S1.out (by omega) (by omega) (by omega))
      rw [hsk, show ((m - i : Nat) : Int) = (m : Int) - (i : Int) by omega] at HC
      clear S1
      go_wp2_with fail
      refine (HC.out).mono ?_
      rintro e w2 ⟨rfl, d2, S2, hs2, hv2, hp2⟩
      have S3 : Aside (SW (Value.int .i64) w0 blk off d2 w2) := S2
      have HV2 : Hid (∀ x, d2[x]! = rotv d a m b x) := hide (fun x => (rot_end (by omega) hv2 x).trans (HV.out x))
      have HP2 : Hid (PermIn a b d d2) := hide (permIn_trans _ _ _ a b HP.out (permIn_mono _ _ _ _ a b (by omega) (by omega) (by omega) hp2))
      clear S2 hv2 hp2 HC HV HP
      go_wp2_with fail
      go_end0
      exact ⟨rfl, d2, S3.out, hs2, HV2.out, HP2.out⟩
    · have hne : ((i : Int) != (j : Int)) = true := by simp; omega
      have hgt : decide ((i : Int) > (j : Int)) = true := by simp; omega
      have hgt2 : (j : Int) < (i : Int) := by omega
      have hw6 : IntKind.i64.wrap ((i : Int) - (j : Int)) = (i : Int) - (j : Int) := by rw [IntKind.wrap_i64]; omega
      have HC := hide (swapRange_any g cb blk off cap (m - i) m j d0 dk w0 wr R (by omega) S1.out (by omega) (by omega) (by omega))
      rw [hsk, show ((m - i : Nat) : Int) = (m : Int) - (i : Int) by omega] at HC
      clear S1
      go_wp2_with fail
      refine (HC.out).mono ?_
      rintro e w2 ⟨rfl, d2, S2, hs2, hv2, hp2⟩
      have S3 : Aside (SW (Value.int .i64) w0 blk off d2 w2) := S2
      have HV2 : Hid (∀ x, rotv d2 (m - (i - j)) m (m + j) x = rotv d a m b x) := hide (fun x => by
        rw [show m - (i - j) = m - i + j by omega]
        exact (rot_left (by omega) hij hv2 x).trans (HV.out x))
      have HP2 : Hid (PermIn a b d d2) := hide (permIn_trans _ _ _ a b HP.out (permIn_mono _ _ _ _ a b (by omega) (by omega) (by omega) hp2))
      clear S2 hv2 hp2 HC HV HP
      go_wp2_with fail
      go_roundg (i - j + j)
      case measure => omega
      case rel => exact ⟨i - j, j, d2, by first | go_num | (congr 1; omega), rfl, by omega, by omega, by omega, by omega, by omega, hs2, S3, HV2, HP2⟩
end Go.Proofs.YtgjeihgkcmheeaaDoor
