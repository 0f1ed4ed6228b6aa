/- The walks of goods.All, goods.Within, offers.Check, offers.Instance: what they compute. -/
import Derived.Test.YtffpiaipdeebcaaDoorRows
import Derived.Test.YtffpiaipdeebcaaDoorOff
import Derived.Outline
import Derived.BigQuiet
import Derived.Deep.RegionLaw
import Derived.Deep.RegionHeld3
namespace Go.Proofs.YtffpiaipdeebcaaDoor
open Go.RowKit

def BoolPost (b : Bool) (w : World) (e : Ending) (w' : World) : Prop := e = .returned (.bool b) ∧ w = w'
def IntPost (n : Int) (w : World) (e : Ending) (w' : World) : Prop := e = .returned (.int .i64 n) ∧ Below w.heap.size w w'
def ValPost (v : Value) (w : World) (e : Ending) (w' : World) : Prop := e = .returned v ∧ Below w.heap.size w w'
def SamePost (v : Value) (w : World) (e : Ending) (w' : World) : Prop := e = .returned v ∧ w = w'

theorem u32_beq (a : Nat) : ((a : Int) == 0) = (a == 0) := by
  rw [Bool.eq_iff_iff]; simp
set_option maxHeartbeats 400000 in
theorem within_any (a b : Nat) (ha : a < 4294967296) (hb : b < 4294967296) (w : World) : Calls Tryd.prog 18 #[.int .u32 (a : Int), .int .u32 (b : Int)] w (BoolPost (withinB a b) w) := by
  have hx := andNot_lessG a b ha hb
  have hw : withinB a b = ((lessG a b : Int) == 0) := (u32_beq _).symm
  rw [hw]
  generalize (lessG a b : Int) = c at *
  go_enter Tryd.func18, Tryd.ntmps18
  go_wp2
  go_ret
  exact ⟨rfl, rfl⟩

def allI (n : Int) : Nat := if n < 0 ∨ 32 < n then 0 else allG n.toNat
def allE (n : Int) : Int := if n < 0 ∨ 32 < n then 2 else 0
def AllPost (n : Int) (w : World) (e : Ending) (w' : World) : Prop := e = .returned (.tuple #[.int .u32 (allI n : Int), .int .i64 (allE n)]) ∧ w = w'
set_option maxHeartbeats 1000000 in
theorem all_any (n : Int) (w : World) : Calls Tryd.prog 11 #[.int .i64 n] w (AllPost n w) := by
  by_cases h0 : n < 0
  · have e1 : allI n = 0 := by unfold allI; rw [if_pos (.inl h0)]
    have e2 : allE n = 2 := by unfold allE; rw [if_pos (.inl h0)]
    unfold AllPost
    rw [e1, e2]
    go_enter Tryd.func11, Tryd.ntmps11
    go_wp2
    go_ret2
    exact ⟨rfl, rfl⟩
  · by_cases h1 : 32 < n
    · have e1 : allI n = 0 := by unfold allI; rw [if_pos (.inr h1)]
      have e2 : allE n = 2 := by unfold allE; rw [if_pos (.inr h1)]
      unfold AllPost
      rw [e1, e2]
      go_enter Tryd.func11, Tryd.ntmps11
      go_wp2
      go_ret2
      exact ⟨rfl, rfl⟩
    · have e1 : allI n = allG n.toNat := by unfold allI; rw [if_neg (by omega)]
      have e2 : allE n = 0 := by unfold allE; rw [if_neg (by omega)]
      have h2 : 0 ≤ n := by omega
      have h3 : n ≤ 32 := by omega
      have hq : ∃ q : Nat, 2 ^ n.toNat = q ∧ 1 ≤ q ∧ q ≤ 4294967296 := ⟨_, rfl, Nat.one_le_two_pow, by
        have := Nat.pow_le_pow_right (n := 2) (by omega) (show n.toNat ≤ 32 by omega)
        have h4 : 2 ^ 32 = 4294967296 := rfl
        omega⟩
      obtain ⟨q, hq, hq1, hq2⟩ := hq
      have e3 : allG n.toNat = q - 1 := by unfold allG; rw [hq]
      have hz : ((2 : Int) ^ n.toNat) = (q : Int) := by rw [← hq]; simp
      have h5 : ((q - 1 : Nat) : Int) = (q : Int) - 1 := by omega
      unfold AllPost
      rw [e1, e2, e3, h5]
      have HZ := hide hz
      clear h0 h1 hq e1 e2 e3 h5 hz
      have hq3 : (1 : Int) ≤ q := by omega
      have hq4 : (q : Int) ≤ 4294967296 := by omega
      clear hq1 hq2
      generalize (q : Int) = z at *
      go_enter Tryd.func11, Tryd.ntmps11
      go_wp2
      go_ret2
      refine ⟨?_, rfl⟩
      have e5 : IntKind.u64.wrap (IntKind.u64.wrap ((2 : Int) ^ n.toNat) - 1) % 4294967296 = z - 1 := by
        rw [HZ.out]
        simp [IntKind.wrap, IntKind.bits, IntKind.signed]
        omega
      show Ending.returned (.tuple #[.int .u32 (IntKind.u64.wrap (IntKind.u64.wrap ((2 : Int) ^ n.toNat) - 1) % 4294967296), .int .i64 0]) = _
      rw [e5]

def BLens (ls : List (List Offer)) : Prop := ∀ l ∈ ls, l.length ≤ 1000000
end Go.Proofs.YtffpiaipdeebcaaDoor
