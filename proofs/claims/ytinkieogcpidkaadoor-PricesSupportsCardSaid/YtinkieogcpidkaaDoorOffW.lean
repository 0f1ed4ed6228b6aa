/- The walks of goods.All, goods.Within, offers.Check, offers.Instance: what they compute. -/
import Derived.Test.YtinkieogcpidkaaDoorRows
import Derived.Test.YtinkieogcpidkaaDoorOff
import Derived.Outline
import Derived.BigQuiet
import Derived.Deep.RegionLaw
import Derived.Deep.RegionHeld3
namespace Go.Proofs.YtinkieogcpidkaaDoor
open Go.RowKit

def BoolPost (b : Bool) (w : World) (e : Ending) (w' : World) : Prop := e = .returned (.bool b) ∧ w = w'
def IntPost (n : Int) (w : World) (e : Ending) (w' : World) : Prop := e = .returned (.int .i64 n) ∧ Below w.heap.size w w'
def ValPost (v : Value) (w : World) (e : Ending) (w' : World) : Prop := e = .returned v ∧ Below w.heap.size w w'
def SamePost (v : Value) (w : World) (e : Ending) (w' : World) : Prop := e = .returned v ∧ w = w'

theorem u32_beq (a : Nat) : ((a : Int) == 0) = (a == 0) := by
  rw [Bool.eq_iff_iff]; simp
set_option maxHeartbeats 400000 in
theorem within_any (a b : Nat) (ha : a < 4294967296) (hb : b < 4294967296) (w : World) : Calls Tryd.prog 36 #[.int .u32 (a : Int), .int .u32 (b : Int)] w (BoolPost (withinB a b) w) := by
  have hx := andNot_lessG a b ha hb
  have hw : withinB a b = ((lessG a b : Int) == 0) := (u32_beq _).symm
  rw [hw]
  generalize (lessG a b : Int) = c at *
  go_enter Tryd.func36, Tryd.ntmps36
  go_wp2
  go_ret
  exact ⟨rfl, rfl⟩

def allI (n : Int) : Nat := if n < 0 ∨ 32 < n then 0 else allG n.toNat
def allE (n : Int) : Int := if n < 0 ∨ 32 < n then 2 else 0
def AllPost (n : Int) (w : World) (e : Ending) (w' : World) : Prop := e = .returned (.tuple #[.int .u32 (allI n : Int), .int .i64 (allE n)]) ∧ w = w'
set_option maxHeartbeats 1000000 in
theorem all_any (n : Int) (w : World) : Calls Tryd.prog 32 #[.int .i64 n] w (AllPost n w) := by
  by_cases h0 : n < 0
  · have e1 : allI n = 0 := by unfold allI; rw [if_pos (.inl h0)]
    have e2 : allE n = 2 := by unfold allE; rw [if_pos (.inl h0)]
    unfold AllPost
    rw [e1, e2]
    go_enter Tryd.func32, Tryd.ntmps32
    go_wp2
    go_ret2
    exact ⟨rfl, rfl⟩
  · by_cases h1 : 32 < n
    · have e1 : allI n = 0 := by unfold allI; rw [if_pos (.inr h1)]
      have e2 : allE n = 2 := by unfold allE; rw [if_pos (.inr h1)]
      unfold AllPost
      rw [e1, e2]
      go_enter Tryd.func32, Tryd.ntmps32
      go_wp2
      go_ret2
      exact ⟨rfl, rfl⟩
    · have e1 : allI n = allG n.toNat := by unfold allI; rw [if_neg (by omega)]
      have e2 : allE n = 0 := by unfold allE; rw [if_neg (by omega)]
      have h2 : 0 ≤ n := by omega
      have h3 : n ≤ 32 := by omega
      have hq : ∃ q : Nat, 2 ^ n.toNat = q ∧ 1 ≤ q ∧ q ≤ 4294967296 := ⟨_, rfl, Nat.one_le_two_pow, by
        have := Nat.pow_le_pow_right (n := 2) (by omega) (show n.toNat ≤ 32 by omega)
        have h4 : 2 ^ 32 = 4294967296 := rfl
        omega⟩
      obtain ⟨q, hq, hq1, hq2⟩ := hq
      have e3 : allG n.toNat = q - 1 := by unfold allG; rw [hq]
      have hz : ((2 : Int) ^ n.toNat) = (q : Int) := by rw [← hq]; simp
      have h5 : ((q - 1 : Nat) : Int) = (q : Int) - 1 := by omega
      unfold AllPost
      rw [e1, e2, e3, h5]
      have HZ := hide hz
      clear h0 h1 hq e1 e2 e3 h5 hz
      have hq3 : (1 : Int) ≤ q := by omega
      have hq4 : (q : Int) ≤ 4294967296 := by omega
      clear hq1 hq2
      generalize (q : Int) = z at *
      go_enter Tryd.func32, Tryd.ntmps32
      go_wp2
      go_ret2
      refine ⟨?_, rfl⟩
      have e5 : IntKind.u64.wrap (IntKind.u64.wrap ((2 : Int) ^ n.toNat) - 1) % 4294967296 = z - 1 := by
        rw [HZ.out]
        simp [IntKind.wrap, IntKind.bits, IntKind.signed]
        omega
      show Ending.returned (.tuple #[.int .u32 (IntKind.u64.wrap (IntKind.u64.wrap ((2 : Int) ^ n.toNat) - 1) % 4294967296), .int .i64 0]) = _
      rw [e5]

set_option maxHeartbeats 1000000 in
theorem bad_any (all : Nat) (g : Nat) (o : Offer) (w : World) (ho : o.1 < 4294967296) (hall : all < 4294967296) (hc : w.cell? ⟨g, 0, none⟩ = some (.int .u32 (all : Int))) (hg : g < w.heap.size) :
    Calls Tryd.prog 59 #[.agg #[.int .u32 (o.1 : Int), .int .i64 o.2], .pointer (some ⟨g, 0, none⟩)] w (ValPost (.bool (badO all o)) w) := by
  obtain ⟨a, c⟩ := o
  simp only at ho
  have hB : ∀ n, Below w.heap.size w ((w.alloc (.cells #[.int .u32 (a : Int), .int .i64 c] 59)).drewN n) := fun n => below_drewN ((Below.refl _ _).alloc (Nat.le_refl _) _) n
  have hc' : ∀ ob, (w.alloc ob).cell? ⟨g, 0, none⟩ = some (.int .u32 (all : Int)) := fun ob => (World.cell?_alloc_lt w ob ⟨g, 0, none⟩ hg).trans hc
  have HW := hide (fun W => within_any a all ho hall W)
  have h0 : badO all (a, c) = (((a : Int) == 0) || !withinB a all || decide (c < 1) || decide (1099511627776 < c)) := by unfold badO; rw [u32_beq]
  rw [h0]
  clear h0 hc
  generalize withinB a all = wi at *
  by_cases h1 : (a : Int) = 0
  · have h1' : ((a : Int) == 0) = true := by simp [h1]
    rw [h1']
    clear h1
    go_enter Tryd.func59, Tryd.ntmps59
    go_wp2_with (go_at_call 36; refine (HW.out _).mono ?_; rintro e w' ⟨rfl, rfl⟩)
    go_ret
    exact ⟨rfl, hB 0⟩
  · have h1' : ((a : Int) == 0) = false := by simpa using h1
    rw [h1']
    clear h1
    cases wi
    · go_enter Tryd.func59, Tryd.ntmps59
      go_wp2_with (go_at_call 36; refine (HW.out _).mono ?_; rintro e w' ⟨rfl, rfl⟩)
      go_ret
      exact ⟨rfl, hB 0⟩
    · by_cases h2 : c < 1
      · have h2' : decide (c < 1) = true := by simpa using h2
        rw [h2']
        go_enter Tryd.func59, Tryd.ntmps59
        go_wp2_with (go_at_call 36; refine (HW.out _).mono ?_; rintro e w' ⟨rfl, rfl⟩)
        go_ret
        exact ⟨rfl, hB 0⟩
      · have h2' : decide (c < 1) = false := by simpa using h2
        rw [h2']
        go_enter Tryd.func59, Tryd.ntmps59
        go_wp2_with (go_at_call 36; refine (HW.out _).mono ?_; rintro e w' ⟨rfl, rfl⟩)
        go_ret
        exact ⟨rfl, hB 0⟩

set_option maxRecDepth 100000 in
set_option maxHeartbeats 2000000 in
theorem indexBad (all g : Nat) (A : Option Addr) (c : Nat) (l : List Offer) (w : World) (hall : all < 4294967296) (hc : w.cell? ⟨g, 0, none⟩ = some (.int .u32 (all : Int))) (hg : g < w.heap.size) (h : Offs w w.heap.size A l) (hl : l.length ≤ 1000000) (hw : OWide l) :
    Calls Tryd.prog 60 #[.slice A l.length c, .func (.func 59) #[] #[.pointer (some ⟨g, 0, none⟩)]] w (IntPost (idxTo (badO all) l) w) := by
  have hat := Offs.at_ h
  have HC := hide hc
  have HW := hide hw
  clear hc h hw
  go_enter Tryd.func60, Tryd.ntmps60
  go_wp2_with fail
  go_loopw [8] (fun i wr => ∃ k : Nat, k ≤ l.length ∧ i = .int .i64 k ∧ (∀ j y, j < k → l[j]? = some y → badO all y = false) ∧ Below w.heap.size w wr) (fun i _ => l.length - (intOf i).toNat)
  case atStart => exact ⟨0, Nat.zero_le _, rfl, fun j y hj => absurd hj (by omega), Below.refl _ _⟩
  case round =>
    obtain ⟨k, hk, rfl, hno, hb⟩ := hrel
    have HN := hide hno; clear hno
    by_cases hlt : k < l.length
    · obtain ⟨b, o, rfl, hbB, hcc⟩ := hat (by omega)
      obtain ⟨x, hx⟩ : ∃ x, l[k]? = some x := ⟨l[k], List.getElem?_eq_getElem hlt⟩
      obtain ⟨hc0, hc1⟩ := hcc k x hx
      have d0 := (hb.cell (p := ⟨b, o + k * 2, none⟩) hbB).trans hc0
      have d1 := (hb.cell (p := ⟨b, o + k * 2 + 1, none⟩) hbB).trans hc1
      have hz := hb.size
      have HX := hide hx
      have HB := hide hb
      have hcg := (hb.cell (p := ⟨g, 0, none⟩) hg).trans HC.out
      have hox := (HW.out x (List.mem_of_getElem? hx)).1
      have HCL : Hid (Calls Tryd.prog 59 #[.agg #[.int .u32 (x.1 : Int), .int .i64 x.2], .pointer (some ⟨g, 0, none⟩)] wr (ValPost (.bool (badO all x)) wr)) := hide (bad_any all g x wr hox hall hcg (by omega))
      clear hc0 hc1 hcc hat hx hb hcg hox
      by_cases hp : badO all x = true
      · rw [hp] at HCL
        have HR := hide (idxTo_hit HX.out hp HN.out)
        clear hp
        go_wp2_with (go_at_call 59; refine (HCL.out).mono ?_; rintro e w' ⟨rfl, hb1⟩)
        go_ret
        refine ⟨by rw [HR.out]; rfl, HB.out.trans (hb1.mono hz)⟩
      · have hp' : badO all x = false := by simpa using hp
        rw [hp'] at HCL
        have HP := hide hp'
        clear hp hp'
        go_wp2_with (go_at_call 59; refine (HCL.out).mono ?_; rintro e w' ⟨rfl, hb1⟩)
        go_roundw
        case rel => exact ⟨k + 1, by omega, by go_num, no_next HN.out HX.out HP.out, HB.out.trans (hb1.mono hz)⟩
        case measure => simp [intOf]; omega
    · have : k = l.length := by omega
      subst this
      have HR := hide (idxTo_miss HN.out)
      go_wp2_with fail
      go_ret
      exact ⟨by rw [HR.out]; rfl, hb⟩
end Go.Proofs.YtinkieogcpidkaaDoor
