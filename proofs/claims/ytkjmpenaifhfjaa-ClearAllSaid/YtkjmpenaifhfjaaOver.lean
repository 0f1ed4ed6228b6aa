/- The walk of the laws' helper over: an answer is written over. -/
import Derived.Test.YtkjmpenaifhfjaaRef08W
namespace Go.Proofs.Ytkjmpenaifhfjaa
open Go.RowKit

/-- Nothing but one block has turned. -/
def OverPost (v : Value) (w : World) (e : Ending) (w' : World) : Prop := e = .returned (.tuple #[]) ∧ w.grownBy w' v.ownBlock ∧ w'.heap.size = w.heap.size

theorem grown_refl (w : World) (r : Option Nat) : w.grownBy w r := ⟨rfl, rfl, rfl, Nat.le_refl _, fun _ _ _ => rfl⟩
theorem grown_trans {w w' w'' : World} {r : Option Nat} (h : w.grownBy w' r) (h' : w'.grownBy w'' r) : w.grownBy w'' r :=
  ⟨h'.os.trans h.os, h'.tape.trans h.tape, h'.output.trans h.output, Nat.le_trans h.size h'.size, fun k hk hr => (h'.block k (Nat.lt_of_lt_of_le hk h.size) hr).trans (h.block k hk hr)⟩

set_option maxRecDepth 100000 in
set_option maxHeartbeats 1000000 in
theorem over_any (B : Nat) (A : Option Addr) (c : Nat) (l : List Int) (w : World) (h : w.ownsRow B 3 1 (.slice A l.length c) l.length (l.map intV)) (hl : l.length ≤ 1000000) :
    Calls Try.prog 21 #[.slice A l.length c] w (OverPost (.slice A l.length c) w) := by
  have HO := hide h
  clear h
  go_enter Try.func21, Try.ntmps21
  go_wp2_with fail
  go_loopw [2] (fun iv wr => ∃ (i : Nat) (xs : List Value), i ≤ l.length ∧ iv = .int .i64 i ∧ wr.ownsRow B 3 1 (.slice A l.length c) l.length xs ∧ w.grownBy wr (Value.slice A l.length c).ownBlock ∧ wr.heap.size = w.heap.size) (fun iv _ => l.length - (intOf iv).toNat)
  case atStart => exact ⟨0, _, Nat.zero_le _, rfl, HO.out, grown_refl _ _, rfl⟩
  case round =>
    obtain ⟨i, xs, hi, rfl, ho, hg, hz⟩ := hrel
    by_cases hlt : i < l.length
    · obtain ⟨g, cap, hv⟩ := Go.Joins.ownsRow_form ho (by omega)
      injection hv with hA _ hc
      subst hA hc
      have hx : wr.cell? ⟨g, i, none⟩ = xs[i]? := ho.cellAt i (by omega)
      have hxl : xs.length = l.length := by have := ho.1; simpa using this
      rw [List.getElem?_eq_getElem (by omega)] at hx
      have hf := ho.frozenAt i
      have HS := hide (ho.stored i (intV (-99)))
      have HG := hide hg
      have hil : (i : Int) < (l.length : Int) := by omega
      generalize xs[i] = xi at hx
      clear ho hg
      go_wp2_with fail
      go_roundw
      case rel => exact ⟨i + 1, _, by omega, by go_num, HS.out.1, grown_trans HG.out HS.out.2, by simpa using hz⟩
      case measure => simp [intOf]; omega
    · obtain rfl : i = l.length := by omega
      go_wp2_with fail
      go_end0
      exact ⟨rfl, hg, hz⟩
end Go.Proofs.Ytkjmpenaifhfjaa
