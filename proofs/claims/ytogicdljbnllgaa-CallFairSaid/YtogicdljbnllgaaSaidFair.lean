/- Proved: gavellaw13.CallFair answers true for every input, and leaves it as it was. Conditions: none. -/
import Derived.Test.YtogicdljbnllgaaFair
import Derived.Test.YtogicdljbnllgaaOpenW
namespace Go.Proofs.Ytogicdljbnllgaa
open Go.ChangeShapes Go.WideShapes Go.ChangeAt Go.RowKit Go.Joins

theorem own : ownKnob Try.prog.godebug = none := by kernel_rfl
theorem laidOut : laidOutB Try.prog = true := by kernel_rfl
theorem resultLaw : Try.f6.resultTypes = #[4] := by kernel_rfl
theorem read0 : Try.prog.readableRec 22 = true := by kernel_rfl
theorem there0 : 22 < Try.prog.types.size := of_decide_eq_true (by kernel_rfl)
set_option maxRecDepth 100000 in
theorem lifted (os : Os) (started : os.Started) (H : Type) (enc : TypeId × Value → H) :
    ReturnsInHanded {} Try.checked os 6 .any (Rows.callFairSpec.pre6 enc Try.prog Try.f6 Rows.callFairRow.domain false) (Rows.callFairSpec.post enc Try.prog Try.f6 false true false false) := by
  refine returnsInHanded_of_change (C := Try.checked) own started (by kernel_rfl) Try.func6
    (ChangeSpec.witness6 (enc := enc) (C := Try.checked) false ⟨#[], #[.slice none 0 0, .slice none 0 0], []⟩ 8 (by kernel_rfl) (by kernel_rfl) (by kernel_rfl) (by kernel_rfl)) ?_
  intro W base args ds gs before hval0 hW hcnd _
  have hval : ∀ (j : Nat) t v, Try.f6.params[j]? = some t → args[j]? = some v → Value.okWide Try.prog W .any base t v := hval0
  have hW' := hW
  obtain ⟨p, q, hA0, hV, rfl, hfz, hnd⟩ := hW
  have hA : DataW.TrodAll enc Try.prog W 0 (fun _ => true) true Try.f6.params.toList args.toList ds p := hA0
  rw [Try.params6] at hA hval
  obtain ⟨v0, vs0, d0, ds0, p0, q0, hargs, rfl, rfl, h0, r0⟩ := trodAll_cons hA
  obtain ⟨v1, vs1, d1, ds1, p1, q1, rfl, rfl, rfl, h1, r1⟩ := trodAll_cons r0
  obtain ⟨rfl, rfl, rfl⟩ := trodAll_nil r1
  obtain rfl : args = #[v0, v1] := by cases args; simp_all
  refine law_post (P := Try.prog) laidOut Try.underlying4 resultLaw (fun t ht => ?_) rfl hW' rfl ?_
  · rw [Try.params6] at ht
    obtain rfl : t = 22 := by simpa using ht
    exact ⟨read0, there0⟩
  · obtain ⟨a0, len0, cap0, rfl⟩ := okWide_slice Try.underlying22 (hval 0 22 v0 rfl rfl)
    obtain ⟨a1, len1, cap1, rfl⟩ := okWide_slice Try.underlying22 (hval 1 22 v1 rfl rfl)
    obtain ⟨f0, h0⟩ := h0
    obtain ⟨f1, h1⟩ := h1
    obtain ⟨A, c, b, e0, _, _, hz, hb, _⟩ := open_wants h0
    obtain ⟨A', c', s, e1, _, _, hz', hs, _⟩ := open_wants h1
    simp only [Value.cells, List.cons.injEq, and_true, Value.slice.injEq] at e0 e1
    obtain ⟨rfl, rfl, rfl⟩ := e0
    obtain ⟨rfl, rfl, rfl⟩ := e1
    exact fairLaw_any a0 cap0 b a1 cap1 s W hb hs hz hz'

theorem over : Rows.callFairRow.holds Try.pinned (OpenSpec.ofChange Rows.callFairSpec) :=
  OpenClaim.holds_of_wide 6 Try.f6 rfl rfl rfl rfl rfl rfl rfl ⟨rfl, rfl, rfl, rfl, rfl⟩ rfl rfl rfl rfl rfl (by kernel_rfl) Try.func6 (by kernel_rfl)
    (of_decide_eq_true (by kernel_rfl)) (by unfold Func.isWrapper; first | (rw [if_pos (by decide +kernel)]; kernel_rfl) | (rw [if_neg (by decide +kernel)]; exact ⟨rfl, rfl⟩))
    (fun os started H enc _ => lifted os started H enc)

theorem call_fair : Rows.CallFairSaid := over
#print axioms call_fair
end Go.Proofs.Ytogicdljbnllgaa
