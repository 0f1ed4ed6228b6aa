/- Proved: gavellaw13.CallFills answers true for every input, and leaves it as it was. Conditions: none. -/
import Derived.Test.YtogicdljbnllgaaFillL
import Derived.Test.YtogicdljbnllgaaOpenR
namespace Go.Proofs.Ytogicdljbnllgaa
open Go.ChangeShapes Go.WideShapes Go.ChangeAt Go.RowKit Go.Joins

theorem own : ownKnob Try.prog.godebug = none := by kernel_rfl
theorem laidOut : laidOutB Try.prog = true := by kernel_rfl
theorem resultLaw : Try.f4.resultTypes = #[4] := by kernel_rfl
theorem read0 : Try.prog.readableRec 22 = true := by kernel_rfl
theorem there0 : 22 < Try.prog.types.size := of_decide_eq_true (by kernel_rfl)
theorem read1 : Try.prog.readableRec 3 = true := by kernel_rfl
theorem there1 : 3 < Try.prog.types.size := of_decide_eq_true (by kernel_rfl)
set_option maxRecDepth 100000 in
theorem lifted (os : Os) (started : os.Started) (H : Type) (enc : TypeId × Value → H) :
    ReturnsInHanded {} Try.checked os 4 .any (Rows.callFillsSpec.pre6 enc Try.prog Try.f4 Rows.callFillsRow.domain false) (Rows.callFillsSpec.post enc Try.prog Try.f4 false true false false) := by
  refine returnsInHanded_of_change_sized (C := Try.checked) own started (by kernel_rfl) Try.func4
    (ChangeSpec.witness6 (enc := enc) (C := Try.checked) false ⟨#[], #[.slice none 0 0, .slice none 0 0, .int .i64 0], []⟩ 8 (by kernel_rfl) (by kernel_rfl) (by kernel_rfl) (by kernel_rfl)) ?_
  intro W base args ds gs before hval0 hW hcnd hsz0 _
  have hval : ∀ (j : Nat) t v, Try.f4.params[j]? = some t → args[j]? = some v → Value.okWide Try.prog W .any base t v := hval0
  have hsz : (DataW.weightsEach Try.prog (Try.f4.params.toList ++ Rows.callFillsSpec.plain.varTypes Try.prog) (ds ++ gs)).all (· ≤ reachBytes) = true := hsz0
  have hW' := hW
  obtain ⟨p, q, hA0, hV, rfl, hfz, hnd⟩ := hW
  have hA : DataW.TrodAll enc Try.prog W 0 (fun _ => true) true Try.f4.params.toList args.toList ds p := hA0
  rw [Try.params4] at hA hval hsz
  obtain ⟨v0, vs0, d0, ds0, p0, q0, hargs, rfl, rfl, h0, r0⟩ := trodAll_cons hA
  obtain ⟨v1, vs1, d1, ds1, p1, q1, rfl, rfl, rfl, h1, r1⟩ := trodAll_cons r0
  obtain ⟨v2, vs2, d2, ds2, p2, q2, rfl, rfl, rfl, h2, r2⟩ := trodAll_cons r1
  obtain ⟨rfl, rfl, rfl⟩ := trodAll_nil r2
  obtain rfl : args = #[v0, v1, v2] := by cases args; simp_all
  refine law_post (P := Try.prog) laidOut Try.underlying4 resultLaw (fun t ht => ?_) rfl hW' rfl ?_
  · rw [Try.params4] at ht
    rcases (by simpa using ht : t = 22 ∨ t = 3) with rfl | rfl
    · exact ⟨read0, there0⟩
    · exact ⟨read1, there1⟩
  · obtain ⟨a0, len0, cap0, rfl⟩ := okWide_slice Try.underlying22 (hval 0 22 v0 rfl rfl)
    obtain ⟨a1, len1, cap1, rfl⟩ := okWide_slice Try.underlying22 (hval 1 22 v1 rfl rfl)
    obtain ⟨n2, rfl, rfl, rfl, _⟩ := open_int Try.underlying3 (hval 2 3 v2 rfl rfl) h2
    obtain ⟨f0, h0⟩ := h0
    obtain ⟨f1, h1⟩ := h1
    have hr0 := reach_of Try.underlying22 h0 hsz (j := 0) rfl rfl
    have hr1 := reach_of Try.underlying22 h1 hsz (j := 1) rfl rfl
    rw [bytesW] at hr0 hr1
    obtain ⟨A, c, b, e0, hbc, _, hz, hb, _⟩ := open_wants h0
    obtain ⟨A', c', s, e1, _, _, hz', hs, _⟩ := open_wants h1
    simp only [Value.cells, List.cons.injEq, and_true, Value.slice.injEq] at e0 e1
    obtain ⟨rfl, rfl, rfl⟩ := e0
    obtain ⟨rfl, rfl, rfl⟩ := e1
    exact fillsLaw_any a0 cap0 b a1 cap1 s n2 W hb hs hr0 hr1

theorem over : Rows.callFillsRow.holds Try.pinned (OpenSpec.ofChange Rows.callFillsSpec) :=
  OpenClaim.holds_of_wide 4 Try.f4 rfl rfl rfl rfl rfl rfl rfl ⟨rfl, rfl, rfl, rfl, rfl⟩ rfl rfl rfl rfl rfl (by kernel_rfl) Try.func4 (by kernel_rfl)
    (of_decide_eq_true (by kernel_rfl)) (by unfold Func.isWrapper; first | (rw [if_pos (by decide +kernel)]; kernel_rfl) | (rw [if_neg (by decide +kernel)]; exact ⟨rfl, rfl⟩))
    (fun os started H enc _ => lifted os started H enc)

theorem call_fills : Rows.CallFillsSaid := over
#print axioms call_fills
end Go.Proofs.Ytogicdljbnllgaa
