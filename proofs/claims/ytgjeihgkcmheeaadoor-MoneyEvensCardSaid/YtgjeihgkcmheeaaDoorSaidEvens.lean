/- Proved: gavellaw02.MoneyEvens answers true for every input, and leaves it as it was; the library's tables and errors are tied to the program's text. Conditions: none. -/
import Derived.Test.YtgjeihgkcmheeaaDoorEvns
import Derived.Test.YtgjeihgkcmheeaaDoorSaidB
namespace Go.Proofs.YtgjeihgkcmheeaaDoor
open Go.ChangeShapes Go.WideShapes Go.ChangeAt Go.RowKit Go.Joins

theorem resultLaw : (Tryd.f4).resultTypes = #[4] := by kernel_rfl
theorem read2 : Tryd.prog.readableRec 2 = true := by kernel_rfl
theorem there2 : 2 < Tryd.prog.types.size := of_decide_eq_true (by kernel_rfl)
theorem read3 : Tryd.prog.readableRec 3 = true := by kernel_rfl
theorem there3 : 3 < Tryd.prog.types.size := of_decide_eq_true (by kernel_rfl)

set_option maxRecDepth 100000 in
set_option maxHeartbeats 1000000 in
theorem lifted (os : Os) (started : os.Started) (H : Type) (enc : TypeId × Value → H) :
    ReturnsInHanded {} Tryd.checked os 4 .any (fun w args => (Rows.moneyEvensSpec.pre enc Tryd.prog Tryd.f4 [] false w args ∧ laidMetH Tryd.prog laidL w) ∧ sizedMet enc Tryd.prog Tryd.f4 (OpenSpec.ofChange Rows.moneyEvensSpec) false w args)
      (Rows.moneyEvensSpec.post enc Tryd.prog Tryd.f4 false true false false) := by
  refine returnsInHanded_of_change_and (C := Tryd.checked) (X := fun w _ => laidMetH Tryd.prog laidL w) (fun _ _ _ hh h => h.of_heap hh) own started (by kernel_rfl) Tryd.func4
    (ChangeSpec.witness_shaped (enc := enc) (C := Tryd.checked) (os := os) (X := fun w _ => laidMetH Tryd.prog laidL w) false (doorW os) #[.int .i64 0, .int .i64 0, .int .i64 0] 8 rfl (World.shaped_of_RefB (by kernel_rfl) (by kernel_rfl)) (by kernel_rfl) (by kernel_rfl) (by kernel_rfl) (door_met os _)) ?_
  intro W base args ds gs before hval0 hW _ hsz0 hL _
  have hval : ∀ (j : Nat) t v, (Tryd.f4).params[j]? = some t → args[j]? = some v → Value.okWide Tryd.prog W .any base t v := hval0
  have hW' := hW
  have hsz : (DataW.weightsEach Tryd.prog ((Tryd.f4).params.toList ++ Rows.moneyEvensSpec.plain.varTypes Tryd.prog) (ds ++ gs)).all (· ≤ reachBytes) = true := hsz0
  obtain ⟨p, q, hA0, hV, rfl, hfz, hnd⟩ := hW
  have hA : DataW.TrodAll enc Tryd.prog W 0 (fun _ => true) true (Tryd.f4).params.toList args.toList ds p := hA0
  rw [Tryd.params4] at hA hval hsz
  obtain ⟨v0, vs0, d0, ds0, p0, q0, hargs, rfl, rfl, h0, r0⟩ := trodAll_cons hA
  obtain ⟨v1, vs1, d1, ds1, p1, q1, rfl, rfl, rfl, h1, r1⟩ := trodAll_cons r0
  obtain ⟨v2, vs2, d2, ds2, p2, q2, rfl, rfl, rfl, h2, r2⟩ := trodAll_cons r1
  obtain ⟨rfl, rfl, rfl⟩ := trodAll_nil r2
  obtain rfl : args = #[v0, v1, v2] := by cases args; simp_all
  refine law_post (P := Tryd.prog) laidOut Tryd.underlying4 resultLaw (fun t ht => ?_) rfl hW' rfl ?_
  · rw [Tryd.params4] at ht
    have ht2 : t = 2 ∨ t = 3 := by simp at ht; omega
    rcases ht2 with rfl | rfl
    · exact ⟨read2, there2⟩
    · exact ⟨read3, there3⟩
  · obtain ⟨k0, rfl, rfl, rfl, wk0⟩ := open_int Tryd.underlying2 (hval 0 2 v0 rfl rfl) h0
    have hk0 := bounds_i64 wk0
    obtain ⟨k1, rfl, rfl, rfl, wk1⟩ := open_int Tryd.underlying3 (hval 1 3 v1 rfl rfl) h1
    have hk1 := bounds_i64 wk1
    obtain ⟨k2, rfl, rfl, rfl, wk2⟩ := open_int Tryd.underlying3 (hval 2 3 v2 rfl rfl) h2
    have hk2 := bounds_i64 wk2
    exact (evens_any hk1 (ld_of_laid hL))

theorem over : Rows.moneyEvensRow.holds Tryd.pinned (OpenSpec.ofChange Rows.moneyEvensSpec) :=
  OpenClaim.holds_of_wide 4 Tryd.f4 rfl rfl rfl rfl rfl rfl rfl ⟨rfl, rfl, rfl, rfl, rfl⟩ rfl rfl rfl rfl rfl (by kernel_rfl) Tryd.func4 (by kernel_rfl)
    (of_decide_eq_true (by kernel_rfl)) (by unfold Func.isWrapper; first | (rw [if_pos (by decide +kernel)]; kernel_rfl) | (rw [if_neg (by decide +kernel)]; exact ⟨rfl, rfl⟩))
    (fun os started H enc _ => lifted os started H enc)

theorem money_evens : Rows.MoneyEvensCardSaid :=
  Claim7.holds_tied_plain_at .later [] [.data, .data, .data, .sentinel, .sentinel] true _ true
    over (fun _ h => by cases h) (by kernel_rfl) (fun _ h => by cases h) moneyEvens_row_tie rfl ⟨rfl, rfl⟩ (by kernel_rfl) rfl
    (fun f fn hf hfn => by
      obtain rfl : f = 4 := Option.some.inj ((show Tryd.prog.funcNamed "gavel/gavellaw02.MoneyEvens" = some 4 by kernel_rfl).symm.trans hf) |>.symm
      obtain rfl : fn = Tryd.f4 := (Option.some.inj (Tryd.func4.symm.trans hfn)).symm
      exact ⟨by kernel_rfl, fun j t ht => by
        rw [Tryd.params4] at ht
        have hm : t ∈ [2, 3] := by
          have := Array.mem_of_getElem? ht
          simp at this
          simp
          omega
        have hall : ([2, 3].all fun u => !Tryd.prog.wantsStandIn u) = true := by kernel_rfl
        exact (show Tryd.prog.wantsStandIn t = false by simpa using List.all_eq_true.1 hall t hm)⟩)
    (by kernel_rfl)
#print axioms money_evens
end Go.Proofs.YtgjeihgkcmheeaaDoor
