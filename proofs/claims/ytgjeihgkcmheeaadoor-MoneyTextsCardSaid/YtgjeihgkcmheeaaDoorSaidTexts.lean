/- Proved: gavellaw02.MoneyTexts answers true for every input, and leaves it as it was; the library's tables and errors are tied to the program's text. Conditions: none. -/
import Derived.Test.YtgjeihgkcmheeaaDoorTxs
import Derived.Test.YtgjeihgkcmheeaaDoorSaidB
namespace Go.Proofs.YtgjeihgkcmheeaaDoor
open Go.ChangeShapes Go.WideShapes Go.ChangeAt Go.RowKit Go.Joins

theorem resultLaw : (Tryd.f5).resultTypes = #[4] := by kernel_rfl
theorem read2 : Tryd.prog.readableRec 2 = true := by kernel_rfl
theorem there2 : 2 < Tryd.prog.types.size := of_decide_eq_true (by kernel_rfl)
theorem read9 : Tryd.prog.readableRec 9 = true := by kernel_rfl
theorem there9 : 9 < Tryd.prog.types.size := of_decide_eq_true (by kernel_rfl)

set_option maxRecDepth 100000 in
set_option maxHeartbeats 1000000 in
theorem lifted (os : Os) (started : os.Started) (H : Type) (enc : TypeId × Value → H) :
    ReturnsInHanded {} Tryd.checked os 5 .any (fun w args => (Rows.moneyTextsSpec.pre enc Tryd.prog Tryd.f5 [] false w args ∧ laidMetH Tryd.prog laidL w) ∧ sizedMet enc Tryd.prog Tryd.f5 (OpenSpec.ofChange Rows.moneyTextsSpec) false w args)
      (Rows.moneyTextsSpec.post enc Tryd.prog Tryd.f5 false true false false) := by
  refine returnsInHanded_of_change_and (C := Tryd.checked) (X := fun w _ => laidMetH Tryd.prog laidL w) (fun _ _ _ hh h => h.of_heap hh) own started (by kernel_rfl) Tryd.func5
    (ChangeSpec.witness_shaped (enc := enc) (C := Tryd.checked) (os := os) (X := fun w _ => laidMetH Tryd.prog laidL w) false (doorW os) #[.int .i64 0, .string .empty] 8 rfl (World.shaped_of_RefB (by kernel_rfl) (by kernel_rfl)) (by kernel_rfl) (by kernel_rfl) (by kernel_rfl) (door_met os _)) ?_
  intro W base args ds gs before hval0 hW _ hsz0 hL _
  have hval : ∀ (j : Nat) t v, (Tryd.f5).params[j]? = some t → args[j]? = some v → Value.okWide Tryd.prog W .any base t v := hval0
  have hW' := hW
  have hsz : (DataW.weightsEach Tryd.prog ((Tryd.f5).params.toList ++ Rows.moneyTextsSpec.plain.varTypes Tryd.prog) (ds ++ gs)).all (· ≤ reachBytes) = true := hsz0
  obtain ⟨p, q, hA0, hV, rfl, hfz, hnd⟩ := hW
  have hA : DataW.TrodAll enc Tryd.prog W 0 (fun _ => true) true (Tryd.f5).params.toList args.toList ds p := hA0
  rw [Tryd.params5] at hA hval hsz
  obtain ⟨v0, vs0, d0, ds0, p0, q0, hargs, rfl, rfl, h0, r0⟩ := trodAll_cons hA
  obtain ⟨v1, vs1, d1, ds1, p1, q1, rfl, rfl, rfl, h1, r1⟩ := trodAll_cons r0
  obtain ⟨rfl, rfl, rfl⟩ := trodAll_nil r1
  obtain rfl : args = #[v0, v1] := by cases args; simp_all
  refine law_post (P := Tryd.prog) laidOut Tryd.underlying4 resultLaw (fun t ht => ?_) rfl hW' rfl ?_
  · rw [Tryd.params5] at ht
    have ht2 : t = 2 ∨ t = 9 := by simp at ht; omega
    rcases ht2 with rfl | rfl
    · exact ⟨read2, there2⟩
    · exact ⟨read9, there9⟩
  · obtain ⟨k0, rfl, rfl, rfl, wk0⟩ := open_int Tryd.underlying2 (hval 0 2 v0 rfl rfl) h0
    have hk0 := bounds_i64 wk0
    obtain ⟨s1, rfl, rfl, rfl, ws1⟩ := Go.ChangeMaps.open_string Tryd.underlying9 (hval 1 9 v1 rfl rfl) h1
    have hs1 : s1.size ≤ 281474976710656 := by
      have := sized_string hsz (j := 1) (t := 9) rfl rfl
      have e : s1.data.toList.length = s1.size := by simp
      unfold reachBytes at this
      omega
    exact (texts_any hk0.1 hk0.2 hs1 (ld_of_laid hL))

theorem over : Rows.moneyTextsRow.holds Tryd.pinned (OpenSpec.ofChange Rows.moneyTextsSpec) :=
  OpenClaim.holds_of_wide 5 Tryd.f5 rfl rfl rfl rfl rfl rfl rfl ⟨rfl, rfl, rfl, rfl, rfl⟩ rfl rfl rfl rfl rfl (by kernel_rfl) Tryd.func5 (by kernel_rfl)
    (of_decide_eq_true (by kernel_rfl)) (by unfold Func.isWrapper; first | (rw [if_pos (by decide +kernel)]; kernel_rfl) | (rw [if_neg (by decide +kernel)]; exact ⟨rfl, rfl⟩))
    (fun os started H enc _ => lifted os started H enc)

theorem money_texts : Rows.MoneyTextsCardSaid :=
  Claim7.holds_tied_plain_at .later [] [.data, .data, .data, .sentinel, .sentinel] true _ true
    over (fun _ h => by cases h) (by kernel_rfl) (fun _ h => by cases h) moneyTexts_row_tie rfl ⟨rfl, rfl⟩ (by kernel_rfl) rfl
    (fun f fn hf hfn => by
      obtain rfl : f = 5 := Option.some.inj ((show Tryd.prog.funcNamed "gavel/gavellaw02.MoneyTexts" = some 5 by kernel_rfl).symm.trans hf) |>.symm
      obtain rfl : fn = Tryd.f5 := (Option.some.inj (Tryd.func5.symm.trans hfn)).symm
      exact ⟨by kernel_rfl, fun j t ht => by
        rw [Tryd.params5] at ht
        have hm : t ∈ [2, 9] := by
          have := Array.mem_of_getElem? ht
          simp at this
          simp
          omega
        have hall : ([2, 9].all fun u => !Tryd.prog.wantsStandIn u) = true := by kernel_rfl
        exact (show Tryd.prog.wantsStandIn t = false by simpa using List.all_eq_true.1 hall t hm)⟩)
    (by kernel_rfl)
#print axioms money_texts
end Go.Proofs.YtgjeihgkcmheeaaDoor
