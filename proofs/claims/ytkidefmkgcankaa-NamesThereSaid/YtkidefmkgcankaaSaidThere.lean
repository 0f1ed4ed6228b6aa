/- Proved: gavellaw06.NamesThere answers true for every list of texts, and leaves it as it was. Conditions: none. -/
import Derived.Test.YtkidefmkgcankaaThere
import Derived.Test.YtkidefmkgcankaaLift
import Derived.SliceStrings
namespace Go.Proofs.Ytkidefmkgcankaa
open Go.ChangeShapes Go.WideShapes Go.ChangeAt Go.RowKit

section
variable {H : Type} {enc : TypeId × Value → H} {w : World} {base : Nat} {spare : Nat → Bool} {held : Bool}
/-- A slice of texts reads as a list. -/
theorem open_texts {P : Program} {t e : TypeId} {fuel : Nat} {cs : List Value} {x : DataW H × List MemPlace} (ht : P.underlying t = some (.slice e)) (he : P.underlying e = some .string) (hC : P.cellsOf e = 1)
    (h : DataW.trod enc P w base spare held fuel t cs = some x) :
    ∃ (A : Option Addr) (n c : Nat) (ss : List ByteArray), cs = [.slice A n c] ∧ n ≤ c ∧ c ≤ maxLen ∧ ss.length = n ∧ (∀ s ∈ ss, s.size ≤ maxLen) ∧ Reads w w.heap.size 1 A n (ss.map Value.string) := by
  rcases open_strings ht he hC h with ⟨rfl, hx⟩ | ⟨a, len, cap, ss, rfl, _, hl, hm, hz, hx, hcell, hws⟩
  · exact ⟨none, 0, 0, [], rfl, Nat.le_refl _, by simp [maxLen], rfl, (fun z hz => by cases hz), by simpa using Reads.none_ _ _ _⟩
  · have hz' : len ≤ ss.length := by
      rw [hz]
      split <;> omega
    refine ⟨some a, len, cap, ss.take len, rfl, hl, hm, by simp; omega, fun z hzm => hws z (List.mem_of_mem_take hzm), by simp; omega, fun hn => ?_⟩
    have h0 := hcell 0 (by omega)
    obtain ⟨b, off, spot⟩ := a
    have hspot : spot = none := by simpa [Addr.add] using World.cell?_spot h0
    subst hspot
    have hc : ∀ j, j < ss.length → w.cell? ⟨b, off + j, none⟩ = some (.string (ss.getD j ByteArray.empty)) := fun j hj => by rw [← add_plain]; exact hcell j hj
    refine ⟨b, off, rfl, lt_of_cell (hc 0 (by omega)), fun j u hu => ?_⟩
    rw [List.getElem?_map, List.getElem?_take] at hu
    split at hu
    · rename_i hj
      have hjz : j < ss.length := by omega
      rw [List.getElem?_eq_getElem hjz] at hu
      injection hu with hu
      rw [hc j hjz, ← hu, List.getD_eq_getElem?_getD, List.getElem?_eq_getElem hjz]
      rfl
    · simp at hu
end

theorem own : ownKnob Try.prog.godebug = none := by kernel_rfl
theorem laidOut : laidOutB Try.prog = true := by kernel_rfl
theorem cells9 : Try.prog.cellsOf 9 = 1 := by kernel_rfl
theorem resultLaw : Try.f6.resultTypes = #[4] := by kernel_rfl
theorem read0 : Try.prog.readableRec 50 = true := by kernel_rfl
theorem there0 : 50 < Try.prog.types.size := of_decide_eq_true (by kernel_rfl)

set_option maxRecDepth 100000 in
theorem lifted (os : Os) (started : os.Started) (H : Type) (enc : TypeId × Value → H) :
    ReturnsInHanded {} Try.checked os 6 .any (Rows.namesThereSpec.pre6 enc Try.prog Try.f6 Rows.namesThereRow.domain false) (Rows.namesThereSpec.post enc Try.prog Try.f6 false true false false) := by
  refine returnsInHanded_of_change (C := Try.checked) own started (by kernel_rfl) Try.func6
    (ChangeSpec.witness6 (enc := enc) (C := Try.checked) false ⟨#[], #[.slice none 0 0], []⟩ 8 (by kernel_rfl) (by kernel_rfl) (by kernel_rfl) (by kernel_rfl)) ?_
  intro W base args ds gs before hval0 hW hcnd _
  have hval : ∀ (j : Nat) t v, Try.f6.params[j]? = some t → args[j]? = some v → Value.okWide Try.prog W .any base t v := hval0
  have hW' := hW
  obtain ⟨p, q, hA0, hV, rfl, hfz, hnd⟩ := hW
  have hA : DataW.TrodAll enc Try.prog W 0 (fun _ => true) true Try.f6.params.toList args.toList ds p := hA0
  rw [Try.params6] at hA hval
  obtain ⟨v0, vs0, d0, ds0, p0, q0, hargs, rfl, rfl, h0, r0⟩ := trodAll_cons hA
  obtain ⟨rfl, rfl, rfl⟩ := trodAll_nil r0
  obtain rfl : args = #[v0] := by cases args; simp_all
  refine law_post (P := Try.prog) laidOut Try.underlying4 resultLaw (fun t ht => ?_) rfl hW' rfl ?_
  · rw [Try.params6] at ht
    obtain rfl : t = 50 := by simpa using ht
    exact ⟨read0, there0⟩
  · obtain ⟨a1, len1, cap1, rfl⟩ := okWide_slice Try.underlying50 (hval 0 50 v0 rfl rfl)
    obtain ⟨fu, hf⟩ := h0
    obtain ⟨A, n, c, ss, e1, hnc, hcm, hxn, hxw, hr⟩ := open_texts Try.underlying50 Try.underlying9 cells9 hf
    simp only [Value.cells, List.cons.injEq, and_true, Value.slice.injEq] at e1
    obtain ⟨rfl, rfl, rfl⟩ := e1
    exact there_any a1 len1 cap1 ss W (by unfold maxLen at hcm; omega) hxn hr

theorem over : Rows.namesThereRow.holds Try.pinned (OpenSpec.ofChange Rows.namesThereSpec) :=
  OpenClaim.holds_of_wide 6 Try.f6 rfl rfl rfl rfl rfl rfl rfl ⟨rfl, rfl, rfl, rfl, rfl⟩ rfl rfl rfl rfl rfl (by kernel_rfl) Try.func6 (by kernel_rfl)
    (of_decide_eq_true (by kernel_rfl)) (by unfold Func.isWrapper; first | (rw [if_pos (by decide +kernel)]; kernel_rfl) | (rw [if_neg (by decide +kernel)]; exact ⟨rfl, rfl⟩))
    (fun os started H enc _ => lifted os started H enc)

theorem names_there : Rows.NamesThereSaid := over
#print axioms names_there
end Go.Proofs.Ytkidefmkgcankaa
