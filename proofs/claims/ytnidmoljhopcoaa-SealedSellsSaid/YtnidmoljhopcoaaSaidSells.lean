/- Proved: gavellaw11.SealedSells answers true for every input, and leaves it as it was. Conditions: none. -/
import Derived.Test.YtnidmoljhopcoaaSellsL
import Derived.Test.YtnidmoljhopcoaaLift
namespace Go.Proofs.Ytnidmoljhopcoaa
open Go.ChangeShapes Go.WideShapes Go.ChangeAt Go.RowKit Go.Joins

/-- Bids out of a slice of structs as it came in. -/
theorem bids_of {w : World} {A : Option Addr} {n : Nat} {xs : List (List Int)} (hn : xs.length = n) (hl : ∀ x ∈ xs, x.length = 2) (hw : ∀ x ∈ xs, ∀ (j : Nat) (k : IntKind) (z : Int), [IntKind.i64, IntKind.i64][j]? = some k → x[j]? = some z → (Lit.int k z).wf = true)
    (hr : Reads w w.heap.size 2 A n (recs [.i64, .i64] xs)) : ∃ l : List (Int × Int), l.length = n ∧ Bids w w.heap.size A l ∧ Wide l := by
  have key : recs [.i64, .i64] xs = flat (xs.map fun x => (x.getD 0 0, x.getD 1 0)) := by
    clear hn hw hr
    induction xs with
    | nil => rfl
    | cons x xs ih =>
      have h1 := ih (fun y hy => hl y (List.mem_cons_of_mem _ hy))
      have h2 := hl x (List.mem_cons_self ..)
      match x, h2 with
      | [a, b], _ =>
        have e : recs [.i64, .i64] ([a, b] :: xs) = .int .i64 a :: .int .i64 b :: recs [.i64, .i64] xs := rfl
        rw [e, h1]
        rfl
  refine ⟨xs.map fun x => (x.getD 0 0, x.getD 1 0), by simpa using hn, ?_, ?_⟩
  · unfold Bids
    rw [← key, List.length_map, hn]
    exact hr
  · intro y hy
    obtain ⟨x, hx, rfl⟩ := List.mem_map.1 hy
    have h2 := hl x hx
    match x, h2 with
    | [a, b], _ =>
      have := bounds_i64 (hw _ hx 0 .i64 a rfl rfl)
      exact ⟨this.1, this.2⟩

theorem sellsLaw_any (floor : Int) (A : Option Addr) (c : Nat) (l : List (Int × Int)) (w : World) (h : Bids w w.heap.size A l) (hw : Wide l) :
    Calls Try.prog 5 #[.int .i64 floor, .slice A l.length c] w (LawPost w) := by
  by_cases hl : 300 < l.length
  · exact sells_long floor A l.length c w hl
  · exact sells_any floor A c l w h (by omega) hw

theorem own : ownKnob Try.prog.godebug = none := by kernel_rfl
theorem laidOut : laidOutB Try.prog = true := by kernel_rfl
theorem cellsS : Try.prog.cellsOf 33 = 2 := by kernel_rfl
theorem resultLaw : Try.f5.resultTypes = #[4] := by kernel_rfl
theorem read0 : Try.prog.readableRec 2 = true := by kernel_rfl
theorem there0 : 2 < Try.prog.types.size := of_decide_eq_true (by kernel_rfl)
theorem read1 : Try.prog.readableRec 22 = true := by kernel_rfl
theorem there1 : 22 < Try.prog.types.size := of_decide_eq_true (by kernel_rfl)
set_option maxRecDepth 100000 in
theorem lifted (os : Os) (started : os.Started) (H : Type) (enc : TypeId × Value → H) :
    ReturnsInHanded {} Try.checked os 5 .any (Rows.sealedSellsSpec.pre6 enc Try.prog Try.f5 Rows.sealedSellsRow.domain false) (Rows.sealedSellsSpec.post enc Try.prog Try.f5 false true false false) := by
  refine returnsInHanded_of_change (C := Try.checked) own started (by kernel_rfl) Try.func5
    (ChangeSpec.witness6 (enc := enc) (C := Try.checked) false ⟨#[], #[.int .i64 0, .slice none 0 0], []⟩ 8 (by kernel_rfl) (by kernel_rfl) (by kernel_rfl) (by kernel_rfl)) ?_
  intro W base args ds gs before hval0 hW hcnd _
  have hval : ∀ (j : Nat) t v, Try.f5.params[j]? = some t → args[j]? = some v → Value.okWide Try.prog W .any base t v := hval0
  have hW' := hW
  obtain ⟨p, q, hA0, hV, rfl, hfz, hnd⟩ := hW
  have hA : DataW.TrodAll enc Try.prog W 0 (fun _ => true) true Try.f5.params.toList args.toList ds p := hA0
  rw [Try.params5] at hA hval
  obtain ⟨v0, vs0, d0, ds0, p0, q0, hargs, rfl, rfl, h0, r0⟩ := trodAll_cons hA
  obtain ⟨v1, vs1, d1, ds1, p1, q1, rfl, rfl, rfl, h1, r1⟩ := trodAll_cons r0
  obtain ⟨rfl, rfl, rfl⟩ := trodAll_nil r1
  obtain rfl : args = #[v0, v1] := by cases args; simp_all
  refine law_post (P := Try.prog) laidOut Try.underlying4 resultLaw (fun t ht => ?_) rfl hW' rfl ?_
  · rw [Try.params5] at ht
    rcases (by simpa using ht : t = 2 ∨ t = 22) with rfl | rfl
    · exact ⟨read0, there0⟩
    · exact ⟨read1, there1⟩
  · obtain ⟨k0, rfl, rfl, rfl, wk0⟩ := open_int Try.underlying2 (hval 0 2 v0 rfl rfl) h0
    obtain ⟨a1, len1, cap1, rfl⟩ := okWide_slice Try.underlying22 (hval 1 22 v1 rfl rfl)
    obtain ⟨fu, hf⟩ := h1
    obtain ⟨A, n, c, xs, e1, hnc, hcm, hxn, hxl, hxw, hr⟩ := open_recs Try.underlying22 Try.underlying33 (by kernel_rfl) cellsS [.i64, .i64] rfl (by decide) (fun j f hj => by
      match j, hj with
      | 0, hj => exact ⟨.i64, rfl, by simp at hj; subst hj; exact Try.underlying3⟩
      | 1, hj => exact ⟨.i64, rfl, by simp at hj; subst hj; exact Try.underlying2⟩
      | j + 2, hj => simp at hj) hf
    simp only [Value.cells, List.cons.injEq, and_true, Value.slice.injEq] at e1
    obtain ⟨rfl, rfl, rfl⟩ := e1
    obtain ⟨l, rfl, hb, hwd⟩ := bids_of hxn hxl hxw hr
    exact sellsLaw_any k0 a1 cap1 l W hb hwd

theorem over : Rows.sealedSellsRow.holds Try.pinned (OpenSpec.ofChange Rows.sealedSellsSpec) :=
  OpenClaim.holds_of_wide 5 Try.f5 rfl rfl rfl rfl rfl rfl rfl ⟨rfl, rfl, rfl, rfl, rfl⟩ rfl rfl rfl rfl rfl (by kernel_rfl) Try.func5 (by kernel_rfl)
    (of_decide_eq_true (by kernel_rfl)) (by unfold Func.isWrapper; first | (rw [if_pos (by decide +kernel)]; kernel_rfl) | (rw [if_neg (by decide +kernel)]; exact ⟨rfl, rfl⟩))
    (fun os started H enc _ => lifted os started H enc)

theorem sealed_sells : Rows.SealedSellsSaid := over
#print axioms sealed_sells
end Go.Proofs.Ytnidmoljhopcoaa
