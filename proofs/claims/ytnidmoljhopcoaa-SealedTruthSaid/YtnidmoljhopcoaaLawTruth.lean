/- Proved: gavellaw11.SealedTruth answers true for every input, and leaves it as it was. Conditions: none. -/
import Derived.Test.YtnidmoljhopcoaaMain
import Derived.Test.YtnidmoljhopcoaaLift
namespace Go.Proofs.Ytnidmoljhopcoaa
open Go.ChangeShapes Go.WideShapes Go.ChangeAt Go.RowKit Go.Joins

/-- Bids out of a slice of structs as it came in. -/
theorem bids_of {w : World} {A : Option Addr} {n : Nat} {xs : List (List Int)} (hn : xs.length = n) (hl : ∀ x ∈ xs, x.length = 2) (hw : ∀ x ∈ xs, ∀ (j : Nat) (k : IntKind) (z : Int), [IntKind.i64, IntKind.i64][j]? = some k → x[j]? = some z → (Lit.int k z).wf = true)
    (hr : Reads w w.heap.size 2 A n (recs [.i64, .i64] xs)) : ∃ l : List (Int × Int), l.length = n ∧ Bids w w.heap.size A l ∧ Wide l := by
  have key : recs [.i64, .i64] xs = flat (xs.map fun x => (x.getD 0 0, x.getD 1 0)) := by
    clear hn hw hr
    induction xs with
    | nil => rfl
    | cons x xs ih =>
      have h1 := ih (fun y hy => hl y (List.mem_cons_of_mem _ hy))
      have h2 := hl x (List.mem_cons_self ..)
      match x, h2 with
      | [a, b], _ =>
        have e : recs [.i64, .i64] ([a, b] :: xs) = .int .i64 a :: .int .i64 b :: recs [.i64, .i64] xs := rfl
        rw [e, h1]
        rfl
  refine ⟨xs.map fun x => (x.getD 0 0, x.getD 1 0), by simpa using hn, ?_, ?_⟩
  · unfold Bids
    rw [← key, List.length_map, hn]
    exact hr
  · intro y hy
    obtain ⟨x, hx, rfl⟩ := List.mem_map.1 hy
    have h2 := hl x hx
    match x, h2 with
    | [a, b], _ =>
      have := bounds_i64 (hw _ hx 0 .i64 a rfl rfl)
      exact ⟨this.1, this.2⟩

theorem truth_any (floor who other : Int) (A : Option Addr) (c : Nat) (l : List (Int × Int)) (w : World) (hlc : l.length ≤ c) (h : Bids w w.heap.size A l) (hw : Wide l) (hwho : -9223372036854775808 ≤ who ∧ who ≤ 9223372036854775807) :
    Calls Try.prog 3 #[argV floor A l.length c who other] w (LawPost w) := by
  by_cases hl : 60 < l.length
  · exact truth_long floor who other A l.length c w hl
  · have hl' : l.length ≤ 60 := by omega
    rcases sell_cases floor l with ⟨h1, h2⟩ | ⟨h1, h2⟩
    · exact truth_bad floor who other A c l w hl' h hw (sellI floor l).2 (by rw [← h2]) h1
    · rcases Nat.eq_zero_or_pos l.length with h0 | h0
      · obtain rfl := List.eq_nil_of_length_eq_zero h0
        exact truth_nil floor who other A c w h (by rw [h2]; rfl)
      · exact truth_main floor who other A c l w hl' hlc h0 h hw hwho h1

theorem own : ownKnob Try.prog.godebug = none := by kernel_rfl
theorem laidOut : laidOutB Try.prog = true := by kernel_rfl
theorem cells24 : Try.prog.cellsOf 24 = 4 := by kernel_rfl
theorem cells33 : Try.prog.cellsOf 33 = 2 := by kernel_rfl
theorem result3 : Try.f3.resultTypes = #[4] := by kernel_rfl
theorem read24 : Try.prog.readableRec 24 = true := by kernel_rfl
theorem there24 : 24 < Try.prog.types.size := of_decide_eq_true (by kernel_rfl)
set_option maxRecDepth 100000 in
theorem lifted (os : Os) (started : os.Started) (H : Type) (enc : TypeId × Value → H) :
    ReturnsInHanded {} Try.checked os 3 .any (Rows.sealedTruthSpec.pre6 enc Try.prog Try.f3 Rows.sealedTruthRow.domain false) (Rows.sealedTruthSpec.post enc Try.prog Try.f3 false true false false) := by
  refine returnsInHanded_of_change (C := Try.checked) own started (by kernel_rfl) Try.func3
    (ChangeSpec.witness6 (enc := enc) (C := Try.checked) false ⟨#[], #[.agg #[.int .i64 0, .slice none 0 0, .int .i64 0, .int .i64 0]], []⟩ 8 (by kernel_rfl) (by kernel_rfl) (by kernel_rfl) (by kernel_rfl)) ?_
  intro W base args ds gs before hval0 hW hcnd _
  have hval : ∀ (j : Nat) t v, Try.f3.params[j]? = some t → args[j]? = some v → Value.okWide Try.prog W .any base t v := hval0
  have hW' := hW
  obtain ⟨p, q, hA0, hV, rfl, hfz, hnd⟩ := hW
  have hA : DataW.TrodAll enc Try.prog W 0 (fun _ => true) true Try.f3.params.toList args.toList ds p := hA0
  rw [Try.params3] at hA hval
  obtain ⟨v0, vs0, d0, ds0, p0, q0, hargs, rfl, rfl, h0, r0⟩ := trodAll_cons hA
  obtain ⟨rfl, rfl, rfl⟩ := trodAll_nil r0
  obtain rfl : args = #[v0] := by cases args; simp_all
  refine law_post (P := Try.prog) laidOut Try.underlying4 result3 (fun t ht => ?_) rfl hW' rfl ?_
  · rw [Try.params3] at ht
    obtain rfl : t = 24 := by simpa using ht
    exact ⟨read24, there24⟩
  · obtain ⟨c0, c1, c2, c3, y0, y1, y2, y3, m, rfl, rfl, rfl, hy0, hy1, hy2, hy3⟩ := open_agg4 Try.underlying24 (by kernel_rfl) cells24 (hval 0 24 v0 rfl rfl) h0
    obtain ⟨a, e0, rfl, wa⟩ := DataW.trod_int Try.underlying2 hy0
    obtain ⟨b, e2, rfl, wb⟩ := DataW.trod_int Try.underlying3 hy2
    obtain ⟨d, e3, rfl, wd⟩ := DataW.trod_int Try.underlying2 hy3
    obtain ⟨A, n, c, xs, e1, hnc, hcm, hxn, hxl, hxw, hr⟩ := open_recs Try.underlying22 Try.underlying33 (by kernel_rfl) cells33 [.i64, .i64] rfl (by decide) (fun j f hj => by
      match j, hj with
      | 0, hj => exact ⟨.i64, rfl, by simp at hj; subst hj; exact Try.underlying3⟩
      | 1, hj => exact ⟨.i64, rfl, by simp at hj; subst hj; exact Try.underlying2⟩
      | j + 2, hj => simp at hj) hy1
    simp only [List.cons.injEq, and_true] at e0 e1 e2 e3
    subst e0 e1 e2 e3
    obtain ⟨l, rfl, hb, hwd⟩ := bids_of hxn hxl hxw hr
    exact truth_any a b d A c l W hnc hb hwd (bounds_i64 wb)

theorem over : Rows.sealedTruthRow.holds Try.pinned (OpenSpec.ofChange Rows.sealedTruthSpec) :=
  OpenClaim.holds_of_wide 3 Try.f3 rfl rfl rfl rfl rfl rfl rfl ⟨rfl, rfl, rfl, rfl, rfl⟩ rfl rfl rfl rfl rfl (by kernel_rfl) Try.func3 (by kernel_rfl)
    (of_decide_eq_true (by kernel_rfl)) (by unfold Func.isWrapper; first | (rw [if_pos (by decide +kernel)]; kernel_rfl) | (rw [if_neg (by decide +kernel)]; exact ⟨rfl, rfl⟩))
    (fun os started H enc _ => lifted os started H enc)

theorem sealed_truth : Rows.SealedTruthSaid := over
#print axioms sealed_truth
end Go.Proofs.Ytnidmoljhopcoaa
