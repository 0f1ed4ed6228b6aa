/- Proved: gavellaw13.CallMost answers true for every input, and leaves it as it was. Conditions: none. -/
import Derived.Test.YtogicdljbnllgaaMost
import Derived.Test.YtogicdljbnllgaaOpenW
namespace Go.Proofs.Ytogicdljbnllgaa
open Go.ChangeShapes Go.WideShapes Go.ChangeAt Go.RowKit Go.Joins

theorem cellsPr : Try.prog.cellsOf 58 = 3 := by kernel_rfl
section
variable {H : Type} {enc : TypeId × Value → H} {w : World} {base : Nat} {spare : Nat → Bool} {held : Bool}
theorem recs_flat3 : ∀ {xs : List (List Int)}, (∀ x ∈ xs, x.length = 3) → recs [.i64, .i64, .i64] xs = flat3 (xs.map fun x => (x.getD 0 0, x.getD 1 0, x.getD 2 0))
  | [], _ => rfl
  | x :: xs, hl => by
    have h1 := recs_flat3 (xs := xs) (fun y hy => hl y (List.mem_cons_of_mem _ hy))
    have h2 := hl x List.mem_cons_self
    match x, h2 with
    | [a, b, c], _ =>
      have e : recs [.i64, .i64, .i64] ([a, b, c] :: xs) = .int .i64 a :: .int .i64 b :: .int .i64 c :: recs [.i64, .i64, .i64] xs := rfl
      rw [e, h1]
      rfl
set_option maxRecDepth 100000 in
theorem open_pairs {fuel : Nat} {cs : List Value} {x : DataW H × List MemPlace} (h : DataW.trod enc Try.prog w base spare held fuel 57 cs = some x) :
    ∃ (A : Option Addr) (c : Nat) (l : List (Int × Int × Int)), cs = [.slice A l.length c] ∧ l.length ≤ maxLen ∧ PairsW w w.heap.size A l ∧ ∀ p ∈ l, (-9223372036854775808 ≤ p.1 ∧ p.1 ≤ 9223372036854775807) ∧ (-9223372036854775808 ≤ p.2.1 ∧ p.2.1 ≤ 9223372036854775807) ∧ -9223372036854775808 ≤ p.2.2 ∧ p.2.2 ≤ 9223372036854775807 := by
  obtain ⟨A, n, c, xs, rfl, hnc, hcm, hxn, hxl, hxw, hr⟩ := open_recs Try.underlying57 Try.underlying58 (by kernel_rfl) cellsPr [.i64, .i64, .i64] rfl (by decide) (fun j f hj => by
      match j, hj with
      | 0, hj => exact ⟨.i64, rfl, by simp at hj; subst hj; exact Try.underlying3⟩
      | 1, hj => exact ⟨.i64, rfl, by simp at hj; subst hj; exact Try.underlying3⟩
      | 2, hj => exact ⟨.i64, rfl, by simp at hj; subst hj; exact Try.underlying3⟩
      | j + 3, hj => simp at hj) h
  have hlen : (xs.map fun x => (x.getD 0 0, x.getD 1 0, x.getD 2 0)).length = n := by simpa using hxn
  refine ⟨A, c, xs.map fun x => (x.getD 0 0, x.getD 1 0, x.getD 2 0), by rw [hlen], by omega, ?_, ?_⟩
  · unfold PairsW
    rw [← recs_flat3 hxl, hlen]
    exact hr
  · intro y hy
    obtain ⟨x, hx, rfl⟩ := List.mem_map.1 hy
    have h2 := hxl x hx
    match x, h2 with
    | [a, b, c], _ => exact ⟨bounds_i64 (hxw _ hx 0 .i64 a rfl rfl), bounds_i64 (hxw _ hx 1 .i64 b rfl rfl), bounds_i64 (hxw _ hx 2 .i64 c rfl rfl)⟩
end

theorem own : ownKnob Try.prog.godebug = none := by kernel_rfl
theorem laidOut : laidOutB Try.prog = true := by kernel_rfl
theorem resultLaw : Try.f5.resultTypes = #[4] := by kernel_rfl
theorem read0 : Try.prog.readableRec 22 = true := by kernel_rfl
theorem there0 : 22 < Try.prog.types.size := of_decide_eq_true (by kernel_rfl)
theorem read1 : Try.prog.readableRec 57 = true := by kernel_rfl
theorem there1 : 57 < Try.prog.types.size := of_decide_eq_true (by kernel_rfl)
set_option maxRecDepth 100000 in
theorem lifted (os : Os) (started : os.Started) (H : Type) (enc : TypeId × Value → H) :
    ReturnsInHanded {} Try.checked os 5 .any (Rows.callMostSpec.pre6 enc Try.prog Try.f5 Rows.callMostRow.domain false) (Rows.callMostSpec.post enc Try.prog Try.f5 false true false false) := by
  refine returnsInHanded_of_change (C := Try.checked) own started (by kernel_rfl) Try.func5
    (ChangeSpec.witness6 (enc := enc) (C := Try.checked) false ⟨#[], #[.slice none 0 0, .slice none 0 0, .slice none 0 0], []⟩ 8 (by kernel_rfl) (by kernel_rfl) (by kernel_rfl) (by kernel_rfl)) ?_
  intro W base args ds gs before hval0 hW hcnd _
  have hval : ∀ (j : Nat) t v, Try.f5.params[j]? = some t → args[j]? = some v → Value.okWide Try.prog W .any base t v := hval0
  have hW' := hW
  obtain ⟨p, q, hA0, hV, rfl, hfz, hnd⟩ := hW
  have hA : DataW.TrodAll enc Try.prog W 0 (fun _ => true) true Try.f5.params.toList args.toList ds p := hA0
  rw [Try.params5] at hA hval
  obtain ⟨v0, vs0, d0, ds0, p0, q0, hargs, rfl, rfl, h0, r0⟩ := trodAll_cons hA
  obtain ⟨v1, vs1, d1, ds1, p1, q1, rfl, rfl, rfl, h1, r1⟩ := trodAll_cons r0
  obtain ⟨v2, vs2, d2, ds2, p2, q2, rfl, rfl, rfl, h2, r2⟩ := trodAll_cons r1
  obtain ⟨rfl, rfl, rfl⟩ := trodAll_nil r2
  obtain rfl : args = #[v0, v1, v2] := by cases args; simp_all
  refine law_post (P := Try.prog) laidOut Try.underlying4 resultLaw (fun t ht => ?_) rfl hW' rfl ?_
  · rw [Try.params5] at ht
    rcases (by simpa using ht : t = 22 ∨ t = 57) with rfl | rfl
    · exact ⟨read0, there0⟩
    · exact ⟨read1, there1⟩
  · obtain ⟨a0, len0, cap0, rfl⟩ := okWide_slice Try.underlying22 (hval 0 22 v0 rfl rfl)
    obtain ⟨a1, len1, cap1, rfl⟩ := okWide_slice Try.underlying22 (hval 1 22 v1 rfl rfl)
    obtain ⟨a2, len2, cap2, rfl⟩ := okWide_slice Try.underlying57 (hval 2 57 v2 rfl rfl)
    obtain ⟨f0, h0⟩ := h0
    obtain ⟨f1, h1⟩ := h1
    obtain ⟨f2, h2⟩ := h2
    obtain ⟨A, c, b, e0, hbc, _, hz, hb, _⟩ := open_wants h0
    obtain ⟨A', c', s, e1, _, _, hz', hs, _⟩ := open_wants h1
    obtain ⟨A'', c'', ps, e2, hpl, hpp, hpw⟩ := open_pairs h2
    simp only [Value.cells, List.cons.injEq, and_true, Value.slice.injEq] at e0 e1 e2
    obtain ⟨rfl, rfl, rfl⟩ := e0
    obtain ⟨rfl, rfl, rfl⟩ := e1
    obtain ⟨rfl, rfl, rfl⟩ := e2
    exact most_any a0 cap0 b a1 cap1 s a2 cap2 ps W hb hs hpp hz hz' hbc (by unfold maxLen at hpl; omega) hpw

theorem over : Rows.callMostRow.holds Try.pinned (OpenSpec.ofChange Rows.callMostSpec) :=
  OpenClaim.holds_of_wide 5 Try.f5 rfl rfl rfl rfl rfl rfl rfl ⟨rfl, rfl, rfl, rfl, rfl⟩ rfl rfl rfl rfl rfl (by kernel_rfl) Try.func5 (by kernel_rfl)
    (of_decide_eq_true (by kernel_rfl)) (by unfold Func.isWrapper; first | (rw [if_pos (by decide +kernel)]; kernel_rfl) | (rw [if_neg (by decide +kernel)]; exact ⟨rfl, rfl⟩))
    (fun os started H enc _ => lifted os started H enc)

theorem call_most : Rows.CallMostSaid := over
#print axioms call_most
end Go.Proofs.Ytogicdljbnllgaa
