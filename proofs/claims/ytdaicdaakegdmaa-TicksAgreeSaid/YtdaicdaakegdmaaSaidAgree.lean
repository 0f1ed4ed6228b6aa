/- Proved: gavellaw03.TicksAgree answers true for every list of dues and every two ticks, and leaves the list as it was. Conditions: none. -/
import Derived.Test.YtdaicdaakegdmaaAgr
import Derived.Test.YtdaicdaakegdmaaLift
namespace Go.Proofs.Ytdaicdaakegdmaa
open Go.ChangeShapes Go.WideShapes Go.ChangeAt Go.RowKit

theorem cellsDue : Try.prog.cellsOf 30 = 2 := by kernel_rfl
section
variable {H : Type} {enc : TypeId × Value → H} {w : World} {base : Nat} {spare : Nat → Bool} {held : Bool}
theorem recs_flatD : ∀ {xs : List (List Int)}, (∀ x ∈ xs, x.length = 2) → recs [.i64, .i64] xs = flatD (xs.map fun x => (x.getD 0 0, x.getD 1 0))
  | [], _ => rfl
  | x :: xs, hl => by
    have h1 := recs_flatD (xs := xs) (fun y hy => hl y (List.mem_cons_of_mem _ hy))
    have h2 := hl x List.mem_cons_self
    match x, h2 with
    | [a, b], _ =>
      have e : recs [.i64, .i64] ([a, b] :: xs) = .int .i64 a :: .int .i64 b :: recs [.i64, .i64] xs := rfl
      rw [e, h1]
      rfl
set_option maxRecDepth 100000 in
/-- A slice of dues reads as a list. -/
theorem open_dues {fuel : Nat} {cs : List Value} {x : DataW H × List MemPlace} (h : DataW.trod enc Try.prog w base spare held fuel 22 cs = some x) :
    ∃ (A : Option Addr) (n c : Nat) (l : List Du), cs = [.slice A n c] ∧ DuesW w A n l := by
  obtain ⟨A, n, c, xs, rfl, hnc, hcm, hxn, hxl, hxw, hr⟩ := open_recs Try.underlying22 Try.underlying30 (by kernel_rfl) cellsDue [.i64, .i64] rfl (by decide) (fun j f hj => by
      match j, hj with
      | 0, hj => exact ⟨.i64, rfl, by simp at hj; subst hj; exact Try.underlying2⟩
      | 1, hj => exact ⟨.i64, rfl, by simp at hj; subst hj; exact Try.underlying2⟩
      | j + 2, hj => simp at hj) h
  refine ⟨A, n, c, xs.map fun x => (x.getD 0 0, x.getD 1 0), rfl, by simpa using hxn, ?_, ?_⟩
  · rw [← recs_flatD hxl]
    exact hr
  · intro y hy
    obtain ⟨x, hx, rfl⟩ := List.mem_map.1 hy
    have h2 := hxl x hx
    match x, h2 with
    | [a, b], _ => exact ⟨bounds_i64 (hxw _ hx 0 .i64 a rfl rfl), bounds_i64 (hxw _ hx 1 .i64 b rfl rfl)⟩
end

theorem own : ownKnob Try.prog.godebug = none := by kernel_rfl
theorem laidOut : laidOutB Try.prog = true := by kernel_rfl
theorem resultLaw3 : Try.f3.resultTypes = #[4] := by kernel_rfl
theorem read22 : Try.prog.readableRec 22 = true := by kernel_rfl
theorem read2 : Try.prog.readableRec 2 = true := by kernel_rfl
theorem there22 : 22 < Try.prog.types.size := of_decide_eq_true (by kernel_rfl)
theorem there2 : 2 < Try.prog.types.size := of_decide_eq_true (by kernel_rfl)

set_option maxRecDepth 100000 in
theorem lifted3 (os : Os) (started : os.Started) (H : Type) (enc : TypeId × Value → H) :
    ReturnsInHanded {} Try.checked os 3 .any (Rows.ticksAgreeSpec.pre6 enc Try.prog Try.f3 Rows.ticksAgreeRow.domain false) (Rows.ticksAgreeSpec.post enc Try.prog Try.f3 false true false false) := by
  refine returnsInHanded_of_change (C := Try.checked) own started (by kernel_rfl) Try.func3
    (ChangeSpec.witness6 (enc := enc) (C := Try.checked) false ⟨#[], #[.slice none 0 0, .int .i64 0, .int .i64 0], []⟩ 8 (by kernel_rfl) (by kernel_rfl) (by kernel_rfl) (by kernel_rfl)) ?_
  intro W base args ds gs before hval0 hW hcnd _
  have hval : ∀ (j : Nat) t v, Try.f3.params[j]? = some t → args[j]? = some v → Value.okWide Try.prog W .any base t v := hval0
  have hW' := hW
  obtain ⟨p, q, hA0, hV, rfl, hfz, hnd⟩ := hW
  have hA : DataW.TrodAll enc Try.prog W 0 (fun _ => true) true Try.f3.params.toList args.toList ds p := hA0
  rw [Try.params3] at hA hval
  obtain ⟨v0, vs0, d0, ds0, p0, q0, hargs, rfl, rfl, h0, r0⟩ := trodAll_cons hA
  obtain ⟨v1, vs1, d1, ds1, p1, q1, rfl, rfl, rfl, h1, r1⟩ := trodAll_cons r0
  obtain ⟨v2, vs2, d2, ds2, p2, q2, rfl, rfl, rfl, h2, r2⟩ := trodAll_cons r1
  obtain ⟨rfl, rfl, rfl⟩ := trodAll_nil r2
  obtain rfl : args = #[v0, v1, v2] := by cases args; simp_all
  refine law_post (P := Try.prog) laidOut Try.underlying4 resultLaw3 (fun t ht => ?_) rfl hW' rfl ?_
  · rw [Try.params3] at ht
    have : t = 22 ∨ t = 2 := by simpa using ht
    rcases this with rfl | rfl
    · exact ⟨read22, there22⟩
    · exact ⟨read2, there2⟩
  · obtain ⟨a1, len1, cap1, rfl⟩ := okWide_slice Try.underlying22 (hval 0 22 v0 rfl rfl)
    obtain ⟨x1, rfl, rfl, rfl, w1⟩ := open_int Try.underlying2 (hval 1 2 v1 rfl rfl) h1
    obtain ⟨x2, rfl, rfl, rfl, w2⟩ := open_int Try.underlying2 (hval 2 2 v2 rfl rfl) h2
    obtain ⟨fu, hf⟩ := h0
    obtain ⟨A, n, c, l, e1, hd⟩ := open_dues hf
    simp only [Value.cells, List.cons.injEq, and_true, Value.slice.injEq] at e1
    obtain ⟨rfl, rfl, rfl⟩ := e1
    exact agree_any a1 len1 cap1 l x1 x2 W hd

theorem over3 : Rows.ticksAgreeRow.holds Try.pinned (OpenSpec.ofChange Rows.ticksAgreeSpec) :=
  OpenClaim.holds_of_wide 3 Try.f3 rfl rfl rfl rfl rfl rfl rfl ⟨rfl, rfl, rfl, rfl, rfl⟩ rfl rfl rfl rfl rfl (by kernel_rfl) Try.func3 (by kernel_rfl)
    (of_decide_eq_true (by kernel_rfl)) (by unfold Func.isWrapper; first | (rw [if_pos (by decide +kernel)]; kernel_rfl) | (rw [if_neg (by decide +kernel)]; exact ⟨rfl, rfl⟩))
    (fun os started H enc _ => lifted3 os started H enc)

theorem ticks_agree : Rows.TicksAgreeSaid := over3
#print axioms ticks_agree
end Go.Proofs.Ytdaicdaakegdmaa
