/- Proved: gavellaw03.TicksMeanwhile answers true for every two lists of dues, and leaves them as they were. Conditions: none. -/
import Derived.Test.YtdaicdaakegdmaaMnw
import Derived.Test.YtdaicdaakegdmaaLift
namespace Go.Proofs.Ytdaicdaakegdmaa
open Go.ChangeShapes Go.WideShapes Go.ChangeAt Go.RowKit

theorem cellsDue : Try.prog.cellsOf 30 = 2 := by kernel_rfl
section
variable {H : Type} {enc : TypeId × Value → H} {w : World} {base : Nat} {spare : Nat → Bool} {held : Bool}
theorem recs_flatD : ∀ {xs : List (List Int)}, (∀ x ∈ xs, x.length = 2) → recs [.i64, .i64] xs = flatD (xs.map fun x => (x.getD 0 0, x.getD 1 0))
  | [], _ => rfl
  | x :: xs, hl => by
    have h1 := recs_flatD (xs := xs) (fun y hy => hl y (List.mem_cons_of_mem _ hy))
    have h2 := hl x List.mem_cons_self
    match x, h2 with
    | [a, b], _ =>
      have e : recs [.i64, .i64] ([a, b] :: xs) = .int .i64 a :: .int .i64 b :: recs [.i64, .i64] xs := rfl
      rw [e, h1]
      rfl
set_option maxRecDepth 100000 in
/-- A slice of dues reads as a list. -/
theorem open_dues {fuel : Nat} {cs : List Value} {x : DataW H × List MemPlace} (h : DataW.trod enc Try.prog w base spare held fuel 22 cs = some x) :
    ∃ (A : Option Addr) (n c : Nat) (l : List Du), cs = [.slice A n c] ∧ DuesW w A n l := by
  obtain ⟨A, n, c, xs, rfl, hnc, hcm, hxn, hxl, hxw, hr⟩ := open_recs Try.underlying22 Try.underlying30 (by kernel_rfl) cellsDue [.i64, .i64] rfl (by decide) (fun j f hj => by
      match j, hj with
      | 0, hj => exact ⟨.i64, rfl, by simp at hj; subst hj; exact Try.underlying2⟩
      | 1, hj => exact ⟨.i64, rfl, by simp at hj; subst hj; exact Try.underlying2⟩
      | j + 2, hj => simp at hj) h
  refine ⟨A, n, c, xs.map fun x => (x.getD 0 0, x.getD 1 0), rfl, by simpa using hxn, ?_, ?_⟩
  · rw [← recs_flatD hxl]
    exact hr
  · intro y hy
    obtain ⟨x, hx, rfl⟩ := List.mem_map.1 hy
    have h2 := hxl x hx
    match x, h2 with
    | [a, b], _ => exact ⟨bounds_i64 (hxw _ hx 0 .i64 a rfl rfl), bounds_i64 (hxw _ hx 1 .i64 b rfl rfl)⟩
end

theorem own : ownKnob Try.prog.godebug = none := by kernel_rfl
theorem laidOut : laidOutB Try.prog = true := by kernel_rfl
theorem resultLaw4 : Try.f4.resultTypes = #[4] := by kernel_rfl
theorem read22 : Try.prog.readableRec 22 = true := by kernel_rfl
theorem read2 : Try.prog.readableRec 2 = true := by kernel_rfl
theorem there22 : 22 < Try.prog.types.size := of_decide_eq_true (by kernel_rfl)
theorem there2 : 2 < Try.prog.types.size := of_decide_eq_true (by kernel_rfl)

set_option maxRecDepth 100000 in
theorem lifted4 (os : Os) (started : os.Started) (H : Type) (enc : TypeId × Value → H) :
    ReturnsInHanded {} Try.checked os 4 .any (Rows.ticksMeanwhileSpec.pre6 enc Try.prog Try.f4 Rows.ticksMeanwhileRow.domain false) (Rows.ticksMeanwhileSpec.post enc Try.prog Try.f4 false true false false) := by
  refine returnsInHanded_of_change (C := Try.checked) own started (by kernel_rfl) Try.func4
    (ChangeSpec.witness6 (enc := enc) (C := Try.checked) false ⟨#[], #[.slice none 0 0, .slice none 0 0], []⟩ 8 (by kernel_rfl) (by kernel_rfl) (by kernel_rfl) (by kernel_rfl)) ?_
  intro W base args ds gs before hval0 hW hcnd _
  have hval : ∀ (j : Nat) t v, Try.f4.params[j]? = some t → args[j]? = some v → Value.okWide Try.prog W .any base t v := hval0
  have hW' := hW
  obtain ⟨p, q, hA0, hV, rfl, hfz, hnd⟩ := hW
  have hA : DataW.TrodAll enc Try.prog W 0 (fun _ => true) true Try.f4.params.toList args.toList ds p := hA0
  rw [Try.params4] at hA hval
  obtain ⟨v0, vs0, d0, ds0, p0, q0, hargs, rfl, rfl, h0, r0⟩ := trodAll_cons hA
  obtain ⟨v1, vs1, d1, ds1, p1, q1, rfl, rfl, rfl, h1, r1⟩ := trodAll_cons r0
  obtain ⟨rfl, rfl, rfl⟩ := trodAll_nil r1
  obtain rfl : args = #[v0, v1] := by cases args; simp_all
  refine law_post (P := Try.prog) laidOut Try.underlying4 resultLaw4 (fun t ht => ?_) rfl hW' rfl ?_
  · rw [Try.params4] at ht
    have : t = 22 := by simpa using ht
    rcases this with rfl
    exact ⟨read22, there22⟩
  · obtain ⟨a1, len1, cap1, rfl⟩ := okWide_slice Try.underlying22 (hval 0 22 v0 rfl rfl)
    obtain ⟨a2, len2, cap2, rfl⟩ := okWide_slice Try.underlying22 (hval 1 22 v1 rfl rfl)
    obtain ⟨fu, hf⟩ := h0
    obtain ⟨fu2, hf2⟩ := h1
    obtain ⟨A, n, c, l, e1, hd⟩ := open_dues hf
    obtain ⟨A2, n2, c2, l2, e2, hd2⟩ := open_dues hf2
    simp only [Value.cells, List.cons.injEq, and_true, Value.slice.injEq] at e1 e2
    obtain ⟨rfl, rfl, rfl⟩ := e1
    obtain ⟨rfl, rfl, rfl⟩ := e2
    exact meanwhile_any a1 len1 cap1 l a2 len2 cap2 l2 W hd hd2

theorem over4 : Rows.ticksMeanwhileRow.holds Try.pinned (OpenSpec.ofChange Rows.ticksMeanwhileSpec) :=
  OpenClaim.holds_of_wide 4 Try.f4 rfl rfl rfl rfl rfl rfl rfl ⟨rfl, rfl, rfl, rfl, rfl⟩ rfl rfl rfl rfl rfl (by kernel_rfl) Try.func4 (by kernel_rfl)
    (of_decide_eq_true (by kernel_rfl)) (by unfold Func.isWrapper; first | (rw [if_pos (by decide +kernel)]; kernel_rfl) | (rw [if_neg (by decide +kernel)]; exact ⟨rfl, rfl⟩))
    (fun os started H enc _ => lifted4 os started H enc)

theorem ticks_meanwhile : Rows.TicksMeanwhileSaid := over4
#print axioms ticks_meanwhile
end Go.Proofs.Ytdaicdaakegdmaa
