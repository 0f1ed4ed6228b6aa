/- Proved: gavellaw03.TicksPlay answers true for every tick, every list of dues and every list of steps, and leaves both lists as they were. Conditions: none. -/
import Derived.Test.YtdaicdaakegdmaaPly
import Derived.Test.YtdaicdaakegdmaaLift
namespace Go.Proofs.Ytdaicdaakegdmaa
open Go.ChangeShapes Go.WideShapes Go.ChangeAt Go.RowKit

theorem cellsDue : Try.prog.cellsOf 30 = 2 := by kernel_rfl
section
variable {H : Type} {enc : TypeId × Value → H} {w : World} {base : Nat} {spare : Nat → Bool} {held : Bool}
theorem recs_flatD : ∀ {xs : List (List Int)}, (∀ x ∈ xs, x.length = 2) → recs [.i64, .i64] xs = flatD (xs.map fun x => (x.getD 0 0, x.getD 1 0))
  | [], _ => rfl
  | x :: xs, hl => by
    have h1 := recs_flatD (xs := xs) (fun y hy => hl y (List.mem_cons_of_mem _ hy))
    have h2 := hl x List.mem_cons_self
    match x, h2 with
    | [a, b], _ =>
      have e : recs [.i64, .i64] ([a, b] :: xs) = .int .i64 a :: .int .i64 b :: recs [.i64, .i64] xs := rfl
      rw [e, h1]
      rfl
set_option maxRecDepth 100000 in
/-- A slice of dues reads as a list. -/
theorem open_dues {fuel : Nat} {cs : List Value} {x : DataW H × List MemPlace} (h : DataW.trod enc Try.prog w base spare held fuel 22 cs = some x) :
    ∃ (A : Option Addr) (n c : Nat) (l : List Du), cs = [.slice A n c] ∧ DuesW w A n l := by
  obtain ⟨A, n, c, xs, rfl, hnc, hcm, hxn, hxl, hxw, hr⟩ := open_recs Try.underlying22 Try.underlying30 (by kernel_rfl) cellsDue [.i64, .i64] rfl (by decide) (fun j f hj => by
      match j, hj with
      | 0, hj => exact ⟨.i64, rfl, by simp at hj; subst hj; exact Try.underlying2⟩
      | 1, hj => exact ⟨.i64, rfl, by simp at hj; subst hj; exact Try.underlying2⟩
      | j + 2, hj => simp at hj) h
  refine ⟨A, n, c, xs.map fun x => (x.getD 0 0, x.getD 1 0), rfl, by simpa using hxn, ?_, ?_⟩
  · rw [← recs_flatD hxl]
    exact hr
  · intro y hy
    obtain ⟨x, hx, rfl⟩ := List.mem_map.1 hy
    have h2 := hxl x hx
    match x, h2 with
    | [a, b], _ => exact ⟨bounds_i64 (hxw _ hx 0 .i64 a rfl rfl), bounds_i64 (hxw _ hx 1 .i64 b rfl rfl)⟩
end

theorem cellsOp : Try.prog.cellsOf 61 = 4 := by kernel_rfl
theorem recs_four : ∀ {xs : List (List Int)}, (∀ x ∈ xs, x.length = 4) → ∀ k, k < xs.length → ∀ i, i < 4 → (recs [.i64, .i64, .i64, .i64] xs)[k * 4 + i]? = some (.int .i64 ((xs.getD k []).getD i 0))
  | [], _, k, hk, _, _ => by simp at hk
  | x :: xs, hl, k, hk, i, hi => by
    have h2 := hl x List.mem_cons_self
    match x, h2 with
    | [a, b, c, d], _ =>
      have e : recs [.i64, .i64, .i64, .i64] ([a, b, c, d] :: xs) = .int .i64 a :: .int .i64 b :: .int .i64 c :: .int .i64 d :: recs [.i64, .i64, .i64, .i64] xs := rfl
      rw [e]
      match k with
      | 0 =>
        have : i = 0 ∨ i = 1 ∨ i = 2 ∨ i = 3 := by omega
        rcases this with rfl | rfl | rfl | rfl <;> rfl
      | k + 1 =>
        have h1 := recs_four (xs := xs) (fun y hy => hl y (List.mem_cons_of_mem _ hy)) k (by simpa using hk) i hi
        have e2 : (k + 1) * 4 + i = (k * 4 + i) + 1 + 1 + 1 + 1 := by omega
        rw [e2, List.getElem?_cons_succ, List.getElem?_cons_succ, List.getElem?_cons_succ, List.getElem?_cons_succ, h1]
        rfl
set_option maxRecDepth 100000 in
/-- A slice of steps, as it reads. -/
theorem open_ops {H : Type} {enc : TypeId × Value → H} {w : World} {base : Nat} {spare : Nat → Bool} {held : Bool} {fuel : Nat} {cs : List Value} {x : DataW H × List MemPlace} (h : DataW.trod enc Try.prog w base spare held fuel 48 cs = some x) :
    ∃ (A : Option Addr) (n c : Nat), cs = [.slice A n c] ∧ OpsW w A n := by
  obtain ⟨A, n, c, xs, rfl, hnc, hcm, hxn, hxl, hxw, hr⟩ := open_recs Try.underlying48 Try.underlying61 (by kernel_rfl) cellsOp [.i64, .i64, .i64, .i64] rfl (by decide) (fun j f hj => by
      match j, hj with
      | 0, hj => exact ⟨.i64, rfl, by simp at hj; subst hj; exact Try.underlying3⟩
      | 1, hj => exact ⟨.i64, rfl, by simp at hj; subst hj; exact Try.underlying3⟩
      | 2, hj => exact ⟨.i64, rfl, by simp at hj; subst hj; exact Try.underlying2⟩
      | 3, hj => exact ⟨.i64, rfl, by simp at hj; subst hj; exact Try.underlying2⟩
      | j + 4, hj => simp at hj) h
  refine ⟨A, n, c, rfl, ⟨fun k hk => ?_⟩⟩
  obtain ⟨g, o, e, hg, hc⟩ := hr.2 (by omega)
  have hx := fun i (hi : i < 4) => recs_four hxl k (by omega) i hi
  have hm : xs.getD k [] ∈ xs := by
    rw [List.getD_eq_getElem?_getD, List.getElem?_eq_getElem (show k < xs.length by omega)]
    exact List.getElem_mem _
  have h2 := hxl _ hm
  have hw := hxw _ hm
  generalize xs.getD k [] = y at *
  match y, h2, hx, hw with
  | [a, b, c', d], _, hx, hw =>
    exact ⟨g, o, a, b, c', d, e, hg, hc _ _ (hx 0 (by decide)), hc _ _ (hx 1 (by decide)), hc _ _ (hx 2 (by decide)), hc _ _ (hx 3 (by decide)), bounds_i64 (hw 2 .i64 c' rfl rfl)⟩

theorem own : ownKnob Try.prog.godebug = none := by kernel_rfl
theorem laidOut : laidOutB Try.prog = true := by kernel_rfl
theorem resultLaw5 : Try.f5.resultTypes = #[4] := by kernel_rfl
theorem read22 : Try.prog.readableRec 22 = true := by kernel_rfl
theorem read2 : Try.prog.readableRec 2 = true := by kernel_rfl
theorem there22 : 22 < Try.prog.types.size := of_decide_eq_true (by kernel_rfl)
theorem read48 : Try.prog.readableRec 48 = true := by kernel_rfl
theorem there48 : 48 < Try.prog.types.size := of_decide_eq_true (by kernel_rfl)
theorem there2 : 2 < Try.prog.types.size := of_decide_eq_true (by kernel_rfl)

set_option maxRecDepth 100000 in
theorem lifted5 (os : Os) (started : os.Started) (H : Type) (enc : TypeId × Value → H) :
    ReturnsInHanded {} Try.checked os 5 .any (Rows.ticksPlaySpec.pre6 enc Try.prog Try.f5 Rows.ticksPlayRow.domain false) (Rows.ticksPlaySpec.post enc Try.prog Try.f5 false true false false) := by
  refine returnsInHanded_of_change (C := Try.checked) own started (by kernel_rfl) Try.func5
    (ChangeSpec.witness6 (enc := enc) (C := Try.checked) false ⟨#[], #[.int .i64 0, .slice none 0 0, .slice none 0 0], []⟩ 8 (by kernel_rfl) (by kernel_rfl) (by kernel_rfl) (by kernel_rfl)) ?_
  intro W base args ds gs before hval0 hW hcnd _
  have hval : ∀ (j : Nat) t v, Try.f5.params[j]? = some t → args[j]? = some v → Value.okWide Try.prog W .any base t v := hval0
  have hW' := hW
  obtain ⟨p, q, hA0, hV, rfl, hfz, hnd⟩ := hW
  have hA : DataW.TrodAll enc Try.prog W 0 (fun _ => true) true Try.f5.params.toList args.toList ds p := hA0
  rw [Try.params5] at hA hval
  obtain ⟨v0, vs0, d0, ds0, p0, q0, hargs, rfl, rfl, h0, r0⟩ := trodAll_cons hA
  obtain ⟨v1, vs1, d1, ds1, p1, q1, rfl, rfl, rfl, h1, r1⟩ := trodAll_cons r0
  obtain ⟨v2, vs2, d2, ds2, p2, q2, rfl, rfl, rfl, h2, r2⟩ := trodAll_cons r1
  obtain ⟨rfl, rfl, rfl⟩ := trodAll_nil r2
  obtain rfl : args = #[v0, v1, v2] := by cases args; simp_all
  refine law_post (P := Try.prog) laidOut Try.underlying4 resultLaw5 (fun t ht => ?_) rfl hW' rfl ?_
  · rw [Try.params5] at ht
    have : t = 2 ∨ t = 22 ∨ t = 48 := by simpa using ht
    rcases this with rfl | rfl | rfl
    · exact ⟨read2, there2⟩
    · exact ⟨read22, there22⟩
    · exact ⟨read48, there48⟩
  · obtain ⟨x0, rfl, rfl, rfl, w0⟩ := open_int Try.underlying2 (hval 0 2 v0 rfl rfl) h0
    obtain ⟨a1, len1, cap1, rfl⟩ := okWide_slice Try.underlying22 (hval 1 22 v1 rfl rfl)
    obtain ⟨a2, len2, cap2, rfl⟩ := okWide_slice Try.underlying48 (hval 2 48 v2 rfl rfl)
    obtain ⟨fu, hf⟩ := h1
    obtain ⟨fu2, hf2⟩ := h2
    obtain ⟨A, n, c, l, e1, hd⟩ := open_dues hf
    obtain ⟨A2, n2, c2, e2, hd2⟩ := open_ops hf2
    simp only [Value.cells, List.cons.injEq, and_true, Value.slice.injEq] at e1 e2
    obtain ⟨rfl, rfl, rfl⟩ := e1
    obtain ⟨rfl, rfl, rfl⟩ := e2
    exact play_any x0 a1 len1 cap1 l a2 len2 cap2 W hd hd2

theorem over5 : Rows.ticksPlayRow.holds Try.pinned (OpenSpec.ofChange Rows.ticksPlaySpec) :=
  OpenClaim.holds_of_wide 5 Try.f5 rfl rfl rfl rfl rfl rfl rfl ⟨rfl, rfl, rfl, rfl, rfl⟩ rfl rfl rfl rfl rfl (by kernel_rfl) Try.func5 (by kernel_rfl)
    (of_decide_eq_true (by kernel_rfl)) (by unfold Func.isWrapper; first | (rw [if_pos (by decide +kernel)]; kernel_rfl) | (rw [if_neg (by decide +kernel)]; exact ⟨rfl, rfl⟩))
    (fun os started H enc _ => lifted5 os started H enc)

theorem ticks_play : Rows.TicksPlaySaid := over5
#print axioms ticks_play
end Go.Proofs.Ytdaicdaakegdmaa
