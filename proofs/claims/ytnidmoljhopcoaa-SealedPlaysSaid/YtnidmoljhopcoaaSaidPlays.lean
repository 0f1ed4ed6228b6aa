/- Proved: gavellaw11.SealedPlays answers true for every input, and leaves it as it was. Conditions: none. -/
import Derived.Test.YtnidmoljhopcoaaPlayGood
import Derived.Test.YtnidmoljhopcoaaLift
namespace Go.Proofs.Ytnidmoljhopcoaa
open Go.ChangeShapes Go.WideShapes Go.ChangeAt Go.RowKit Go.Joins

theorem recs5 : ∀ {xs : List (List Int)}, (∀ x ∈ xs, x.length = 5) → ∀ k, k < xs.length → ∃ a b c d e : Int, (recs [.i64, .i64, .i64, .i64, .i64] xs)[k * 5]? = some (.int .i64 a) ∧ (recs [.i64, .i64, .i64, .i64, .i64] xs)[k * 5 + 1]? = some (.int .i64 b) ∧ (recs [.i64, .i64, .i64, .i64, .i64] xs)[k * 5 + 2]? = some (.int .i64 c) ∧ (recs [.i64, .i64, .i64, .i64, .i64] xs)[k * 5 + 3]? = some (.int .i64 d) ∧ (recs [.i64, .i64, .i64, .i64, .i64] xs)[k * 5 + 4]? = some (.int .i64 e)
  | [], _, k, hk => by simp at hk
  | x :: xs, hx, k, hk => by
    have h1 := hx x (List.mem_cons_self ..)
    match x, h1 with
    | [a, b, c, d, e], _ =>
      have e0 : recs [.i64, .i64, .i64, .i64, .i64] ([a, b, c, d, e] :: xs) = .int .i64 a :: .int .i64 b :: .int .i64 c :: .int .i64 d :: .int .i64 e :: recs [.i64, .i64, .i64, .i64, .i64] xs := rfl
      rw [e0]
      cases k with
      | zero => exact ⟨a, b, c, d, e, rfl, rfl, rfl, rfl, rfl⟩
      | succ k =>
        obtain ⟨a', b', c', d', e', q0, q1, q2, q3, q4⟩ := recs5 (fun y hy => hx y (List.mem_cons_of_mem _ hy)) k (by simpa using hk)
        rw [show (k + 1) * 5 = k * 5 + 5 by omega]
        exact ⟨a', b', c', d', e', q0, q1, q2, q3, q4⟩
theorem ops_of {w : World} {A : Option Addr} {n : Nat} {xs : List (List Int)} (hn : xs.length = n) (hl : ∀ x ∈ xs, x.length = 5) (hr : Reads w w.heap.size 5 A n (recs [.i64, .i64, .i64, .i64, .i64] xs)) : OpsAt w A n := by
  intro h0
  obtain ⟨b, o, e, hb, hc⟩ := hr.2 h0
  refine ⟨b, o, e, hb, fun k hk => ?_⟩
  obtain ⟨a', b', c', d', e', q0, q1, q2, q3, q4⟩ := recs5 hl k (by omega)
  exact ⟨a', b', c', d', e', hc _ _ q0, hc _ _ q1, hc _ _ q2, hc _ _ q3, hc _ _ q4⟩

theorem plays_any (f0 f1 : Int) (A : Option Addr) (n c : Nat) (w : World) (hn : (n : Int) ≤ 9223372036854775807) (hops : OpsAt w A n) :
    Calls Try.prog 4 #[.agg #[.int .i64 f0, .int .i64 f1], .slice A n c] w (LawPost w) := by
  rcases h0 : coinsB f0 with _ | _
  · exact plays_bad0 f0 f1 A n c w h0
  · rcases h1 : coinsB f1 with _ | _
    · exact plays_bad1 f0 f1 A n c w h0 h1
    · exact plays_good f0 f1 A n c w h0 h1 hn hops

theorem own : ownKnob Try.prog.godebug = none := by kernel_rfl
theorem laidOut : laidOutB Try.prog = true := by kernel_rfl
theorem cellsOp : Try.prog.cellsOf 52 = 5 := by kernel_rfl
theorem cellsArr : Try.prog.cellsOf 36 = 2 := by kernel_rfl
theorem cellsI64 : Try.prog.cellsOf 2 = 1 := by kernel_rfl
theorem resultLaw : Try.f4.resultTypes = #[4] := by kernel_rfl
theorem read0 : Try.prog.readableRec 36 = true := by kernel_rfl
theorem there0 : 36 < Try.prog.types.size := of_decide_eq_true (by kernel_rfl)
theorem read1 : Try.prog.readableRec 37 = true := by kernel_rfl
theorem there1 : 37 < Try.prog.types.size := of_decide_eq_true (by kernel_rfl)
theorem array2 {cs : Array Value} (h : cs.size = 2) : ∃ a b, cs = #[a, b] := by
  obtain ⟨l⟩ := cs
  match l, h with
  | [a, b], _ => exact ⟨a, b, rfl⟩
section
variable {H : Type} {enc : TypeId × Value → H} {w : World} {base : Nat} {spare : Nat → Bool} {held : Bool}
set_option maxRecDepth 100000 in
/-- An array of two numbers. -/
theorem open_two {r : Reach} {b0 : Nat} {v : Value} {d : DataW H} {p : List MemPlace} (hv : Value.okWide Try.prog w r b0 36 v) (h : DataW.Trod enc Try.prog w base spare held 36 v d p) :
    ∃ y z : Int, v = .agg #[.int .i64 y, .int .i64 z] ∧ (-9223372036854775808 ≤ y ∧ y ≤ 9223372036854775807) ∧ (-9223372036854775808 ≤ z ∧ z ≤ 9223372036854775807) := by
  simp only [Value.okWide, Try.underlying36] at hv
  obtain ⟨cs, rfl, h2, _⟩ := hv
  obtain ⟨c0, c1, rfl⟩ := array2 (h2.trans cellsArr)
  obtain ⟨fuel, hf⟩ := h
  obtain ⟨xs, m, _, _, _, hl, hel⟩ := DataW.trod_array Try.underlying36 hf
  have h0 := hel 0 (by omega)
  have h1 := hel 1 (by omega)
  rw [List.getElem?_eq_getElem (by omega)] at h0 h1
  simp only [cellsI64] at h0 h1
  obtain ⟨y, e0, _, wy⟩ := DataW.trod_int Try.underlying2 h0
  obtain ⟨z, e1, _, wz⟩ := DataW.trod_int Try.underlying2 h1
  have e0' : [c0] = [Value.int .i64 y] := e0
  have e1' : [c1] = [Value.int .i64 z] := e1
  injection e0' with e0'
  injection e1' with e1'
  subst e0' e1'
  exact ⟨y, z, rfl, bounds_i64 wy, bounds_i64 wz⟩
end

set_option maxRecDepth 100000 in
theorem lifted (os : Os) (started : os.Started) (H : Type) (enc : TypeId × Value → H) :
    ReturnsInHanded {} Try.checked os 4 .any (Rows.sealedPlaysSpec.pre6 enc Try.prog Try.f4 Rows.sealedPlaysRow.domain false) (Rows.sealedPlaysSpec.post enc Try.prog Try.f4 false true false false) := by
  refine returnsInHanded_of_change (C := Try.checked) own started (by kernel_rfl) Try.func4
    (ChangeSpec.witness6 (enc := enc) (C := Try.checked) false ⟨#[], #[.agg #[.int .i64 0, .int .i64 0], .slice none 0 0], []⟩ 8 (by kernel_rfl) (by kernel_rfl) (by kernel_rfl) (by kernel_rfl)) ?_
  intro W base args ds gs before hval0 hW hcnd _
  have hval : ∀ (j : Nat) t v, Try.f4.params[j]? = some t → args[j]? = some v → Value.okWide Try.prog W .any base t v := hval0
  have hW' := hW
  obtain ⟨p, q, hA0, hV, rfl, hfz, hnd⟩ := hW
  have hA : DataW.TrodAll enc Try.prog W 0 (fun _ => true) true Try.f4.params.toList args.toList ds p := hA0
  rw [Try.params4] at hA hval
  obtain ⟨v0, vs0, d0, ds0, p0, q0, hargs, rfl, rfl, h0, r0⟩ := trodAll_cons hA
  obtain ⟨v1, vs1, d1, ds1, p1, q1, rfl, rfl, rfl, h1, r1⟩ := trodAll_cons r0
  obtain ⟨rfl, rfl, rfl⟩ := trodAll_nil r1
  obtain rfl : args = #[v0, v1] := by cases args; simp_all
  refine law_post (P := Try.prog) laidOut Try.underlying4 resultLaw (fun t ht => ?_) rfl hW' rfl ?_
  · rw [Try.params4] at ht
    rcases (by simpa using ht : t = 36 ∨ t = 37) with rfl | rfl
    · exact ⟨read0, there0⟩
    · exact ⟨read1, there1⟩
  · obtain ⟨y0, z0, rfl, hy0, hz0⟩ := open_two (hval 0 36 v0 rfl rfl) h0
    obtain ⟨a1, len1, cap1, rfl⟩ := okWide_slice Try.underlying37 (hval 1 37 v1 rfl rfl)
    obtain ⟨fu, hf⟩ := h1
    obtain ⟨A, n, c, xs, e1, hnc, hcm, hxn, hxl, hxw, hr⟩ := open_recs Try.underlying37 Try.underlying52 (by kernel_rfl) cellsOp [.i64, .i64, .i64, .i64, .i64] rfl (by decide) (fun j f hj => by
      match j, hj with
      | 0, hj => exact ⟨.i64, rfl, by simp at hj; subst hj; exact Try.underlying3⟩
      | 1, hj => exact ⟨.i64, rfl, by simp at hj; subst hj; exact Try.underlying3⟩
      | 2, hj => exact ⟨.i64, rfl, by simp at hj; subst hj; exact Try.underlying3⟩
      | 3, hj => exact ⟨.i64, rfl, by simp at hj; subst hj; exact Try.underlying3⟩
      | 4, hj => exact ⟨.i64, rfl, by simp at hj; subst hj; exact Try.underlying2⟩
      | j + 5, hj => simp at hj) hf
    simp only [Value.cells, List.cons.injEq, and_true, Value.slice.injEq] at e1
    obtain ⟨rfl, rfl, rfl⟩ := e1
    exact plays_any y0 z0 a1 len1 cap1 W (by unfold maxLen at hcm; omega) (ops_of hxn hxl hr)

theorem over : Rows.sealedPlaysRow.holds Try.pinned (OpenSpec.ofChange Rows.sealedPlaysSpec) :=
  OpenClaim.holds_of_wide 4 Try.f4 rfl rfl rfl rfl rfl rfl rfl ⟨rfl, rfl, rfl, rfl, rfl⟩ rfl rfl rfl rfl rfl (by kernel_rfl) Try.func4 (by kernel_rfl)
    (of_decide_eq_true (by kernel_rfl)) (by unfold Func.isWrapper; first | (rw [if_pos (by decide +kernel)]; kernel_rfl) | (rw [if_neg (by decide +kernel)]; exact ⟨rfl, rfl⟩))
    (fun os started H enc _ => lifted os started H enc)

theorem sealed_plays : Rows.SealedPlaysSaid := over
#print axioms sealed_plays
end Go.Proofs.Ytnidmoljhopcoaa
