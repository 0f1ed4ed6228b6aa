/- Proved: gavellaw06.NamesPlay answers true for every bound and every list of steps, and leaves the list as it was. Conditions: none. -/
import Derived.Test.YtkidefmkgcankaaPly
import Derived.Test.YtkidefmkgcankaaLift
namespace Go.Proofs.Ytkidefmkgcankaa
open Go.ChangeShapes Go.WideShapes Go.ChangeAt Go.RowKit

theorem cellsStep : Try.prog.cellsOf 46 = 4 := by kernel_rfl
set_option maxRecDepth 100000 in
/-- A slice of steps, as it reads. -/
theorem open_steps {H : Type} {enc : TypeId × Value → H} {w : World} {base : Nat} {spare : Nat → Bool} {held : Bool} {fuel : Nat} {cs : List Value} {x : DataW H × List MemPlace} (h : DataW.trod enc Try.prog w base spare held fuel 30 cs = some x) :
    ∃ (A : Option Addr) (n c : Nat), cs = [.slice A n c] ∧ OpsW w A n := by
  rcases open_slice_fields Try.underlying30 Try.underlying46 (by kernel_rfl) cellsStep h with rfl | ⟨a, len, cap, m, rfl, _, _, hlm, hi⟩
  · exact ⟨none, 0, 0, rfl, ⟨fun k hk => absurd hk (by omega)⟩⟩
  · refine ⟨some a, len, cap, rfl, ⟨fun k hk => ?_⟩⟩
    obtain ⟨v0, y0, n0, c0, t0⟩ := hi k (by omega) 0 _ rfl
    obtain ⟨v1, y1, n1, c1, t1⟩ := hi k (by omega) 1 _ rfl
    obtain ⟨v2, y2, n2, c2, t2⟩ := hi k (by omega) 2 _ rfl
    obtain ⟨v3, y3, n3, c3, t3⟩ := hi k (by omega) 3 _ rfl
    obtain ⟨z0, e0, _, _⟩ := DataW.trod_int Try.underlying3 t0
    obtain ⟨z1, e1, _, _⟩ := DataW.trod_int Try.underlying3 t1
    obtain ⟨z2, e2, _, w2⟩ := DataW.trod_string Try.underlying9 t2
    obtain ⟨z3, e3, _, _⟩ := DataW.trod_int Try.underlying3 t3
    simp only [List.cons.injEq, and_true] at e0 e1 e2 e3
    subst e0 e1 e2 e3
    obtain ⟨u0, _, _, d0, _⟩ := hi 0 (by omega) 0 _ rfl
    obtain ⟨b, off, spot⟩ := a
    have hspot : spot = none := by simpa [Addr.add] using World.cell?_spot d0
    subst hspot
    rw [add_plain] at c0 c1 c2 c3
    exact ⟨b, off, z0, z1, z2, z3, rfl, lt_of_cell c0, c0, c1, c2, c3, w2⟩

theorem own : ownKnob Try.prog.godebug = none := by kernel_rfl
theorem laidOut : laidOutB Try.prog = true := by kernel_rfl
theorem resultLaw4 : Try.f4.resultTypes = #[4] := by kernel_rfl
theorem read30 : Try.prog.readableRec 30 = true := by kernel_rfl
theorem there30 : 30 < Try.prog.types.size := of_decide_eq_true (by kernel_rfl)
theorem read3 : Try.prog.readableRec 3 = true := by kernel_rfl
theorem there3 : 3 < Try.prog.types.size := of_decide_eq_true (by kernel_rfl)

set_option maxRecDepth 100000 in
theorem lifted4 (os : Os) (started : os.Started) (H : Type) (enc : TypeId × Value → H) :
    ReturnsInHanded {} Try.checked os 4 .any (Rows.namesPlaySpec.pre6 enc Try.prog Try.f4 Rows.namesPlayRow.domain false) (Rows.namesPlaySpec.post enc Try.prog Try.f4 false true false false) := by
  refine returnsInHanded_of_change (C := Try.checked) own started (by kernel_rfl) Try.func4
    (ChangeSpec.witness6 (enc := enc) (C := Try.checked) false ⟨#[], #[.int .i64 0, .slice none 0 0], []⟩ 8 (by kernel_rfl) (by kernel_rfl) (by kernel_rfl) (by kernel_rfl)) ?_
  intro W base args ds gs before hval0 hW hcnd _
  have hval : ∀ (j : Nat) t v, Try.f4.params[j]? = some t → args[j]? = some v → Value.okWide Try.prog W .any base t v := hval0
  have hW' := hW
  obtain ⟨p, q, hA0, hV, rfl, hfz, hnd⟩ := hW
  have hA : DataW.TrodAll enc Try.prog W 0 (fun _ => true) true Try.f4.params.toList args.toList ds p := hA0
  rw [Try.params4] at hA hval
  obtain ⟨v0, vs0, d0, ds0, p0, q0, hargs, rfl, rfl, h0, r0⟩ := trodAll_cons hA
  obtain ⟨v1, vs1, d1, ds1, p1, q1, rfl, rfl, rfl, h1, r1⟩ := trodAll_cons r0
  obtain ⟨rfl, rfl, rfl⟩ := trodAll_nil r1
  obtain rfl : args = #[v0, v1] := by cases args; simp_all
  refine law_post (P := Try.prog) laidOut Try.underlying4 resultLaw4 (fun t ht => ?_) rfl hW' rfl ?_
  · rw [Try.params4] at ht
    have : t = 3 ∨ t = 30 := by simpa using ht
    rcases this with rfl | rfl
    · exact ⟨read3, there3⟩
    · exact ⟨read30, there30⟩
  · obtain ⟨x0, rfl, rfl, rfl, w0⟩ := open_int Try.underlying3 (hval 0 3 v0 rfl rfl) h0
    obtain ⟨a1, len1, cap1, rfl⟩ := okWide_slice Try.underlying30 (hval 1 30 v1 rfl rfl)
    obtain ⟨fu, hf⟩ := h1
    obtain ⟨A, n, c, e1, hd⟩ := open_steps hf
    simp only [Value.cells, List.cons.injEq, and_true, Value.slice.injEq] at e1
    obtain ⟨rfl, rfl, rfl⟩ := e1
    exact play_any x0 a1 len1 cap1 W hd

theorem over4 : Rows.namesPlayRow.holds Try.pinned (OpenSpec.ofChange Rows.namesPlaySpec) :=
  OpenClaim.holds_of_wide 4 Try.f4 rfl rfl rfl rfl rfl rfl rfl ⟨rfl, rfl, rfl, rfl, rfl⟩ rfl rfl rfl rfl rfl (by kernel_rfl) Try.func4 (by kernel_rfl)
    (of_decide_eq_true (by kernel_rfl)) (by unfold Func.isWrapper; first | (rw [if_pos (by decide +kernel)]; kernel_rfl) | (rw [if_neg (by decide +kernel)]; exact ⟨rfl, rfl⟩))
    (fun os started H enc _ => lifted4 os started H enc)

theorem names_play : Rows.NamesPlaySaid := over4
#print axioms names_play
end Go.Proofs.Ytkidefmkgcankaa
