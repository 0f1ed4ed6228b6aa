/- Proved: gavellaw06.NamesSpell answers true for all texts a and b, and leaves them as they were. Conditions: none. -/
import Derived.Test.YtkidefmkgcankaaKnown
import Derived.Test.YtkidefmkgcankaaUnsRef
import Derived.ProofKit
import Derived.OpenShut
import Derived.ShutString
import Derived.ChangeOld
import Derived.BigQuiet
namespace Go.Proofs.Ytkidefmkgcankaa
open Go.ChangeShapes Go.WideShapes Go.ChangeAt Go.RowKit
open Go.ChangeMaps (open_string shut_string)

def LawPost (w : World) (e : Ending) (w' : World) : Prop := e = .returned (.bool true) ∧ Below w.heap.size w w'

theorem un_same {s : ByteArray} {w w' : World} {e : Ending} (h : UnPost s w e w') : ∃ (r : ByteArray) (n : Int), e = .returned (.tuple #[.string r, .int .i64 n]) ∧ Below w.heap.size w w' ∧ ((∃ x, Spelt s x ∧ r = strI x ∧ n = 0) ∨ (NoSpell s ∧ r = ⟨#[]⟩ ∧ n = 160)) := by
  obtain ⟨h | h, hb⟩ := h
  · obtain ⟨x, hx, he⟩ := h
    exact ⟨_, _, he, hb, .inl ⟨x, hx, rfl, rfl⟩⟩
  · exact ⟨_, _, h.2, hb, .inr ⟨h.1, rfl, rfl⟩⟩
theorem un_agree {s : ByteArray} {r r' : ByteArray} {n n' : Int} (h : (∃ x, Spelt s x ∧ r = strI x ∧ n = 0) ∨ (NoSpell s ∧ r = ⟨#[]⟩ ∧ n = 160)) (h' : (∃ x, Spelt s x ∧ r' = strI x ∧ n' = 0) ∨ (NoSpell s ∧ r' = ⟨#[]⟩ ∧ n' = 160)) : r = r' ∧ n = n' := by
  rcases h with ⟨x, hx, rfl, rfl⟩ | ⟨hn, rfl, rfl⟩
  · rcases h' with ⟨y, hy, rfl, rfl⟩ | ⟨hn, _, _⟩
    · rw [hx.uniq hy]; exact ⟨rfl, rfl⟩
    · exact (hn x hx).elim
  · rcases h' with ⟨y, hy, _, _⟩ | ⟨_, rfl, rfl⟩
    · exact (hn y hy).elim
    · exact ⟨rfl, rfl⟩

set_option maxRecDepth 100000 in
set_option maxHeartbeats 2000000 in
theorem walk (a b : ByteArray) (w : World) : Calls Try.prog 3 #[.string a, .string b] w (LawPost w) := by
  by_cases ha : 20000 < a.size
  · have ha' : 20000 < (a.size : Int) := by omega
    go_enter Try.func3, Try.ntmps3
    go_wp2_with (go_at_call 7; refine (known_any _).mono ?_; rintro e w1 ⟨rfl, hb⟩)
    go_ret
    exact ⟨rfl, hb⟩
  · have ha' : (a.size : Int) ≤ 20000 := by omega
    by_cases hb : 20000 < b.size
    · have hb' : 20000 < (b.size : Int) := by omega
      go_enter Try.func3, Try.ntmps3
      go_wp2_with (go_at_call 7; refine (known_any _).mono ?_; rintro e w1 ⟨rfl, hb⟩)
      go_ret
      exact ⟨rfl, hb⟩
    · have hb' : (b.size : Int) ≤ 20000 := by omega
      obtain ⟨T, hT⟩ : ∃ T, T = strI (34 :: spellI (bytesI a) ++ [34]) := ⟨_, rfl⟩
      have S1 : Hid (∀ W, Calls Try.prog 10 #[.string a] W fun e w' => e = .returned (.string T) ∧ Below W.heap.size W w') := hide (fun W => by rw [hT]; exact spell_any a W (by omega))
      have S2 : Hid (∀ W, Calls Try.prog 11 #[.string a] W fun e w' => e = .returned (.string T) ∧ Below W.heap.size W w') := hide (fun W => by rw [hT]; exact refspell_any a W (by omega))
      clear hT
      go_enter Try.func3, Try.ntmps3
      go_wp2_with fail
      refine (uns_any b _ (by omega)).mono ?_
      intro e w1 h
      obtain ⟨r1, n1, rfl, hb1, h1⟩ := un_same h
      clear h
      go_wp2_with fail
      refine (refuns_any b _ (by omega)).mono ?_
      intro e w2 h
      obtain ⟨r2, n2, rfl, hb2, h2⟩ := un_same h
      clear h
      obtain ⟨rfl, rfl⟩ := un_agree h1 h2
      clear h1 h2
      have hbb := hb1.trans (hb2.mono hb1.size)
      clear hb1 hb2
      go_wp2_with fail
      refine (S1.out _).mono ?_
      rintro e w3 ⟨rfl, hb3⟩
      have hbc := hbb.trans (hb3.mono hbb.size)
      clear hbb hb3
      go_wp2_with fail
      refine (S2.out _).mono ?_
      rintro e w4 ⟨rfl, hb4⟩
      have hbd := hbc.trans (hb4.mono hbc.size)
      clear hbc hb4
      go_wp2_with fail
      refine (known_any _).mono ?_
      rintro e w5 ⟨rfl, hb5⟩
      go_wp2_with fail
      go_ret
      exact ⟨rfl, hbd.trans (hb5.mono hbd.size)⟩

theorem own : ownKnob Try.prog.godebug = none := by kernel_rfl
theorem laidOut : laidOutB Try.prog = true := by kernel_rfl
set_option maxRecDepth 100000 in
theorem lifted (os : Os) (started : os.Started) (H : Type) (enc : TypeId × Value → H) :
    ReturnsInHanded {} Try.checked os 3 .any (Rows.namesSpellSpec.pre6 enc Try.prog Try.f3 Rows.namesSpellRow.domain false) (Rows.namesSpellSpec.post enc Try.prog Try.f3 false true false false) := by
  refine returnsInHanded_of_change (C := Try.checked) own started (by kernel_rfl) Try.func3
    (ChangeSpec.witness6 (enc := enc) (C := Try.checked) false ⟨#[], #[.string ⟨#[]⟩, .string ⟨#[]⟩], []⟩ 8 (by kernel_rfl) (by kernel_rfl) (by kernel_rfl) (by kernel_rfl)) ?_
  intro W base args ds gs before hval0 hW hcnd _
  have hval : ∀ (j : Nat) t v, Try.f3.params[j]? = some t → args[j]? = some v → Value.okWide Try.prog W .any base t v := hval0
  have hW' := hW
  obtain ⟨p, q, hA0, hV, rfl, hfz, hnd⟩ := hW
  have hA : DataW.TrodAll enc Try.prog W 0 (fun _ => true) true Try.f3.params.toList args.toList ds p := hA0
  rw [Try.params3] at hA hval
  obtain ⟨v0, vs0, d0, ds0, p0, q0, hargs, rfl, rfl, h0, r0⟩ := trodAll_cons hA
  obtain ⟨v1, vs1, d1, ds1, p1, q1, rfl, rfl, rfl, h1, r1⟩ := trodAll_cons r0
  obtain ⟨rfl, rfl, rfl⟩ := trodAll_nil r1
  obtain rfl : args = #[v0, v1] := by cases args; simp_all
  obtain ⟨rfl, rfl⟩ := trodVars_none hV
  obtain ⟨a, rfl, rfl, rfl, wa⟩ := open_string Try.underlying9 (hval 0 9 v0 rfl rfl) h0
  obtain ⟨b, rfl, rfl, rfl, wb⟩ := open_string Try.underlying9 (hval 1 9 v1 rfl rfl) h1
  clear hA0 hval0
  refine (walk a b W).mono fun e W' ⟨he, bel⟩ => ?_
  subst he
  exact ⟨_, rfl, _, _, _, [], _, [], hW', trodAll_mk1 (shut_bool Try.underlying4 _), (trodAll_cons_mk (shut_string Try.underlying9 wa) (trodAll_cons_mk (shut_string Try.underlying9 wb) trodAll_mk0)), rfl, bel.frame _, fun h => by cases h⟩

theorem over : Rows.namesSpellRow.holds Try.pinned (OpenSpec.ofChange Rows.namesSpellSpec) :=
  OpenClaim.holds_of_wide 3 Try.f3 rfl rfl rfl rfl rfl rfl rfl ⟨rfl, rfl, rfl, rfl, rfl⟩ rfl rfl rfl rfl rfl (by kernel_rfl) Try.func3 (by kernel_rfl)
    (of_decide_eq_true (by kernel_rfl)) (by unfold Func.isWrapper; first | (rw [if_pos (by decide +kernel)]; kernel_rfl) | (rw [if_neg (by decide +kernel)]; exact ⟨rfl, rfl⟩))
    (fun os started H enc _ => lifted os started H enc)

theorem names_spell : Rows.NamesSpellSaid := over
#print axioms names_spell
end Go.Proofs.Ytkidefmkgcankaa
