/- The walks of the law's lent and left. -/
import Derived.Test.YtogicdljbnllgaaKnown
import Derived.Test.YtogicdljbnllgaaFills
import Derived.Laws.StructEq
namespace Go.Proofs.Ytogicdljbnllgaa
open Go.Shelf Go.RowKit Go.Lib Go.Sort Go.Proofs

/-- What lent answers: a row of the call's own, with the mark behind. -/
def LentP (l : List (Int × Int)) (w : World) (e : Ending) (w' : World) : Prop :=
  ∃ g c, e = .returned (.slice (some ⟨g, 0, none⟩) l.length c) ∧ w'.ownsRow w.heap.size 51 2 (.slice (some ⟨g, 0, none⟩) (l.length + 1) c) (l.length + 1) (flat (l ++ [(771, 0)])) ∧ Below w.heap.size w w'
set_option maxRecDepth 100000 in
set_option maxHeartbeats 2000000 in
theorem lent_any (A : Option Addr) (c : Nat) (l : List (Int × Int)) (w : World) (h : Wants w w.heap.size A l) (hl : l.length * 16 ≤ 140737488351232) :
    Calls Try.prog 10 #[.slice A l.length c] w (LentP l w) := by
  have HA := hide h
  have G1 := hide (flat_one l)
  have G5 : Hid (0 + l.length ≤ maxLen) := hide (by unfold maxLen; omega)
  have G6 : Hid ((0 + l.length) * 16 ≤ 140737488355328) := hide (by omega)
  have G2 := hide (flat_one [(771, 0)])
  have G7 : Hid (l.length + 1 ≤ maxLen) := hide (by unfold maxLen; omega)
  have G8 : Hid ((l.length + 1) * 16 ≤ 140737488355328) := hide (by omega)
  clear h
  go_enter Try.func10, Try.ntmps10
  go_wp2_with (first | (at_builtin; refine wpList_append_any rfl (.const (.slice none 0 0)) (.tmp 4) 22 rfl w.heap.size 51 _ 2 16 infoWt Try.underlying22 rfl (by decide) _ 0 [] rfl (World.ownsRow_nil _ _ _ _) w.heap.size A l.length c (flat l) rfl HA.out G1.out G5.out G6.out (Nat.le_refl _) ?_; intro v1 w1 hown1 hg1 _; rw [Nat.zero_add, List.nil_append] at hown1; obtain ⟨A1, c1, hv1, _⟩ := own_sh hown1; subst hv1; have HO1 := hide hown1; have HB1 : Hid (Below w.heap.size w w1) := hide ((Below.refl _ _).grown hg1 (Nat.le_refl _) (fun j hj => by cases hj)); clear hown1 hg1) | (at_builtin; refine wpList_append_any rfl (.tmp 5) (.tmp 7) 22 rfl w.heap.size 51 _ 2 16 infoWt Try.underlying22 rfl (by decide) _ l.length (flat l) rfl (own_below HO1.out ((Below.refl _ _).alloc (Nat.le_refl _) _) (Nat.le_refl _)) _ (some ⟨w1.heap.size, 0, none⟩) 1 1 (flat [(771, 0)]) rfl (wants_row (l := [(771, 0)]) (heap_alloc_new w1 _)) G2.out G7.out G8.out (by have := HB1.out.size; simp; omega) ?_; intro v2 w2 hown2 hg2 _; obtain ⟨g2, c2, hv2, _⟩ := hown2.form (by omega); subst hv2; have HB2 : Hid (Below w.heap.size w w2) := hide ((HB1.out.alloc HB1.out.size _).grown hg2 (by have := HB1.out.size; simp; omega) (fun j hj => (HO1.out.lt j hj).1)); have hcap : (l.length : Int) ≤ (c2 : Int) := (by obtain ⟨_, _, e, hc⟩ := own_sh hown2; injection e with _ _ e; omega); have HO2 : Hid (w2.ownsRow w.heap.size 51 2 (.slice (some ⟨g2, 0, none⟩) (l.length + 1) c2) (l.length + 1) (flat (l ++ [(771, 0)]))) := hide (by rw [flat_append]; exact hown2); clear hown2 hg2))
  go_ret
  exact ⟨g2, c2, rfl, HO2.out, HB2.out⟩
theorem ne_want (x y : Int) (w : World) : (binOp .neq 51 (.agg #[.int .i64 x, .int .i64 y]) (.agg #[.int .i64 x, .int .i64 y])).run Try.prog w = .ok (.bool false) w := by
  have hS : Try.prog.underlying 51 = some (.struct (Try.prog.fieldsOf 51)) := by kernel_rfl
  have u2 := Try.underlying2
  have u3 := Try.underlying3
  have e : (Op.equalIn (9999 + 1) 51 (.agg #[.int .i64 x, .int .i64 y]) (.agg #[.int .i64 x, .int .i64 y])).run Try.prog w = .ok true w := by
    rw [run_equalIn_struct w 9999 51 _ _ hS (by kernel_rfl)]
    simp only [Program.fieldsOf, Try.underlying51]
    go_simp
  show ((do pure (.bool (!(← Op.equal 51 _ _))) : Sem Value)).run Try.prog w = _
  simp only [Op.equal, Op.maxDepth, Sem.run_bind, e, Result.andThen_ok, Sem.run_pure]
  rfl
set_option maxRecDepth 100000 in
set_option maxHeartbeats 4000000 in
theorem left_any (g c : Nat) (A : Option Addr) (c' : Nat) (l : List (Int × Int)) (w : World) (hm : Wants w w.heap.size (some ⟨g, 0, none⟩) (l ++ [(771, 0)])) (h : Wants w w.heap.size A l) (hc : l.length + 1 ≤ c) (hl : l.length * 16 ≤ 140737488351232) :
    Calls Try.prog 20 #[.slice (some ⟨g, 0, none⟩) l.length c, .slice A l.length c'] w (ValPost (.bool true) w) := by
  have hw1 : wrap64 ((l.length : Int) + 1) = ((l.length + 1 : Nat) : Int) := by unfold wrap64; omega
  have hci : (l.length : Int) + 1 ≤ (c : Int) := by omega
  obtain ⟨b1, o1, e1, hg, hmc⟩ := hm.at_ (by simp)
  injection e1 with e1
  injection e1 with e1 e2
  subst e1 e2
  have hat := fun hn => Wants.at_ h hn
  clear h hm
  go_enter Try.func20, Try.ntmps20
  go_wp2_with fail
  go_loopw [5] (fun iv wr => ∃ k : Nat, k ≤ l.length ∧ iv = .int .i64 k ∧ Below w.heap.size w wr) (fun iv _ => l.length - (intOf iv).toNat)
  case atStart => exact ⟨0, Nat.zero_le _, rfl, Below.refl _ _⟩
  case round =>
    obtain ⟨k, hk, rfl, hb⟩ := hrel
    have HB := hide hb
    by_cases hlt : k < l.length
    · obtain ⟨b, o, rfl, hbB, hcc⟩ := hat (by omega)
      obtain ⟨x, hx⟩ : ∃ x, l[k]? = some x := ⟨l[k], List.getElem?_eq_getElem hlt⟩
      obtain ⟨x1, x2⟩ := x
      have d0 := (hb.cell (p := ⟨b, o + k * 2, none⟩) hbB).trans (hcc k _ hx).1
      have d1 := (hb.cell (p := ⟨b, o + k * 2 + 1, none⟩) hbB).trans (hcc k _ hx).2
      have hx' : (l ++ [(771, 0)])[k]? = some (x1, x2) := by rw [List.getElem?_append_left hlt]; exact hx
      have f0 := (hb.cell (p := ⟨g, 0 + k * 2, none⟩) hg).trans (hmc k _ hx').1
      have f1 := (hb.cell (p := ⟨g, 0 + k * 2 + 1, none⟩) hg).trans (hmc k _ hx').2
      simp only [Nat.zero_add] at f0 f1
      have hki : (k : Int) < (l.length : Int) := by omega
      have hne := ne_want x1 x2
      clear hcc hmc hat hx hx' hb
      go_wp2_with fail
      go_quiet (fail)
      go_wp2_with fail
      go_roundw
      case rel => exact ⟨k + 1, by omega, by go_num, below_drewN HB.out _⟩
      case measure => simp [intOf]; omega
    · obtain rfl : k = l.length := by omega
      have hx' : (l ++ [(771, 0)])[l.length]? = some (771, 0) := by simp
      have f0 := (hb.cell (p := ⟨g, 0 + l.length * 2, none⟩) hg).trans (hmc _ _ hx').1
      simp only [Nat.zero_add] at f0
      clear hat hmc hx' hb
      go_wp2_with fail
      go_ret
      exact ⟨rfl, HB.out⟩
end Go.Proofs.Ytogicdljbnllgaa
