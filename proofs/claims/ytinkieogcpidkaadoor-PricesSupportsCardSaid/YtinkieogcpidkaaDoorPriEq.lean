/- Two boards compared. -/
import Derived.Test.YtinkieogcpidkaaDoorPriD
import Derived.Laws.StructEq
namespace Go.Proofs.YtinkieogcpidkaaDoor
open Go.RowKit Go.Maps Go.Shelf
open Go.ChangeMaps Go.WideMaps

theorem part_row (cnt : Nat → Int) (W : World) {j : Nat} (hj : j < 32) : (part 2 (rowC cnt) (j * Tryd.prog.cellsOf 2)).run Tryd.prog W = .ok (.int .i64 (cnt j)) W := by
  have h3 : (sizeOf 2).run Tryd.prog W = .ok 1 W := by kernel_rfl
  have h4 : (isAgg 2).run Tryd.prog W = .ok false W := by kernel_rfl
  have h5 : Tryd.prog.cellsOf 2 = 1 := by kernel_rfl
  have h2 := rowC_at cnt hj
  simp [part, go_sem, h2, h3, h4, h5]
theorem items_row (c1 c2 : Nat → Int) (d : Nat) : ∀ (is : List Nat) (W : World), (∀ j ∈ is, j < 32) → (Op.eqItems (d + 1) 2 (Tryd.prog.cellsOf 2) (rowC c1) (rowC c2) is).run Tryd.prog W = .ok (is.all fun j => c1 j == c2 j) W
  | [], W, _ => by simp [Op.eqItems]
  | j :: is, W, h => by
    have hj := h j List.mem_cons_self
    have ih := items_row c1 c2 d is W (fun i hi => h i (List.mem_cons_of_mem _ hi))
    simp only [Op.eqItems, Sem.run_bind, part_row c1 W hj, part_row c2 W hj, Result.andThen_ok, run_equalIn_int W d 2 .i64 .i64 _ _ Tryd.underlying2]
    cases hb : (c1 j == c2 j)
    · simp [hb]
    · simp [hb, ih]
theorem all_eq {p q : List Int} (hp : p.length = 32) (hq : q.length = 32) : ((List.range 32).all fun j => cntP p j == cntP q j) = decide (p = q) := by
  rw [Bool.eq_iff_iff, List.all_eq_true, decide_eq_true_eq]
  constructor
  · intro h
    apply List.ext_getElem?
    intro i
    by_cases hi : i < 32
    · have h1 := h i (List.mem_range.2 hi)
      rw [beq_iff_eq] at h1
      unfold cntP at h1
      rw [List.getD_eq_getElem?_getD, List.getD_eq_getElem?_getD, List.getElem?_eq_getElem (show i < p.length by omega), List.getElem?_eq_getElem (show i < q.length by omega)] at h1
      simp only [Option.getD_some] at h1
      rw [List.getElem?_eq_getElem (show i < p.length by omega), List.getElem?_eq_getElem (show i < q.length by omega), h1]
    · rw [List.getElem?_eq_none (by omega), List.getElem?_eq_none (by omega)]
  · rintro rfl j _
    simp
theorem board_in {p q : List Int} (hp : p.length = 32) (hq : q.length = 32) (W : World) : (Op.equalIn 10000 76 (.agg (rowC (cntP p))) (.agg (rowC (cntP q)))).run Tryd.prog W = .ok (decide (p = q)) W := by
  obtain ⟨i, hi⟩ : ∃ i, Tryd.prog.info? 2 = some i := Option.isSome_iff_exists.1 (by kernel_rfl)
  rw [run_equalIn_array W 9999 _ _ bUnd hi, items_row _ _ 9998 (List.range 32) W (fun j hj => List.mem_range.1 hj), all_eq hp hq]
theorem board_eql {p q : List Int} (hp : p.length = 32) (hq : q.length = 32) (W : World) : (binOp .eql 76 (.agg (rowC (cntP p))) (.agg (rowC (cntP q)))).run Tryd.prog W = .ok (.bool (decide (p = q))) W := by
  obtain ⟨i, hi⟩ : ∃ i, Tryd.prog.info? 2 = some i := Option.isSome_iff_exists.1 (by kernel_rfl)
  rw [run_eql_struct, run_equalIn_array W 9999 _ _ bUnd hi, items_row _ _ 9998 (List.range 32) W (fun j hj => List.mem_range.1 hj), all_eq hp hq]
  rfl
theorem exec_load_row {P : Program} {o : Oper} {a : Act} {X : World} (ty : TypeId) (x : Operand) (ho : o.op = .load ty x) (g : Nat) (hx : a.eval x = .pointer (some ⟨g, 0, none⟩)) (t : TypeId) (cs : Array Value) (fr : Nat × Nat) (d : TypeDesc) (hg : X.heap[g]? = some (.cells cs t fr))
    (hu : P.underlying ty = some d) (hd : (match d with | .struct _ | .array _ _ => true | _ => false) = true) (hi : (P.info? ty).map (·.size) = some cs.size) : (execOp a.eval o).run P X = .ok (.value (.agg cs)) X := by
  unfold execOp
  simp only [ho, hx, Instr.loadAt, Instr.sureAddr, Sem.run_bind, Sem.run_pure, Result.andThen_ok, run_loadVar_row X g t ty cs fr d hg hu hd hi]
theorem bGuard : Tryd.prog.eqGuardType Tryd.prog.depth 76 = false := by kernel_rfl
end Go.Proofs.YtinkieogcpidkaaDoor
