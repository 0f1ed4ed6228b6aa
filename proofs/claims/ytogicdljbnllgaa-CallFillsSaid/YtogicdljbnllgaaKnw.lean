/- The chapter's first row: what comes of it: plain. -/
import Derived.Test.YtogicdljbnllgaaGains
namespace Go.Proofs.Ytogicdljbnllgaa
open Go.Shelf Go.RowKit Go.Lib Go.Sort Go.Proofs

def kb : List (Int × Int) := [(10, 2), (8, 1)]
def ks : List (Int × Int) := [(5, 1), (9, 3)]
theorem ordK_two (κ : Int × Int → Int) (x y : Int × Int) (h : κ x ≤ κ y) : ordK κ [x, y] = [0, 1] := by
  unfold ordK sortedI
  have e : rangeI [x, y].length = [0, 1] := rfl
  rw [e]
  refine List.mergeSort_of_pairwise ?_
  simp only [List.pairwise_cons, List.mem_cons, List.not_mem_nil, or_false, forall_eq, false_implies, implies_true, List.Pairwise.nil, and_true]
  unfold stb
  rw [ltK, ltK]
  have hx : wantAt [x, y] (0 : Int).toNat = x := rfl
  have hy : wantAt [x, y] (1 : Int).toNat = y := rfl
  rw [hx, hy]
  generalize κ x = a at *
  generalize κ y = b at *
  simp only [Bool.not_eq_true', Bool.or_eq_false_iff, Bool.and_eq_false_iff, decide_eq_false_iff_not]
  omega
def kt : List Trd := [((0, 10), (0, 5), 1), ((0, 10), (1, 9), 1)]
theorem run_known : RunA kb ks = (kt, some (1, 8), some (1, 9)) := by
  have e1 : ordT kb (ordK κB kb) = [(0, 10, 2), (1, 8, 1)] := by
    unfold kb
    rw [ordK_two κB _ _ (by decide)]
    rfl
  have e2 : ordT ks (ordK κS ks) = [(0, 5, 1), (1, 9, 3)] := by
    unfold ks
    rw [ordK_two κS _ _ (by decide)]
    rfl
  unfold RunA
  rw [e1, e2, runW_s _ _ _ _ (by decide) (by decide), runW_b _ _ _ _ (by decide) (by decide), runW_low _ _ _ _ (by decide)]
  rfl
theorem check_known : checkI kb ks = 0 := by decide
theorem clr_known : clrOf kb.length ks.length (RunA kb ks) = (9, 2, 9, 9, [2, 0], [1, 1]) := by
  rw [run_known]
  decide
theorem gains_known : gainsA kb ks = (6, 0) := by
  unfold gainsA
  rw [if_pos check_known, run_known]
  decide
theorem at_known : atA kb ks 9 = (2, 4, 0) := by decide
theorem fills_known : FillsA kb ks = kt := by
  unfold FillsA
  rw [if_pos check_known, run_known]
end Go.Proofs.Ytogicdljbnllgaa
