/- What the listed variables give the walks of this seat; a first world. -/
import Derived.Test.YtgjeihgkcmheeaaDoorTxt
import Derived.Test.YtgjeihgkcmheeaaDoorLift
import Derived.Test.YtgjeihgkcmheeaaDoorTie
import Derived.Test.YtgjeihgkcmheeaaDoorCards
import Derived.SizedLaws
import Derived.LaidMore
import Derived.Stop.LaidErr
import Derived.Lib.LaidTab
import Derived.Stop.Joined
namespace Go.Proofs.YtgjeihgkcmheeaaDoor
open Go.ChangeShapes Go.WideShapes Go.ChangeAt Go.RowKit Go.Joins

theorem own : ownKnob Tryd.prog.godebug = none := by kernel_rfl
theorem laidOut : laidOutB Tryd.prog = true := by kernel_rfl
theorem cells2 : Tryd.prog.cellsOf 2 = 1 := by kernel_rfl
theorem bytes2 : Tryd.prog.bytesOf 2 = 8 := by kernel_rfl
theorem gT64 : Tryd.prog.globalNamed "math/bits.deBruijn64tab" = some 3 := by kernel_rfl
theorem tT64 : (Tryd.prog.globals[3]?).map (·.type) = some 118 := by kernel_rfl
theorem gPow : Tryd.prog.globalNamed "internal/strconv.uint64pow10" = some 6 := by kernel_rfl
theorem tPow : (Tryd.prog.globals[6]?).map (·.type) = some 129 := by kernel_rfl
theorem dT64 : Rows.laid_math_bits_deBruijn64tab (H := Unit) = Lib.tabData .u8 (Lib.deBruijn64tab.map fun (n : Nat) => (n : Int)) := rfl
theorem dPow : Rows.laid_internal_strconv_uint64pow10 (H := Unit) = Lib.tabData .u64 Lib.pow10Tab := rfl
theorem gRng : Tryd.prog.globalNamed "strconv.ErrRange" = some 5 := by kernel_rfl
theorem tRng : (Tryd.prog.globals[5]?).map (·.type) = some 80 := by kernel_rfl
theorem gSyn : Tryd.prog.globalNamed "strconv.ErrSyntax" = some 4 := by kernel_rfl
theorem tSyn : (Tryd.prog.globals[4]?).map (·.type) = some 80 := by kernel_rfl

def laidL : List (String × DataW Unit) := [("math/bits.deBruijn32tab", Rows.laid_math_bits_deBruijn32tab), ("math/bits.deBruijn64tab", Rows.laid_math_bits_deBruijn64tab), ("internal/strconv.uint64pow10", Rows.laid_internal_strconv_uint64pow10), ("strconv.ErrRange", Rows.laid_strconv_ErrRange), ("strconv.ErrSyntax", Rows.laid_strconv_ErrSyntax)]
/-- A first world: the variables as the program's text lays them. -/
noncomputable def doorW (os : Os) : World := World.doorLaid Tryd.prog 4000 os
theorem door_met (os : Os) (args : Array Value) : laidMetH Tryd.prog laidL ((doorW os).forCall (fun _ _ => 0) ⟨#[], args, []⟩).memory :=
  laidMetH_of_parts3 (fuel := 8) (laidMet_of_run' 8 (by kernel_rfl) (by kernel_rfl)) (by kernel_rfl) (by kernel_rfl)
theorem cellsEs : Tryd.prog.cellsOf 137 = 1 := by kernel_rfl
theorem cellsStr : Tryd.prog.cellsOf 9 = 1 := by kernel_rfl
theorem starEs : "*" ++ "errors.errorString" = "*errors.errorString" := by decide
theorem rowEs (u : TypeId) (h : Tryd.prog.typeName? 3 u = some "*errors.errorString") : u = 135 :=
  typeName_ptr_named (nm := "errors.errorString") (by rw [starEs]; kernel_rfl) (by kernel_rfl) (by decide) u (by rw [starEs]; exact h)
theorem cellsU8 : Tryd.prog.cellsOf 5 = 1 := by kernel_rfl
theorem cellsT64 : Tryd.prog.cellsOf 118 = 64 := by kernel_rfl
theorem cellsU64 : Tryd.prog.cellsOf 69 = 1 := by kernel_rfl
theorem cellsPow : Tryd.prog.cellsOf 129 = 20 := by kernel_rfl
/-- What the listed variables give the walk. -/
theorem ld_of_laid {W : World} (h : laidMetH Tryd.prog laidL W) : LdW W := by
  rw [MakeChecks.laidMetH_plain _ _ _ (by kernel_rfl)] at h
  have h1 := h.tail
  unfold laidL at h1
  rw [dT64, dPow] at h1
  have t1 := Lib.tabIs_of_head gT64 tT64 Tryd.underlying118 Tryd.underlying5 cellsU8 cellsT64 h1
  have t2 := Lib.tabIs_of_head gPow tPow Tryd.underlying129 Tryd.underlying69 cellsU64 cellsPow h1.tail
  have h4 := h1.tail.tail
  obtain ⟨a0, s0, hv0, _⟩ := laid_sentinel h4 gRng tRng Tryd.underlying80 rowEs Tryd.underlying135 Tryd.underlying137 rfl rfl Tryd.underlying9 cellsEs cellsStr
  obtain ⟨a1, s1, hv1, _⟩ := laid_sentinel h4.tail gSyn tSyn Tryd.underlying80 rowEs Tryd.underlying135 Tryd.underlying137 rfl rfl Tryd.underlying9 cellsEs cellsStr
  refine ⟨t2, fun j hj => ?_, ⟨_, by simpa using World.var?_cell gSyn hv1 0, .inr ⟨_, _, rfl⟩⟩, ⟨_, by simpa using World.var?_cell gRng hv0 0, .inr ⟨_, _, rfl⟩⟩⟩
  have h5 := t1.cell gT64 j (by rw [List.length_map]; exact hj)
  rw [h5]
  have e : (Lib.deBruijn64tab.map fun (n : Nat) => (n : Int)).getD j 0 = ((Lib.deBruijn64tab.getD j 0 : Nat) : Int) := by
    rw [List.getD_eq_getElem?_getD, List.getD_eq_getElem?_getD, List.getElem?_map]
    cases Lib.deBruijn64tab[j]? <;> rfl
  rw [e]
end Go.Proofs.YtgjeihgkcmheeaaDoor
