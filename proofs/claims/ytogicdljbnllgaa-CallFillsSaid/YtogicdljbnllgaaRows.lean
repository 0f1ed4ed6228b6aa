/-
  No cell of these rows narrows 'for every input' (looked for: loops, veiled, ifaces, maps, wideKeys, modest, calm, conditions, laid).
  DERIVED. THE GIVEN ROWS OF THIS SEAT. 5 by the template 'for every input the law returns true; each argument reads behind the call as it read before'; 0 by the template 'total and deterministic' (their statements: YtogicdljbnllgaaTotals.lean).
  GIVEN WITH THE SEED: the statements are not yours to turn. If you find one false, say at which input.
  Laid BY PROGRAM, IN A SANDBOX (cutbox-rows.mjs): the forced cells as the released guide's own fill.sh prints them over the translation 97b0d567f55a3243… (all of the seat's roots in one cut). By AI agents, Wed Nov 11 2026. No macro, syntax, notation, axiom, sorry.
-/
import Derived.Test.YtogicdljbnllgaaChecked
import GoSem.Claim
import GoSem.ClaimJoined
import GoSem.ClaimMapViews
import Derived.JoinedTies
import Derived.KernelRfl
namespace Go.Proofs.Ytogicdljbnllgaa
/- THE CELL 'sum', in the pinned program and in every row, IS THE sha256 OF THE DUMP (.gsa) THAT YtogicdljbnllgaaProg.lean LOADS. Nothing in Lean hashes anything: it is a label: what it is worth is what the hold of that sum in a sandbox is worth. -/
noncomputable def Try.pinned : Pinned := { name := "ytogicdljbnllgaa", sum := "97b0d567f55a3243d4e822c2933ca60143c314404edcdbfa26f878fc84533ade", checked := Try.checked }
namespace Rows
def none {H : Type} : Left H := { results := [], args := [] }

/-- 'gavellaw13.CallClears': WHATEVER THE INPUT: true; the input reads as it did. -/
def callClearsSpec : ChangeSpec := { name := "callClears", fn := fun _ => fun
  | [d1, d2, d3] => { results := [.lit (.bool true)], args := [d1, d2, d3] }
  | _ => none }
def callClearsRow : OpenClaim := { program := "ytogicdljbnllgaa", sum := "97b0d567f55a3243d4e822c2933ca60143c314404edcdbfa26f878fc84533ade", func := "gavel/gavellaw13.CallClears", spec := "callClears", unfollowed := true, recurses := true, apart := false }
def CallClearsSaid : Prop := callClearsRow.holds Try.pinned (OpenSpec.ofChange callClearsSpec)

/-- ITS FALSE NEIGHBOUR: 'it returns false'. Refute it at one input. -/
def callClearsWrong : ChangeSpec := { name := "callClears", fn := fun _ => fun
  | [d1, d2, d3] => { results := [.lit (.bool false)], args := [d1, d2, d3] }
  | _ => none }
def CallClearsWrongFalsely : Prop := callClearsRow.holds Try.pinned (OpenSpec.ofChange callClearsWrong)

/-- 'gavellaw13.CallFills': WHATEVER THE INPUT: true; the input reads as it did. -/
def callFillsSpec : ChangeSpec := { name := "callFills", fn := fun _ => fun
  | [d1, d2, d3] => { results := [.lit (.bool true)], args := [d1, d2, d3] }
  | _ => none }
def callFillsRow : OpenClaim := { program := "ytogicdljbnllgaa", sum := "97b0d567f55a3243d4e822c2933ca60143c314404edcdbfa26f878fc84533ade", func := "gavel/gavellaw13.CallFills", spec := "callFills", unfollowed := true, recurses := true, apart := false }
def CallFillsSaid : Prop := callFillsRow.holds Try.pinned (OpenSpec.ofChange callFillsSpec)

/-- ITS FALSE NEIGHBOUR: 'it returns false'. Refute it at one input. -/
def callFillsWrong : ChangeSpec := { name := "callFills", fn := fun _ => fun
  | [d1, d2, d3] => { results := [.lit (.bool false)], args := [d1, d2, d3] }
  | _ => none }
def CallFillsWrongFalsely : Prop := callFillsRow.holds Try.pinned (OpenSpec.ofChange callFillsWrong)

/-- 'gavellaw13.CallMost': WHATEVER THE INPUT: true; the input reads as it did. -/
def callMostSpec : ChangeSpec := { name := "callMost", fn := fun _ => fun
  | [d1, d2, d3] => { results := [.lit (.bool true)], args := [d1, d2, d3] }
  | _ => none }
def callMostRow : OpenClaim := { program := "ytogicdljbnllgaa", sum := "97b0d567f55a3243d4e822c2933ca60143c314404edcdbfa26f878fc84533ade", func := "gavel/gavellaw13.CallMost", spec := "callMost", unfollowed := true, recurses := true, apart := false }
def CallMostSaid : Prop := callMostRow.holds Try.pinned (OpenSpec.ofChange callMostSpec)

/-- ITS FALSE NEIGHBOUR: 'it returns false'. Refute it at one input. -/
def callMostWrong : ChangeSpec := { name := "callMost", fn := fun _ => fun
  | [d1, d2, d3] => { results := [.lit (.bool false)], args := [d1, d2, d3] }
  | _ => none }
def CallMostWrongFalsely : Prop := callMostRow.holds Try.pinned (OpenSpec.ofChange callMostWrong)

/-- 'gavellaw13.CallFair': WHATEVER THE INPUT: true; the input reads as it did. -/
def callFairSpec : ChangeSpec := { name := "callFair", fn := fun _ => fun
  | [d1, d2] => { results := [.lit (.bool true)], args := [d1, d2] }
  | _ => none }
def callFairRow : OpenClaim := { program := "ytogicdljbnllgaa", sum := "97b0d567f55a3243d4e822c2933ca60143c314404edcdbfa26f878fc84533ade", func := "gavel/gavellaw13.CallFair", spec := "callFair", unfollowed := true, recurses := true, apart := false }
def CallFairSaid : Prop := callFairRow.holds Try.pinned (OpenSpec.ofChange callFairSpec)

/-- ITS FALSE NEIGHBOUR: 'it returns false'. Refute it at one input. -/
def callFairWrong : ChangeSpec := { name := "callFair", fn := fun _ => fun
  | [d1, d2] => { results := [.lit (.bool false)], args := [d1, d2] }
  | _ => none }
def CallFairWrongFalsely : Prop := callFairRow.holds Try.pinned (OpenSpec.ofChange callFairWrong)

/-- 'gavellaw13.CallNames': WHATEVER THE INPUT: true; the input reads as it did. -/
def callNamesSpec : ChangeSpec := { name := "callNames", fn := fun _ => fun
  | [] => { results := [.lit (.bool true)], args := [] }
  | _ => none }
def callNamesRow : OpenClaim := { program := "ytogicdljbnllgaa", sum := "97b0d567f55a3243d4e822c2933ca60143c314404edcdbfa26f878fc84533ade", func := "gavel/gavellaw13.CallNames", spec := "callNames", unfollowed := true, recurses := true, apart := false }
def CallNamesSaid : Prop := callNamesRow.holds Try.pinned (OpenSpec.ofChange callNamesSpec)

/-- ITS FALSE NEIGHBOUR: 'it returns false'. Refute it at one input. -/
def callNamesWrong : ChangeSpec := { name := "callNames", fn := fun _ => fun
  | [] => { results := [.lit (.bool false)], args := [] }
  | _ => none }
def CallNamesWrongFalsely : Prop := callNamesRow.holds Try.pinned (OpenSpec.ofChange callNamesWrong)

/- THE SECOND FORM. 'bulk': how many values and letters a reading holds, each counted each time it is reached (what is shared counts as often as it is met; a slice's spare places count too). A statement '..UptoSaid' is the law's where the arguments, and the package variables that the reading takes, are together of bulk at most 1048576: NARROWER than '..Said'. Prove '..Said' where nothing that the law and all that it calls make is longer than what came in: it says more and counts as full. Else prove '..UptoSaid'. A law counts once. -/
mutual
def uptoBulk {H : Type} : DataW H → Nat
  | .lit (.string bytes) => bytes.length + 1
  | .lit _ => 1
  | .nil => 1
  | .ptr d => uptoBulk d + 1
  | .slice elems spare => uptoBulkAll elems + uptoBulkAll spare + 1
  | .agg parts => uptoBulkAll parts + 1
  | .iface _ d => uptoBulk d + 1
  | .map entries => uptoBulkEntries entries + 1
  | .held _ => 1
def uptoBulkAll {H : Type} : List (DataW H) → Nat
  | [] => 0
  | d :: r => uptoBulk d + uptoBulkAll r
def uptoBulkEntries {H : Type} : List (Lit × DataW H) → Nat
  | [] => 0
  | x :: r => uptoBulkEntry x + uptoBulkEntries r
def uptoBulkEntry {H : Type} : Lit × DataW H → Nat
  | (.string bytes, d) => bytes.length + uptoBulk d + 1
  | (_, d) => uptoBulk d + 1
 end
def uptoSmall : (H : Type) → List (DataW H) → Bool := fun _ ds => decide (uptoBulkAll ds ≤ 1048576)
def OpenSpec.upto (s : _root_.Go.ChangeSpec) : _root_.Go.OpenSpec := { _root_.Go.OpenSpec.ofChange s with cond := some uptoSmall }

/-- 'gavellaw13.CallClears', WHERE WHAT IT READS IS OF BULK AT MOST 1048576: true; the input reads as it did. -/
def callClearsUptoRow : OpenClaim := { program := "ytogicdljbnllgaa", sum := "97b0d567f55a3243d4e822c2933ca60143c314404edcdbfa26f878fc84533ade", func := "gavel/gavellaw13.CallClears", spec := "callClears", unfollowed := true, recurses := true, apart := false, narrowed := true }
def CallClearsUptoSaid : Prop := callClearsUptoRow.holds Try.pinned (OpenSpec.upto callClearsSpec)

/-- 'gavellaw13.CallFills', WHERE WHAT IT READS IS OF BULK AT MOST 1048576: true; the input reads as it did. -/
def callFillsUptoRow : OpenClaim := { program := "ytogicdljbnllgaa", sum := "97b0d567f55a3243d4e822c2933ca60143c314404edcdbfa26f878fc84533ade", func := "gavel/gavellaw13.CallFills", spec := "callFills", unfollowed := true, recurses := true, apart := false, narrowed := true }
def CallFillsUptoSaid : Prop := callFillsUptoRow.holds Try.pinned (OpenSpec.upto callFillsSpec)

/-- 'gavellaw13.CallMost', WHERE WHAT IT READS IS OF BULK AT MOST 1048576: true; the input reads as it did. -/
def callMostUptoRow : OpenClaim := { program := "ytogicdljbnllgaa", sum := "97b0d567f55a3243d4e822c2933ca60143c314404edcdbfa26f878fc84533ade", func := "gavel/gavellaw13.CallMost", spec := "callMost", unfollowed := true, recurses := true, apart := false, narrowed := true }
def CallMostUptoSaid : Prop := callMostUptoRow.holds Try.pinned (OpenSpec.upto callMostSpec)

/-- 'gavellaw13.CallFair', WHERE WHAT IT READS IS OF BULK AT MOST 1048576: true; the input reads as it did. -/
def callFairUptoRow : OpenClaim := { program := "ytogicdljbnllgaa", sum := "97b0d567f55a3243d4e822c2933ca60143c314404edcdbfa26f878fc84533ade", func := "gavel/gavellaw13.CallFair", spec := "callFair", unfollowed := true, recurses := true, apart := false, narrowed := true }
def CallFairUptoSaid : Prop := callFairUptoRow.holds Try.pinned (OpenSpec.upto callFairSpec)

/-- 'gavellaw13.CallNames', WHERE WHAT IT READS IS OF BULK AT MOST 1048576: true; the input reads as it did. -/
def callNamesUptoRow : OpenClaim := { program := "ytogicdljbnllgaa", sum := "97b0d567f55a3243d4e822c2933ca60143c314404edcdbfa26f878fc84533ade", func := "gavel/gavellaw13.CallNames", spec := "callNames", unfollowed := true, recurses := true, apart := false, narrowed := true }
def CallNamesUptoSaid : Prop := callNamesUptoRow.holds Try.pinned (OpenSpec.upto callNamesSpec)

end Rows
end Go.Proofs.Ytogicdljbnllgaa
