/-
  No cell of these rows narrows 'for every input' (looked for: loops, veiled, ifaces, maps, wideKeys, modest, calm, conditions, laid).
  DERIVED. THE GIVEN ROWS OF THIS SEAT. 3 by the template 'for every input the law returns true; each argument reads behind the call as it read before'; 0 by the template 'total and deterministic' (their statements: YtnidmoljhopcoaaTotals.lean).
  GIVEN WITH THE SEED: the statements are not yours to turn. If you find one false, say at which input.
  Laid BY PROGRAM, IN A SANDBOX (cutbox-rows.mjs): the forced cells as the released guide's own fill.sh prints them over the translation 34460f7adec38ba1… (all of the seat's roots in one cut). By AI agents, Wed Nov 11 2026. No macro, syntax, notation, axiom, sorry.
-/
import Derived.Test.YtnidmoljhopcoaaChecked
import GoSem.Claim
import GoSem.ClaimJoined
import GoSem.ClaimMapViews
import Derived.JoinedTies
import Derived.KernelRfl
namespace Go.Proofs.Ytnidmoljhopcoaa
/- THE CELL 'sum', in the pinned program and in every row, IS THE sha256 OF THE DUMP (.gsa) THAT YtnidmoljhopcoaaProg.lean LOADS. Nothing in Lean hashes anything: it is a label: what it is worth is what the hold of that sum in a sandbox is worth. -/
noncomputable def Try.pinned : Pinned := { name := "ytnidmoljhopcoaa", sum := "34460f7adec38ba1fa3f2fd9587894e5da7cd954348b571fc950e7f5682dd647", checked := Try.checked }
namespace Rows
def none {H : Type} : Left H := { results := [], args := [] }

/-- 'gavellaw11.SealedTruth': WHATEVER THE INPUT: true; the input reads as it did. -/
def sealedTruthSpec : ChangeSpec := { name := "sealedTruth", fn := fun _ => fun
  | [d] => { results := [.lit (.bool true)], args := [d] }
  | _ => none }
def sealedTruthRow : OpenClaim := { program := "ytnidmoljhopcoaa", sum := "34460f7adec38ba1fa3f2fd9587894e5da7cd954348b571fc950e7f5682dd647", func := "gavel/gavellaw11.SealedTruth", spec := "sealedTruth", unfollowed := true, recurses := true, apart := false }
def SealedTruthSaid : Prop := sealedTruthRow.holds Try.pinned (OpenSpec.ofChange sealedTruthSpec)

/-- ITS FALSE NEIGHBOUR: 'it returns false'. Refute it at one input. -/
def sealedTruthWrong : ChangeSpec := { name := "sealedTruth", fn := fun _ => fun
  | [d] => { results := [.lit (.bool false)], args := [d] }
  | _ => none }
def SealedTruthWrongFalsely : Prop := sealedTruthRow.holds Try.pinned (OpenSpec.ofChange sealedTruthWrong)

/-- 'gavellaw11.SealedPlays': WHATEVER THE INPUT: true; the input reads as it did. -/
def sealedPlaysSpec : ChangeSpec := { name := "sealedPlays", fn := fun _ => fun
  | [d1, d2] => { results := [.lit (.bool true)], args := [d1, d2] }
  | _ => none }
def sealedPlaysRow : OpenClaim := { program := "ytnidmoljhopcoaa", sum := "34460f7adec38ba1fa3f2fd9587894e5da7cd954348b571fc950e7f5682dd647", func := "gavel/gavellaw11.SealedPlays", spec := "sealedPlays", unfollowed := true, recurses := true, apart := false }
def SealedPlaysSaid : Prop := sealedPlaysRow.holds Try.pinned (OpenSpec.ofChange sealedPlaysSpec)

/-- ITS FALSE NEIGHBOUR: 'it returns false'. Refute it at one input. -/
def sealedPlaysWrong : ChangeSpec := { name := "sealedPlays", fn := fun _ => fun
  | [d1, d2] => { results := [.lit (.bool false)], args := [d1, d2] }
  | _ => none }
def SealedPlaysWrongFalsely : Prop := sealedPlaysRow.holds Try.pinned (OpenSpec.ofChange sealedPlaysWrong)

/-- 'gavellaw11.SealedSells': WHATEVER THE INPUT: true; the input reads as it did. -/
def sealedSellsSpec : ChangeSpec := { name := "sealedSells", fn := fun _ => fun
  | [d1, d2] => { results := [.lit (.bool true)], args := [d1, d2] }
  | _ => none }
def sealedSellsRow : OpenClaim := { program := "ytnidmoljhopcoaa", sum := "34460f7adec38ba1fa3f2fd9587894e5da7cd954348b571fc950e7f5682dd647", func := "gavel/gavellaw11.SealedSells", spec := "sealedSells", unfollowed := true, recurses := true, apart := false }
def SealedSellsSaid : Prop := sealedSellsRow.holds Try.pinned (OpenSpec.ofChange sealedSellsSpec)

/-- ITS FALSE NEIGHBOUR: 'it returns false'. Refute it at one input. -/
def sealedSellsWrong : ChangeSpec := { name := "sealedSells", fn := fun _ => fun
  | [d1, d2] => { results := [.lit (.bool false)], args := [d1, d2] }
  | _ => none }
def SealedSellsWrongFalsely : Prop := sealedSellsRow.holds Try.pinned (OpenSpec.ofChange sealedSellsWrong)

/- THE SECOND FORM. 'bulk': how many values and letters a reading holds, each counted each time it is reached (what is shared counts as often as it is met; a slice's spare places count too). A statement '..UptoSaid' is the law's where the arguments, and the package variables that the reading takes, are together of bulk at most 1048576: NARROWER than '..Said'. Prove '..Said' where nothing that the law and all that it calls make is longer than what came in: it says more and counts as full. Else prove '..UptoSaid'. A law counts once. -/
mutual
def uptoBulk {H : Type} : DataW H → Nat
  | .lit (.string bytes) => bytes.length + 1
  | .lit _ => 1
  | .nil => 1
  | .ptr d => uptoBulk d + 1
  | .slice elems spare => uptoBulkAll elems + uptoBulkAll spare + 1
  | .agg parts => uptoBulkAll parts + 1
  | .iface _ d => uptoBulk d + 1
  | .map entries => uptoBulkEntries entries + 1
  | .held _ => 1
def uptoBulkAll {H : Type} : List (DataW H) → Nat
  | [] => 0
  | d :: r => uptoBulk d + uptoBulkAll r
def uptoBulkEntries {H : Type} : List (Lit × DataW H) → Nat
  | [] => 0
  | x :: r => uptoBulkEntry x + uptoBulkEntries r
def uptoBulkEntry {H : Type} : Lit × DataW H → Nat
  | (.string bytes, d) => bytes.length + uptoBulk d + 1
  | (_, d) => uptoBulk d + 1
 end
def uptoSmall : (H : Type) → List (DataW H) → Bool := fun _ ds => decide (uptoBulkAll ds ≤ 1048576)
def OpenSpec.upto (s : _root_.Go.ChangeSpec) : _root_.Go.OpenSpec := { _root_.Go.OpenSpec.ofChange s with cond := some uptoSmall }

/-- 'gavellaw11.SealedTruth', WHERE WHAT IT READS IS OF BULK AT MOST 1048576: true; the input reads as it did. -/
def sealedTruthUptoRow : OpenClaim := { program := "ytnidmoljhopcoaa", sum := "34460f7adec38ba1fa3f2fd9587894e5da7cd954348b571fc950e7f5682dd647", func := "gavel/gavellaw11.SealedTruth", spec := "sealedTruth", unfollowed := true, recurses := true, apart := false, narrowed := true }
def SealedTruthUptoSaid : Prop := sealedTruthUptoRow.holds Try.pinned (OpenSpec.upto sealedTruthSpec)

/-- 'gavellaw11.SealedPlays', WHERE WHAT IT READS IS OF BULK AT MOST 1048576: true; the input reads as it did. -/
def sealedPlaysUptoRow : OpenClaim := { program := "ytnidmoljhopcoaa", sum := "34460f7adec38ba1fa3f2fd9587894e5da7cd954348b571fc950e7f5682dd647", func := "gavel/gavellaw11.SealedPlays", spec := "sealedPlays", unfollowed := true, recurses := true, apart := false, narrowed := true }
def SealedPlaysUptoSaid : Prop := sealedPlaysUptoRow.holds Try.pinned (OpenSpec.upto sealedPlaysSpec)

/-- 'gavellaw11.SealedSells', WHERE WHAT IT READS IS OF BULK AT MOST 1048576: true; the input reads as it did. -/
def sealedSellsUptoRow : OpenClaim := { program := "ytnidmoljhopcoaa", sum := "34460f7adec38ba1fa3f2fd9587894e5da7cd954348b571fc950e7f5682dd647", func := "gavel/gavellaw11.SealedSells", spec := "sealedSells", unfollowed := true, recurses := true, apart := false, narrowed := true }
def SealedSellsUptoSaid : Prop := sealedSellsUptoRow.holds Try.pinned (OpenSpec.upto sealedSellsSpec)

end Rows
end Go.Proofs.Ytnidmoljhopcoaa
