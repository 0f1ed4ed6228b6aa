/-
  No cell of these rows narrows 'for every input' (looked for: loops, veiled, ifaces, maps, wideKeys, modest, calm, conditions, laid).
  DERIVED. THE GIVEN ROWS OF THIS SEAT. 4 by the template 'for every input the law returns true; each argument reads behind the call as it read before'; 0 by the template 'total and deterministic' (their statements: YtdaicdaakegdmaaTotals.lean).
  GIVEN WITH THE SEED: the statements are not yours to turn. If you find one false, say at which input.
  Laid BY PROGRAM, IN A SANDBOX (cutbox-rows.mjs): the forced cells as the released guide's own fill.sh prints them over the translation 0a712aec4fd26b2b… (all of the seat's roots in one cut). By AI agents, Wed Nov 11 2026. No macro, syntax, notation, axiom, sorry.
-/
import Derived.Test.YtdaicdaakegdmaaChecked
import GoSem.Claim
import GoSem.ClaimJoined
import GoSem.ClaimMapViews
import Derived.JoinedTies
import Derived.KernelRfl
namespace Go.Proofs.Ytdaicdaakegdmaa
/- THE CELL 'sum', in the pinned program and in every row, IS THE sha256 OF THE DUMP (.gsa) THAT YtdaicdaakegdmaaProg.lean LOADS. Nothing in Lean hashes anything: it is a label: what it is worth is what the hold of that sum in a sandbox is worth. -/
noncomputable def Try.pinned : Pinned := { name := "ytdaicdaakegdmaa", sum := "0a712aec4fd26b2b13378428965bc13f8637fe33f658e4cfe0ec987501ce2c30", checked := Try.checked }
namespace Rows
def none {H : Type} : Left H := { results := [], args := [] }

/-- 'gavellaw03.TicksAgree': WHATEVER THE INPUT: true; the input reads as it did. -/
def ticksAgreeSpec : ChangeSpec := { name := "ticksAgree", fn := fun _ => fun
  | [d1, d2, d3] => { results := [.lit (.bool true)], args := [d1, d2, d3] }
  | _ => none }
def ticksAgreeRow : OpenClaim := { program := "ytdaicdaakegdmaa", sum := "0a712aec4fd26b2b13378428965bc13f8637fe33f658e4cfe0ec987501ce2c30", func := "gavel/gavellaw03.TicksAgree", spec := "ticksAgree", unfollowed := true, recurses := true, apart := false }
def TicksAgreeSaid : Prop := ticksAgreeRow.holds Try.pinned (OpenSpec.ofChange ticksAgreeSpec)

/-- ITS FALSE NEIGHBOUR: 'it returns false'. Refute it at one input. -/
def ticksAgreeWrong : ChangeSpec := { name := "ticksAgree", fn := fun _ => fun
  | [d1, d2, d3] => { results := [.lit (.bool false)], args := [d1, d2, d3] }
  | _ => none }
def TicksAgreeWrongFalsely : Prop := ticksAgreeRow.holds Try.pinned (OpenSpec.ofChange ticksAgreeWrong)

/-- 'gavellaw03.TicksMeanwhile': WHATEVER THE INPUT: true; the input reads as it did. -/
def ticksMeanwhileSpec : ChangeSpec := { name := "ticksMeanwhile", fn := fun _ => fun
  | [d1, d2] => { results := [.lit (.bool true)], args := [d1, d2] }
  | _ => none }
def ticksMeanwhileRow : OpenClaim := { program := "ytdaicdaakegdmaa", sum := "0a712aec4fd26b2b13378428965bc13f8637fe33f658e4cfe0ec987501ce2c30", func := "gavel/gavellaw03.TicksMeanwhile", spec := "ticksMeanwhile", unfollowed := true, recurses := true, apart := false }
def TicksMeanwhileSaid : Prop := ticksMeanwhileRow.holds Try.pinned (OpenSpec.ofChange ticksMeanwhileSpec)

/-- ITS FALSE NEIGHBOUR: 'it returns false'. Refute it at one input. -/
def ticksMeanwhileWrong : ChangeSpec := { name := "ticksMeanwhile", fn := fun _ => fun
  | [d1, d2] => { results := [.lit (.bool false)], args := [d1, d2] }
  | _ => none }
def TicksMeanwhileWrongFalsely : Prop := ticksMeanwhileRow.holds Try.pinned (OpenSpec.ofChange ticksMeanwhileWrong)

/-- 'gavellaw03.TicksPlay': WHATEVER THE INPUT: true; the input reads as it did. -/
def ticksPlaySpec : ChangeSpec := { name := "ticksPlay", fn := fun _ => fun
  | [d1, d2, d3] => { results := [.lit (.bool true)], args := [d1, d2, d3] }
  | _ => none }
def ticksPlayRow : OpenClaim := { program := "ytdaicdaakegdmaa", sum := "0a712aec4fd26b2b13378428965bc13f8637fe33f658e4cfe0ec987501ce2c30", func := "gavel/gavellaw03.TicksPlay", spec := "ticksPlay", unfollowed := true, recurses := true, apart := false }
def TicksPlaySaid : Prop := ticksPlayRow.holds Try.pinned (OpenSpec.ofChange ticksPlaySpec)

/-- ITS FALSE NEIGHBOUR: 'it returns false'. Refute it at one input. -/
def ticksPlayWrong : ChangeSpec := { name := "ticksPlay", fn := fun _ => fun
  | [d1, d2, d3] => { results := [.lit (.bool false)], args := [d1, d2, d3] }
  | _ => none }
def TicksPlayWrongFalsely : Prop := ticksPlayRow.holds Try.pinned (OpenSpec.ofChange ticksPlayWrong)

/-- 'gavellaw03.TicksNil': WHATEVER THE INPUT: true; the input reads as it did. -/
def ticksNilSpec : ChangeSpec := { name := "ticksNil", fn := fun _ => fun
  | [d1, d2] => { results := [.lit (.bool true)], args := [d1, d2] }
  | _ => none }
def ticksNilRow : OpenClaim := { program := "ytdaicdaakegdmaa", sum := "0a712aec4fd26b2b13378428965bc13f8637fe33f658e4cfe0ec987501ce2c30", func := "gavel/gavellaw03.TicksNil", spec := "ticksNil", unfollowed := true, recurses := true, apart := false }
def TicksNilSaid : Prop := ticksNilRow.holds Try.pinned (OpenSpec.ofChange ticksNilSpec)

/-- ITS FALSE NEIGHBOUR: 'it returns false'. Refute it at one input. -/
def ticksNilWrong : ChangeSpec := { name := "ticksNil", fn := fun _ => fun
  | [d1, d2] => { results := [.lit (.bool false)], args := [d1, d2] }
  | _ => none }
def TicksNilWrongFalsely : Prop := ticksNilRow.holds Try.pinned (OpenSpec.ofChange ticksNilWrong)

/- THE SECOND FORM. 'bulk': how many values and letters a reading holds, each counted each time it is reached (what is shared counts as often as it is met; a slice's spare places count too). A statement '..UptoSaid' is the law's where the arguments, and the package variables that the reading takes, are together of bulk at most 1048576: NARROWER than '..Said'. Prove '..Said' where nothing that the law and all that it calls make is longer than what came in: it says more and counts as full. Else prove '..UptoSaid'. A law counts once. -/
mutual
def uptoBulk {H : Type} : DataW H → Nat
  | .lit (.string bytes) => bytes.length + 1
  | .lit _ => 1
  | .nil => 1
  | .ptr d => uptoBulk d + 1
  | .slice elems spare => uptoBulkAll elems + uptoBulkAll spare + 1
  | .agg parts => uptoBulkAll parts + 1
  | .iface _ d => uptoBulk d + 1
  | .map entries => uptoBulkEntries entries + 1
  | .held _ => 1
def uptoBulkAll {H : Type} : List (DataW H) → Nat
  | [] => 0
  | d :: r => uptoBulk d + uptoBulkAll r
def uptoBulkEntries {H : Type} : List (Lit × DataW H) → Nat
  | [] => 0
  | x :: r => uptoBulkEntry x + uptoBulkEntries r
def uptoBulkEntry {H : Type} : Lit × DataW H → Nat
  | (.string bytes, d) => bytes.length + uptoBulk d + 1
  | (_, d) => uptoBulk d + 1
 end
def uptoSmall : (H : Type) → List (DataW H) → Bool := fun _ ds => decide (uptoBulkAll ds ≤ 1048576)
def OpenSpec.upto (s : _root_.Go.ChangeSpec) : _root_.Go.OpenSpec := { _root_.Go.OpenSpec.ofChange s with cond := some uptoSmall }

/-- 'gavellaw03.TicksAgree', WHERE WHAT IT READS IS OF BULK AT MOST 1048576: true; the input reads as it did. -/
def ticksAgreeUptoRow : OpenClaim := { program := "ytdaicdaakegdmaa", sum := "0a712aec4fd26b2b13378428965bc13f8637fe33f658e4cfe0ec987501ce2c30", func := "gavel/gavellaw03.TicksAgree", spec := "ticksAgree", unfollowed := true, recurses := true, apart := false, narrowed := true }
def TicksAgreeUptoSaid : Prop := ticksAgreeUptoRow.holds Try.pinned (OpenSpec.upto ticksAgreeSpec)

/-- 'gavellaw03.TicksMeanwhile', WHERE WHAT IT READS IS OF BULK AT MOST 1048576: true; the input reads as it did. -/
def ticksMeanwhileUptoRow : OpenClaim := { program := "ytdaicdaakegdmaa", sum := "0a712aec4fd26b2b13378428965bc13f8637fe33f658e4cfe0ec987501ce2c30", func := "gavel/gavellaw03.TicksMeanwhile", spec := "ticksMeanwhile", unfollowed := true, recurses := true, apart := false, narrowed := true }
def TicksMeanwhileUptoSaid : Prop := ticksMeanwhileUptoRow.holds Try.pinned (OpenSpec.upto ticksMeanwhileSpec)

/-- 'gavellaw03.TicksPlay', WHERE WHAT IT READS IS OF BULK AT MOST 1048576: true; the input reads as it did. -/
def ticksPlayUptoRow : OpenClaim := { program := "ytdaicdaakegdmaa", sum := "0a712aec4fd26b2b13378428965bc13f8637fe33f658e4cfe0ec987501ce2c30", func := "gavel/gavellaw03.TicksPlay", spec := "ticksPlay", unfollowed := true, recurses := true, apart := false, narrowed := true }
def TicksPlayUptoSaid : Prop := ticksPlayUptoRow.holds Try.pinned (OpenSpec.upto ticksPlaySpec)

/-- 'gavellaw03.TicksNil', WHERE WHAT IT READS IS OF BULK AT MOST 1048576: true; the input reads as it did. -/
def ticksNilUptoRow : OpenClaim := { program := "ytdaicdaakegdmaa", sum := "0a712aec4fd26b2b13378428965bc13f8637fe33f658e4cfe0ec987501ce2c30", func := "gavel/gavellaw03.TicksNil", spec := "ticksNil", unfollowed := true, recurses := true, apart := false, narrowed := true }
def TicksNilUptoSaid : Prop := ticksNilUptoRow.holds Try.pinned (OpenSpec.upto ticksNilSpec)

end Rows
end Go.Proofs.Ytdaicdaakegdmaa
