/-
  No cell of these rows narrows 'for every input' (looked for: loops, veiled, ifaces, maps, wideKeys, modest, calm, conditions, laid).
  DERIVED. THE GIVEN ROWS OF THIS SEAT. 5 by the template 'for every input the law returns true; each argument reads behind the call as it read before'; 0 by the template 'total and deterministic' (their statements: YtkjmpenaifhfjaaTotals.lean).
  GIVEN WITH THE SEED: the statements are not yours to turn. If you find one false, say at which input.
  Laid BY PROGRAM, IN A SANDBOX (cutbox-rows.mjs): the forced cells as the released guide's own fill.sh prints them over the translation 236e93d3d04aae1e… (all of the seat's roots in one cut). By AI agents, Wed Nov 11 2026. No macro, syntax, notation, axiom, sorry.
-/
import Derived.Test.YtkjmpenaifhfjaaChecked
import GoSem.Claim
import GoSem.ClaimJoined
import GoSem.ClaimMapViews
import Derived.JoinedTies
import Derived.KernelRfl
namespace Go.Proofs.Ytkjmpenaifhfjaa
/- THE CELL 'sum', in the pinned program and in every row, IS THE sha256 OF THE DUMP (.gsa) THAT YtkjmpenaifhfjaaProg.lean LOADS. Nothing in Lean hashes anything: it is a label: what it is worth is what the hold of that sum in a sandbox is worth. -/
noncomputable def Try.pinned : Pinned := { name := "ytkjmpenaifhfjaa", sum := "236e93d3d04aae1e6f8e64dc54732e96ac9b42c45745afa1ae4a41997b8be6b5", checked := Try.checked }
namespace Rows
def none {H : Type} : Left H := { results := [], args := [] }

/-- 'gavellaw15.ClearPart': WHATEVER THE INPUT: true; the input reads as it did. -/
def clearPartSpec : ChangeSpec := { name := "clearPart", fn := fun _ => fun
  | [d1, d2, d3] => { results := [.lit (.bool true)], args := [d1, d2, d3] }
  | _ => none }
def clearPartRow : OpenClaim := { program := "ytkjmpenaifhfjaa", sum := "236e93d3d04aae1e6f8e64dc54732e96ac9b42c45745afa1ae4a41997b8be6b5", func := "gavel/gavellaw15.ClearPart", spec := "clearPart", unfollowed := true, recurses := true, plainKeys := false, apart := false }
def ClearPartSaid : Prop := clearPartRow.holds Try.pinned (OpenSpec.ofChange clearPartSpec)

/-- ITS FALSE NEIGHBOUR: 'it returns false'. Refute it at one input. -/
def clearPartWrong : ChangeSpec := { name := "clearPart", fn := fun _ => fun
  | [d1, d2, d3] => { results := [.lit (.bool false)], args := [d1, d2, d3] }
  | _ => none }
def ClearPartWrongFalsely : Prop := clearPartRow.holds Try.pinned (OpenSpec.ofChange clearPartWrong)

/-- 'gavellaw15.ClearBest': WHATEVER THE INPUT: true; the input reads as it did. -/
def clearBestSpec : ChangeSpec := { name := "clearBest", fn := fun _ => fun
  | [d1, d2] => { results := [.lit (.bool true)], args := [d1, d2] }
  | _ => none }
def clearBestRow : OpenClaim := { program := "ytkjmpenaifhfjaa", sum := "236e93d3d04aae1e6f8e64dc54732e96ac9b42c45745afa1ae4a41997b8be6b5", func := "gavel/gavellaw15.ClearBest", spec := "clearBest", unfollowed := true, recurses := true, plainKeys := false, apart := false }
def ClearBestSaid : Prop := clearBestRow.holds Try.pinned (OpenSpec.ofChange clearBestSpec)

/-- ITS FALSE NEIGHBOUR: 'it returns false'. Refute it at one input. -/
def clearBestWrong : ChangeSpec := { name := "clearBest", fn := fun _ => fun
  | [d1, d2] => { results := [.lit (.bool false)], args := [d1, d2] }
  | _ => none }
def ClearBestWrongFalsely : Prop := clearBestRow.holds Try.pinned (OpenSpec.ofChange clearBestWrong)

/-- 'gavellaw15.ClearMore': WHATEVER THE INPUT: true; the input reads as it did. -/
def clearMoreSpec : ChangeSpec := { name := "clearMore", fn := fun _ => fun
  | [d1, d2, d3] => { results := [.lit (.bool true)], args := [d1, d2, d3] }
  | _ => none }
def clearMoreRow : OpenClaim := { program := "ytkjmpenaifhfjaa", sum := "236e93d3d04aae1e6f8e64dc54732e96ac9b42c45745afa1ae4a41997b8be6b5", func := "gavel/gavellaw15.ClearMore", spec := "clearMore", unfollowed := true, recurses := true, plainKeys := false, apart := false }
def ClearMoreSaid : Prop := clearMoreRow.holds Try.pinned (OpenSpec.ofChange clearMoreSpec)

/-- ITS FALSE NEIGHBOUR: 'it returns false'. Refute it at one input. -/
def clearMoreWrong : ChangeSpec := { name := "clearMore", fn := fun _ => fun
  | [d1, d2, d3] => { results := [.lit (.bool false)], args := [d1, d2, d3] }
  | _ => none }
def ClearMoreWrongFalsely : Prop := clearMoreRow.holds Try.pinned (OpenSpec.ofChange clearMoreWrong)

/-- 'gavellaw15.ClearAll': WHATEVER THE INPUT: true; the input reads as it did. -/
def clearAllSpec : ChangeSpec := { name := "clearAll", fn := fun _ => fun
  | [d1, d2] => { results := [.lit (.bool true)], args := [d1, d2] }
  | _ => none }
def clearAllRow : OpenClaim := { program := "ytkjmpenaifhfjaa", sum := "236e93d3d04aae1e6f8e64dc54732e96ac9b42c45745afa1ae4a41997b8be6b5", func := "gavel/gavellaw15.ClearAll", spec := "clearAll", unfollowed := true, recurses := true, plainKeys := false, apart := false }
def ClearAllSaid : Prop := clearAllRow.holds Try.pinned (OpenSpec.ofChange clearAllSpec)

/-- ITS FALSE NEIGHBOUR: 'it returns false'. Refute it at one input. -/
def clearAllWrong : ChangeSpec := { name := "clearAll", fn := fun _ => fun
  | [d1, d2] => { results := [.lit (.bool false)], args := [d1, d2] }
  | _ => none }
def ClearAllWrongFalsely : Prop := clearAllRow.holds Try.pinned (OpenSpec.ofChange clearAllWrong)

/-- 'gavellaw15.ClearTops': WHATEVER THE INPUT: true; the input reads as it did. -/
def clearTopsSpec : ChangeSpec := { name := "clearTops", fn := fun _ => fun
  | [d1, d2] => { results := [.lit (.bool true)], args := [d1, d2] }
  | _ => none }
def clearTopsRow : OpenClaim := { program := "ytkjmpenaifhfjaa", sum := "236e93d3d04aae1e6f8e64dc54732e96ac9b42c45745afa1ae4a41997b8be6b5", func := "gavel/gavellaw15.ClearTops", spec := "clearTops", unfollowed := true, recurses := true, plainKeys := false, apart := false }
def ClearTopsSaid : Prop := clearTopsRow.holds Try.pinned (OpenSpec.ofChange clearTopsSpec)

/-- ITS FALSE NEIGHBOUR: 'it returns false'. Refute it at one input. -/
def clearTopsWrong : ChangeSpec := { name := "clearTops", fn := fun _ => fun
  | [d1, d2] => { results := [.lit (.bool false)], args := [d1, d2] }
  | _ => none }
def ClearTopsWrongFalsely : Prop := clearTopsRow.holds Try.pinned (OpenSpec.ofChange clearTopsWrong)

/- THE SECOND FORM. 'bulk': how many values and letters a reading holds, each counted each time it is reached (what is shared counts as often as it is met; a slice's spare places count too). A statement '..UptoSaid' is the law's where the arguments, and the package variables that the reading takes, are together of bulk at most 1048576: NARROWER than '..Said'. Prove '..Said' where nothing that the law and all that it calls make is longer than what came in: it says more and counts as full. Else prove '..UptoSaid'. A law counts once. -/
mutual
def uptoBulk {H : Type} : DataW H → Nat
  | .lit (.string bytes) => bytes.length + 1
  | .lit _ => 1
  | .nil => 1
  | .ptr d => uptoBulk d + 1
  | .slice elems spare => uptoBulkAll elems + uptoBulkAll spare + 1
  | .agg parts => uptoBulkAll parts + 1
  | .iface _ d => uptoBulk d + 1
  | .map entries => uptoBulkEntries entries + 1
  | .held _ => 1
def uptoBulkAll {H : Type} : List (DataW H) → Nat
  | [] => 0
  | d :: r => uptoBulk d + uptoBulkAll r
def uptoBulkEntries {H : Type} : List (Lit × DataW H) → Nat
  | [] => 0
  | x :: r => uptoBulkEntry x + uptoBulkEntries r
def uptoBulkEntry {H : Type} : Lit × DataW H → Nat
  | (.string bytes, d) => bytes.length + uptoBulk d + 1
  | (_, d) => uptoBulk d + 1
 end
def uptoSmall : (H : Type) → List (DataW H) → Bool := fun _ ds => decide (uptoBulkAll ds ≤ 1048576)
def OpenSpec.upto (s : _root_.Go.ChangeSpec) : _root_.Go.OpenSpec := { _root_.Go.OpenSpec.ofChange s with cond := some uptoSmall }

/-- 'gavellaw15.ClearPart', WHERE WHAT IT READS IS OF BULK AT MOST 1048576: true; the input reads as it did. -/
def clearPartUptoRow : OpenClaim := { program := "ytkjmpenaifhfjaa", sum := "236e93d3d04aae1e6f8e64dc54732e96ac9b42c45745afa1ae4a41997b8be6b5", func := "gavel/gavellaw15.ClearPart", spec := "clearPart", unfollowed := true, recurses := true, plainKeys := false, apart := false, narrowed := true }
def ClearPartUptoSaid : Prop := clearPartUptoRow.holds Try.pinned (OpenSpec.upto clearPartSpec)

/-- 'gavellaw15.ClearBest', WHERE WHAT IT READS IS OF BULK AT MOST 1048576: true; the input reads as it did. -/
def clearBestUptoRow : OpenClaim := { program := "ytkjmpenaifhfjaa", sum := "236e93d3d04aae1e6f8e64dc54732e96ac9b42c45745afa1ae4a41997b8be6b5", func := "gavel/gavellaw15.ClearBest", spec := "clearBest", unfollowed := true, recurses := true, plainKeys := false, apart := false, narrowed := true }
def ClearBestUptoSaid : Prop := clearBestUptoRow.holds Try.pinned (OpenSpec.upto clearBestSpec)

/-- 'gavellaw15.ClearMore', WHERE WHAT IT READS IS OF BULK AT MOST 1048576: true; the input reads as it did. -/
def clearMoreUptoRow : OpenClaim := { program := "ytkjmpenaifhfjaa", sum := "236e93d3d04aae1e6f8e64dc54732e96ac9b42c45745afa1ae4a41997b8be6b5", func := "gavel/gavellaw15.ClearMore", spec := "clearMore", unfollowed := true, recurses := true, plainKeys := false, apart := false, narrowed := true }
def ClearMoreUptoSaid : Prop := clearMoreUptoRow.holds Try.pinned (OpenSpec.upto clearMoreSpec)

/-- 'gavellaw15.ClearAll', WHERE WHAT IT READS IS OF BULK AT MOST 1048576: true; the input reads as it did. -/
def clearAllUptoRow : OpenClaim := { program := "ytkjmpenaifhfjaa", sum := "236e93d3d04aae1e6f8e64dc54732e96ac9b42c45745afa1ae4a41997b8be6b5", func := "gavel/gavellaw15.ClearAll", spec := "clearAll", unfollowed := true, recurses := true, plainKeys := false, apart := false, narrowed := true }
def ClearAllUptoSaid : Prop := clearAllUptoRow.holds Try.pinned (OpenSpec.upto clearAllSpec)

/-- 'gavellaw15.ClearTops', WHERE WHAT IT READS IS OF BULK AT MOST 1048576: true; the input reads as it did. -/
def clearTopsUptoRow : OpenClaim := { program := "ytkjmpenaifhfjaa", sum := "236e93d3d04aae1e6f8e64dc54732e96ac9b42c45745afa1ae4a41997b8be6b5", func := "gavel/gavellaw15.ClearTops", spec := "clearTops", unfollowed := true, recurses := true, plainKeys := false, apart := false, narrowed := true }
def ClearTopsUptoSaid : Prop := clearTopsUptoRow.holds Try.pinned (OpenSpec.upto clearTopsSpec)

end Rows
end Go.Proofs.Ytkjmpenaifhfjaa
