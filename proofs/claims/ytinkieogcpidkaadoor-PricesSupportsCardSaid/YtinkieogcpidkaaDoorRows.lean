/-
  NARROWER THAN 'FOR EVERY INPUT', by the rows' own cells (each row's printed sentence says how): PricesBounds: laid · PricesSupports: laid · PricesHold: laid · PricesCost: laid.
  DERIVED. THE GIVEN ROWS OF THIS SEAT. 4 by the template 'for every input the law returns true; each argument reads behind the call as it read before'; 0 by the template 'total and deterministic' (their statements: YtinkieogcpidkaaDoorTotals.lean).
  GIVEN WITH THE SEED: the statements are not yours to turn. If you find one false, say at which input.
  Laid BY PROGRAM, IN A SANDBOX (cutbox-rows.mjs): the forced cells as the released guide's own fill.sh prints them over the translation d696177af38beb53… (all of the seat's roots in one cut). By AI agents, Wed Nov 11 2026. No macro, syntax, notation, axiom, sorry.
-/
import Derived.Test.YtinkieogcpidkaaDoorChecked
import GoSem.Claim
import GoSem.ClaimJoined
import GoSem.ClaimMapViews
import Derived.JoinedTies
import Derived.KernelRfl
namespace Go.Proofs.YtinkieogcpidkaaDoor
/- THE CELL 'sum', in the pinned program and in every row, IS THE sha256 OF THE DUMP (.gsa) THAT YtinkieogcpidkaaDoorProg.lean LOADS. Nothing in Lean hashes anything: it is a label: what it is worth is what the hold of that sum in a sandbox is worth. -/
noncomputable def Tryd.pinned : Pinned := { name := "ytinkieogcpidkaadoor", sum := "d696177af38beb53d65e528ddfc5a6ecde70256cc355a48baadfac51d91adcc8", checked := Tryd.checked }
namespace Rows
def none {H : Type} : Left H := { results := [], args := [] }

/- WHAT THE LISTED PACKAGE-LEVEL VARIABLES READ AS WHEN THE CALL BEGINS. Each datum BY PROGRAM (the guide's laid-datum.mjs) off the statement by which the dump's own 'gosem.cut.vars' lays the variable. In a bare row this is a premise. The card (YtinkieogcpidkaaDoorCards.lean) ties it to the program's text. -/
def laid_math_bits_deBruijn32tab {H : Type} : DataW H := .agg [.lit (.int .u8 0), .lit (.int .u8 1), .lit (.int .u8 28), .lit (.int .u8 2), .lit (.int .u8 29), .lit (.int .u8 14), .lit (.int .u8 24), .lit (.int .u8 3), .lit (.int .u8 30), .lit (.int .u8 22), .lit (.int .u8 20), .lit (.int .u8 15), .lit (.int .u8 25), .lit (.int .u8 17), .lit (.int .u8 4), .lit (.int .u8 8), .lit (.int .u8 31), .lit (.int .u8 27), .lit (.int .u8 13), .lit (.int .u8 23), .lit (.int .u8 21), .lit (.int .u8 19), .lit (.int .u8 16), .lit (.int .u8 7), .lit (.int .u8 26), .lit (.int .u8 12), .lit (.int .u8 18), .lit (.int .u8 6), .lit (.int .u8 11), .lit (.int .u8 5), .lit (.int .u8 10), .lit (.int .u8 9)]

/-- 'gavellaw14.PricesBounds': WHATEVER THE INPUT: true; the input reads as it did. -/
def pricesBoundsSpec : ChangeSpec := { name := "pricesBounds", fn := fun _ => fun
  | [d1, d2, d3] => { results := [.lit (.bool true)], args := [d1, d2, d3] }
  | _ => none }
def pricesBoundsRow : OpenClaim := { program := "ytinkieogcpidkaadoor", sum := "d696177af38beb53d65e528ddfc5a6ecde70256cc355a48baadfac51d91adcc8", func := "gavel/gavellaw14.PricesBounds", spec := "pricesBounds", unfollowed := true, recurses := true, named := ["math/bits.deBruijn32tab"], apart := false, laid := [("math/bits.deBruijn32tab", laid_math_bits_deBruijn32tab)] }
def PricesBoundsSaid : Prop := pricesBoundsRow.holds Tryd.pinned (OpenSpec.ofChange pricesBoundsSpec)

/-- ITS FALSE NEIGHBOUR: 'it returns false'. Refute it at one input. -/
def pricesBoundsWrong : ChangeSpec := { name := "pricesBounds", fn := fun _ => fun
  | [d1, d2, d3] => { results := [.lit (.bool false)], args := [d1, d2, d3] }
  | _ => none }
def PricesBoundsWrongFalsely : Prop := pricesBoundsRow.holds Tryd.pinned (OpenSpec.ofChange pricesBoundsWrong)

/-- 'gavellaw14.PricesSupports': WHATEVER THE INPUT: true; the input reads as it did. -/
def pricesSupportsSpec : ChangeSpec := { name := "pricesSupports", fn := fun _ => fun
  | [d1, d2, d3] => { results := [.lit (.bool true)], args := [d1, d2, d3] }
  | _ => none }
def pricesSupportsRow : OpenClaim := { program := "ytinkieogcpidkaadoor", sum := "d696177af38beb53d65e528ddfc5a6ecde70256cc355a48baadfac51d91adcc8", func := "gavel/gavellaw14.PricesSupports", spec := "pricesSupports", unfollowed := true, recurses := true, named := ["math/bits.deBruijn32tab"], apart := false, laid := [("math/bits.deBruijn32tab", laid_math_bits_deBruijn32tab)] }
def PricesSupportsSaid : Prop := pricesSupportsRow.holds Tryd.pinned (OpenSpec.ofChange pricesSupportsSpec)

/-- ITS FALSE NEIGHBOUR: 'it returns false'. Refute it at one input. -/
def pricesSupportsWrong : ChangeSpec := { name := "pricesSupports", fn := fun _ => fun
  | [d1, d2, d3] => { results := [.lit (.bool false)], args := [d1, d2, d3] }
  | _ => none }
def PricesSupportsWrongFalsely : Prop := pricesSupportsRow.holds Tryd.pinned (OpenSpec.ofChange pricesSupportsWrong)

/-- 'gavellaw14.PricesHold': WHATEVER THE INPUT: true; the input reads as it did. -/
def pricesHoldSpec : ChangeSpec := { name := "pricesHold", fn := fun _ => fun
  | [d1, d2, d3] => { results := [.lit (.bool true)], args := [d1, d2, d3] }
  | _ => none }
def pricesHoldRow : OpenClaim := { program := "ytinkieogcpidkaadoor", sum := "d696177af38beb53d65e528ddfc5a6ecde70256cc355a48baadfac51d91adcc8", func := "gavel/gavellaw14.PricesHold", spec := "pricesHold", unfollowed := true, recurses := true, named := ["math/bits.deBruijn32tab"], apart := false, laid := [("math/bits.deBruijn32tab", laid_math_bits_deBruijn32tab)] }
def PricesHoldSaid : Prop := pricesHoldRow.holds Tryd.pinned (OpenSpec.ofChange pricesHoldSpec)

/-- ITS FALSE NEIGHBOUR: 'it returns false'. Refute it at one input. -/
def pricesHoldWrong : ChangeSpec := { name := "pricesHold", fn := fun _ => fun
  | [d1, d2, d3] => { results := [.lit (.bool false)], args := [d1, d2, d3] }
  | _ => none }
def PricesHoldWrongFalsely : Prop := pricesHoldRow.holds Tryd.pinned (OpenSpec.ofChange pricesHoldWrong)

/-- 'gavellaw14.PricesCost': WHATEVER THE INPUT: true; the input reads as it did. -/
def pricesCostSpec : ChangeSpec := { name := "pricesCost", fn := fun _ => fun
  | [d1, d2, d3] => { results := [.lit (.bool true)], args := [d1, d2, d3] }
  | _ => none }
def pricesCostRow : OpenClaim := { program := "ytinkieogcpidkaadoor", sum := "d696177af38beb53d65e528ddfc5a6ecde70256cc355a48baadfac51d91adcc8", func := "gavel/gavellaw14.PricesCost", spec := "pricesCost", unfollowed := true, recurses := true, named := ["math/bits.deBruijn32tab"], apart := false, laid := [("math/bits.deBruijn32tab", laid_math_bits_deBruijn32tab)] }
def PricesCostSaid : Prop := pricesCostRow.holds Tryd.pinned (OpenSpec.ofChange pricesCostSpec)

/-- ITS FALSE NEIGHBOUR: 'it returns false'. Refute it at one input. -/
def pricesCostWrong : ChangeSpec := { name := "pricesCost", fn := fun _ => fun
  | [d1, d2, d3] => { results := [.lit (.bool false)], args := [d1, d2, d3] }
  | _ => none }
def PricesCostWrongFalsely : Prop := pricesCostRow.holds Tryd.pinned (OpenSpec.ofChange pricesCostWrong)

/- THE SECOND FORM. 'bulk': how many values and letters a reading holds, each counted each time it is reached (what is shared counts as often as it is met; a slice's spare places count too). A statement '..UptoSaid' is the law's where the arguments, and the package variables that the reading takes, are together of bulk at most 1048576: NARROWER than '..Said'. Prove '..Said' where nothing that the law and all that it calls make is longer than what came in: it says more and counts as full. Else prove '..UptoSaid'. A law counts once. -/
mutual
def uptoBulk {H : Type} : DataW H → Nat
  | .lit (.string bytes) => bytes.length + 1
  | .lit _ => 1
  | .nil => 1
  | .ptr d => uptoBulk d + 1
  | .slice elems spare => uptoBulkAll elems + uptoBulkAll spare + 1
  | .agg parts => uptoBulkAll parts + 1
  | .iface _ d => uptoBulk d + 1
  | .map entries => uptoBulkEntries entries + 1
  | .held _ => 1
def uptoBulkAll {H : Type} : List (DataW H) → Nat
  | [] => 0
  | d :: r => uptoBulk d + uptoBulkAll r
def uptoBulkEntries {H : Type} : List (Lit × DataW H) → Nat
  | [] => 0
  | x :: r => uptoBulkEntry x + uptoBulkEntries r
def uptoBulkEntry {H : Type} : Lit × DataW H → Nat
  | (.string bytes, d) => bytes.length + uptoBulk d + 1
  | (_, d) => uptoBulk d + 1
 end
def uptoSmall : (H : Type) → List (DataW H) → Bool := fun _ ds => decide (uptoBulkAll ds ≤ 1048576)
def OpenSpec.upto (s : _root_.Go.ChangeSpec) : _root_.Go.OpenSpec := { _root_.Go.OpenSpec.ofChange s with cond := some uptoSmall }

/-- 'gavellaw14.PricesBounds', WHERE WHAT IT READS IS OF BULK AT MOST 1048576: true; the input reads as it did. -/
def pricesBoundsUptoRow : OpenClaim := { program := "ytinkieogcpidkaadoor", sum := "d696177af38beb53d65e528ddfc5a6ecde70256cc355a48baadfac51d91adcc8", func := "gavel/gavellaw14.PricesBounds", spec := "pricesBounds", unfollowed := true, recurses := true, named := ["math/bits.deBruijn32tab"], apart := false, laid := [("math/bits.deBruijn32tab", laid_math_bits_deBruijn32tab)], narrowed := true }
def PricesBoundsUptoSaid : Prop := pricesBoundsUptoRow.holds Tryd.pinned (OpenSpec.upto pricesBoundsSpec)

/-- 'gavellaw14.PricesSupports', WHERE WHAT IT READS IS OF BULK AT MOST 1048576: true; the input reads as it did. -/
def pricesSupportsUptoRow : OpenClaim := { program := "ytinkieogcpidkaadoor", sum := "d696177af38beb53d65e528ddfc5a6ecde70256cc355a48baadfac51d91adcc8", func := "gavel/gavellaw14.PricesSupports", spec := "pricesSupports", unfollowed := true, recurses := true, named := ["math/bits.deBruijn32tab"], apart := false, laid := [("math/bits.deBruijn32tab", laid_math_bits_deBruijn32tab)], narrowed := true }
def PricesSupportsUptoSaid : Prop := pricesSupportsUptoRow.holds Tryd.pinned (OpenSpec.upto pricesSupportsSpec)

/-- 'gavellaw14.PricesHold', WHERE WHAT IT READS IS OF BULK AT MOST 1048576: true; the input reads as it did. -/
def pricesHoldUptoRow : OpenClaim := { program := "ytinkieogcpidkaadoor", sum := "d696177af38beb53d65e528ddfc5a6ecde70256cc355a48baadfac51d91adcc8", func := "gavel/gavellaw14.PricesHold", spec := "pricesHold", unfollowed := true, recurses := true, named := ["math/bits.deBruijn32tab"], apart := false, laid := [("math/bits.deBruijn32tab", laid_math_bits_deBruijn32tab)], narrowed := true }
def PricesHoldUptoSaid : Prop := pricesHoldUptoRow.holds Tryd.pinned (OpenSpec.upto pricesHoldSpec)

/-- 'gavellaw14.PricesCost', WHERE WHAT IT READS IS OF BULK AT MOST 1048576: true; the input reads as it did. -/
def pricesCostUptoRow : OpenClaim := { program := "ytinkieogcpidkaadoor", sum := "d696177af38beb53d65e528ddfc5a6ecde70256cc355a48baadfac51d91adcc8", func := "gavel/gavellaw14.PricesCost", spec := "pricesCost", unfollowed := true, recurses := true, named := ["math/bits.deBruijn32tab"], apart := false, laid := [("math/bits.deBruijn32tab", laid_math_bits_deBruijn32tab)], narrowed := true }
def PricesCostUptoSaid : Prop := pricesCostUptoRow.holds Tryd.pinned (OpenSpec.upto pricesCostSpec)

end Rows
end Go.Proofs.YtinkieogcpidkaaDoor
