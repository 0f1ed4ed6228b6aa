/-
  NARROWER THAN 'FOR EVERY INPUT', by the rows' own cells (each row's printed sentence says how): OffersWorths: laid · OffersChoices: laid · OffersTell: laid · OffersNormal: laid · OffersAgree: laid · OffersWith: laid.
  DERIVED. THE GIVEN ROWS OF THIS SEAT. 6 by the template 'for every input the law returns true; each argument reads behind the call as it read before'; 0 by the template 'total and deterministic' (their statements: YtkiebjgpghajbaaDoorTotals.lean).
  GIVEN WITH THE SEED: the statements are not yours to turn. If you find one false, say at which input.
  Laid BY PROGRAM, IN A SANDBOX (cutbox-rows.mjs): the forced cells as the released guide's own fill.sh prints them over the translation d4b7ca54a8d2a4bf… (all of the seat's roots in one cut). By AI agents, Wed Nov 11 2026. No macro, syntax, notation, axiom, sorry.
-/
import Derived.Test.YtkiebjgpghajbaaDoorChecked
import GoSem.Claim
import GoSem.ClaimJoined
import GoSem.ClaimMapViews
import Derived.JoinedTies
import Derived.KernelRfl
namespace Go.Proofs.YtkiebjgpghajbaaDoor
/- THE CELL 'sum', in the pinned program and in every row, IS THE sha256 OF THE DUMP (.gsa) THAT YtkiebjgpghajbaaDoorProg.lean LOADS. Nothing in Lean hashes anything: it is a label: what it is worth is what the hold of that sum in a sandbox is worth. -/
noncomputable def Tryd.pinned : Pinned := { name := "ytkiebjgpghajbaadoor", sum := "d4b7ca54a8d2a4bf585b0f039bf2858ce2cb8d09659d3f0ea8e626a624d86e03", checked := Tryd.checked }
namespace Rows
def none {H : Type} : Left H := { results := [], args := [] }

/- WHAT THE LISTED PACKAGE-LEVEL VARIABLES READ AS WHEN THE CALL BEGINS. Each datum BY PROGRAM (the guide's laid-datum.mjs) off the statement by which the dump's own 'gosem.cut.vars' lays the variable. In a bare row this is a premise. The card (YtkiebjgpghajbaaDoorCards.lean) ties it to the program's text. -/
def laid_math_bits_deBruijn32tab {H : Type} : DataW H := .agg [.lit (.int .u8 0), .lit (.int .u8 1), .lit (.int .u8 28), .lit (.int .u8 2), .lit (.int .u8 29), .lit (.int .u8 14), .lit (.int .u8 24), .lit (.int .u8 3), .lit (.int .u8 30), .lit (.int .u8 22), .lit (.int .u8 20), .lit (.int .u8 15), .lit (.int .u8 25), .lit (.int .u8 17), .lit (.int .u8 4), .lit (.int .u8 8), .lit (.int .u8 31), .lit (.int .u8 27), .lit (.int .u8 13), .lit (.int .u8 23), .lit (.int .u8 21), .lit (.int .u8 19), .lit (.int .u8 16), .lit (.int .u8 7), .lit (.int .u8 26), .lit (.int .u8 12), .lit (.int .u8 18), .lit (.int .u8 6), .lit (.int .u8 11), .lit (.int .u8 5), .lit (.int .u8 10), .lit (.int .u8 9)]

/-- 'gavellaw08.OffersWorths': WHATEVER THE INPUT: true; the input reads as it did. -/
def offersWorthsSpec : ChangeSpec := { name := "offersWorths", fn := fun _ => fun
  | [d1, d2, d3] => { results := [.lit (.bool true)], args := [d1, d2, d3] }
  | _ => none }
def offersWorthsRow : OpenClaim := { program := "ytkiebjgpghajbaadoor", sum := "d4b7ca54a8d2a4bf585b0f039bf2858ce2cb8d09659d3f0ea8e626a624d86e03", func := "gavel/gavellaw08.OffersWorths", spec := "offersWorths", unfollowed := true, recurses := true, named := ["math/bits.deBruijn32tab"], apart := false, laid := [("math/bits.deBruijn32tab", laid_math_bits_deBruijn32tab)] }
def OffersWorthsSaid : Prop := offersWorthsRow.holds Tryd.pinned (OpenSpec.ofChange offersWorthsSpec)

/-- ITS FALSE NEIGHBOUR: 'it returns false'. Refute it at one input. -/
def offersWorthsWrong : ChangeSpec := { name := "offersWorths", fn := fun _ => fun
  | [d1, d2, d3] => { results := [.lit (.bool false)], args := [d1, d2, d3] }
  | _ => none }
def OffersWorthsWrongFalsely : Prop := offersWorthsRow.holds Tryd.pinned (OpenSpec.ofChange offersWorthsWrong)

/-- 'gavellaw08.OffersChoices': WHATEVER THE INPUT: true; the input reads as it did. -/
def offersChoicesSpec : ChangeSpec := { name := "offersChoices", fn := fun _ => fun
  | [d1, d2] => { results := [.lit (.bool true)], args := [d1, d2] }
  | _ => none }
def offersChoicesRow : OpenClaim := { program := "ytkiebjgpghajbaadoor", sum := "d4b7ca54a8d2a4bf585b0f039bf2858ce2cb8d09659d3f0ea8e626a624d86e03", func := "gavel/gavellaw08.OffersChoices", spec := "offersChoices", unfollowed := true, recurses := true, named := ["math/bits.deBruijn32tab"], apart := false, laid := [("math/bits.deBruijn32tab", laid_math_bits_deBruijn32tab)] }
def OffersChoicesSaid : Prop := offersChoicesRow.holds Tryd.pinned (OpenSpec.ofChange offersChoicesSpec)

/-- ITS FALSE NEIGHBOUR: 'it returns false'. Refute it at one input. -/
def offersChoicesWrong : ChangeSpec := { name := "offersChoices", fn := fun _ => fun
  | [d1, d2] => { results := [.lit (.bool false)], args := [d1, d2] }
  | _ => none }
def OffersChoicesWrongFalsely : Prop := offersChoicesRow.holds Tryd.pinned (OpenSpec.ofChange offersChoicesWrong)

/-- 'gavellaw08.OffersTell': WHATEVER THE INPUT: true; the input reads as it did. -/
def offersTellSpec : ChangeSpec := { name := "offersTell", fn := fun _ => fun
  | [d1, d2, d3] => { results := [.lit (.bool true)], args := [d1, d2, d3] }
  | _ => none }
def offersTellRow : OpenClaim := { program := "ytkiebjgpghajbaadoor", sum := "d4b7ca54a8d2a4bf585b0f039bf2858ce2cb8d09659d3f0ea8e626a624d86e03", func := "gavel/gavellaw08.OffersTell", spec := "offersTell", unfollowed := true, recurses := true, named := ["math/bits.deBruijn32tab"], apart := false, laid := [("math/bits.deBruijn32tab", laid_math_bits_deBruijn32tab)] }
def OffersTellSaid : Prop := offersTellRow.holds Tryd.pinned (OpenSpec.ofChange offersTellSpec)

/-- ITS FALSE NEIGHBOUR: 'it returns false'. Refute it at one input. -/
def offersTellWrong : ChangeSpec := { name := "offersTell", fn := fun _ => fun
  | [d1, d2, d3] => { results := [.lit (.bool false)], args := [d1, d2, d3] }
  | _ => none }
def OffersTellWrongFalsely : Prop := offersTellRow.holds Tryd.pinned (OpenSpec.ofChange offersTellWrong)

/-- 'gavellaw08.OffersNormal': WHATEVER THE INPUT: true; the input reads as it did. -/
def offersNormalSpec : ChangeSpec := { name := "offersNormal", fn := fun _ => fun
  | [d1, d2, d3] => { results := [.lit (.bool true)], args := [d1, d2, d3] }
  | _ => none }
def offersNormalRow : OpenClaim := { program := "ytkiebjgpghajbaadoor", sum := "d4b7ca54a8d2a4bf585b0f039bf2858ce2cb8d09659d3f0ea8e626a624d86e03", func := "gavel/gavellaw08.OffersNormal", spec := "offersNormal", unfollowed := true, recurses := true, named := ["math/bits.deBruijn32tab"], apart := false, laid := [("math/bits.deBruijn32tab", laid_math_bits_deBruijn32tab)] }
def OffersNormalSaid : Prop := offersNormalRow.holds Tryd.pinned (OpenSpec.ofChange offersNormalSpec)

/-- ITS FALSE NEIGHBOUR: 'it returns false'. Refute it at one input. -/
def offersNormalWrong : ChangeSpec := { name := "offersNormal", fn := fun _ => fun
  | [d1, d2, d3] => { results := [.lit (.bool false)], args := [d1, d2, d3] }
  | _ => none }
def OffersNormalWrongFalsely : Prop := offersNormalRow.holds Tryd.pinned (OpenSpec.ofChange offersNormalWrong)

/-- 'gavellaw08.OffersAgree': WHATEVER THE INPUT: true; the input reads as it did. -/
def offersAgreeSpec : ChangeSpec := { name := "offersAgree", fn := fun _ => fun
  | [d1, d2, d3] => { results := [.lit (.bool true)], args := [d1, d2, d3] }
  | _ => none }
def offersAgreeRow : OpenClaim := { program := "ytkiebjgpghajbaadoor", sum := "d4b7ca54a8d2a4bf585b0f039bf2858ce2cb8d09659d3f0ea8e626a624d86e03", func := "gavel/gavellaw08.OffersAgree", spec := "offersAgree", unfollowed := true, recurses := true, named := ["math/bits.deBruijn32tab"], apart := false, laid := [("math/bits.deBruijn32tab", laid_math_bits_deBruijn32tab)] }
def OffersAgreeSaid : Prop := offersAgreeRow.holds Tryd.pinned (OpenSpec.ofChange offersAgreeSpec)

/-- ITS FALSE NEIGHBOUR: 'it returns false'. Refute it at one input. -/
def offersAgreeWrong : ChangeSpec := { name := "offersAgree", fn := fun _ => fun
  | [d1, d2, d3] => { results := [.lit (.bool false)], args := [d1, d2, d3] }
  | _ => none }
def OffersAgreeWrongFalsely : Prop := offersAgreeRow.holds Tryd.pinned (OpenSpec.ofChange offersAgreeWrong)

/-- 'gavellaw08.OffersWith': WHATEVER THE INPUT: true; the input reads as it did. -/
def offersWithSpec : ChangeSpec := { name := "offersWith", fn := fun _ => fun
  | [d1, d2, d3] => { results := [.lit (.bool true)], args := [d1, d2, d3] }
  | _ => none }
def offersWithRow : OpenClaim := { program := "ytkiebjgpghajbaadoor", sum := "d4b7ca54a8d2a4bf585b0f039bf2858ce2cb8d09659d3f0ea8e626a624d86e03", func := "gavel/gavellaw08.OffersWith", spec := "offersWith", unfollowed := true, recurses := true, named := ["math/bits.deBruijn32tab"], apart := false, laid := [("math/bits.deBruijn32tab", laid_math_bits_deBruijn32tab)] }
def OffersWithSaid : Prop := offersWithRow.holds Tryd.pinned (OpenSpec.ofChange offersWithSpec)

/-- ITS FALSE NEIGHBOUR: 'it returns false'. Refute it at one input. -/
def offersWithWrong : ChangeSpec := { name := "offersWith", fn := fun _ => fun
  | [d1, d2, d3] => { results := [.lit (.bool false)], args := [d1, d2, d3] }
  | _ => none }
def OffersWithWrongFalsely : Prop := offersWithRow.holds Tryd.pinned (OpenSpec.ofChange offersWithWrong)

/- THE SECOND FORM. 'bulk': how many values and letters a reading holds, each counted each time it is reached (what is shared counts as often as it is met; a slice's spare places count too). A statement '..UptoSaid' is the law's where the arguments, and the package variables that the reading takes, are together of bulk at most 1048576: NARROWER than '..Said'. Prove '..Said' where nothing that the law and all that it calls make is longer than what came in: it says more and counts as full. Else prove '..UptoSaid'. A law counts once. -/
mutual
def uptoBulk {H : Type} : DataW H → Nat
  | .lit (.string bytes) => bytes.length + 1
  | .lit _ => 1
  | .nil => 1
  | .ptr d => uptoBulk d + 1
  | .slice elems spare => uptoBulkAll elems + uptoBulkAll spare + 1
  | .agg parts => uptoBulkAll parts + 1
  | .iface _ d => uptoBulk d + 1
  | .map entries => uptoBulkEntries entries + 1
  | .held _ => 1
def uptoBulkAll {H : Type} : List (DataW H) → Nat
  | [] => 0
  | d :: r => uptoBulk d + uptoBulkAll r
def uptoBulkEntries {H : Type} : List (Lit × DataW H) → Nat
  | [] => 0
  | x :: r => uptoBulkEntry x + uptoBulkEntries r
def uptoBulkEntry {H : Type} : Lit × DataW H → Nat
  | (.string bytes, d) => bytes.length + uptoBulk d + 1
  | (_, d) => uptoBulk d + 1
 end
def uptoSmall : (H : Type) → List (DataW H) → Bool := fun _ ds => decide (uptoBulkAll ds ≤ 1048576)
def OpenSpec.upto (s : _root_.Go.ChangeSpec) : _root_.Go.OpenSpec := { _root_.Go.OpenSpec.ofChange s with cond := some uptoSmall }

/-- 'gavellaw08.OffersWorths', WHERE WHAT IT READS IS OF BULK AT MOST 1048576: true; the input reads as it did. -/
def offersWorthsUptoRow : OpenClaim := { program := "ytkiebjgpghajbaadoor", sum := "d4b7ca54a8d2a4bf585b0f039bf2858ce2cb8d09659d3f0ea8e626a624d86e03", func := "gavel/gavellaw08.OffersWorths", spec := "offersWorths", unfollowed := true, recurses := true, named := ["math/bits.deBruijn32tab"], apart := false, laid := [("math/bits.deBruijn32tab", laid_math_bits_deBruijn32tab)], narrowed := true }
def OffersWorthsUptoSaid : Prop := offersWorthsUptoRow.holds Tryd.pinned (OpenSpec.upto offersWorthsSpec)

/-- 'gavellaw08.OffersChoices', WHERE WHAT IT READS IS OF BULK AT MOST 1048576: true; the input reads as it did. -/
def offersChoicesUptoRow : OpenClaim := { program := "ytkiebjgpghajbaadoor", sum := "d4b7ca54a8d2a4bf585b0f039bf2858ce2cb8d09659d3f0ea8e626a624d86e03", func := "gavel/gavellaw08.OffersChoices", spec := "offersChoices", unfollowed := true, recurses := true, named := ["math/bits.deBruijn32tab"], apart := false, laid := [("math/bits.deBruijn32tab", laid_math_bits_deBruijn32tab)], narrowed := true }
def OffersChoicesUptoSaid : Prop := offersChoicesUptoRow.holds Tryd.pinned (OpenSpec.upto offersChoicesSpec)

/-- 'gavellaw08.OffersTell', WHERE WHAT IT READS IS OF BULK AT MOST 1048576: true; the input reads as it did. -/
def offersTellUptoRow : OpenClaim := { program := "ytkiebjgpghajbaadoor", sum := "d4b7ca54a8d2a4bf585b0f039bf2858ce2cb8d09659d3f0ea8e626a624d86e03", func := "gavel/gavellaw08.OffersTell", spec := "offersTell", unfollowed := true, recurses := true, named := ["math/bits.deBruijn32tab"], apart := false, laid := [("math/bits.deBruijn32tab", laid_math_bits_deBruijn32tab)], narrowed := true }
def OffersTellUptoSaid : Prop := offersTellUptoRow.holds Tryd.pinned (OpenSpec.upto offersTellSpec)

/-- 'gavellaw08.OffersNormal', WHERE WHAT IT READS IS OF BULK AT MOST 1048576: true; the input reads as it did. -/
def offersNormalUptoRow : OpenClaim := { program := "ytkiebjgpghajbaadoor", sum := "d4b7ca54a8d2a4bf585b0f039bf2858ce2cb8d09659d3f0ea8e626a624d86e03", func := "gavel/gavellaw08.OffersNormal", spec := "offersNormal", unfollowed := true, recurses := true, named := ["math/bits.deBruijn32tab"], apart := false, laid := [("math/bits.deBruijn32tab", laid_math_bits_deBruijn32tab)], narrowed := true }
def OffersNormalUptoSaid : Prop := offersNormalUptoRow.holds Tryd.pinned (OpenSpec.upto offersNormalSpec)

/-- 'gavellaw08.OffersAgree', WHERE WHAT IT READS IS OF BULK AT MOST 1048576: true; the input reads as it did. -/
def offersAgreeUptoRow : OpenClaim := { program := "ytkiebjgpghajbaadoor", sum := "d4b7ca54a8d2a4bf585b0f039bf2858ce2cb8d09659d3f0ea8e626a624d86e03", func := "gavel/gavellaw08.OffersAgree", spec := "offersAgree", unfollowed := true, recurses := true, named := ["math/bits.deBruijn32tab"], apart := false, laid := [("math/bits.deBruijn32tab", laid_math_bits_deBruijn32tab)], narrowed := true }
def OffersAgreeUptoSaid : Prop := offersAgreeUptoRow.holds Tryd.pinned (OpenSpec.upto offersAgreeSpec)

/-- 'gavellaw08.OffersWith', WHERE WHAT IT READS IS OF BULK AT MOST 1048576: true; the input reads as it did. -/
def offersWithUptoRow : OpenClaim := { program := "ytkiebjgpghajbaadoor", sum := "d4b7ca54a8d2a4bf585b0f039bf2858ce2cb8d09659d3f0ea8e626a624d86e03", func := "gavel/gavellaw08.OffersWith", spec := "offersWith", unfollowed := true, recurses := true, named := ["math/bits.deBruijn32tab"], apart := false, laid := [("math/bits.deBruijn32tab", laid_math_bits_deBruijn32tab)], narrowed := true }
def OffersWithUptoSaid : Prop := offersWithUptoRow.holds Tryd.pinned (OpenSpec.upto offersWithSpec)

end Rows
end Go.Proofs.YtkiebjgpghajbaaDoor
