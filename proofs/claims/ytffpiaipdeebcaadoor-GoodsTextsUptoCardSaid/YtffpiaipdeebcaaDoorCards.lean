/-
  DERIVED. GIVEN WITH THE SEED: THE CARDS: each row of YtffpiaipdeebcaaDoorRows.lean that lists a variable, with what it lists TIED to the program's text (the seventh form; the later family's looks); each row that meets fmt, with fmt's text TOLD by the authors' own Lean function (tested against real Go, not proved from fmt's source: count such statements apart). THE CARD IS WHAT COUNTS. Prove the row's statement (the work); the ties are given (YtffpiaipdeebcaaDoorTie.lean); close each card by the builder's one call (the guide's Derived/Test/ToyasCard.lean, 'card_holds'). Laid BY PROGRAM, IN A SANDBOX (cutbox-door.mjs). By AI agents, Wed Nov 11 2026. No macro, syntax, notation, axiom, sorry.
-/
import Derived.Test.YtffpiaipdeebcaaDoorRows
import GoSem.ClaimSeven
namespace Go.Proofs.YtffpiaipdeebcaaDoor
namespace Rows

/-- THE TIED CARD OF 'gavellaw07.GoodsSets'. -/
def goodsSetsCard : Claim7 := { stood := { row := goodsSetsRow, standIns := [], harness := (true, "3c6450dc500a79acae7157f12f43f471f0e00037eea5d61f6daa6578746fc073"), looks := true }, kinds := [], alts := [], laidByText := true, laidKinds := [.data, .data, .data, .data, .sentinel, .sentinel, .pinned], laidTests := true, laidLooks := .later }
def GoodsSetsCardSaid : Prop := Claim7.holds Tryd.pinned (.plain (OpenSpec.ofChange goodsSetsSpec)) goodsSetsCard

/-- THE TIED CARD OF 'gavellaw07.GoodsTexts'. -/
def goodsTextsCard : Claim7 := { stood := { row := goodsTextsRow, standIns := [], harness := (true, "3c6450dc500a79acae7157f12f43f471f0e00037eea5d61f6daa6578746fc073"), looks := true }, kinds := [], alts := [], laidByText := true, laidKinds := [.data, .data, .data, .data, .sentinel, .sentinel, .pinned], laidTests := true, laidLooks := .later }
def GoodsTextsCardSaid : Prop := Claim7.holds Tryd.pinned (.plain (OpenSpec.ofChange goodsTextsSpec)) goodsTextsCard

/-- THE TIED CARD OF 'gavellaw07.GoodsParts'. -/
def goodsPartsCard : Claim7 := { stood := { row := goodsPartsRow, standIns := [], harness := (true, "3c6450dc500a79acae7157f12f43f471f0e00037eea5d61f6daa6578746fc073"), looks := true }, kinds := [], alts := [], laidByText := true, laidKinds := [.data, .data, .data, .data, .sentinel, .sentinel, .pinned], laidTests := true, laidLooks := .later }
def GoodsPartsCardSaid : Prop := Claim7.holds Tryd.pinned (.plain (OpenSpec.ofChange goodsPartsSpec)) goodsPartsCard

/-- THE TIED CARD OF 'gavellaw07.GoodsEach'. -/
def goodsEachCard : Claim7 := { stood := { row := goodsEachRow, standIns := [], harness := (true, "3c6450dc500a79acae7157f12f43f471f0e00037eea5d61f6daa6578746fc073"), looks := true }, kinds := [], alts := [], laidByText := true, laidKinds := [.data, .data, .data, .data, .sentinel, .sentinel, .pinned], laidTests := true, laidLooks := .later }
def GoodsEachCardSaid : Prop := Claim7.holds Tryd.pinned (.plain (OpenSpec.ofChange goodsEachSpec)) goodsEachCard

/-- THE TIED CARD OF 'gavellaw07.GoodsChoices'. -/
def goodsChoicesCard : Claim7 := { stood := { row := goodsChoicesRow, standIns := [], harness := (true, "3c6450dc500a79acae7157f12f43f471f0e00037eea5d61f6daa6578746fc073"), looks := true }, kinds := [], alts := [], laidByText := true, laidKinds := [.data, .data, .data, .data, .sentinel, .sentinel, .pinned], laidTests := true, laidLooks := .later }
def GoodsChoicesCardSaid : Prop := Claim7.holds Tryd.pinned (.plain (OpenSpec.ofChange goodsChoicesSpec)) goodsChoicesCard

/-- THE TIED CARD OF 'gavellaw07.GoodsNames'. -/
def goodsNamesCard : Claim7 := { stood := { row := goodsNamesRow, standIns := [], harness := (true, "3c6450dc500a79acae7157f12f43f471f0e00037eea5d61f6daa6578746fc073"), looks := true }, kinds := [], alts := [], laidByText := true, laidKinds := [.data, .data, .data, .data, .sentinel, .sentinel, .pinned], laidTests := true, laidLooks := .later }
def GoodsNamesCardSaid : Prop := Claim7.holds Tryd.pinned (.plain (OpenSpec.ofChange goodsNamesSpec)) goodsNamesCard

/-- THE SECOND FORM's CARD OF 'gavellaw07.GoodsSets'. -/
def goodsSetsUptoCard : Claim7 := { stood := { row := goodsSetsUptoRow, standIns := [], harness := (true, "3c6450dc500a79acae7157f12f43f471f0e00037eea5d61f6daa6578746fc073"), looks := true }, kinds := [], alts := [], laidByText := true, laidKinds := [.data, .data, .data, .data, .sentinel, .sentinel, .pinned], laidTests := true, laidLooks := .later }
def GoodsSetsUptoCardSaid : Prop := Claim7.holds Tryd.pinned (.plain (OpenSpec.upto goodsSetsSpec)) goodsSetsUptoCard

/-- THE SECOND FORM's CARD OF 'gavellaw07.GoodsTexts'. -/
def goodsTextsUptoCard : Claim7 := { stood := { row := goodsTextsUptoRow, standIns := [], harness := (true, "3c6450dc500a79acae7157f12f43f471f0e00037eea5d61f6daa6578746fc073"), looks := true }, kinds := [], alts := [], laidByText := true, laidKinds := [.data, .data, .data, .data, .sentinel, .sentinel, .pinned], laidTests := true, laidLooks := .later }
def GoodsTextsUptoCardSaid : Prop := Claim7.holds Tryd.pinned (.plain (OpenSpec.upto goodsTextsSpec)) goodsTextsUptoCard

/-- THE SECOND FORM's CARD OF 'gavellaw07.GoodsParts'. -/
def goodsPartsUptoCard : Claim7 := { stood := { row := goodsPartsUptoRow, standIns := [], harness := (true, "3c6450dc500a79acae7157f12f43f471f0e00037eea5d61f6daa6578746fc073"), looks := true }, kinds := [], alts := [], laidByText := true, laidKinds := [.data, .data, .data, .data, .sentinel, .sentinel, .pinned], laidTests := true, laidLooks := .later }
def GoodsPartsUptoCardSaid : Prop := Claim7.holds Tryd.pinned (.plain (OpenSpec.upto goodsPartsSpec)) goodsPartsUptoCard

/-- THE SECOND FORM's CARD OF 'gavellaw07.GoodsEach'. -/
def goodsEachUptoCard : Claim7 := { stood := { row := goodsEachUptoRow, standIns := [], harness := (true, "3c6450dc500a79acae7157f12f43f471f0e00037eea5d61f6daa6578746fc073"), looks := true }, kinds := [], alts := [], laidByText := true, laidKinds := [.data, .data, .data, .data, .sentinel, .sentinel, .pinned], laidTests := true, laidLooks := .later }
def GoodsEachUptoCardSaid : Prop := Claim7.holds Tryd.pinned (.plain (OpenSpec.upto goodsEachSpec)) goodsEachUptoCard

/-- THE SECOND FORM's CARD OF 'gavellaw07.GoodsChoices'. -/
def goodsChoicesUptoCard : Claim7 := { stood := { row := goodsChoicesUptoRow, standIns := [], harness := (true, "3c6450dc500a79acae7157f12f43f471f0e00037eea5d61f6daa6578746fc073"), looks := true }, kinds := [], alts := [], laidByText := true, laidKinds := [.data, .data, .data, .data, .sentinel, .sentinel, .pinned], laidTests := true, laidLooks := .later }
def GoodsChoicesUptoCardSaid : Prop := Claim7.holds Tryd.pinned (.plain (OpenSpec.upto goodsChoicesSpec)) goodsChoicesUptoCard

/-- THE SECOND FORM's CARD OF 'gavellaw07.GoodsNames'. -/
def goodsNamesUptoCard : Claim7 := { stood := { row := goodsNamesUptoRow, standIns := [], harness := (true, "3c6450dc500a79acae7157f12f43f471f0e00037eea5d61f6daa6578746fc073"), looks := true }, kinds := [], alts := [], laidByText := true, laidKinds := [.data, .data, .data, .data, .sentinel, .sentinel, .pinned], laidTests := true, laidLooks := .later }
def GoodsNamesUptoCardSaid : Prop := Claim7.holds Tryd.pinned (.plain (OpenSpec.upto goodsNamesSpec)) goodsNamesUptoCard
end Rows
end Go.Proofs.YtffpiaipdeebcaaDoor
