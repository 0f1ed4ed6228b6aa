/-
  DERIVED. GIVEN WITH THE SEED: THE CARDS: each row of YtgjeihgkcmheeaaDoorRows.lean that lists a variable, with what it lists TIED to the program's text (the seventh form; the later family's looks); each row that meets fmt, with fmt's text TOLD by the authors' own Lean function (tested against real Go, not proved from fmt's source: count such statements apart). THE CARD IS WHAT COUNTS. Prove the row's statement (the work); the ties are given (YtgjeihgkcmheeaaDoorTie.lean); close each card by the builder's one call (the guide's Derived/Test/ToyasCard.lean, 'card_holds'). Laid BY PROGRAM, IN A SANDBOX (cutbox-door.mjs). By AI agents, Wed Nov 11 2026. No macro, syntax, notation, axiom, sorry.
-/
import Derived.Test.YtgjeihgkcmheeaaDoorRows
import GoSem.ClaimSeven
namespace Go.Proofs.YtgjeihgkcmheeaaDoor
namespace Rows

/-- THE TIED CARD OF 'gavellaw02.MoneyShares'. -/
def moneySharesCard : Claim7 := { stood := { row := moneySharesRow, standIns := [], harness := (true, "eea7da394c333a6317b6777e2bd55ff56cf4406113c585e1e40855dc89c710a6"), looks := true }, kinds := [], alts := [], laidByText := true, laidKinds := [.data, .data, .data, .sentinel, .sentinel], laidTests := true, laidLooks := .later }
def MoneySharesCardSaid : Prop := Claim7.holds Tryd.pinned (.plain (OpenSpec.ofChange moneySharesSpec)) moneySharesCard

/-- THE TIED CARD OF 'gavellaw02.MoneyEvens'. -/
def moneyEvensCard : Claim7 := { stood := { row := moneyEvensRow, standIns := [], harness := (true, "eea7da394c333a6317b6777e2bd55ff56cf4406113c585e1e40855dc89c710a6"), looks := true }, kinds := [], alts := [], laidByText := true, laidKinds := [.data, .data, .data, .sentinel, .sentinel], laidTests := true, laidLooks := .later }
def MoneyEvensCardSaid : Prop := Claim7.holds Tryd.pinned (.plain (OpenSpec.ofChange moneyEvensSpec)) moneyEvensCard

/-- THE TIED CARD OF 'gavellaw02.MoneyTexts'. -/
def moneyTextsCard : Claim7 := { stood := { row := moneyTextsRow, standIns := [], harness := (true, "eea7da394c333a6317b6777e2bd55ff56cf4406113c585e1e40855dc89c710a6"), looks := true }, kinds := [], alts := [], laidByText := true, laidKinds := [.data, .data, .data, .sentinel, .sentinel], laidTests := true, laidLooks := .later }
def MoneyTextsCardSaid : Prop := Claim7.holds Tryd.pinned (.plain (OpenSpec.ofChange moneyTextsSpec)) moneyTextsCard

/-- THE TIED CARD OF 'gavellaw02.MoneySums'. -/
def moneySumsCard : Claim7 := { stood := { row := moneySumsRow, standIns := [], harness := (true, "eea7da394c333a6317b6777e2bd55ff56cf4406113c585e1e40855dc89c710a6"), looks := true }, kinds := [], alts := [], laidByText := true, laidKinds := [.data, .data, .data, .sentinel, .sentinel], laidTests := true, laidLooks := .later }
def MoneySumsCardSaid : Prop := Claim7.holds Tryd.pinned (.plain (OpenSpec.ofChange moneySumsSpec)) moneySumsCard

/-- THE TIED CARD OF 'gavellaw02.MoneyMeans'. -/
def moneyMeansCard : Claim7 := { stood := { row := moneyMeansRow, standIns := [], harness := (true, "eea7da394c333a6317b6777e2bd55ff56cf4406113c585e1e40855dc89c710a6"), looks := true }, kinds := [], alts := [], laidByText := true, laidKinds := [.data, .data, .data, .sentinel, .sentinel], laidTests := true, laidLooks := .later }
def MoneyMeansCardSaid : Prop := Claim7.holds Tryd.pinned (.plain (OpenSpec.ofChange moneyMeansSpec)) moneyMeansCard

/-- THE TIED CARD OF 'gavellaw02.MoneyFair'. -/
def moneyFairCard : Claim7 := { stood := { row := moneyFairRow, standIns := [], harness := (true, "eea7da394c333a6317b6777e2bd55ff56cf4406113c585e1e40855dc89c710a6"), looks := true }, kinds := [], alts := [], laidByText := true, laidKinds := [.data, .data, .data, .sentinel, .sentinel], laidTests := true, laidLooks := .later }
def MoneyFairCardSaid : Prop := Claim7.holds Tryd.pinned (.plain (OpenSpec.ofChange moneyFairSpec)) moneyFairCard

/-- THE TIED CARD OF 'gavellaw02.MoneyReals'. -/
def moneyRealsCard : Claim7 := { stood := { row := moneyRealsRow, standIns := [], harness := (true, "eea7da394c333a6317b6777e2bd55ff56cf4406113c585e1e40855dc89c710a6"), looks := true }, kinds := [], alts := [], laidByText := true, laidKinds := [.data, .data, .data, .sentinel, .sentinel], laidTests := true, laidLooks := .later }
def MoneyRealsCardSaid : Prop := Claim7.holds Tryd.pinned (.plain (OpenSpec.ofChange moneyRealsSpec)) moneyRealsCard

/-- THE SECOND FORM's CARD OF 'gavellaw02.MoneyShares'. -/
def moneySharesUptoCard : Claim7 := { stood := { row := moneySharesUptoRow, standIns := [], harness := (true, "eea7da394c333a6317b6777e2bd55ff56cf4406113c585e1e40855dc89c710a6"), looks := true }, kinds := [], alts := [], laidByText := true, laidKinds := [.data, .data, .data, .sentinel, .sentinel], laidTests := true, laidLooks := .later }
def MoneySharesUptoCardSaid : Prop := Claim7.holds Tryd.pinned (.plain (OpenSpec.upto moneySharesSpec)) moneySharesUptoCard

/-- THE SECOND FORM's CARD OF 'gavellaw02.MoneyEvens'. -/
def moneyEvensUptoCard : Claim7 := { stood := { row := moneyEvensUptoRow, standIns := [], harness := (true, "eea7da394c333a6317b6777e2bd55ff56cf4406113c585e1e40855dc89c710a6"), looks := true }, kinds := [], alts := [], laidByText := true, laidKinds := [.data, .data, .data, .sentinel, .sentinel], laidTests := true, laidLooks := .later }
def MoneyEvensUptoCardSaid : Prop := Claim7.holds Tryd.pinned (.plain (OpenSpec.upto moneyEvensSpec)) moneyEvensUptoCard

/-- THE SECOND FORM's CARD OF 'gavellaw02.MoneyTexts'. -/
def moneyTextsUptoCard : Claim7 := { stood := { row := moneyTextsUptoRow, standIns := [], harness := (true, "eea7da394c333a6317b6777e2bd55ff56cf4406113c585e1e40855dc89c710a6"), looks := true }, kinds := [], alts := [], laidByText := true, laidKinds := [.data, .data, .data, .sentinel, .sentinel], laidTests := true, laidLooks := .later }
def MoneyTextsUptoCardSaid : Prop := Claim7.holds Tryd.pinned (.plain (OpenSpec.upto moneyTextsSpec)) moneyTextsUptoCard

/-- THE SECOND FORM's CARD OF 'gavellaw02.MoneySums'. -/
def moneySumsUptoCard : Claim7 := { stood := { row := moneySumsUptoRow, standIns := [], harness := (true, "eea7da394c333a6317b6777e2bd55ff56cf4406113c585e1e40855dc89c710a6"), looks := true }, kinds := [], alts := [], laidByText := true, laidKinds := [.data, .data, .data, .sentinel, .sentinel], laidTests := true, laidLooks := .later }
def MoneySumsUptoCardSaid : Prop := Claim7.holds Tryd.pinned (.plain (OpenSpec.upto moneySumsSpec)) moneySumsUptoCard

/-- THE SECOND FORM's CARD OF 'gavellaw02.MoneyMeans'. -/
def moneyMeansUptoCard : Claim7 := { stood := { row := moneyMeansUptoRow, standIns := [], harness := (true, "eea7da394c333a6317b6777e2bd55ff56cf4406113c585e1e40855dc89c710a6"), looks := true }, kinds := [], alts := [], laidByText := true, laidKinds := [.data, .data, .data, .sentinel, .sentinel], laidTests := true, laidLooks := .later }
def MoneyMeansUptoCardSaid : Prop := Claim7.holds Tryd.pinned (.plain (OpenSpec.upto moneyMeansSpec)) moneyMeansUptoCard

/-- THE SECOND FORM's CARD OF 'gavellaw02.MoneyFair'. -/
def moneyFairUptoCard : Claim7 := { stood := { row := moneyFairUptoRow, standIns := [], harness := (true, "eea7da394c333a6317b6777e2bd55ff56cf4406113c585e1e40855dc89c710a6"), looks := true }, kinds := [], alts := [], laidByText := true, laidKinds := [.data, .data, .data, .sentinel, .sentinel], laidTests := true, laidLooks := .later }
def MoneyFairUptoCardSaid : Prop := Claim7.holds Tryd.pinned (.plain (OpenSpec.upto moneyFairSpec)) moneyFairUptoCard

/-- THE SECOND FORM's CARD OF 'gavellaw02.MoneyReals'. -/
def moneyRealsUptoCard : Claim7 := { stood := { row := moneyRealsUptoRow, standIns := [], harness := (true, "eea7da394c333a6317b6777e2bd55ff56cf4406113c585e1e40855dc89c710a6"), looks := true }, kinds := [], alts := [], laidByText := true, laidKinds := [.data, .data, .data, .sentinel, .sentinel], laidTests := true, laidLooks := .later }
def MoneyRealsUptoCardSaid : Prop := Claim7.holds Tryd.pinned (.plain (OpenSpec.upto moneyRealsSpec)) moneyRealsUptoCard
end Rows
end Go.Proofs.YtgjeihgkcmheeaaDoor
