/-
  DERIVED. GIVEN WITH THE SEED: THE CARDS: each row of YtkiebjgpghajbaaDoorRows.lean that lists a variable, with what it lists TIED to the program's text (the seventh form; the later family's looks); each row that meets fmt, with fmt's text TOLD by the authors' own Lean function (tested against real Go, not proved from fmt's source: count such statements apart). THE CARD IS WHAT COUNTS. Prove the row's statement (the work); the ties are given (YtkiebjgpghajbaaDoorTie.lean); close each card by the builder's one call (the guide's Derived/Test/ToyasCard.lean, 'card_holds'). Laid BY PROGRAM, IN A SANDBOX (cutbox-door.mjs). By AI agents, Wed Nov 11 2026. No macro, syntax, notation, axiom, sorry.
-/
import Derived.Test.YtkiebjgpghajbaaDoorRows
import GoSem.ClaimSeven
namespace Go.Proofs.YtkiebjgpghajbaaDoor
namespace Rows

/-- THE TIED CARD OF 'gavellaw08.OffersWorths'. -/
def offersWorthsCard : Claim7 := { stood := { row := offersWorthsRow, standIns := [], harness := (true, "a2b627cc54b6bb79293fae04db2d0a48ab1d3a140e37196baabaf8d0975f444e"), looks := false }, kinds := [], alts := [], laidByText := true, laidKinds := [.data], laidTests := true, laidLooks := .later }
def OffersWorthsCardSaid : Prop := Claim7.holds Tryd.pinned (.plain (OpenSpec.ofChange offersWorthsSpec)) offersWorthsCard

/-- THE TIED CARD OF 'gavellaw08.OffersChoices'. -/
def offersChoicesCard : Claim7 := { stood := { row := offersChoicesRow, standIns := [], harness := (true, "a2b627cc54b6bb79293fae04db2d0a48ab1d3a140e37196baabaf8d0975f444e"), looks := false }, kinds := [], alts := [], laidByText := true, laidKinds := [.data], laidTests := true, laidLooks := .later }
def OffersChoicesCardSaid : Prop := Claim7.holds Tryd.pinned (.plain (OpenSpec.ofChange offersChoicesSpec)) offersChoicesCard

/-- THE TIED CARD OF 'gavellaw08.OffersTell'. -/
def offersTellCard : Claim7 := { stood := { row := offersTellRow, standIns := [], harness := (true, "a2b627cc54b6bb79293fae04db2d0a48ab1d3a140e37196baabaf8d0975f444e"), looks := false }, kinds := [], alts := [], laidByText := true, laidKinds := [.data], laidTests := true, laidLooks := .later }
def OffersTellCardSaid : Prop := Claim7.holds Tryd.pinned (.plain (OpenSpec.ofChange offersTellSpec)) offersTellCard

/-- THE TIED CARD OF 'gavellaw08.OffersNormal'. -/
def offersNormalCard : Claim7 := { stood := { row := offersNormalRow, standIns := [], harness := (true, "a2b627cc54b6bb79293fae04db2d0a48ab1d3a140e37196baabaf8d0975f444e"), looks := false }, kinds := [], alts := [], laidByText := true, laidKinds := [.data], laidTests := true, laidLooks := .later }
def OffersNormalCardSaid : Prop := Claim7.holds Tryd.pinned (.plain (OpenSpec.ofChange offersNormalSpec)) offersNormalCard

/-- THE TIED CARD OF 'gavellaw08.OffersAgree'. -/
def offersAgreeCard : Claim7 := { stood := { row := offersAgreeRow, standIns := [], harness := (true, "a2b627cc54b6bb79293fae04db2d0a48ab1d3a140e37196baabaf8d0975f444e"), looks := false }, kinds := [], alts := [], laidByText := true, laidKinds := [.data], laidTests := true, laidLooks := .later }
def OffersAgreeCardSaid : Prop := Claim7.holds Tryd.pinned (.plain (OpenSpec.ofChange offersAgreeSpec)) offersAgreeCard

/-- THE TIED CARD OF 'gavellaw08.OffersWith'. -/
def offersWithCard : Claim7 := { stood := { row := offersWithRow, standIns := [], harness := (true, "a2b627cc54b6bb79293fae04db2d0a48ab1d3a140e37196baabaf8d0975f444e"), looks := false }, kinds := [], alts := [], laidByText := true, laidKinds := [.data], laidTests := true, laidLooks := .later }
def OffersWithCardSaid : Prop := Claim7.holds Tryd.pinned (.plain (OpenSpec.ofChange offersWithSpec)) offersWithCard

/-- THE SECOND FORM's CARD OF 'gavellaw08.OffersWorths'. -/
def offersWorthsUptoCard : Claim7 := { stood := { row := offersWorthsUptoRow, standIns := [], harness := (true, "a2b627cc54b6bb79293fae04db2d0a48ab1d3a140e37196baabaf8d0975f444e"), looks := false }, kinds := [], alts := [], laidByText := true, laidKinds := [.data], laidTests := true, laidLooks := .later }
def OffersWorthsUptoCardSaid : Prop := Claim7.holds Tryd.pinned (.plain (OpenSpec.upto offersWorthsSpec)) offersWorthsUptoCard

/-- THE SECOND FORM's CARD OF 'gavellaw08.OffersChoices'. -/
def offersChoicesUptoCard : Claim7 := { stood := { row := offersChoicesUptoRow, standIns := [], harness := (true, "a2b627cc54b6bb79293fae04db2d0a48ab1d3a140e37196baabaf8d0975f444e"), looks := false }, kinds := [], alts := [], laidByText := true, laidKinds := [.data], laidTests := true, laidLooks := .later }
def OffersChoicesUptoCardSaid : Prop := Claim7.holds Tryd.pinned (.plain (OpenSpec.upto offersChoicesSpec)) offersChoicesUptoCard

/-- THE SECOND FORM's CARD OF 'gavellaw08.OffersTell'. -/
def offersTellUptoCard : Claim7 := { stood := { row := offersTellUptoRow, standIns := [], harness := (true, "a2b627cc54b6bb79293fae04db2d0a48ab1d3a140e37196baabaf8d0975f444e"), looks := false }, kinds := [], alts := [], laidByText := true, laidKinds := [.data], laidTests := true, laidLooks := .later }
def OffersTellUptoCardSaid : Prop := Claim7.holds Tryd.pinned (.plain (OpenSpec.upto offersTellSpec)) offersTellUptoCard

/-- THE SECOND FORM's CARD OF 'gavellaw08.OffersNormal'. -/
def offersNormalUptoCard : Claim7 := { stood := { row := offersNormalUptoRow, standIns := [], harness := (true, "a2b627cc54b6bb79293fae04db2d0a48ab1d3a140e37196baabaf8d0975f444e"), looks := false }, kinds := [], alts := [], laidByText := true, laidKinds := [.data], laidTests := true, laidLooks := .later }
def OffersNormalUptoCardSaid : Prop := Claim7.holds Tryd.pinned (.plain (OpenSpec.upto offersNormalSpec)) offersNormalUptoCard

/-- THE SECOND FORM's CARD OF 'gavellaw08.OffersAgree'. -/
def offersAgreeUptoCard : Claim7 := { stood := { row := offersAgreeUptoRow, standIns := [], harness := (true, "a2b627cc54b6bb79293fae04db2d0a48ab1d3a140e37196baabaf8d0975f444e"), looks := false }, kinds := [], alts := [], laidByText := true, laidKinds := [.data], laidTests := true, laidLooks := .later }
def OffersAgreeUptoCardSaid : Prop := Claim7.holds Tryd.pinned (.plain (OpenSpec.upto offersAgreeSpec)) offersAgreeUptoCard

/-- THE SECOND FORM's CARD OF 'gavellaw08.OffersWith'. -/
def offersWithUptoCard : Claim7 := { stood := { row := offersWithUptoRow, standIns := [], harness := (true, "a2b627cc54b6bb79293fae04db2d0a48ab1d3a140e37196baabaf8d0975f444e"), looks := false }, kinds := [], alts := [], laidByText := true, laidKinds := [.data], laidTests := true, laidLooks := .later }
def OffersWithUptoCardSaid : Prop := Claim7.holds Tryd.pinned (.plain (OpenSpec.upto offersWithSpec)) offersWithUptoCard
end Rows
end Go.Proofs.YtkiebjgpghajbaaDoor
