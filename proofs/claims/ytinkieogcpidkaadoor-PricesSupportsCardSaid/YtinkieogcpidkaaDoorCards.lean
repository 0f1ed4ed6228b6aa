/-
  DERIVED. GIVEN WITH THE SEED: THE CARDS: each row of YtinkieogcpidkaaDoorRows.lean that lists a variable, with what it lists TIED to the program's text (the seventh form; the later family's looks); each row that meets fmt, with fmt's text TOLD by the authors' own Lean function (tested against real Go, not proved from fmt's source: count such statements apart). THE CARD IS WHAT COUNTS. Prove the row's statement (the work); the ties are given (YtinkieogcpidkaaDoorTie.lean); close each card by the builder's one call (the guide's Derived/Test/ToyasCard.lean, 'card_holds'). Laid BY PROGRAM, IN A SANDBOX (cutbox-door.mjs). By AI agents, Wed Nov 11 2026. No macro, syntax, notation, axiom, sorry.
-/
import Derived.Test.YtinkieogcpidkaaDoorRows
import GoSem.ClaimSeven
namespace Go.Proofs.YtinkieogcpidkaaDoor
namespace Rows

/-- THE TIED CARD OF 'gavellaw14.PricesBounds'. -/
def pricesBoundsCard : Claim7 := { stood := { row := pricesBoundsRow, standIns := [], harness := (true, "683cbe65cf835c7ffef2af5041feb8ba882abe3044af768f5fb7e3d3120b1f4e"), looks := false }, kinds := [], alts := [], laidByText := true, laidKinds := [.data], laidTests := true, laidLooks := .later }
def PricesBoundsCardSaid : Prop := Claim7.holds Tryd.pinned (.plain (OpenSpec.ofChange pricesBoundsSpec)) pricesBoundsCard

/-- THE TIED CARD OF 'gavellaw14.PricesSupports'. -/
def pricesSupportsCard : Claim7 := { stood := { row := pricesSupportsRow, standIns := [], harness := (true, "683cbe65cf835c7ffef2af5041feb8ba882abe3044af768f5fb7e3d3120b1f4e"), looks := false }, kinds := [], alts := [], laidByText := true, laidKinds := [.data], laidTests := true, laidLooks := .later }
def PricesSupportsCardSaid : Prop := Claim7.holds Tryd.pinned (.plain (OpenSpec.ofChange pricesSupportsSpec)) pricesSupportsCard

/-- THE TIED CARD OF 'gavellaw14.PricesHold'. -/
def pricesHoldCard : Claim7 := { stood := { row := pricesHoldRow, standIns := [], harness := (true, "683cbe65cf835c7ffef2af5041feb8ba882abe3044af768f5fb7e3d3120b1f4e"), looks := false }, kinds := [], alts := [], laidByText := true, laidKinds := [.data], laidTests := true, laidLooks := .later }
def PricesHoldCardSaid : Prop := Claim7.holds Tryd.pinned (.plain (OpenSpec.ofChange pricesHoldSpec)) pricesHoldCard

/-- THE TIED CARD OF 'gavellaw14.PricesCost'. -/
def pricesCostCard : Claim7 := { stood := { row := pricesCostRow, standIns := [], harness := (true, "683cbe65cf835c7ffef2af5041feb8ba882abe3044af768f5fb7e3d3120b1f4e"), looks := false }, kinds := [], alts := [], laidByText := true, laidKinds := [.data], laidTests := true, laidLooks := .later }
def PricesCostCardSaid : Prop := Claim7.holds Tryd.pinned (.plain (OpenSpec.ofChange pricesCostSpec)) pricesCostCard

/-- THE SECOND FORM's CARD OF 'gavellaw14.PricesBounds'. -/
def pricesBoundsUptoCard : Claim7 := { stood := { row := pricesBoundsUptoRow, standIns := [], harness := (true, "683cbe65cf835c7ffef2af5041feb8ba882abe3044af768f5fb7e3d3120b1f4e"), looks := false }, kinds := [], alts := [], laidByText := true, laidKinds := [.data], laidTests := true, laidLooks := .later }
def PricesBoundsUptoCardSaid : Prop := Claim7.holds Tryd.pinned (.plain (OpenSpec.upto pricesBoundsSpec)) pricesBoundsUptoCard

/-- THE SECOND FORM's CARD OF 'gavellaw14.PricesSupports'. -/
def pricesSupportsUptoCard : Claim7 := { stood := { row := pricesSupportsUptoRow, standIns := [], harness := (true, "683cbe65cf835c7ffef2af5041feb8ba882abe3044af768f5fb7e3d3120b1f4e"), looks := false }, kinds := [], alts := [], laidByText := true, laidKinds := [.data], laidTests := true, laidLooks := .later }
def PricesSupportsUptoCardSaid : Prop := Claim7.holds Tryd.pinned (.plain (OpenSpec.upto pricesSupportsSpec)) pricesSupportsUptoCard

/-- THE SECOND FORM's CARD OF 'gavellaw14.PricesHold'. -/
def pricesHoldUptoCard : Claim7 := { stood := { row := pricesHoldUptoRow, standIns := [], harness := (true, "683cbe65cf835c7ffef2af5041feb8ba882abe3044af768f5fb7e3d3120b1f4e"), looks := false }, kinds := [], alts := [], laidByText := true, laidKinds := [.data], laidTests := true, laidLooks := .later }
def PricesHoldUptoCardSaid : Prop := Claim7.holds Tryd.pinned (.plain (OpenSpec.upto pricesHoldSpec)) pricesHoldUptoCard

/-- THE SECOND FORM's CARD OF 'gavellaw14.PricesCost'. -/
def pricesCostUptoCard : Claim7 := { stood := { row := pricesCostUptoRow, standIns := [], harness := (true, "683cbe65cf835c7ffef2af5041feb8ba882abe3044af768f5fb7e3d3120b1f4e"), looks := false }, kinds := [], alts := [], laidByText := true, laidKinds := [.data], laidTests := true, laidLooks := .later }
def PricesCostUptoCardSaid : Prop := Claim7.holds Tryd.pinned (.plain (OpenSpec.upto pricesCostSpec)) pricesCostUptoCard
end Rows
end Go.Proofs.YtinkieogcpidkaaDoor
