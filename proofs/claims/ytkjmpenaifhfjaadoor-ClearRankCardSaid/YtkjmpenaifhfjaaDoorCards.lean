/-
  DERIVED. GIVEN WITH THE SEED: THE CARDS: each row of YtkjmpenaifhfjaaDoorRows.lean that lists a variable, with what it lists TIED to the program's text (the seventh form; the later family's looks); each row that meets fmt, with fmt's text TOLD by the authors' own Lean function (tested against real Go, not proved from fmt's source: count such statements apart). THE CARD IS WHAT COUNTS. Prove the row's statement (the work); the ties are given (YtkjmpenaifhfjaaDoorTie.lean); close each card by the builder's one call (the guide's Derived/Test/ToyasCard.lean, 'card_holds'). Laid BY PROGRAM, IN A SANDBOX (cutbox-door.mjs). By AI agents, Wed Nov 11 2026. No macro, syntax, notation, axiom, sorry.
-/
import Derived.Test.YtkjmpenaifhfjaaDoorRows
import GoSem.ClaimSeven
namespace Go.Proofs.YtkjmpenaifhfjaaDoor
namespace Rows

/-- THE TIED CARD OF 'gavellaw15.ClearRank'. -/
def clearRankCard : Claim7 := { stood := { row := clearRankRow, standIns := [], harness := (true, "e938c6040088e58d7bb69b9001a437bf09928cbce83b5f9e911deb7834ad6df7"), looks := false }, kinds := [], alts := [], laidByText := true, laidKinds := [.data], laidTests := true, laidLooks := .later }
def ClearRankCardSaid : Prop := Claim7.holds Tryd.pinned (.plain (OpenSpec.ofChange clearRankSpec)) clearRankCard

/-- THE SECOND FORM's CARD OF 'gavellaw15.ClearRank'. -/
def clearRankUptoCard : Claim7 := { stood := { row := clearRankUptoRow, standIns := [], harness := (true, "e938c6040088e58d7bb69b9001a437bf09928cbce83b5f9e911deb7834ad6df7"), looks := false }, kinds := [], alts := [], laidByText := true, laidKinds := [.data], laidTests := true, laidLooks := .later }
def ClearRankUptoCardSaid : Prop := Claim7.holds Tryd.pinned (.plain (OpenSpec.upto clearRankSpec)) clearRankUptoCard
end Rows
end Go.Proofs.YtkjmpenaifhfjaaDoor
