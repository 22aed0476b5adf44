/-
  DERIVED. GIVEN WITH THE SEED: THE CARDS: each row of YtedpnjbbcfiheaaGreatDoorRows.lean that lists a variable, with what it lists TIED to the program's text (the seventh form; the later family's looks); each row that meets fmt, with fmt's text TOLD by the authors' own Lean function (tested against real Go, not proved from fmt's source: count such statements apart). THE CARD IS WHAT COUNTS. Prove the row's statement (the work); the ties are given (YtedpnjbbcfiheaaGreatDoorTie.lean); close each card by the builder's one call (the guide's Derived/Test/ToyasCard.lean, 'card_holds'). Laid BY PROGRAM, IN A SANDBOX (cutbox-door.mjs). By AI agents, Wed Nov 11 2026. No macro, syntax, notation, axiom, sorry.
-/
import Derived.Test.YtedpnjbbcfiheaaGreatDoorRows
import GoSem.ClaimSeven
namespace Go.Proofs.YtedpnjbbcfiheaaGreatDoor
namespace Rows

/-- THE TIED CARD OF 'scanlaw2.VectorsRemoved'. -/
def vectorsRemovedCard : Claim7 := { stood := { row := vectorsRemovedRow, standIns := [], harness := (true, "5abc733c4c1a10466e7f209cd6e879cdb3792e4b9863e1d0c091bd1803105750"), looks := false }, kinds := [], alts := [], laidByText := true, laidKinds := [.data, .pinned], laidTests := true, laidLooks := .later }
def VectorsRemovedCardSaid : Prop := Claim7.holds Tryz.pinned (.plain (OpenSpec.ofChange vectorsRemovedSpec)) vectorsRemovedCard

/-- THE TIED CARD OF 'scanlaw2.FaultsListed'. -/
def faultsListedCard : Claim7 := { stood := { row := faultsListedRow, standIns := [], harness := (true, "5abc733c4c1a10466e7f209cd6e879cdb3792e4b9863e1d0c091bd1803105750"), looks := false }, kinds := [], alts := [], laidByText := true, laidKinds := [.data, .data, .data, .data, .pinned], laidTests := true, laidLooks := .later }
def FaultsListedCardSaid : Prop := Claim7.holds Tryz.pinned (.plain (OpenSpec.ofChange faultsListedSpec)) faultsListedCard

/-- THE TIED CARD OF 'scankeep2.ReducedIsEnough'. -/
def reducedIsEnoughCard : Claim7 := { stood := { row := reducedIsEnoughRow, standIns := [], harness := (true, "5abc733c4c1a10466e7f209cd6e879cdb3792e4b9863e1d0c091bd1803105750"), looks := false }, kinds := [], alts := [], laidByText := true, laidKinds := [.data, .pinned], laidTests := true, laidLooks := .later }
def ReducedIsEnoughCardSaid : Prop := Claim7.holds Tryz.pinned (.plain (OpenSpec.ofChange reducedIsEnoughSpec)) reducedIsEnoughCard

/-- THE TIED CARD OF 'scankeep2.FaultsStay'. -/
def faultsStayCard : Claim7 := { stood := { row := faultsStayRow, standIns := [], harness := (true, "5abc733c4c1a10466e7f209cd6e879cdb3792e4b9863e1d0c091bd1803105750"), looks := false }, kinds := [], alts := [], laidByText := true, laidKinds := [.data, .data, .data, .data, .pinned], laidTests := true, laidLooks := .later }
def FaultsStayCardSaid : Prop := Claim7.holds Tryz.pinned (.plain (OpenSpec.ofChange faultsStaySpec)) faultsStayCard

/-- THE TIED CARD OF 'scankeep2.MoreVectorsDetectMore'. -/
def moreVectorsDetectMoreCard : Claim7 := { stood := { row := moreVectorsDetectMoreRow, standIns := [], harness := (true, "5abc733c4c1a10466e7f209cd6e879cdb3792e4b9863e1d0c091bd1803105750"), looks := false }, kinds := [], alts := [], laidByText := true, laidKinds := [.data, .data, .data, .data, .pinned], laidTests := true, laidLooks := .later }
def MoreVectorsDetectMoreCardSaid : Prop := Claim7.holds Tryz.pinned (.plain (OpenSpec.ofChange moreVectorsDetectMoreSpec)) moreVectorsDetectMoreCard

/-- THE SECOND FORM's CARD OF 'scanlaw2.VectorsRemoved'. -/
def vectorsRemovedUptoCard : Claim7 := { stood := { row := vectorsRemovedUptoRow, standIns := [], harness := (true, "5abc733c4c1a10466e7f209cd6e879cdb3792e4b9863e1d0c091bd1803105750"), looks := false }, kinds := [], alts := [], laidByText := true, laidKinds := [.data, .pinned], laidTests := true, laidLooks := .later }
def VectorsRemovedUptoCardSaid : Prop := Claim7.holds Tryz.pinned (.plain (OpenSpec.upto vectorsRemovedSpec)) vectorsRemovedUptoCard

/-- THE SECOND FORM's CARD OF 'scanlaw2.FaultsListed'. -/
def faultsListedUptoCard : Claim7 := { stood := { row := faultsListedUptoRow, standIns := [], harness := (true, "5abc733c4c1a10466e7f209cd6e879cdb3792e4b9863e1d0c091bd1803105750"), looks := false }, kinds := [], alts := [], laidByText := true, laidKinds := [.data, .data, .data, .data, .pinned], laidTests := true, laidLooks := .later }
def FaultsListedUptoCardSaid : Prop := Claim7.holds Tryz.pinned (.plain (OpenSpec.upto faultsListedSpec)) faultsListedUptoCard

/-- THE SECOND FORM's CARD OF 'scankeep2.ReducedIsEnough'. -/
def reducedIsEnoughUptoCard : Claim7 := { stood := { row := reducedIsEnoughUptoRow, standIns := [], harness := (true, "5abc733c4c1a10466e7f209cd6e879cdb3792e4b9863e1d0c091bd1803105750"), looks := false }, kinds := [], alts := [], laidByText := true, laidKinds := [.data, .pinned], laidTests := true, laidLooks := .later }
def ReducedIsEnoughUptoCardSaid : Prop := Claim7.holds Tryz.pinned (.plain (OpenSpec.upto reducedIsEnoughSpec)) reducedIsEnoughUptoCard

/-- THE SECOND FORM's CARD OF 'scankeep2.FaultsStay'. -/
def faultsStayUptoCard : Claim7 := { stood := { row := faultsStayUptoRow, standIns := [], harness := (true, "5abc733c4c1a10466e7f209cd6e879cdb3792e4b9863e1d0c091bd1803105750"), looks := false }, kinds := [], alts := [], laidByText := true, laidKinds := [.data, .data, .data, .data, .pinned], laidTests := true, laidLooks := .later }
def FaultsStayUptoCardSaid : Prop := Claim7.holds Tryz.pinned (.plain (OpenSpec.upto faultsStaySpec)) faultsStayUptoCard

/-- THE SECOND FORM's CARD OF 'scankeep2.MoreVectorsDetectMore'. -/
def moreVectorsDetectMoreUptoCard : Claim7 := { stood := { row := moreVectorsDetectMoreUptoRow, standIns := [], harness := (true, "5abc733c4c1a10466e7f209cd6e879cdb3792e4b9863e1d0c091bd1803105750"), looks := false }, kinds := [], alts := [], laidByText := true, laidKinds := [.data, .data, .data, .data, .pinned], laidTests := true, laidLooks := .later }
def MoreVectorsDetectMoreUptoCardSaid : Prop := Claim7.holds Tryz.pinned (.plain (OpenSpec.upto moreVectorsDetectMoreSpec)) moreVectorsDetectMoreUptoCard
end Rows
end Go.Proofs.YtedpnjbbcfiheaaGreatDoor
