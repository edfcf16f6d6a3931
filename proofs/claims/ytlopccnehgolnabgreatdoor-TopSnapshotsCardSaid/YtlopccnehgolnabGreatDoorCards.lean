/-
  DERIVED. GIVEN WITH THE SEED: THE CARDS: each row of YtlopccnehgolnabGreatDoorRows.lean that lists a variable, with what it lists TIED to the program's text (the seventh form; the later family's looks); each row that meets fmt, with fmt's text TOLD by the authors' own Lean function (tested against real Go, not proved from fmt's source: count such statements apart). THE CARD IS WHAT COUNTS. Prove the row's statement (the work); the ties are given (YtlopccnehgolnabGreatDoorTie.lean); close each card by the builder's one call (the guide's Derived/Test/ToyasCard.lean, 'card_holds'). Laid BY PROGRAM, IN A SANDBOX (cutbox-door.mjs). By AI agents, Wed Nov 11 2026. No macro, syntax, notation, axiom, sorry.
-/
import Derived.Test.YtlopccnehgolnabGreatDoorRows
import GoSem.ClaimSeven
namespace Go.Proofs.YtlopccnehgolnabGreatDoor
namespace Rows

/-- THE TIED CARD OF 'ratebooktop.TopPromises'. -/
def topPromisesCard : Claim7 := { stood := { row := topPromisesRow, standIns := [], harness := (true, "7b4d69d82c7cc1d0d0cfdcba691315f55f2acdd1b084a277d3ca5e272ec87cee"), looks := true }, kinds := [], alts := [], laidByText := true, laidKinds := [.data, .data, .data, .sentinel, .sentinel, .widerDeep], laidTests := true, laidLooks := .later }
def TopPromisesCardSaid : Prop := Claim7.holds Tryz.pinned (.plain (OpenSpec.ofChange topPromisesSpec)) topPromisesCard

/-- THE TIED CARD OF 'ratebooktop.TopSnapshots'. -/
def topSnapshotsCard : Claim7 := { stood := { row := topSnapshotsRow, standIns := [], harness := (true, "7b4d69d82c7cc1d0d0cfdcba691315f55f2acdd1b084a277d3ca5e272ec87cee"), looks := true }, kinds := [], alts := [], laidByText := true, laidKinds := [.data, .data, .data, .sentinel, .sentinel, .widerDeep], laidTests := true, laidLooks := .later }
def TopSnapshotsCardSaid : Prop := Claim7.holds Tryz.pinned (.plain (OpenSpec.ofChange topSnapshotsSpec)) topSnapshotsCard

/-- THE TIED CARD OF 'ratebooklaw.TableGaps'. -/
def tableGapsCard : Claim7 := { stood := { row := tableGapsRow, standIns := [], harness := (true, "7b4d69d82c7cc1d0d0cfdcba691315f55f2acdd1b084a277d3ca5e272ec87cee"), looks := true }, kinds := [], alts := [], laidByText := true, laidKinds := [.data, .pinned], laidTests := true, laidLooks := .later }
def TableGapsCardSaid : Prop := Claim7.holds Tryz.pinned (.plain (OpenSpec.ofChange tableGapsSpec)) tableGapsCard

/-- THE TIED CARD OF 'ratebooklaw.BookChecks'. -/
def bookChecksCard : Claim7 := { stood := { row := bookChecksRow, standIns := [], harness := (true, "7b4d69d82c7cc1d0d0cfdcba691315f55f2acdd1b084a277d3ca5e272ec87cee"), looks := true }, kinds := [], alts := [], laidByText := true, laidKinds := [.data, .pinned], laidTests := true, laidLooks := .later }
def BookChecksCardSaid : Prop := Claim7.holds Tryz.pinned (.plain (OpenSpec.ofChange bookChecksSpec)) bookChecksCard

/-- THE TIED CARD OF 'ratebooklaw.BookAsks'. -/
def bookAsksCard : Claim7 := { stood := { row := bookAsksRow, standIns := [], harness := (true, "7b4d69d82c7cc1d0d0cfdcba691315f55f2acdd1b084a277d3ca5e272ec87cee"), looks := true }, kinds := [], alts := [], laidByText := true, laidKinds := [.data, .pinned], laidTests := true, laidLooks := .later }
def BookAsksCardSaid : Prop := Claim7.holds Tryz.pinned (.plain (OpenSpec.ofChange bookAsksSpec)) bookAsksCard

/-- THE SECOND FORM's CARD OF 'ratebooktop.TopPromises'. -/
def topPromisesUptoCard : Claim7 := { stood := { row := topPromisesUptoRow, standIns := [], harness := (true, "7b4d69d82c7cc1d0d0cfdcba691315f55f2acdd1b084a277d3ca5e272ec87cee"), looks := true }, kinds := [], alts := [], laidByText := true, laidKinds := [.data, .data, .data, .sentinel, .sentinel, .widerDeep], laidTests := true, laidLooks := .later }
def TopPromisesUptoCardSaid : Prop := Claim7.holds Tryz.pinned (.plain (OpenSpec.upto topPromisesSpec)) topPromisesUptoCard

/-- THE SECOND FORM's CARD OF 'ratebooktop.TopSnapshots'. -/
def topSnapshotsUptoCard : Claim7 := { stood := { row := topSnapshotsUptoRow, standIns := [], harness := (true, "7b4d69d82c7cc1d0d0cfdcba691315f55f2acdd1b084a277d3ca5e272ec87cee"), looks := true }, kinds := [], alts := [], laidByText := true, laidKinds := [.data, .data, .data, .sentinel, .sentinel, .widerDeep], laidTests := true, laidLooks := .later }
def TopSnapshotsUptoCardSaid : Prop := Claim7.holds Tryz.pinned (.plain (OpenSpec.upto topSnapshotsSpec)) topSnapshotsUptoCard

/-- THE SECOND FORM's CARD OF 'ratebooklaw.TableGaps'. -/
def tableGapsUptoCard : Claim7 := { stood := { row := tableGapsUptoRow, standIns := [], harness := (true, "7b4d69d82c7cc1d0d0cfdcba691315f55f2acdd1b084a277d3ca5e272ec87cee"), looks := true }, kinds := [], alts := [], laidByText := true, laidKinds := [.data, .pinned], laidTests := true, laidLooks := .later }
def TableGapsUptoCardSaid : Prop := Claim7.holds Tryz.pinned (.plain (OpenSpec.upto tableGapsSpec)) tableGapsUptoCard

/-- THE SECOND FORM's CARD OF 'ratebooklaw.BookChecks'. -/
def bookChecksUptoCard : Claim7 := { stood := { row := bookChecksUptoRow, standIns := [], harness := (true, "7b4d69d82c7cc1d0d0cfdcba691315f55f2acdd1b084a277d3ca5e272ec87cee"), looks := true }, kinds := [], alts := [], laidByText := true, laidKinds := [.data, .pinned], laidTests := true, laidLooks := .later }
def BookChecksUptoCardSaid : Prop := Claim7.holds Tryz.pinned (.plain (OpenSpec.upto bookChecksSpec)) bookChecksUptoCard

/-- THE SECOND FORM's CARD OF 'ratebooklaw.BookAsks'. -/
def bookAsksUptoCard : Claim7 := { stood := { row := bookAsksUptoRow, standIns := [], harness := (true, "7b4d69d82c7cc1d0d0cfdcba691315f55f2acdd1b084a277d3ca5e272ec87cee"), looks := true }, kinds := [], alts := [], laidByText := true, laidKinds := [.data, .pinned], laidTests := true, laidLooks := .later }
def BookAsksUptoCardSaid : Prop := Claim7.holds Tryz.pinned (.plain (OpenSpec.upto bookAsksSpec)) bookAsksUptoCard
end Rows
end Go.Proofs.YtlopccnehgolnabGreatDoor
