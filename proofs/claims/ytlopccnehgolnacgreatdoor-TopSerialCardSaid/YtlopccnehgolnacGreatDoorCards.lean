/-
  DERIVED. GIVEN WITH THE SEED: THE CARDS: each row of YtlopccnehgolnacGreatDoorRows.lean that lists a variable, with what it lists TIED to the program's text (the seventh form; the later family's looks); each row that meets fmt, with fmt's text TOLD by the authors' own Lean function (tested against real Go, not proved from fmt's source: count such statements apart). THE CARD IS WHAT COUNTS. Prove the row's statement (the work); the ties are given (YtlopccnehgolnacGreatDoorTie.lean); close each card by the builder's one call (the guide's Derived/Test/ToyasCard.lean, 'card_holds'). Laid BY PROGRAM, IN A SANDBOX (cutbox-door.mjs). By AI agents, Wed Nov 11 2026. No macro, syntax, notation, axiom, sorry.
-/
import Derived.Test.YtlopccnehgolnacGreatDoorRows
import GoSem.ClaimSeven
namespace Go.Proofs.YtlopccnehgolnacGreatDoor
namespace Rows

/-- THE TIED CARD OF 'ratebooklaw.StoreNil'. -/
def storeNilCard : Claim7 := { stood := { row := storeNilRow, standIns := [], harness := (true, "bbd27518af0c0b4436f33c4f0cd0ac5181e2e4ae2a3b3c2bf254631855396bd6"), looks := true }, kinds := [], alts := [], laidByText := true, laidKinds := [.data, .data, .data, .sentinel, .sentinel, .widerDeep], laidTests := true, laidLooks := .later }
def StoreNilCardSaid : Prop := Claim7.holds Tryz.pinned (.plain (OpenSpec.ofChange storeNilSpec)) storeNilCard

/-- THE TIED CARD OF 'ratebooktop.TopSerial'. -/
def topSerialCard : Claim7 := { stood := { row := topSerialRow, standIns := [], harness := (true, "bbd27518af0c0b4436f33c4f0cd0ac5181e2e4ae2a3b3c2bf254631855396bd6"), looks := true }, kinds := [], alts := [], laidByText := true, laidKinds := [.data, .data, .data, .sentinel, .sentinel, .widerDeep], laidTests := true, laidLooks := .later }
def TopSerialCardSaid : Prop := Claim7.holds Tryz.pinned (.plain (OpenSpec.ofChange topSerialSpec)) topSerialCard

/-- THE TIED CARD OF 'ratebooktop.TopLost'. -/
def topLostCard : Claim7 := { stood := { row := topLostRow, standIns := [], harness := (true, "bbd27518af0c0b4436f33c4f0cd0ac5181e2e4ae2a3b3c2bf254631855396bd6"), looks := true }, kinds := [], alts := [], laidByText := true, laidKinds := [.data, .data, .data, .sentinel, .sentinel, .widerDeep], laidTests := true, laidLooks := .later }
def TopLostCardSaid : Prop := Claim7.holds Tryz.pinned (.plain (OpenSpec.ofChange topLostSpec)) topLostCard

/-- THE TIED CARD OF 'ratebooktop.TopCommits'. -/
def topCommitsCard : Claim7 := { stood := { row := topCommitsRow, standIns := [], harness := (true, "bbd27518af0c0b4436f33c4f0cd0ac5181e2e4ae2a3b3c2bf254631855396bd6"), looks := true }, kinds := [], alts := [], laidByText := true, laidKinds := [.data, .data, .data, .sentinel, .sentinel, .widerDeep], laidTests := true, laidLooks := .later }
def TopCommitsCardSaid : Prop := Claim7.holds Tryz.pinned (.plain (OpenSpec.ofChange topCommitsSpec)) topCommitsCard

/-- THE TIED CARD OF 'ratebooktop.TopRefused'. -/
def topRefusedCard : Claim7 := { stood := { row := topRefusedRow, standIns := [], harness := (true, "bbd27518af0c0b4436f33c4f0cd0ac5181e2e4ae2a3b3c2bf254631855396bd6"), looks := true }, kinds := [], alts := [], laidByText := true, laidKinds := [.data, .data, .data, .sentinel, .sentinel, .widerDeep], laidTests := true, laidLooks := .later }
def TopRefusedCardSaid : Prop := Claim7.holds Tryz.pinned (.plain (OpenSpec.ofChange topRefusedSpec)) topRefusedCard

/-- THE TIED CARD OF 'ratebooktop.TopMemory'. -/
def topMemoryCard : Claim7 := { stood := { row := topMemoryRow, standIns := [], harness := (true, "bbd27518af0c0b4436f33c4f0cd0ac5181e2e4ae2a3b3c2bf254631855396bd6"), looks := true }, kinds := [], alts := [], laidByText := true, laidKinds := [.data, .data, .data, .sentinel, .sentinel, .widerDeep], laidTests := true, laidLooks := .later }
def TopMemoryCardSaid : Prop := Claim7.holds Tryz.pinned (.plain (OpenSpec.ofChange topMemorySpec)) topMemoryCard

/-- THE TIED CARD OF 'ratebooktop.TopEnds'. -/
def topEndsCard : Claim7 := { stood := { row := topEndsRow, standIns := [], harness := (true, "bbd27518af0c0b4436f33c4f0cd0ac5181e2e4ae2a3b3c2bf254631855396bd6"), looks := true }, kinds := [], alts := [], laidByText := true, laidKinds := [.data, .data, .data, .sentinel, .sentinel, .widerDeep], laidTests := true, laidLooks := .later }
def TopEndsCardSaid : Prop := Claim7.holds Tryz.pinned (.plain (OpenSpec.ofChange topEndsSpec)) topEndsCard

/-- THE SECOND FORM's CARD OF 'ratebooklaw.StoreNil'. -/
def storeNilUptoCard : Claim7 := { stood := { row := storeNilUptoRow, standIns := [], harness := (true, "bbd27518af0c0b4436f33c4f0cd0ac5181e2e4ae2a3b3c2bf254631855396bd6"), looks := true }, kinds := [], alts := [], laidByText := true, laidKinds := [.data, .data, .data, .sentinel, .sentinel, .widerDeep], laidTests := true, laidLooks := .later }
def StoreNilUptoCardSaid : Prop := Claim7.holds Tryz.pinned (.plain (OpenSpec.upto storeNilSpec)) storeNilUptoCard

/-- THE SECOND FORM's CARD OF 'ratebooktop.TopSerial'. -/
def topSerialUptoCard : Claim7 := { stood := { row := topSerialUptoRow, standIns := [], harness := (true, "bbd27518af0c0b4436f33c4f0cd0ac5181e2e4ae2a3b3c2bf254631855396bd6"), looks := true }, kinds := [], alts := [], laidByText := true, laidKinds := [.data, .data, .data, .sentinel, .sentinel, .widerDeep], laidTests := true, laidLooks := .later }
def TopSerialUptoCardSaid : Prop := Claim7.holds Tryz.pinned (.plain (OpenSpec.upto topSerialSpec)) topSerialUptoCard

/-- THE SECOND FORM's CARD OF 'ratebooktop.TopLost'. -/
def topLostUptoCard : Claim7 := { stood := { row := topLostUptoRow, standIns := [], harness := (true, "bbd27518af0c0b4436f33c4f0cd0ac5181e2e4ae2a3b3c2bf254631855396bd6"), looks := true }, kinds := [], alts := [], laidByText := true, laidKinds := [.data, .data, .data, .sentinel, .sentinel, .widerDeep], laidTests := true, laidLooks := .later }
def TopLostUptoCardSaid : Prop := Claim7.holds Tryz.pinned (.plain (OpenSpec.upto topLostSpec)) topLostUptoCard

/-- THE SECOND FORM's CARD OF 'ratebooktop.TopCommits'. -/
def topCommitsUptoCard : Claim7 := { stood := { row := topCommitsUptoRow, standIns := [], harness := (true, "bbd27518af0c0b4436f33c4f0cd0ac5181e2e4ae2a3b3c2bf254631855396bd6"), looks := true }, kinds := [], alts := [], laidByText := true, laidKinds := [.data, .data, .data, .sentinel, .sentinel, .widerDeep], laidTests := true, laidLooks := .later }
def TopCommitsUptoCardSaid : Prop := Claim7.holds Tryz.pinned (.plain (OpenSpec.upto topCommitsSpec)) topCommitsUptoCard

/-- THE SECOND FORM's CARD OF 'ratebooktop.TopRefused'. -/
def topRefusedUptoCard : Claim7 := { stood := { row := topRefusedUptoRow, standIns := [], harness := (true, "bbd27518af0c0b4436f33c4f0cd0ac5181e2e4ae2a3b3c2bf254631855396bd6"), looks := true }, kinds := [], alts := [], laidByText := true, laidKinds := [.data, .data, .data, .sentinel, .sentinel, .widerDeep], laidTests := true, laidLooks := .later }
def TopRefusedUptoCardSaid : Prop := Claim7.holds Tryz.pinned (.plain (OpenSpec.upto topRefusedSpec)) topRefusedUptoCard

/-- THE SECOND FORM's CARD OF 'ratebooktop.TopMemory'. -/
def topMemoryUptoCard : Claim7 := { stood := { row := topMemoryUptoRow, standIns := [], harness := (true, "bbd27518af0c0b4436f33c4f0cd0ac5181e2e4ae2a3b3c2bf254631855396bd6"), looks := true }, kinds := [], alts := [], laidByText := true, laidKinds := [.data, .data, .data, .sentinel, .sentinel, .widerDeep], laidTests := true, laidLooks := .later }
def TopMemoryUptoCardSaid : Prop := Claim7.holds Tryz.pinned (.plain (OpenSpec.upto topMemorySpec)) topMemoryUptoCard

/-- THE SECOND FORM's CARD OF 'ratebooktop.TopEnds'. -/
def topEndsUptoCard : Claim7 := { stood := { row := topEndsUptoRow, standIns := [], harness := (true, "bbd27518af0c0b4436f33c4f0cd0ac5181e2e4ae2a3b3c2bf254631855396bd6"), looks := true }, kinds := [], alts := [], laidByText := true, laidKinds := [.data, .data, .data, .sentinel, .sentinel, .widerDeep], laidTests := true, laidLooks := .later }
def TopEndsUptoCardSaid : Prop := Claim7.holds Tryz.pinned (.plain (OpenSpec.upto topEndsSpec)) topEndsUptoCard
end Rows
end Go.Proofs.YtlopccnehgolnacGreatDoor
