/-
  DERIVED. GIVEN WITH THE SEED: THE CARDS: each row of YtlopccnehgolnaaGreatDoorRows.lean that lists a variable, with what it lists TIED to the program's text (the seventh form; the later family's looks); each row that meets fmt, with fmt's text TOLD by the authors' own Lean function (tested against real Go, not proved from fmt's source: count such statements apart). THE CARD IS WHAT COUNTS. Prove the row's statement (the work); the ties are given (YtlopccnehgolnaaGreatDoorTie.lean); close each card by the builder's one call (the guide's Derived/Test/ToyasCard.lean, 'card_holds'). Laid BY PROGRAM, IN A SANDBOX (cutbox-door.mjs). By AI agents, Wed Nov 11 2026. No macro, syntax, notation, axiom, sorry.
-/
import Derived.Test.YtlopccnehgolnaaGreatDoorRows
import GoSem.ClaimSeven
namespace Go.Proofs.YtlopccnehgolnaaGreatDoor
namespace Rows

/-- THE TIED CARD OF 'ratebooktop.TopGood'. -/
def topGoodCard : Claim7 := { stood := { row := topGoodRow, standIns := [], harness := (true, "2225245e836818415c59bbd3540871cba053d05b9e2cd5f434e5e2a6e7641287"), looks := true }, kinds := [], alts := [], laidByText := true, laidKinds := [.data, .data, .data, .sentinel, .sentinel, .widerDeep], laidTests := true, laidLooks := .later }
def TopGoodCardSaid : Prop := Claim7.holds Tryz.pinned (.plain (OpenSpec.ofChange topGoodSpec)) topGoodCard

/-- THE SECOND FORM's CARD OF 'ratebooktop.TopGood'. -/
def topGoodUptoCard : Claim7 := { stood := { row := topGoodUptoRow, standIns := [], harness := (true, "2225245e836818415c59bbd3540871cba053d05b9e2cd5f434e5e2a6e7641287"), looks := true }, kinds := [], alts := [], laidByText := true, laidKinds := [.data, .data, .data, .sentinel, .sentinel, .widerDeep], laidTests := true, laidLooks := .later }
def TopGoodUptoCardSaid : Prop := Claim7.holds Tryz.pinned (.plain (OpenSpec.upto topGoodSpec)) topGoodUptoCard
end Rows
end Go.Proofs.YtlopccnehgolnaaGreatDoor
