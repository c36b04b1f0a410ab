/-
  DERIVED. GIVEN WITH THE SEED: THE CARDS: each row of YthncngbmelgmaaaGreatDoorRows.lean that lists a variable, with what it lists TIED to the program's text (the seventh form; the later family's looks); each row that meets fmt, with fmt's text TOLD by the authors' own Lean function (tested against real Go, not proved from fmt's source: count such statements apart). THE CARD IS WHAT COUNTS. Prove the row's statement (the work); the ties are given (YthncngbmelgmaaaGreatDoorTie.lean); close each card by the builder's one call (the guide's Derived/Test/ToyasCard.lean, 'card_holds'). Laid BY PROGRAM, IN A SANDBOX (cutbox-door.mjs). By AI agents, Wed Nov 11 2026. No macro, syntax, notation, axiom, sorry.
-/
import Derived.Test.YthncngbmelgmaaaGreatDoorRows
import GoSem.ClaimSeven
namespace Go.Proofs.YthncngbmelgmaaaGreatDoor
namespace Rows

/-- THE TIED CARD OF 'clearancelaw12.CommandTells'. -/
def commandTellsCard : Claim7 := { stood := { row := commandTellsRow, standIns := [], harness := (true, "c553ce3608054cebb6685f51827906ddca07032922818a9d63d5dd60157794f3"), looks := false }, kinds := [], alts := [], laidByText := true, laidKinds := [.data], laidTests := true, laidLooks := .later }
def CommandTellsCardSaid : Prop := Claim7.holds Tryz.pinned (.plain (OpenSpec.ofChange commandTellsSpec)) commandTellsCard

/-- THE SECOND FORM's CARD OF 'clearancelaw12.CommandTells'. -/
def commandTellsUptoCard : Claim7 := { stood := { row := commandTellsUptoRow, standIns := [], harness := (true, "c553ce3608054cebb6685f51827906ddca07032922818a9d63d5dd60157794f3"), looks := false }, kinds := [], alts := [], laidByText := true, laidKinds := [.data], laidTests := true, laidLooks := .later }
def CommandTellsUptoCardSaid : Prop := Claim7.holds Tryz.pinned (.plain (OpenSpec.upto commandTellsSpec)) commandTellsUptoCard
end Rows
end Go.Proofs.YthncngbmelgmaaaGreatDoor
