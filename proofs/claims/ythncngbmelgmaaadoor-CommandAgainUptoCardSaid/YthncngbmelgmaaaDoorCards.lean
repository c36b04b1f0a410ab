/-
  DERIVED. GIVEN WITH THE SEED: THE CARDS: each row of YthncngbmelgmaaaDoorRows.lean that lists a variable, with what it lists TIED to the program's text (the seventh form; the later family's looks); each row that meets fmt, with fmt's text TOLD by the authors' own Lean function (tested against real Go, not proved from fmt's source: count such statements apart). THE CARD IS WHAT COUNTS. Prove the row's statement (the work); the ties are given (YthncngbmelgmaaaDoorTie.lean); close each card by the builder's one call (the guide's Derived/Test/ToyasCard.lean, 'card_holds'). Laid BY PROGRAM, IN A SANDBOX (cutbox-door.mjs). By AI agents, Wed Nov 11 2026. No macro, syntax, notation, axiom, sorry.
-/
import Derived.Test.YthncngbmelgmaaaDoorRows
import GoSem.ClaimSeven
namespace Go.Proofs.YthncngbmelgmaaaDoor
namespace Rows

/-- THE TIED CARD OF 'clearancelaw12.CommandReads'. -/
def commandReadsCard : Claim7 := { stood := { row := commandReadsRow, standIns := [], harness := (true, "f58e0c300dae8f73b2b5d93ac77836585220aa98d24a54f17fc6fe9698735e47"), looks := false }, kinds := [], alts := [], laidByText := true, laidKinds := [.data], laidTests := true, laidLooks := .later }
def CommandReadsCardSaid : Prop := Claim7.holds Tryd.pinned (.plain (OpenSpec.ofChange commandReadsSpec)) commandReadsCard

/-- THE TIED CARD OF 'clearancelaw12.CommandBack'. -/
def commandBackCard : Claim7 := { stood := { row := commandBackRow, standIns := [], harness := (true, "f58e0c300dae8f73b2b5d93ac77836585220aa98d24a54f17fc6fe9698735e47"), looks := false }, kinds := [], alts := [], laidByText := true, laidKinds := [.data], laidTests := true, laidLooks := .later }
def CommandBackCardSaid : Prop := Claim7.holds Tryd.pinned (.plain (OpenSpec.ofChange commandBackSpec)) commandBackCard

/-- THE TIED CARD OF 'clearancelaw12.CommandAgain'. -/
def commandAgainCard : Claim7 := { stood := { row := commandAgainRow, standIns := [], harness := (true, "f58e0c300dae8f73b2b5d93ac77836585220aa98d24a54f17fc6fe9698735e47"), looks := false }, kinds := [], alts := [], laidByText := true, laidKinds := [.data], laidTests := true, laidLooks := .later }
def CommandAgainCardSaid : Prop := Claim7.holds Tryd.pinned (.plain (OpenSpec.ofChange commandAgainSpec)) commandAgainCard

/-- THE SECOND FORM's CARD OF 'clearancelaw12.CommandReads'. -/
def commandReadsUptoCard : Claim7 := { stood := { row := commandReadsUptoRow, standIns := [], harness := (true, "f58e0c300dae8f73b2b5d93ac77836585220aa98d24a54f17fc6fe9698735e47"), looks := false }, kinds := [], alts := [], laidByText := true, laidKinds := [.data], laidTests := true, laidLooks := .later }
def CommandReadsUptoCardSaid : Prop := Claim7.holds Tryd.pinned (.plain (OpenSpec.upto commandReadsSpec)) commandReadsUptoCard

/-- THE SECOND FORM's CARD OF 'clearancelaw12.CommandBack'. -/
def commandBackUptoCard : Claim7 := { stood := { row := commandBackUptoRow, standIns := [], harness := (true, "f58e0c300dae8f73b2b5d93ac77836585220aa98d24a54f17fc6fe9698735e47"), looks := false }, kinds := [], alts := [], laidByText := true, laidKinds := [.data], laidTests := true, laidLooks := .later }
def CommandBackUptoCardSaid : Prop := Claim7.holds Tryd.pinned (.plain (OpenSpec.upto commandBackSpec)) commandBackUptoCard

/-- THE SECOND FORM's CARD OF 'clearancelaw12.CommandAgain'. -/
def commandAgainUptoCard : Claim7 := { stood := { row := commandAgainUptoRow, standIns := [], harness := (true, "f58e0c300dae8f73b2b5d93ac77836585220aa98d24a54f17fc6fe9698735e47"), looks := false }, kinds := [], alts := [], laidByText := true, laidKinds := [.data], laidTests := true, laidLooks := .later }
def CommandAgainUptoCardSaid : Prop := Claim7.holds Tryd.pinned (.plain (OpenSpec.upto commandAgainSpec)) commandAgainUptoCard
end Rows
end Go.Proofs.YthncngbmelgmaaaDoor
