/-
  DERIVED. GIVEN WITH THE SEED: THE CARDS: each row of YtnpggmhoandloaaGreatDoorRows.lean that lists a variable, with what it lists TIED to the program's text (the seventh form; the later family's looks); each row that meets fmt, with fmt's text TOLD by the authors' own Lean function (tested against real Go, not proved from fmt's source: count such statements apart). THE CARD IS WHAT COUNTS. Prove the row's statement (the work); the ties are given (YtnpggmhoandloaaGreatDoorTie.lean); close each card by the builder's one call (the guide's Derived/Test/ToyasCard.lean, 'card_holds'). Laid BY PROGRAM, IN A SANDBOX (cutbox-door.mjs). By AI agents, Wed Nov 11 2026. No macro, syntax, notation, axiom, sorry.
-/
import Derived.Test.YtnpggmhoandloaaGreatDoorRows
import GoSem.ClaimSeven
namespace Go.Proofs.YtnpggmhoandloaaGreatDoor
namespace Rows

/-- THE TIED CARD OF 'clearancelaw28.StackDrops'. -/
def stackDropsCard : Claim7 := { stood := { row := stackDropsRow, standIns := [], harness := (true, "9c043031c8561a006a7bf1e0a852c6b988c976ef1bfe1ad12c13e98037c4d0bc"), looks := false }, kinds := [], alts := [], laidByText := true, laidKinds := [.data, .data], laidTests := true, laidLooks := .later }
def StackDropsCardSaid : Prop := Claim7.holds Tryz.pinned (.plain (OpenSpec.ofChange stackDropsSpec)) stackDropsCard

/-- THE TIED CARD OF 'clearancelaw28.StackPlays'. -/
def stackPlaysCard : Claim7 := { stood := { row := stackPlaysRow, standIns := [], harness := (true, "9c043031c8561a006a7bf1e0a852c6b988c976ef1bfe1ad12c13e98037c4d0bc"), looks := false }, kinds := [], alts := [], laidByText := true, laidKinds := [.data, .data], laidTests := true, laidLooks := .later }
def StackPlaysCardSaid : Prop := Claim7.holds Tryz.pinned (.plain (OpenSpec.ofChange stackPlaysSpec)) stackPlaysCard

/-- THE TIED CARD OF 'clearancelaw28.StackText'. -/
def stackTextCard : Claim7 := { stood := { row := stackTextRow, standIns := [], harness := (true, "9c043031c8561a006a7bf1e0a852c6b988c976ef1bfe1ad12c13e98037c4d0bc"), looks := false }, kinds := [], alts := [], laidByText := true, laidKinds := [.data, .data], laidTests := true, laidLooks := .later }
def StackTextCardSaid : Prop := Claim7.holds Tryz.pinned (.plain (OpenSpec.ofChange stackTextSpec)) stackTextCard

/-- THE TIED CARD OF 'clearancelaw28.StackFrames'. -/
def stackFramesCard : Claim7 := { stood := { row := stackFramesRow, standIns := [], harness := (true, "9c043031c8561a006a7bf1e0a852c6b988c976ef1bfe1ad12c13e98037c4d0bc"), looks := false }, kinds := [], alts := [], laidByText := true, laidKinds := [.data, .data], laidTests := true, laidLooks := .later }
def StackFramesCardSaid : Prop := Claim7.holds Tryz.pinned (.plain (OpenSpec.ofChange stackFramesSpec)) stackFramesCard

/-- THE TIED CARD OF 'clearancelaw28.StackNobody'. -/
def stackNobodyCard : Claim7 := { stood := { row := stackNobodyRow, standIns := [], harness := (true, "9c043031c8561a006a7bf1e0a852c6b988c976ef1bfe1ad12c13e98037c4d0bc"), looks := false }, kinds := [], alts := [], laidByText := true, laidKinds := [.data, .data], laidTests := true, laidLooks := .later }
def StackNobodyCardSaid : Prop := Claim7.holds Tryz.pinned (.plain (OpenSpec.ofChange stackNobodySpec)) stackNobodyCard

/-- THE SECOND FORM's CARD OF 'clearancelaw28.StackDrops'. -/
def stackDropsUptoCard : Claim7 := { stood := { row := stackDropsUptoRow, standIns := [], harness := (true, "9c043031c8561a006a7bf1e0a852c6b988c976ef1bfe1ad12c13e98037c4d0bc"), looks := false }, kinds := [], alts := [], laidByText := true, laidKinds := [.data, .data], laidTests := true, laidLooks := .later }
def StackDropsUptoCardSaid : Prop := Claim7.holds Tryz.pinned (.plain (OpenSpec.upto stackDropsSpec)) stackDropsUptoCard

/-- THE SECOND FORM's CARD OF 'clearancelaw28.StackPlays'. -/
def stackPlaysUptoCard : Claim7 := { stood := { row := stackPlaysUptoRow, standIns := [], harness := (true, "9c043031c8561a006a7bf1e0a852c6b988c976ef1bfe1ad12c13e98037c4d0bc"), looks := false }, kinds := [], alts := [], laidByText := true, laidKinds := [.data, .data], laidTests := true, laidLooks := .later }
def StackPlaysUptoCardSaid : Prop := Claim7.holds Tryz.pinned (.plain (OpenSpec.upto stackPlaysSpec)) stackPlaysUptoCard

/-- THE SECOND FORM's CARD OF 'clearancelaw28.StackText'. -/
def stackTextUptoCard : Claim7 := { stood := { row := stackTextUptoRow, standIns := [], harness := (true, "9c043031c8561a006a7bf1e0a852c6b988c976ef1bfe1ad12c13e98037c4d0bc"), looks := false }, kinds := [], alts := [], laidByText := true, laidKinds := [.data, .data], laidTests := true, laidLooks := .later }
def StackTextUptoCardSaid : Prop := Claim7.holds Tryz.pinned (.plain (OpenSpec.upto stackTextSpec)) stackTextUptoCard

/-- THE SECOND FORM's CARD OF 'clearancelaw28.StackFrames'. -/
def stackFramesUptoCard : Claim7 := { stood := { row := stackFramesUptoRow, standIns := [], harness := (true, "9c043031c8561a006a7bf1e0a852c6b988c976ef1bfe1ad12c13e98037c4d0bc"), looks := false }, kinds := [], alts := [], laidByText := true, laidKinds := [.data, .data], laidTests := true, laidLooks := .later }
def StackFramesUptoCardSaid : Prop := Claim7.holds Tryz.pinned (.plain (OpenSpec.upto stackFramesSpec)) stackFramesUptoCard

/-- THE SECOND FORM's CARD OF 'clearancelaw28.StackNobody'. -/
def stackNobodyUptoCard : Claim7 := { stood := { row := stackNobodyUptoRow, standIns := [], harness := (true, "9c043031c8561a006a7bf1e0a852c6b988c976ef1bfe1ad12c13e98037c4d0bc"), looks := false }, kinds := [], alts := [], laidByText := true, laidKinds := [.data, .data], laidTests := true, laidLooks := .later }
def StackNobodyUptoCardSaid : Prop := Claim7.holds Tryz.pinned (.plain (OpenSpec.upto stackNobodySpec)) stackNobodyUptoCard
end Rows
end Go.Proofs.YtnpggmhoandloaaGreatDoor
