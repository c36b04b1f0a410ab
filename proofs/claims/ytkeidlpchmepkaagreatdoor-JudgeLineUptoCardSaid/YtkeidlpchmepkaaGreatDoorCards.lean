/-
  DERIVED. GIVEN WITH THE SEED: THE CARDS: each row of YtkeidlpchmepkaaGreatDoorRows.lean that lists a variable, with what it lists TIED to the program's text (the seventh form; the later family's looks); each row that meets fmt, with fmt's text TOLD by the authors' own Lean function (tested against real Go, not proved from fmt's source: count such statements apart). THE CARD IS WHAT COUNTS. Prove the row's statement (the work); the ties are given (YtkeidlpchmepkaaGreatDoorTie.lean); close each card by the builder's one call (the guide's Derived/Test/ToyasCard.lean, 'card_holds'). Laid BY PROGRAM, IN A SANDBOX (cutbox-door.mjs). By AI agents, Wed Nov 11 2026. No macro, syntax, notation, axiom, sorry.
-/
import Derived.Test.YtkeidlpchmepkaaGreatDoorRows
import GoSem.ClaimSeven
namespace Go.Proofs.YtkeidlpchmepkaaGreatDoor
namespace Rows

/-- THE TIED CARD OF 'clearancelaw16.JudgeLine'. -/
def judgeLineCard : Claim7 := { stood := { row := judgeLineRow, standIns := [], harness := (true, "ffdca253398eb835d015fbd81b245884873766fd471c3f9111ac50691ec7304b"), looks := false }, kinds := [], alts := [], laidByText := true, laidKinds := [.data, .data], laidTests := true, laidLooks := .later }
def JudgeLineCardSaid : Prop := Claim7.holds Tryz.pinned (.plain (OpenSpec.ofChange judgeLineSpec)) judgeLineCard

/-- THE TIED CARD OF 'clearancelaw16.JudgeText'. -/
def judgeTextCard : Claim7 := { stood := { row := judgeTextRow, standIns := [], harness := (true, "ffdca253398eb835d015fbd81b245884873766fd471c3f9111ac50691ec7304b"), looks := false }, kinds := [], alts := [], laidByText := true, laidKinds := [.data, .data], laidTests := true, laidLooks := .later }
def JudgeTextCardSaid : Prop := Claim7.holds Tryz.pinned (.plain (OpenSpec.ofChange judgeTextSpec)) judgeTextCard

/-- THE TIED CARD OF 'clearancelaw16.JudgeShifts'. -/
def judgeShiftsCard : Claim7 := { stood := { row := judgeShiftsRow, standIns := [], harness := (true, "ffdca253398eb835d015fbd81b245884873766fd471c3f9111ac50691ec7304b"), looks := false }, kinds := [], alts := [], laidByText := true, laidKinds := [.data, .data], laidTests := true, laidLooks := .later }
def JudgeShiftsCardSaid : Prop := Claim7.holds Tryz.pinned (.plain (OpenSpec.ofChange judgeShiftsSpec)) judgeShiftsCard

/-- THE TIED CARD OF 'clearancelaw16.JudgeRoom'. -/
def judgeRoomCard : Claim7 := { stood := { row := judgeRoomRow, standIns := [], harness := (true, "ffdca253398eb835d015fbd81b245884873766fd471c3f9111ac50691ec7304b"), looks := false }, kinds := [], alts := [], laidByText := true, laidKinds := [.data, .data], laidTests := true, laidLooks := .later }
def JudgeRoomCardSaid : Prop := Claim7.holds Tryz.pinned (.plain (OpenSpec.ofChange judgeRoomSpec)) judgeRoomCard

/-- THE SECOND FORM's CARD OF 'clearancelaw16.JudgeLine'. -/
def judgeLineUptoCard : Claim7 := { stood := { row := judgeLineUptoRow, standIns := [], harness := (true, "ffdca253398eb835d015fbd81b245884873766fd471c3f9111ac50691ec7304b"), looks := false }, kinds := [], alts := [], laidByText := true, laidKinds := [.data, .data], laidTests := true, laidLooks := .later }
def JudgeLineUptoCardSaid : Prop := Claim7.holds Tryz.pinned (.plain (OpenSpec.upto judgeLineSpec)) judgeLineUptoCard

/-- THE SECOND FORM's CARD OF 'clearancelaw16.JudgeText'. -/
def judgeTextUptoCard : Claim7 := { stood := { row := judgeTextUptoRow, standIns := [], harness := (true, "ffdca253398eb835d015fbd81b245884873766fd471c3f9111ac50691ec7304b"), looks := false }, kinds := [], alts := [], laidByText := true, laidKinds := [.data, .data], laidTests := true, laidLooks := .later }
def JudgeTextUptoCardSaid : Prop := Claim7.holds Tryz.pinned (.plain (OpenSpec.upto judgeTextSpec)) judgeTextUptoCard

/-- THE SECOND FORM's CARD OF 'clearancelaw16.JudgeShifts'. -/
def judgeShiftsUptoCard : Claim7 := { stood := { row := judgeShiftsUptoRow, standIns := [], harness := (true, "ffdca253398eb835d015fbd81b245884873766fd471c3f9111ac50691ec7304b"), looks := false }, kinds := [], alts := [], laidByText := true, laidKinds := [.data, .data], laidTests := true, laidLooks := .later }
def JudgeShiftsUptoCardSaid : Prop := Claim7.holds Tryz.pinned (.plain (OpenSpec.upto judgeShiftsSpec)) judgeShiftsUptoCard

/-- THE SECOND FORM's CARD OF 'clearancelaw16.JudgeRoom'. -/
def judgeRoomUptoCard : Claim7 := { stood := { row := judgeRoomUptoRow, standIns := [], harness := (true, "ffdca253398eb835d015fbd81b245884873766fd471c3f9111ac50691ec7304b"), looks := false }, kinds := [], alts := [], laidByText := true, laidKinds := [.data, .data], laidTests := true, laidLooks := .later }
def JudgeRoomUptoCardSaid : Prop := Claim7.holds Tryz.pinned (.plain (OpenSpec.upto judgeRoomSpec)) judgeRoomUptoCard
end Rows
end Go.Proofs.YtkeidlpchmepkaaGreatDoor
