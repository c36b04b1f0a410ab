/-
  DERIVED. GIVEN WITH THE SEED: THE CARDS: each row of YtaddgcjnnpejjaaGreatDoorRows.lean that lists a variable, with what it lists TIED to the program's text (the seventh form; the later family's looks); each row that meets fmt, with fmt's text TOLD by the authors' own Lean function (tested against real Go, not proved from fmt's source: count such statements apart). THE CARD IS WHAT COUNTS. Prove the row's statement (the work); the ties are given (YtaddgcjnnpejjaaGreatDoorTie.lean); close each card by the builder's one call (the guide's Derived/Test/ToyasCard.lean, 'card_holds'). Laid BY PROGRAM, IN A SANDBOX (cutbox-door.mjs). By AI agents, Wed Nov 11 2026. No macro, syntax, notation, axiom, sorry.
-/
import Derived.Test.YtaddgcjnnpejjaaGreatDoorRows
import GoSem.ClaimSeven
namespace Go.Proofs.YtaddgcjnnpejjaaGreatDoor
namespace Rows

/-- THE TIED CARD OF 'clearancelaw14.CodeCompiles'. -/
def codeCompilesCard : Claim7 := { stood := { row := codeCompilesRow, standIns := [], harness := (true, "ae15c660ba00d278652d05414194a864889db7c4622eb019f8eef7a66ac91fe9"), looks := false }, kinds := [], alts := [], laidByText := true, laidKinds := [.data], laidTests := true, laidLooks := .later }
def CodeCompilesCardSaid : Prop := Claim7.holds Tryz.pinned (.plain (OpenSpec.ofChange codeCompilesSpec)) codeCompilesCard

/-- THE TIED CARD OF 'clearancelaw14.CodeMeans'. -/
def codeMeansCard : Claim7 := { stood := { row := codeMeansRow, standIns := [], harness := (true, "ae15c660ba00d278652d05414194a864889db7c4622eb019f8eef7a66ac91fe9"), looks := false }, kinds := [], alts := [], laidByText := true, laidKinds := [.data], laidTests := true, laidLooks := .later }
def CodeMeansCardSaid : Prop := Claim7.holds Tryz.pinned (.plain (OpenSpec.ofChange codeMeansSpec)) codeMeansCard

/-- THE TIED CARD OF 'clearancelaw14.CodeRises'. -/
def codeRisesCard : Claim7 := { stood := { row := codeRisesRow, standIns := [], harness := (true, "ae15c660ba00d278652d05414194a864889db7c4622eb019f8eef7a66ac91fe9"), looks := false }, kinds := [], alts := [], laidByText := true, laidKinds := [.data], laidTests := true, laidLooks := .later }
def CodeRisesCardSaid : Prop := Claim7.holds Tryz.pinned (.plain (OpenSpec.ofChange codeRisesSpec)) codeRisesCard

/-- THE SECOND FORM's CARD OF 'clearancelaw14.CodeCompiles'. -/
def codeCompilesUptoCard : Claim7 := { stood := { row := codeCompilesUptoRow, standIns := [], harness := (true, "ae15c660ba00d278652d05414194a864889db7c4622eb019f8eef7a66ac91fe9"), looks := false }, kinds := [], alts := [], laidByText := true, laidKinds := [.data], laidTests := true, laidLooks := .later }
def CodeCompilesUptoCardSaid : Prop := Claim7.holds Tryz.pinned (.plain (OpenSpec.upto codeCompilesSpec)) codeCompilesUptoCard

/-- THE SECOND FORM's CARD OF 'clearancelaw14.CodeMeans'. -/
def codeMeansUptoCard : Claim7 := { stood := { row := codeMeansUptoRow, standIns := [], harness := (true, "ae15c660ba00d278652d05414194a864889db7c4622eb019f8eef7a66ac91fe9"), looks := false }, kinds := [], alts := [], laidByText := true, laidKinds := [.data], laidTests := true, laidLooks := .later }
def CodeMeansUptoCardSaid : Prop := Claim7.holds Tryz.pinned (.plain (OpenSpec.upto codeMeansSpec)) codeMeansUptoCard

/-- THE SECOND FORM's CARD OF 'clearancelaw14.CodeRises'. -/
def codeRisesUptoCard : Claim7 := { stood := { row := codeRisesUptoRow, standIns := [], harness := (true, "ae15c660ba00d278652d05414194a864889db7c4622eb019f8eef7a66ac91fe9"), looks := false }, kinds := [], alts := [], laidByText := true, laidKinds := [.data], laidTests := true, laidLooks := .later }
def CodeRisesUptoCardSaid : Prop := Claim7.holds Tryz.pinned (.plain (OpenSpec.upto codeRisesSpec)) codeRisesUptoCard
end Rows
end Go.Proofs.YtaddgcjnnpejjaaGreatDoor
