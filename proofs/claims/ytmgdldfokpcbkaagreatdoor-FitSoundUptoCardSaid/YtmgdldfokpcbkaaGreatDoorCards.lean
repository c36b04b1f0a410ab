/-
  DERIVED. GIVEN WITH THE SEED: THE CARDS: each row of YtmgdldfokpcbkaaGreatDoorRows.lean that lists a variable, with what it lists TIED to the program's text (the seventh form; the later family's looks); each row that meets fmt, with fmt's text TOLD by the authors' own Lean function (tested against real Go, not proved from fmt's source: count such statements apart). THE CARD IS WHAT COUNTS. Prove the row's statement (the work); the ties are given (YtmgdldfokpcbkaaGreatDoorTie.lean); close each card by the builder's one call (the guide's Derived/Test/ToyasCard.lean, 'card_holds'). Laid BY PROGRAM, IN A SANDBOX (cutbox-door.mjs). By AI agents, Wed Nov 11 2026. No macro, syntax, notation, axiom, sorry.
-/
import Derived.Test.YtmgdldfokpcbkaaGreatDoorRows
import GoSem.ClaimSeven
namespace Go.Proofs.YtmgdldfokpcbkaaGreatDoor
namespace Rows

/-- THE TIED CARD OF 'clearancelaw15.FitAsserts'. -/
def fitAssertsCard : Claim7 := { stood := { row := fitAssertsRow, standIns := [], harness := (true, "81e63cbc174895d54d21b6c6305eadfe60e8d0688fc185b42798b7b54527f54b"), looks := false }, kinds := [], alts := [], laidByText := true, laidKinds := [.data, .data], laidTests := true, laidLooks := .later }
def FitAssertsCardSaid : Prop := Claim7.holds Tryz.pinned (.plain (OpenSpec.ofChange fitAssertsSpec)) fitAssertsCard

/-- THE TIED CARD OF 'clearancelaw15.FitRight'. -/
def fitRightCard : Claim7 := { stood := { row := fitRightRow, standIns := [], harness := (true, "81e63cbc174895d54d21b6c6305eadfe60e8d0688fc185b42798b7b54527f54b"), looks := false }, kinds := [], alts := [], laidByText := true, laidKinds := [.data, .data], laidTests := true, laidLooks := .later }
def FitRightCardSaid : Prop := Claim7.holds Tryz.pinned (.plain (OpenSpec.ofChange fitRightSpec)) fitRightCard

/-- THE TIED CARD OF 'clearancelaw15.FitSound'. -/
def fitSoundCard : Claim7 := { stood := { row := fitSoundRow, standIns := [], harness := (true, "81e63cbc174895d54d21b6c6305eadfe60e8d0688fc185b42798b7b54527f54b"), looks := false }, kinds := [], alts := [], laidByText := true, laidKinds := [.data, .data], laidTests := true, laidLooks := .later }
def FitSoundCardSaid : Prop := Claim7.holds Tryz.pinned (.plain (OpenSpec.ofChange fitSoundSpec)) fitSoundCard

/-- THE SECOND FORM's CARD OF 'clearancelaw15.FitAsserts'. -/
def fitAssertsUptoCard : Claim7 := { stood := { row := fitAssertsUptoRow, standIns := [], harness := (true, "81e63cbc174895d54d21b6c6305eadfe60e8d0688fc185b42798b7b54527f54b"), looks := false }, kinds := [], alts := [], laidByText := true, laidKinds := [.data, .data], laidTests := true, laidLooks := .later }
def FitAssertsUptoCardSaid : Prop := Claim7.holds Tryz.pinned (.plain (OpenSpec.upto fitAssertsSpec)) fitAssertsUptoCard

/-- THE SECOND FORM's CARD OF 'clearancelaw15.FitRight'. -/
def fitRightUptoCard : Claim7 := { stood := { row := fitRightUptoRow, standIns := [], harness := (true, "81e63cbc174895d54d21b6c6305eadfe60e8d0688fc185b42798b7b54527f54b"), looks := false }, kinds := [], alts := [], laidByText := true, laidKinds := [.data, .data], laidTests := true, laidLooks := .later }
def FitRightUptoCardSaid : Prop := Claim7.holds Tryz.pinned (.plain (OpenSpec.upto fitRightSpec)) fitRightUptoCard

/-- THE SECOND FORM's CARD OF 'clearancelaw15.FitSound'. -/
def fitSoundUptoCard : Claim7 := { stood := { row := fitSoundUptoRow, standIns := [], harness := (true, "81e63cbc174895d54d21b6c6305eadfe60e8d0688fc185b42798b7b54527f54b"), looks := false }, kinds := [], alts := [], laidByText := true, laidKinds := [.data, .data], laidTests := true, laidLooks := .later }
def FitSoundUptoCardSaid : Prop := Claim7.holds Tryz.pinned (.plain (OpenSpec.upto fitSoundSpec)) fitSoundUptoCard
end Rows
end Go.Proofs.YtmgdldfokpcbkaaGreatDoor
