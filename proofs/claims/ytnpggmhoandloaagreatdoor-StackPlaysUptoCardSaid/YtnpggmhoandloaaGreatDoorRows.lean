/-
  NARROWER THAN 'FOR EVERY INPUT', by the rows' own cells (each row's printed sentence says how): StackDrops: laid · StackPlays: laid · StackText: laid · StackFrames: laid · StackNobody: laid.
  DERIVED. THE GIVEN ROWS OF THIS SEAT. 5 by the template 'for every input the law returns true; each argument reads behind the call as it read before'; 0 by the template 'total and deterministic' (their statements: YtnpggmhoandloaaGreatDoorTotals.lean).
  GIVEN WITH THE SEED: the statements are not yours to turn. If you find one false, say at which input.
  Laid BY PROGRAM, IN A SANDBOX (cutbox-rows.mjs): the forced cells as the released guide's own fill.sh prints them over the translation aa0db4353a352ad2… (all of the seat's roots in one cut). By AI agents, Wed Nov 11 2026. No macro, syntax, notation, axiom, sorry.
-/
import Derived.Test.YtnpggmhoandloaaGreatDoorChecked
import GoSem.Claim
import GoSem.ClaimJoined
import GoSem.ClaimMapViews
import Derived.JoinedTies
import Derived.KernelRfl
namespace Go.Proofs.YtnpggmhoandloaaGreatDoor
/- THE CELL 'sum', in the pinned program and in every row, IS THE sha256 OF THE DUMP (.gsa) THAT YtnpggmhoandloaaGreatDoorProg.lean LOADS. Nothing in Lean hashes anything: it is a label: what it is worth is what the hold of that sum in a sandbox is worth. -/
noncomputable def Tryz.pinned : Pinned := { name := "ytnpggmhoandloaagreatdoor", sum := "aa0db4353a352ad2d997e934e025403096a9d3d7077ba397cb3666eec61bb096", checked := Tryz.checked }
namespace Rows
def none {H : Type} : Left H := { results := [], args := [] }

/- WHAT THE LISTED PACKAGE-LEVEL VARIABLES READ AS WHEN THE CALL BEGINS. Each datum BY PROGRAM (the guide's laid-datum.mjs) off the statement by which the dump's own 'gosem.cut.vars' lays the variable. In a bare row this is a premise. The card (YtnpggmhoandloaaGreatDoorCards.lean) ties it to the program's text. -/
def laid_clearance_command_forms {H : Type} : DataW H := .agg [.agg [.lit (.string []), .lit (.string [])], .agg [.lit (.string [99, 104, 97, 105, 110]), .lit (.string [110, 119])], .agg [.lit (.string [112, 111, 119, 101, 114]), .lit (.string [110, 119])], .agg [.lit (.string [112, 114, 111, 100, 117, 99, 116]), .lit (.string [110, 119])], .agg [.lit (.string [103, 114, 105, 100]), .lit (.string [110, 119, 112])], .agg [.lit (.string [116, 97, 98, 108, 101]), .lit (.string [110, 119, 112])], .agg [.lit (.string [108, 97, 98, 101, 108]), .lit (.string [110, 119])], .agg [.lit (.string [114, 111, 119]), .lit (.string [110, 119])], .agg [.lit (.string [108, 101, 113]), .lit (.string [110, 116, 116])], .agg [.lit (.string [114, 111, 119, 101, 113]), .lit (.string [110, 114, 114])], .agg [.lit (.string [108, 97, 99, 107, 115]), .lit (.string [110, 102])], .agg [.lit (.string [112, 117, 115, 104]), .lit (.string [])], .agg [.lit (.string [112, 111, 112]), .lit (.string [])], .agg [.lit (.string [99, 104, 101, 99, 107]), .lit (.string [])], .agg [.lit (.string [99, 111, 114, 101]), .lit (.string [])], .agg [.lit (.string [119, 104, 121]), .lit (.string [110])]]
def laid_math_bits_deBruijn64tab {H : Type} : DataW H := .agg [.lit (.int .u8 0), .lit (.int .u8 1), .lit (.int .u8 56), .lit (.int .u8 2), .lit (.int .u8 57), .lit (.int .u8 49), .lit (.int .u8 28), .lit (.int .u8 3), .lit (.int .u8 61), .lit (.int .u8 58), .lit (.int .u8 42), .lit (.int .u8 50), .lit (.int .u8 38), .lit (.int .u8 29), .lit (.int .u8 17), .lit (.int .u8 4), .lit (.int .u8 62), .lit (.int .u8 47), .lit (.int .u8 59), .lit (.int .u8 36), .lit (.int .u8 45), .lit (.int .u8 43), .lit (.int .u8 51), .lit (.int .u8 22), .lit (.int .u8 53), .lit (.int .u8 39), .lit (.int .u8 33), .lit (.int .u8 30), .lit (.int .u8 24), .lit (.int .u8 18), .lit (.int .u8 12), .lit (.int .u8 5), .lit (.int .u8 63), .lit (.int .u8 55), .lit (.int .u8 48), .lit (.int .u8 27), .lit (.int .u8 60), .lit (.int .u8 41), .lit (.int .u8 37), .lit (.int .u8 16), .lit (.int .u8 46), .lit (.int .u8 35), .lit (.int .u8 44), .lit (.int .u8 21), .lit (.int .u8 52), .lit (.int .u8 32), .lit (.int .u8 23), .lit (.int .u8 11), .lit (.int .u8 54), .lit (.int .u8 26), .lit (.int .u8 40), .lit (.int .u8 15), .lit (.int .u8 34), .lit (.int .u8 20), .lit (.int .u8 31), .lit (.int .u8 10), .lit (.int .u8 25), .lit (.int .u8 14), .lit (.int .u8 19), .lit (.int .u8 9), .lit (.int .u8 13), .lit (.int .u8 8), .lit (.int .u8 7), .lit (.int .u8 6)]

/-- 'clearancelaw28.StackDrops': WHATEVER THE INPUT: true; the input reads as it did. -/
def stackDropsSpec : ChangeSpec := { name := "stackDrops", fn := fun _ => fun
  | [d1, d2, d3] => { results := [.lit (.bool true)], args := [d1, d2, d3] }
  | _ => none }
def stackDropsRow : OpenClaim := { program := "ytnpggmhoandloaagreatdoor", sum := "aa0db4353a352ad2d997e934e025403096a9d3d7077ba397cb3666eec61bb096", func := "clearance/clearancelaw28.StackDrops", spec := "stackDrops", unfollowed := true, recurses := true, named := ["clearance/command.forms", "math/bits.deBruijn64tab"], apart := false, laid := [("clearance/command.forms", laid_clearance_command_forms), ("math/bits.deBruijn64tab", laid_math_bits_deBruijn64tab)] }
def StackDropsSaid : Prop := stackDropsRow.holds Tryz.pinned (OpenSpec.ofChange stackDropsSpec)

/-- ITS FALSE NEIGHBOUR: 'it returns false'. Refute it at one input. -/
def stackDropsWrong : ChangeSpec := { name := "stackDrops", fn := fun _ => fun
  | [d1, d2, d3] => { results := [.lit (.bool false)], args := [d1, d2, d3] }
  | _ => none }
def StackDropsWrongFalsely : Prop := stackDropsRow.holds Tryz.pinned (OpenSpec.ofChange stackDropsWrong)

/-- 'clearancelaw28.StackPlays': WHATEVER THE INPUT: true; the input reads as it did. -/
def stackPlaysSpec : ChangeSpec := { name := "stackPlays", fn := fun _ => fun
  | [d] => { results := [.lit (.bool true)], args := [d] }
  | _ => none }
def stackPlaysRow : OpenClaim := { program := "ytnpggmhoandloaagreatdoor", sum := "aa0db4353a352ad2d997e934e025403096a9d3d7077ba397cb3666eec61bb096", func := "clearance/clearancelaw28.StackPlays", spec := "stackPlays", unfollowed := true, recurses := true, named := ["clearance/command.forms", "math/bits.deBruijn64tab"], apart := false, laid := [("clearance/command.forms", laid_clearance_command_forms), ("math/bits.deBruijn64tab", laid_math_bits_deBruijn64tab)] }
def StackPlaysSaid : Prop := stackPlaysRow.holds Tryz.pinned (OpenSpec.ofChange stackPlaysSpec)

/-- ITS FALSE NEIGHBOUR: 'it returns false'. Refute it at one input. -/
def stackPlaysWrong : ChangeSpec := { name := "stackPlays", fn := fun _ => fun
  | [d] => { results := [.lit (.bool false)], args := [d] }
  | _ => none }
def StackPlaysWrongFalsely : Prop := stackPlaysRow.holds Tryz.pinned (OpenSpec.ofChange stackPlaysWrong)

/-- 'clearancelaw28.StackText': WHATEVER THE INPUT: true; the input reads as it did. -/
def stackTextSpec : ChangeSpec := { name := "stackText", fn := fun _ => fun
  | [d] => { results := [.lit (.bool true)], args := [d] }
  | _ => none }
def stackTextRow : OpenClaim := { program := "ytnpggmhoandloaagreatdoor", sum := "aa0db4353a352ad2d997e934e025403096a9d3d7077ba397cb3666eec61bb096", func := "clearance/clearancelaw28.StackText", spec := "stackText", unfollowed := true, recurses := true, named := ["clearance/command.forms", "math/bits.deBruijn64tab"], apart := false, laid := [("clearance/command.forms", laid_clearance_command_forms), ("math/bits.deBruijn64tab", laid_math_bits_deBruijn64tab)] }
def StackTextSaid : Prop := stackTextRow.holds Tryz.pinned (OpenSpec.ofChange stackTextSpec)

/-- ITS FALSE NEIGHBOUR: 'it returns false'. Refute it at one input. -/
def stackTextWrong : ChangeSpec := { name := "stackText", fn := fun _ => fun
  | [d] => { results := [.lit (.bool false)], args := [d] }
  | _ => none }
def StackTextWrongFalsely : Prop := stackTextRow.holds Tryz.pinned (OpenSpec.ofChange stackTextWrong)

/-- 'clearancelaw28.StackFrames': WHATEVER THE INPUT: true; the input reads as it did. -/
def stackFramesSpec : ChangeSpec := { name := "stackFrames", fn := fun _ => fun
  | [d1, d2] => { results := [.lit (.bool true)], args := [d1, d2] }
  | _ => none }
def stackFramesRow : OpenClaim := { program := "ytnpggmhoandloaagreatdoor", sum := "aa0db4353a352ad2d997e934e025403096a9d3d7077ba397cb3666eec61bb096", func := "clearance/clearancelaw28.StackFrames", spec := "stackFrames", unfollowed := true, recurses := true, named := ["clearance/command.forms", "math/bits.deBruijn64tab"], apart := false, laid := [("clearance/command.forms", laid_clearance_command_forms), ("math/bits.deBruijn64tab", laid_math_bits_deBruijn64tab)] }
def StackFramesSaid : Prop := stackFramesRow.holds Tryz.pinned (OpenSpec.ofChange stackFramesSpec)

/-- ITS FALSE NEIGHBOUR: 'it returns false'. Refute it at one input. -/
def stackFramesWrong : ChangeSpec := { name := "stackFrames", fn := fun _ => fun
  | [d1, d2] => { results := [.lit (.bool false)], args := [d1, d2] }
  | _ => none }
def StackFramesWrongFalsely : Prop := stackFramesRow.holds Tryz.pinned (OpenSpec.ofChange stackFramesWrong)

/-- 'clearancelaw28.StackNobody': WHATEVER THE INPUT: true; the input reads as it did. -/
def stackNobodySpec : ChangeSpec := { name := "stackNobody", fn := fun _ => fun
  | [d] => { results := [.lit (.bool true)], args := [d] }
  | _ => none }
def stackNobodyRow : OpenClaim := { program := "ytnpggmhoandloaagreatdoor", sum := "aa0db4353a352ad2d997e934e025403096a9d3d7077ba397cb3666eec61bb096", func := "clearance/clearancelaw28.StackNobody", spec := "stackNobody", unfollowed := true, recurses := true, named := ["clearance/command.forms", "math/bits.deBruijn64tab"], apart := false, laid := [("clearance/command.forms", laid_clearance_command_forms), ("math/bits.deBruijn64tab", laid_math_bits_deBruijn64tab)] }
def StackNobodySaid : Prop := stackNobodyRow.holds Tryz.pinned (OpenSpec.ofChange stackNobodySpec)

/-- ITS FALSE NEIGHBOUR: 'it returns false'. Refute it at one input. -/
def stackNobodyWrong : ChangeSpec := { name := "stackNobody", fn := fun _ => fun
  | [d] => { results := [.lit (.bool false)], args := [d] }
  | _ => none }
def StackNobodyWrongFalsely : Prop := stackNobodyRow.holds Tryz.pinned (OpenSpec.ofChange stackNobodyWrong)

/- THE SECOND FORM. 'bulk': how many values and letters a reading holds, each counted each time it is reached (what is shared counts as often as it is met; a slice's spare places count too). A statement '..UptoSaid' is the law's where the arguments, and the package variables that the reading takes, are together of bulk at most 1048576: NARROWER than '..Said'. Prove '..Said' where nothing that the law and all that it calls make is longer than what came in: it says more and counts as full. Else prove '..UptoSaid'. A law counts once. -/
mutual
def uptoBulk {H : Type} : DataW H → Nat
  | .lit (.string bytes) => bytes.length + 1
  | .lit _ => 1
  | .nil => 1
  | .ptr d => uptoBulk d + 1
  | .slice elems spare => uptoBulkAll elems + uptoBulkAll spare + 1
  | .agg parts => uptoBulkAll parts + 1
  | .iface _ d => uptoBulk d + 1
  | .map entries => uptoBulkEntries entries + 1
  | .held _ => 1
def uptoBulkAll {H : Type} : List (DataW H) → Nat
  | [] => 0
  | d :: r => uptoBulk d + uptoBulkAll r
def uptoBulkEntries {H : Type} : List (Lit × DataW H) → Nat
  | [] => 0
  | x :: r => uptoBulkEntry x + uptoBulkEntries r
def uptoBulkEntry {H : Type} : Lit × DataW H → Nat
  | (.string bytes, d) => bytes.length + uptoBulk d + 1
  | (_, d) => uptoBulk d + 1
 end
def uptoSmall : (H : Type) → List (DataW H) → Bool := fun _ ds => decide (uptoBulkAll ds ≤ 1048576)
def OpenSpec.upto (s : _root_.Go.ChangeSpec) : _root_.Go.OpenSpec := { _root_.Go.OpenSpec.ofChange s with cond := some uptoSmall }

/-- 'clearancelaw28.StackDrops', WHERE WHAT IT READS IS OF BULK AT MOST 1048576: true; the input reads as it did. -/
def stackDropsUptoRow : OpenClaim := { program := "ytnpggmhoandloaagreatdoor", sum := "aa0db4353a352ad2d997e934e025403096a9d3d7077ba397cb3666eec61bb096", func := "clearance/clearancelaw28.StackDrops", spec := "stackDrops", unfollowed := true, recurses := true, named := ["clearance/command.forms", "math/bits.deBruijn64tab"], apart := false, laid := [("clearance/command.forms", laid_clearance_command_forms), ("math/bits.deBruijn64tab", laid_math_bits_deBruijn64tab)], narrowed := true }
def StackDropsUptoSaid : Prop := stackDropsUptoRow.holds Tryz.pinned (OpenSpec.upto stackDropsSpec)

/-- 'clearancelaw28.StackPlays', WHERE WHAT IT READS IS OF BULK AT MOST 1048576: true; the input reads as it did. -/
def stackPlaysUptoRow : OpenClaim := { program := "ytnpggmhoandloaagreatdoor", sum := "aa0db4353a352ad2d997e934e025403096a9d3d7077ba397cb3666eec61bb096", func := "clearance/clearancelaw28.StackPlays", spec := "stackPlays", unfollowed := true, recurses := true, named := ["clearance/command.forms", "math/bits.deBruijn64tab"], apart := false, laid := [("clearance/command.forms", laid_clearance_command_forms), ("math/bits.deBruijn64tab", laid_math_bits_deBruijn64tab)], narrowed := true }
def StackPlaysUptoSaid : Prop := stackPlaysUptoRow.holds Tryz.pinned (OpenSpec.upto stackPlaysSpec)

/-- 'clearancelaw28.StackText', WHERE WHAT IT READS IS OF BULK AT MOST 1048576: true; the input reads as it did. -/
def stackTextUptoRow : OpenClaim := { program := "ytnpggmhoandloaagreatdoor", sum := "aa0db4353a352ad2d997e934e025403096a9d3d7077ba397cb3666eec61bb096", func := "clearance/clearancelaw28.StackText", spec := "stackText", unfollowed := true, recurses := true, named := ["clearance/command.forms", "math/bits.deBruijn64tab"], apart := false, laid := [("clearance/command.forms", laid_clearance_command_forms), ("math/bits.deBruijn64tab", laid_math_bits_deBruijn64tab)], narrowed := true }
def StackTextUptoSaid : Prop := stackTextUptoRow.holds Tryz.pinned (OpenSpec.upto stackTextSpec)

/-- 'clearancelaw28.StackFrames', WHERE WHAT IT READS IS OF BULK AT MOST 1048576: true; the input reads as it did. -/
def stackFramesUptoRow : OpenClaim := { program := "ytnpggmhoandloaagreatdoor", sum := "aa0db4353a352ad2d997e934e025403096a9d3d7077ba397cb3666eec61bb096", func := "clearance/clearancelaw28.StackFrames", spec := "stackFrames", unfollowed := true, recurses := true, named := ["clearance/command.forms", "math/bits.deBruijn64tab"], apart := false, laid := [("clearance/command.forms", laid_clearance_command_forms), ("math/bits.deBruijn64tab", laid_math_bits_deBruijn64tab)], narrowed := true }
def StackFramesUptoSaid : Prop := stackFramesUptoRow.holds Tryz.pinned (OpenSpec.upto stackFramesSpec)

/-- 'clearancelaw28.StackNobody', WHERE WHAT IT READS IS OF BULK AT MOST 1048576: true; the input reads as it did. -/
def stackNobodyUptoRow : OpenClaim := { program := "ytnpggmhoandloaagreatdoor", sum := "aa0db4353a352ad2d997e934e025403096a9d3d7077ba397cb3666eec61bb096", func := "clearance/clearancelaw28.StackNobody", spec := "stackNobody", unfollowed := true, recurses := true, named := ["clearance/command.forms", "math/bits.deBruijn64tab"], apart := false, laid := [("clearance/command.forms", laid_clearance_command_forms), ("math/bits.deBruijn64tab", laid_math_bits_deBruijn64tab)], narrowed := true }
def StackNobodyUptoSaid : Prop := stackNobodyUptoRow.holds Tryz.pinned (OpenSpec.upto stackNobodySpec)

end Rows
end Go.Proofs.YtnpggmhoandloaaGreatDoor
