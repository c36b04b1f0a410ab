/-
  For all lines: the text of the stack, line by line, is done by a new one without a fault, and makes it the same but for frames; what is live is right, and not more than may be (StackText), where what comes in is of bulk at most 1048576.
-/
import Derived.Test.YtnpggmhoandloaaGreatDoorText8
set_option linter.unusedVariables false
set_option linter.unusedSimpArgs false
set_option linter.defProp false
set_option linter.unusedSectionVars false
set_option maxRecDepth 4000
set_option maxHeartbeats 4000000
open Option renaming some->aa,none->aj
open Bool renaming true->ab,false->ar
open List renaming replicate->aq,range->bA,getD->fW,zipWith->mu
open Eq renaming mpr->ey
open Ne renaming symm->fJ
namespace Go.Proofs.Tryz
open Go.Am Go.ChangeShapes Go.WideShapes Go.ChangeAt Go.RowKit
open Go.Proofs.YtnpggmhoandloaaGreatDoor
def avk:Rows.StackTextUptoSaid :=
 OpenClaim.holds_of_cond 5 f5 rfl rfl rfl rfl rfl rfl rfl ⟨rfl,rfl,rfl,rfl,rfl⟩ rfl rfl rfl rfl rfl (by kernel_rfl) func5 (by kernel_rfl)
  (Dv (by kernel_rfl)) (by unfold Func.isWrapper;first | (rw[aF (by decide +kernel)];kernel_rfl) | (rw[aB (by decide +kernel)];exact⟨rfl,rfl⟩))
  (λos started H enc _ F=>by rw[OpenClaim.pre_eq_preRow];exact avi os started H enc F)
def avj(f:FuncId)(fn:Func)(hf:YtnpggmhoandloaaGreatDoor.Tryz.pinned.checked.prog.funcNamed "clearance/clearancelaw28.StackText" = aa f)(wj:YtnpggmhoandloaaGreatDoor.Tryz.pinned.checked.prog.funcs[f]?=aa fn) :
 ar=YtnpggmhoandloaaGreatDoor.Tryz.pinned.checked.prog.looks []/\∀(j:Nat) t,fn.params[j]?=aa t->YtnpggmhoandloaaGreatDoor.Tryz.pinned.checked.prog.wantsStandIn t=false:=by
 obtain rfl:f=5:=vG ((show prog.funcNamed "clearance/clearancelaw28.StackText" = aa 5 by kernel_rfl).symm.trans hf) |>.symm;obtain rfl:fn=f5:=(vG (func5.symm.trans wj)).symm;refine⟨by kernel_rfl,λj t ht=>?_⟩;rw[params5] at ht;have h:t=22:=by simpa using QA ht
 obtain rfl:=h;exact(show prog.wantsStandIn 22=ar by kernel_rfl)
def avf:Rows.StackTextUptoCardSaid :=
 Claim7.holds_tied_plain_at .later [] _ _ _ _ avk (λ_ h=>by cases h) (by kernel_rfl) (λ_ h=>by cases h) stackTextUpto_row_tie rfl ⟨rfl,rfl⟩ (by kernel_rfl) rfl avj (by kernel_rfl)
end Go.Proofs.Tryz
namespace Go.Proofs.YtnpggmhoandloaaGreatDoor
/-- For all lines: the text of the stack, line by line, is done by a new one without a fault, and makes it the same but for frames; what is live is right, and not more than may be (StackText), where what comes in is of bulk at most 1048576. -/
theorem stackText_card_holds : Rows.StackTextUptoCardSaid := Go.Proofs.Tryz.avf
end Go.Proofs.YtnpggmhoandloaaGreatDoor
