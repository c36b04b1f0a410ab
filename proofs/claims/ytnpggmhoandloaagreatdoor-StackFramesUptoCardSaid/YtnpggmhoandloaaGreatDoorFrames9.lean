/-
  For all lines ahead of a push and behind it: what is done behind the push, with as many pops as pushes in it, is gone behind the pop (StackFrames), where what comes in is of bulk at most 1048576.
-/
import Derived.Test.YtnpggmhoandloaaGreatDoorFrames8
set_option linter.unusedVariables false
set_option linter.unusedSimpArgs false
set_option linter.defProp false
set_option linter.unusedSectionVars false
set_option maxRecDepth 4000
set_option maxHeartbeats 4000000
open Option renaming some->aa,none->ag
open Bool renaming true->ab,false->ak
open List renaming replicate->ar,range->bX,getD->ij,zipWith->l8
open Eq renaming mpr->eU
open Ne renaming symm->fF
namespace Go.Proofs.Tryz
open Go.Am Go.ChangeShapes Go.WideShapes Go.ChangeAt Go.RowKit
open Go.Proofs.YtnpggmhoandloaaGreatDoor
def atC:Rows.StackFramesUptoSaid :=
 OpenClaim.holds_of_cond 6 f6 rfl rfl rfl rfl rfl rfl rfl ⟨rfl,rfl,rfl,rfl,rfl⟩ rfl rfl rfl rfl rfl (by kernel_rfl) func6 (by kernel_rfl)
  (NX (by kernel_rfl)) (by unfold Func.isWrapper;first | (rw[aE (by decide +kernel)];kernel_rfl) | (rw[aA (by decide +kernel)];exact⟨rfl,rfl⟩))
  (λos started H enc _ F=>by rw[OpenClaim.pre_eq_preRow];exact atA os started H enc F)
def atB(f:FuncId)(fn:Func)(hf:YtnpggmhoandloaaGreatDoor.Tryz.pinned.checked.prog.funcNamed "clearance/clearancelaw28.StackFrames" = aa f)(vW:YtnpggmhoandloaaGreatDoor.Tryz.pinned.checked.prog.funcs[f]?=aa fn) :
 ak=YtnpggmhoandloaaGreatDoor.Tryz.pinned.checked.prog.looks []/\∀(j:Nat) t,fn.params[j]?=aa t->YtnpggmhoandloaaGreatDoor.Tryz.pinned.checked.prog.wantsStandIn t=false:=by
 obtain rfl:f=6:=vl ((show prog.funcNamed "clearance/clearancelaw28.StackFrames" = aa 6 by kernel_rfl).symm.trans hf) |>.symm;obtain rfl:fn=f6:=(vl (func6.symm.trans vW)).symm;refine⟨by kernel_rfl,λj t ht=>?_⟩;rw[params6] at ht;have h:t=22:=by simpa using PU ht
 obtain rfl:=h;exact(show prog.wantsStandIn 22=ak by kernel_rfl)
def atx:Rows.StackFramesUptoCardSaid :=
 Claim7.holds_tied_plain_at .later [] _ _ _ _ atC (λ_ h=>by cases h) (by kernel_rfl) (λ_ h=>by cases h) stackFramesUpto_row_tie rfl ⟨rfl,rfl⟩ (by kernel_rfl) rfl atB (by kernel_rfl)
end Go.Proofs.Tryz
namespace Go.Proofs.YtnpggmhoandloaaGreatDoor
/-- For all lines ahead of a push and behind it: what is done behind the push, with as many pops as pushes in it, is gone behind the pop (StackFrames), where what comes in is of bulk at most 1048576. -/
theorem stackFrames_card_holds : Rows.StackFramesUptoCardSaid := Go.Proofs.Tryz.atx
end Go.Proofs.YtnpggmhoandloaaGreatDoor
