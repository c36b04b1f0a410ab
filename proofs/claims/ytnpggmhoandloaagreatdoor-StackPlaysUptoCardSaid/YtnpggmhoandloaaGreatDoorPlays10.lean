/-
  For all lines: what each line does, or what is wrong with it, what is live then, and its text, are the same by both stacks (StackPlays), where what comes in is of bulk at most 1048576.
-/
import Derived.Test.YtnpggmhoandloaaGreatDoorPlays9
set_option linter.unusedVariables false
set_option linter.unusedSimpArgs false
set_option linter.defProp false
set_option linter.unusedSectionVars false
set_option maxRecDepth 4000
set_option maxHeartbeats 4000000
open Option renaming some->U,none->ah
open Bool renaming true->aa,false->aq
open List renaming replicate->aj,range->bH,zipWith->ng
open Eq renaming mpr->fF
open Ne renaming symm->gM
namespace Go.Proofs.Tryz
open Go.Am Go.ChangeShapes Go.WideShapes Go.ChangeAt Go.RowKit
open Go.Proofs.YtnpggmhoandloaaGreatDoor
def au3:joinedFacts YtnpggmhoandloaaGreatDoor.Tryz.pinned.checked.prog 4 f4 (Rows.OpenSpec.upto Rows.stackPlaysSpec).bare Rows.stackPlaysUptoRow=true:=by kernel_rfl
def au8:Rows.StackPlaysUptoSaid :=
 OpenClaim.holds_of_cond 4 f4 rfl rfl rfl rfl rfl rfl rfl ⟨rfl,rfl,rfl,rfl,rfl⟩ rfl rfl rfl rfl rfl (by kernel_rfl) func4 au3
  (QN (by kernel_rfl)) (by unfold Func.isWrapper;first | (rw[aL (by decide +kernel)];kernel_rfl) | (rw[aB (by decide +kernel)];exact⟨rfl,rfl⟩))
  (λos started H enc _ F=>by rw[OpenClaim.pre_eq_preRow];exact au6 os started H enc F)
def au7(f:FuncId)(fn:Func)(hf:YtnpggmhoandloaaGreatDoor.Tryz.pinned.checked.prog.funcNamed "clearance/clearancelaw28.StackPlays" = U f)(x6:YtnpggmhoandloaaGreatDoor.Tryz.pinned.checked.prog.funcs[f]?=U fn) :
 aq=YtnpggmhoandloaaGreatDoor.Tryz.pinned.checked.prog.looks []/\∀(j:Nat) t,fn.params[j]?=U t->YtnpggmhoandloaaGreatDoor.Tryz.pinned.checked.prog.wantsStandIn t=false:=by
 obtain rfl:f=4:=yY ((show prog.funcNamed "clearance/clearancelaw28.StackPlays" = U 4 by kernel_rfl).symm.trans hf) |>.symm;obtain rfl:fn=f4:=(yY (func4.symm.trans x6)).symm;refine⟨by kernel_rfl,λj t ht=>?_⟩;rw[params4] at ht;have h:t=22:=by simpa using ac' ht
 obtain rfl:=h;exact(show prog.wantsStandIn 22=aq by kernel_rfl)
def au2:Rows.StackPlaysUptoCardSaid :=
 Claim7.holds_tied_plain_at .later [] _ _ _ _ au8 (λ_ h=>by cases h) (by kernel_rfl) (λ_ h=>by cases h) stackPlaysUpto_row_tie rfl ⟨rfl,rfl⟩ (by kernel_rfl) rfl au7 (by kernel_rfl)
end Go.Proofs.Tryz
namespace Go.Proofs.YtnpggmhoandloaaGreatDoor
/-- For all lines: what each line does, or what is wrong with it, what is live then, and its text, are the same by both stacks (StackPlays), where what comes in is of bulk at most 1048576. -/
theorem stackPlays_card_holds : Rows.StackPlaysUptoCardSaid := Go.Proofs.Tryz.au2
end Go.Proofs.YtnpggmhoandloaaGreatDoor
