/-
  For every line: the methods of a stack that is nil do nothing, and a Stack without contents is as a new one (StackNobody), where what comes in is of bulk at most 1048576.
-/
import Derived.Test.YtnpggmhoandloaaGreatDoorNobody8
set_option linter.unusedVariables false
set_option linter.unusedSimpArgs false
set_option linter.defProp false
set_option linter.unusedSectionVars false
set_option maxRecDepth 4000
set_option maxHeartbeats 4000000
open Option renaming some->U,none->af
open Bool renaming true->aa,false->ak
open List renaming replicate->au,range->bU,getD->gU,zipWith->lq
open Eq renaming mpr->eQ
open Ne renaming symm->fi
namespace Go.Proofs.Tryz
open Go.Am Go.ChangeShapes Go.WideShapes Go.ChangeAt Go.RowKit
open Go.Proofs.YtnpggmhoandloaaGreatDoor
set_option maxRecDepth 100000 in
def aqZ(H:Type)(enc:TypeId × Value->H)(W:World)(base:Nat)(args:Array Value)(ds gs:List (DataW H))(before:List MemPlace)
 (GQ:∀(j:Nat) t v,f7.params[j]?=U t->args[j]?=U v->Value.okWide prog W .any base t v)
 (hW:DataW.Whole enc prog f7.params.toList Rows.stackNobodySpec.vars ak W args.toList ds gs before) (hk:Rows.uptoSmall H (ds++gs)=aa) (hL:laidMetH prog Rows.stackNobodyRow.laid W) :
 Calls prog 7 args W λe W' => ∃v,e = .returned v/\Rows.stackNobodySpec.post enc prog f7 ak aa ak ak W args v W' := by
 have Db := hW;obtain⟨p,q,hA0,hV,rfl,KN,Du⟩:=hW;have hA:DataW.TrodAll enc prog W 0 (λ_=>aa) aa f7.params.toList args.toList ds p:=hA0;rw[params7] at hA GQ;obtain⟨v0,vs0,d0,QG,p0,q0,Kr,rfl,rfl,⟨n0,h0⟩,r0⟩:=trodAll_cons hA;obtain⟨rfl,rfl,rfl⟩:=trodAll_nil r0;obtain rfl:args=#[v0]:=by cases args;simp_all
 obtain⟨rfl,rfl⟩:=trodVars_none hV;have hG:=ahO hL;obtain⟨_,a0,_,y0,rfl,b0⟩:=apd n0 (Nat.lt_succ_self _) _ _ h0;have hb:Rows.uptoBulkAll [d0]<=1048576:=by
  have h:=MC hk;rw[eD] at h;exact h
 simp only[Rows.uptoBulkAll] at hb;simp only[eD] at Db;have s0:=arN underlying9 (GQ 0 9 v0 rfl rfl) a0;refine akd (amd y0 rfl rfl) hG ?_ laid apK ahs rfl underlying4 (by rw[params7];decide +kernel) rfl ⟨rfl,rfl,rfl⟩ Db;simp only[RL,ij];exact s0
set_option maxRecDepth 100000 in
def aq0(os:Os):laidMet prog Rows.stackNobodyRow.laid ((LZ os).forCall (λ_ _=>0) ⟨#[],#[.string ⟨#[]⟩],[]⟩).memory :=
 laidMet_of_run' 8 (by kernel_rfl) (by kernel_rfl)
def aq4(os:Os){H:Type}(enc:TypeId × Value->H):∃places,DataW.whole enc prog ((LZ os).forCall (λ_ _=>0) ⟨#[],#[.string ⟨#[]⟩],[]⟩).memory f7.params.toList Rows.stackNobodySpec.vars ak (#[.string ⟨#[]⟩]:Array Value).toList 8=U ([.lit (.string [])],[],places) :=
 ⟨[],by kernel_rfl⟩
set_option maxRecDepth 100000 in
def aq1(os:Os)(started:os.Started)(H:Type)(enc:TypeId × Value->H)(F:Stop.Interp) :
 ReturnsInHanded {} checked os 7 .any ((Rows.OpenSpec.upto Rows.stackNobodySpec).preRow enc prog f7 Rows.stackNobodyUptoRow.domain ak Rows.stackNobodyUptoRow.laid) (((Rows.OpenSpec.upto Rows.stackNobodySpec).at F).post enc prog f7 ak aa ak ak):=by
 obtain⟨places,hx⟩:=aq4 os enc;refine returnsInHanded_of_row (C:=checked) (s:=Rows.OpenSpec.upto Rows.stackNobodySpec) own started (by kernel_rfl) func7
  (witness_row_at (enc:=enc) (C:=checked) ak (LZ os) #[.string ⟨#[]⟩] rfl (by kernel_rfl) (by kernel_rfl) (by kernel_rfl)
    (OpenSpec.preRow_of_cond 8 hx (by kernel_rfl) (λk hk=>by cases hk;kernel_rfl) (by kernel_rfl) (aq0 os))) ?_
 intro W base args ds gs before GQ hW _ aio _ hL _ _;exact aqZ H enc W base args ds gs before GQ hW (aio _ rfl) hL
def aq3:Rows.StackNobodyUptoSaid :=
 OpenClaim.holds_of_cond 7 f7 rfl rfl rfl rfl rfl rfl rfl ⟨rfl,rfl,rfl,rfl,rfl⟩ rfl rfl rfl rfl rfl (by kernel_rfl) func7 (by kernel_rfl)
  (MC (by kernel_rfl)) (by unfold Func.isWrapper;first | (rw[aE (by decide +kernel)];kernel_rfl) | (rw[aC (by decide +kernel)];exact⟨rfl,rfl⟩))
  (λos started H enc _ F=>by rw[OpenClaim.pre_eq_preRow];exact aq1 os started H enc F)
def aq2(f:FuncId)(fn:Func)(hf:YtnpggmhoandloaaGreatDoor.Tryz.pinned.checked.prog.funcNamed "clearance/clearancelaw28.StackNobody" = U f)(sT:YtnpggmhoandloaaGreatDoor.Tryz.pinned.checked.prog.funcs[f]?=U fn) :
 ak=YtnpggmhoandloaaGreatDoor.Tryz.pinned.checked.prog.looks []/\∀(j:Nat) t,fn.params[j]?=U t->YtnpggmhoandloaaGreatDoor.Tryz.pinned.checked.prog.wantsStandIn t=false:=by
 obtain rfl:f=7:=tY ((show prog.funcNamed "clearance/clearancelaw28.StackNobody" = U 7 by kernel_rfl).symm.trans hf) |>.symm;obtain rfl:fn=f7:=(tY (func7.symm.trans sT)).symm;refine⟨by kernel_rfl,λj t ht=>?_⟩;rw[params7] at ht;have h:t=9:=by simpa using OD ht
 obtain rfl:=h;exact(show prog.wantsStandIn 9=ak by kernel_rfl)
def aqY:Rows.StackNobodyUptoCardSaid :=
 Claim7.holds_tied_plain_at .later [] _ _ _ _ aq3 (λ_ h=>by cases h) (by kernel_rfl) (λ_ h=>by cases h) stackNobodyUpto_row_tie rfl ⟨rfl,rfl⟩ (by kernel_rfl) rfl aq2 (by kernel_rfl)
end Go.Proofs.Tryz
namespace Go.Proofs.YtnpggmhoandloaaGreatDoor
/-- For every line: the methods of a stack that is nil do nothing, and a Stack without contents is as a new one (StackNobody), where what comes in is of bulk at most 1048576. -/
theorem stackNobody_card_holds : Rows.StackNobodyUptoCardSaid := Go.Proofs.Tryz.aqY
end Go.Proofs.YtnpggmhoandloaaGreatDoor
