/-
  For all lines and one line among them: a line with a fault leaves nothing behind, and without it all other lines do the same (StackDrops), where what comes in is of bulk at most 1048576.
-/
import Derived.Test.YtnpggmhoandloaaGreatDoorDrops8
set_option linter.unusedVariables false
set_option linter.unusedSimpArgs false
set_option linter.defProp false
set_option linter.unusedSectionVars false
set_option maxRecDepth 4000
set_option maxHeartbeats 4000000
open Option renaming some->U,none->ae
open Bool renaming true->aa,false->ak
open List renaming replicate->aA,range->cc,getD->gU,zipWith->lg
open Eq renaming mpr->eN
open Ne renaming symm->fm
namespace Go.Proofs.Tryz
open Go.Am Go.ChangeShapes Go.WideShapes Go.ChangeAt Go.RowKit
open Go.Proofs.YtnpggmhoandloaaGreatDoor
set_option maxRecDepth 100000 in
def aqw(H:Type)(enc:TypeId × Value->H)(W:World)(base:Nat)(args:Array Value)(ds gs:List (DataW H))(before:List MemPlace)
 (BH:∀(j:Nat) t v,f3.params[j]?=U t->args[j]?=U v->Value.okWide prog W .any base t v)
 (hW:DataW.Whole enc prog f3.params.toList Rows.stackDropsSpec.vars ak W args.toList ds gs before) (hk:Rows.uptoSmall H (ds++gs)=aa) (hL:laidMetH prog Rows.stackDropsRow.laid W) :
 Calls prog 3 args W λe W' => ∃v,e = .returned v/\Rows.stackDropsSpec.post enc prog f3 ak aa ak ak W args v W' := by
 have Dc := hW;obtain⟨p,q,hA0,hV,rfl,KJ,Dv⟩:=hW;have hA:DataW.TrodAll enc prog W 0 (λ_=>aa) aa f3.params.toList args.toList ds p:=hA0;rw[params3] at hA BH;obtain⟨v0,vs0,d0,Qy,p0,q0,Kn,rfl,rfl,⟨n0,h0⟩,r0⟩:=trodAll_cons hA;obtain⟨v1,vs1,d1,ds1,p1,q1,rfl,rfl,rfl,⟨n1,h1⟩,r1⟩:=trodAll_cons r0;obtain⟨v2,Il,d2,ds2,p2,q2,rfl,rfl,rfl,⟨n2,h2⟩,r2⟩:=trodAll_cons r1;obtain⟨rfl,rfl,rfl⟩:=trodAll_nil r2;obtain rfl:args=#[v0,v1,v2]:=by cases args;simp_all
 obtain⟨rfl,rfl⟩:=trodVars_none hV;have hG:=ahw hL;obtain⟨_,a0,_,y0,rfl,b0⟩:=aoK n0 (IT _) _ _ h0;obtain⟨_,a1,_,y1,rfl,b1⟩:=Vk n1 (IT _) _ _ h1;obtain⟨_,a2,_,y2,rfl,m2,b2⟩:=aoQ n2 (IT _) _ _ h2;have hb:Rows.uptoBulkAll [d0,d1,d2]<=1048576:=by
  have h:=My hk;rw[eg] at h;exact h
 simp only[Rows.uptoBulkAll] at hb;simp only[eg] at Dc;have s0:=arp underlying22 (BH 0 22 v0 rfl rfl) a0;have s1:=arq underlying9 (BH 1 9 v1 rfl rfl) a1;have s2:=aro underlying5 (BH 2 5 v2 rfl rfl) a2;refine ajW (ab5 y0 y1 y2 m2 rfl rfl) hG ?_ laid apl aha rfl underlying4 (by rw[params3];decide +kernel) rfl ⟨rfl,rfl,rfl⟩ Dc;simp only[RL,gw];exact⟨s0,s1,s2⟩
set_option maxRecDepth 100000 in
def aqx(os:Os):laidMet prog Rows.stackDropsRow.laid ((LU os).forCall (λ_ _=>0) ⟨#[],#[.slice ae 0 0,.string ⟨#[]⟩,.int .u8 0],[]⟩).memory :=
 laidMet_of_run' 8 (by kernel_rfl) (by kernel_rfl)
def aqB(os:Os){H:Type}(enc:TypeId × Value->H):∃places,DataW.whole enc prog ((LU os).forCall (λ_ _=>0) ⟨#[],#[.slice ae 0 0,.string ⟨#[]⟩,.int .u8 0],[]⟩).memory f3.params.toList Rows.stackDropsSpec.vars ak (#[.slice ae 0 0,.string ⟨#[]⟩,.int .u8 0]:Array Value).toList 8=U ([.nil,.lit (.string []),.lit (.int .u8 0)],[],places) :=
 ⟨[],by kernel_rfl⟩
set_option maxRecDepth 100000 in
def aqy(os:Os)(started:os.Started)(H:Type)(enc:TypeId × Value->H)(F:Stop.Interp) :
 ReturnsInHanded {} checked os 3 .any ((Rows.OpenSpec.upto Rows.stackDropsSpec).preRow enc prog f3 Rows.stackDropsUptoRow.domain ak Rows.stackDropsUptoRow.laid) (((Rows.OpenSpec.upto Rows.stackDropsSpec).at F).post enc prog f3 ak aa ak ak):=by
 obtain⟨places,hx⟩:=aqB os enc;refine returnsInHanded_of_row (C:=checked) (s:=Rows.OpenSpec.upto Rows.stackDropsSpec) own started (by kernel_rfl) func3
  (witness_row_at (enc:=enc) (C:=checked) ak (LU os) #[.slice ae 0 0,.string ⟨#[]⟩,.int .u8 0] rfl (by kernel_rfl) (by kernel_rfl) (by kernel_rfl)
    (OpenSpec.preRow_of_cond 8 hx (by kernel_rfl) (λk hk=>by cases hk;kernel_rfl) (by kernel_rfl) (aqx os))) ?_
 intro W base args ds gs before BH hW _ ah7 _ hL _ _;exact aqw H enc W base args ds gs before BH hW (ah7 _ rfl) hL
def aqA:Rows.StackDropsUptoSaid :=
 OpenClaim.holds_of_cond 3 f3 rfl rfl rfl rfl rfl rfl rfl ⟨rfl,rfl,rfl,rfl,rfl⟩ rfl rfl rfl rfl rfl (by kernel_rfl) func3 (by kernel_rfl)
  (My (by kernel_rfl)) (by unfold Func.isWrapper;first | (rw[aD (by decide +kernel)];kernel_rfl) | (rw[aB (by decide +kernel)];exact⟨rfl,rfl⟩))
  (λos started H enc _ F=>by rw[OpenClaim.pre_eq_preRow];exact aqy os started H enc F)
def aqz(f:FuncId)(fn:Func)(hf:YtnpggmhoandloaaGreatDoor.Tryz.pinned.checked.prog.funcNamed "clearance/clearancelaw28.StackDrops" = U f)(sP:YtnpggmhoandloaaGreatDoor.Tryz.pinned.checked.prog.funcs[f]?=U fn) :
 ak=YtnpggmhoandloaaGreatDoor.Tryz.pinned.checked.prog.looks []/\∀(j:Nat) t,fn.params[j]?=U t->YtnpggmhoandloaaGreatDoor.Tryz.pinned.checked.prog.wantsStandIn t=false:=by
 obtain rfl:f=3:=tY ((show prog.funcNamed "clearance/clearancelaw28.StackDrops" = U 3 by kernel_rfl).symm.trans hf) |>.symm;obtain rfl:fn=f3:=(tY (func3.symm.trans sP)).symm;refine⟨by kernel_rfl,λj t ht=>?_⟩;rw[params3] at ht;have h:t=22\/t=9\/t=5:=by simpa using OA ht
 rcases h with rfl | rfl | rfl
 .exact(show prog.wantsStandIn 22=ak by kernel_rfl)
 .exact(show prog.wantsStandIn 9=ak by kernel_rfl)
 .exact(show prog.wantsStandIn 5=ak by kernel_rfl)
def aqv:Rows.StackDropsUptoCardSaid :=
 Claim7.holds_tied_plain_at .later [] _ _ _ _ aqA (λ_ h=>by cases h) (by kernel_rfl) (λ_ h=>by cases h) stackDropsUpto_row_tie rfl ⟨rfl,rfl⟩ (by kernel_rfl) rfl aqz (by kernel_rfl)
end Go.Proofs.Tryz
namespace Go.Proofs.YtnpggmhoandloaaGreatDoor
/-- For all lines and one line among them: a line with a fault leaves nothing behind, and without it all other lines do the same (StackDrops), where what comes in is of bulk at most 1048576. -/
theorem stackDrops_card_holds : Rows.StackDropsUptoCardSaid := Go.Proofs.Tryz.aqv
end Go.Proofs.YtnpggmhoandloaaGreatDoor
