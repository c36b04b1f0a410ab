/-
  For every scope, room and line: what the line is, or what is wrong with it, is the same by both readers (JudgeLine), where what comes in is of bulk at most 1048576.
-/
import Derived.Test.YtkeidlpchmepkaaGreatDoorLine8
set_option linter.unusedVariables false
set_option linter.unusedSimpArgs false
set_option linter.defProp false
set_option linter.unusedSectionVars false
set_option maxRecDepth 4000
set_option maxHeartbeats 4000000
open Option renaming some->U,none->ah
open Bool renaming true->aa,false->aq
open List renaming replicate->aj,range->bG,getD->gy,zipWith->lQ
open Eq renaming mpr->cI
open Ne renaming symm->fL
namespace Go.Proofs.Tryz
open Go.Am Go.ChangeShapes Go.WideShapes Go.ChangeAt Go.RowKit
open Go.Proofs.YtkeidlpchmepkaaGreatDoor
set_option maxRecDepth 100000 in
def ak9(H:Type)(enc:TypeId × Value->H)(W:World)(base:Nat)(args:Array Value)(ds gs:List (DataW H))(before:List MemPlace)
 (Db:∀(j:Nat) t v,f3.params[j]?=U t->args[j]?=U v->Value.okWide prog W .any base t v)
 (hW:DataW.Whole enc prog f3.params.toList Rows.judgeLineSpec.vars aq W args.toList ds gs before) (hk:Rows.uptoSmall H (ds++gs)=aa) (hL:laidMetH prog Rows.judgeLineRow.laid W) :
 Calls prog 3 args W λe W' => ∃v,e = .returned v/\Rows.judgeLineSpec.post enc prog f3 aq aa aq aq W args v W' := by
 have EL := hW;obtain⟨p,q,hA0,hV,rfl,LV,xN⟩:=hW;have hA:DataW.TrodAll enc prog W 0 (λ_=>aa) aa f3.params.toList args.toList ds p:=hA0;rw[params3] at hA Db;obtain⟨v0,vs0,d0,RK,p0,q0,Lv,rfl,rfl,⟨n0,h0⟩,r0⟩:=trodAll_cons hA;obtain⟨v1,vs1,d1,ds1,p1,q1,rfl,rfl,rfl,⟨n1,h1⟩,r1⟩:=trodAll_cons r0;obtain⟨v2,Jo,d2,ds2,p2,q2,rfl,rfl,rfl,⟨n2,h2⟩,r2⟩:=trodAll_cons r1;obtain⟨rfl,rfl,rfl⟩:=trodAll_nil r2;obtain rfl:args=#[v0,v1,v2]:=by cases args;simp_all
 obtain⟨rfl,rfl⟩:=trodVars_none hV;have hG:=ajl hL;obtain⟨_,a0,_,y0,rfl,b0⟩:=aqu n0 (JX _) _ _ h0;obtain⟨_,a1,_,y1,rfl,b1⟩:=aqs n1 (JX _) _ _ h1;obtain⟨_,a2,_,y2,rfl,b2⟩:=IN n2 (JX _) _ _ h2;have hb:Rows.uptoBulkAll [d0,d1,d2]<=1048576:=by
  have h:=Vy hk;rw[eM] at h;exact h
 simp only[Rows.uptoBulkAll] at hb;simp only[eM] at EL;have s0:=X5 underlying25 (Db 0 25 v0 rfl rfl) a0;have s1:=X5 underlying27 (Db 1 27 v1 rfl rfl) a1;have s2:=atk underlying9 (Db 2 9 v2 rfl rfl) a2;refine alz (al4 y0 y1 y2 rfl rfl) hG ?_ laid arj aiY rfl underlying4 (by rw[params3];decide +kernel) rfl ⟨rfl,rfl,rfl⟩ EL;simp only[RL,gM];exact⟨s0,s1,s2⟩
set_option maxRecDepth 100000 in
def ak_(os:Os):laidMet prog Rows.judgeLineRow.laid ((Nq os).forCall (λ_ _=>0) ⟨#[],#[.agg #[.slice ah 0 0,.slice ah 0 0],.agg #[.int .i64 0,.int .i64 0,.int .i64 0],.string ⟨#[]⟩],[]⟩).memory :=
 laidMet_of_run' 8 (by kernel_rfl) (by kernel_rfl)
def alc(os:Os){H:Type}(enc:TypeId × Value->H):∃places,DataW.whole enc prog ((Nq os).forCall (λ_ _=>0) ⟨#[],#[.agg #[.slice ah 0 0,.slice ah 0 0],.agg #[.int .i64 0,.int .i64 0,.int .i64 0],.string ⟨#[]⟩],[]⟩).memory f3.params.toList Rows.judgeLineSpec.vars aq (#[.agg #[.slice ah 0 0,.slice ah 0 0],.agg #[.int .i64 0,.int .i64 0,.int .i64 0],.string ⟨#[]⟩]:Array Value).toList 8=U ([.agg [.nil,.nil],.agg [.lit (.int .i64 0),.lit (.int .i64 0),.lit (.int .i64 0)],.lit (.string [])],[],places) :=
 ⟨[],by kernel_rfl⟩
set_option maxRecDepth 100000 in
def ak'(os:Os)(started:os.Started)(H:Type)(enc:TypeId × Value->H)(F:Stop.Interp) :
 ReturnsInHanded {} checked os 3 .any ((Rows.OpenSpec.upto Rows.judgeLineSpec).preRow enc prog f3 Rows.judgeLineUptoRow.domain aq Rows.judgeLineUptoRow.laid) (((Rows.OpenSpec.upto Rows.judgeLineSpec).at F).post enc prog f3 aq aa aq aq):=by
 obtain⟨places,hx⟩:=alc os enc;refine returnsInHanded_of_row (C:=checked) (s:=Rows.OpenSpec.upto Rows.judgeLineSpec) own started (by kernel_rfl) func3
  (witness_row_at (enc:=enc) (C:=checked) aq (Nq os) #[.agg #[.slice ah 0 0,.slice ah 0 0],.agg #[.int .i64 0,.int .i64 0,.int .i64 0],.string ⟨#[]⟩] rfl (by kernel_rfl) (by kernel_rfl) (by kernel_rfl)
    (OpenSpec.preRow_of_cond 8 hx (by kernel_rfl) (λk hk=>by cases hk;kernel_rfl) (by kernel_rfl) (ak_ os))) ?_
 intro W base args ds gs before Db hW _ ajQ _ hL _ _;exact ak9 H enc W base args ds gs before Db hW (ajQ _ rfl) hL
def alb:Rows.JudgeLineUptoSaid :=
 OpenClaim.holds_of_cond 3 f3 rfl rfl rfl rfl rfl rfl rfl ⟨rfl,rfl,rfl,rfl,rfl⟩ rfl rfl rfl rfl rfl (by kernel_rfl) func3 (by kernel_rfl)
  (Vy (by kernel_rfl)) (by unfold Func.isWrapper;first | (rw[aI (by decide +kernel)];kernel_rfl) | (rw[aw (by decide +kernel)];exact⟨rfl,rfl⟩))
  (λos started H enc _ F=>by rw[OpenClaim.pre_eq_preRow];exact ak' os started H enc F)
def ala(f:FuncId)(fn:Func)(hf:YtkeidlpchmepkaaGreatDoor.Tryz.pinned.checked.prog.funcNamed "clearance/clearancelaw16.JudgeLine" = U f)(xG:YtkeidlpchmepkaaGreatDoor.Tryz.pinned.checked.prog.funcs[f]?=U fn) :
 aq=YtkeidlpchmepkaaGreatDoor.Tryz.pinned.checked.prog.looks []/\∀(j:Nat) t,fn.params[j]?=U t->YtkeidlpchmepkaaGreatDoor.Tryz.pinned.checked.prog.wantsStandIn t=false:=by
 obtain rfl:f=3:=vM ((show prog.funcNamed "clearance/clearancelaw16.JudgeLine" = U 3 by kernel_rfl).symm.trans hf) |>.symm;obtain rfl:fn=f3:=(vM (func3.symm.trans xG)).symm;refine⟨by kernel_rfl,λj t ht=>?_⟩;rw[params3] at ht;have h:t=25\/t=27\/t=9:=by simpa using PR ht
 rcases h with rfl | rfl | rfl
 .exact(show prog.wantsStandIn 25=aq by kernel_rfl)
 .exact(show prog.wantsStandIn 27=aq by kernel_rfl)
 .exact(show prog.wantsStandIn 9=aq by kernel_rfl)
def ak8:Rows.JudgeLineUptoCardSaid :=
 Claim7.holds_tied_plain_at .later [] _ _ _ _ alb (λ_ h=>by cases h) (by kernel_rfl) (λ_ h=>by cases h) judgeLineUpto_row_tie rfl ⟨rfl,rfl⟩ (by kernel_rfl) rfl ala (by kernel_rfl)
end Go.Proofs.Tryz
namespace Go.Proofs.YtkeidlpchmepkaaGreatDoor
/-- For every scope, room and line: what the line is, or what is wrong with it, is the same by both readers (JudgeLine), where what comes in is of bulk at most 1048576. -/
theorem judgeLine_card_holds : Rows.JudgeLineUptoCardSaid := Go.Proofs.Tryz.ak8
end Go.Proofs.YtkeidlpchmepkaaGreatDoor
