/-
  For every scope, room and line: blanks ahead of the line move each place by as many, and change nothing else (JudgeShifts), where what comes in is of bulk at most 1048576.
-/
import Derived.Test.YtkeidlpchmepkaaGreatDoorShifts7
set_option linter.unusedVariables false
set_option linter.unusedSimpArgs false
set_option linter.defProp false
set_option linter.unusedSectionVars false
namespace Go.Proofs.Tryz
open Go.Am Go.ChangeShapes Go.WideShapes Go.ChangeAt Go.RowKit
open Go.Proofs.YtkeidlpchmepkaaGreatDoor
set_option maxRecDepth 100000 in
theorem agW (H:Type) (enc:TypeId × Value→H) (W:World) (base:Nat) (args:Array Value) (ds gs:List (DataW H)) (before:List MemPlace)
    (yn:∀(j:Nat) t v,f5.params[j]?=some t→args[j]?=some v→Value.okWide prog W .any base t v)
    (hW:DataW.Whole enc prog f5.params.toList Rows.judgeShiftsSpec.vars false W args.toList ds gs before) (hk:Rows.uptoSmall H (ds++gs)=true) (hL:laidMetH prog Rows.judgeShiftsRow.laid W) :
    Calls prog 5 args W fun e W' => ∃v,e = .returned v∧Rows.judgeShiftsSpec.post enc prog f5 false true false false W args v W' := by
  have Ab := hW;obtain⟨p,q,hA0,hV,rfl,Hm,Au⟩:=hW;have hA:DataW.TrodAll enc prog W 0 (fun _=>true) true f5.params.toList args.toList ds p:=hA0;rw[params5] at hA yn;obtain⟨v0,vs0,d0,Pw,p0,q0,G2,rfl,rfl,⟨n0,h0⟩,r0⟩:=trodAll_cons hA;obtain⟨v1,vs1,d1,ds1,p1,q1,rfl,rfl,rfl,⟨n1,h1⟩,r1⟩:=trodAll_cons r0;obtain⟨v2,EL,d2,ds2,p2,q2,rfl,rfl,rfl,⟨n2,h2⟩,r2⟩:=trodAll_cons r1;obtain⟨rfl,rfl,rfl⟩:=trodAll_nil r2;obtain rfl:args=#[v0,v1,v2]:=by cases args;simp_all
  obtain⟨rfl,rfl⟩:=trodVars_none hV;have hG:=ae_ hL;obtain⟨_,a0,_,y0,rfl,b0⟩:=al1 n0 (Fv _) _ _ h0;obtain⟨_,a1,_,y1,rfl,b1⟩:=alZ n1 (Fv _) _ _ h1;obtain⟨_,a2,_,y2,rfl,m2,b2⟩:=alN n2 (Fv _) _ _ h2;have hb:Rows.uptoBulkAll [d0,d1,d2]≤1048576:=by
    have h:=IW hk;rw[dD] at h;exact h
  simp only[Rows.uptoBulkAll] at hb;simp only[dD] at Ab;have s0:=Kb underlying25 (yn 0 25 v0 rfl rfl) a0;have s1:=Kb underlying27 (yn 1 27 v1 rfl rfl) a1;have s2:=Kb underlying61 (yn 2 61 v2 rfl rfl) a2;refine ahp (anw y0 y1 y2.1 y2.2 m2 rfl rfl) hG ?_ laid amJ aeQ rfl underlying4 (by rw[params5];decide +kernel) rfl ⟨rfl,rfl,rfl⟩ Ab;simp only[RL,eC];exact⟨s0,s1,s2⟩
set_option maxRecDepth 100000 in
theorem agX (os:Os):laidMet prog Rows.judgeShiftsRow.laid ((Ig os).forCall (fun _ _=>0) ⟨#[],#[.agg #[.slice none 0 0,.slice none 0 0],.agg #[.int .i64 0,.int .i64 0,.int .i64 0],.agg #[.int .u8 0,.string ⟨#[]⟩]],[]⟩).memory :=
  laidMet_of_run' 8 (by kernel_rfl) (by kernel_rfl)
theorem ag1 (os:Os) {H:Type} (enc:TypeId × Value→H):∃places,DataW.whole enc prog ((Ig os).forCall (fun _ _=>0) ⟨#[],#[.agg #[.slice none 0 0,.slice none 0 0],.agg #[.int .i64 0,.int .i64 0,.int .i64 0],.agg #[.int .u8 0,.string ⟨#[]⟩]],[]⟩).memory f5.params.toList Rows.judgeShiftsSpec.vars false (#[.agg #[.slice none 0 0,.slice none 0 0],.agg #[.int .i64 0,.int .i64 0,.int .i64 0],.agg #[.int .u8 0,.string ⟨#[]⟩]]:Array Value).toList 8=some ([.agg [.nil,.nil],.agg [.lit (.int .i64 0),.lit (.int .i64 0),.lit (.int .i64 0)],.agg [.lit (.int .u8 0),.lit (.string [])]],[],places) :=
  ⟨[],by kernel_rfl⟩
set_option maxRecDepth 100000 in
theorem agY (os:Os) (started:os.Started) (H:Type) (enc:TypeId × Value→H) (F:Stop.Interp) :
    ReturnsInHanded {} checked os 5 .any ((Rows.OpenSpec.upto Rows.judgeShiftsSpec).preRow enc prog f5 Rows.judgeShiftsUptoRow.domain false Rows.judgeShiftsUptoRow.laid) (((Rows.OpenSpec.upto Rows.judgeShiftsSpec).at F).post enc prog f5 false true false false):=by
  obtain⟨places,hx⟩:=ag1 os enc;refine returnsInHanded_of_row (C:=checked) (s:=Rows.OpenSpec.upto Rows.judgeShiftsSpec) own started (by kernel_rfl) func5
    (witness_row_at (enc:=enc) (C:=checked) false (Ig os) #[.agg #[.slice none 0 0,.slice none 0 0],.agg #[.int .i64 0,.int .i64 0,.int .i64 0],.agg #[.int .u8 0,.string ⟨#[]⟩]] rfl (by kernel_rfl) (by kernel_rfl) (by kernel_rfl)
      (OpenSpec.preRow_of_cond 8 hx (by kernel_rfl) (fun k hk=>by cases hk;kernel_rfl) (by kernel_rfl) (agX os))) ?_
  intro W base args ds gs before yn hW _ afE _ hL _ _;exact agW H enc W base args ds gs before yn hW (afE _ rfl) hL
theorem ag0:Rows.JudgeShiftsUptoSaid :=
  OpenClaim.holds_of_cond 5 f5 rfl rfl rfl rfl rfl rfl rfl ⟨rfl,rfl,rfl,rfl,rfl⟩ rfl rfl rfl rfl rfl (by kernel_rfl) func5 (by kernel_rfl)
    (IW (by kernel_rfl)) (by unfold Func.isWrapper;first | (rw[aw (by decide +kernel)];kernel_rfl) | (rw[ah (by decide +kernel)];exact⟨rfl,rfl⟩))
    (fun os started H enc _ F=>by rw[OpenClaim.pre_eq_preRow];exact agY os started H enc F)
theorem agZ (f:FuncId) (fn:Func) (hf:YtkeidlpchmepkaaGreatDoor.Tryz.pinned.checked.prog.funcNamed "clearance/clearancelaw16.JudgeShifts" = some f) (rV:YtkeidlpchmepkaaGreatDoor.Tryz.pinned.checked.prog.funcs[f]?=some fn) :
    false=YtkeidlpchmepkaaGreatDoor.Tryz.pinned.checked.prog.looks []∧∀(j:Nat) t,fn.params[j]?=some t→YtkeidlpchmepkaaGreatDoor.Tryz.pinned.checked.prog.wantsStandIn t=false:=by
  obtain rfl:f=5:=lM ((show prog.funcNamed "clearance/clearancelaw16.JudgeShifts" = some 5 by kernel_rfl).symm.trans hf) |>.symm;obtain rfl:fn=f5:=(lM (func5.symm.trans rV)).symm;refine⟨by kernel_rfl,fun j t ht=>?_⟩;rw[params5] at ht;have h:t=25∨t=27∨t=61:=by simpa using KF ht
  rcases h with rfl | rfl | rfl
  · exact(show prog.wantsStandIn 25=false by kernel_rfl)
  · exact(show prog.wantsStandIn 27=false by kernel_rfl)
  · exact(show prog.wantsStandIn 61=false by kernel_rfl)
theorem agV:Rows.JudgeShiftsUptoCardSaid :=
  Claim7.holds_tied_plain_at .later [] _ _ _ _ ag0 (fun _ h=>by cases h) (by kernel_rfl) (fun _ h=>by cases h) judgeShiftsUpto_row_tie rfl ⟨rfl,rfl⟩ (by kernel_rfl) rfl agZ (by kernel_rfl)
end Go.Proofs.Tryz
namespace Go.Proofs.YtkeidlpchmepkaaGreatDoor
/-- For every scope, room and line: blanks ahead of the line move each place by as many, and change nothing else (JudgeShifts), where what comes in is of bulk at most 1048576. -/
theorem judgeShifts_card_holds : Rows.JudgeShiftsUptoCardSaid := Go.Proofs.Tryz.agV
end Go.Proofs.YtkeidlpchmepkaaGreatDoor
