/-
  For every scope and command: the assertion that the command makes, or that it makes none, is the same by both readers (FitAsserts), where what comes in is of bulk at most 1048576.
-/
import Derived.Test.YtmgdldfokpcbkaaGreatDoorProg
import Derived.ProofKit
import Derived.OpenShut
import Derived.JoinedCond
import Derived.ChangeStays
import Derived.ReadAgain
import Derived.Deep.DeepHandedRow
import Derived.Lib.LaidTab
import Derived.Stop.LaidErr
import Derived.Test.YtmgdldfokpcbkaaGreatDoorCards
import Derived.Test.YtmgdldfokpcbkaaGreatDoorTie
import Derived.Test.YtmgdldfokpcbkaaGreatDoorAsserts6
set_option linter.unusedVariables false
set_option linter.unusedSimpArgs false
set_option linter.defProp false
set_option linter.unusedSectionVars false

namespace Go.Proofs.Tryz
open Go.Am
set_option maxRecDepth 4000
set_option maxHeartbeats 4000000
def ac58:AC:=.seq (.reg [⟨(some 1),.box 17 (.s 0),none⟩,⟨(some 2),.mv (.c (.bool false)),none⟩])
 (.seq (.seq (.reg [xf 0 3 1,xo 4 3,xc 86 5 [.s 4,.c (.int .i32 110)],xB .eql 6 5 0])
 (.cond (.s 6) (.seq (.reg [xf 2 7 1,xf 0 8 7,xo 9 8,⟨(some 10),.binS .eql (.s 9) (.c (.str [])),none⟩,xm 2 10])
 (.ret))
 (.skip)))
 (.seq (.reg [xf 2 11 1,xf 0 12 11,xo 13 12,xc 34 14 [.s 13],xm 2 14])
 (.ret)))
theorem fn58:IsFn prog 58 ac58 [.tmp 2] 15:=⟨f58,⟨[],[],[]⟩,func58,by kernel_rfl,by kernel_rfl,by kernel_rfl,by kernel_rfl⟩
def ac59:AC:=.seq (.reg [⟨(some 1),.box 17 (.s 0),none⟩,⟨(some 2),.mv (.c (.bool false)),none⟩])
 (.seq (.block 0 (.seq (.reg [xf 0 4 1,xo 5 4,xc 86 6 [.s 5,.c (.int .i32 119)],xB .gtr 7 6 0,xm 3 7])
 (.cond (.s 3) (.seq (.reg [xf 4 8 1,xo 9 8,xL 10 9,xB .gtr 11 10 0,xm 12 11,xg 12 (xf 4 13 1),xg 12 (xo 14 13),xg 12 (xc 88 15 [.s 14]),xg 12 (xc 87 16 [.s 15]),⟨(some 17),.pick (.s 12) (.s 16) (.c (.bool false)),none⟩,xm 2 17])
 (.ret))
 (.seq (.reg [xf 0 19 1,xo 20 19,xc 86 21 [.s 20,.c (.int .i32 102)],xB .gtr 22 21 0,xm 18 22])
 (.cond (.s 18) (.seq (.reg [xf 4 23 1,xo 24 23,xL 25 24,xB .eql 26 25 1,xm 27 26,xg 27 (xf 4 28 1),xg 27 (xo 29 28),xg 27 (xc 88 30 [.s 29]),xg 27 (xc 87 31 [.s 30]),⟨(some 32),.pick (.s 27) (.s 31) (.c (.bool false)),none⟩,xm 2 32])
 (.ret))
 (.skip))))))
 (.seq (.reg [xf 4 33 1,xo 34 33,xL 35 34,xB .eql 36 35 0,xm 2 36])
 (.ret)))
theorem fn59:IsFn prog 59 ac59 [.tmp 2] 37:=⟨f59,⟨[],[],[]⟩,func59,by kernel_rfl,by kernel_rfl,by kernel_rfl,by kernel_rfl⟩
def ac86:AC:=.seq (.reg [xi 4 0])
 (.seq (.reg [xi 5 0])
 (.seq (.rangeS [xm 8 0,xc 113 9 [.s 8],xw 1 10 9] (.s 10) 11 12 13 0 1
 (.seq (.reg [xe 14 12 2,xm 7 14])
 (.seq (.reg [xm 15 7,xm 16 1,xb .eql 17 15 16])
 (.cond (.s 17) (.reg [xm 18 5,xB .add 19 18 1,xm 5 19])
 (.skip)))))
 (.seq (.reg [xm 20 5,xm 4 20])
 (.ret))))
theorem fn86:IsFn prog 86 ac86 [.tmp 4] 21:=⟨f86,⟨[],[],[]⟩,func86,by kernel_rfl,by kernel_rfl,by kernel_rfl,by kernel_rfl⟩
def ac87:AC:=.seq (.reg [⟨(some 2),.mv (.c (.bool false)),none⟩])
 (.seq (.seq (.reg [xm 5 0,xL 6 5,xi 7 0])
 (.block 0 (.loop (.seq (.reg [xb .lss 8 7 6])
 (.seq (.cond (.s 8) (.skip)
 (.exit 0))
 (.seq (.block 1 (.seq (.reg [xA 1 9 5 7,xo 10 9,xm 4 10])
 (.seq (.reg [xm 11 4,xc 34 12 [.s 11],⟨(some 13),.not (.s 12),none⟩])
 (.cond (.s 13) (.seq (.reg [⟨(some 2),.mv (.c (.bool false)),none⟩])
 (.ret))
 (.skip)))))
 (.reg [xB .add 14 7 1,xm 7 14])))))))
 (.seq (.reg [⟨(some 2),.mv (.c (.bool true)),none⟩])
 (.ret)))
theorem fn87:IsFn prog 87 ac87 [.tmp 2] 15:=⟨f87,⟨[],[],[]⟩,func87,by kernel_rfl,by kernel_rfl,by kernel_rfl,by kernel_rfl⟩
def stC (ks:List UInt8) (k:UInt8) (σ:Store) (b i:Nat):St :=
  ⟨[.any,.int .i32 (k.toNat:Nat),.any,.any,.any,.int .i64 ((ks.take i).count k:Nat)]++List.replicate 5 .any++[.raw (.pointer (some ⟨b,0,none⟩))]++List.replicate 9 .any,[],σ⟩
theorem mcount_calls (op:Int) (k:UInt8) {σ:Store} (hg:σ.con 0=some formCells):PCalls prog 86 [.int .i64 op,.int .i32 (k.toNat:Nat)] σ fun v σ' => v = .int .i64 (cntN op k:Nat)∧σ' = σ:=by
  refine fn86.calls ?_;simp only[slots,ac86,am,ams,Nat.reduceAdd];refine vc_rangeS ?_;simp only[am];refine cl (of_calls op hg) ?_;simp only[am];have hkl:=form_len op;have hcn:cntN op k=(formOf op).2.count k:=rfl;generalize hks:(formOf op).2=ks at hkl hcn;refine⟨ks,rfl,by rw[←hks];exact form_ascii op,fun b i st' => st' = stC ks k σ b i,?_,?_,?_,?_⟩
  · intro b;refine Upd.weak (t' := (stC ks k σ b 0).t) ?_ LLLe.rfl OLe.rfl rfl;simp[stC,List.replicate,am]
  · rintro b i _ rfl;exact⟨rfl,by simp[stC],by simp[stC]⟩
  · rintro b i c _ hc rfl;have hi:i<ks.length:=(List.getElem?_eq_some_iff.1 hc).1;have hsn:(ks.take (i+1)).count k=(ks.take i).count k+(if c=k then 1 else 0):=by
      rw[take_succ_of hc,List.count_append,List.count_singleton];simp
    have hle:(ks.take i).count k≤3:=Nat.le_trans List.count_le_length (by rw[List.length_take];omega);have hkk:((c.toNat:Nat):Int)=(k.toNat:Nat)↔c=k:=by
      constructor
      · intro h;exact UInt8.toNat_inj.1 (by omega)
      · rintro rfl;rfl
    simp only[stC,List.replicate,am]
    by_cases e:c=k
    · rw[if_pos e] at hsn;simp only[am,amc,decide_eq_true (hkk.2 e)];rw[wrap_i64 (by omega) (by omega)];exact Upd.weak (by simp[am,hsn]) LLLe.rfl OLe.rfl rfl
    · rw[if_neg e] at hsn;simp only[am,amc,decide_eq_false (fun h=>e (hkk.1 h))];exact Upd.weak (by simp[am,hsn]) LLLe.rfl OLe.rfl rfl
  · rintro b _ rfl;simp only[stC,List.replicate,am];rw[List.take_length];refine retS ?_;simp[V.erase,hcn]
def invNm (l:List (List UInt8)) (σ:Store) (i:Nat):St :=
  ⟨[.any,.any,.any,.any,.any,.sl .no 1 (encT l),.int .i64 l.length,.int .i64 (i:Nat)]++List.replicate 7 .any,[],σ⟩
theorem cnamed_calls (l:List (List UInt8)) (σ:Store) (hl:l.length≤big):PCalls prog 87 [.sl .no 1 (encT l)] σ fun v σ' => v = .bool (namedQ l)∧σ' = σ:=by
  simp only[big] at hl;refine fn87.calls ?_;simp only[slots,ac87,am,ams,encT_length];refine vc_loop (fun p:{i:Nat // i≤l.length∧namedQ (l.take i)=true}=>invNm l σ p.1) (fun p=>l.length - p.1) ?_ ?_
  · refine Upd.enter ⟨0,by simp,by simp[namedQ]⟩ ?_ LLLe.rfl OLe.rfl;simp[invNm,List.replicate,am]
  rintro⟨i,hi,ha⟩;simp only[invNm,List.replicate,am]
  by_cases hlt:i<l.length
  · simp only[am,decide_eq_true (show (i:Int)<l.length by omega)];refine idxL_intro (by omega) (encT_at (List.getElem?_eq_getElem hlt)) ?_;simp only[am];refine cl (nright_calls l[i] σ) ?_;cases hr:nameR l[i]
    · simp only[am]
      have:namedQ l=false:=by
        rw[namedQ,List.all_eq_false];exact⟨l[i],List.getElem_mem hlt,by simp[hr]⟩
      refine retS ?_;simp[V.erase,this]
    · simp only[am];rw[wrap_i64 (by omega) (by omega)];refine Upd.again (I:=fun p:{i:Nat // i≤l.length∧namedQ (l.take i)=true}=>invNm l σ p.1) (μ:=fun p=>l.length - p.1) ⟨i+1,hlt,?_⟩ (by simp;omega) (by simp[invNm,am,List.replicate]) LLLe.rfl OLe.rfl;simp only[namedQ,List.take_succ_eq_append_getElem hlt,List.all_append,Bool.and_eq_true] at ha ⊢;exact⟨ha,by simp[hr]⟩
  · have:i=l.length:=by omega
    subst this;rw[List.take_length] at ha;simp only[am,decide_eq_false (show ¬(l.length:Int)<l.length by omega)];refine retS ?_;simp[V.erase,ha]
theorem nameQ_calls (c:Cmd) {σ:Store} (hg:σ.con 0=some formCells):PCalls prog 58 [.agg c.enc] σ fun v σ' => v = .bool c.nameQ∧σ' = σ:=by
  refine fn58.calls ?_;simp only[slots,ac58,am,ams,cfl,cfo];have h:=fun (σ:Store) (hg:σ.con 0=some formCells)=>mcount_calls c.op 110 hg
  refine cl (h σ hg) ?_;simp only[am]
  by_cases h0:cntN c.op 110=0
  · simp only[am,cfv,decide_eq_true (show ((cntN c.op 110:Nat):Int)=0 by omega)];refine retS ?_;simp[V.erase,Cmd.nameQ,h0]
  · simp only[am,cfv,decide_eq_false (show ¬((cntN c.op 110:Nat):Int)=0 by omega)];refine cl (nright_calls c.name.text σ) ?_;simp only[am];refine retS ?_;simp[V.erase,Cmd.nameQ,h0]
theorem namesQ_calls (c:Cmd) {σ:Store} (hg:σ.con 0=some formCells) (hn:c.names.length+1≤big):PCalls prog 59 [.agg c.enc] σ fun v σ' => v = .bool c.namesQ∧σ' = σ:=by
  have hnl:(c.names.map Word.text).length≤big:=by rw[List.length_map];omega
  have h:=fun (σ:Store) (hg:σ.con 0=some formCells)=>mcount_calls c.op 119 hg
  have h' := fun (σ:Store) (hg:σ.con 0=some formCells)=>mcount_calls c.op 102 hg
  refine fn59.calls ?_;simp only[slots,ac59,am,ams,cfl,cfo];refine cl (h σ hg) ?_;simp only[am]
  by_cases h0:0<cntN c.op 119
  · simp only[am,List.length_map,cfv,decide_eq_true (show (0:Int)<((cntN c.op 119:Nat):Int) by omega),List.length_map]
    by_cases h1:0<c.names.length
    · simp only[am,cfv,decide_eq_true (show (0:Int)<((c.names.length:Nat):Int) by omega)];refine cl (texts_calls c.names σ hn) ?_;simp only[am];refine cl (cnamed_calls (c.names.map Word.text) σ hnl) ?_;simp only[am];refine retS ?_;simp[V.erase,Cmd.namesQ,h0,h1]
    · simp only[am,decide_eq_false (show ¬(0:Int)<((c.names.length:Nat):Int) by omega)];refine retS ?_;simp[V.erase,Cmd.namesQ,h0,h1]
  · simp only[am,cfo,decide_eq_false (show ¬(0:Int)<((cntN c.op 119:Nat):Int) by omega)];refine cl (h' σ hg) ?_;simp only[am]
    by_cases h2:0<cntN c.op 102
    · simp only[am,List.length_map,cfv,decide_eq_true (show (0:Int)<((cntN c.op 102:Nat):Int) by omega),List.length_map]
      by_cases h1:c.names.length=1
      · simp only[am,cfv,decide_eq_true (show ((c.names.length:Nat):Int)=1 by omega)];refine cl (texts_calls c.names σ hn) ?_;simp only[am];refine cl (cnamed_calls (c.names.map Word.text) σ hnl) ?_;simp only[am];refine retS ?_;simp[V.erase,Cmd.namesQ,h0,h1,h2]
      · simp only[am,decide_eq_false (show ¬((c.names.length:Nat):Int)=1 by omega)];refine retS ?_;simp[V.erase,Cmd.namesQ,h0,h1,h2]
    · simp only[am,List.length_map,cfv,decide_eq_false (show ¬(0:Int)<((cntN c.op 102:Nat):Int) by omega),List.length_map];have he:decide (((c.names.length:Nat):Int)=0)=decide (c.names.length=0):=by simp
      refine retS ?_;simp[V.erase,Cmd.namesQ,h0,h2]
end Go.Proofs.Tryz

namespace Go.Proofs.Tryz
open Go.Am
set_option maxRecDepth 4000
set_option maxHeartbeats 4000000
def ac20:AC:=.seq (.reg [⟨(some 1),.box 17 (.s 0),none⟩,⟨(some 2),.mv (.c (.bool false)),none⟩])
 (.seq (.seq (.reg [xf 0 3 1,xo 4 3,xB .lss 5 4 0,xm 6 5,xh 6 (xf 0 7 1),xh 6 (xo 8 7),xh 6 (xB .gtr 9 8 15),⟨(some 10),.pick (.s 6) (.c (.bool true)) (.s 9),none⟩])
 (.cond (.s 10) (.seq (.reg [⟨(some 2),.mv (.c (.bool false)),none⟩])
 (.ret))
 (.skip)))
 (.seq (.reg [xl 17 11 1,xc 58 12 [.s 11],xm 13 12,xg 13 (xl 17 14 1),xg 13 (xc 59 15 [.s 14]),⟨(some 16),.pick (.s 13) (.s 15) (.c (.bool false)),none⟩,xm 17 16,xg 17 (xl 17 18 1),xg 17 (xc 60 19 [.s 18]),⟨(some 20),.pick (.s 17) (.s 19) (.c (.bool false)),none⟩,xm 21 20,xg 21 (xl 17 22 1),xg 21 (xc 61 23 [.s 22]),⟨(some 24),.pick (.s 21) (.s 23) (.c (.bool false)),none⟩,xm 2 24])
 (.ret)))
theorem fn20:IsFn prog 20 ac20 [.tmp 2] 25:=⟨f20,⟨[],[],[]⟩,func20,by kernel_rfl,by kernel_rfl,by kernel_rfl,by kernel_rfl⟩
def ac60:AC:=.seq (.reg [⟨(some 1),.box 17 (.s 0),none⟩,⟨(some 2),.mv (.c (.bool false)),none⟩])
 (.seq (.seq (.reg [xf 0 5 1,xo 6 5,xc 86 7 [.s 6,.c (.int .i32 112)],xB .eql 8 7 0])
 (.cond (.s 8) (.seq (.reg [xf 5 9 1,xo 10 9,xL 11 10,xB .eql 12 11 0,xm 2 12])
 (.ret))
 (.skip)))
 (.seq (.seq (.reg [xf 5 13 1,xo 14 13,xL 15 14,xi 16 0])
 (.block 0 (.loop (.seq (.reg [xb .lss 17 16 15])
 (.seq (.cond (.s 17) (.skip)
 (.exit 0))
 (.seq (.block 1 (.seq (.reg [xA 4 18 14 16,xl 4 19 18,⟨(some 4),.alloc [(.str []),(.int .i64 0),(.str []),(.int .i64 0)],none⟩,xs 4 4 19])
 (.seq (.reg [⟨(some 20),.idxP 2 2 (.s 4) (.c (.int .i64 0)),none⟩,xf 0 21 20,xo 22 21,xc 34 23 [.s 22],⟨(some 24),.not (.s 23),none⟩,xm 25 24,⟨(some 26),.idxP 2 2 (.s 4) (.c (.int .i64 1)),(some (25,false))⟩,xh 25 (xf 0 27 26),xh 25 (xo 28 27),xh 25 (xc 34 29 [.s 28]),⟨(some 30),.not (.s 29),(some (25,false))⟩,⟨(some 31),.pick (.s 25) (.c (.bool true)) (.s 30),none⟩])
 (.cond (.s 31) (.seq (.reg [⟨(some 2),.mv (.c (.bool false)),none⟩])
 (.ret))
 (.skip)))))
 (.reg [xB .add 32 16 1,xm 16 32])))))))
 (.seq (.reg [⟨(some 2),.mv (.c (.bool true)),none⟩])
 (.ret))))
theorem fn60:IsFn prog 60 ac60 [.tmp 2] 33:=⟨f60,⟨[],[],[]⟩,func60,by kernel_rfl,by kernel_rfl,by kernel_rfl,by kernel_rfl⟩
def ac61:AC:=.seq (.reg [⟨(some 1),.box 17 (.s 0),none⟩,⟨(some 2),.mv (.c (.bool false)),none⟩])
 (.seq (.seq (.reg [xf 0 3 1,xo 4 3,xc 86 5 [.s 4,.c (.int .i32 116)],xB .gtr 6 5 0])
 (.cond (.s 6) (.seq (.reg [xf 7 7 1,xl 5 8 7,xc 62 9 [.s 8],xm 10 9,xg 10 (xf 12 11 1),xg 10 (xl 5 12 11),xg 10 (xc 62 13 [.s 12]),⟨(some 14),.pick (.s 10) (.s 13) (.c (.bool false)),none⟩,xm 2 14])
 (.ret))
 (.skip)))
 (.seq (.seq (.reg [xf 0 15 1,xo 16 15,xc 86 17 [.s 16,.c (.int .i32 114)],xB .gtr 18 17 0])
 (.cond (.s 18) (.seq (.reg [xf 7 19 1,xl 5 20 19,xc 89 21 [.s 20],xm 22 21,xg 22 (xf 12 23 1),xg 22 (xl 5 24 23),xg 22 (xc 89 25 [.s 24]),⟨(some 26),.pick (.s 22) (.s 25) (.c (.bool false)),none⟩,xm 2 26])
 (.ret))
 (.skip)))
 (.seq (.reg [xf 7 27 1,xl 5 28 27,⟨(some 29),.build [(.int .i64 0),(.int .i64 0),(.str []),(.sl .full 2 []),(.sl .full 5 [])] [],none⟩,xc 90 30 [.s 28,.s 29],xm 31 30,xg 31 (xf 12 32 1),xg 31 (xl 5 33 32),⟨(some 34),.build [(.int .i64 0),(.int .i64 0),(.str []),(.sl .full 2 []),(.sl .full 5 [])] [],(some (31,true))⟩,xg 31 (xc 90 35 [.s 33,.s 34]),⟨(some 36),.pick (.s 31) (.s 35) (.c (.bool false)),none⟩,xm 2 36])
 (.ret))))
theorem fn61:IsFn prog 61 ac61 [.tmp 2] 37:=⟨f61,⟨[],[],[]⟩,func61,by kernel_rfl,by kernel_rfl,by kernel_rfl,by kernel_rfl⟩
def invPq (c:Cmd) (σ:Store) (i:Nat):St :=
  ⟨[.any,.ptr (.loc 0) 0]++List.replicate 12 .any++[.sl .no 4 (c.pairs.map penc),.int .i64 c.pairs.length,.int .i64 (i:Nat)]++List.replicate 16 .any,[c.enc],σ⟩
theorem pairsQ_calls (c:Cmd) {σ:Store} (hg:σ.con 0=some formCells) (hn:c.pairs.length+1≤big):PCalls prog 60 [.agg c.enc] σ fun v σ' => v = .bool c.pairsQ∧σ' = σ:=by
  have h:=fun (σ:Store) (hg:σ.con 0=some formCells)=>mcount_calls c.op 112 hg
  simp only[big] at hn;refine fn60.calls ?_;simp only[slots,ac60,am,ams,cfl,cfo];refine cl (h σ hg) ?_;simp only[am]
  by_cases h0:cntN c.op 112=0
  · simp only[am,List.length_map,cfv,List.length_map,decide_eq_true (show ((cntN c.op 112:Nat):Int)=0 by omega)];have he:decide (((c.pairs.length:Nat):Int)=0)=decide (c.pairs.length=0):=by simp
    refine retS ?_;simp[V.erase,Cmd.pairsQ,h0]
  simp only[am,List.length_map,cfv,List.length_map,decide_eq_false (show ¬((cntN c.op 112:Nat):Int)=0 by omega)];have hq:c.pairsQ=c.pairs.all pairQ:=by unfold Cmd.pairsQ;rw[if_neg h0]
  refine vc_loop (fun p:{i:Nat // i≤c.pairs.length∧(c.pairs.take i).all pairQ=true}=>invPq c σ p.1) (fun p=>c.pairs.length - p.1) ?_ ?_
  · refine Upd.enter ⟨0,by simp,by simp⟩ ?_ LLLe.rfl OLe.rfl;simp[invPq,List.replicate,am]
  rintro⟨i,hi,ha⟩;simp only[invPq,List.replicate,am]
  by_cases hlt:i<c.pairs.length
  · simp only[am,decide_eq_true (show (i:Int)<c.pairs.length by omega)];refine idxL_intro (by omega) (pencs_at (List.getElem?_eq_getElem hlt)) ?_;simp only[am,amc,Nat.reduceAdd,penc];refine idxPL_ptr (by omega) (by omega) ?_;simp only[am,Int.reduceToNat,Nat.reduceMul];refine cl (nright_calls c.pairs[i].1.text σ) ?_;have hno:pairQ c.pairs[i]=false→c.pairsQ=false:=fun hf=>by
      rw[hq,List.all_eq_false];exact⟨c.pairs[i],List.getElem_mem hlt,by simp[hf]⟩
    cases hr:nameR c.pairs[i].1.text
    · simp only[am];refine retS ?_;simp[V.erase,hno (by simp[pairQ,hr])]
    · simp only[am,amc];refine idxPL_ptr (by omega) (by omega) ?_;simp only[am,Int.reduceToNat,Nat.reduceMul];refine cl (nright_calls c.pairs[i].2.text σ) ?_;cases hr2:nameR c.pairs[i].2.text
      · simp only[am];refine retS ?_;simp[V.erase,hno (by simp[pairQ,hr2])]
      · simp only[am];rw[wrap_i64 (by omega) (by omega)];refine Upd.againD (I:=fun p:{i:Nat // i≤c.pairs.length∧(c.pairs.take i).all pairQ=true}=>invPq c σ p.1) (μ:=fun p=>c.pairs.length - p.1) ⟨i+1,hlt,?_⟩ (by simp;omega) (by simp[invPq,am,List.replicate]) (by simp[invPq,am]) OLe.rfl (by simp[invPq,List.replicate,loL,V.lo]) (by simp[invPq,Cmd.enc,Cmd.encP,loLL,loL,V.lo]);rw[List.take_succ_eq_append_getElem hlt,List.all_append,ha];simp[pairQ,hr,hr2]
  · have:i=c.pairs.length:=by omega
    subst this;rw[List.take_length] at ha;simp only[am,decide_eq_false (show ¬(c.pairs.length:Int)<c.pairs.length by omega)];refine retS ?_;simp[V.erase,hq,ha]
theorem zero_nd_enc:[V.int .i64 0,.int .i64 0,.str [],.sl .full 2 [],.sl .full 5 []].map V.erase=Nd.zero.enc:=by rw[Nd.enc_eq];rfl
theorem same_zero (n:Nd) (σ:Store) (hw:n.wt≤big):PCalls prog 90 [.agg n.enc,.agg [.int .i64 0,.int .i64 0,.str [],.sl .full 2 [],.sl .full 5 []]] σ fun v σ' => v = .bool (n.sameQ .zero)∧σ' = σ:=by
  refine PCalls.weak (same24_calls _ n .zero σ (Nat.le_refl _) hw) ?_ OLe.rfl;simp only[LLe,VLe.rfl,and_true,true_and];rw[←zero_nd_enc];exact VLe.erase (v:=.agg [.int .i64 0,.int .i64 0,.str [],.sl .full 2 [],.sl .full 5 []])
theorem termsQ_calls (c:Cmd) {σ:Store} (hg:σ.con 0=some formCells) (hl:c.left.wt≤big) (hr:c.right.wt≤big):PCalls prog 61 [.agg c.enc] σ fun v σ' => v = .bool c.termsQ∧σ' = σ:=by
  have h:=fun (σ:Store) (hg:σ.con 0=some formCells)=>mcount_calls c.op 116 hg
  have h' := fun (σ:Store) (hg:σ.con 0=some formCells)=>mcount_calls c.op 114 hg
  refine fn61.calls ?_;simp only[slots,ac61,am,ams,cfl,cfo];refine cl (h σ hg) ?_;simp only[am]
  by_cases h0:0<cntN c.op 116
  · simp only[am,Nd.rec_,cfv,decide_eq_true (show (0:Int)<((cntN c.op 116:Nat):Int) by omega)];refine cl (label_is_calls _ c.left σ (Nat.le_refl _) hl) ?_;cases hq:c.left.labelQ
    · simp only[am];refine retS ?_;simp[V.erase,Cmd.termsQ,h0,hq]
    · simp only[am,Nd.rec_,cfv];refine cl (label_is_calls _ c.right σ (Nat.le_refl _) hr) ?_;simp only[am];refine retS ?_;simp[V.erase,Cmd.termsQ,h0,hq]
  simp only[am,cfo,decide_eq_false (show ¬(0:Int)<((cntN c.op 116:Nat):Int) by omega)];refine cl (h' σ hg) ?_;simp only[am]
  by_cases h2:0<cntN c.op 114
  · simp only[am,Nd.rec_,cfv,decide_eq_true (show (0:Int)<((cntN c.op 114:Nat):Int) by omega)];refine cl (row_is_calls c.left σ hl) ?_;cases hq:c.left.rowQ
    · simp only[am];refine retS ?_;simp[V.erase,Cmd.termsQ,h0,h2,hq]
    · simp only[am,Nd.rec_,cfv];refine cl (row_is_calls c.right σ hr) ?_;simp only[am];refine retS ?_;simp[V.erase,Cmd.termsQ,h0,h2,hq]
  simp only[am,Nd.rec_,cfv,decide_eq_false (show ¬(0:Int)<((cntN c.op 114:Nat):Int) by omega)];refine cl (same_zero c.left σ hl) ?_;cases hq:c.left.sameQ .zero
  · simp only[am];refine retS ?_;simp[V.erase,Cmd.termsQ,h0,h2,hq]
  · simp only[am,Nd.rec_,cfv];refine cl (same_zero c.right σ hr) ?_;simp only[am];refine retS ?_;simp[V.erase,Cmd.termsQ,h0,h2,hq]
theorem cmdright_calls (c:Cmd) {σ:Store} (hg:σ.con 0=some formCells) (hn:c.names.length+1≤big) (hp:c.pairs.length+1≤big) (hl:c.left.wt≤big) (hr:c.right.wt≤big):PCalls prog 20 [.agg c.enc] σ fun v σ' => v = .bool c.rightQ∧σ' = σ:=by
  have h1:=fun (σ:Store) (hg:σ.con 0=some formCells)=>nameQ_calls c hg
  have h2:=fun (σ:Store) (hg:σ.con 0=some formCells)=>namesQ_calls c hg hn
  have h3:=fun (σ:Store) (hg:σ.con 0=some formCells)=>pairsQ_calls c hg hp
  have h4:=fun (σ:Store) (hg:σ.con 0=some formCells)=>termsQ_calls c hg hl hr
  refine fn20.calls ?_;simp only[slots,ac20,am,ams,cfl,cfo]
  by_cases k1:c.op<0
  · simp only[am,decide_eq_true k1];refine retS ?_;simp[V.erase,Cmd.rightQ,show ¬(0≤c.op∧c.op≤15) by omega]
  simp only[am,cfo,decide_eq_false k1]
  by_cases k2:15<c.op
  · simp only[am,decide_eq_true k2];refine retS ?_;simp[V.erase,Cmd.rightQ,show ¬(0≤c.op∧c.op≤15) by omega]
  have k3:0≤c.op∧c.op≤15:=by omega
  simp only[am,cfl,decide_eq_false k2];refine cl (h1 σ hg) ?_;cases q1:c.nameQ
  · simp only[am];refine retS ?_;simp[V.erase,Cmd.rightQ,q1]
  simp only[am,cfl];refine cl (h2 σ hg) ?_;cases q2:c.namesQ
  · simp only[am];refine retS ?_;simp[V.erase,Cmd.rightQ,q1,q2]
  simp only[am,cfl];refine cl (h3 σ hg) ?_;cases q3:c.pairsQ
  · simp only[am];refine retS ?_;simp[V.erase,Cmd.rightQ,q1,q2,q3]
  simp only[am,cfl];refine cl (h4 σ hg) ?_;simp only[am];refine retS ?_;simp[V.erase,Cmd.rightQ,q1,q2,q3,k3]
end Go.Proofs.Tryz

namespace Go.Proofs.Tryz
open Go.Am
set_option maxRecDepth 4000
set_option maxHeartbeats 4000000
def ac23:AC:=.seq (.reg [⟨(some 3),.box 2 (.s 0),none⟩,⟨(some 5),.box 5 (.s 2),none⟩,⟨(some 6),.alloc atmZ,none⟩])
 (.seq (.seq (.reg [xf 0 11 5,xo 12 11,xB .eql 13 12 1])
 (.cond (.s 13) (.seq (.reg [xl 2 15 3,xf 2 16 5,xo 17 16,xc 21 18 [.s 15,.s 17],xm 14 18,xe 19 14 0,xe 20 14 1,xm 7 19,xm 8 20])
 (.seq (.reg [xm 21 8,⟨(some 22),.build atmZ [(0,1,(.s 21))],none⟩,xs 9 6 22])
 (.ret)))
 (.skip)))
 (.seq (.drawA [9,10] [(xf 0 24 3,[]),(xo 25 24,[]),(xm 26 1,[]),(xA 3 27 25 26,[]),(xf 1 28 27,[]),(xl 2 29 28,[]),(xf 4 30 5,[]),(xo 31 30,[]),(⟨(some 32),.idxA 5 (.s 31) (.c (.int .i64 0)),none⟩,[]),(xl 5 33 32,[]),(xc 64 34 [.s 29,.s 33],[]),(xm 23 34,[]),(xe 35 23 0,[]),(xe 36 23 1,[]),(⟨none,.mv (.c .any),none⟩,[]),(⟨none,.mv (.c .any),none⟩,[]),(⟨(some 9),.boxS 8 (.s 35),none⟩,[]),(⟨(some 10),.boxS 2 (.s 36),none⟩,[])])
 (.seq (.reg [xl 8 37 9,⟨(some 38),.build atmZ [(0,1,(.c (.int .i64 (-1)))),(1,8,(.s 37))],none⟩,xs 9 6 38])
 (.ret))))
theorem fn23:IsFn prog 23 ac23 [.cell 6 true 9] 39:=⟨f23,⟨[],[],[]⟩,func23,by kernel_rfl,by kernel_rfl,by kernel_rfl,by kernel_rfl⟩
def ac24:AC:=.seq (.reg [⟨(some 3),.box 2 (.s 0),none⟩,⟨(some 5),.box 5 (.s 2),none⟩,⟨(some 6),.alloc [(.sl .full 10 []),(.int .i64 0)],none⟩])
 (.seq (.reg [⟨(some 12),.build [(.sl .full 10 []),(.int .i64 0)] [(1,1,(.c (.int .i64 (-1))))],none⟩,⟨(some 7),.alloc [(.sl .full 10 []),(.int .i64 0)],none⟩,xs 2 7 12])
 (.seq (.seq (.reg [xf 0 13 5,xo 14 13,xB .eql 15 14 1])
 (.cond (.s 15) (.seq (.reg [xl 2 17 3,xf 2 18 5,xo 19 18,xc 21 20 [.s 17,.s 19],xm 16 20,xe 21 16 0,xe 22 16 1,xf 1 23 7,xs 1 23 22])
 (.seq (.reg [xl 2 24 7,xs 2 6 24])
 (.ret)))
 (.skip)))
 (.seq (.seq (.reg [xf 4 25 5,xo 26 25,xL 27 26,xi 28 0])
 (.block 0 (.loop (.seq (.reg [xb .lss 29 28 27])
 (.seq (.cond (.s 29) (.skip)
 (.exit 0))
 (.seq (.block 1 (.seq (.reg [xA 5 30 26 28,xl 5 31 30,⟨(some 9),.alloc [(.int .i64 0),(.int .i64 0),(.str []),(.sl .full 2 []),(.sl .full 5 [])],none⟩,xs 5 9 31])
 (.draw [(xf 0 32 7,[]),(xo 33 32,[1]),(xf 2 34 9,[]),(xo 35 34,[1]),(xl 2 36 3,[]),(xm 37 1,[]),(xf 4 38 9,[]),(xo 39 38,[]),(⟨(some 40),.idxA 5 (.s 39) (.c (.int .i64 0)),none⟩,[]),(xl 5 41 40,[]),(xc 23 42 [.s 36,.s 37,.s 41],[]),(⟨(some 43),.build fldZ [(0,1,(.s 35)),(1,9,(.s 42))],none⟩,[]),(⟨(some 44),.bslice 10 [(.s 43)],none⟩,[]),(xa 10 45 33 44,[]),(xf 0 46 7,[]),(xs 1 46 45,[])])))
 (.reg [xB .add 47 28 1,xm 28 47])))))))
 (.seq (.seq (.reg [xf 3 48 5,xo 49 48,xL 50 49,xi 51 0])
 (.block 2 (.loop (.seq (.reg [xb .lss 52 51 50])
 (.seq (.cond (.s 52) (.skip)
 (.exit 2))
 (.seq (.block 3 (.seq (.reg [xA 2 53 49 51,xl 2 54 53,⟨(some 11),.alloc [(.str []),(.int .i64 0)],none⟩,xs 2 11 54])
 (.reg [xl 2 56 3,xf 0 57 11,xo 58 57,xc 21 59 [.s 56,.s 58],xm 55 59,xe 60 55 0,xe 61 55 1,xf 1 62 7,xs 1 62 61])))
 (.reg [xB .add 63 51 1,xm 51 63])))))))
 (.seq (.reg [xl 2 64 7,xs 2 6 64])
 (.ret))))))
theorem fn24:IsFn prog 24 ac24 [.cell 6 true 2] 65:=⟨f24,⟨[],[],[]⟩,func24,by kernel_rfl,by kernel_rfl,by kernel_rfl,by kernel_rfl⟩
theorem fatom_calls (s:Scp) (lat:Nat) (n:Nd) {σ:Store} (hs:s.ok) (hg:TZ σ) (hlat:lat<s.lats.length) (hk:n.kind=1∨0<n.kids.length) (hc:n.cnt≤100000) (hw:n.wt≤big) :
    PCalls prog 23 [.agg s.enc,.int .i64 (lat:Nat),.agg n.enc] σ fun v σ' => v = .agg (atmF s lat n).enc∧σ' = σ:=by
  refine fn23.calls ?_;simp only[slots,ac23,z27_,Nat.reduceAdd,Int.reduceNeg,Atm.rec_]
  by_cases h1:n.kind=1
  · simp only[am,Int.reduceNeg,Scp.rec_,Nd.fl,decide_eq_true h1];refine cl (scfind_calls s n.text σ hs.1 hs.2.1) ?_;simp only[am,Int.reduceNeg,Atm.rec_];exact retK_intro (v:=.agg (Atm.mk (optI (findV s.vars n.text)) .zero).enc) Atm.r_nol (Store.sub_refl _) ⟨by rw[atmF,if_pos h1];simp only[V.erase,Atm.r_er],rfl⟩
  have hk:0<n.kids.length:=hk.resolve_left h1;have hm:n.kids[0]∈n.kids:=List.getElem_mem _;have hmc:=cnt_kid hm;have hmw:=kid_wt hm;simp only[am,Nat.reduceAdd,decide_true,Int.reduceNeg,Nat.reduceLT,Scp.rec_,decide_eq_false h1];refine idxL_intro (by omega) (lats_at hlat) ?_;simp only[am,Int.reduceNeg,Scp.rec_,Nd.fl];refine idxL_intro (n:=0) (by omega) (nencs_at (j:=0) (List.getElem?_eq_getElem hk)) ?_;simp only[am,Int.reduceNeg,Shp.rec_,Nd.rec_];refine CallD.intro (elem_calls s.lats[lat].shape n.kids[0] hg (hs.2.2 _ (List.getElem_mem hlat)) (fun m hm=>by obtain⟨a,b,c⟩:=parts_ok (n:=n.kids[0]) (by omega) m hm;exact⟨by omega,by omega,fun q hq=>by have:=c q hq;omega⟩) (by omega)) ?_;have ee:atmF s lat n=⟨-1,(elemF s.lats[lat].shape n.kids[0]).1⟩:=by rw[atmF,if_neg h1,shapeF_at hlat,getD_at hk]
  generalize elemF s.lats[lat].shape n.kids[0]=g at ee;obtain⟨e,o⟩:=g;cases o with
  | none =>
    simp only[am,Nat.reduceAdd,Int.reduceNeg,Elm.rec_,Atm.rec_,show fltV none=[.int .i64 0,.int .i64 0] from rfl];exact retK_intro (v:=.agg (Atm.mk (-1) e).enc) Atm.r_nol (Store.sub_refl _) ⟨by rw[ee];simp only[V.erase,Atm.r_er],rfl⟩
  | some q =>
    simp only[am,Nat.reduceAdd,Int.reduceNeg,Elm.rec_,Atm.rec_,show fltV (some q)=[.int .i64 4,.int .i64 q] from rfl];exact retK_intro (v:=.agg (Atm.mk (-1) e).enc) Atm.r_nol (Store.sub_refl _) ⟨by rw[ee];simp only[V.erase,Atm.r_er],rfl⟩
def fldK (k:Nd):Prop:=0<k.kids.length∧∀a∈k.kids,a.kind=1∨0<a.kids.length
theorem frow_calls (s:Scp) (lat:Nat) (n:Nd) {σ:Store} (hs:s.ok) (hg:TZ σ) (hlat:lat<s.lats.length) (hk:∀k∈n.kids,fldK k) (hn1:n.names.length≤1) (hc:n.cnt≤100000) (hw:n.wt≤big) :
    PCalls prog 24 [.agg s.enc,.int .i64 (lat:Nat),.agg n.enc] σ fun v σ' => v = .agg (rtmF s lat n).enc∧σ' = σ:=by
  refine fn24.calls ?_;simp only[slots,ac24,z27_,Nat.reduceAdd,Int.reduceNeg,Fld.rec_]
  by_cases h1:n.kind=1
  · simp only[am,Int.reduceNeg,Scp.rec_,Nd.fl,decide_eq_true h1];refine cl (scfind_calls s n.text σ hs.1 hs.2.1) ?_;simp only[am,Nat.reduceAdd,Int.reduceNeg];exact retK_intro rfl (Store.sub_refl _) ⟨by rw[rtmF,if_pos h1];rfl,rfl⟩
  simp only[am,List.length_map,Int.reduceNeg,Nd.fl,List.length_map,decide_eq_false h1];have hkc:=cnt_kids n;obtain⟨Q,hQ⟩:∃Q:Nat→List (List V),∀i,Q i=((n.kids.take i).map (fldF s lat)).map Fld.enc:=⟨_,fun _=>rfl⟩;have hQ0:Q 0=[]:=by rw[hQ];rfl
  have hQn:Q n.kids.length=(n.kids.map (fldF s lat)).map Fld.enc:=by rw[hQ,List.take_length]
  have hQl:∀{i:Nat},i≤n.kids.length→(Q i).length=i:=fun {i} hi=>by rw[hQ];simp;omega
  have hQs:∀{i:Nat} (hi:i<n.kids.length) (h1:0<n.kids[i].kids.length),Q (i+1)=Q i++[(Fld.mk n.kids[i].text (atmF s lat n.kids[i].kids[0])).enc]:=fun {i} hi h1=>by
    rw[hQ,hQ,List.take_succ_eq_append_getElem hi,List.map_append,List.map_append,List.map_singleton,List.map_singleton,fldF,getD_at h1]
  obtain⟨F,hF⟩:∃F:Nat→Nat→St,∀i τ,F i τ=⟨[.any,.int .i64 (lat:Nat),.any,.ptr (.loc 0) 0,.any,.ptr (.loc 1) 0,.ptr (.loc 2) 0,.ptr (.loc 3) 0,.any,.any,.any,.any,.any,.any,.any,.any,.any,.any,.any,.any,.any,.any,.any,.any,.any,.any,.sl .no 5 (n.kids.map Nd.enc),.int .i64 (n.kids.length:Nat),.int .i64 (i:Nat)]++List.replicate 36 .any,[s.enc,n.enc,[.sl .full 10 [],.int .i64 0],[.sl (.tk τ) 10 (Q i),.int .i64 (-1)]],σ.setTip τ i⟩:=⟨_,fun _ _=>rfl⟩;obtain⟨JF,hJF⟩:∃JF:Nat→Nat→Prop,∀i τ,JF i τ=(σ.tip τ=none):=⟨_,fun _ _=>rfl⟩;refine vc_count (n.kids.length) F JF _ hJF ?_ ?_ ?_
  · refine entTL 0 fun τ hτ=>⟨τ,Eq.mpr (hJF _ _) hτ,?_,?_,?_⟩
    all_goals simp[hF,List.replicate,lto,llto,hQ0]
  · rintro i τ hi hτ;have hm:n.kids[i]∈n.kids:=List.getElem_mem _;have hmc:=cnt_kid hm;have hmw:=kid_wt hm;obtain⟨hk1,hk2⟩:=hk _ hm;have hm2:n.kids[i].kids[0]∈n.kids[i].kids:=List.getElem_mem _;have hmc2:=cnt_kid hm2;have hmw2:=kid_wt hm2;have hgs:TZ (σ.setTip τ i):=hg;have hlen:=hQl (Nat.le_of_lt hi);simp only[hF,List.replicate,am,dlt hi,Int.reduceNeg];refine idxL_intro (by omega) (nencs_at (List.getElem?_eq_getElem hi)) ?_;simp only[z27_,Nat.reduceAdd,Int.reduceNeg];refine idxL_intro (n:=0) (by omega) (nencs_at (j:=0) (List.getElem?_eq_getElem hk1)) ?_;simp only[am,Int.reduceNeg,Scp.rec_,Nd.rec_];refine CallD.intro (fatom_calls s lat n.kids[i].kids[0] hs hgs hlat (hk2 _ hm2) (by omega) (by omega)) ?_;simp only[am,Int.reduceNeg,Atm.rec_,Fld.rec_];refine appD_tk (by rw[hlen];simp[big];omega) (by rw[hlen];exact setTip_tip_same) ?_;rw[hlen];simp only[am,aml,Int.reduceNeg,Nd.fl,setTip_setTip,winc hi (by omega),List.length_singleton];refine nxtD (τ) hi ?_ ?_ ?_ ?_ ?_ ?_
    · exact Eq.mpr (hJF _ _) (hτ)
    all_goals simp[hF,List.replicate,am,lle_self,loL,loLL,V.lo,hQs hi hk1,Scp.r_lo,Nd.r_lo]
  · rintro τ hτ;have hlen:=hQl (Nat.le_refl _);have hnc:=cnt_names n;simp only[hF,List.replicate,am,aml,dnl,aml,Int.reduceNeg,Nd.fl,List.length_map];obtain⟨F2,hF2⟩:∃F2:Nat→Unit→St,∀j y,F2 j y=⟨[.any,.any,.any,.ptr (.loc 0) 0,.any,.any,.ptr (.loc 2) 0,.ptr (.loc 3) 0,.any,.any,.any,.any,.any,.any,.any,.any,.any,.any,.any,.any,.any,.any,.any,.any,.any,.any,.any,.any,.any,.any,.any,.any,.any,.any,.any,.any,.any,.any,.any,.any,.any,.any,.any,.any,.any,.any,.any,.any,.any,.sl .no 2 (n.names.map Word.enc),.int .i64 (n.names.length:Nat),.int .i64 (j:Nat)]++List.replicate 13 .any,[s.enc,n.enc,[.sl .full 10 [],.int .i64 0],[.sl (.tk τ) 10 (Q n.kids.length),.int .i64 (tailF s (n.names.take j))]],σ.setTip τ n.kids.length⟩:=⟨_,fun _ _=>rfl⟩;obtain⟨JF2,hJF2⟩:∃JF2:Nat→Unit→Prop,∀j y,JF2 j y=(True):=⟨_,fun _ _=>rfl⟩;refine vc_count (n.names.length) F2 JF2 _ hJF2 ?_ ?_ ?_
    · refine ent (()) ?_ ?_ ?_ ?_
      · exact Eq.mpr (hJF2 _ _) (trivial)
      all_goals simp[hF2,List.replicate,am,lle_self,tailF]
    · rintro j y hj -;obtain rfl:j=0:=by omega
      have et:=tailF_one (s:=s) hj;simp only[hF2,List.replicate,am,dlt hj];refine idxL_intro (by omega) (words_at hj) ?_;simp only[am,Nat.reduceAdd,wd_t,Scp.rec_,Word.rec_];refine cl (scfind_calls s n.names[0].text _ hs.1 hs.2.1) ?_;simp only[am,aml,winc hj (by omega)];refine nxtD (()) hj ?_ ?_ ?_ ?_ ?_ ?_
      · exact Eq.mpr (hJF2 _ _) (trivial)
      all_goals simp[hF2,List.replicate,am,lle_self,loL,loLL,V.lo,et,Scp.r_lo,Nd.r_lo]
    · rintro y -;simp only[hF2,List.replicate,am,aml,dnl,Nat.reduceAdd,aml,List.take_length,hQn];have e:rtmF s lat n=⟨n.kids.map (fldF s lat),tailF s n.names⟩:=by rw[rtmF,if_neg h1]
      refine retK_intro rfl (sub_tip hτ) ⟨by rw[e];rfl,rfl⟩
end Go.Proofs.Tryz

namespace Go.Proofs.Tryz
open Go.Am
set_option maxRecDepth 4000
set_option maxHeartbeats 4000000
def ac9:AC:=.seq (.reg [⟨(some 2),.box 2 (.s 0),none⟩,⟨(some 3),.box 17 (.s 1),none⟩,⟨(some 4),.alloc astZ,none⟩,⟨(some 5),.mv (.c (.bool false)),none⟩])
 (.seq (.seq (.reg [xf 0 9 3,xo 10 9,xB .lss 11 10 8,xm 12 11,xh 12 (xf 0 13 3),xh 12 (xo 14 13),xh 12 (xB .gtr 15 14 10),⟨(some 16),.pick (.s 12) (.c (.bool true)) (.s 15),none⟩,xm 17 16,xh 17 (xl 17 18 3),xh 17 (xc 20 19 [.s 18]),⟨(some 20),.not (.s 19),(some (17,false))⟩,⟨(some 21),.pick (.s 17) (.c (.bool true)) (.s 20),none⟩,xm 22 21,xh 22 (xl 2 23 2),xh 22 (xl 17 24 3),xh 22 (xc 17 25 [.s 23,.s 24]),xh 22 (xw 0 26 25),xh 22 (xB .neq 27 26 0),⟨(some 28),.pick (.s 22) (.c (.bool true)) (.s 27),none⟩])
 (.cond (.s 28) (.seq (.reg [⟨(some 29),.build astZ [],none⟩,xs 18 4 29,⟨(some 5),.mv (.c (.bool false)),none⟩])
 (.ret))
 (.skip)))
 (.seq (.reg [xl 2 31 2,xf 2 32 3,xf 0 33 32,xo 34 33,xc 21 35 [.s 31,.s 34],xm 30 35,xe 36 30 0,xe 37 30 1,xm 6 36,xm 7 37])
 (.seq (.reg [xf 0 38 3,xo 39 38,xm 40 6,⟨(some 41),.build astZ [(0,1,(.s 39)),(1,1,(.s 40))],none⟩,⟨(some 8),.alloc astZ,none⟩,xs 18 8 41])
 (.seq (.seq (.reg [xf 0 42 3,xo 43 42])
 (.block 0 (.seq (.reg [xB .eql 45 43 8,xm 44 45])
 (.cond (.s 44) (.seq (.reg [xl 2 47 2,xm 48 6,xf 7 49 3,xl 5 50 49,xc 22 51 [.s 47,.s 48,.s 50],xm 46 51,xe 52 46 0,xe 53 46 1,xf 2 54 8,xs 1 54 52])
 (.reg [xl 2 55 2,xm 56 6,xf 12 57 3,xl 5 58 57,xc 23 59 [.s 55,.s 56,.s 58],xf 3 60 8,xs 9 60 59]))
 (.seq (.reg [xB .eql 62 43 9,xm 61 62])
 (.cond (.s 61) (.draw [(xl 2 63 2,[]),(xm 64 6,[]),(xf 7 65 3,[]),(xl 5 66 65,[]),(xc 24 67 [.s 63,.s 64,.s 66],[]),(xl 2 68 2,[0]),(xm 69 6,[]),(xf 12 70 3,[]),(xl 5 71 70,[0]),(xc 24 72 [.s 68,.s 69,.s 71],[]),(xf 12 73 8,[]),(xs 2 73 67,[]),(xf 14 74 8,[]),(xs 2 74 72,[])])
 (.seq (.reg [xB .eql 76 43 10,xm 75 76])
 (.cond (.s 75) (.draw [(xm 77 7,[]),(xf 1 78 2,[]),(xo 79 78,[1]),(xm 80 7,[]),(xA 3 81 79 80,[]),(xf 2 82 81,[]),(xo 83 82,[1]),(xf 4 84 3,[]),(xo 85 84,[1,2]),(⟨(some 86),.idxA 2 (.s 85) (.c (.int .i64 0)),none⟩,[]),(xf 0 87 86,[]),(xo 88 87,[1,2]),(xf 16 89 8,[]),(xs 1 89 77,[]),(xf 1 90 8,[]),(xs 1 90 83,[]),(xf 17 91 8,[]),(xs 1 91 88,[])])
 (.skip)))))))))
 (.seq (.reg [xl 18 92 8,xs 18 4 92,⟨(some 5),.mv (.c (.bool true)),none⟩])
 (.ret))))))
theorem fn9:IsFn prog 9 ac9 [.cell 4 true 18,.tmp 5] 93:=⟨f9,⟨[],[],[]⟩,func9,by kernel_rfl,by kernel_rfl,by kernel_rfl,by kernel_rfl⟩
def astT (s:Scp) (c:Cmd):V:=.tup [.agg (if isAst s c then astF s c else .zero).enc,.bool (isAst s c)]
theorem rowQ_flds {n:Nd} (h:n.rowQ=true):∀k∈n.kids,fldK k:=by
  rcases row_spec h with ⟨_,_,_,hf⟩ | ⟨h1,h⟩
  · intro k hk;obtain⟨_,_,_,a,ha,hq⟩:=field_spec (hf k hk);refine⟨by rw[ha];simp,fun b hb=>?_⟩;rw[ha] at hb;obtain rfl:=List.mem_singleton.1 hb;have hl:=atom_label hq;simp only[Nd.atomQ,Bool.and_eq_true,Bool.or_eq_true,decide_eq_true_eq] at hq
    rcases hq.1 with h | h
    · exact .inl h
    · exact .inr (by rw[label_const hl h];omega)
  · rw[Nd.labelQ_eq,if_pos h1] at h;intro k hk;simp only[Nd.leafQ,Bool.and_eq_true,decide_eq_true_eq] at h
    have:n.kids.length=0:=by have:=h.2;omega
    exact absurd (List.length_pos_of_mem hk) (by omega)
theorem rowQ_one {n:Nd} (h:n.rowQ=true):n.names.length≤1:=by
  rcases row_spec h with ⟨_,_,hn,_⟩ | ⟨h1,h⟩
  · rcases hn with h | ⟨w,h,_⟩<;>rw[h]<;>simp
  · rw[Nd.labelQ_eq,if_pos h1] at h;simp only[Nd.leafQ,Bool.and_eq_true,decide_eq_true_eq] at h
    have:n.names.length=0:=by have:=h.2;omega
    omega
theorem fassert_calls (s:Scp) (c:Cmd) {σ:Store} (hs:s.ok) (hg:TZ σ) (hgf:σ.con 0=some formCells) (hn:c.names.length+1≤big) (hp:c.pairs.length+1≤big) (hl:c.left.cnt≤500) (hr:c.right.cnt≤500) (hwl:c.left.wt≤big) (hwr:c.right.wt≤big) :
    PCalls prog 9 [.agg s.enc,.agg c.enc] σ fun v σ' => v=astT s c∧σ' = σ:=by
  have no:∀(t:List V) (lo:List (List V)),isAst s c=false→RetK (fun v σ' => v=astT s c∧σ' = σ) ⟨t,lo,σ⟩ (.tup [.agg (astV 0 0 (.sl .full 10 []) .zero (.sl .full 10 []) 0 (.sl .full 10 []) 0 0 []),.bool false]):=fun t lo h=>by
    refine retK_intro (by simp only[V.nol,nolL,Bool.and_true];exact ast_nol rfl rfl rfl) (Store.sub_refl _) ⟨?_,rfl⟩;rw[astT,h];simp only[V.erase,eraseL,ast_er];rfl
  have yes:∀(t:List V) (lo:List (List V)) (op lat:Int) (cd:V) (to:Atm) (fa:V) (ta:Int) (fb:V) (tb v:Int) (f:List UInt8),isAst s c=true→cd.nol=true→fa.nol=true→fb.nol=true→astV op lat cd.erase to fa.erase ta fb.erase tb v f=(astF s c).enc→RetK (fun v σ' => v=astT s c∧σ' = σ) ⟨t,lo,σ⟩ (.tup [.agg (astV op lat cd to fa ta fb tb v f),.bool true]):=fun t lo op lat cd to fa ta fb tb v f h n1 n2 n3 hx=>by
    refine retK_intro (by simp only[V.nol,nolL,Bool.and_true];exact ast_nol n1 n2 n3) (Store.sub_refl _) ⟨?_,rfl⟩;rw[astT,h];simp only[V.erase,eraseL,ast_er,hx];rfl
  refine fn9.calls ?_;simp only[slots,ac9,am,ams,Nat.reduceAdd,Scp.rec_,astZ,cfl,cfo]
  by_cases o1:c.op<8
  · simp only[am,ast_,decide_eq_true o1];exact no _ _ (by simp[isAst];omega)
  simp only[am,cfo,decide_eq_false o1]
  by_cases o2:10<c.op
  · simp only[am,ast_,decide_eq_true o2];exact no _ _ (by simp[isAst];omega)
  simp only[am,cfl,decide_eq_false o2];refine cl (cmdright_calls c hgf hn hp hwl hwr) ?_;cases hq:c.rightQ with
  | false =>
    simp only[am,ast_];exact no _ _ (by simp[isAst,hq])
  | true =>
    simp only[am,Scp.rec_,cfl];refine cl (fitfault_calls s c hs hg hl hr hwl hwr) ?_;simp only[am,Flt.rec_]
    by_cases hf:(faultC s c).cls=0
    case neg =>
      simp only[am,ast_,decide_eq_false hf];exact no _ _ (by simp[isAst,hf])
    have hA:isAst s c=true:=by simp only[isAst,hq,hf,decide_true,Bool.and_true,Bool.and_eq_true,decide_eq_true_eq];omega
    have hF:=isAst_iff.1 hA;simp only[am,Scp.rec_,cfv,decide_eq_true hf];refine cl (scfind_calls s c.name.text σ hs.1 hs.2.1) ?_;simp only[am,Nat.reduceAdd,ast_,cfo,ast_one (op:=c.op) (lat:=optI (findL s.lats c.name.text)) (c:=.sl .full 10 []) (to:=.zero) (fa:=.sl .full 10 []) (ta:=0) (fb:=.sl .full 10 []) (tb:=0) (v:=0) (f:=[]) rfl rfl rfl]
    by_cases h8:c.op=8
    · simp only[am,Scp.rec_,Nd.rec_,cfv,decide_eq_true h8];obtain⟨k,hk,hlt⟩:=hF.latI (.inl h8);have hk' : optI (findL s.lats c.name.text)=(k:Nat):=hk;rw[hk'];refine cl (ccompile_calls s k c.left hg hs hwl (by omega)) ?_;simp only[am,Scp.rec_,ast_,Nd.rec_,cfv,codeT];refine cl (fatom_calls s k c.right hs hg hlt ?_ (by omega) hwr) ?_
      · rcases hF.right h8 with h | h
        · exact .inl h
        · exact .inr (by rw[label_const (hF.labels h8).2 h];omega)
      simp only[am,Atm.rec_,ast_,ast_one (op:=c.op) (lat:=k) (c:=.sl .no 10 (((compR s k c.left).getD []).map Ins.enc)) (to:=atmF s k c.right) (fa:=.sl .full 10 []) (ta:=0) (fb:=.sl .full 10 []) (tb:=0) (v:=0) (f:=[]) rfl rfl rfl];refine yes _ _ _ _ _ _ _ _ _ _ _ _ hA rfl rfl rfl ?_;rw[astF,if_pos h8,hk,h8];rfl
    simp only[am,decide_eq_false h8]
    by_cases h9:c.op=9
    · simp only[am,Scp.rec_,Nd.rec_,cfv,decide_eq_true h9];obtain⟨k,hk,hlt⟩:=hF.latI (.inr h9);have hk' : optI (findL s.lats c.name.text)=(k:Nat):=hk;rw[hk'];obtain⟨q1,q2⟩:=hF.rows h9;refine CallD.intro (frow_calls s k c.left hs hg hlt (rowQ_flds q1) (rowQ_one q1) (by omega) hwl) ?_;simp only[am,Scp.rec_,Nd.rec_,cfv];refine CallD.intro (frow_calls s k c.right hs hg hlt (rowQ_flds q2) (rowQ_one q2) (by omega) hwr) ?_;simp only[am,Scp.rec_,Rtm.rec_,ast_,cfv,ast_one (op:=c.op) (lat:=k) (c:=.sl .full 10 []) (to:=.zero) (fa:=.sl .no 10 ((rtmF s k c.left).fs.map Fld.enc)) (ta:=(rtmF s k c.left).tail) (fb:=.sl .no 10 ((rtmF s k c.right).fs.map Fld.enc)) (tb:=(rtmF s k c.right).tail) (v:=0) (f:=[]) rfl rfl rfl];refine yes _ _ _ _ _ _ _ _ _ _ _ _ hA rfl rfl rfl ?_;rw[astF,if_neg h8,if_pos h9,hk,h9];rfl
    have h10:c.op=10:=by omega
    simp only[am,Scp.rec_,decide_eq_false h9,decide_eq_true h10];obtain⟨v,hv,hv1,hv2⟩:=hF.var h10;obtain⟨w,hw,_⟩:=hF.one h10;rw[hv1];simp only[Int.reduceNeg,optI];refine idxL_intro (by omega) (vars_at hv) ?_;simp only[am,Int.reduceNeg,Scp.rec_,cfv];have hw1:0<c.names.length:=by rw[hw];simp
    refine idxL_intro (n:=0) (by omega) (words_at (l:=c.names) (j:=0) hw1) ?_;simp only[am,Int.reduceNeg,wd_t,Scp.rec_,ast_,cfv,ast_one (op:=c.op) (lat:=s.vars[v].lat) (c:=.sl .full 10 []) (to:=.zero) (fa:=.sl .full 10 []) (ta:=0) (fb:=.sl .full 10 []) (tb:=0) (v:=v) (f:=c.names[0].text) rfl rfl rfl];refine yes _ _ _ _ _ _ _ _ _ _ _ _ hA rfl rfl rfl ?_;rw[astF,if_neg h8,if_neg h9,hv1,varLat,List.getElem?_eq_getElem hv,getD_at hw1,h10];rfl
end Go.Proofs.Tryz

namespace Go.Proofs.Tryz
open Go.Am
set_option maxRecDepth 4000
set_option maxHeartbeats 4000000
theorem compR_len (s:Scp) (lat:Int) (n:Nd):((compR s lat n).getD []).length≤n.cnt:=by
  cases h:compR s lat n with
  | none=>simp
  | some l =>
    rw[compR] at h;split at h
    · exact compF_len n h
    · simp at h
end Go.Proofs.Tryz

namespace Go.Proofs.Tryz
open Go.Am
set_option maxRecDepth 4000
set_option maxHeartbeats 4000000
def ac8:AC:=.seq (.reg [⟨(some 0),.mv (.c (.bool false)),none⟩])
 (.seq (.reg [⟨(some 7),.bslice 1 [(.c (.str [108,111])),(.c (.str [104,105]))],none⟩,⟨(some 8),.build facZ [(0,1,(.c (.int .i64 1))),(1,1,(.s 7))],none⟩,⟨(some 9),.bslice 67 [(.s 8)],none⟩,⟨(some 10),.build [(.bool false),(.sl .full 67 [])] [(1,1,(.s 9))],none⟩,⟨(some 11),.build [(.str []),(.bool false),(.sl .full 67 [])] [(0,1,(.c (.str [107]))),(1,2,(.s 10))],none⟩,⟨(some 12),.bslice 3 [(.s 11)],none⟩,⟨(some 13),.build [(.str []),(.int .i64 0),(.int .i64 0)] [(0,1,(.c (.str [120]))),(1,1,(.c (.int .i64 1)))],none⟩,⟨(some 14),.build [(.str []),(.int .i64 0),(.int .i64 0)] [(0,1,(.c (.str [114]))),(1,1,(.c (.int .i64 2)))],none⟩,⟨(some 15),.bslice 3 [(.s 13),(.s 14)],none⟩,⟨(some 16),.build [(.sl .full 3 []),(.sl .full 3 [])] [(0,1,(.s 12)),(1,1,(.s 15))],none⟩,⟨(some 1),.alloc [(.sl .full 3 []),(.sl .full 3 [])],none⟩,xs 2 1 16])
 (.seq (.reg [⟨(some 17),.build [(.int .i64 0),(.int .i64 0),(.str []),(.sl .full 2 []),(.sl .full 5 [])] [(0,1,(.c (.int .i64 1))),(2,1,(.c (.str [120])))],none⟩,⟨(some 2),.alloc [(.int .i64 0),(.int .i64 0),(.str []),(.sl .full 2 []),(.sl .full 5 [])],none⟩,xs 5 2 17])
 (.seq (.reg [⟨(some 18),.build [(.str []),(.int .i64 0)] [(0,1,(.c (.str [107])))],none⟩,xl 5 19 2,⟨(some 20),.build [(.int .i64 0),(.int .i64 0),(.str []),(.sl .full 2 []),(.sl .full 5 [])] [(0,1,(.c (.int .i64 1))),(2,1,(.c (.str [114]))),(1,1,(.c (.int .i64 7)))],none⟩,⟨(some 21),.build [(.int .i64 0),(.int .i64 0),(.str []),(.int .i64 0),(.sl .full 2 []),(.sl .full 4 []),(.int .i64 0),(.int .i64 0),(.int .i64 0),(.str []),(.sl .full 2 []),(.sl .full 5 []),(.int .i64 0),(.int .i64 0),(.str []),(.sl .full 2 []),(.sl .full 5 [])] [(0,1,(.c (.int .i64 8))),(2,2,(.s 18)),(7,5,(.s 19)),(12,5,(.s 20))],none⟩,⟨(some 3),.alloc [(.int .i64 0),(.int .i64 0),(.str []),(.int .i64 0),(.sl .full 2 []),(.sl .full 4 []),(.int .i64 0),(.int .i64 0),(.int .i64 0),(.str []),(.sl .full 2 []),(.sl .full 5 []),(.int .i64 0),(.int .i64 0),(.str []),(.sl .full 2 []),(.sl .full 5 [])],none⟩,xs 17 3 21])
 (.seq (.reg [xl 2 22 1,xl 17 23 3,xc 17 24 [.s 22,.s 23],⟨(some 4),.alloc [(.int .i64 0),(.int .i64 0)],none⟩,xs 2 4 24])
 (.seq (.reg [xl 5 25 2,xf 12 26 3,xs 5 26 25])
 (.seq (.reg [xl 2 28 1,xl 17 29 3,xc 9 30 [.s 28,.s 29],xm 27 30,xe 31 27 0,xe 32 27 1,⟨(some 5),.alloc astZ,none⟩,xs 18 5 31,xm 6 32])
 (.seq (.reg [xl 2 33 4,⟨(some 34),.build [(.int .i64 0),(.int .i64 0)] [(0,1,(.c (.int .i64 4))),(1,1,(.c (.int .i64 7)))],none⟩,⟨(some 35),.eqA false [1,1] (.s 33) (.s 34),none⟩,xm 36 35,xg 36 (xm 37 6),⟨(some 38),.pick (.s 36) (.s 37) (.c (.bool false)),none⟩,xm 39 38,xg 39 (xf 2 40 5),xg 39 (xo 41 40),xg 39 (xL 42 41),xg 39 (xB .eql 43 42 1),⟨(some 44),.pick (.s 39) (.s 43) (.c (.bool false)),none⟩,xm 45 44,xg 45 (xf 3 46 5),xg 45 (xf 0 47 46),xg 45 (xo 48 47),xg 45 (xB .eql 49 48 0),⟨(some 50),.pick (.s 45) (.s 49) (.c (.bool false)),none⟩,xm 51 50,xg 51 (xl 2 52 1),xg 51 (xl 18 53 5),xg 51 (xc 13 54 [.s 52,.s 53]),⟨(some 55),.pick (.s 51) (.s 54) (.c (.bool false)),none⟩,xm 0 55])
 (.ret))))))))
theorem fn8:IsFn prog 8 ac8 [.tmp 0] 56:=⟨f8,⟨[],[],[]⟩,func8,by kernel_rfl,by kernel_rfl,by kernel_rfl,by kernel_rfl⟩
theorem er2_calls {f:FuncId} {u u' v v' : V} {σ:Store} {R' : V→Store→Prop} (h:PCalls prog f [u',v'] σ R') (e1:u.erase=u') (e2:v.erase=v'):PCalls prog f [u,v] σ R' :=
  h.weak (show LLe [u,v] [u',v'] from⟨e1▸VLe.erase,e2▸VLe.erase,trivial⟩) OLe.rfl
theorem alive15_calls {σ:Store} (hg:TZ σ) (hgf:σ.con 0=some formCells):PCalls prog 8 [] σ fun v σ' => v = .bool true∧σ' = σ:=by
  refine fn8.calls ?_;simp only[slots,ac8,am,ams,Nat.reduceAdd,fv_,astZ];refine cl (er2_calls (fitfault_calls exS5 (exC5 exR) ex5_ok hg (by decide +kernel) (by decide +kernel) (by decide +kernel) (by decide +kernel)) rfl rfl) ?_;rw[ex5_fault];simp only[am,Nat.reduceAdd,Flt.rec_];have k1:(exC5 exX).names.length+1≤big:=by decide +kernel
  have k2:(exC5 exX).pairs.length+1≤big:=by decide +kernel
  have h:=fassert_calls exS5 (exC5 exX) ex5_ok hg hgf k1 k2 (by decide +kernel) (by decide +kernel) (by decide +kernel) (by decide +kernel);have ea:∃A:Ast,astT exS5 (exC5 exX) = .tup [.agg A.enc,.bool true]∧A.code.length=1∧A.to.v=0∧astR exS5 A=true :=
    ⟨astF exS5 (exC5 exX),by rw[astT,ex5_is];rfl,ex5_len,ex5_to,ex5_right⟩
  obtain⟨A,ea,ea1,ea2,ea3⟩:=ea;rw[ea] at h;clear ea;refine cl (er2_calls h rfl rfl) ?_;obtain⟨op,lat,code,to,ra,rb,v,f⟩:=A;simp only at ea1 ea2;simp only[Ast.enc];simp only[am,Nat.reduceAdd,Flt.rec_,ast_,ast_one (op:=op) (lat:=lat) (c:=.sl .no 10 (code.map Ins.enc)) (to:=to) (fa:=.sl .no 10 (ra.fs.map Fld.enc)) (ta:=ra.tail) (fb:=.sl .no 10 (rb.fs.map Fld.enc)) (tb:=rb.tail) (v:=v) (f:=f) rfl rfl rfl];have q:eqC [1,1] (Flt.mk 4 7).enc [.int .i64 4,.int .i64 7]=some true:=by
    rw[show [V.int .i64 4,V.int .i64 7]=(Flt.mk 4 7).enc from rfl,Flt.r_eq,decide_eq_true rfl]
  have ld:ldC false 1 (List.drop 3 (astV op lat (.sl .no 10 (code.map Ins.enc)) to (.sl .no 10 (ra.fs.map Fld.enc)) ra.tail (.sl .no 10 (rb.fs.map Fld.enc)) rb.tail v f))=some (.int .i64 to.v):=rfl;simp only[am,List.length_map,ast_,List.length_map,q,ld,show decide ((code.length:Int)=1)=true from by rw[ea1];rfl,show decide (to.v=0)=true from decide_eq_true ea2];have h2:=fright_calls exS5 ⟨op,lat,code,to,ra,rb,v,f⟩ ex5_ok hg (by simp only;omega);rw[ea3] at h2;refine⟨ast_nol rfl rfl rfl,?_⟩;refine cl (er2_calls h2 ?_ ?_) ?_
  · rfl
  · simp only[V.erase,ast_er];rfl
  simp only[am];refine retS ?_;simp[V.erase]
end Go.Proofs.Tryz

namespace Go.Proofs.Tryz
open Go.Am
set_option maxRecDepth 4000
set_option maxHeartbeats 4000000
section
variable {op lat ta tb v:Int} {c fa fb:V} {to:Atm} {f:List UInt8}
end
end Go.Proofs.Tryz

namespace Go.Am
open Go.ChangeShapes Go.WideShapes Go.ChangeAt Go.RowKit
structure BulkFn {H:Type} (B:DataW H→Nat) (BA:List (DataW H)→Nat):Prop where
  str:∀b,B (.lit (.string b))=b.length+1
  int:∀k n,B (.lit (.int k n))=1
  bool:∀b,B (.lit (.bool b))=1
  nil:B .nil=1
  slice:∀e s,B (.slice e s)=BA e+BA s+1
  agg:∀p,B (.agg p)=BA p+1
  no:BA []=0
  cons:∀d r,BA (d::r)=B d+BA r
def envOf (W:World):Env:=⟨W,fun _=>.const,fun _=>none,fun _=>none⟩
section
variable {H:Type} {enc:TypeId × Value→H} {P:Program} {W:World} {sp:Nat→Bool} {B:DataW H→Nat} {BA:List (DataW H)→Nat}
theorem rd_int {t:TypeId} {k:IntKind} {n:Nat} {cs:List Value} {x:DataW H × List MemPlace} (ht:P.underlying t=some (.int k)) (hB:BulkFn B BA) (h:DataW.trod enc P W 0 sp true n t cs=some x) :
    ∃i:Int,RL (envOf W) [.int k i] cs∧(∀v∈cs,v.oneCell' = true)∧B x.1=1∧(Lit.int k i).wf=true:=by
  obtain⟨i,rfl,rfl,hw⟩:=DataW.trod_int ht h;exact⟨i,by simp[RL,R],by simp[Value.oneCell'],hB.int _ _,hw⟩
theorem rd_bool {t:TypeId} {n:Nat} {cs:List Value} {x:DataW H × List MemPlace} (ht:P.underlying t=some .bool) (hB:BulkFn B BA) (h:DataW.trod enc P W 0 sp true n t cs=some x) :
    ∃i:Bool,RL (envOf W) [.bool i] cs∧(∀v∈cs,v.oneCell' = true)∧B x.1=1:=by
  obtain⟨i,rfl,rfl⟩:=DataW.trod_bool ht h;exact⟨i,by simp[RL,R],by simp[Value.oneCell'],hB.bool _⟩
theorem rd_str {t:TypeId} {n:Nat} {cs:List Value} {x:DataW H × List MemPlace} (ht:P.underlying t=some .string) (hB:BulkFn B BA) (h:DataW.trod enc P W 0 sp true n t cs=some x) :
    ∃s:List UInt8,RL (envOf W) [.str s] cs∧(∀v∈cs,v.oneCell' = true)∧s.length+1=B x.1:=by
  obtain⟨s,rfl,rfl,_⟩:=DataW.trod_string ht h;exact⟨s.data.toList,by simp[RL,R],by simp[Value.oneCell'],(hB.str _).symm⟩
theorem rd_rows {α:Type} (ea:α→List V) (sz:α→Nat) {e:TypeId} {k n:Nat} (hB:BulkFn B BA) (hk:P.cellsOf e=k) (hlen:∀y,(ea y).length=k)
    (hel:∀cs x,DataW.trod enc P W 0 sp true n e cs=some x→∃y:α,RL (envOf W) (ea y) cs∧(∀v∈cs,v.oneCell' = true)∧sz y≤B x.1) {b o:Nat} :
    ∀(els:List (DataW H × List MemPlace)) (i:Nat),(∀j,j<els.length→(W.cells? 0 (Addr.add ⟨b,o,none⟩ ((i+j)*k)) k).bind (DataW.trod enc P W 0 sp true n e)=els[j]?) →
      ∃l:List α,l.length=els.length∧REs (envOf W).nl k (l.map ea) b (o+i*k)∧(l.map sz).sum≤BA (els.map (·.1))
  | [],i,_=>⟨[],rfl,by simp[REs],by simp⟩
  | x :: els, i, h => by
    obtain⟨l,h1,h2,h3⟩:=rd_rows ea sz hB hk hlen hel els (i+1) fun j hj=>by
      have:=h (j+1) (by simp;omega)
      rw[show i+(j+1)=i+1+j by omega] at this;simpa using this
    have h0:=h 0 (by simp);simp only[Nat.add_zero,List.getElem?_cons_zero] at h0;obtain⟨cs,hc,hr⟩:=Option.bind_eq_some_iff.1 h0;obtain⟨y,k1,k2,k3⟩:=hel cs x hr;obtain⟨_,hl,hcell⟩:=World.cells?_some hc;refine⟨y::l,by simp[h1],?_,?_⟩
    · simp only[List.map_cons,REs];refine⟨hlen y,RAs_mk k1 k2 (fun j v hv=>?_) (fun _ _=>trivial),by rw[show o+i*k+k=o+(i+1)*k by rw[Nat.add_mul];omega];exact h2⟩;have hj:j<k:=by have:=(List.getElem?_eq_some_iff.1 hv).1;omega
      have:=hcell j hj
      rw[addr_add,addr_add] at this;show W.cell? _=_;rw[this,hv]
    · simp only[List.map_cons,List.sum_cons,hB.cons];omega
theorem rd_slice {α:Type} (ea:α→List V) (sz:α→Nat) {t e:TypeId} {k fuel:Nat} (hB:BulkFn B BA) (ht:P.underlying t=some (.slice e)) (hk:P.cellsOf e=k) (hpos:0<k) (hlen:∀y,(ea y).length=k)
    (hel:∀n,n<fuel→∀cs x,DataW.trod enc P W 0 sp true n e cs=some x→∃y:α,RL (envOf W) (ea y) cs∧(∀v∈cs,v.oneCell' = true)∧sz y≤B x.1)
    {cs:List Value} {x:DataW H × List MemPlace} (h:DataW.trod enc P W 0 sp true fuel t cs=some x) :
    ∃l:List α,RL (envOf W) [.sl .no k (l.map ea)] cs∧(∀v∈cs,v.oneCell' = true)∧(l.map sz).sum+1≤B x.1:=by
  rcases DataW.trod_slice ht h with ⟨rfl,rfl⟩ | ⟨a,len,cap,elems,rest,n,rfl,rfl,rfl,_,hle,_,hl,hels,_,_⟩
  · refine⟨[],?_,by simp[Value.oneCell'],by simp[hB.nil]⟩;simp only[RL,R,List.map_nil,and_true];exact⟨none,0,rfl,by simp,by simp,trivial⟩
  · have ha:elems=[]∨∃b o,a=⟨b,o,none⟩:=by
      cases elems with
      | nil=>exact .inl rfl
      | cons y ys =>
        right;have h0:=hels 0 (by rw[←hl];simp);simp only[List.getElem?_cons_zero] at h0;obtain⟨cs',hc,_⟩:=Option.bind_eq_some_iff.1 h0;obtain⟨_,hl',hcell⟩:=World.cells?_some hc;have h1:=hcell 0 (by rw[hk];exact hpos);have h2:cs'[0]?=some (cs'[0]'(by rw[hl',hk];exact hpos)):=List.getElem?_eq_getElem _;rw[h2] at h1;obtain⟨b,o,s⟩:=a;refine⟨b,o,?_⟩;simp only[World.cell?] at h1;cases s with
        | none=>rfl
        | some s =>
          split at h1
          · simp[Addr.add] at h1
          · simp at h1
    rcases ha with rfl | ⟨b,o,rfl⟩
    · refine⟨[],?_,by simp[Value.oneCell'],by simp[hB.slice]⟩;simp only[List.length_nil] at hl;subst hl;simp only[RL,R,List.map_nil,and_true];exact⟨some a,cap,rfl,by simp,by simp,trivial⟩
    · obtain⟨l,h1,h2,h3⟩:=rd_rows (B:=B) (BA:=BA) (sp:=sp) (enc:=enc) (P:=P) (W:=W) (n:=n) ea sz hB hk hlen (hel n (Nat.lt_succ_self n)) elems 0 (fun j hj=>by
        have:=hels j (by omega)
        rw[hk] at this;rw[Nat.zero_add];exact this)
      refine⟨l,?_,by simp[Value.oneCell'],?_⟩
      · simp only[RL,R,List.length_map,and_true];exact⟨some ⟨b,o,none⟩,cap,by rw[h1,hl],by omega,.inr ⟨b,o,rfl,by simpa using h2⟩,trivial⟩
      · rw[hB.slice];omega
end
theorem post_am2 {H:Type} {enc:TypeId × Value→H} {P:Program} {f:Func} {s:ChangeSpec} {W:World} {args:Array Value} {ds:List (DataW H)} {before:List MemPlace} {tb:TypeId}
    (hl:laidOutB P=true) (hm:mapsRowed P=true) (hz:((List.range P.types.size).all fun t=>match P.underlying t with | some (.slice e)=>decide (0<P.cellsOf e) | _=>true)=true)
    (hres:f.resultTypes=#[tb]) (htb:P.underlying tb=some .bool) (hpar:∀t∈f.params.toList,t<P.types.size) (hvars:s.vars=[]) (hfn:(s.fn H ds).results=[.lit (.bool true)]∧(s.fn H ds).args=ds∧(s.fn H ds).vars=[])
    (hW:DataW.Whole enc P f.params.toList s.vars false W args.toList ds [] before) {W' : World} (hos:W'.os=W.os) (hout:W'.output=W.output) (hfrz:∀a,W'.frozen? a=W.frozen? a) (hsame:∀b,b<W.heap.size→W'.heap[b]?=W.heap[b]?) :
    s.post enc P f false true false false W args (.bool true) W' := by
  have hW' := hW;obtain⟨p,q,hA,hV,rfl,hfz,hnd⟩:=hW;rw[hvars] at hV;obtain⟨_,rfl⟩:=trodVars_none hV;have hkept:W.keptBut W' (fun _=>False):=by
    refine⟨hos,hout,fun i hi=>?_⟩;rw[hsame i hi];cases W.heap[i]? with
    | none=>rfl
    | some ob=>cases ob<;>simp
  simp only[List.append_nil] at hW';have hds:s.fn H (ds++[])=s.fn H ds:=by rw[List.append_nil]
  refine post_of_same (pa:=p) (pv:=[]) hW' (fun b sp' hd=>?_) (fun sp' hs=>?_) (fun sp' hs=>?_) (by simp) (World.keptBut_mono (fun _ h=>h.elim) hkept) ?_ (ok_one hres rfl (okWide_bool_mk htb _))
  · rw[hds,hfn.1,hres];exact trodAll_cons_mk (shut_bool htb _) trodAll_mk0
  · rw[hds,hfn.2.1];have hlt:=DataW.TrodAll.lt hA;have key:∀(ts:List TypeId) (vs:List Value) (ds:List (DataW H)) (ps:List MemPlace),(∀t∈ts,t<P.types.size)→DataW.TrodAll enc P W 0 (fun _=>true) true ts vs ds ps→(∀x∈ps,x.block<W.heap.size)→(∀x∈ps,sp' x.block=true)→DataW.TrodAll enc P W' 0 sp' true ts vs ds ps:=by
      intro ts;induction ts with
      | nil=>intro vs ds ps _ h _ _;cases vs<;>cases ds<;>first | exact h | exact h.elim
      | cons t ts ih =>
        intro vs ds ps hT h hlt hs;cases vs with
        | nil=>exact h.elim
        | cons v vs =>
          cases ds with
          | nil=>exact h.elim
          | cons d ds =>
            obtain⟨p,q,⟨n,h1⟩,h2,rfl⟩:=h;refine⟨p,q,⟨n,?_⟩,ih vs ds q (fun t ht=>hT t (by simp[ht])) h2 (fun x hx=>hlt x (by simp[hx])) (fun x hx=>hs x (by simp[hx])),rfl⟩;refine DataW.trod_stays (kids_rows hl hm) (fun {t e} ht he=>slices_full_of P hz t e ht he) (by simp) (hT t (by simp)) h1 (fun x hx=>?_) (fun x hx=>hs x (by simp[hx]));have hb:=hlt x (by simp[hx]);cases x with
            | cell b off=>exact cell_same (hsame b hb)
            | map b=>exact hsame b hb
    exact key _ _ _ _ hpar hA (fun x hx=>hlt x hx) (fun x hx=>hs x (by simpa using hx))
  · rw[hds,hfn.2.2,hvars];rfl
  · exact hfrz
theorem post_am {H:Type} {enc:TypeId × Value→H} {P:Program} {f:Func} {s:ChangeSpec} {W:World} {args:Array Value} {ds:List (DataW H)} {before:List MemPlace} {tb:TypeId}
    (hl:laidOutB P=true) (hm:mapsRowed P=true) (hz:((List.range P.types.size).all fun t=>match P.underlying t with | some (.slice e)=>decide (0<P.cellsOf e) | _=>true)=true)
    (hres:f.resultTypes=#[tb]) (htb:P.underlying tb=some .bool) (hpar:∀t∈f.params.toList,t<P.types.size) (hvars:s.vars=[]) (hfn:(s.fn H ds).results=[.lit (.bool true)]∧(s.fn H ds).args=ds∧(s.fn H ds).vars=[])
    (hW:DataW.Whole enc P f.params.toList s.vars false W args.toList ds [] before) {E' : Env} (hfr:Fr (envOf W) E') :
    s.post enc P f false true false false W args (.bool true) E'.w :=
  post_am2 hl hm hz hres htb hpar hvars hfn hW hfr.os hfr.output hfr.frz fun b hb=>(hfr.same b hb (.inl rfl)).1
section
variable {P:Program} {W:World} {r:Reach} {b:Nat} {t:TypeId} {v:Value} {E:Env}
theorem val_struct {fs:Array Field} {xs:List V} (ht:P.underlying t=some (.struct fs)) (hv:Value.okWide P W r b t v) (h:RL E xs v.cells.toList):R E (.agg xs) v:=by
  obtain⟨cs,rfl,_⟩:=okWide_struct ht hv;simp only[R];exact⟨cs,rfl,by simpa [Value.cells] using h⟩
end
end Go.Am

namespace Go.Am
open Go.ChangeShapes Go.WideShapes Go.ChangeAt Go.RowKit
def txtVal (s:List UInt8):Value:=.string ⟨s.toArray⟩
section
variable {H:Type} {enc:TypeId × Value→H} {P:Program} {W:World}
def pairsData (ps:List (List UInt8 × List UInt8)):DataW H:=.agg (ps.map fun p=>.agg [.lit (.string p.1),.lit (.string p.2)])
theorem list2 {α:Type} {l:List α} (h:l.length=2):∃a b,l=[a,b]:=by
  match l,h with
  | [a,b],_=>exact⟨a,b,rfl⟩
theorem txtVal_of {s:ByteArray} {l:List UInt8} (h:s.data.toList=l):Value.string s=txtVal l:=by subst h;simp[txtVal]
theorem chunks {α:Type} {k:Nat} (f:Nat→List α):∀(n:Nat) (cs:List α),cs.length=n*k→(∀i,i<n→(cs.drop (i*k)).take k=f i)→cs=((List.range n).map f).flatten
  | 0,cs,hl,_=>by simp at hl;simp[hl]
  | n + 1, cs, hl, h => by
    rw[Nat.succ_mul] at hl;have h1:=chunks (k:=k) f n (cs.take (n*k)) (by rw[List.length_take];omega) fun i hi=>by
      have:i*k+k≤n*k:=by rw[←Nat.succ_mul];exact Nat.mul_le_mul_right _ hi
      rw[List.drop_take,List.take_take,Nat.min_eq_left (by omega)];exact h i (by omega)
    have h2:=h n (by omega);rw[List.take_of_length_le (by rw[List.length_drop];omega)] at h2;rw[List.range_succ,List.map_append,List.flatten_append,←h1];simp only[List.map_cons,List.map_nil,List.flatten_cons,List.flatten_nil,List.append_nil];rw[←h2,List.take_append_drop]
theorem cells_of_pair {base:Nat} {sp:Nat→Bool} {held:Bool} {fuel:Nat} {e tf:TypeId} {fs:Array Field} {cs:List Value} {x:DataW H × List MemPlace} {a b:List UInt8}
    (he:P.underlying e=some (.struct fs)) (hs:fs.size=2) (hf0:(fs[0]?).map (fun f=>(f.type,f.offset))=some (tf,0)) (hf1:(fs[1]?).map (fun f=>(f.type,f.offset))=some (tf,1))
    (htf:P.underlying tf=some .string) (hct:P.cellsOf tf=1) (hce:P.cellsOf e=2)
    (h:DataW.trod enc P W base sp held fuel e cs=some x) (hx:x.1 = .agg [.lit (.string a),.lit (.string b)]):cs=[txtVal a,txtVal b]:=by
  obtain⟨xs,m,rfl,rfl,hl,hxl,hf⟩:=DataW.trod_struct he h;rw[hce] at hl;rw[hs] at hxl;obtain⟨u,v,rfl⟩:=list2 hl;obtain⟨x0,x1,rfl⟩:=list2 hxl;obtain⟨f0,g0,g1⟩:=Option.map_eq_some_iff.1 hf0;obtain⟨f1,g2,g3⟩:=Option.map_eq_some_iff.1 hf1;simp only[Prod.mk.injEq] at g1 g3;have h0:=hf 0 f0 g0;have h1:=hf 1 f1 g2;rw[g1.1,g1.2,hct] at h0;rw[g3.1,g3.2,hct] at h1;obtain⟨s0,p0,q0,_⟩:=DataW.trod_string htf h0;obtain⟨s1,p1,q1,_⟩:=DataW.trod_string htf h1;simp only[List.drop_zero,List.drop_succ_cons,List.take_succ_cons,List.take_zero,List.cons.injEq,and_true] at p0 p1;subst p0 p1 q0 q1;simp only[List.map_cons,List.map_nil,DataW.agg.injEq,List.cons.injEq,DataW.lit.injEq,Lit.string.injEq,and_true] at hx;rw[txtVal_of hx.1,txtVal_of hx.2]
theorem cells_of_pairs {base:Nat} {sp:Nat→Bool} {held:Bool} {fuel:Nat} {t e tf:TypeId} {n:Nat} {fs:Array Field} {cs:List Value} {ps:List (List UInt8 × List UInt8)} {p:List MemPlace}
    (ht:P.underlying t=some (.array n e)) (he:P.underlying e=some (.struct fs)) (hs:fs.size=2) (hf0:(fs[0]?).map (fun f=>(f.type,f.offset))=some (tf,0)) (hf1:(fs[1]?).map (fun f=>(f.type,f.offset))=some (tf,1))
    (htf:P.underlying tf=some .string) (hctf:P.cellsOf tf=1) (hce:P.cellsOf e=2) (hct:P.cellsOf t=n*2)
    (h:DataW.trod enc P W base sp held fuel t cs=some (pairsData ps,p)):cs=(ps.flatMap fun p=>[p.1,p.2]).map txtVal:=by
  obtain⟨xs,m,rfl,hx,hl,hxl,hi⟩:=DataW.trod_array ht h;rw[hct] at hl;have hxs:xs.map (·.1)=ps.map fun p=>(.agg [.lit (.string p.1),.lit (.string p.2)]:DataW H):=by
    have:=congrArg Prod.fst hx
    simpa [pairsData] using this.symm
  have hpl:ps.length=n:=by
    have:=congrArg List.length hxs
    simp at this;omega
  have hc:=chunks (fun i=>match ps[i]? with | some p=>[txtVal p.1,txtVal p.2] | none=>[]) n cs hl (fun i hin=>by
    have h1:=hi i hin;rw[hce] at h1;have hxi:xs[i]?=some xs[i]:=by simp[hxl,hin]
    have hpi:ps[i]?=some ps[i]:=by simp[hpl,hin]
    rw[hxi] at h1;have h2:=congrArg (·[i]?) hxs;simp only[List.getElem?_map,hxi,hpi,Option.map_some,Option.some.injEq] at h2;rw[hpi];exact cells_of_pair he hs hf0 hf1 htf hctf hce h1 h2)
  rw[hc,←hpl];clear hc hi hxl hl hx hxs h hpl;have key:∀qs:List (List UInt8 × List UInt8),((List.range qs.length).map fun i=>match qs[i]? with | some p=>[txtVal p.1,txtVal p.2] | none=>[])=qs.map fun p=>[txtVal p.1,txtVal p.2]:=fun qs=>by
    apply List.ext_getElem?;intro i
    by_cases hi:i<qs.length
    · simp[hi]
    · simp[hi]
  rw[key,List.map_flatMap,List.flatMap_def];rfl
end
end Go.Am

namespace Go.Am
open Go.ChangeShapes Go.WideShapes Go.ChangeAt Go.RowKit
def litV:V→Value
  | .str s=>txtVal s
  | .int k n=>.int k n
  | _=>.bool false
def isLit:V→Bool
  | .str _=>true
  | .int _ _=>true
  | _=>false
theorem litR {E:Env} {x:V} (h:isLit x=true) (v:Value):R E x v↔v=litV x:=by
  cases x<;>simp[isLit] at h<;>simp[R,litV,txtVal]
def mStore (B:Nat→Option (List V)):Store:=⟨fun _=>none,fun _=>none,B⟩
def MGlob (W:World) (B:Nat→Option (List V)):Prop:=∀b cs,B b=some cs→(∃e,W.heap[b]?=some (.cells (cs.map litV).toArray e (0,0)))∧∀x∈cs,isLit x=true
theorem lits_RL {E:Env}:∀{cs:List V},(∀x∈cs,isLit x=true)→RL E cs (cs.map litV)
  | [],_=>by simp[RL]
  | x :: cs, h => by
    simp only[List.map_cons,RL];exact⟨(litR (h x (by simp)) _).2 rfl,lits_RL fun y hy=>h y (by simp[hy])⟩
theorem mGlob_ok {W:World} {B:Nat→Option (List V)} (h:MGlob W B):(envOf W).ok (mStore B):=by
  refine⟨fun _ _ h=>by simp[mStore] at h,fun _ _ h=>by simp[mStore] at h,fun _ _=>rfl,⟨0,fun _ _=>rfl⟩,fun b cs hb=>?_⟩;obtain⟨⟨e,he⟩,hl⟩:=h b cs hb;refine RAs_mk (vs:=cs.map litV) (lits_RL hl) (fun v hv=>?_) (fun j v hj=>?_) fun _ _=>trivial
  · obtain⟨x,hx,rfl⟩:=List.mem_map.1 hv
    have:=hl x hx
    cases x<;>simp[isLit] at this<;>rfl
  · show W.cell? _=_;simp only[World.cell?,he,Nat.zero_add];simpa using hj
theorem law_callsM {H:Type} {enc:TypeId × Value→H} {P:Program} {n:FuncId} {f:Func} {s:ChangeSpec} {W:World} {args:Array Value} {vs:List V} {ds:List (DataW H)} {before:List MemPlace} {tb:TypeId} {B:Nat→Option (List V)}
    (hP:PCalls P n vs (mStore B) fun v σ' => v = .bool true∧σ' = mStore B) (hg:MGlob W B) (hR:RL (envOf W) vs args.toList)
    (hl:laidOutB P=true) (hm:mapsRowed P=true) (hz:((List.range P.types.size).all fun t=>match P.underlying t with | some (.slice e)=>decide (0<P.cellsOf e) | _=>true)=true)
    (hres:f.resultTypes=#[tb]) (htb:P.underlying tb=some .bool) (hpar:∀t∈f.params.toList,t<P.types.size) (hvars:s.vars=[]) (hfn:(s.fn H ds).results=[.lit (.bool true)]∧(s.fn H ds).args=ds∧(s.fn H ds).vars=[])
    (hW:DataW.Whole enc P f.params.toList s.vars false W args.toList ds [] before) :
    Calls P n args W fun e W' => ∃v,e = .returned v∧s.post enc P f false true false false W args v W' := by
  refine(hP.2 (envOf W) args (fun _=>rfl) (mGlob_ok hg) hR).mono ?_;rintro e w' ⟨v,x,E',σ',rfl,rfl,_,_,hRv,hfr,rfl,_⟩;simp only[R] at hRv;subst hRv;exact⟨_,rfl,post_am hl hm hz hres htb hpar hvars hfn hW hfr⟩
end Go.Am

namespace Go.Am
open Go.ChangeShapes Go.WideShapes Go.ChangeAt Go.RowKit
section
variable {H:Type} {enc:TypeId × Value→H} {P:Program} {W:World}
theorem laid_at {name:String} {d:DataW Unit} {rest:List (String × DataW Unit)} {g:Nat} {t:TypeId} (h:laidMet P ((name,d)::rest) W) (hg:P.globalNamed name=some g) (ht:(P.globals[g]?).map (·.type)=some t) {vs:List Value}
    (hc:∀(cs:List Value) (fuel:Nat) (p:List MemPlace),DataW.trod (fun _=>()) P W 0 (fun _=>true) false fuel t cs=some (d,p)→cs=vs) (hv:vs≠[]):∃e,W.heap[g]?=some (.cells vs.toArray e (0,0)):=by
  obtain⟨ps,⟨g',t',cs,fuel,p,q,hg',ht',hv',hd,_,hps⟩,_,hb⟩:=h;obtain rfl:g' = g:=Option.some.inj (hg'.symm.trans hg);obtain rfl:t' = t:=Option.some.inj (ht'.symm.trans ht);have hcs:=hc _ _ _ hd;have hcs' : cs=vs.toArray:=by rw[←hcs]
  obtain⟨⟨c,e,hce⟩,_⟩:=hb g' 0 (by
    rw[hps];refine List.mem_append_left _ (List.mem_append_left _ ?_);rw[hcs'];cases vs with
    | nil=>exact absurd rfl hv
    | cons a l=>simp[MemPlace.row])
  refine⟨e,?_⟩;rw[hce];simp only[World.var?,hg,Option.bind_some,hce,Option.some.injEq] at hv';rw[hv',hcs']
end
end Go.Am

namespace Go.Am
open Go.ChangeShapes Go.WideShapes Go.ChangeAt Go.RowKit
section
variable {E:Env}
theorem RL_app:∀{l m:List V} {cs ds:List Value},RL E l cs→RL E m ds→RL E (l++m) (cs++ds)
  | [],_,[],_,_,h=>h
  | [],_,_::_,_,h,_=>by simp[RL] at h
  | _::_,_,[],_,h,_=>by simp[RL] at h
  | x :: l, m, c :: cs, ds, h, h2 => by
    simp only[RL,List.cons_append] at h ⊢;exact⟨h.1,RL_app h.2 h2⟩
def u64At:Value→B64
  | .int .u64 z=>BitVec.ofInt 64 z
  | _=>0#64
theorem RL_u64s:∀(cs:List Value),(∀v∈cs,∃z:Int,v = .int .u64 z∧0≤z∧z<18446744073709551616)→RL E (encW (cs.map u64At)) cs
  | [],_=>by simp[encW,RL]
  | v :: cs, h => by
    obtain⟨z,rfl,h0,h1⟩:=h v (by simp);have ih:=RL_u64s cs fun v hv=>h v (by simp[hv])
    simp only[encW,List.map_cons,RL] at ih ⊢;refine⟨?_,ih⟩;simp only[R,u64At,Value.int.injEq,true_and];rw[BitVec.toNat_ofInt];omega
end
section
variable {H:Type} (enc:TypeId × Value→H) (P:Program) (W:World) (B:DataW H→Nat)
def Tld (N:Nat) (t:TypeId) (F:List V→Nat→Prop):Prop :=
  ∀n,n<N→∀cs x,DataW.trod enc P W 0 (fun _=>true) true n t cs=some x→∃l,RL (envOf W) l cs∧(∀v∈cs,v.oneCell' = true)∧F l (B x.1)
def Flds (N:Nat):List Field→Nat→(List V→Nat→Prop)→Prop
  | [],_,F=>F [] 0
  | f::r,o,F=>f.offset=o∧∃G,Tld enc P W B N f.type G∧∀l b,G l b→Flds N r (o+P.cellsOf f.type) fun l' b' => F (l++l') (b+b')
end
section
variable {H:Type} {enc:TypeId × Value→H} {P:Program} {W:World} {B:DataW H→Nat} {BA:List (DataW H)→Nat} {N:Nat} {t:TypeId}
theorem Tld.mono {M:Nat} {F:List V→Nat→Prop} (h:Tld enc P W B N t F) (hM:M≤N):Tld enc P W B M t F:=fun n hn=>h n (Nat.lt_of_lt_of_le hn hM)
theorem Tld.to {F G:List V→Nat→Prop} (h:Tld enc P W B N t F) (hg:∀l b,F l b→G l b):Tld enc P W B N t G:=fun n hn cs x hx =>
  let ⟨l,h1,h2,h3⟩:=h n hn cs x hx
  ⟨l,h1,h2,hg _ _ h3⟩
theorem tld_int {k:IntKind} (ht:P.underlying t=some (.int k)) (hB:BulkFn B BA):Tld enc P W B N t fun l b=>∃i:Int,l=[.int k i]∧b=1∧(Lit.int k i).wf=true:=fun n _ cs x h =>
  let ⟨i,h1,h2,h3,h4⟩:=rd_int ht hB h
  ⟨_,h1,h2,i,rfl,h3,h4⟩
theorem tld_bool (ht:P.underlying t=some .bool) (hB:BulkFn B BA):Tld enc P W B N t fun l b=>∃i:Bool,l=[.bool i]∧b=1:=fun n _ cs x h =>
  let ⟨i,h1,h2,h3⟩:=rd_bool ht hB h
  ⟨_,h1,h2,i,rfl,h3⟩
theorem tld_str (ht:P.underlying t=some .string) (hB:BulkFn B BA):Tld enc P W B N t fun l b=>∃s:List UInt8,l=[.str s]∧b=s.length+1:=fun n _ cs x h =>
  let ⟨s,h1,h2,h3⟩:=rd_str ht hB h
  ⟨_,h1,h2,s,rfl,h3.symm⟩
theorem tld_u64s {e:TypeId} {n:Nat} (ht:P.underlying t=some (.array n e)) (he:P.underlying e=some (.int .u64)) (hce:P.cellsOf e=1) (hct:P.cellsOf t=n):Tld enc P W B N t fun l _=>∃w:List B64,w.length=n∧l=encW w:=by
  intro q _ cs x h;obtain⟨xs,m,rfl,rfl,hl,hx,hf⟩:=DataW.trod_array ht h;rw[hct] at hl;have all:∀v∈cs,∃z:Int,v = .int .u64 z∧0≤z∧z<18446744073709551616:=by
    intro v hv;obtain⟨i,hi,rfl⟩:=List.mem_iff_getElem.1 hv;have h1:=hf i (by omega);rw[hce,Nat.mul_one,List.getElem?_eq_getElem (show i<xs.length by omega),List.drop_eq_getElem_cons hi,List.take_succ_cons,List.take_zero] at h1;obtain⟨z,e1,_,hw⟩:=DataW.trod_int he h1;simp[Lit.wf,IntKind.min,IntKind.max,IntKind.signed,IntKind.bits] at hw;exact⟨z,by simpa using e1,by omega,by omega⟩
  refine⟨_,RL_u64s cs all,fun v hv=>?_,cs.map u64At,by simp[hl],rfl⟩;obtain⟨z,rfl,_⟩:=all v hv;rfl
theorem tld_slice {α:Type} (ea:α→List V) (sz:α→Nat) {e:TypeId} {k:Nat} (hB:BulkFn B BA) (ht:P.underlying t=some (.slice e)) (hk:P.cellsOf e=k) (hpos:0<k) (hlen:∀y,(ea y).length=k)
    (hel:Tld enc P W B N e fun l b=>∃y,l=ea y∧sz y≤b):Tld enc P W B (N+1) t fun l b=>∃ys:List α,l=[.sl .no k (ys.map ea)]∧(ys.map sz).sum+1≤b:=by
  intro n hn cs x h;obtain⟨ys,h1,h2,h3⟩:=rd_slice ea sz hB ht hk hpos hlen (fun m hm cs x h=>by
    obtain⟨l,k1,k2,y,rfl,k3⟩:=hel m (by omega) cs x h;exact⟨y,k1,k2,k3⟩) h
  exact⟨_,h1,h2,ys,rfl,h3⟩
theorem flds_read (hB:BulkFn B BA) {m:Nat} (hm:m<N) {cs:List Value}:∀(fs:List Field) (o:Nat) (F:List V→Nat→Prop) (xs:List (DataW H × List MemPlace)),Flds enc P W B N fs o F→xs.length=fs.length →
    (∀(i:Nat) (f:Field),fs[i]?=some f→DataW.trod enc P W 0 (fun _=>true) true m f.type ((cs.drop f.offset).take (P.cellsOf f.type))=xs[i]?)→cs.length=o+(fs.map fun f=>P.cellsOf f.type).sum →
    ∃l,RL (envOf W) l (cs.drop o)∧(∀v∈cs.drop o,v.oneCell' = true)∧F l (BA (xs.map (·.1)))
  | [], o, F, xs, h, hx, _, hl => by
    obtain rfl:=List.eq_nil_of_length_eq_zero (by simpa using hx);simp only[List.map_nil,List.sum_nil,Nat.add_zero] at hl;refine⟨[],?_,?_,?_⟩
    · rw[List.drop_of_length_le (by omega)];simp[RL]
    · rw[List.drop_of_length_le (by omega)];simp
    · rw[List.map_nil,hB.no];exact h
  | f :: fs, o, F, xs, h, hx, hf, hl => by
    obtain⟨h1,G,h2,h3⟩:=h;cases xs with
    | nil=>simp at hx
    | cons x xs =>
      have h0:=hf 0 f rfl;rw[List.getElem?_cons_zero,h1] at h0;obtain⟨l,k1,k2,k3⟩:=h2 m hm _ x h0;simp only[List.map_cons,List.sum_cons] at hl;obtain⟨l',g1,g2,g3⟩:=flds_read hB hm fs (o+P.cellsOf f.type) _ xs (h3 l _ k3) (by simpa using hx) (fun i f' hi=>by simpa using hf (i+1) f' (by simpa using hi)) (by omega);have e:(cs.drop o).take (P.cellsOf f.type)++cs.drop (o+P.cellsOf f.type)=cs.drop o:=by rw[←List.drop_drop,List.take_append_drop]
      refine⟨l++l',?_,fun v hv=>?_,?_⟩
      · rw[←e];exact RL_app k1 g1
      · rw[←e] at hv
        rcases List.mem_append.1 hv with hv | hv
        · exact k2 v hv
        · exact g2 v hv
      · rw[List.map_cons,hB.cons];exact g3
theorem tld_struct (hB:BulkFn B BA) {fs:Array Field} (ht:P.underlying t=some (.struct fs)) {F:List V→Nat→Prop} (h:Flds enc P W B N fs.toList 0 F) (hc:P.cellsOf t=(fs.toList.map fun f=>P.cellsOf f.type).sum) :
    Tld enc P W B (N+1) t fun l b=>∃b',F l b' ∧ b=b' + 1:=by
  intro n hn cs x hx;obtain⟨xs,m,rfl,rfl,hl,hlen,hf⟩:=DataW.trod_struct ht hx;obtain⟨l,h1,h2,h3⟩:=flds_read hB (show m<N by omega) (cs:=cs) fs.toList 0 F xs h (by simpa using hlen) (fun i f hi=>hf i f (by simpa using hi)) (by omega);exact⟨l,h1,h2,_,h3,hB.agg _⟩
theorem flds_nil {o:Nat} {F:List V→Nat→Prop} (h:F [] 0):Flds enc P W B N [] o F:=h
theorem flds_cons {f:Field} {r:List Field} {o:Nat} {F G:List V→Nat→Prop} (h1:f.offset=o) (h2:Tld enc P W B N f.type G) (h3:∀l b,G l b→Flds enc P W B N r (o+P.cellsOf f.type) fun l' b' => F (l++l') (b+b')):Flds enc P W B N (f::r) o F:=⟨h1,G,h2,h3⟩
theorem tld_struct1 (hB:BulkFn B BA) {fs:List Field} (ht:P.underlying t=some (.struct fs.toArray)) {F:List V→Nat→Prop} (hc:P.cellsOf t=(fs.map fun f=>P.cellsOf f.type).sum) (h:Flds enc P W B N fs 0 fun l b=>F l (b+1)):Tld enc P W B (N+1) t F :=
  (tld_struct hB ht (F:=fun l b=>F l (b+1)) (by simpa using h) (by simpa using hc)).to fun l b ⟨b',h1,h2⟩=>h2▸h1
theorem tld_struct0 (hB:BulkFn B BA) {fs:List Field} (ht:P.underlying t=some (.struct fs.toArray)) {F:List V→Nat→Prop} (hc:P.cellsOf t=(fs.map fun f=>P.cellsOf f.type).sum) (h:Flds enc P W B N fs 0 fun l b=>F l (b+1)):Tld enc P W B N t F :=
  (tld_struct1 hB ht hc h).mono (Nat.le_succ N)
theorem tld_slice0 {α:Type} (ea:α→List V) (sz:α→Nat) {e:TypeId} {k:Nat} (hB:BulkFn B BA) (ht:P.underlying t=some (.slice e)) (hk:P.cellsOf e=k) (hpos:0<k) (hlen:∀y,(ea y).length=k)
    (hel:Tld enc P W B N e fun l b=>∃y,l=ea y∧sz y≤b):Tld enc P W B N t fun l b=>∃ys:List α,l=[.sl .no k (ys.map ea)]∧(ys.map sz).sum+1≤b :=
  (tld_slice ea sz hB ht hk hpos hlen hel).mono (Nat.le_succ N)
theorem tld_two {e:TypeId} {k:Nat} {F G:List V→Nat→Prop} (hB:BulkFn B BA) (ht:P.underlying t=some (.array 2 e)) (hk:P.cellsOf e=k) (hct:P.cellsOf t=2*k) (hel:Tld enc P W B N e G) (hF:∀l b l' b',G l b→G l' b' → F (l++l') (b+b' + 1)):Tld enc P W B N t F:=by
  intro n hn cs x h;obtain⟨xs,m,rfl,rfl,hl,hx,hf⟩:=DataW.trod_array ht h;obtain⟨x0,x1,rfl⟩:=list2 hx;have h0:=hf 0 (by omega);have h1:=hf 1 (by omega);rw[hk] at h0 h1;rw[hct] at hl;simp only[Nat.zero_mul,List.drop_zero,Nat.one_mul,List.getElem?_cons_zero,List.getElem?_cons_succ] at h0 h1;rw[List.take_of_length_le (by simp;omega)] at h1;obtain⟨l,k1,k2,k3⟩:=hel m (by omega) _ _ h0;obtain⟨l',g1,g2,g3⟩:=hel m (by omega) _ _ h1;refine⟨l++l',?_,fun v hv=>?_,?_⟩
  · have:=RL_app k1 g1
    rwa [List.take_append_drop] at this
  · rw[←List.take_append_drop k cs] at hv
    rcases List.mem_append.1 hv with hv | hv
    · exact k2 v hv
    · exact g2 v hv
  · have:=hF _ _ _ _ k3 g3
    simpa [hB.agg,hB.cons,hB.no] using this
end
end Go.Am

namespace Go.Proofs.Tryz
open Go.Am Go.ChangeShapes Go.WideShapes Go.ChangeAt Go.RowKit
open Go.Proofs.YtmgdldfokpcbkaaGreatDoor
theorem bulkFn (H:Type):BulkFn (H:=H) Rows.uptoBulk Rows.uptoBulkAll :=
  ⟨fun _=>by simp only[Rows.uptoBulk],fun _ _=>by simp only[Rows.uptoBulk],fun _=>by simp only[Rows.uptoBulk],by simp only[Rows.uptoBulk],fun _ _=>by simp only[Rows.uptoBulk],fun _=>by simp only[Rows.uptoBulk],by simp only[Rows.uptoBulkAll],fun _ _=>by simp only[Rows.uptoBulkAll]⟩
theorem laid:laidOutB prog=true:=by kernel_rfl
theorem rowed:mapsRowed prog=true:=by kernel_rfl
theorem fulls:((List.range prog.types.size).all fun t=>match prog.underlying t with | some (.slice e)=>decide (0<prog.cellsOf e) | _=>true)=true:=by kernel_rfl
theorem own:ownKnob prog.godebug=none:=by kernel_rfl
def gB:Nat→Option (List V):=fun b=>if b=0 then some formCells else if b=1 then some tzCells else none
theorem globs_at {W:World} (h:laidMetH prog Rows.fitRightRow.laid W):MGlob W gB:=by
  have h0:laidMet prog Rows.fitRightRow.laid W:=h;have h1:=laidMet.tail h0;obtain⟨e0,k0⟩:=laid_at (g:=0) (t:=170) (vs:=formCells.map litV) h0 (by kernel_rfl) (by kernel_rfl) (fun cs fuel p hd=>(cells_of_pairs (ps:=formT) underlying170 underlying154 (by kernel_rfl) (by kernel_rfl) (by kernel_rfl) underlying9 (by kernel_rfl) (by kernel_rfl) (by kernel_rfl) hd).trans rfl) (by simp[formCells,formT]);obtain⟨e1,k1⟩:=laid_at (g:=1) (t:=187) (vs:=tzCells.map litV) h1 (by kernel_rfl) (by kernel_rfl) (fun cs fuel p hd=>(Lib.cells_of_tab (zs:=tzTab) underlying187 underlying5 (by kernel_rfl) (by kernel_rfl) hd).trans rfl) (by simp[tzCells,tzTab]);intro b cs hb;simp only[gB] at hb;split at hb
  · rename_i hq;subst hq;obtain rfl:=Option.some.inj hb;exact⟨⟨e0,k0⟩,by decide⟩
  split at hb
  · rename_i hq;subst hq;obtain rfl:=Option.some.inj hb;exact⟨⟨e1,k1⟩,by decide⟩
  simp at hb
def lay1:DataW Unit→List Value
  | .lit (.int k n)=>[.int k n]
  | .lit (.string s)=>[txtVal s]
  | _=>[]
def lay2:DataW Unit→List Value
  | .agg ds=>ds.flatMap lay1
  | d=>lay1 d
def lay3:DataW Unit→List Value
  | .agg ds=>ds.flatMap lay2
  | d=>lay1 d
def layAt (h:Array Obj) (x:Nat × DataW Unit):Array Obj:=h.modify x.1 fun
  | .cells _ t frozen=>.cells (lay3 x.2).toArray t frozen
  | o=>o
noncomputable def laidWorld (os:Os):World :=
  {World.holding prog os ⟨#[],#[],[]⟩ with heap:=[(0,Rows.laid_clearance_command_forms),(1,Rows.laid_math_bits_deBruijn64tab)].foldl layAt (World.holding prog os ⟨#[],#[],[]⟩).heap}
set_option maxRecDepth 100000
section
variable {H:Type} {enc:TypeId × Value→H} {W:World} {N:Nat}
abbrev TL (enc:TypeId × Value→H) (W:World) (N:Nat) (t:TypeId) (F:List V→Nat→Prop):Prop:=Tld enc prog W (Rows.uptoBulk (H:=H)) N t F
theorem r_int:TL enc W N 3 fun l b=>∃y:Int,l=[.int .i64 y]∧1≤b:=(tld_int underlying3 (bulkFn H)).to fun _ _ ⟨y,h,k,_⟩=>⟨y,h,by omega⟩
theorem r_bool:TL enc W N 4 fun l b=>∃y:Bool,l=[.bool y]∧1≤b:=(tld_bool underlying4 (bulkFn H)).to fun _ _ ⟨y,h,k⟩=>⟨y,h,by omega⟩
theorem r_str:TL enc W N 9 fun l b=>∃y:List UInt8,l=[.str y]∧y.length+1≤b:=(tld_str underlying9 (bulkFn H)).to fun _ _ ⟨y,h,k⟩=>⟨y,h,by omega⟩
theorem r_word:TL enc W N 27 fun l b=>∃y:Word,l=y.enc∧y.text.length+1≤b:=by
  refine tld_struct0 (bulkFn H) underlying27 (by kernel_rfl) ?_;refine flds_cons (by kernel_rfl) r_str ?_;rintro _ b0 ⟨y0,rfl,h0⟩;refine flds_cons (by kernel_rfl) r_int ?_;rintro _ b1 ⟨y1,rfl,h1⟩;exact flds_nil ⟨⟨y0,y1⟩,by rfl,by simp only;omega⟩
theorem r_words:TL enc W N 28 fun l b=>∃ys:List (Word),l=[.sl .no 2 (ys.map Word.enc)]∧wsum ys+1≤b :=
  (tld_slice0 Word.enc (fun w=>w.text.length+1) (bulkFn H) underlying28 (show prog.cellsOf 27=2 by kernel_rfl) (by decide) (fun _=>rfl) r_word)
theorem r_node:∀N,TL enc W N 32 fun l b=>∃y:Nd,l=y.enc∧y.wt+1≤b
  | 0=>fun n hn=>absurd hn (Nat.not_lt_zero n)
  | N + 1 => by
    refine tld_struct1 (bulkFn H) underlying32 (by kernel_rfl) ?_;refine flds_cons (by kernel_rfl) r_int ?_;rintro _ b0 ⟨y0,rfl,h0⟩;refine flds_cons (by kernel_rfl) r_int ?_;rintro _ b1 ⟨y1,rfl,h1⟩;refine flds_cons (by kernel_rfl) r_str ?_;rintro _ b2 ⟨y2,rfl,h2⟩;refine flds_cons (by kernel_rfl) r_words ?_;rintro _ b3 ⟨y3,rfl,h3⟩;refine flds_cons (by kernel_rfl) (tld_slice0 Nd.enc (fun n=>n.wt+1) (bulkFn H) underlying30 (show prog.cellsOf 32=5 by kernel_rfl) (by decide) (fun _=>Nd.r_len) (r_node N)) ?_;rintro _ b4 ⟨y4,rfl,h4⟩;rw[←wts_map] at h4;exact flds_nil ⟨.mk y0 y1 y2 y3 y4,by rw[Nd.enc_eq];rfl,by simp only[Nd.wt];omega⟩
theorem r_names:TL enc W N 67 fun l b=>∃ys:List (List UInt8),l=[.sl .no 1 (sCells ys)]∧(ys.map fun s=>s.length+1).sum+1≤b :=
  tld_slice0 (fun s:List UInt8=>[V.str s]) (fun s=>s.length+1) (bulkFn H) underlying67 (show prog.cellsOf 9=1 by kernel_rfl) (by decide) (fun _=>rfl) (r_str.to fun _ _ ⟨y,h,k⟩=>⟨y,h,k⟩)
theorem r_rel:TL enc W N 70 fun l b=>∃y:Rl,l=y.enc∧0≤b:=by
  refine tld_struct0 (bulkFn H) underlying70 (by kernel_rfl) ?_;refine flds_cons (by kernel_rfl) r_int ?_;rintro _ b0 ⟨y0,rfl,h0⟩;refine flds_cons (by kernel_rfl) (tld_u64s underlying68 underlying39 (by kernel_rfl) (by kernel_rfl)) ?_;rintro _ b1 ⟨y1,h1,rfl⟩;exact flds_nil ⟨⟨y0,y1,h1⟩,by rw[List.append_nil];rfl,Nat.zero_le _⟩
theorem r_fct:TL enc W N 72 fun l b=>∃y:Fct,l=y.enc∧0≤b:=by
  refine tld_struct0 (bulkFn H) underlying72 (by kernel_rfl) ?_;refine flds_cons (by kernel_rfl) r_int ?_;rintro _ b0 ⟨y0,rfl,h0⟩;refine flds_cons (by kernel_rfl) r_names ?_;rintro _ b1 ⟨y1,rfl,h1⟩;refine flds_cons (by kernel_rfl) r_rel ?_;rintro _ b2 ⟨y2,rfl,h2⟩;exact flds_nil ⟨⟨y0,y1,y2⟩,by simp[Fct.enc],by exact Nat.zero_le _⟩
theorem r_fcts:TL enc W N 58 fun l b=>∃ys:List (Fct),l=[.sl .no 67 (ys.map Fct.enc)]∧(ys.map fun _=>0).sum+1≤b :=
  (tld_slice0 Fct.enc (fun _=>0) (bulkFn H) underlying58 (show prog.cellsOf 72=67 by kernel_rfl) (by decide) (fun _=>Fct.r_len) r_fct)
theorem r_shp:TL enc W N 60 fun l b=>∃y:Shp,l=y.enc∧0≤b:=by
  refine tld_struct0 (bulkFn H) underlying60 (by kernel_rfl) ?_;refine flds_cons (by kernel_rfl) r_bool ?_;rintro _ b0 ⟨y0,rfl,h0⟩;refine flds_cons (by kernel_rfl) r_fcts ?_;rintro _ b1 ⟨y1,rfl,h1⟩;exact flds_nil ⟨⟨y0,y1⟩,by rfl,by exact Nat.zero_le _⟩
theorem r_lat:TL enc W N 62 fun l b=>∃y:Ltc,l=y.enc∧0≤b:=by
  refine tld_struct0 (bulkFn H) underlying62 (by kernel_rfl) ?_;refine flds_cons (by kernel_rfl) r_str ?_;rintro _ b0 ⟨y0,rfl,h0⟩;refine flds_cons (by kernel_rfl) r_shp ?_;rintro _ b1 ⟨y1,rfl,h1⟩;exact flds_nil ⟨⟨y0,y1⟩,by rfl,by exact Nat.zero_le _⟩
theorem r_var:TL enc W N 65 fun l b=>∃y:Vrb,l=y.enc∧0≤b:=by
  refine tld_struct0 (bulkFn H) underlying65 (by kernel_rfl) ?_;refine flds_cons (by kernel_rfl) r_str ?_;rintro _ b0 ⟨y0,rfl,h0⟩;refine flds_cons (by kernel_rfl) r_int ?_;rintro _ b1 ⟨y1,rfl,h1⟩;refine flds_cons (by kernel_rfl) r_int ?_;rintro _ b2 ⟨y2,rfl,h2⟩;exact flds_nil ⟨⟨y0,y1,y2⟩,by rfl,by exact Nat.zero_le _⟩
theorem r_lats:TL enc W N 22 fun l b=>∃ys:List (Ltc),l=[.sl .no 3 (ys.map Ltc.enc)]∧(ys.map fun _=>0).sum+1≤b :=
  (tld_slice0 Ltc.enc (fun _=>0) (bulkFn H) underlying22 (show prog.cellsOf 62=3 by kernel_rfl) (by decide) (fun _=>rfl) r_lat)
theorem r_vars:TL enc W N 23 fun l b=>∃ys:List (Vrb),l=[.sl .no 3 (ys.map Vrb.enc)]∧(ys.map fun _=>0).sum+1≤b :=
  (tld_slice0 Vrb.enc (fun _=>0) (bulkFn H) underlying23 (show prog.cellsOf 65=3 by kernel_rfl) (by decide) (fun _=>rfl) r_var)
theorem r_scp:TL enc W N 25 fun l b=>∃y:Scp,l=y.enc∧0≤b:=by
  refine tld_struct0 (bulkFn H) underlying25 (by kernel_rfl) ?_;refine flds_cons (by kernel_rfl) r_lats ?_;rintro _ b0 ⟨y0,rfl,h0⟩;refine flds_cons (by kernel_rfl) r_vars ?_;rintro _ b1 ⟨y1,rfl,h1⟩;exact flds_nil ⟨⟨y0,y1⟩,by rfl,by exact Nat.zero_le _⟩
theorem r_pair:TL enc W N 95 fun l b=>∃y:Word × Word,l=penc y∧y.1.text.length+y.2.text.length+2≤b :=
  tld_two (bulkFn H) underlying95 (show prog.cellsOf 27=2 by kernel_rfl) (by kernel_rfl) r_word fun _ _ _ _ ⟨y,e,h⟩ ⟨z,e',h'⟩=>⟨(y,z),by subst e e';rfl,by simp only;omega⟩
theorem r_pairs:TL enc W N 29 fun l b=>∃ys:List (Word × Word),l=[.sl .no 4 (ys.map penc)]∧psum ys+1≤b :=
  (tld_slice0 penc (fun p=>p.1.text.length+p.2.text.length+2) (bulkFn H) underlying29 (show prog.cellsOf 95=4 by kernel_rfl) (by decide) (fun _=>rfl) r_pair)
theorem r_cmd:TL enc W N 34 fun l b=>∃y:Cmd,l=y.enc∧y.wt≤b:=by
  refine tld_struct0 (bulkFn H) underlying34 (by kernel_rfl) ?_;refine flds_cons (by kernel_rfl) r_int ?_;rintro _ b0 ⟨y0,rfl,h0⟩;refine flds_cons (by kernel_rfl) r_int ?_;rintro _ b1 ⟨y1,rfl,h1⟩;refine flds_cons (by kernel_rfl) r_word ?_;rintro _ b2 ⟨y2,rfl,h2⟩;refine flds_cons (by kernel_rfl) r_words ?_;rintro _ b3 ⟨y3,rfl,h3⟩;refine flds_cons (by kernel_rfl) r_pairs ?_;rintro _ b4 ⟨y4,rfl,h4⟩;refine flds_cons (by kernel_rfl) r_int ?_;rintro _ b5 ⟨y5,rfl,h5⟩;refine flds_cons (by kernel_rfl) (r_node N) ?_;rintro _ b6 ⟨y6,rfl,h6⟩;refine flds_cons (by kernel_rfl) (r_node N) ?_;rintro _ b7 ⟨y7,rfl,h7⟩;exact flds_nil ⟨⟨y0,y1,y2,y3,y4,y5,y6,y7⟩,by simp[Cmd.enc,Cmd.encP,Word.enc,Nd.enc_eq],by simp only[Cmd.wt];omega⟩
end
end Go.Proofs.Tryz

namespace Go.Proofs.Tryz
open Go.Am
set_option maxRecDepth 4000
set_option maxHeartbeats 4000000
def ac26:AC:=.seq (.reg [⟨(some 2),.box 2 (.s 0),none⟩,xi 4 0])
 (.seq (.seq (.reg [xi 5 0])
 (.block 0 (.loop (.seq (.seq (.reg [xm 6 5,xf 0 7 2,xo 8 7,xL 9 8,xb .lss 10 6 9])
 (.cond (.s 10) (.skip)
 (.exit 0)))
 (.seq (.block 1 (.seq (.reg [xf 0 13 2,xo 14 13,xm 15 5,xA 3 16 14 15,xf 0 17 16,xo 18 17,xm 19 1,⟨(some 20),.binS .eql (.s 18) (.s 19),none⟩])
 (.cond (.s 20) (.seq (.reg [xm 21 5,xm 4 21])
 (.ret))
 (.skip))))
 (.reg [xm 11 5,xB .add 12 11 1,xm 5 12]))))))
 (.seq (.reg [xi 4 (-1)])
 (.ret)))
theorem fn26:IsFn prog 26 ac26 [.tmp 4] 22:=⟨f26,⟨[],[],[]⟩,func26,by kernel_rfl,by kernel_rfl,by kernel_rfl,by kernel_rfl⟩
def ac65:AC:=.seq (.reg [⟨(some 2),.alloc [(.int .i64 0),(.int .i64 0)],none⟩])
 (.seq (.reg [⟨(some 3),.alloc [(.int .i64 0),(.int .i64 0)],none⟩])
 (.seq (.seq (.reg [xi 4 0])
 (.block 0 (.loop (.seq (.seq (.reg [xm 6 4,xm 7 0,xL 8 7,xb .lss 9 6 8])
 (.cond (.s 9) (.skip)
 (.exit 0)))
 (.seq (.block 1 (.seq (.reg [xm 12 0,xm 13 4,xA 2 14 12 13,xl 2 15 14,⟨(some 5),.alloc [(.int .i64 0),(.int .i64 0)],none⟩,xs 2 5 15])
 (.seq (.reg [xf 0 16 5,xo 17 16,xB .neq 18 17 0,xm 19 18,xg 19 (xf 0 20 3),xg 19 (xo 21 20),xg 19 (xB .eql 22 21 0),xg 19 (xm 23 22),xh 23 (xf 0 24 5),xh 23 (xo 25 24),xh 23 (xf 0 26 3),xh 23 (xo 27 26),xh 23 (xb .lss 28 25 27),⟨(some 29),.pick (.s 23) (.c (.bool true)) (.s 28),(some (19,true))⟩,xg 19 (xm 30 29),xh 30 (xf 0 31 5),xh 30 (xo 32 31),xh 30 (xf 0 33 3),xh 30 (xo 34 33),xh 30 (xb .eql 35 32 34),xh 30 (xm 36 35),xg 36 (xf 1 37 5),xg 36 (xo 38 37),xg 36 (xf 1 39 3),xg 36 (xo 40 39),xg 36 (xb .lss 41 38 40),⟨(some 42),.pick (.s 36) (.s 41) (.c (.bool false)),(some (30,false))⟩,⟨(some 43),.pick (.s 30) (.c (.bool true)) (.s 42),(some (19,true))⟩,⟨(some 44),.pick (.s 19) (.s 43) (.c (.bool false)),none⟩])
 (.cond (.s 44) (.reg [xl 2 45 5,xs 2 3 45])
 (.skip)))))
 (.reg [xm 10 4,xB .add 11 10 1,xm 4 11]))))))
 (.seq (.reg [xl 2 46 3,xs 2 2 46])
 (.ret))))
theorem fn65:IsFn prog 65 ac65 [.cell 2 true 2] 47:=⟨f65,⟨[],[],[]⟩,func65,by kernel_rfl,by kernel_rfl,by kernel_rfl,by kernel_rfl⟩
def ac66:AC:=.seq (.reg [⟨(some 5),.box 2 (.s 0),none⟩,⟨(some 10),.mv (.c (.sl .full 2 [])),none⟩])
 (.seq (.reg [xl 2 12 5,xm 13 1,xc 30 14 [.s 12,.s 13],xm 11 14])
 (.seq (.seq (.reg [xm 15 11,xB .lss 16 15 0,xm 17 16,xg 17 (xl 2 18 5),xg 17 (xm 19 1),xg 17 (xc 26 20 [.s 18,.s 19]),xg 17 (xB .lss 21 20 0),⟨(some 22),.pick (.s 17) (.s 21) (.c (.bool false)),none⟩])
 (.cond (.s 22) (.seq (.reg [xm 23 2,⟨(some 24),.build [(.int .i64 0),(.int .i64 0)] [(0,1,(.c (.int .i64 3))),(1,1,(.s 23))],none⟩,⟨(some 25),.bslice 2 [(.s 24)],none⟩,xm 10 25])
 (.ret))
 (.skip)))
 (.seq (.seq (.reg [xm 26 11,xB .lss 27 26 0,xm 28 27,xh 28 (xf 1 29 5),xh 28 (xo 30 29),xh 28 (xm 31 11),xh 28 (xA 3 32 30 31),xh 28 (xf 1 33 32),xh 28 (xo 34 33),xh 28 (xm 35 3),xh 28 (xb .neq 36 34 35),⟨(some 37),.pick (.s 28) (.c (.bool true)) (.s 36),none⟩,xm 38 37,xh 38 (xm 39 4),xh 38 (xB .geq 40 39 0),xh 38 (xm 41 40),xg 41 (xf 1 42 5),xg 41 (xo 43 42),xg 41 (xm 44 11),xg 41 (xA 3 45 43 44),xg 41 (xf 2 46 45),xg 41 (xo 47 46),xg 41 (xm 48 4),xg 41 (xb .neq 49 47 48),⟨(some 50),.pick (.s 41) (.s 49) (.c (.bool false)),(some (38,false))⟩,⟨(some 51),.pick (.s 38) (.c (.bool true)) (.s 50),none⟩])
 (.cond (.s 51) (.seq (.reg [xm 52 2,⟨(some 53),.build [(.int .i64 0),(.int .i64 0)] [(0,1,(.c (.int .i64 4))),(1,1,(.s 52))],none⟩,⟨(some 54),.bslice 2 [(.s 53)],none⟩,xm 10 54])
 (.ret))
 (.skip)))
 (.seq (.reg [⟨(some 10),.mv (.c (.sl .full 2 [])),none⟩])
 (.ret)))))
theorem fn66:IsFn prog 66 ac66 [.tmp 10] 55:=⟨f66,⟨[],[],[]⟩,func66,by kernel_rfl,by kernel_rfl,by kernel_rfl,by kernel_rfl⟩
theorem lat13_calls (s:Scp) (t:List UInt8) (σ:Store) (h2:s.lats.length≤100000):PCalls prog 26 [.agg s.enc,.str t] σ fun v σ' => v = .int .i64 (optI (findL s.lats t))∧σ' = σ:=by
  refine fn26.calls ?_;simp only[slots,ac26,am,ams,Nat.reduceAdd,Int.reduceNeg,Scp.rec_];have eV:∀i (hi:i<s.lats.length),nameL s.lats t i=decide (s.lats[i].name=t):=fun i hi=>by simp only[nameL,List.getElem?_eq_getElem hi]
  obtain⟨F,hF⟩:∃F:Nat→Unit→St,∀i x,F i x=⟨[.any,.str t,.ptr (.loc 0) 0,.any,.any,.int .i64 (i:Nat)]++List.replicate 16 .any,[s.enc],σ⟩:=⟨_,fun _ _=>rfl⟩;obtain⟨JF,hJF⟩:∃JF:Nat→Unit→Prop,∀i x,JF i x=(∀k,k<i→nameL s.lats t k=false):=⟨_,fun _ _=>rfl⟩;refine vc_count (s.lats.length) F JF _ hJF ?_ ?_ ?_
  · refine ent (()) ?_ ?_ ?_ ?_
    · exact Eq.mpr (hJF _ _) (by intro k h;omega)
    all_goals simp[hF,List.replicate,am,lle_self]
  · rintro i x hi hJ;simp only[hF,List.replicate,am,dlt hi,Int.reduceNeg,Scp.rec_,List.length_map];refine idxL_intro (by omega) (lats_at hi) ?_;simp only[am,Int.reduceNeg,Scp.rec_]
    by_cases h:s.lats[i].name=t
    · have e:findL s.lats t=some i:=find_at hi hJ (by rw[eV i hi];exact decide_eq_true h);simp only[am,aml,Int.reduceNeg,decide_eq_true h];refine retS ?_;simp[V.erase,e,optI]
    · simp only[am,aml,Int.reduceNeg,decide_eq_false h,winc hi (by omega)];refine nxt (()) hi ?_ ?_ ?_ ?_
      · exact Eq.mpr (hJF _ _) (allS hJ (by rw[eV i hi];exact decide_eq_false h))
      all_goals simp[hF,List.replicate,am,lle_self]
  · rintro x hJ;have e:findL s.lats t=none:=find_no hJ;simp only[hF,List.replicate,am,aml,dnl,aml,Int.reduceNeg,Scp.rec_,List.length_map];refine retS ?_;simp[V.erase,e,optI]
theorem rleast_calls (l:List Flt) (σ:Store) (hl:l.length≤10000000):PCalls prog 65 [.sl .no 2 (l.map Flt.enc)] σ fun v σ' => v = .agg (leastF l).enc∧σ' = σ:=by
  refine fn65.calls ?_;simp only[slots,ac65,am,ams];obtain⟨F,hF⟩:∃F:Nat→Unit→St,∀i x,F i x=⟨[.sl .no 2 (l.map Flt.enc),.any,.ptr (.loc 0) 0,.ptr (.loc 1) 0,.int .i64 (i:Nat)]++List.replicate 42 .any,[Flt.zero.enc,(leastF (l.take i)).enc],σ⟩:=⟨_,fun _ _=>rfl⟩;obtain⟨JF,hJF⟩:∃JF:Nat→Unit→Prop,∀i x,JF i x=(True):=⟨_,fun _ _=>rfl⟩;refine vc_count (l.length) F JF _ hJF ?_ ?_ ?_
  · refine ent (()) ?_ ?_ ?_ ?_
    · exact Eq.mpr (hJF _ _) (trivial)
    all_goals simp[hF,List.replicate,am,lle_self,leastF,Flt.zero,Flt.enc]
  · rintro i x hi -;have hT:=least_take hi;simp only[hF,List.replicate,am,dlt hi,List.length_map];refine idxL_intro (by omega) (flts_at hi) ?_;simp only[am,Nat.reduceAdd,Flt.rec_];generalize leastF (l.take i)=o at hT;generalize l[i]=f at hT
    by_cases h0:f.cls=0
    · rw[bestF,if_pos h0] at hT;simp only[am,aml,decide_eq_true h0,winc hi (by omega)];refine nxtD (()) hi ?_ ?_ ?_ ?_ ?_ ?_
      · exact Eq.mpr (hJF _ _) (trivial)
      all_goals simp[hF,List.replicate,am,lle_self,loL,loLL,V.lo,hT,Flt.r_lo]
    rw[bestF,if_neg h0] at hT;simp only[am,Flt.rec_,decide_eq_false h0];have yes:lessF o f=true→leastF (l.take (i+1))=f:=fun h=>by rw[hT,h,if_pos rfl]
    have no:lessF o f=false→leastF (l.take (i+1))=o:=fun h=>by rw[hT,h];rfl
    by_cases h1:o.cls=0
    · have e:=yes (by simp[lessF,h1]);simp only[am,aml,Flt.rec_,decide_eq_true h1,winc hi (by omega)];refine nxtD (()) hi ?_ ?_ ?_ ?_ ?_ ?_
      · exact Eq.mpr (hJF _ _) (trivial)
      all_goals simp[hF,List.replicate,am,lle_self,loL,loLL,V.lo,e,Flt.r_lo]
    simp only[am,Flt.rec_,decide_eq_false h1]
    by_cases h2:f.cls<o.cls
    · have e:=yes (by simp[lessF,h2]);simp only[am,aml,Flt.rec_,decide_eq_true h2,winc hi (by omega)];refine nxtD (()) hi ?_ ?_ ?_ ?_ ?_ ?_
      · exact Eq.mpr (hJF _ _) (trivial)
      all_goals simp[hF,List.replicate,am,lle_self,loL,loLL,V.lo,e,Flt.r_lo]
    simp only[am,Flt.rec_,decide_eq_false h2]
    by_cases h3:f.cls=o.cls
    case neg =>
      have e:=no (by simp[lessF,h1,h2,h3]);simp only[am,aml,decide_eq_false h3,winc hi (by omega)];refine nxtD (()) hi ?_ ?_ ?_ ?_ ?_ ?_
      · exact Eq.mpr (hJF _ _) (trivial)
      all_goals simp[hF,List.replicate,am,lle_self,loL,loLL,V.lo,e,Flt.r_lo]
    simp only[am,Flt.rec_,decide_eq_true h3]
    by_cases h4:f.loc<o.loc
    · have e:=yes (by simp[lessF,h3,h4]);simp only[am,aml,Flt.rec_,decide_eq_true h4,winc hi (by omega)];refine nxtD (()) hi ?_ ?_ ?_ ?_ ?_ ?_
      · exact Eq.mpr (hJF _ _) (trivial)
      all_goals simp[hF,List.replicate,am,lle_self,loL,loLL,V.lo,e,Flt.r_lo]
    · have e:=no (by simp[lessF,h1,h2,h4]);simp only[am,aml,decide_eq_false h4,winc hi (by omega)];refine nxtD (()) hi ?_ ?_ ?_ ?_ ?_ ?_
      · exact Eq.mpr (hJF _ _) (trivial)
      all_goals simp[hF,List.replicate,am,lle_self,loL,loLL,V.lo,e,Flt.r_lo]
  · rintro x -;simp only[hF,List.replicate,am,aml,dnl,aml,Flt.rec_,List.length_map,List.take_length];refine retS ?_;simp[V.erase,Flt.r_er]
theorem rvar_calls (s:Scp) (t:List UInt8) (p kind lat:Int) (σ:Store) (hs:s.ok):PCalls prog 66 [.agg s.enc,.str t,.int .i64 p,.int .i64 kind,.int .i64 lat] σ fun v σ' => v = .sl .no 2 ((varFl s lat t p kind).map Flt.enc)∧σ' = σ:=by
  refine fn66.calls ?_;simp only[slots,ac66,am,ams,Nat.reduceAdd,Scp.rec_];refine cl (var_calls s t σ hs.2.1) ?_;cases hv:findV s.vars t with
  | none =>
    simp only[am,decide_true,Int.reduceNeg,Int.reduceLT,Scp.rec_,optI];refine cl (lat13_calls s t σ hs.1) ?_;have e:varFl s lat t p kind=if (findL s.lats t).isNone then [⟨3,p⟩] else [⟨4,p⟩]:=by rw[varFl,hv]
    cases hL:findL s.lats t with
    | none =>
      simp only[am,Nat.reduceAdd,decide_true,Int.reduceNeg,Int.reduceLT,optI];exact retK_intro rfl (Store.sub_refl _) ⟨by rw[e,hL];rfl,rfl⟩
    | some k =>
      simp only[am,Nat.reduceAdd,decide_true,Int.reduceNeg,Int.reduceLT,optI,decide_eq_false (show ¬((k:Nat):Int)<0 by omega)];exact retK_intro rfl (Store.sub_refl _) ⟨by rw[e,hL];rfl,rfl⟩
  | some v =>
    have hlt:=findV_lt hv;have e:varFl s lat t p kind=if s.vars[v].kind≠kind∨(0≤lat∧s.vars[v].lat≠lat) then [⟨4,p⟩] else []:=by
      rw[varFl,hv];simp only[List.getElem?_eq_getElem hlt]
    simp only[am,Scp.rec_,optI,decide_eq_false (show ¬((v:Nat):Int)<0 by omega)];refine idxL_intro (by omega) (vars_at hlt) ?_
    by_cases hk:s.vars[v].kind=kind
    case neg =>
      simp only[am,Nat.reduceAdd,Scp.rec_,decide_eq_false hk];exact retK_intro rfl (Store.sub_refl _) ⟨by rw[e,if_pos (.inl hk)];rfl,rfl⟩
    simp only[am,Scp.rec_,decide_eq_true hk]
    by_cases h0:0≤lat
    case neg =>
      simp only[am,decide_eq_false h0];exact retK_intro rfl (Store.sub_refl _) ⟨by rw[e,if_neg (fun h=>h.elim (fun h=>h hk) (fun h=>h0 h.1))];rfl,rfl⟩
    simp only[am,Scp.rec_,decide_eq_true h0];refine idxL_intro (by omega) (vars_at hlt) ?_
    by_cases hl:s.vars[v].lat=lat
    · simp only[am,Scp.rec_,decide_eq_true hl];exact retK_intro rfl (Store.sub_refl _) ⟨by rw[e,if_neg (fun h=>h.elim (fun h=>h hk) (fun h=>h.2 hl))];rfl,rfl⟩
    · simp only[am,Nat.reduceAdd,Scp.rec_,decide_eq_false hl];exact retK_intro rfl (Store.sub_refl _) ⟨by rw[e,if_pos (.inr ⟨h0,hl⟩)];rfl,rfl⟩
end Go.Proofs.Tryz

namespace Go.Proofs.Tryz
open Go.Am
set_option maxRecDepth 4000
set_option maxHeartbeats 4000000
def ac68:AC:=.seq (.reg [⟨(some 3),.box 2 (.s 0),none⟩,⟨(some 4),.box 5 (.s 1),none⟩,⟨(some 6),.mv (.c (.sl .full 2 [])),none⟩])
 (.seq (.reg [⟨(some 7),.mv (.c (.sl .full 2 [])),none⟩])
 (.seq (.seq (.reg [xf 0 11 4,xo 12 11,xB .eql 13 12 1])
 (.cond (.s 13) (.seq (.reg [xl 2 14 3,xf 2 15 4,xo 16 15,xf 1 17 4,xo 18 17,xm 19 2,xc 66 20 [.s 14,.s 16,.s 18,.c (.int .i64 1),.s 19],xm 6 20])
 (.ret))
 (.skip)))
 (.seq (.seq (.reg [xf 0 21 4,xo 22 21,xB .eql 23 22 7])
 (.cond (.s 23) (.seq (.seq (.reg [xf 4 24 4,xo 25 24,xL 26 25,xB .gtr 27 26 0,xm 28 27,xg 28 (xm 29 2),xg 28 (xB .geq 30 29 0),⟨(some 31),.pick (.s 28) (.s 30) (.c (.bool false)),none⟩])
 (.cond (.s 31) (.seq (.drawA [8,9] [(xf 0 33 3,[]),(xo 34 33,[]),(xm 35 2,[]),(xA 3 36 34 35,[]),(xf 1 37 36,[]),(xl 2 38 37,[]),(xf 4 39 4,[]),(xo 40 39,[]),(⟨(some 41),.idxA 5 (.s 40) (.c (.int .i64 0)),none⟩,[]),(xl 5 42 41,[]),(xc 69 43 [.s 38,.s 42],[]),(xm 32 43,[]),(xe 44 32 0,[]),(xe 45 32 1,[]),(⟨none,.mv (.c .any),none⟩,[]),(⟨none,.mv (.c .any),none⟩,[]),(⟨(some 8),.boxS 8 (.s 44),none⟩,[]),(⟨(some 9),.boxS 2 (.s 45),none⟩,[])])
 (.reg [xm 46 7,xl 2 47 9,⟨(some 48),.bslice 2 [(.s 47)],none⟩,xa 2 49 46 48,xm 7 49]))
 (.skip)))
 (.seq (.reg [xm 50 7,xm 6 50])
 (.ret)))
 (.skip)))
 (.seq (.seq (.reg [xi 10 0])
 (.block 0 (.loop (.seq (.seq (.reg [xm 51 10,xf 4 52 4,xo 53 52,xL 54 53,xb .lss 55 51 54])
 (.cond (.s 55) (.skip)
 (.exit 0)))
 (.seq (.block 1 (.draw [(xm 58 7,[]),(xl 2 59 3,[]),(xf 4 60 4,[]),(xo 61 60,[]),(xm 62 10,[]),(xA 5 63 61 62,[]),(xl 5 64 63,[]),(xm 65 2,[]),(xc 68 66 [.s 59,.s 64,.s 65],[]),(xa 2 67 58 66,[]),(xm 7 67,[])]))
 (.reg [xm 56 10,xB .add 57 56 1,xm 10 57]))))))
 (.seq (.reg [xm 68 7,xm 6 68])
 (.ret))))))
theorem fn68:IsFn prog 68 ac68 [.tmp 6] 69:=⟨f68,⟨[],[],[]⟩,func68,by kernel_rfl,by kernel_rfl,by kernel_rfl,by kernel_rfl⟩
theorem fltV_enc (o:Option Int):fltV o=(fltO o).enc:=by cases o<;>rfl
mutual
theorem labRl_len {s:Scp} {lat:Int}:∀n:Nd,(labRl s lat n).length≤n.cnt
  | .mk k p t ws ks => by
    have h1:=@varFl_len s lat t p 1;have h2:=labsRl_len (s:=s) (lat:=lat) ks;rw[labRl,Nd.cnt];split
    · omega
    · split
      · split<;>simp<;>omega
      · omega
theorem labsRl_len {s:Scp} {lat:Int}:∀l:List Nd,(labsRl s lat l).length≤cnts l
  | []=>by simp[labsRl]
  | n :: ns => by
    have:=labRl_len (s:=s) (lat:=lat) n;have:=labsRl_len (s:=s) (lat:=lat) ns
    rw[labsRl,List.length_append,cnts];omega
end
theorem rlabel_calls (s:Scp) (lat:Int) (hs:s.ok) (hlat:lat<s.lats.length):∀(k:Nat) (n:Nd) (σ:Store),n.wt≤k→n.wt≤big→n.cnt≤100000 →
    PCalls prog 68 [.agg s.enc,.agg n.enc,.int .i64 lat] σ fun v σ' => v = .sl .no 2 ((labRl s lat n).map Flt.enc)∧σ' = σ
  | 0,n,σ,hk,_,_=>absurd hk (by cases n;simp[Nd.wt];try omega)
  | k + 1, n, σ, hk, hw, hc => by
    refine fn68.calls ?_;simp only[slots,ac68,z27_,Nat.reduceAdd]
    by_cases h1:n.kind=1
    · simp only[am,Scp.rec_,Nd.fl,decide_eq_true h1];refine cl (rvar_calls s n.text n.pos 1 lat σ hs) ?_;simp only[am];exact retK_intro rfl (Store.sub_refl _) ⟨by rw[labRl_eq,if_pos h1];rfl,rfl⟩
    simp only[am,Nd.fl,decide_eq_false h1]
    by_cases h7:n.kind=7
    · simp only[am,List.length_map,Nd.fl,List.length_map,decide_eq_true h7];have e7:labRl s lat n=if 0<n.kids.length∧0≤lat then [fltO (elmO s lat n)] else []:=by rw[labRl_eq,if_neg h1,if_pos h7]
      by_cases h0:0<n.kids.length
      case neg =>
        simp only[am,decide_eq_false (show ¬(0:Int)<n.kids.length by omega)];exact retK_intro rfl (Store.sub_refl _) ⟨by rw[e7,if_neg (fun h=>h0 h.1)];rfl,rfl⟩
      simp only[am,decide_eq_true (show (0:Int)<n.kids.length by omega)]
      by_cases hl:0≤lat
      case neg =>
        simp only[am,decide_eq_false hl];exact retK_intro rfl (Store.sub_refl _) ⟨by rw[e7,if_neg (fun h=>hl h.2)];rfl,rfl⟩
      obtain⟨m,rfl⟩:=Int.eq_ofNat_of_zero_le hl;have hlt:m<s.lats.length:=by omega
      have hm:n.kids[0]∈n.kids:=List.getElem_mem _;have hmc:=cnt_kid hm;have hmw:=kid_wt hm;simp only[am,Nat.reduceAdd,decide_true,Nat.reduceLT,Scp.rec_,decide_eq_true hl];refine idxL_intro (by omega) (lats_at hlt) ?_;simp only[am,Scp.rec_,Nd.fl];refine idxL_intro (n:=0) (by omega) (nencs_at (j:=0) (List.getElem?_eq_getElem h0)) ?_;simp only[am,Shp.rec_,Nd.rec_];refine CallD.intro (relem_calls s.lats[m].shape n.kids[0] σ (hs.2.2 _ (List.getElem_mem hlt)) (fun m hm=>by obtain⟨a,b,c⟩:=parts_ok (n:=n.kids[0]) (by omega) m hm;exact⟨by omega,by omega,fun q hq=>by have:=c q hq;omega⟩) (by omega)) ?_;have ef:elmO s (m:Nat) n=(elemF s.lats[m].shape n.kids[0]).2:=by rw[elmO,Int.toNat_natCast,shapeF_at hlt,getD_at h0]
      rw[fltV_enc,←ef];simp only[am,Nat.reduceAdd,Flt.rec_,Elm.rec_];refine app_full (by simp[big]) fun τ hτ=>?_
      simp only[am];exact retK_intro rfl (sub_tip hτ) ⟨by rw[e7,if_pos ⟨h0,hl⟩];rfl,rfl⟩
    simp only[am,decide_eq_false h7];have hkc:=cnt_kids n;have ek:labRl s lat n=n.kids.flatMap (labRl s lat):=by rw[labRl_eq,if_neg h1,if_neg h7]
    have hnc:=labRl_len (s:=s) (lat:=lat) n;obtain⟨Q,hQ⟩:∃Q:Nat→List Flt,∀i,Q i=(n.kids.take i).flatMap (labRl s lat):=⟨_,fun _=>rfl⟩;have hQ0:Q 0=[]:=by rw[hQ];rfl
    have hQn:Q n.kids.length=labRl s lat n:=by rw[hQ,List.take_length,ek]
    have hQs:∀{i:Nat} (hi:i<n.kids.length),Q (i+1)=Q i++labRl s lat n.kids[i]:=fun {i} hi=>by
      rw[hQ,hQ,List.take_succ_eq_append_getElem hi,List.flatMap_append];simp
    have hQm:∀i,i≤n.kids.length→(Q i).length≤(labRl s lat n).length:=fun i hi=>by
      rw[ek,hQ,←List.take_append_drop i n.kids,List.flatMap_append,List.length_append,List.take_append_drop];omega
    obtain⟨F,hF⟩:∃F:Nat→Nat→St,∀i τ,F i τ=⟨[.any,.any,.int .i64 lat,.ptr (.loc 0) 0,.ptr (.loc 1) 0,.any,.any,.sl (.tk τ) 2 ((Q i).map Flt.enc),.any,.any,.int .i64 (i:Nat)]++List.replicate 58 .any,[s.enc,n.enc],σ.setTip τ (Q i).length⟩:=⟨_,fun _ _=>rfl⟩;obtain⟨JF,hJF⟩:∃JF:Nat→Nat→Prop,∀i τ,JF i τ=(σ.tip τ=none):=⟨_,fun _ _=>rfl⟩;refine vc_count (n.kids.length) F JF _ hJF ?_ ?_ ?_
    · refine entT 0 fun τ hτ=>⟨τ,Eq.mpr (hJF _ _) hτ,?_,?_,?_⟩
      all_goals simp[hF,List.replicate,lto,hQ0]
    · rintro i τ hi hτ;have hm:n.kids[i]∈n.kids:=List.getElem_mem _;have hmc:=cnt_kid hm;have hmw:=kid_wt hm;have h3:=hQm (i+1) hi;rw[hQs hi,List.length_append] at h3;simp only[hF,List.replicate,am,dlt hi,Scp.rec_,Nd.fl,List.length_map];refine idxL_intro (by omega) (nencs_at (List.getElem?_eq_getElem hi)) ?_;simp only[am,Scp.rec_,Nd.rec_];refine CallD.intro (rlabel_calls s lat hs hlat k n.kids[i] _ (by omega) (by omega) (by omega)) ?_;simp only[am];refine appD_tk (by simp[big];omega) (by rw[List.length_map];exact setTip_tip_same) ?_;simp only[am,List.length_map,aml,List.length_map,setTip_setTip,winc hi (by omega)];refine nxtD (τ) hi ?_ ?_ ?_ ?_ ?_ ?_
      · exact Eq.mpr (hJF _ _) (hτ)
      all_goals simp[hF,List.replicate,am,lle_self,loL,loLL,V.lo,hQs hi,Scp.r_lo,Nd.r_lo]
    · rintro τ hτ;simp only[hF,List.replicate,am,aml,dnl,aml,Nd.fl,List.length_map];rw[←hQn];exact retK_intro rfl (sub_tip hτ) ⟨rfl,rfl⟩
end Go.Proofs.Tryz

namespace Go.Proofs.Tryz
open Go.Am
set_option maxRecDepth 4000
set_option maxHeartbeats 4000000
def ac67:AC:=.seq (.reg [⟨(some 4),.box 2 (.s 0),none⟩,⟨(some 5),.box 5 (.s 1),none⟩,⟨(some 8),.mv (.c (.sl .full 2 [])),none⟩])
 (.seq (.reg [⟨(some 9),.mv (.c (.sl .full 2 [])),none⟩])
 (.seq (.seq (.reg [xf 0 16 5,xo 17 16,xB .eql 18 17 1])
 (.cond (.s 18) (.seq (.reg [xl 2 19 4,xf 2 20 5,xo 21 20,xf 1 22 5,xo 23 22,xm 24 2,xc 66 25 [.s 19,.s 21,.s 23,.c (.int .i64 2),.s 24],xm 8 25])
 (.ret))
 (.skip)))
 (.seq (.seq (.reg [xf 0 26 5,xo 27 26,xB .neq 28 27 10])
 (.cond (.s 28) (.seq (.reg [⟨(some 8),.mv (.c (.sl .full 2 [])),none⟩])
 (.ret))
 (.skip)))
 (.seq (.seq (.reg [xi 10 0])
 (.block 0 (.loop (.seq (.seq (.reg [xm 29 10,xf 4 30 5,xo 31 30,xL 32 31,xb .lss 33 29 32])
 (.cond (.s 33) (.skip)
 (.exit 0)))
 (.seq (.block 1 (.seq (.reg [xf 4 36 5,xo 37 36,xm 38 10,xA 5 39 37 38,xl 5 40 39,⟨(some 11),.alloc [(.int .i64 0),(.int .i64 0),(.str []),(.sl .full 2 []),(.sl .full 5 [])],none⟩,xs 5 11 40])
 (.seq (.seq (.reg [xi 12 0])
 (.block 2 (.loop (.seq (.seq (.reg [xm 41 12,xm 42 10,xb .lss 43 41 42])
 (.cond (.s 43) (.skip)
 (.exit 2)))
 (.seq (.block 3 (.seq (.draw [(xf 4 46 5,[]),(xo 47 46,[]),(xm 48 12,[]),(xA 5 49 47 48,[]),(xf 2 50 49,[]),(xo 51 50,[]),(xf 2 52 11,[]),(xo 53 52,[]),(⟨(some 54),.binS .eql (.s 51) (.s 53),none⟩,[])])
 (.cond (.s 54) (.reg [xm 55 9,xf 1 56 11,xo 57 56,⟨(some 58),.build [(.int .i64 0),(.int .i64 0)] [(0,1,(.c (.int .i64 4))),(1,1,(.s 57))],none⟩,⟨(some 59),.bslice 2 [(.s 58)],none⟩,xa 2 60 55 59,xm 9 60])
 (.skip))))
 (.reg [xm 44 12,xB .add 45 44 1,xm 12 45]))))))
 (.seq (.reg [xi 13 0])
 (.block 4 (.loop (.seq (.seq (.reg [xm 61 13,xf 4 62 11,xo 63 62,xL 64 63,xb .lss 65 61 64])
 (.cond (.s 65) (.skip)
 (.exit 4)))
 (.seq (.block 5 (.seq (.reg [xf 4 68 11,xo 69 68,xm 70 13,xA 5 71 69 70,xl 5 72 71,⟨(some 14),.alloc [(.int .i64 0),(.int .i64 0),(.str []),(.sl .full 2 []),(.sl .full 5 [])],none⟩,xs 5 14 72])
 (.seq (.reg [xf 0 73 14,xo 74 73,xB .eql 75 74 1,xm 76 75,xh 76 (xf 0 77 14),xh 76 (xo 78 77),xh 76 (xB .eql 79 78 7),⟨(some 80),.pick (.s 76) (.c (.bool true)) (.s 79),none⟩])
 (.cond (.s 80) (.reg [xm 81 9,xl 2 82 4,xl 5 83 14,xm 84 2,xc 68 85 [.s 82,.s 83,.s 84],xa 2 86 81 85,xm 9 86])
 (.skip)))))
 (.reg [xm 66 13,xB .add 67 66 1,xm 13 67])))))))))
 (.reg [xm 34 10,xB .add 35 34 1,xm 10 35]))))))
 (.seq (.seq (.reg [xi 15 0])
 (.block 6 (.loop (.seq (.seq (.reg [xm 87 15,xf 3 88 5,xo 89 88,xL 90 89,xb .lss 91 87 90])
 (.cond (.s 91) (.skip)
 (.exit 6)))
 (.seq (.block 7 (.draw [(xm 94 9,[]),(xl 2 95 4,[]),(xf 3 96 5,[]),(xo 97 96,[]),(xm 98 15,[]),(xA 2 99 97 98,[]),(xf 0 100 99,[]),(xo 101 100,[]),(xf 3 102 5,[]),(xo 103 102,[]),(xm 104 15,[]),(xA 2 105 103 104,[]),(xf 1 106 105,[]),(xo 107 106,[]),(xm 108 2,[]),(xc 66 109 [.s 95,.s 101,.s 107,.c (.int .i64 2),.s 108],[]),(xa 2 110 94 109,[]),(xm 9 110,[])]))
 (.reg [xm 92 15,xB .add 93 92 1,xm 15 93]))))))
 (.seq (.seq (.reg [xf 4 111 5,xo 112 111,xL 113 112,xB .gtr 114 113 16])
 (.cond (.s 114) (.reg [xm 115 9,xm 116 3,⟨(some 117),.build [(.int .i64 0),(.int .i64 0)] [(0,1,(.c (.int .i64 7))),(1,1,(.s 116))],none⟩,⟨(some 118),.bslice 2 [(.s 117)],none⟩,xa 2 119 115 118,xm 9 119])
 (.skip)))
 (.seq (.reg [xm 120 9,xm 8 120])
 (.ret))))))))
theorem fn67:IsFn prog 67 ac67 [.tmp 8] 121:=⟨f67,⟨[],[],[]⟩,func67,by kernel_rfl,by kernel_rfl,by kernel_rfl,by kernel_rfl⟩
theorem atmRl_len {s:Scp} {lat:Int} {n:Nd}:(atmRl s lat n).length≤1:=by
  unfold atmRl;split
  · rw[labRl_eq];split
    · exact varFl_len
    · split
      · split<;>simp
      · rename_i h _ _;omega
  · simp
theorem dupRl_len {ks:List Nd} {i k:Nat}:(dupRl ks i k).length≤k:=by
  have:=flat_len (f:=fun j=>if (ks.getD j nd0).text=(ks.getD i nd0).text then [(⟨4,(ks.getD i nd0).pos⟩:Flt)] else []) (m:=1) (l:=List.range k) fun _ _=>by split<;>simp
  simpa [dupRl] using this
theorem fldsRl_succ {s:Scp} {lat:Int} {ks:List Nd} {i:Nat}:fldsRl s lat ks (i+1)=fldsRl s lat ks i++fldRl s lat ks i:=by
  simp[fldsRl,List.range_succ]
theorem fldsRl_len {s:Scp} {lat:Int} {ks:List Nd} (h:∀k∈ks,k.kids.length≤500) (h2:ks.length≤500):∀{m:Nat},m≤ks.length→(fldsRl s lat ks m).length≤m*1000
  | 0,_=>by simp[fldsRl]
  | m + 1, hm => by
    have ih:=fldsRl_len (s:=s) (lat:=lat) h h2 (m:=m) (by omega);have h3:=@dupRl_len ks m m;have h4:=flat_len (f:=atmRl s lat) (m:=1) (l:=(ks.getD m nd0).kids) fun _ _=>atmRl_len
    have h5:=h _ (List.getElem_mem (show m<ks.length by omega));rw[getD_at (show m<ks.length by omega)] at h4;rw[fldsRl_succ,fldRl,List.length_append,List.length_append,getD_at (show m<ks.length by omega)];omega
theorem rrow_calls (s:Scp) (lat p:Int) (n:Nd) (σ:Store) (hs:s.ok) (hlat:lat<s.lats.length) (hc:n.cnt≤500) (hw:n.wt≤big) :
    PCalls prog 67 [.agg s.enc,.agg n.enc,.int .i64 lat,.int .i64 p] σ fun v σ' => v = .sl .no 2 ((rowRl s lat p n).map Flt.enc)∧σ' = σ:=by
  refine fn67.calls ?_;simp only[slots,ac67,z27_,Nat.reduceAdd]
  by_cases h1:n.kind=1
  · simp only[am,Scp.rec_,Nd.fl,decide_eq_true h1];refine cl (rvar_calls s n.text n.pos 2 lat σ hs) ?_;simp only[am];exact retK_intro rfl (Store.sub_refl _) ⟨by rw[rowRl,if_pos h1];rfl,rfl⟩
  simp only[am,Nd.fl,decide_eq_false h1]
  by_cases h10:n.kind=10
  case neg =>
    simp only[am,decide_eq_false h10];exact retK_intro rfl (Store.sub_refl _) ⟨by rw[rowRl,if_neg h1,if_neg h10];rfl,rfl⟩
  simp only[am,decide_eq_true h10];have hrow:rowRl s lat p n=fldsRl s lat n.kids n.kids.length++tailFl s lat n.names++(if 16<n.kids.length then [⟨7,p⟩] else []):=by rw[rowRl,if_neg h1,if_pos h10]
  have hkc:=cnt_kids n;have hnc:=cnt_names n;have hkk:∀k∈n.kids,k.kids.length≤500:=fun k hk=>by have:=cnt_kids k;have:=cnt_kid hk;omega
  have hfl:∀{i:Nat},i≤n.kids.length→(fldsRl s lat n.kids i).length≤i*1000:=fun {i} hi=>fldsRl_len hkk (by omega) hi
  obtain⟨F,hF⟩:∃F:Nat→Nat→St,∀i τ,F i τ=⟨[.any,.any,.int .i64 lat,.int .i64 p,.ptr (.loc 0) 0,.ptr (.loc 1) 0,.any,.any,.any,.sl (.tk τ) 2 ((fldsRl s lat n.kids i).map Flt.enc),.int .i64 (i:Nat)]++List.replicate 110 .any,[s.enc,n.enc],σ.setTip τ (fldsRl s lat n.kids i).length⟩:=⟨_,fun _ _=>rfl⟩;obtain⟨JF,hJF⟩:∃JF:Nat→Nat→Prop,∀i τ,JF i τ=(σ.tip τ=none):=⟨_,fun _ _=>rfl⟩;refine vc_count (n.kids.length) F JF _ hJF ?_ ?_ ?_
  · refine entT 0 fun τ hτ=>⟨τ,Eq.mpr (hJF _ _) hτ,?_,?_,?_⟩
    all_goals simp[hF,List.replicate,lto,fldsRl]
  · rintro i τ hi hτ;have hm:n.kids[i]∈n.kids:=List.getElem_mem _;have hmc:=cnt_kid hm;have hmw:=kid_wt hm;have hk2:=hkk _ hm;have hL:=hfl (Nat.le_of_lt hi);have hgk:n.kids.getD i nd0=n.kids[i]:=getD_at hi;simp only[hF,List.replicate,am,dlt hi,Nd.fl,List.length_map];refine idxL_intro (by omega) (nencs_at (List.getElem?_eq_getElem hi)) ?_;simp only[am,Nat.reduceAdd,Nd.rec_];obtain⟨F2,hF2⟩:∃F2:Nat→Unit→St,∀j y,F2 j y=⟨[.any,.any,.int .i64 lat,.int .i64 p,.ptr (.loc 0) 0,.ptr (.loc 1) 0,.any,.any,.any,.sl (.tk τ) 2 ((fldsRl s lat n.kids i++dupRl n.kids i j).map Flt.enc),.int .i64 (i:Nat),.ptr (.loc 2) 0,.int .i64 (j:Nat)]++List.replicate 108 .any,[s.enc,n.enc,n.kids[i].enc],σ.setTip τ (fldsRl s lat n.kids i++dupRl n.kids i j).length⟩:=⟨_,fun _ _=>rfl⟩;obtain⟨JF2,hJF2⟩:∃JF2:Nat→Unit→Prop,∀j y,JF2 j y=(True):=⟨_,fun _ _=>rfl⟩;refine vc_count (i) F2 JF2 _ hJF2 ?_ ?_ ?_
    · refine ent (()) ?_ ?_ ?_ ?_
      · exact Eq.mpr (hJF2 _ _) (trivial)
      all_goals simp[hF2,List.replicate,am,lle_self,dupRl]
    · rintro j y hj -;have hD:=@dupRl_len n.kids i j;have ed:dupRl n.kids i (j+1)=dupRl n.kids i j++if n.kids[j].text=n.kids[i].text then [⟨4,n.kids[i].pos⟩] else []:=by
        rw[dupRl,dupRl,List.range_succ,List.flatMap_append,getD_at hi];simp[show j<n.kids.length by omega]
      simp only[hF2,List.replicate,am,dlt hj,Nd.fl];refine idxL_intro (by omega) (nencs_at (List.getElem?_eq_getElem (show j<n.kids.length by omega))) ?_;simp only[am,Nd.fl]
      by_cases he:n.kids[j].text=n.kids[i].text
      · rw[if_pos he] at ed;simp only[am,Nat.reduceAdd,Nd.fl,decide_eq_true he];refine app_tk (by simp[big];omega) (by rw[List.length_map];exact setTip_tip_same) ?_;simp only[am,List.length_map,aml,List.length_map,setTip_setTip,winc hj (by omega)];refine nxtD (()) hj ?_ ?_ ?_ ?_ ?_ ?_
        · exact Eq.mpr (hJF2 _ _) (trivial)
        all_goals simp[hF2,List.replicate,am,lle_self,loL,loLL,V.lo,ed,List.append_assoc,Nat.add_assoc,Flt.enc,Scp.r_lo,Nd.r_lo]
      · rw[if_neg he,List.append_nil] at ed;simp only[am,aml,decide_eq_false he,winc hj (by omega)];refine nxtD (()) hj ?_ ?_ ?_ ?_ ?_ ?_
        · exact Eq.mpr (hJF2 _ _) (trivial)
        all_goals simp[hF2,List.replicate,am,lle_self,loL,loLL,V.lo,ed,Scp.r_lo,Nd.r_lo]
    · rintro y -;have hD:=@dupRl_len n.kids i i;simp only[hF2,List.replicate,am,aml,dnl,Nat.reduceEqDiff,aml,reduceCtorEq];obtain⟨F3,hF3⟩:∃F3:Nat→Unit→St,∀j y,F3 j y=⟨[.any,.any,.int .i64 lat,.int .i64 p,.ptr (.loc 0) 0,.ptr (.loc 1) 0,.any,.any,.any,.sl (.tk τ) 2 ((fldsRl s lat n.kids i++dupRl n.kids i i++(n.kids[i].kids.take j).flatMap (atmRl s lat)).map Flt.enc),.int .i64 (i:Nat),.ptr (.loc 2) 0,.any,.int .i64 (j:Nat)]++List.replicate 107 .any,[s.enc,n.enc,n.kids[i].enc],σ.setTip τ (fldsRl s lat n.kids i++dupRl n.kids i i++(n.kids[i].kids.take j).flatMap (atmRl s lat)).length⟩:=⟨_,fun _ _=>rfl⟩;obtain⟨JF3,hJF3⟩:∃JF3:Nat→Unit→Prop,∀j y,JF3 j y=(True):=⟨_,fun _ _=>rfl⟩;refine vc_count (n.kids[i].kids.length) F3 JF3 _ hJF3 ?_ ?_ ?_
      · refine ent (()) ?_ ?_ ?_ ?_
        · exact Eq.mpr (hJF3 _ _) (trivial)
        all_goals simp[hF3,List.replicate,am,lle_self]
      · rintro j y hk -;have hm2:n.kids[i].kids[j]∈n.kids[i].kids:=List.getElem_mem _;have hmc2:=cnt_kid hm2;have hmw2:=kid_wt hm2;have hL2:((n.kids[i].kids.take j).flatMap (atmRl s lat)).length≤500:=by
          have:=flat_len (f:=atmRl s lat) (m:=1) (l:=n.kids[i].kids.take j) fun _ _=>atmRl_len
          rw[Nat.mul_one,List.length_take] at this;omega
        have hA:=@atmRl_len s lat n.kids[i].kids[j];have ft:=flat_take (f:=atmRl s lat) hk;simp only[hF3,List.replicate,am,dlt hk,Nd.fl,List.length_map];refine idxL_intro (by omega) (nencs_at (List.getElem?_eq_getElem hk)) ?_;simp only[am,Nat.reduceAdd,Nd.rec_,Nd.fl];have hlabel:=fun σ=>rlabel_calls s lat hs hlat _ n.kids[i].kids[j] σ (Nat.le_refl _) (by omega) (by omega)
        by_cases h1' : n.kids[i].kids[j].kind=1
        · have ea:atmRl s lat n.kids[i].kids[j]=labRl s lat n.kids[i].kids[j]:=by rw[atmRl,if_pos (.inl h1')]
          rw[ea] at hA ft;simp only[am,Scp.rec_,Nd.rec_,decide_eq_true h1'];refine cl (hlabel _) ?_;simp only[am];refine app_tk (by simp only[List.length_append,List.length_map,big] at *;omega) (by rw[List.length_map];exact setTip_tip_same) ?_;simp only[am,List.length_map,aml,List.length_map,setTip_setTip,winc hk (by omega)];refine nxtD (()) hk ?_ ?_ ?_ ?_ ?_ ?_
          · exact Eq.mpr (hJF3 _ _) (trivial)
          all_goals simp[hF3,List.replicate,am,lle_self,loL,loLL,V.lo,ft,List.append_assoc,Nat.add_assoc,Scp.r_lo,Nd.r_lo]
        simp only[am,Nd.fl,decide_eq_false h1']
        by_cases h7' : n.kids[i].kids[j].kind=7
        · have ea:atmRl s lat n.kids[i].kids[j]=labRl s lat n.kids[i].kids[j]:=by rw[atmRl,if_pos (.inr h7')]
          rw[ea] at hA ft;simp only[am,Scp.rec_,Nd.rec_,decide_eq_true h7'];refine cl (hlabel _) ?_;simp only[am];refine app_tk (by simp only[List.length_append,List.length_map,big] at *;omega) (by rw[List.length_map];exact setTip_tip_same) ?_;simp only[am,List.length_map,aml,List.length_map,setTip_setTip,winc hk (by omega)];refine nxtD (()) hk ?_ ?_ ?_ ?_ ?_ ?_
          · exact Eq.mpr (hJF3 _ _) (trivial)
          all_goals simp[hF3,List.replicate,am,lle_self,loL,loLL,V.lo,ft,List.append_assoc,Nat.add_assoc,Scp.r_lo,Nd.r_lo]
        · have ea:atmRl s lat n.kids[i].kids[j]=[]:=by rw[atmRl,if_neg (fun h=>h.elim h1' h7')]
          rw[ea,List.append_nil] at ft;simp only[am,aml,decide_eq_false h7',winc hk (by omega)];refine nxtD (()) hk ?_ ?_ ?_ ?_ ?_ ?_
          · exact Eq.mpr (hJF3 _ _) (trivial)
          all_goals simp[hF3,List.replicate,am,lle_self,loL,loLL,V.lo,ft,Scp.r_lo,Nd.r_lo]
      · rintro y -;have ef:fldsRl s lat n.kids (i+1)=fldsRl s lat n.kids i++dupRl n.kids i i++n.kids[i].kids.flatMap (atmRl s lat):=by rw[fldsRl_succ,fldRl,hgk,List.append_assoc]
        simp only[hF3,List.replicate,am,aml,dnl,Nat.reduceEqDiff,aml,reduceCtorEq,Nd.fl,List.length_map,List.take_length,winc hi (by omega)];refine nxtD (τ) hi ?_ ?_ ?_ ?_ ?_ ?_
        · exact Eq.mpr (hJF _ _) (hτ)
        all_goals simp[hF,List.replicate,am,lle_self,loL,loLL,V.lo,ef,Scp.r_lo,Nd.r_lo]
  · rintro τ hτ;simp only[hF,List.replicate,am,aml,dnl,aml,Nd.fl,List.length_map];have hL:=hfl (Nat.le_refl n.kids.length);obtain⟨F2,hF2⟩:∃F2:Nat→Unit→St,∀j y,F2 j y=⟨[.any,.any,.int .i64 lat,.int .i64 p,.ptr (.loc 0) 0,.ptr (.loc 1) 0,.any,.any,.any,.sl (.tk τ) 2 ((fldsRl s lat n.kids n.kids.length++tailFl s lat (n.names.take j)).map Flt.enc),.any,.any,.any,.any,.any,.int .i64 (j:Nat)]++List.replicate 105 .any,[s.enc,n.enc],σ.setTip τ (fldsRl s lat n.kids n.kids.length++tailFl s lat (n.names.take j)).length⟩:=⟨_,fun _ _=>rfl⟩;obtain⟨JF2,hJF2⟩:∃JF2:Nat→Unit→Prop,∀j y,JF2 j y=(True):=⟨_,fun _ _=>rfl⟩;refine vc_count (n.names.length) F2 JF2 _ hJF2 ?_ ?_ ?_
    · refine ent (()) ?_ ?_ ?_ ?_
      · exact Eq.mpr (hJF2 _ _) (trivial)
      all_goals simp[hF2,List.replicate,am,lle_self,tailFl]
    · rintro j y hj -;have hT:(tailFl s lat (n.names.take j)).length≤500:=by
        have:=flat_len (f:=fun w:Word=>varFl s lat w.text w.pos 2) (m:=1) (l:=n.names.take j) fun _ _=>varFl_len
        rw[Nat.mul_one,List.length_take] at this;rw[tailFl];omega
      have hA:=@varFl_len s lat n.names[j].text n.names[j].pos 2;have ft:tailFl s lat (n.names.take (j+1))=tailFl s lat (n.names.take j)++varFl s lat n.names[j].text n.names[j].pos 2:=flat_take (f:=fun w:Word=>varFl s lat w.text w.pos 2) hj;simp only[hF2,List.replicate,am,dlt hj,Scp.rec_,Nd.fl,List.length_map];refine idxL_intro (by omega) (words_at hj) ?_;simp only[am,wd_t,Nd.fl];refine idxL_intro (by omega) (words_at hj) ?_;simp only[am,wd_p,Scp.rec_];refine CallD.intro (rvar_calls s n.names[j].text n.names[j].pos 2 lat _ hs) ?_;simp only[am];refine appD_tk (by simp only[List.length_append,List.length_map,big] at *;omega) (by rw[List.length_map];exact setTip_tip_same) ?_;simp only[am,List.length_map,aml,List.length_map,setTip_setTip,winc hj (by omega)];refine nxtD (()) hj ?_ ?_ ?_ ?_ ?_ ?_
      · exact Eq.mpr (hJF2 _ _) (trivial)
      all_goals simp[hF2,List.replicate,am,lle_self,loL,loLL,V.lo,ft,List.append_assoc,Nat.add_assoc,Scp.r_lo,Nd.r_lo]
    · rintro y -;have hT:(tailFl s lat n.names).length≤500:=by
        have:=flat_len (f:=fun w:Word=>varFl s lat w.text w.pos 2) (m:=1) (l:=n.names) fun _ _=>varFl_len
        rw[Nat.mul_one] at this;rw[tailFl];omega
      simp only[hF2,List.replicate,am,aml,dnl,aml,Nd.fl,List.length_map,List.take_length]
      by_cases h16:16<n.kids.length
      · simp only[am,Nat.reduceAdd,decide_eq_true (show (16:Int)<n.kids.length by omega)];refine app_tk (by simp only[List.length_append,List.length_map,List.length_singleton,big] at *;omega) (by rw[List.length_map];exact setTip_tip_same) ?_;simp only[am,List.length_map,List.length_map,setTip_setTip];rw[if_pos h16] at hrow;exact retK_intro rfl (sub_tip hτ) ⟨by simp only[hrow,List.map_append];rfl,rfl⟩
      · simp only[am,decide_eq_false (show ¬(16:Int)<n.kids.length by omega)];rw[if_neg h16,List.append_nil] at hrow;exact retK_intro rfl (sub_tip hτ) ⟨by rw[hrow];rfl,rfl⟩
end Go.Proofs.Tryz

namespace Go.Proofs.Tryz
open Go.Am
set_option maxRecDepth 4000
set_option maxHeartbeats 4000000
def ac25:AC:=.seq (.reg [⟨(some 2),.box 2 (.s 0),none⟩,⟨(some 3),.box 17 (.s 1),none⟩,⟨(some 4),.alloc [(.int .i64 0),(.int .i64 0)],none⟩])
 (.seq (.seq (.reg [xf 0 7 3,xo 8 7,xB .eql 9 8 10])
 (.cond (.s 9) (.seq (.reg [xl 2 10 2,xf 2 11 3,xf 0 12 11,xo 13 12,xf 2 14 3,xf 1 15 14,xo 16 15,xc 66 17 [.s 10,.s 13,.s 16,.c (.int .i64 2),.c (.int .i64 (-1))],xc 65 18 [.s 17],xs 2 4 18])
 (.ret))
 (.skip)))
 (.seq (.seq (.reg [xf 0 19 3,xo 20 19,xB .eql 21 20 15])
 (.cond (.s 21) (.seq (.reg [xl 2 22 2,xf 2 23 3,xf 0 24 23,xo 25 24,xf 2 26 3,xf 1 27 26,xo 28 27,xc 66 29 [.s 22,.s 25,.s 28,.c (.int .i64 1),.c (.int .i64 (-1))],xc 65 30 [.s 29],xs 2 4 30])
 (.ret))
 (.skip)))
 (.seq (.seq (.reg [xf 0 31 3,xo 32 31,xB .neq 33 32 8,xm 34 33,xg 34 (xf 0 35 3),xg 34 (xo 36 35),xg 34 (xB .neq 37 36 9),⟨(some 38),.pick (.s 34) (.s 37) (.c (.bool false)),none⟩])
 (.cond (.s 38) (.seq (.reg [⟨(some 39),.build [(.int .i64 0),(.int .i64 0)] [],none⟩,xs 2 4 39])
 (.ret))
 (.skip)))
 (.seq (.reg [⟨(some 5),.mv (.c (.sl .full 2 [])),none⟩])
 (.seq (.reg [xl 2 40 2,xf 2 41 3,xf 0 42 41,xo 43 42,xc 26 44 [.s 40,.s 43],xm 6 44])
 (.seq (.seq (.reg [xm 45 6,xB .lss 46 45 0,xm 47 46,xg 47 (xl 2 48 2),xg 47 (xf 2 49 3),xg 47 (xf 0 50 49),xg 47 (xo 51 50),xg 47 (xc 30 52 [.s 48,.s 51]),xg 47 (xB .lss 53 52 0),⟨(some 54),.pick (.s 47) (.s 53) (.c (.bool false)),none⟩])
 (.cond (.s 54) (.reg [xm 55 5,xf 2 56 3,xf 1 57 56,xo 58 57,⟨(some 59),.build [(.int .i64 0),(.int .i64 0)] [(0,1,(.c (.int .i64 3))),(1,1,(.s 58))],none⟩,⟨(some 60),.bslice 2 [(.s 59)],none⟩,xa 2 61 55 60,xm 5 61])
 (.seq (.reg [xm 62 6,xB .lss 63 62 0])
 (.cond (.s 63) (.reg [xm 64 5,xf 2 65 3,xf 1 66 65,xo 67 66,⟨(some 68),.build [(.int .i64 0),(.int .i64 0)] [(0,1,(.c (.int .i64 4))),(1,1,(.s 67))],none⟩,⟨(some 69),.bslice 2 [(.s 68)],none⟩,xa 2 70 64 69,xm 5 70])
 (.skip)))))
 (.seq (.seq (.reg [xf 0 71 3,xo 72 71,xB .eql 73 72 9])
 (.cond (.s 73) (.seq (.reg [xm 74 5,xl 2 75 2,xf 7 76 3,xl 5 77 76,xm 78 6,xf 1 79 3,xo 80 79,xc 67 81 [.s 75,.s 77,.s 78,.s 80],xa 2 82 74 81,xm 5 82])
 (.seq (.reg [xm 83 5,xl 2 84 2,xf 12 85 3,xl 5 86 85,xm 87 6,xf 1 88 3,xo 89 88,xc 67 90 [.s 84,.s 86,.s 87,.s 89],xa 2 91 83 90,xm 5 91])
 (.seq (.reg [xm 92 5,xc 65 93 [.s 92],xs 2 4 93])
 (.ret))))
 (.skip)))
 (.seq (.reg [xm 94 5,xl 2 95 2,xf 7 96 3,xl 5 97 96,xm 98 6,xc 68 99 [.s 95,.s 97,.s 98],xa 2 100 94 99,xm 5 100])
 (.seq (.reg [xm 101 5,xl 2 102 2,xf 12 103 3,xl 5 104 103,xm 105 6,xc 68 106 [.s 102,.s 104,.s 105],xa 2 107 101 106,xm 5 107])
 (.seq (.seq (.reg [xf 12 108 3,xf 0 109 108,xo 110 109,xB .eql 111 110 8,xm 112 111,xh 112 (xf 12 113 3),xh 112 (xf 0 114 113),xh 112 (xo 115 114),xh 112 (xB .eql 116 115 9),⟨(some 117),.pick (.s 112) (.c (.bool true)) (.s 116),none⟩])
 (.cond (.s 117) (.reg [xm 118 5,xf 12 119 3,xf 1 120 119,xo 121 120,⟨(some 122),.build [(.int .i64 0),(.int .i64 0)] [(0,1,(.c (.int .i64 6))),(1,1,(.s 121))],none⟩,⟨(some 123),.bslice 2 [(.s 122)],none⟩,xa 2 124 118 123,xm 5 124])
 (.skip)))
 (.seq (.reg [xm 125 5,xc 65 126 [.s 125],xs 2 4 126])
 (.ret))))))))))))
theorem fn25:IsFn prog 25 ac25 [.cell 4 true 2] 127:=⟨f25,⟨[],[],[]⟩,func25,by kernel_rfl,by kernel_rfl,by kernel_rfl,by kernel_rfl⟩
theorem rowRl_len {s:Scp} {lat p:Int} {n:Nd} (hc:n.cnt≤500):(rowRl s lat p n).length≤501000:=by
  have hkk:∀k∈n.kids,k.kids.length≤500:=fun k hk=>by have:=cnt_kids k;have:=cnt_kid hk;omega
  have hkc:=cnt_kids n;have hnc:=cnt_names n;unfold rowRl;split
  · have:=@varFl_len s lat n.text n.pos 2;omega
  · split
    · have h1:=fldsRl_len (s:=s) (lat:=lat) hkk (by omega) (Nat.le_refl _);have h2:=@tailFl_len s lat n.names;rw[List.length_append,List.length_append];split
      · rw[List.length_singleton];omega
      · rw[List.length_nil];omega
    · exact Nat.zero_le _
theorem rleast_tk {tk:Tk} {L:List (List V)} (l:List Flt) (σ:Store) (e:L=l.map Flt.enc) (hl:l.length≤10000000):PCalls prog 65 [.sl tk 2 L] σ fun v σ' => v = .agg (leastF l).enc∧σ' = σ:=by
  subst e;exact PCalls.weak (as' := [.sl .no 2 (l.map Flt.enc)]) (rleast_calls l σ hl) ⟨VLe.no,trivial⟩ OLe.rfl
theorem rfault_calls (s:Scp) (c:Cmd) {σ:Store} (hs:s.ok) (hl:c.left.cnt≤500) (hr:c.right.cnt≤500) (hwl:c.left.wt≤big) (hwr:c.right.wt≤big) :
    PCalls prog 25 [.agg s.enc,.agg c.enc] σ fun v σ' => v = .agg (faultC s c).enc∧σ' = σ:=by
  refine fn25.calls ?_;simp only[slots,ac25,am,ams,Nat.reduceAdd,Int.reduceNeg,cfl,cfo,Scp.rec_]
  by_cases h10:c.op=10
  · simp only[am,Nat.reduceAdd,Int.reduceNeg,cfv,cfx,Scp.rec_,decide_eq_true h10];refine cl (rvar_calls s c.name.text c.name.pos 2 (-1) σ hs) ?_;simp only[am,Int.reduceNeg];refine cl (rleast_calls _ σ (Nat.le_trans varFl_len (by decide))) ?_;simp only[am,Int.reduceNeg,Flt.rec_];exact retK_intro rfl (Store.sub_refl _) ⟨by rw[←eq_cmd,cmdRl,if_pos h10];rfl,rfl⟩
  simp only[am,Int.reduceNeg,cfo,decide_eq_false h10]
  by_cases h15:c.op=15
  · simp only[am,Nat.reduceAdd,Int.reduceNeg,cfv,cfx,Scp.rec_,decide_eq_true h15];refine cl (rvar_calls s c.name.text c.name.pos 1 (-1) σ hs) ?_;simp only[am,Int.reduceNeg];refine cl (rleast_calls _ σ (Nat.le_trans varFl_len (by decide))) ?_;simp only[am,Int.reduceNeg,Flt.rec_];exact retK_intro rfl (Store.sub_refl _) ⟨by rw[←eq_cmd,cmdRl,if_neg h10,if_pos h15];rfl,rfl⟩
  simp only[am,Int.reduceNeg,cfo,decide_eq_false h15];have hlt:latI s c<s.lats.length:=by
    rw[latI];cases h:findL s.lats c.name.text with
    | none=>simp only[optI];omega
    | some k=>have:=(find_lt h).1;simp only[optI];omega
  have zero:c.op≠8→c.op≠9→cmdRl s c=[]:=fun h h' => by rw[cmdRl,if_neg h10,if_neg h15,if_neg h,if_neg h']
  by_cases h89:c.op=8∨c.op=9
  case neg =>
    have n8:¬c.op=8:=fun h=>h89 (.inl h)
    have n9:¬c.op=9:=fun h=>h89 (.inr h)
    simp only[am,Nat.reduceAdd,cfo,decide_eq_false n8,decide_eq_false n9];exact retK_intro rfl (Store.sub_refl _) ⟨by rw[←eq_cmd,zero n8 n9];rfl,rfl⟩
  by_cases h9:c.op=9
  case' pos =>
    have h8:¬c.op=8:=by omega
    simp only[am,cfo,cfv,Scp.rec_,decide_eq_false h8,decide_eq_true h9]
  case' neg =>
    have h8:c.op=8:=by omega
    simp only[am,cfv,Scp.rec_,decide_eq_true h8]
  all_goals
    refine cl (lat13_calls s c.name.text σ hs.1) ?_;have eI:optI (findL s.lats c.name.text)=latI s c:=rfl;rw[eI];have hcase:(latI s c<0∧findV s.vars c.name.text=none∧latFl s c.name=[⟨3,c.name.pos⟩])∨(latI s c<0∧(∃v,findV s.vars c.name.text=some v)∧latFl s c.name=[⟨4,c.name.pos⟩])∨(¬latI s c<0∧latFl s c.name=[]):=by
      rw[latI,latFl];cases findL s.lats c.name.text with
      | none=>cases findV s.vars c.name.text<;>simp[optI]
      | some k=>right;right;simp[optI]
    rcases hcase with ⟨hn,hv,eL⟩ | ⟨hn,⟨v,hv⟩,eL⟩ | ⟨hn,eL⟩
    case' inl =>
      simp only[am,cfv,Scp.rec_,decide_eq_true hn];refine cl (var_calls s c.name.text σ hs.2.1) ?_;rw[hv];simp only[am,Nat.reduceAdd,decide_true,Int.reduceNeg,Int.reduceLT,cfx,optI];refine app_full (by simp[big]) fun τ hτ=>?_
      simp only[am,Int.reduceNeg,cfo];have hG:Gr σ (σ.setTip τ 1) (.tk τ) (latFl s c.name).length:=gr_tip (Store.sub_refl _) hτ (by rw[eL];rfl);have e5:V.sl (.tk τ) 2 [[.int .i64 3,.int .i64 c.name.pos]]=V.sl (.tk τ) 2 ((latFl s c.name).map Flt.enc):=by rw[eL];rfl
      rw[e5]
    case' inr.inl =>
      simp only[am,cfv,Scp.rec_,decide_eq_true hn];refine cl (var_calls s c.name.text σ hs.2.1) ?_;rw[hv];simp only[am,Nat.reduceAdd,cfx,optI,decide_eq_false (show ¬((v:Nat):Int)<0 by omega),decide_eq_true hn];refine app_full (by simp[big]) fun τ hτ=>?_
      simp only[am,cfo];have hG:Gr σ (σ.setTip τ 1) (.tk τ) (latFl s c.name).length:=gr_tip (Store.sub_refl _) hτ (by rw[eL];rfl);have e5:V.sl (.tk τ) 2 [[.int .i64 4,.int .i64 c.name.pos]]=V.sl (.tk τ) 2 ((latFl s c.name).map Flt.enc):=by rw[eL];rfl
      rw[e5]
    case' inr.inr =>
      simp only[am,cfo,decide_eq_false hn];have hG:Gr σ σ .full (latFl s c.name).length:=by rw[eL];exact Gr.nil
      have e5:V.sl .full 2 []=V.sl .full 2 ((latFl s c.name).map Flt.enc):=by rw[eL];rfl
      rw[e5]
  all_goals
    have q3:=@latFl_len s c.name
  iterate 3
    have q1:=labRl_len (s:=s) (lat:=latI s c) c.left;have q2:=labRl_len (s:=s) (lat:=latI s c) c.right;simp only[am,Int.reduceNeg,cfv,Scp.rec_,Nd.rec_,decide_eq_false h9];refine cl (rlabel_calls s _ hs hlt _ c.left _ (Nat.le_refl _) hwl (by omega)) ?_;simp only[am,Int.reduceNeg];refine Gr.app (by simpa using hG) (by simp[big];omega) fun tk1 σ1 hG1 _ _=>?_
    simp only[am,Int.reduceNeg,cfv,Scp.rec_,Nd.rec_];refine cl (rlabel_calls s _ hs hlt _ c.right _ (Nat.le_refl _) hwr (by omega)) ?_;simp only[am,Int.reduceNeg];refine Gr.app hG1 (by simp[big];omega) fun tk2 σ2 hG2 _ _=>?_
    simp only[am,Int.reduceNeg,cfx];have fin:∀{t:List V} {l:List (List V)} {σ' : Store} {D:List Flt},σ.sub σ' → latFl s c.name++labRl s (latI s c) c.left++labRl s (latI s c) c.right++defFl c.right=D→RetK (fun v σ' => v = .agg (faultC s c).enc∧σ' = σ) ⟨t,l,σ'⟩ (.agg (leastF D).enc):=fun h e =>
      retK_intro rfl h ⟨by rw[←eq_cmd,cmdRl,if_neg h10,if_neg h15,if_pos h8,e];rfl,rfl⟩
    by_cases k8:c.right.kind=8
    case' pos =>
      have eD:defFl c.right=[⟨6,c.right.pos⟩]:=by rw[defFl,if_pos (.inl k8)]
      simp only[am,Nat.reduceAdd,Int.reduceNeg,cfx,decide_eq_true k8]
    case' neg =>
      by_cases k9:c.right.kind=9
      case' pos =>
        have eD:defFl c.right=[⟨6,c.right.pos⟩]:=by rw[defFl,if_pos (.inr k9)]
        simp only[am,Nat.reduceAdd,Int.reduceNeg,cfx,decide_eq_false k8,decide_eq_true k9]
      case' neg =>
        simp only[am,Int.reduceNeg,cfx,decide_eq_false k8,decide_eq_false k9];refine cl (rleast_tk (latFl s c.name++labRl s (latI s c) c.left++labRl s (latI s c) c.right) _ (by simp) (by simp;omega)) ?_;simp only[am,Int.reduceNeg,Flt.rec_];exact fin hG2.sub (by rw[defFl,if_neg (by omega),List.append_nil])
    iterate 2
      refine Gr.app hG2 (by simp[big];omega) fun tk3 σ3 hG3 _ _=>?_
      simp only[am,Int.reduceNeg];refine cl (rleast_tk (latFl s c.name++labRl s (latI s c) c.left++labRl s (latI s c) c.right++[⟨6,c.right.pos⟩]) _ (by simp[Flt.enc]) (by simp;omega)) ?_;simp only[am,Int.reduceNeg,Flt.rec_];exact fin hG3.sub (by rw[eD])
  all_goals
    have q1:=rowRl_len (s:=s) (lat:=latI s c) (p:=c.pos) hl;have q2:=rowRl_len (s:=s) (lat:=latI s c) (p:=c.pos) hr;simp only[am,Int.reduceNeg,cfo,cfv,Scp.rec_,Nd.rec_,decide_eq_true h9];refine cl (rrow_calls s _ c.pos c.left _ hs hlt hl hwl) ?_;simp only[am,Int.reduceNeg];refine Gr.app (by simpa using hG) (by simp[big];omega) fun tk1 σ1 hG1 _ _=>?_
    simp only[am,Int.reduceNeg,cfo,cfv,Scp.rec_,Nd.rec_];refine cl (rrow_calls s _ c.pos c.right _ hs hlt hr hwr) ?_;simp only[am,Int.reduceNeg];refine Gr.app hG1 (by simp[big];omega) fun tk2 σ2 hG2 _ _=>?_
    simp only[am,Int.reduceNeg];refine cl (rleast_tk (latFl s c.name++rowRl s (latI s c) c.pos c.left++rowRl s (latI s c) c.pos c.right) _ (by simp) (by simp;omega)) ?_;simp only[am,Int.reduceNeg,Flt.rec_];exact retK_intro rfl hG2.sub ⟨by rw[←eq_cmd,cmdRl,if_neg h10,if_neg h15,if_neg h8,if_pos h9];rfl,rfl⟩
end Go.Proofs.Tryz

namespace Go.Proofs.Tryz
open Go.Am
set_option maxRecDepth 4000
set_option maxHeartbeats 4000000
def ac46:AC:=.seq (.reg [⟨(some 2),.mv (.c (.bool false)),none⟩])
 (.seq (.seq (.reg [xi 3 0])
 (.block 0 (.loop (.seq (.seq (.reg [xm 4 3,xm 5 0,xL 6 5,xb .lss 7 4 6])
 (.cond (.s 7) (.skip)
 (.exit 0)))
 (.seq (.block 1 (.seq (.reg [xm 10 0,xm 11 3,xA 2 12 10 11,xf 0 13 12,xo 14 13,xc 39 15 [.s 14],⟨(some 16),.not (.s 15),none⟩])
 (.cond (.s 16) (.seq (.reg [⟨(some 2),.mv (.c (.bool false)),none⟩])
 (.ret))
 (.skip))))
 (.reg [xm 8 3,xB .add 9 8 1,xm 3 9]))))))
 (.seq (.reg [⟨(some 2),.mv (.c (.bool true)),none⟩])
 (.ret)))
theorem fn46:IsFn prog 46 ac46 [.tmp 2] 17:=⟨f46,⟨[],[],[]⟩,func46,by kernel_rfl,by kernel_rfl,by kernel_rfl,by kernel_rfl⟩
def ac47:AC:=.seq (.reg [⟨(some 4),.mv (.c (.bool false)),none⟩])
 (.seq (.reg [xm 7 0,xc 79 8 [.s 7],xm 5 8])
 (.seq (.seq (.reg [xi 6 0])
 (.block 0 (.loop (.seq (.seq (.reg [xm 9 6,xm 10 5,xT 11 10,xb .lss 12 9 11])
 (.cond (.s 12) (.skip)
 (.exit 0)))
 (.seq (.block 1 (.seq (.reg [xm 15 5,xm 16 6,xS 17 15 16,xm 18 1,xb .eql 19 17 18])
 (.cond (.s 19) (.seq (.reg [⟨(some 4),.mv (.c (.bool true)),none⟩])
 (.ret))
 (.skip))))
 (.reg [xm 13 6,xB .add 14 13 1,xm 6 14]))))))
 (.seq (.reg [⟨(some 4),.mv (.c (.bool false)),none⟩])
 (.ret))))
theorem fn47:IsFn prog 47 ac47 [.tmp 4] 20:=⟨f47,⟨[],[],[]⟩,func47,by kernel_rfl,by kernel_rfl,by kernel_rfl,by kernel_rfl⟩
def ac50:AC:=.seq (.reg [⟨(some 1),.box 5 (.s 0),none⟩,⟨(some 2),.mv (.c (.bool false)),none⟩])
 (.seq (.reg [xl 5 3 1,⟨(some 4),.build [(.int .i64 0),(.int .i64 0),(.str []),(.sl .full 2 []),(.sl .full 5 [])] [],none⟩,xc 82 5 [.s 3,.s 4],xm 2 5])
 (.ret))
theorem fn50:IsFn prog 50 ac50 [.tmp 2] 6:=⟨f50,⟨[],[],[]⟩,func50,by kernel_rfl,by kernel_rfl,by kernel_rfl,by kernel_rfl⟩
def hasL (op:Int) (k:UInt8):Bool:=(formOf op).2.any (· == k)
theorem hasL_cnt (op:Int) (k:UInt8):hasL op k=decide (0<cntN op k):=by
  unfold hasL cntN;generalize (formOf op).2=ks;induction ks with
  | nil=>simp
  | cons x xs ih =>
    rw[List.any_cons,ih,List.count_cons]
    by_cases h:x=k
    · simp[h]
    · simp[h]
def invHs (op:Int) (k:UInt8) (ks:List UInt8) (σ:Store) (i:Nat):St :=
  ⟨[.any,.int .u8 (k.toNat:Nat),.any,.any,.any,.str ks,.int .i64 (i:Nat)]++List.replicate 13 .any,[],σ⟩
theorem has12_calls (op:Int) (k:UInt8) (σ:Store):PCalls prog 47 [.int .i64 op,.int .u8 (k.toNat:Nat)] σ fun v σ' => v = .bool (hasL op k)∧σ' = σ:=by
  have hkl:=form_len op;refine fn47.calls ?_;simp only[slots,ac47,am,ams,Nat.reduceAdd];refine cl (letters_calls op σ) ?_;simp only[am];have hh:hasL op k=(formOf op).2.any (· == k):=rfl;generalize (formOf op).2=ks at hkl hh ⊢;refine vc_loop (fun p:{i:Nat // i≤ks.length∧(ks.take i).any (· == k)=false}=>invHs op k ks σ p.1) (fun p=>ks.length - p.1) ?_ ?_
  · refine Upd.enter ⟨0,by simp,by simp⟩ ?_ LLLe.rfl OLe.rfl;simp[invHs,List.replicate,am]
  rintro⟨i,hi,ha⟩;simp only[invHs,List.replicate,am];refine vcIf_split ?_ ?_
  · intro hlt;have hlt:i<ks.length:=by simpa using hlt
    have hkk:((ks[i].toNat:Nat):Int)=(k.toNat:Nat)↔ks[i]=k:=by
      constructor
      · intro h;exact UInt8.toNat_inj.1 (by omega)
      · intro h;rw[h]
    simp only[am];refine idxSL_intro (by omega) (str_at hlt) ?_;simp only[am]
    by_cases he:ks[i]=k
    · simp only[am,decide_eq_true (hkk.2 he)]
      have:ks.any (· == k)=true:=List.any_eq_true.2 ⟨ks[i],List.getElem_mem hlt,by simp[he]⟩
      refine retS ?_;simp[V.erase,hh,this]
    · simp only[am,decide_eq_false (fun h=>he (hkk.1 h))];rw[wrap_i64 (by omega) (by omega)];refine Upd.again ⟨i+1,hlt,?_⟩ (by simp;omega) (by simp[am]) LLLe.rfl OLe.rfl;rw[List.take_add_one,List.getElem?_eq_getElem hlt,List.any_append,ha];simp[he]
  intro hlt;have hlt:i=ks.length:=by simp at hlt;omega
  subst hlt;rw[List.take_length] at ha;simp only[am];refine retS ?_;simp[V.erase,hh,ha]
def inv12n (l:List Word) (τ:Tk) (σ:Store) (i:Nat):St :=
  ⟨[.sl τ 2 (l.map Word.enc),.any,.any,.int .i64 (i:Nat)]++List.replicate 13 .any,[],σ⟩
theorem texts12_calls {τ:Tk} (l:List Word) (σ:Store) (hb:l.length≤big):PCalls prog 46 [.sl τ 2 (l.map Word.enc)] σ fun v σ' => v = .bool (rightW l)∧σ' = σ:=by
  simp only[big] at hb;refine fn46.calls ?_;simp only[slots,ac46,am,ams];refine vc_loop (fun p:{i:Nat // i≤l.length∧(l.take i).all (fun w=>nameR w.text)=true}=>inv12n l τ σ p.1) (fun p=>l.length - p.1) ?_ ?_
  · refine Upd.enter ⟨0,by simp,by simp⟩ ?_ LLLe.rfl OLe.rfl;simp[inv12n,List.replicate,am]
  · rintro⟨i,hi,ha⟩;simp only[inv12n,List.replicate,am,List.length_map];refine vcIf_split ?_ ?_
    · intro hlt;have hlt:i<l.length:=by simpa using hlt
      simp only[am];refine idxL_intro (by omega) (wencs_at (List.getElem?_eq_getElem hlt)) ?_;simp only[am,Word.enc];refine cl (right2_calls l[i].text σ) ?_;cases hg:nameR l[i].text
      · simp only[am];refine retK_intro rfl (Store.sub_refl _) ⟨?_,rfl⟩;rw[show rightW l=false from all_no (f:=fun (w:Word)=>nameR w.text) hlt hg];rfl
      · simp only[am];rw[wrap_i64 (by omega) (by omega)];exact Upd.again ⟨i+1,hlt,by rw[xall_take hlt,ha,hg];rfl⟩ (by simp;omega) (by simp[am]) LLLe.rfl OLe.rfl
    · intro hlt;have hlt:i=l.length:=by simp at hlt;omega
      subst hlt;rw[List.take_length] at ha;simp only[am];refine retS ?_;simp[V.erase,rightW,ha]
theorem zero12_calls (n:Nd) (σ:Store) (hw:n.wt≤big):PCalls prog 50 [.agg n.enc] σ fun v σ' => v = .bool (n.sameQ .zero)∧σ' = σ:=by
  have h:PCalls prog 82 [.agg n.enc,.agg [.int .i64 0,.int .i64 0,.str [],.sl .full 2 [],.sl .full 5 []]] σ fun v σ' => v = .bool (n.sameQ .zero)∧σ' = σ:=by
    refine PCalls.weak (same25_calls _ n .zero σ (Nat.le_refl _) hw) ?_ OLe.rfl;simp only[LLe,VLe.rfl,and_true,true_and];rw[←zero_nd_enc];exact VLe.erase (v:=.agg [.int .i64 0,.int .i64 0,.str [],.sl .full 2 [],.sl .full 5 []])
  refine fn50.calls ?_;simp only[slots,ac50,am,ams,Nd.rec_];refine cl (h) ?_;simp only[am];refine retS ?_;simp[V.erase]
end Go.Proofs.Tryz

namespace Go.Proofs.Tryz
open Go.Am
set_option maxRecDepth 4000
set_option maxHeartbeats 4000000
def ac16:AC:=.seq (.reg [⟨(some 1),.box 17 (.s 0),none⟩,⟨(some 2),.mv (.c (.bool false)),none⟩])
 (.seq (.seq (.reg [xf 0 6 1,xo 7 6,xB .lss 8 7 0,xm 9 8,xh 9 (xf 0 10 1),xh 9 (xo 11 10),xh 9 (xB .gtr 12 11 15),⟨(some 13),.pick (.s 9) (.c (.bool true)) (.s 12),none⟩,xm 14 13,xh 14 (xf 4 15 1),xh 14 (xo 16 15),xh 14 (xc 46 17 [.s 16]),⟨(some 18),.not (.s 17),(some (14,false))⟩,⟨(some 19),.pick (.s 14) (.c (.bool true)) (.s 18),none⟩])
 (.cond (.s 19) (.seq (.reg [⟨(some 2),.mv (.c (.bool false)),none⟩])
 (.ret))
 (.skip)))
 (.seq (.seq (.reg [xi 3 0])
 (.block 0 (.loop (.seq (.seq (.reg [xm 20 3,xf 5 21 1,xo 22 21,xL 23 22,xb .lss 24 20 23])
 (.cond (.s 24) (.skip)
 (.exit 0)))
 (.seq (.block 1 (.seq (.draw [(xf 5 27 1,[]),(xo 28 27,[]),(xm 29 3,[]),(xA 4 30 28 29,[]),(⟨(some 31),.idxP 2 2 (.s 30) (.c (.int .i64 0)),none⟩,[]),(xl 2 32 31,[]),(xf 5 33 1,[]),(xo 34 33,[]),(xm 35 3,[]),(xA 4 36 34 35,[]),(⟨(some 37),.idxP 2 2 (.s 36) (.c (.int .i64 1)),none⟩,[]),(xl 2 38 37,[]),(⟨(some 39),.bslice 2 [(.s 32),(.s 38)],none⟩,[]),(xc 46 40 [.s 39],[]),(⟨(some 41),.not (.s 40),none⟩,[])])
 (.cond (.s 41) (.seq (.reg [⟨(some 2),.mv (.c (.bool false)),none⟩])
 (.ret))
 (.skip))))
 (.reg [xm 25 3,xB .add 26 25 1,xm 3 26]))))))
 (.seq (.draw [(xf 0 42 1,[]),(xo 43 42,[]),(xc 47 44 [.s 43,.c (.int .u8 102)],[]),(xf 0 45 1,[]),(xo 46 45,[0]),(xc 47 47 [.s 46,.c (.int .u8 119)],[]),(xm 4 44,[]),(xm 5 47,[])])
 (.seq (.seq (.draw [(xf 0 48 1,[]),(xo 49 48,[]),(xc 47 50 [.s 49,.c (.int .u8 110)],[]),(xf 2 51 1,[]),(xf 0 52 51,[]),(xo 53 52,[0]),(xc 39 54 [.s 53],[]),(⟨(some 55),.binB true (.s 50) (.s 54),none⟩,[]),(xm 56 55,[]),(xh 56 (xf 0 57 1),[]),(xh 56 (xo 58 57),[]),(xh 56 (xc 47 59 [.s 58,.c (.int .u8 110)]),[]),(⟨(some 60),.not (.s 59),(some (56,false))⟩,[]),(xh 56 (xm 61 60),[]),(xg 61 (xf 2 62 1),[]),(xg 61 (xf 0 63 62),[]),(xg 61 (xo 64 63),[]),(⟨(some 65),.binS .neq (.s 64) (.c (.str [])),(some (61,true))⟩,[]),(⟨(some 66),.pick (.s 61) (.s 65) (.c (.bool false)),(some (56,false))⟩,[]),(⟨(some 67),.pick (.s 56) (.c (.bool true)) (.s 66),none⟩,[]),(xm 68 67,[]),(xh 68 (xm 69 4),[]),(xh 68 (xm 70 69),[]),(xg 70 (xf 4 71 1),[]),(xg 70 (xo 72 71),[]),(xg 70 (xL 73 72),[]),(xg 70 (xB .neq 74 73 1),[]),(⟨(some 75),.pick (.s 70) (.s 74) (.c (.bool false)),(some (68,false))⟩,[]),(⟨(some 76),.pick (.s 68) (.c (.bool true)) (.s 75),none⟩,[]),(xm 77 76,[]),(xh 77 (xm 78 5),[]),(xh 77 (xm 79 78),[]),(xg 79 (xf 4 80 1),[]),(xg 79 (xo 81 80),[]),(xg 79 (xL 82 81),[]),(xg 79 (xB .eql 83 82 0),[]),(⟨(some 84),.pick (.s 79) (.s 83) (.c (.bool false)),(some (77,false))⟩,[]),(⟨(some 85),.pick (.s 77) (.c (.bool true)) (.s 84),none⟩,[]),(xm 86 85,[]),(xh 86 (xm 87 4),[]),(⟨(some 88),.not (.s 87),(some (86,false))⟩,[]),(xh 86 (xm 89 88),[]),(xg 89 (xm 90 5),[]),(⟨(some 91),.not (.s 90),(some (89,true))⟩,[]),(⟨(some 92),.pick (.s 89) (.s 91) (.c (.bool false)),(some (86,false))⟩,[]),(xh 86 (xm 93 92),[]),(xg 93 (xf 4 94 1),[]),(xg 93 (xo 95 94),[]),(xg 93 (xL 96 95),[]),(xg 93 (xB .gtr 97 96 0),[]),(⟨(some 98),.pick (.s 93) (.s 97) (.c (.bool false)),(some (86,false))⟩,[]),(⟨(some 99),.pick (.s 86) (.c (.bool true)) (.s 98),none⟩,[]),(xm 100 99,[]),(xh 100 (xf 0 101 1),[]),(xh 100 (xo 102 101),[]),(xh 100 (xc 47 103 [.s 102,.c (.int .u8 112)]),[]),(⟨(some 104),.not (.s 103),(some (100,false))⟩,[]),(xh 100 (xm 105 104),[]),(xg 105 (xf 5 106 1),[]),(xg 105 (xo 107 106),[]),(xg 105 (xL 108 107),[]),(xg 105 (xB .gtr 109 108 0),[]),(⟨(some 110),.pick (.s 105) (.s 109) (.c (.bool false)),(some (100,false))⟩,[]),(⟨(some 111),.pick (.s 100) (.c (.bool true)) (.s 110),none⟩,[])])
 (.cond (.s 111) (.seq (.reg [⟨(some 2),.mv (.c (.bool false)),none⟩])
 (.ret))
 (.skip)))
 (.seq (.seq (.reg [xf 0 112 1,xo 113 112,xc 47 114 [.s 113,.c (.int .u8 116)]])
 (.cond (.s 114) (.seq (.reg [xf 7 115 1,xl 5 116 115,xc 48 117 [.s 116],xm 118 117,xg 118 (xf 12 119 1),xg 118 (xl 5 120 119),xg 118 (xc 48 121 [.s 120]),⟨(some 122),.pick (.s 118) (.s 121) (.c (.bool false)),none⟩,xm 2 122])
 (.ret))
 (.skip)))
 (.seq (.seq (.reg [xf 0 123 1,xo 124 123,xc 47 125 [.s 124,.c (.int .u8 114)]])
 (.cond (.s 125) (.seq (.reg [xf 7 126 1,xl 5 127 126,xc 49 128 [.s 127],xm 129 128,xg 129 (xf 12 130 1),xg 129 (xl 5 131 130),xg 129 (xc 49 132 [.s 131]),⟨(some 133),.pick (.s 129) (.s 132) (.c (.bool false)),none⟩,xm 2 133])
 (.ret))
 (.skip)))
 (.seq (.reg [xf 7 134 1,xl 5 135 134,xc 50 136 [.s 135],xm 137 136,xg 137 (xf 12 138 1),xg 137 (xl 5 139 138),xg 137 (xc 50 140 [.s 139]),⟨(some 141),.pick (.s 137) (.s 140) (.c (.bool false)),none⟩,xm 2 141])
 (.ret))))))))
theorem fn16:IsFn prog 16 ac16 [.tmp 2] 142:=⟨f16,⟨[],[],[]⟩,func16,by kernel_rfl,by kernel_rfl,by kernel_rfl,by kernel_rfl⟩
def badR (c:Cmd):Bool :=
  (hasL c.op 110 != nameR c.name.text)||(!hasL c.op 110&&!decide (c.name.text=[]))||(hasL c.op 102&&!decide (c.names.length=1))||(hasL c.op 119&&decide (c.names.length=0)) ||
    (!hasL c.op 102&&!hasL c.op 119&&decide (0<c.names.length))||(!hasL c.op 112&&decide (0<c.pairs.length))
def termR (c:Cmd):Bool:=if hasL c.op 116=true then c.left.labelQ&&c.right.labelQ else if hasL c.op 114=true then c.left.rowQ&&c.right.rowQ else c.left.sameQ .zero&&c.right.sameQ .zero
def rightR (c:Cmd):Bool:=decide (0≤c.op∧c.op≤15)&&rightW c.names&&c.pairs.all pairQ&&!badR c&&termR c
theorem right_same (c:Cmd):rightR c=c.rightQ:=by
  unfold rightR Cmd.rightQ
  by_cases ho:0≤c.op∧c.op≤15
  case neg=>simp[ho]
  have hboth:¬(0<cntN c.op 119∧0<cntN c.op 102):=by
    have key:∀n<16,¬(0<cntN ((n:Nat):Int) 119∧0<cntN ((n:Nat):Int) 102):=by decide +kernel
    have:=key c.op.toNat (by omega)
    rwa [show ((c.op.toNat:Nat):Int)=c.op by omega] at this
  have hn:(!(hasL c.op 110 != nameR c.name.text)&&!(!hasL c.op 110&&!decide (c.name.text=[])))=c.nameQ:=by
    unfold Cmd.nameQ;rw[hasL_cnt]
    by_cases h:cntN c.op 110=0
    · rw[if_pos h,h]
      by_cases he:c.name.text=[]
      · simp[he,show nameR []=false by decide]
      · simp[he]
    · rw[if_neg h,decide_eq_true (show 0<cntN c.op 110 by omega)];simp
  have hns:(rightW c.names&&!(hasL c.op 102&&!decide (c.names.length=1))&&!(hasL c.op 119&&decide (c.names.length=0))&&!(!hasL c.op 102&&!hasL c.op 119&&decide (0<c.names.length)))=c.namesQ:=by
    have he:namedQ (c.names.map Word.text)=rightW c.names:=by simp only[namedQ,List.all_map];rfl
    unfold Cmd.namesQ;rw[hasL_cnt,hasL_cnt,he]
    by_cases h1:0<cntN c.op 119
    · have h2:¬0<cntN c.op 102:=fun h=>hboth ⟨h1,h⟩
      rw[if_pos h1,decide_eq_true h1,decide_eq_false h2]
      by_cases h3:c.names.length=0
      · simp[h3]
      · simp[h3,show 0<c.names.length by omega]
    · rw[if_neg h1,decide_eq_false h1]
      by_cases h2:0<cntN c.op 102
      · rw[if_pos h2,decide_eq_true h2];simp[Bool.and_comm]
      · rw[if_neg h2,decide_eq_false h2]
        by_cases h3:c.names.length=0
        · have:c.names=[]:=List.length_eq_zero_iff.1 h3
          simp[this,rightW]
        · simp[h3,show 0<c.names.length by omega]
  have hp:(c.pairs.all pairQ&&!(!hasL c.op 112&&decide (0<c.pairs.length)))=c.pairsQ:=by
    unfold Cmd.pairsQ;rw[hasL_cnt]
    by_cases h:cntN c.op 112=0
    · rw[if_pos h,h]
      by_cases h3:c.pairs.length=0
      · have:c.pairs=[]:=List.length_eq_zero_iff.1 h3
        simp[this]
      · simp[h3,show 0<c.pairs.length by omega]
    · rw[if_neg h,decide_eq_true (show 0<cntN c.op 112 by omega)];simp
  have ht:termR c=c.termsQ:=by
    unfold termR Cmd.termsQ;rw[hasL_cnt,hasL_cnt];simp only[decide_eq_true_eq]
  rw[←hn,←hns,←hp,ht];unfold badR;generalize c.termsQ=t;generalize c.pairs.all pairQ=p;generalize rightW c.names=w;generalize (hasL c.op 110 != nameR c.name.text)=b1;generalize (!hasL c.op 110&&!decide (c.name.text=[]))=b2;generalize (hasL c.op 102&&!decide (c.names.length=1))=b3;generalize (hasL c.op 119&&decide (c.names.length=0))=b4;generalize (!hasL c.op 102&&!hasL c.op 119&&decide (0<c.names.length))=b5;generalize (!hasL c.op 112&&decide (0<c.pairs.length))=b6;simp only[ho,and_self,decide_true,Bool.true_and];cases t<;>cases p<;>cases w<;>cases b1<;>cases b2<;>cases b3<;>cases b4<;>cases b5<;>cases b6<;>rfl
def inv12r (c:Cmd) (σ:Store) (i:Nat):St :=
  ⟨[.any,.ptr (.loc 0) 0,.any,.int .i64 (i:Nat)]++List.replicate 138 .any,[c.enc],σ⟩
theorem right12_calls (c:Cmd) (σ:Store) (hn:c.names.length+1≤big) (hp:c.pairs.length+1≤big) (hl:c.left.wt≤big) (hr:c.right.wt≤big):PCalls prog 16 [.agg c.enc] σ fun v σ' => v = .bool c.rightQ∧σ' = σ:=by
  simp only[big] at hn hp;rw[←right_same];refine fn16.calls ?_;simp only[slots,ac16,am,ams,cfl,cfo]
  by_cases k1:c.op<0
  · simp only[am,decide_eq_true k1];refine retS ?_;simp[V.erase,rightR,show ¬(0≤c.op∧c.op≤15) by omega]
  simp only[am,cfo,decide_eq_false k1]
  by_cases k2:15<c.op
  · simp only[am,decide_eq_true k2];refine retS ?_;simp[V.erase,rightR,show ¬(0≤c.op∧c.op≤15) by omega]
  have k3:0≤c.op∧c.op≤15:=by omega
  simp only[am,cfv,decide_eq_false k2];refine cl (texts12_calls c.names σ (by simp only[big];omega)) ?_;simp only[am];cases q1:rightW c.names
  · simp only[am];refine retS ?_;simp[V.erase,rightR,q1]
  simp only[am];refine vc_loop (fun p:{i:Nat // i≤c.pairs.length∧(c.pairs.take i).all pairQ=true}=>inv12r c σ p.1) (fun p=>c.pairs.length - p.1) ?_ ?_
  · refine Upd.enter ⟨0,by simp,by simp⟩ ?_ LLLe.rfl OLe.rfl;simp[inv12r,List.replicate,am]
  rintro⟨i,hi,ha⟩;simp only[inv12r,List.replicate,am,cfv,List.length_map]
  by_cases hlt:i<c.pairs.length
  · simp only[am,cfv,decide_eq_true (show (i:Int)<c.pairs.length by omega)];refine idxL_intro (by omega) (pencs_at (List.getElem?_eq_getElem hlt)) ?_;simp only[am,amc];refine idxPL_elt (by omega) (by omega) ?_;simp only[am,Int.reduceToNat,Nat.reduceMul,cfv,penc];refine idxL_intro (by omega) (pencs_at (List.getElem?_eq_getElem hlt)) ?_;simp only[am,amc];refine idxPL_elt (by omega) (by omega) ?_;simp only[am,Nat.reduceAdd,Int.reduceToNat,Nat.reduceMul,penc];refine CallD.intro (texts12_calls (τ:=.full) [c.pairs[i].1,c.pairs[i].2] σ (by simp[big])) ?_;have hpq:rightW [c.pairs[i].1,c.pairs[i].2]=pairQ c.pairs[i]:=by simp[rightW,pairQ]
    simp only[am,hpq];cases q:pairQ c.pairs[i]
    · simp only[am]
      have:c.pairs.all pairQ=false:=all_no (f:=pairQ) hlt q
      refine retS ?_;simp[V.erase,rightR,this]
    · simp only[am];rw[wrap_i64 (by omega) (by omega)];exact Upd.again (I:=fun p:{i:Nat // i≤c.pairs.length∧(c.pairs.take i).all pairQ=true}=>inv12r c σ p.1) (μ:=fun p=>c.pairs.length - p.1) ⟨i+1,hlt,by rw[xall_take hlt,ha,q];rfl⟩ (by simp;omega) (by simp[List.replicate,am,inv12r]) LLLe.rfl OLe.rfl
  · have hlt:i=c.pairs.length:=by omega
    subst hlt;rw[List.take_length] at ha;simp only[am,cfo,decide_eq_false (show ¬(c.pairs.length:Int)<c.pairs.length by omega)];have hq:rightR c=(!badR c&&termR c):=by simp[rightR,k3,q1,ha]
    rw[hq];refine CallD.intro (has12_calls c.op 102 σ) ?_;simp only[am,cfo];refine CallD.intro (has12_calls c.op 119 σ) ?_;simp only[am,cfo];refine CallD.intro (has12_calls c.op 110 σ) ?_;simp only[am,cfv];refine CallD.intro (right2_calls c.name.text σ) ?_;simp only[am]
    by_cases e1:hasL c.op 110=nameR c.name.text
    case' neg =>
      simp only[am,cfv,decide_eq_false e1];refine retS ?_;simp[V.erase,badR,e1]
    case' pos =>
      simp only[am,cfo,decide_eq_true e1];refine CallD.intro (has12_calls c.op 110 σ) ?_;simp only[am];cases q110:hasL c.op 110
      case' false =>
        simp only[am,cfv]
        by_cases e2:c.name.text=[]
        case' neg =>
          simp only[am,cfv,decide_eq_false e2];refine retS ?_;simp[V.erase,badR,q110,e2]
        case' pos =>
          simp only[am,decide_eq_true e2]
      case' true =>
        simp only[am]
    all_goals
      cases q102:hasL c.op 102
      case' true =>
        simp only[am,List.length_map,cfv,List.length_map]
        by_cases e3:c.names.length=1
        case' neg =>
          simp only[am,cfv,decide_eq_false (show ¬(c.names.length:Int)=1 by omega)];refine retS ?_;simp[V.erase,badR,q102,e3]
        case' pos =>
          simp only[am,decide_eq_true (show (c.names.length:Int)=1 by omega)]
      case' false =>
        simp only[am]
    all_goals
      cases q119:hasL c.op 119
      case' true =>
        simp only[am,List.length_map,cfv,List.length_map]
        by_cases e4:c.names.length=0
        case' pos =>
          simp only[am,cfv,decide_eq_true (show (c.names.length:Int)=0 by omega)];refine retS ?_;simp[V.erase,badR,q119,e4]
        case' neg =>
          simp only[am,cfo,decide_eq_false (show ¬(c.names.length:Int)=0 by omega)]
      case' false =>
        simp only[am,List.length_map,cfo,cfv,List.length_map]
    all_goals
      have e1' : (hasL c.op 110 != nameR c.name.text)=false:=by simp[e1]
      clear e1
      first
        | refine CallD.intro (has12_calls c.op 112 σ) ?_
        | by_cases e5 : 0 < c.names.length
          case' pos =>
            simp only[am,cfv,decide_eq_true (show (0:Int)<c.names.length by omega)];have hb:badR c=true:=by simp[badR,q102,q119,e5]
            refine retS ?_;simp[V.erase,hb]
          case' neg =>
            simp only[am,cfo,decide_eq_false (show ¬(0:Int)<c.names.length by omega)];refine CallD.intro (has12_calls c.op 112 σ) ?_
    all_goals
      simp only[am];cases q112:hasL c.op 112
      case' false =>
        simp only[am,List.length_map,cfv,List.length_map]
        by_cases e6:0<c.pairs.length
        case' pos =>
          simp only[am,decide_eq_true (show (0:Int)<c.pairs.length by omega)];have hb:badR c=true:=by simp[badR,q112,e6]
          refine retS ?_;simp[V.erase,hb]
        case' neg =>
          simp only[am,cfo,decide_eq_false (show ¬(0:Int)<c.pairs.length by omega)]
      case' true =>
        simp only[am,cfo,cfv]
    all_goals
      have hb:badR c=false:=by unfold badR;rw[e1'];clear e1';simp[*]
      refine cl (has12_calls c.op 116 σ) ?_;simp only[am];cases q116:hasL c.op 116
      case' true =>
        simp only[am,Nd.rec_,cfv];refine cl (label2_calls _ c.left σ (Nat.le_refl _) hl) ?_;simp only[am];cases z1:c.left.labelQ
        case' true =>
          simp only[am,Nd.rec_,cfv];refine cl (label2_calls _ c.right σ (Nat.le_refl _) hr) ?_;simp only[am];refine retS ?_;simp[V.erase,hb,termR,q116,z1]
        case' false =>
          simp only[am];refine retS ?_;simp[V.erase,hb,termR,q116,z1]
      case' false =>
        simp only[am,cfo];refine cl (has12_calls c.op 114 σ) ?_;simp only[am];cases q114:hasL c.op 114
        case' true =>
          simp only[am,Nd.rec_,cfv];refine cl (row2_calls c.left σ hl) ?_;simp only[am];cases z1:c.left.rowQ
          case' true =>
            simp only[am,Nd.rec_,cfv];refine cl (row2_calls c.right σ hr) ?_;simp only[am];refine retS ?_;simp[V.erase,hb,termR,q116,q114,z1]
          case' false =>
            simp only[am];refine retS ?_;simp[V.erase,hb,termR,q116,q114,z1]
        case' false =>
          simp only[am,Nd.rec_,cfv];refine cl (zero12_calls c.left σ hl) ?_;simp only[am];cases z1:c.left.sameQ .zero
          case' true =>
            simp only[am,Nd.rec_,cfv];refine cl (zero12_calls c.right σ hr) ?_;simp only[am];refine retS ?_;simp[V.erase,hb,termR,q116,q114,z1]
          case' false =>
            simp only[am];refine retS ?_;simp[V.erase,hb,termR,q116,q114,z1]
end Go.Proofs.Tryz

namespace Go.Proofs.Tryz
open Go.Am
set_option maxRecDepth 4000
set_option maxHeartbeats 4000000
def ac28:AC:=.seq (.reg [⟨(some 3),.box 2 (.s 0),none⟩,⟨(some 5),.box 5 (.s 2),none⟩,⟨(some 6),.alloc atmZ,none⟩])
 (.seq (.seq (.reg [xf 0 9 5,xo 10 9,xB .eql 11 10 1])
 (.cond (.s 11) (.seq (.reg [xl 2 12 3,xf 2 13 5,xo 14 13,xc 30 15 [.s 12,.s 14],⟨(some 16),.build atmZ [(0,1,(.s 15))],none⟩,xs 9 6 16])
 (.ret))
 (.skip)))
 (.seq (.drawA [7,8] [(xf 0 18 3,[]),(xo 19 18,[]),(xm 20 1,[]),(xA 3 21 19 20,[]),(xf 1 22 21,[]),(xl 2 23 22,[]),(xf 4 24 5,[]),(xo 25 24,[]),(⟨(some 26),.idxA 5 (.s 25) (.c (.int .i64 0)),none⟩,[]),(xl 5 27 26,[]),(xc 69 28 [.s 23,.s 27],[]),(xm 17 28,[]),(xe 29 17 0,[]),(xe 30 17 1,[]),(⟨none,.mv (.c .any),none⟩,[]),(⟨none,.mv (.c .any),none⟩,[]),(⟨(some 7),.boxS 8 (.s 29),none⟩,[]),(⟨(some 8),.boxS 2 (.s 30),none⟩,[])])
 (.seq (.reg [xl 8 31 7,⟨(some 32),.build atmZ [(0,1,(.c (.int .i64 (-1)))),(1,8,(.s 31))],none⟩,xs 9 6 32])
 (.ret))))
theorem fn28:IsFn prog 28 ac28 [.cell 6 true 9] 33:=⟨f28,⟨[],[],[]⟩,func28,by kernel_rfl,by kernel_rfl,by kernel_rfl,by kernel_rfl⟩
def ac29:AC:=.seq (.reg [⟨(some 3),.box 2 (.s 0),none⟩,⟨(some 5),.box 5 (.s 2),none⟩,⟨(some 6),.alloc [(.sl .full 10 []),(.int .i64 0)],none⟩])
 (.seq (.reg [⟨(some 9),.build [(.sl .full 10 []),(.int .i64 0)] [(1,1,(.c (.int .i64 (-1))))],none⟩,⟨(some 7),.alloc [(.sl .full 10 []),(.int .i64 0)],none⟩,xs 2 7 9])
 (.seq (.seq (.reg [xf 0 10 5,xo 11 10,xB .eql 12 11 1])
 (.cond (.s 12) (.seq (.reg [xl 2 13 3,xf 2 14 5,xo 15 14,xc 30 16 [.s 13,.s 15],xf 1 17 7,xs 1 17 16])
 (.seq (.reg [xl 2 18 7,xs 2 6 18])
 (.ret)))
 (.skip)))
 (.seq (.seq (.reg [xi 8 0])
 (.block 0 (.loop (.seq (.seq (.reg [xm 19 8,xf 4 20 5,xo 21 20,xL 22 21,xb .lss 23 19 22])
 (.cond (.s 23) (.skip)
 (.exit 0)))
 (.seq (.block 1 (.draw [(xf 0 26 7,[]),(xo 27 26,[1]),(xf 4 28 5,[]),(xo 29 28,[1]),(xm 30 8,[]),(xA 5 31 29 30,[]),(xf 2 32 31,[]),(xo 33 32,[1]),(xl 2 34 3,[]),(xm 35 1,[]),(xf 4 36 5,[]),(xo 37 36,[]),(xm 38 8,[]),(xA 5 39 37 38,[]),(xf 4 40 39,[]),(xo 41 40,[]),(⟨(some 42),.idxA 5 (.s 41) (.c (.int .i64 0)),none⟩,[]),(xl 5 43 42,[]),(xc 28 44 [.s 34,.s 35,.s 43],[]),(⟨(some 45),.build fldZ [(0,1,(.s 33)),(1,9,(.s 44))],none⟩,[]),(⟨(some 46),.bslice 10 [(.s 45)],none⟩,[]),(xa 10 47 27 46,[]),(xf 0 48 7,[]),(xs 1 48 47,[])]))
 (.reg [xm 24 8,xB .add 25 24 1,xm 8 25]))))))
 (.seq (.seq (.reg [xf 3 49 5,xo 50 49,xL 51 50,xB .gtr 52 51 0])
 (.cond (.s 52) (.draw [(xl 2 53 3,[]),(xf 3 54 5,[]),(xo 55 54,[]),(⟨(some 56),.idxA 2 (.s 55) (.c (.int .i64 0)),none⟩,[]),(xf 0 57 56,[]),(xo 58 57,[]),(xc 30 59 [.s 53,.s 58],[]),(xf 1 60 7,[]),(xs 1 60 59,[])])
 (.skip)))
 (.seq (.reg [xl 2 61 7,xs 2 6 61])
 (.ret))))))
theorem fn29:IsFn prog 29 ac29 [.cell 6 true 2] 62:=⟨f29,⟨[],[],[]⟩,func29,by kernel_rfl,by kernel_rfl,by kernel_rfl,by kernel_rfl⟩
theorem ratom_calls (s:Scp) (lat:Nat) (n:Nd) {σ:Store} (hs:s.ok) (hlat:lat<s.lats.length) (hk:n.kind=1∨0<n.kids.length) (hc:n.cnt≤100000) (hw:n.wt≤big) :
    PCalls prog 28 [.agg s.enc,.int .i64 (lat:Nat),.agg n.enc] σ fun v σ' => v = .agg (atmF s lat n).enc∧σ' = σ:=by
  refine fn28.calls ?_;simp only[slots,ac28,z27_,Nat.reduceAdd,Int.reduceNeg,Atm.rec_]
  by_cases h1:n.kind=1
  · simp only[am,Int.reduceNeg,Scp.rec_,Nd.fl,decide_eq_true h1];refine cl (var_calls s n.text σ hs.2.1) ?_;simp only[am,Int.reduceNeg,Atm.rec_];exact retK_intro (v:=.agg (Atm.mk (optI (findV s.vars n.text)) .zero).enc) Atm.r_nol (Store.sub_refl _) ⟨by rw[atmF,if_pos h1];simp only[V.erase,Atm.r_er],rfl⟩
  have hk:0<n.kids.length:=hk.resolve_left h1;have hm:n.kids[0]∈n.kids:=List.getElem_mem _;have hmc:=cnt_kid hm;have hmw:=kid_wt hm;simp only[am,Nat.reduceAdd,decide_true,Int.reduceNeg,Nat.reduceLT,Scp.rec_,decide_eq_false h1];refine idxL_intro (by omega) (lats_at hlat) ?_;simp only[am,Int.reduceNeg,Scp.rec_,Nd.fl];refine idxL_intro (n:=0) (by omega) (nencs_at (j:=0) (List.getElem?_eq_getElem hk)) ?_;simp only[am,Int.reduceNeg,Shp.rec_,Nd.rec_];refine CallD.intro (relem_calls s.lats[lat].shape n.kids[0] σ (hs.2.2 _ (List.getElem_mem hlat)) (fun m hm=>by obtain⟨a,b,c⟩:=parts_ok (n:=n.kids[0]) (by omega) m hm;exact⟨by omega,by omega,fun q hq=>by have:=c q hq;omega⟩) (by omega)) ?_;have ee:atmF s lat n=⟨-1,(elemF s.lats[lat].shape n.kids[0]).1⟩:=by rw[atmF,if_neg h1,shapeF_at hlat,getD_at hk]
  generalize elemF s.lats[lat].shape n.kids[0]=g at ee;obtain⟨e,o⟩:=g;cases o with
  | none =>
    simp only[am,Nat.reduceAdd,Int.reduceNeg,Elm.rec_,Atm.rec_,show fltV none=[.int .i64 0,.int .i64 0] from rfl];exact retK_intro (v:=.agg (Atm.mk (-1) e).enc) Atm.r_nol (Store.sub_refl _) ⟨by rw[ee];simp only[V.erase,Atm.r_er],rfl⟩
  | some q =>
    simp only[am,Nat.reduceAdd,Int.reduceNeg,Elm.rec_,Atm.rec_,show fltV (some q)=[.int .i64 4,.int .i64 q] from rfl];exact retK_intro (v:=.agg (Atm.mk (-1) e).enc) Atm.r_nol (Store.sub_refl _) ⟨by rw[ee];simp only[V.erase,Atm.r_er],rfl⟩
theorem rrterm_calls (s:Scp) (lat:Nat) (n:Nd) {σ:Store} (hs:s.ok) (hlat:lat<s.lats.length) (hk:∀k∈n.kids,fldK k) (hn1:n.names.length≤1) (hc:n.cnt≤100000) (hw:n.wt≤big) :
    PCalls prog 29 [.agg s.enc,.int .i64 (lat:Nat),.agg n.enc] σ fun v σ' => v = .agg (rtmF s lat n).enc∧σ' = σ:=by
  refine fn29.calls ?_;simp only[slots,ac29,z27_,Nat.reduceAdd,Int.reduceNeg,Fld.rec_]
  by_cases h1:n.kind=1
  · simp only[am,Int.reduceNeg,Scp.rec_,Nd.fl,decide_eq_true h1];refine cl (var_calls s n.text σ hs.2.1) ?_;simp only[am,Nat.reduceAdd,Int.reduceNeg];exact retK_intro rfl (Store.sub_refl _) ⟨by rw[rtmF,if_pos h1];rfl,rfl⟩
  simp only[am,Int.reduceNeg,decide_eq_false h1];have hkc:=cnt_kids n;obtain⟨Q,hQ⟩:∃Q:Nat→List (List V),∀i,Q i=((n.kids.take i).map (fldF s lat)).map Fld.enc:=⟨_,fun _=>rfl⟩;have hQ0:Q 0=[]:=by rw[hQ];rfl
  have hQn:Q n.kids.length=(n.kids.map (fldF s lat)).map Fld.enc:=by rw[hQ,List.take_length]
  have hQl:∀{i:Nat},i≤n.kids.length→(Q i).length=i:=fun {i} hi=>by rw[hQ];simp;omega
  have hQs:∀{i:Nat} (hi:i<n.kids.length) (h1:0<n.kids[i].kids.length),Q (i+1)=Q i++[(Fld.mk n.kids[i].text (atmF s lat n.kids[i].kids[0])).enc]:=fun {i} hi h1=>by
    rw[hQ,hQ,List.take_succ_eq_append_getElem hi,List.map_append,List.map_append,List.map_singleton,List.map_singleton,fldF,getD_at h1]
  obtain⟨F,hF⟩:∃F:Nat→Nat→St,∀i τ,F i τ=⟨[.any,.int .i64 (lat:Nat),.any,.ptr (.loc 0) 0,.any,.ptr (.loc 1) 0,.ptr (.loc 2) 0,.ptr (.loc 3) 0,.int .i64 (i:Nat)]++List.replicate 53 .any,[s.enc,n.enc,[.sl .full 10 [],.int .i64 0],[.sl (.tk τ) 10 (Q i),.int .i64 (-1)]],σ.setTip τ i⟩:=⟨_,fun _ _=>rfl⟩;obtain⟨JF,hJF⟩:∃JF:Nat→Nat→Prop,∀i τ,JF i τ=(σ.tip τ=none):=⟨_,fun _ _=>rfl⟩;refine vc_count (n.kids.length) F JF _ hJF ?_ ?_ ?_
  · refine entTL 0 fun τ hτ=>⟨τ,Eq.mpr (hJF _ _) hτ,?_,?_,?_⟩
    all_goals simp[hF,List.replicate,lto,llto,hQ0]
  · rintro i τ hi hτ;have hm:n.kids[i]∈n.kids:=List.getElem_mem _;have hmc:=cnt_kid hm;have hmw:=kid_wt hm;obtain⟨hk1,hk2⟩:=hk _ hm;have hm2:n.kids[i].kids[0]∈n.kids[i].kids:=List.getElem_mem _;have hmc2:=cnt_kid hm2;have hmw2:=kid_wt hm2;have hlen:=hQl (Nat.le_of_lt hi);simp only[hF,List.replicate,am,dlt hi,Int.reduceNeg,Nd.fl,List.length_map];refine idxL_intro (by omega) (nencs_at (List.getElem?_eq_getElem hi)) ?_;simp only[am,Int.reduceNeg,Scp.rec_,Nd.fl];refine idxL_intro (by omega) (nencs_at (List.getElem?_eq_getElem hi)) ?_;simp only[am,Int.reduceNeg,Nd.fl];refine idxL_intro (n:=0) (by omega) (nencs_at (j:=0) (List.getElem?_eq_getElem hk1)) ?_;simp only[am,Int.reduceNeg,Scp.rec_,Nd.rec_];refine CallD.intro (ratom_calls s lat n.kids[i].kids[0] hs hlat (hk2 _ hm2) (by omega) (by omega)) ?_;simp only[am,Int.reduceNeg,Atm.rec_,Fld.rec_];refine appD_tk (by rw[hlen];simp[big];omega) (by rw[hlen];exact setTip_tip_same) ?_;rw[hlen];simp only[am,aml,Int.reduceNeg,Nd.fl,setTip_setTip,winc hi (by omega),List.length_singleton];refine nxtD (τ) hi ?_ ?_ ?_ ?_ ?_ ?_
    · exact Eq.mpr (hJF _ _) (hτ)
    all_goals simp[hF,List.replicate,am,lle_self,loL,loLL,V.lo,hQs hi hk1,Scp.r_lo,Nd.r_lo]
  · rintro τ hτ;have hlen:=hQl (Nat.le_refl _);have hnc:=cnt_names n;have e:rtmF s lat n=⟨n.kids.map (fldF s lat),tailF s n.names⟩:=by rw[rtmF,if_neg h1]
    simp only[hF,List.replicate,am,aml,dnl,aml,Int.reduceNeg,Nd.fl,List.length_map]
    by_cases hn0:0<n.names.length
    · simp only[am,Int.reduceNeg,Scp.rec_,Nd.fl,decide_eq_true (show (0:Int)<((n.names.length:Nat):Int) by omega)];refine idxL_intro (n:=0) (by omega) (words_at (l:=n.names) (j:=0) hn0) ?_;simp only[am,Int.reduceNeg,wd_t,Scp.rec_];refine CallD.intro (var_calls s n.names[0].text _ hs.2.1) ?_;simp only[am,Nat.reduceAdd,Int.reduceNeg,hQn];have et:=tailF_one (s:=s) hn0;rw[List.take_of_length_le (by omega)] at et;refine retK_intro rfl (sub_tip hτ) ⟨by rw[e,et];rfl,rfl⟩
    · simp only[am,Nat.reduceAdd,Int.reduceNeg,decide_eq_false (show ¬(0:Int)<((n.names.length:Nat):Int) by omega),hQn];have et:n.names=[]:=List.eq_nil_of_length_eq_zero (by omega);refine retK_intro rfl (sub_tip hτ) ⟨by rw[e,et];rfl,rfl⟩
end Go.Proofs.Tryz

namespace Go.Proofs.Tryz
open Go.Am
set_option maxRecDepth 4000
set_option maxHeartbeats 4000000
def ac10:AC:=.seq (.reg [⟨(some 2),.box 2 (.s 0),none⟩,⟨(some 3),.box 17 (.s 1),none⟩,⟨(some 4),.alloc astZ,none⟩,⟨(some 5),.mv (.c (.bool false)),none⟩])
 (.seq (.seq (.reg [xf 0 9 3,xo 10 9,xB .lss 11 10 8,xm 12 11,xh 12 (xf 0 13 3),xh 12 (xo 14 13),xh 12 (xB .gtr 15 14 10),⟨(some 16),.pick (.s 12) (.c (.bool true)) (.s 15),none⟩,xm 17 16,xh 17 (xl 17 18 3),xh 17 (xc 16 19 [.s 18]),⟨(some 20),.not (.s 19),(some (17,false))⟩,⟨(some 21),.pick (.s 17) (.c (.bool true)) (.s 20),none⟩,xm 22 21,xh 22 (xl 2 23 2),xh 22 (xl 17 24 3),xh 22 (xc 25 25 [.s 23,.s 24]),xh 22 (xw 0 26 25),xh 22 (xB .neq 27 26 0),⟨(some 28),.pick (.s 22) (.c (.bool true)) (.s 27),none⟩])
 (.cond (.s 28) (.seq (.reg [⟨(some 29),.build astZ [],none⟩,xs 18 4 29,⟨(some 5),.mv (.c (.bool false)),none⟩])
 (.ret))
 (.skip)))
 (.seq (.drawA [6] [(xf 0 30 3,[]),(xo 31 30,[1]),(xl 2 32 2,[]),(xf 2 33 3,[]),(xf 0 34 33,[]),(xo 35 34,[]),(xc 26 36 [.s 32,.s 35],[]),(⟨(some 37),.build astZ [(0,1,(.s 31)),(1,1,(.s 36))],none⟩,[]),(⟨none,.mv (.c .any),none⟩,[]),(⟨(some 6),.boxS 18 (.s 37),none⟩,[])])
 (.seq (.seq (.reg [xf 0 38 3,xo 39 38,xB .eql 40 39 8])
 (.cond (.s 40) (.seq (.reg [xl 2 42 2,xf 1 43 6,xo 44 43,xf 7 45 3,xl 5 46 45,xc 27 47 [.s 42,.s 44,.s 46],xm 41 47,xe 48 41 0,xe 49 41 1,xm 7 48,xm 8 49])
 (.seq (.reg [xm 50 7,xf 2 51 6,xs 1 51 50])
 (.reg [xl 2 52 2,xf 1 53 6,xo 54 53,xf 12 55 3,xl 5 56 55,xc 28 57 [.s 52,.s 54,.s 56],xf 3 58 6,xs 9 58 57])))
 (.skip)))
 (.seq (.seq (.reg [xf 0 59 3,xo 60 59,xB .eql 61 60 9])
 (.cond (.s 61) (.seq (.reg [xl 2 62 2,xf 1 63 6,xo 64 63,xf 7 65 3,xl 5 66 65,xc 29 67 [.s 62,.s 64,.s 66],xf 12 68 6,xs 2 68 67])
 (.reg [xl 2 69 2,xf 1 70 6,xo 71 70,xf 12 72 3,xl 5 73 72,xc 29 74 [.s 69,.s 71,.s 73],xf 14 75 6,xs 2 75 74]))
 (.skip)))
 (.seq (.seq (.reg [xf 0 76 3,xo 77 76,xB .eql 78 77 10])
 (.cond (.s 78) (.seq (.reg [xl 2 79 2,xf 2 80 3,xf 0 81 80,xo 82 81,xc 30 83 [.s 79,.s 82],xf 16 84 6,xs 1 84 83])
 (.seq (.reg [xf 1 85 2,xo 86 85,xf 16 87 6,xo 88 87,xA 3 89 86 88,xf 2 90 89,xo 91 90,xf 1 92 6,xs 1 92 91])
 (.reg [xf 4 93 3,xo 94 93,⟨(some 95),.idxA 2 (.s 94) (.c (.int .i64 0)),none⟩,xf 0 96 95,xo 97 96,xf 17 98 6,xs 1 98 97])))
 (.skip)))
 (.seq (.reg [xl 18 99 6,xs 18 4 99,⟨(some 5),.mv (.c (.bool true)),none⟩])
 (.ret)))))))
theorem fn10:IsFn prog 10 ac10 [.cell 4 true 18,.tmp 5] 100:=⟨f10,⟨[],[],[]⟩,func10,by kernel_rfl,by kernel_rfl,by kernel_rfl,by kernel_rfl⟩
theorem rassert_calls (s:Scp) (c:Cmd) {σ:Store} (hs:s.ok) (hn:c.names.length+1≤big) (hp:c.pairs.length+1≤big) (hl:c.left.cnt≤500) (hr:c.right.cnt≤500) (hwl:c.left.wt≤big) (hwr:c.right.wt≤big) :
    PCalls prog 10 [.agg s.enc,.agg c.enc] σ fun v σ' => v=astT s c∧σ' = σ:=by
  have no:∀(t:List V) (lo:List (List V)),isAst s c=false→RetK (fun v σ' => v=astT s c∧σ' = σ) ⟨t,lo,σ⟩ (.tup [.agg (astV 0 0 (.sl .full 10 []) .zero (.sl .full 10 []) 0 (.sl .full 10 []) 0 0 []),.bool false]):=fun t lo h=>by
    refine retK_intro (by simp only[V.nol,nolL,Bool.and_true];exact ast_nol rfl rfl rfl) (Store.sub_refl _) ⟨?_,rfl⟩;rw[astT,h];simp only[V.erase,eraseL,ast_er];rfl
  have yes:∀(t:List V) (lo:List (List V)) (op lat:Int) (cd:V) (to:Atm) (fa:V) (ta:Int) (fb:V) (tb v:Int) (f:List UInt8),isAst s c=true→cd.nol=true→fa.nol=true→fb.nol=true→astV op lat cd.erase to fa.erase ta fb.erase tb v f=(astF s c).enc→RetK (fun v σ' => v=astT s c∧σ' = σ) ⟨t,lo,σ⟩ (.tup [.agg (astV op lat cd to fa ta fb tb v f),.bool true]):=fun t lo op lat cd to fa ta fb tb v f h n1 n2 n3 hx=>by
    refine retK_intro (by simp only[V.nol,nolL,Bool.and_true];exact ast_nol n1 n2 n3) (Store.sub_refl _) ⟨?_,rfl⟩;rw[astT,h];simp only[V.erase,eraseL,ast_er,hx];rfl
  refine fn10.calls ?_;simp only[slots,ac10,am,ams,Nat.reduceAdd,Scp.rec_,astZ,cfl,cfo]
  by_cases o1:c.op<8
  · simp only[am,ast_,decide_eq_true o1];exact no _ _ (by simp[isAst];omega)
  simp only[am,cfo,decide_eq_false o1]
  by_cases o2:10<c.op
  · simp only[am,ast_,decide_eq_true o2];exact no _ _ (by simp[isAst];omega)
  simp only[am,cfl,decide_eq_false o2];refine cl (right12_calls c _ hn hp hwl hwr) ?_;cases hq:c.rightQ with
  | false =>
    simp only[am,ast_];exact no _ _ (by simp[isAst,hq])
  | true =>
    simp only[am,Scp.rec_,cfl];refine cl (rfault_calls s c hs hl hr hwl hwr) ?_;simp only[am,Flt.rec_]
    by_cases hf:(faultC s c).cls=0
    case neg =>
      simp only[am,ast_,decide_eq_false hf];exact no _ _ (by simp[isAst,hf])
    have hA:isAst s c=true:=by simp only[isAst,hq,hf,decide_true,Bool.and_true,Bool.and_eq_true,decide_eq_true_eq];omega
    have hF:=isAst_iff.1 hA;simp only[am,Nat.reduceAdd,decide_true,Nat.reduceLT,Scp.rec_,cfo,cfv,decide_eq_true hf];refine CallD.intro (lat13_calls s c.name.text σ hs.1) ?_;simp only[am,Nat.reduceAdd,ast_,cfo,ast_one (op:=c.op) (lat:=optI (findL s.lats c.name.text)) (c:=.sl .full 10 []) (to:=.zero) (fa:=.sl .full 10 []) (ta:=0) (fb:=.sl .full 10 []) (tb:=0) (v:=0) (f:=[]) rfl rfl rfl]
    by_cases h8:c.op=8
    · simp only[am,Scp.rec_,ast_,Nd.rec_,cfv,decide_eq_true h8];obtain⟨k,hk,hlt⟩:=hF.latI (.inl h8);have hk' : optI (findL s.lats c.name.text)=(k:Nat):=hk;rw[hk'];refine cl (rcompile_calls s k hs _ c.left _ (Nat.le_refl _) hwl (by omega)) ?_;simp only[am,Scp.rec_,ast_,Nd.rec_,cfv,codeT];refine cl (ratom_calls s k c.right hs hlt ?_ (by omega) hwr) ?_
      · rcases hF.right h8 with h | h
        · exact .inl h
        · exact .inr (by rw[label_const (hF.labels h8).2 h];omega)
      simp only[am,Atm.rec_,ast_,cfo,decide_eq_false (show ¬c.op=9 by omega),decide_eq_false (show ¬c.op=10 by omega),ast_one (op:=c.op) (lat:=k) (c:=.sl .no 10 (((compR s k c.left).getD []).map Ins.enc)) (to:=atmF s k c.right) (fa:=.sl .full 10 []) (ta:=0) (fb:=.sl .full 10 []) (tb:=0) (v:=0) (f:=[]) rfl rfl rfl];refine yes _ _ _ _ _ _ _ _ _ _ _ _ hA rfl rfl rfl ?_;rw[astF,if_pos h8,hk,h8];rfl
    simp only[am,cfo,decide_eq_false h8]
    by_cases h9:c.op=9
    · simp only[am,Scp.rec_,ast_,Nd.rec_,cfv,decide_eq_true h9];obtain⟨k,hk,hlt⟩:=hF.latI (.inr h9);have hk' : optI (findL s.lats c.name.text)=(k:Nat):=hk;rw[hk'];obtain⟨q1,q2⟩:=hF.rows h9;refine cl (rrterm_calls s k c.left hs hlt (rowQ_flds q1) (rowQ_one q1) (by omega) hwl) ?_;simp only[am,Scp.rec_,Rtm.rec_,ast_,Nd.rec_,cfv];refine cl (rrterm_calls s k c.right hs hlt (rowQ_flds q2) (rowQ_one q2) (by omega) hwr) ?_;simp only[am,Rtm.rec_,ast_,cfo,decide_eq_false (show ¬c.op=10 by omega),ast_one (op:=c.op) (lat:=k) (c:=.sl .full 10 []) (to:=.zero) (fa:=.sl .no 10 ((rtmF s k c.left).fs.map Fld.enc)) (ta:=(rtmF s k c.left).tail) (fb:=.sl .no 10 ((rtmF s k c.right).fs.map Fld.enc)) (tb:=(rtmF s k c.right).tail) (v:=0) (f:=[]) rfl rfl rfl];refine yes _ _ _ _ _ _ _ _ _ _ _ _ hA rfl rfl rfl ?_;rw[astF,if_neg h8,if_pos h9,hk,h9];rfl
    have h10:c.op=10:=by omega
    simp only[am,Scp.rec_,cfo,cfv,decide_eq_false h9,decide_eq_true h10];obtain⟨v,hv,hv1,hv2⟩:=hF.var h10;obtain⟨w,hw,_⟩:=hF.one h10;refine cl (var_calls s c.name.text σ hs.2.1) ?_;rw[hv1];simp only[am,Int.reduceNeg,Scp.rec_,ast_,optI];refine idxL_intro (by omega) (vars_at hv) ?_;simp only[am,Int.reduceNeg,Scp.rec_,ast_,cfv];have hw1:0<c.names.length:=by rw[hw];simp
    refine idxL_intro (n:=0) (by omega) (words_at (l:=c.names) (j:=0) hw1) ?_;simp only[am,Int.reduceNeg,wd_t,ast_,ast_one (op:=c.op) (lat:=s.vars[v].lat) (c:=.sl .full 10 []) (to:=.zero) (fa:=.sl .full 10 []) (ta:=0) (fb:=.sl .full 10 []) (tb:=0) (v:=v) (f:=c.names[0].text) rfl rfl rfl];refine yes _ _ _ _ _ _ _ _ _ _ _ _ hA rfl rfl rfl ?_;rw[astF,if_neg h8,if_neg h9,hv1,varLat,List.getElem?_eq_getElem hv,getD_at hw1,h10];rfl
end Go.Proofs.Tryz

namespace Go.Proofs.Tryz
open Go.Am
set_option maxRecDepth 4000
set_option maxHeartbeats 4000000
def ac7:AC:=.seq (.reg [⟨(some 1),.box 17 (.s 0),none⟩,⟨(some 2),.mv (.c (.bool false)),none⟩])
 (.seq (.seq (.reg [xf 4 3 1,xo 4 3,xL 5 4,xB .gtr 6 5 100,xm 7 6,xh 7 (xf 5 8 1),xh 7 (xo 9 8),xh 7 (xL 10 9),xh 7 (xB .gtr 11 10 100),⟨(some 12),.pick (.s 7) (.c (.bool true)) (.s 11),none⟩,xm 13 12,xh 13 (xf 2 14 1),xh 13 (xf 0 15 14),xh 13 (xo 16 15),xh 13 (xT 17 16),xh 13 (xB .gtr 18 17 100),⟨(some 19),.pick (.s 13) (.c (.bool true)) (.s 18),none⟩])
 (.cond (.s 19) (.seq (.reg [⟨(some 2),.mv (.c (.bool true)),none⟩])
 (.ret))
 (.skip)))
 (.seq (.reg [xf 7 20 1,xl 5 21 20,xf 12 22 1,xl 5 23 22,⟨(some 24),.bslice 5 [(.s 21),(.s 23)],none⟩,xc 19 25 [.s 24],xm 2 25])
 (.ret)))
theorem fn7:IsFn prog 7 ac7 [.tmp 2] 26:=⟨f7,⟨[],[],[]⟩,func7,by kernel_rfl,by kernel_rfl,by kernel_rfl,by kernel_rfl⟩
def Cmd.bigC (c:Cmd):Bool:=decide (100<c.names.length)||decide (100<c.pairs.length)||decide (100<c.name.text.length)||bigQ [c.left,c.right]
theorem cbig_calls (c:Cmd) (σ:Store) (hl:c.left.wt≤big) (hr:c.right.wt≤big):PCalls prog 7 [.agg c.enc] σ fun v σ' => v = .bool (Cmd.bigC c)∧σ' = σ:=by
  have hb:PCalls prog 19 [.sl .full 5 [c.left.enc,c.right.enc]] σ fun v σ' => v = .bool (bigQ [c.left,c.right])∧σ' = σ:=big_calls (τ:=.full) [c.left,c.right] σ (by simp[big]) (by intro x hx;rcases List.mem_cons.1 hx with rfl | hx;exact hl;rw[List.mem_singleton.1 hx];exact hr)
  refine fn7.calls ?_;simp only[slots,ac7,am,ams,cfl,cfv,List.length_map]
  by_cases k1:100<c.names.length
  · simp only[am,decide_eq_true (show (100:Int)<(c.names.length:Nat) by omega)];refine retS ?_;simp[V.erase,Cmd.bigC,k1]
  simp only[am,List.length_map,cfv,List.length_map,decide_eq_false (show ¬(100:Int)<(c.names.length:Nat) by omega)]
  by_cases k2:100<c.pairs.length
  · simp only[am,decide_eq_true (show (100:Int)<(c.pairs.length:Nat) by omega)];refine retS ?_;simp[V.erase,Cmd.bigC,k1,k2]
  simp only[am,cfv,decide_eq_false (show ¬(100:Int)<(c.pairs.length:Nat) by omega)]
  by_cases k3:100<c.name.text.length
  · simp only[am,decide_eq_true (show (100:Int)<(c.name.text.length:Nat) by omega)];refine retS ?_;simp[V.erase,Cmd.bigC,k1,k2,k3]
  simp only[am,Nd.rec_,cfv,decide_eq_false (show ¬(100:Int)<(c.name.text.length:Nat) by omega)];refine cl (hb) ?_;simp only[am];refine retS ?_;simp[V.erase,Cmd.bigC,k1,k2,k3]
end Go.Proofs.Tryz

namespace Go.Proofs.Tryz
open Go.Am
set_option maxRecDepth 4000
set_option maxHeartbeats 4000000
def ac11:AC:=.seq (.reg [⟨(some 2),.box 18 (.s 0),none⟩,⟨(some 3),.box 18 (.s 1),none⟩,⟨(some 4),.mv (.c (.bool false)),none⟩])
 (.seq (.reg [xf 0 5 2,xo 6 5,xf 0 7 3,xo 8 7,xb .eql 9 6 8,xm 10 9,xg 10 (xf 1 11 2),xg 10 (xo 12 11),xg 10 (xf 1 13 3),xg 10 (xo 14 13),xg 10 (xb .eql 15 12 14),⟨(some 16),.pick (.s 10) (.s 15) (.c (.bool false)),none⟩,xm 17 16,xg 17 (xf 2 18 2),xg 17 (xo 19 18),xg 17 (xf 2 20 3),xg 17 (xo 21 20),xg 17 (xc 31 22 [.s 19,.s 21]),⟨(some 23),.pick (.s 17) (.s 22) (.c (.bool false)),none⟩,xm 24 23,xg 24 (xf 3 25 2),xg 24 (xl 9 26 25),xg 24 (xf 3 27 3),xg 24 (xl 9 28 27),⟨(some 29),.eqA false [1,1,1,1,1,1,1,1,1] (.s 26) (.s 28),(some (24,true))⟩,⟨(some 30),.pick (.s 24) (.s 29) (.c (.bool false)),none⟩,xm 31 30,xg 31 (xf 12 32 2),xg 31 (xl 2 33 32),xg 31 (xf 12 34 3),xg 31 (xl 2 35 34),xg 31 (xc 32 36 [.s 33,.s 35]),⟨(some 37),.pick (.s 31) (.s 36) (.c (.bool false)),none⟩,xm 38 37,xg 38 (xf 14 39 2),xg 38 (xl 2 40 39),xg 38 (xf 14 41 3),xg 38 (xl 2 42 41),xg 38 (xc 32 43 [.s 40,.s 42]),⟨(some 44),.pick (.s 38) (.s 43) (.c (.bool false)),none⟩,xm 45 44,xg 45 (xf 16 46 2),xg 45 (xo 47 46),xg 45 (xf 16 48 3),xg 45 (xo 49 48),xg 45 (xb .eql 50 47 49),⟨(some 51),.pick (.s 45) (.s 50) (.c (.bool false)),none⟩,xm 52 51,xg 52 (xf 17 53 2),xg 52 (xo 54 53),xg 52 (xf 17 55 3),xg 52 (xo 56 55),⟨(some 57),.binS .eql (.s 54) (.s 56),(some (52,true))⟩,⟨(some 58),.pick (.s 52) (.s 57) (.c (.bool false)),none⟩,xm 4 58])
 (.ret))
theorem fn11:IsFn prog 11 ac11 [.tmp 4] 59:=⟨f11,⟨[],[],[]⟩,func11,by kernel_rfl,by kernel_rfl,by kernel_rfl,by kernel_rfl⟩
def ac32:AC:=.seq (.reg [⟨(some 2),.box 2 (.s 0),none⟩,⟨(some 3),.box 2 (.s 1),none⟩,⟨(some 4),.mv (.c (.bool false)),none⟩])
 (.seq (.seq (.reg [xf 1 6 2,xo 7 6,xf 1 8 3,xo 9 8,xb .neq 10 7 9,xm 11 10,xh 11 (xf 0 12 2),xh 11 (xo 13 12),xh 11 (xL 14 13),xh 11 (xf 0 15 3),xh 11 (xo 16 15),xh 11 (xL 17 16),xh 11 (xb .neq 18 14 17),⟨(some 19),.pick (.s 11) (.c (.bool true)) (.s 18),none⟩])
 (.cond (.s 19) (.seq (.reg [⟨(some 4),.mv (.c (.bool false)),none⟩])
 (.ret))
 (.skip)))
 (.seq (.seq (.reg [xi 5 0])
 (.block 0 (.loop (.seq (.seq (.reg [xm 20 5,xf 0 21 2,xo 22 21,xL 23 22,xb .lss 24 20 23])
 (.cond (.s 24) (.skip)
 (.exit 0)))
 (.seq (.block 1 (.seq (.draw [(xf 0 27 2,[]),(xo 28 27,[]),(xm 29 5,[]),(xA 10 30 28 29,[]),(xl 10 31 30,[]),(xf 0 32 3,[]),(xo 33 32,[]),(xm 34 5,[]),(xA 10 35 33 34,[]),(xl 10 36 35,[]),(⟨(some 37),.eqA true [2,1,1,1,1,1,1,1,1,1] (.s 31) (.s 36),none⟩,[])])
 (.cond (.s 37) (.seq (.reg [⟨(some 4),.mv (.c (.bool false)),none⟩])
 (.ret))
 (.skip))))
 (.reg [xm 25 5,xB .add 26 25 1,xm 5 26]))))))
 (.seq (.reg [⟨(some 4),.mv (.c (.bool true)),none⟩])
 (.ret))))
theorem fn32:IsFn prog 32 ac32 [.tmp 4] 38:=⟨f32,⟨[],[],[]⟩,func32,by kernel_rfl,by kernel_rfl,by kernel_rfl,by kernel_rfl⟩
theorem flds_at8 {l:List Fld} {j:Nat} (h:j<l.length):(l.map Fld.enc)[((j:Nat):Int).toNat]?=some l[j].enc:=by simp[h]
theorem rfields_calls (t:Rtm) (σ:Store) (hl:t.fs.length≤100000):PCalls prog 32 [.agg t.enc,.agg t.enc] σ fun v σ' => v = .bool true∧σ' = σ:=by
  refine fn32.calls ?_;simp only[slots,ac32,am,ams,Nat.reduceAdd,decide_true,Rtm.rec_,List.length_map];obtain⟨F,hF⟩:∃F:Nat→Unit→St,∀i x,F i x=⟨[.any,.any,.ptr (.loc 0) 0,.ptr (.loc 1) 0,.any,.int .i64 (i:Nat)]++List.replicate 32 .any,[t.enc,t.enc],σ⟩:=⟨_,fun _ _=>rfl⟩;obtain⟨JF,hJF⟩:∃JF:Nat→Unit→Prop,∀i x,JF i x=(True):=⟨_,fun _ _=>rfl⟩;refine vc_count (t.fs.length) F JF _ hJF ?_ ?_ ?_
  · refine ent (()) ?_ ?_ ?_ ?_
    · exact Eq.mpr (hJF _ _) (trivial)
    all_goals simp[hF,List.replicate,am,lle_self]
  · rintro i x hi -;simp only[hF,List.replicate,am,dlt hi,Rtm.rec_,List.length_map];refine idxL_intro (by omega) (flds_at8 hi) ?_;simp only[am,Fld.rec_,Rtm.rec_];refine idxL_intro (by omega) (flds_at8 hi) ?_;simp only[am,decide_true,aml,Fld.rec_,winc hi (by omega)];refine nxt (()) hi ?_ ?_ ?_ ?_
    · exact Eq.mpr (hJF _ _) (trivial)
    all_goals simp[hF,List.replicate,am,lle_self]
  · rintro x -;simp only[hF,List.replicate,am,aml,dnl,aml,Rtm.rec_,List.length_map];refine retS ?_;simp[V.erase]
theorem code_len (s:Scp) (c:Cmd) (hl:c.left.cnt≤500):(astF s c).code.length≤100000:=by
  rw[astF];split
  · have:=compR_len s (latI s c) c.left;simp only;omega
  · split<;>simp
theorem rtm_len {s:Scp} {lat:Nat} {n:Nd} (h:n.cnt≤500):(rtmF s lat n).fs.length≤100000:=by
  have:=cnt_kids n
  rw[rtmF];split
  · simp
  · simp only[List.length_map];omega
theorem flds_len (s:Scp) (c:Cmd) (hl:c.left.cnt≤500) (hr:c.right.cnt≤500):(astF s c).a.fs.length≤100000∧(astF s c).b.fs.length≤100000:=by
  rw[astF];split
  · simp[Rtm.zero]
  · split
    · exact⟨rtm_len hl,rtm_len hr⟩
    · simp[Rtm.zero]
theorem rast_calls (x:Ast) (σ:Store) (hc:x.code.length≤100000) (ha:x.a.fs.length≤100000) (hb:x.b.fs.length≤100000):PCalls prog 11 [.agg x.enc,.agg x.enc] σ fun v σ' => v = .bool true∧σ' = σ:=by
  obtain⟨op,lat,code,to,a,b,v,field⟩:=x;show PCalls prog 11 [.agg (astV op lat (.sl .no 10 (code.map Ins.enc)) to (.sl .no 10 (a.fs.map Fld.enc)) a.tail (.sl .no 10 (b.fs.map Fld.enc)) b.tail v field),.agg (astV op lat (.sl .no 10 (code.map Ins.enc)) to (.sl .no 10 (a.fs.map Fld.enc)) a.tail (.sl .no 10 (b.fs.map Fld.enc)) b.tail v field)] σ _;refine fn11.calls ?_;simp only[slots,ac11,am,ams,Nat.reduceAdd];simp only[am,decide_true,ast_];refine cl (samecode_calls code code σ hc hc) ?_;simp only[am,decide_true,Atm.rec_,ast_];refine cl (rfields_calls a σ ha) ?_;simp only[am,ast_];refine cl (rfields_calls b σ hb) ?_;simp only[am,decide_true,ast_];refine retS ?_;simp[V.erase]
end Go.Proofs.Tryz

namespace Go.Proofs.Tryz
open Go.Am
set_option maxRecDepth 4000
set_option maxHeartbeats 4000000
end Go.Proofs.Tryz

namespace Go.Proofs.Tryz
open Go.Am
set_option maxRecDepth 4000
set_option maxHeartbeats 4000000
def ac3:AC:=.seq (.reg [⟨(some 2),.box 2 (.s 0),none⟩,⟨(some 3),.box 17 (.s 1),none⟩,⟨(some 4),.mv (.c (.bool false)),none⟩])
 (.seq (.seq (.reg [xl 2 9 2,xc 6 10 [.s 9],xm 11 10,xh 11 (xl 17 12 3),xh 11 (xc 7 13 [.s 12]),⟨(some 14),.pick (.s 11) (.c (.bool true)) (.s 13),none⟩])
 (.cond (.s 14) (.seq (.reg [xc 8 15 [],xm 4 15])
 (.ret))
 (.skip)))
 (.seq (.reg [xl 2 17 2,xl 17 18 3,xc 9 19 [.s 17,.s 18],xm 16 19,xe 20 16 0,xe 21 16 1,⟨(some 5),.alloc astZ,none⟩,xs 18 5 20,xm 6 21])
 (.seq (.reg [xl 2 23 2,xl 17 24 3,xc 10 25 [.s 23,.s 24],xm 22 25,xe 26 22 0,xe 27 22 1,⟨(some 7),.alloc astZ,none⟩,xs 18 7 26,xm 8 27])
 (.seq (.reg [xl 18 28 5,xl 18 29 7,xc 11 30 [.s 28,.s 29],xm 31 30,xg 31 (xm 32 6),xg 31 (xm 33 8),⟨(some 34),.binB false (.s 32) (.s 33),(some (31,true))⟩,⟨(some 35),.pick (.s 31) (.s 34) (.c (.bool false)),none⟩,xm 36 35,xg 36 (xc 8 37 []),⟨(some 38),.pick (.s 36) (.s 37) (.c (.bool false)),none⟩,xm 4 38])
 (.ret)))))
theorem fn3:IsFn prog 3 ac3 [.tmp 4] 39:=⟨f3,⟨[],[],[]⟩,func3,by kernel_rfl,by kernel_rfl,by kernel_rfl,by kernel_rfl⟩
structure Ok15 (c:Cmd):Prop where
  n:c.names.length+1≤big
  p:c.pairs.length+1≤big
  l:c.left.wt≤big
  r:c.right.wt≤big
theorem ok15 {c:Cmd} (hw:c.wt≤1048576):Ok15 c:=by
  have hcw:c.wt=c.name.text.length+wsum c.names+psum c.pairs+c.left.wt+c.right.wt:=rfl;have hn1:=(psum_word c.names).2;have hp1:=(psum_len c.pairs).2;have hbig:big=268435456:=rfl;exact⟨by omega,by omega,by omega,by omega⟩
theorem big15 {c:Cmd} (h:Cmd.bigC c=false):c.left.cnt≤300∧c.right.cnt≤300:=by
  simp[Cmd.bigC,bigQ] at h;omega
theorem ast_one' (x:Ast):oneL x.enc=true:=ast_one rfl rfl rfl
theorem asserts15_calls (s:Scp) (c:Cmd) {σ:Store} (hg:TZ σ) (hgf:σ.con 0=some formCells) (hw:c.wt≤1048576):PCalls prog 3 [.agg s.enc,.agg c.enc] σ fun v σ' => v = .bool true∧σ' = σ:=by
  obtain⟨hn,hp,hl,hr⟩:=ok15 hw;obtain⟨X,hX⟩:∃X:Ast,X=(if isAst s c then astF s c else .zero):=⟨_,rfl⟩;obtain⟨A,hA⟩:∃A:List V,A=X.enc:=⟨_,rfl⟩;have a1:A.length=18:=by rw[hA];exact ast_len
  have a2:takeN 18 A=some A:=by rw[hA];exact ast_tk
  have a3:oneL A=true:=by rw[hA];exact ast_one' X
  have a4:nolL A=true:=by rw[hA];exact Ast.r_nol
  have a5:∀{op lat:Int} {d:V} {to:Atm} {fa:V} {ta:Int} {fb:V} {tb v:Int} {f:List UInt8},over (astV op lat d to fa ta fb tb v f) A=A:=by intros;rw[hA];exact over_all (by rw[ast_len];exact ast_len.symm)
  have hT:astT s c = .tup [.agg A,.bool (isAst s c)]:=by rw[astT,hA,hX]
  have c1:=fun hs h1 h2=>fassert_calls s c (σ:=σ) hs hg hgf hn hp h1 h2 hl hr
  have c2:=fun hs h1 h2=>rassert_calls s c (σ:=σ) hs hn hp h1 h2 hl hr
  have c3:=rast_calls X σ;rw[hT] at c1 c2;rw[←hA] at c3;refine fn3.calls ?_;simp only[slots,ac3,am,ams,Nat.reduceAdd,Scp.rec_,astZ,cfl];refine cl (big13_calls s σ) ?_;cases hb:big13 s with
  | true =>
    simp only[am];refine cl (alive15_calls hg hgf) ?_;simp only[am];refine retS ?_;simp[V.erase]
  | false =>
    have hs:=big13_ok hb;simp only[am,cfl];refine cl (cbig_calls c σ hl hr) ?_;cases hc:Cmd.bigC c with
    | true =>
      simp only[am];refine cl (alive15_calls hg hgf) ?_;simp only[am];refine retS ?_;simp[V.erase]
    | false =>
      obtain⟨h1,h2⟩:=big15 hc;have c3:=c3 (by rw[hX];split;exact code_len s c (by omega);simp[Ast.zero]) (by rw[hX];split;exact(flds_len s c (by omega) (by omega)).1;simp[Ast.zero,Rtm.zero]) (by rw[hX];split;exact(flds_len s c (by omega) (by omega)).2;simp[Ast.zero,Rtm.zero]);simp only[am,Scp.rec_,cfl];refine cl (c1 hs (by omega) (by omega)) ?_;simp only[am,Nat.reduceAdd,Scp.rec_,ast_,cfl,a1,a3,a5];refine cl (c2 hs (by omega) (by omega)) ?_;simp only[am,Nat.reduceAdd,ast_,a1,a2,a3,a4,a5];refine cl c3 ?_;cases isAst s c
      all_goals
        simp only[am,decide_true];refine cl (alive15_calls hg hgf) ?_;simp only[am];refine retS ?_;simp[V.erase]
end Go.Proofs.Tryz

namespace Go.Proofs.Tryz
open Go.Am Go.ChangeShapes Go.WideShapes Go.ChangeAt Go.RowKit
open Go.Proofs.YtmgdldfokpcbkaaGreatDoor
set_option maxRecDepth 100000 in
theorem fitAsserts_contract (H:Type) (enc:TypeId × Value→H) (W:World) (base:Nat) (args:Array Value) (ds gs:List (DataW H)) (before:List MemPlace)
    (hval:∀(j:Nat) t v,f3.params[j]?=some t→args[j]?=some v→Value.okWide prog W .any base t v)
    (hW:DataW.Whole enc prog f3.params.toList Rows.fitAssertsSpec.vars false W args.toList ds gs before) (hk:Rows.uptoSmall H (ds++gs)=true) (hL:laidMetH prog Rows.fitAssertsRow.laid W) :
    Calls prog 3 args W fun e W' => ∃v,e = .returned v∧Rows.fitAssertsSpec.post enc prog f3 false true false false W args v W' := by
  have hW' := hW;obtain⟨p,q,hA0,hV,rfl,hfz,hnd⟩:=hW;have hA:DataW.TrodAll enc prog W 0 (fun _=>true) true f3.params.toList args.toList ds p:=hA0;rw[params3] at hA hval;obtain⟨v0,vs0,d0,ds0,p0,q0,hargs,rfl,rfl,⟨n0,h0⟩,r0⟩:=trodAll_cons hA;obtain⟨v1,vs1,d1,ds1,p1,q1,rfl,rfl,rfl,⟨n1,h1⟩,r1⟩:=trodAll_cons r0;obtain⟨rfl,rfl,rfl⟩:=trodAll_nil r1;obtain rfl:args=#[v0,v1]:=by cases args;simp_all
  obtain⟨rfl,rfl⟩:=trodVars_none hV;have hG:=globs_at hL;obtain⟨_,a0,_,y0,rfl,b0⟩:=r_scp n0 (Nat.lt_succ_self _) _ _ h0;obtain⟨_,a1,_,y1,rfl,b1⟩:=r_cmd n1 (Nat.lt_succ_self _) _ _ h1;have hb:Rows.uptoBulkAll [d0,d1]≤1048576:=by
    have h:=of_decide_eq_true hk;rw[List.append_nil] at h;exact h
  simp only[Rows.uptoBulkAll] at hb;have k0:y1.wt≤1048576:=by
    simp only at b1;omega
  simp only[List.append_nil] at hW';have s0:=val_struct underlying25 (hval 0 25 v0 rfl rfl) a0;have s1:=val_struct underlying34 (hval 1 34 v1 rfl rfl) a1;refine law_callsM (asserts15_calls y0 y1 rfl rfl k0) hG ?_ laid rowed fulls rfl underlying4 (by rw[params3];decide +kernel) rfl ⟨rfl,rfl,rfl⟩ hW';simp only[RL,and_true];exact⟨s0,s1⟩
set_option maxRecDepth 100000 in
theorem fitAsserts_laid_met (os:Os):laidMet prog Rows.fitAssertsRow.laid ((laidWorld os).forCall (fun _ _=>0) ⟨#[],#[.agg #[.slice none 0 0,.slice none 0 0],.agg #[.int .i64 0,.int .i64 0,.string ⟨#[]⟩,.int .i64 0,.slice none 0 0,.slice none 0 0,.int .i64 0,.int .i64 0,.int .i64 0,.string ⟨#[]⟩,.slice none 0 0,.slice none 0 0,.int .i64 0,.int .i64 0,.string ⟨#[]⟩,.slice none 0 0,.slice none 0 0]],[]⟩).memory :=
  laidMet_of_run' 8 (by kernel_rfl) (by kernel_rfl)
theorem fitAsserts_reads (os:Os) {H:Type} (enc:TypeId × Value→H):∃places,DataW.whole enc prog ((laidWorld os).forCall (fun _ _=>0) ⟨#[],#[.agg #[.slice none 0 0,.slice none 0 0],.agg #[.int .i64 0,.int .i64 0,.string ⟨#[]⟩,.int .i64 0,.slice none 0 0,.slice none 0 0,.int .i64 0,.int .i64 0,.int .i64 0,.string ⟨#[]⟩,.slice none 0 0,.slice none 0 0,.int .i64 0,.int .i64 0,.string ⟨#[]⟩,.slice none 0 0,.slice none 0 0]],[]⟩).memory f3.params.toList Rows.fitAssertsSpec.vars false (#[.agg #[.slice none 0 0,.slice none 0 0],.agg #[.int .i64 0,.int .i64 0,.string ⟨#[]⟩,.int .i64 0,.slice none 0 0,.slice none 0 0,.int .i64 0,.int .i64 0,.int .i64 0,.string ⟨#[]⟩,.slice none 0 0,.slice none 0 0,.int .i64 0,.int .i64 0,.string ⟨#[]⟩,.slice none 0 0,.slice none 0 0]]:Array Value).toList 8=some ([.agg [.nil,.nil],.agg [.lit (.int .i64 0),.lit (.int .i64 0),.agg [.lit (.string []),.lit (.int .i64 0)],.nil,.nil,.lit (.int .i64 0),.agg [.lit (.int .i64 0),.lit (.int .i64 0),.lit (.string []),.nil,.nil],.agg [.lit (.int .i64 0),.lit (.int .i64 0),.lit (.string []),.nil,.nil]]],[],places) :=
  ⟨[],by kernel_rfl⟩
set_option maxRecDepth 100000 in
theorem fitAsserts_lifted (os:Os) (started:os.Started) (H:Type) (enc:TypeId × Value→H) (F:Stop.Interp) :
    ReturnsInHanded {} checked os 3 .any ((Rows.OpenSpec.upto Rows.fitAssertsSpec).preRow enc prog f3 Rows.fitAssertsUptoRow.domain false Rows.fitAssertsUptoRow.laid) (((Rows.OpenSpec.upto Rows.fitAssertsSpec).at F).post enc prog f3 false true false false):=by
  obtain⟨places,hx⟩:=fitAsserts_reads os enc;refine returnsInHanded_of_row (C:=checked) (s:=Rows.OpenSpec.upto Rows.fitAssertsSpec) own started (by kernel_rfl) func3
    (witness_row_at (enc:=enc) (C:=checked) false (laidWorld os) #[.agg #[.slice none 0 0,.slice none 0 0],.agg #[.int .i64 0,.int .i64 0,.string ⟨#[]⟩,.int .i64 0,.slice none 0 0,.slice none 0 0,.int .i64 0,.int .i64 0,.int .i64 0,.string ⟨#[]⟩,.slice none 0 0,.slice none 0 0,.int .i64 0,.int .i64 0,.string ⟨#[]⟩,.slice none 0 0,.slice none 0 0]] rfl (by kernel_rfl) (by kernel_rfl) (by kernel_rfl)
      (OpenSpec.preRow_of_cond 8 hx (by kernel_rfl) (fun k hk=>by cases hk;kernel_rfl) (by kernel_rfl) (fitAsserts_laid_met os))) ?_
  intro W base args ds gs before hval hW _ hcond _ hL _ _;exact fitAsserts_contract H enc W base args ds gs before hval hW (hcond _ rfl) hL
theorem fitAsserts_proved:Rows.FitAssertsUptoSaid :=
  OpenClaim.holds_of_cond 3 f3 rfl rfl rfl rfl rfl rfl rfl ⟨rfl,rfl,rfl,rfl,rfl⟩ rfl rfl rfl rfl rfl (by kernel_rfl) func3 (by kernel_rfl)
    (of_decide_eq_true (by kernel_rfl)) (by unfold Func.isWrapper;first | (rw[if_pos (by decide +kernel)];kernel_rfl) | (rw[if_neg (by decide +kernel)];exact⟨rfl,rfl⟩))
    (fun os started H enc _ F=>by rw[OpenClaim.pre_eq_preRow];exact fitAsserts_lifted os started H enc F)
theorem fitAsserts_plain (f:FuncId) (fn:Func) (hf:YtmgdldfokpcbkaaGreatDoor.Tryz.pinned.checked.prog.funcNamed "clearance/clearancelaw15.FitAsserts" = some f) (hfn:YtmgdldfokpcbkaaGreatDoor.Tryz.pinned.checked.prog.funcs[f]?=some fn) :
    false=YtmgdldfokpcbkaaGreatDoor.Tryz.pinned.checked.prog.looks []∧∀(j:Nat) t,fn.params[j]?=some t→YtmgdldfokpcbkaaGreatDoor.Tryz.pinned.checked.prog.wantsStandIn t=false:=by
  obtain rfl:f=3:=Option.some.inj ((show prog.funcNamed "clearance/clearancelaw15.FitAsserts" = some 3 by kernel_rfl).symm.trans hf) |>.symm;obtain rfl:fn=f3:=(Option.some.inj (func3.symm.trans hfn)).symm;refine⟨by kernel_rfl,fun j t ht=>?_⟩;rw[params3] at ht;have h:t=25∨t=34:=by simpa using Array.mem_of_getElem? ht
  rcases h with rfl | rfl
  · exact(show prog.wantsStandIn 25=false by kernel_rfl)
  · exact(show prog.wantsStandIn 34=false by kernel_rfl)
theorem fitAsserts_card:Rows.FitAssertsUptoCardSaid :=
  Claim7.holds_tied_plain_at .later [] _ _ _ _ fitAsserts_proved (fun _ h=>by cases h) (by kernel_rfl) (fun _ h=>by cases h) fitAssertsUpto_row_tie rfl ⟨rfl,rfl⟩ (by kernel_rfl) rfl fitAsserts_plain (by kernel_rfl)
end Go.Proofs.Tryz

namespace Go.Proofs.YtmgdldfokpcbkaaGreatDoor
/-- For every scope and command: the assertion that the command makes, or that it makes none, is the same by both readers (FitAsserts), where what comes in is of bulk at most 1048576. -/
theorem fitAsserts_card_holds : Rows.FitAssertsUptoCardSaid := Go.Proofs.Tryz.fitAsserts_card
end Go.Proofs.YtmgdldfokpcbkaaGreatDoor
