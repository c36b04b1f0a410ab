/-
  Part 8 of the proof of StackFramesUptoCardSaid: a logic over the model, the forms of the functions that the law reaches, and what they compute.
-/
import Derived.Test.YtnpggmhoandloaaGreatDoorProg
import Derived.ProofKit
import Derived.OpenShut
import Derived.JoinedCond
import Derived.ChangeStays
import Derived.ReadAgain
import Derived.Deep.DeepHandedRow
import Derived.Lib.LaidTab
import Derived.Stop.LaidErr
import Derived.Test.YtnpggmhoandloaaGreatDoorCards
import Derived.Test.YtnpggmhoandloaaGreatDoorTie
import Derived.Test.YtnpggmhoandloaaGreatDoorFrames7
set_option linter.unusedVariables false
set_option linter.unusedSimpArgs false
set_option linter.defProp false
set_option linter.unusedSectionVars false
set_option maxRecDepth 4000
set_option maxHeartbeats 4000000
open Option renaming some->aa,none->ag
open Bool renaming true->ab,false->ak
open List renaming replicate->ar,range->bX,getD->ij,zipWith->l8
open Eq renaming mpr->eU
open Ne renaming symm->fF
namespace Go.Proofs.Tryz
open Go.Am
def ah_:aU prog 28 (sq [rg 0 [oZ 2 [0,0,1,0,7,9,0,0,0,1,7,10,0,0,1,7,10],oZ 3 [0,0]],rg 17 [om 0,oC 50 [17],o1 16,oe 16 0,oe 16 1,oZ 5 [0,0],ot 4 19,o2 2 5],sq [rg 21 [fo 0 5,nB .neq 0],ci 23 (sq [dg 24 [oW [0,0,1,0,7,9,0,0,0,1,7,10,0,0,1,7,10] [],mM [1],ol 2 5,os 17 2 24,o2 2 3],.ret])],rg 27 [om 4,oC 51 [27],o1 26,oe 26 0,oe 26 1,oZ 7 [0,0],ot 6 29,o2 2 7],sq [rg 31 [fo 0 7,nB .neq 0,gB,om 6,nL,nB .eql 0,gZ],ci 38 (sq [dg 39 [oW [0,0,1,0,7,9,0,0,0,1,7,10,0,0,1,7,10] [],mM [1],ol 2 7,os 17 2 39,o2 2 3],.ret])],rg 41 [om 6,nI 5 0,nf 0,nF 2,oW [0,0,1,0,7,9,0,0,0,1,7,10,0,0,1,7,10] [(1,1,45)],oZ 8 [0,0,1,0,7,9,0,0,0,1,7,10,0,0,1,7,10],o2 17 8],sq [rg 9 [oi 1],bl 0 (sq [sq [rg 47 [om 9,nB .leq 15],cx 48 0],.block 1 (sq [dg 51 [om 6,nI 5 0,nf 0,nF 0,nu .eql 97,gA,om 6,nI 5 0,nf 0,nf 1,mM [1],no,om 9,oC 44 [63],nE .eql 62,gZ],ci 66 (rg 67 [om 9,of 0 8,os 1 68 67])]),rg 49 [ic 9]])],sq [rg 69 [fo 0 8,nB .eql 0],ci 71 (sq [dg 72 [oW [0,0,1,0,7,9,0,0,0,1,7,10,0,0,1,7,10] [],of 1 8,mM [1],no,oG [0,0] [(0,1,.c (.int .i64 2)),(1,1,.s 74)],os 17 2 72,o2 2 3],.ret])],rg 10 [oi 1],rg 76 [fo 0 8,oC 45 [77],o1 11],sq [rg 12 [oi 0],bl 2 (sq [sq [rg 79 [om 12,om 11,nT,nb .lss 79],cx 82 2],.block 3 (sq [dA 86 [13] [ol 17 8,om 11,om 12,nS 87,om 6,om 10,om 0,nT,oC 52 [86,89,90,91,93],o1 85,oe 85 0,oe 85 1,oe 85 2,oN,oX 13 17 95,ot 14 96,o1 15],sq [rg 98 [om 15,nB .geq 0],cr 99 100 [oW [0,0,1,0,7,9,0,0,0,1,7,10,0,0,1,7,10] [],om 15,oG [0,0] [(0,1,.c (.int .i64 2)),(1,1,.s 101)],os 17 2 100,o2 2 3]],rg 103 [ol 17 13,o2 17 8],rg 104 [om 14,o1 10]]),rg 83 [ic 12]])],sq [rg 105 [om 10,om 6,nL,nb .lss 105],ci 108 (sq [dg 109 [oW [0,0,1,0,7,9,0,0,0,1,7,10,0,0,1,7,10] [],om 6,om 10,nA 5 110,nf 0,nf 2,mM [1],no,oG [0,0] [(0,1,.c (.int .i64 2)),(1,1,.s 115)],os 17 2 109,o2 2 3],.ret])],rg 117 [ol 17 8,oW [0,0] [],os 17 2 117,o2 2 3],.ret]) [.cell 2 ab 17,.cell 3 ab 2] 119:=aV func28
section
variable {c:az}
theorem ap0{c d:az}:over c.enc d.enc=d.enc:=rfl
theorem abI:bI ak 1 c.enc=aa (.int .i64 c.op):=rfl
theorem abJ:bI ak 1 (c.enc.drop 0)=aa (.int .i64 c.op):=rfl
theorem abK:bI ak 1 (c.enc.drop 1)=aa (.int .i64 c.pos):=rfl
def fk:=ah @abI <| ah @abJ @abK
end
def LR(c:az):List (List V):=[gp,[.int .i64 0,.int .i64 0],[.any,.any],[.any,.any],c.enc]
def rB(s:List UInt8)(L:List al)(t:al)(op:Nat)(r:Int)(D:af):St :=
 ⟨[.aF s,.any,.ptr (.aD 0) 0,.ptr (.aD 1) 0,.any,.any,.sl .no 5 (b_ L),.any,.ptr (.aD 4) 0,.int .i64 (op:Nat)]++ar 109 .any,LR {az.zero with op:=r,pos:=t.tok.pos},D⟩
abbrev Kb(t:al)(O'':Int):={p:Nat × Nat × Int // (if t.tok.kind=97 then kN t.tok.aq p.1 p.2.1 p.2.2 else p.2.2)=O''/\p.2.1+p.1=16}
def Ld(op:Int):(bY op).2.length<=3:=by
 unfold bY;split
 .rename_i h1;have aC:op.toNat<16:=by omega
  generalize op.toNat=n at aC ⊢;have key:∀n<16,(iN.getD n ([],[])).2.length<=3:=by decide
  exact key n aC
 .simp
def xB(s:List UInt8)(L:List al)(ks:List UInt8)(a:Nat)(c:az)(i:Nat)(D:af):St :=
 ⟨[.aF s,.any,.ptr (.aD 0) 0,.ptr (.aD 1) 0,.any,.any,.sl .no 5 (b_ L),.any,.ptr (.aD 4) 0,.any,.int .i64 (a:Nat),.aF ks,.int .i64 (i:Nat)]++ar 106 .any,LR c,D⟩
abbrev Qv(L:List al)(fin:Int)(ks:List UInt8)(X:az × Int × Int):={p:Nat × Nat × az // mV L fin (ks.drop p.1) p.2.2 p.2.1=X/\p.1<=ks.length}
def ac'(s:List UInt8)(D:af)(hb:s.length+1<=aK)(hm:bd (gf (dv s).1).1+8<=aK) :
 a7 28 [.aF s] D (.bt [.agg (Bm s).1.enc,Ed (Bm s).2]):=by
 have Mh:=Nq s;refine ah_.aT ?_;simp only[aS,am,aZ,Nat.reduceAdd];refine cl (amU s D hb) ?_;generalize hR:Bm s=R;unfold Bm at hR;simp only[am,Nat.reduceAdd,vv];cases hl:(dv s).2 with
 | some a =>
  rw[hl] at hR;simp only[am,Nat.reduceAdd,c7,Int.reduceEq];refine aL rfl (af.bg _) ⟨?_,rfl⟩;rw[<-hR];rfl
 | none =>
  rw[hl] at hR;simp only[am,bL];refine cl (aui (dv s).1 D (by omega)) ?_;simp only[am,Nat.reduceAdd,jq];simp only at hR;cases ht:(gf (dv s).1).2 with
  | some a =>
   rw[ht] at hR;simp only[am,Nat.reduceAdd,c7,Int.reduceEq,df];refine aL rfl (af.bg _) ⟨?_,rfl⟩;rw[<-hR];rfl
  | none =>
   rw[ht] at hR;simp only at hR;simp only[am,dt,bL,df];generalize (gf (dv s).1).1=l at hm hR ⊢;have hlen:=gm l;cases l with
   | nil =>
    simp only[am,Nat.reduceAdd,bL,eM,show(((0:Nat):Int)=0)=True by simp];refine aL rfl (af.bg _) ⟨?_,rfl⟩;rw[<-hR];rfl
   | cons t ts =>
    generalize hL:t::ts=L at *;have aW:¬(L.length:Int)=0:=by rw[<-hL];simp;omega
    simp only[am,aI aW];refine lM (c:=t.enc) (by rw[<-hL];simp[n_]) ?_;simp only[am,Nat.reduceAdd,al.fl];have HE:t_ L s.length=if (if t.tok.kind=97 then kN t.tok.aq 15 1 0 else 0)=0 then(.zero,2,t.tok.pos)
     else(if 0<=(mV L s.length (bY (if t.tok.kind=97 then kN t.tok.aq 15 1 0 else 0)).2 {az.zero with op:=(if t.tok.kind=97 then kN t.tok.aq 15 1 0 else 0),pos:=t.tok.pos} 1).2.2 then(.zero,2,(mV L s.length (bY (if t.tok.kind=97 then kN t.tok.aq 15 1 0 else 0)).2 {az.zero with op:=(if t.tok.kind=97 then kN t.tok.aq 15 1 0 else 0),pos:=t.tok.pos} 1).2.2)
      else if (mV L s.length (bY (if t.tok.kind=97 then kN t.tok.aq 15 1 0 else 0)).2 {az.zero with op:=(if t.tok.kind=97 then kN t.tok.aq 15 1 0 else 0),pos:=t.tok.pos} 1).2.1<L.length then(.zero,2,jP L (mV L s.length (bY (if t.tok.kind=97 then kN t.tok.aq 15 1 0 else 0)).2 {az.zero with op:=(if t.tok.kind=97 then kN t.tok.aq 15 1 0 else 0),pos:=t.tok.pos} 1).2.1 s.length)
      else((mV L s.length (bY (if t.tok.kind=97 then kN t.tok.aq 15 1 0 else 0)).2 {az.zero with op:=(if t.tok.kind=97 then kN t.tok.aq 15 1 0 else 0),pos:=t.tok.pos} 1).1,0,0)):=by rw[<-hL];rfl
    rw[HE] at hR;clear HE;generalize hO:(if t.tok.kind=97 then kN t.tok.aq 15 1 0 else 0)=O'' at hR;have Ut:(b_ L)[0]?=aa t.enc:=by rw[<-hL];simp[n_]
    refine gn (λp:Kb t O''=>rB s L t p.1.2.1 p.1.2.2 D) (λp=>p.1.1) ?_ ?_
    .refine bm.enter ⟨(15,1,0),hO,rfl⟩ ?_ ?_ bK.rfl
     .simp[rB,ar,am]
     .simp[rB,LR,az.enc,az.cP,az.zero,Nd.zero,Nd.kind,Nd.pos,Nd.aq,Nd.an,Nd.aj,gp,am]
    .rintro⟨⟨n,op,r⟩,hO,hs⟩;simp only at hO hs;simp only[rB,LR,ar,am];have wi:IntKind.i64.wrap ((op:Int)+1)=((op+1:Nat):Int):=by rw[wrap_i64];simp
     by_cases mo:op<=15
     .obtain⟨m,rfl⟩:∃m,n=m+1:=⟨n - 1,by omega⟩;have again:∀(t1:List V) (l1:List (List V)) (r:Int),(if t.tok.kind=97 then kN t.tok.aq m (op+1) r else r)=O''->cQ t1 (rB s L t (op+1) r D).t->cC l1 (rB s L t (op+1) r D).aD->bm ⟨t1,l1,D⟩ λaM => ∃j:Kb t O'',aM = rB s L t j.1.2.1 j.1.2.2 D/\j.1.1<m+1:=λt1 l1 r h ht hl =>
       bm.again (I:=λp:Kb t O''=>rB s L t p.1.2.1 p.1.2.2 D) (μ:=λp=>p.1.1) ⟨(m,op+1,r),h,by simp only;omega⟩ (by simp) ht hl bK.rfl
      simp only[am,aJ (show(op:Int)<=15 by omega)];refine lM (c:=t.enc) Ut ?_;simp only[am,al.fl]
      by_cases cZ:t.tok.kind=97
      .simp only[cZ,cm,kN] at hO;simp only[am,aJ cZ];refine lM (c:=t.enc) Ut ?_;simp only[am,al.fl];refine bE.intro (ZQ op D) ?_;simp only[am,al.fl]
       by_cases hw:t.tok.aq=(bY op).1
       .rw[aE hw] at hO;simp only[am,aJ hw];exact again _ _ op (by rw[aE cZ];exact hO) (by simp[rB,ar,am,wi]) (by simp[rB,LR,az.enc,az.cP,am])
       .rw[aA hw] at hO;simp only[am,aI hw,wi];exact again _ _ r (by rw[aE cZ];exact hO) (by simp[rB,ar,am]) (by simp[rB,LR,az.enc,az.cP,am])
      .rw[aA cZ] at hO;simp only[am,aI cZ,wi];exact again _ _ r (by rw[aA cZ];exact hO) (by simp[rB,ar,am]) (by simp[rB,LR,az.enc,az.cP,am])
     .obtain rfl:n=0:=by omega
      have hO:r=O'':=by simpa [kN] using hO
      subst hO;simp only[am,fk,aI (show ¬(op:Int)<=15 by omega)]
      by_cases H0:r=0
      .rw[aE H0] at hR;simp only[am,Nat.reduceAdd,fk,aJ H0,gp];refine aL rfl (af.bg _) ⟨?_,rfl⟩;rw[<-hR];rfl
      .rw[aA H0] at hR;simp only[am,fk,aI H0];refine cl (amQ r D) ?_;generalize fW:(bY r).2=ks at hR;have rn:ks.length<=3:=by rw[<-fW];exact Ld r
       generalize hX:mV L s.length ks {az.zero with op:=r,pos:=t.tok.pos} 1=X at hR;refine gn (λp:Qv L s.length ks X=>xB s L ks p.1.2.1 p.1.2.2 p.1.1 D) (λp=>ks.length - p.1.1) ?_ ?_
       .refine bm.enter ⟨(0,1,{az.zero with op:=r,pos:=t.tok.pos}),hX,by simp⟩ ?_ ?_ bK.rfl
        .simp[xB,ar,am]
        .simp[xB,LR,am]
       .rintro⟨⟨i,a,c⟩,hX,hi⟩;simp only at hX hi;simp only[xB,LR,ar,am];have wi:IntKind.i64.wrap ((i:Int)+1)=((i+1:Nat):Int):=by rw[wrap_i64];simp
        by_cases aC:i<ks.length
        .simp only[am,Nat.reduceAdd,bL,Nat.reduceLT,cD,aJ (show(i:Int)<ks.length by omega)];refine rA (c:=ks[i]) (by simp) ?_;simp only[am,cD];refine bE.intro (aqe ks[i] c L a s.length D hm) ?_;obtain⟨a',yM,_⟩:=Wl ks[i] c L a s.length;rw[mJ aC] at hX;simp only[mV] at hX;rw[yM] at hX;rw[yM];generalize jK ks[i] c L (a:Nat) s.length=Y'' at hX yM ⊢;simp only[am,Nat.reduceAdd,cD]
         by_cases bU:0<=Y''.2.2
         .rw[aE bU] at hX;simp only[am,Nat.reduceAdd,aJ bU,gp];rw[<-hX,aE bU] at hR;refine aL rfl (af.bg _) ⟨?_,rfl⟩;rw[<-hR];rfl
         .rw[aA bU] at hX;simp only[am,cD,aI bU];exact bm.ql (I:=λp:Qv L s.length ks X=>xB s L ks p.1.2.1 p.1.2.2 p.1.1 D) (μ:=λp=>ks.length - p.1.1) ⟨(i+1,a',Y''.1),hX,by simp only;omega⟩ (by simp only;omega) (by simp[xB,ar,am,wi]) (by simp[xB,LR,am,ap0]) bK.rfl (by simp[xB,LR,ar,bR,V.lo]) (by simp[xB,LR,gp,az.enc,az.cP,dw,bR,V.lo])
        .obtain rfl:i=ks.length:=by omega
         rw[BS] at hX;simp only[mV] at hX;rw[<-hX] at hR;simp only[am,dt,aI (show ¬(ks.length:Int)<ks.length by omega),gp];have Mn:¬(0:Int)<=-1:=by decide
         simp only[aA Mn] at hR
         by_cases db:a<L.length
         .rw[aE (by omega)] at hR;simp only[am,aJ (show(a:Int)<L.length by omega)];refine lM (gz (cS db)) ?_;simp only[am,Nat.reduceAdd,al.fl];refine aL rfl (af.bg _) ⟨?_,rfl⟩;rw[<-hR];simp[jP,db];rfl
         .rw[aA (by omega)] at hR;simp only[am,Nat.reduceAdd,cD,aI (show ¬(a:Int)<L.length by omega)];refine aL rfl (af.bg _) ⟨?_,rfl⟩;rw[<-hR];rfl
section
variable {c:az}
theorem abB:bI ak 1 (c.enc.drop 2)=aa (.aF c.name.aq):=rfl
theorem abV:takeN 2 (c.enc.drop 2)=aa [.aF c.name.aq,.int .i64 c.name.pos]:=rfl
theorem abD:bI ak 1 (c.enc.drop 4)=aa (.sl .no 2 (c.an.map aB.enc)):=rfl
theorem abE:bI ak 1 (c.enc.drop 5)=aa (.sl .no 4 (c.bA.map fL)):=rfl
theorem abF:bI ak 1 (c.enc.drop 6)=aa (.int .i64 c.nP):=rfl
def abW:takeN 5 (c.enc.drop 7)=aa c.left.enc:=by rw[Nd.cJ];rfl
def abU:takeN 5 (c.enc.drop 12)=aa c.right.enc:=by rw[Nd.cJ];rfl
def eC:=ah @abB <| ah @abV <| ah @abD <| ah @abE <| ah @abF <| ah @abW @abU
end
variable{j:Nat}
def Ws{l:List (aB × aB)}{p:aB × aB}(h:l[j]?=aa p):(l.map fL)[(j:Int).toNat]?=aa (fL p):=by simp[h]
def aiV:aU prog 55 (sq [rg 0 [ox 2 2 0,ox 3 17 1,oZ 4 [0,0]],rg 6 [ol 2 2,fo 1 3,oG [7,8,8,0,0] [(1,2,.s 6),(3,1,.c (.int .i64 (-1))),(4,1,.s 8)],oq (.gO 5 (.s 9)),o1 5],sq [.qf (rg 11 [fo 0 3]),.block 0 (sq [rg 14 [oB .eql 12 10,o1 13],cd 13 (rg 15 [om 5,of 2 3,nF 0,of 2 3,nF 1,oc 107 [.s 15,.s 18,.s 21,.c (.int .i64 2)]]) (sq [rg 24 [oB .eql 12 15,o1 23],cd 23 (rg 25 [om 5,of 2 3,nF 0,of 2 3,nF 1,oc 107 [.s 25,.s 28,.s 31,.c (.int .i64 1)]]) (sq [rg 34 [oB .eql 12 8,o1 33],cd 33 (sq [rg 35 [om 5,of 2 3,nl 2,oC 108 [35,37]],rg 39 [om 5,of 7 3,nl 5,oC 109 [39,41]],rg 43 [om 5,of 12 3,nl 5,oC 109 [43,45]],dg 47 [mk 5,nf 0,of 12 3,nF 0,nB .eql 8,gB,of 12 3,nF 0,nB .eql 9,gZ,of 12 3,nF 1,oc 110 [.s 49,.s 59,.c (.int .i64 6),.s 62]]]) (sq [rg 65 [oB .eql 12 9,o1 64],ci 64 (sq [rg 66 [om 5,of 2 3,nl 2,oC 108 [66,68]],rg 70 [om 5,of 7 3,nl 5,oC 111 [70,72]],rg 74 [om 5,of 12 3,nl 5,oC 111 [74,76]]])])])])])],rg 78 [mk 5,nf 0,nF 0,oC 57 [82],o2 2 4],.ret]) [.cell 4 ab 2] 84:=aV func55 ⟨[10],[2]⟩
def aiX:aU prog 57 (sq [rg 0 [oZ 2 [0,0]],rg 0 [oZ 3 [0,0]],sq [rg 6 [om 0,nL,oi 0],lp 7 0 (sq [rg 10 [oA 2 6 8,nl 2,oZ 5 [0,0],o2 2 5],sq [rg 12 [fo 0 5,nB .eql 0],ci 14 (.exit 1)],rg 15 [fo 0 3,nB .eql 0,gB,fo 0 5,fo 0 3,nb .lss 20,gZ,nm,oh 25 (of 0 5),oh 25 (no),oh 25 (of 0 3),oh 25 (no),oh 25 (nb .eql 27),oh 25 (nm),og 31 (of 1 5),og 31 (no),og 31 (of 1 3),og 31 (no),og 31 (nb .lss 33),oh 25 (oy 31 36),oq (.pick (.s 25) (.c (.bool ab)) (.s 37))],ci 38 (rg 39 [ol 2 5,o2 2 3])]) 40],rg 41 [ol 2 3,o2 2 2],.ret]) [.cell 2 ab 2] 42:=aV func57
section
variable {c:az}
theorem abC:bI ak 1 (c.enc.drop 3)=aa (.int .i64 c.name.pos):=rfl
theorem abz:bI ak 1 (c.enc.drop 12)=aa (.int .i64 c.right.kind):=rfl
theorem abA:bI ak 1 (c.enc.drop 13)=aa (.int .i64 c.right.pos):=rfl
def vD:=ah @abC <| ah @abz @abA
end
def afQ{l:List aQ}(h:j<l.length):(l.map aQ.enc)[((j:Nat):Int).toNat]?=aa l[j].enc:=by simp[h]
def zh(l:List aQ)(D:af)(hl:l.length<=100000000):a7 57 [.sl .no 2 (l.map aQ.enc)] D (.agg (fI l).enc):=by
 refine aiX.aT ?_;simp only[aS,am,aZ,Nat.reduceAdd,aR];refine dK (l.length) (λi (x:Unit)=>⟨[.any,.any,.ptr (.aD 0) 0,.ptr (.aD 1) 0,.any,.any,.sl .no 2 (l.map aQ.enc),.int .i64 (l.length:Nat),.int .i64 (i:Nat)]++ar 33 .any,[aQ.zero.enc,(fI (l.take i)).enc],D⟩) (λi x=>(True)) λF hF JF bn=>⟨?_,?_,?_⟩
 .refine en bn (()) (trivial) ?_ ?_ ?_
  all_goals simp[hF,ar,am,bT,fI,aQ.zero,aQ.enc]
 .rintro i x hi -;have hT:=amL hi;simp only[hF,ar,am,dD hi];refine ix (afQ hi) ?_;simp only[am,Nat.reduceAdd,aQ.au];generalize fI (l.take i)=o at hT;generalize l[i]=f at hT
  by_cases h0:f.cls=0
  .rw[k_,aE h0] at hT;simp only[am,a_,reduceCtorEq,aQ.au,aJ h0,cG hi];refine fK (()) hi ?_ ?_ ?_ ?_ ?_ ?_
   .exact eU (bn _ _) (trivial)
   all_goals simp[hF,ar,am,bT,bR,dw,V.lo,hT,aQ.cT]
  rw[k_,aA h0] at hT;simp only[am,aQ.au,aI h0];have yes:uE o f=ab->fI (l.take (i+1))=f:=λh=>by rw[hT,h,aE rfl]
  have no:uE o f=ak->fI (l.take (i+1))=o:=λh=>by rw[hT,h];rfl
  by_cases h1:o.cls=0
  .have e:=yes (by simp[uE,h1]);simp only[am,a_,aQ.au,aJ h1,cG hi];refine fK (()) hi ?_ ?_ ?_ ?_ ?_ ?_
   .exact eU (bn _ _) (trivial)
   all_goals simp[hF,ar,am,bT,bR,dw,V.lo,e,aQ.cT]
  simp only[am,aQ.au,aI h1]
  by_cases h2:f.cls<o.cls
  .have e:=yes (by simp[uE,h2]);simp only[am,a_,aQ.au,aJ h2,cG hi];refine fK (()) hi ?_ ?_ ?_ ?_ ?_ ?_
   .exact eU (bn _ _) (trivial)
   all_goals simp[hF,ar,am,bT,bR,dw,V.lo,e,aQ.cT]
  simp only[am,aQ.au,aI h2]
  by_cases h3:f.cls=o.cls
  case neg =>
   have e:=no (by simp[uE,h1,h2,h3]);simp only[am,a_,aI h3,cG hi];refine fK (()) hi ?_ ?_ ?_ ?_ ?_ ?_
   .exact eU (bn _ _) (trivial)
   all_goals simp[hF,ar,am,bT,bR,dw,V.lo,e,aQ.cT]
  simp only[am,aQ.au,aJ h3]
  by_cases h4:f.aD<o.aD
  .have e:=yes (by simp[uE,h3,h4]);simp only[am,a_,aQ.au,aJ h4,cG hi];refine fK (()) hi ?_ ?_ ?_ ?_ ?_ ?_
   .exact eU (bn _ _) (trivial)
   all_goals simp[hF,ar,am,bT,bR,dw,V.lo,e,aQ.cT]
  .have e:=no (by simp[uE,h1,h2,h4]);simp only[am,a_,aI h4,cG hi];refine fK (()) hi ?_ ?_ ?_ ?_ ?_ ?_
   .exact eU (bn _ _) (trivial)
   all_goals simp[hF,ar,am,bT,bR,dw,V.lo,e,aQ.cT]
 .rintro x -;simp only[hF,ar,am,a_,dY,a_,aQ.au,fm];refine aH ?_;simp[V.erase,aQ.dO]
variable{D:af}
def SC(s:aN)(c:az)(hs:s.ok)(hg:TZ D)(hl:c.left.cI<=100000)(hr:c.right.cI<=100000)(qA:c.left.wt<=aK)(xy:c.right.wt<=aK):
 a7 55 [.agg s.enc,.agg c.enc] D (.agg (jF s c).enc):=by
 refine aiV.aT ?_;simp only[aS,am,aZ,Nat.reduceAdd,Int.reduceNeg,kc,aN.au,cD,fk];intro b hb;simp only[am,Int.reduceNeg];refine bm.tok 0 λZ bc=>⟨_,_,(D.set b _).set b (pw Z [] s (-1) c.pos),eZ.rfl,rfl,λi c' hc=>⟨c',hc,eZ.rfl⟩,qY.set jh (by simp[pw,kJ]),?_⟩
 have bc:D.aP Z=none:=bc;rw[af.set_set,show(D.set b (pw Z [] s (-1) c.pos)).aY Z 0=de D b Z [] s (-1) c.pos from rfl];have fin:∀(L:List aQ) (t:List V) (lo:List (List V)) (lat:Int),fI L=jF s c->n8 (λv σ' => v = .agg (jF s c).enc/\σ' = D) ⟨t,lo,de D b Z L s lat c.pos⟩ (.agg (fI L).enc):=λL t lo lat h=>by
  rw[h];exact aL rfl (avT hb bc) ⟨rfl,rfl⟩
 have hv:∀{t:List UInt8} {y k lat:Int},(iH s lat t y k).length<=1:=Dr;have awu:=@amd s c.name;have e1:dJ (i_ s.bz c.name.aq)=c8 s c:=rfl;have aC:c8 s c<s.bz.length:=by
  rw[c8];cases h:i_ s.bz c.name.aq with
  | none=>simp only[dJ];omega
  | some k=>have:=(Hk h).1;simp only[dJ];omega
 simp only[am,Int.reduceNeg,fk]
 by_cases jt:c.op=10
 .simp only[am,Nat.reduceAdd,Int.reduceNeg,eC,vD,aJ jt];refine cl (FV D b Z [] s (-1) c.pos c.name.pos 2 c.name.aq (by simp) hs) ?_;simp only[am,Int.reduceNeg,kc,gN];have hlen:=@Dr s (-1) c.name.aq c.name.pos 2;refine cl (cz.eT (as' := [.sl .no 2 ((iH s (-1) c.name.aq c.name.pos 2).map aQ.enc)]) (zh (iH s (-1) c.name.aq c.name.pos 2) _ (by omega)) ⟨dT.no,trivial⟩ bK.rfl) ?_;simp only[am,Int.reduceNeg,aQ.au];exact fin _ _ _ _ (by rw[jF,qq];rw[aE jt])
 simp only[am,Int.reduceNeg,aI jt]
 by_cases uf:c.op=15
 .simp only[am,Nat.reduceAdd,Int.reduceNeg,eC,vD,aJ uf];refine cl (FV D b Z [] s (-1) c.pos c.name.pos 1 c.name.aq (by simp) hs) ?_;simp only[am,Int.reduceNeg,kc,gN];have hlen:=@Dr s (-1) c.name.aq c.name.pos 1;refine cl (cz.eT (as' := [.sl .no 2 ((iH s (-1) c.name.aq c.name.pos 1).map aQ.enc)]) (zh (iH s (-1) c.name.aq c.name.pos 1) _ (by omega)) ⟨dT.no,trivial⟩ bK.rfl) ?_;simp only[am,Int.reduceNeg,aQ.au];exact fin _ _ _ _ (by rw[jF,qq];rw[aA jt,aE uf])
 simp only[am,Int.reduceNeg,aI uf]
 by_cases h8:c.op=8
 .simp only[am,Int.reduceNeg,eC,aJ h8];have l1:=@M' s (c8 s c) c.left;have l2:=@M' s (c8 s c) c.right;refine cl (Ye D b Z [] s (-1) c.pos c.name (by simp) hs) ?_;rw[e1,gN];simp only[am,Int.reduceNeg,Nd.au,eC];refine cl (Yd D b Z (gS s c.name) s (c8 s c) c.pos c.left hs hg hb aC (by omega) (by omega) qA) ?_;simp only[am,Int.reduceNeg,Nd.au,eC];refine cl (Yd D b Z (gS s c.name++f_ s (c8 s c) c.left) s (c8 s c) c.pos c.right hs hg hb aC (by simp only[bP];omega) (by omega) xy) ?_;simp only[am,Int.reduceNeg,vD];have hlen:(gS s c.name++f_ s (c8 s c) c.left++f_ s (c8 s c) c.right).length<=200001:=by simp only[bP];omega
  have done:∀(d:List aQ) (t:List V) (lo:List (List V)),d=yy c.right->n8 (λv σ' => v = .agg (jF s c).enc/\σ' = D) ⟨t,lo,de D b Z ((gS s c.name++f_ s (c8 s c) c.left++f_ s (c8 s c) c.right)++d) s (c8 s c) c.pos⟩ (.agg (fI ((gS s c.name++f_ s (c8 s c) c.left++f_ s (c8 s c) c.right)++d)).enc):=λd t lo hd=>fin _ _ _ _ (by rw[jF,qq,aA jt,aA uf,aE h8,hd])
  by_cases k8:c.right.kind=8\/c.right.kind=9
  .have qx:(decide (c.right.kind=8)=ab)\/(decide (c.right.kind=8)=ak/\decide (c.right.kind=9)=ab):=by
    by_cases h:c.right.kind=8
    .exact .inl (aJ h)
    .exact .inr ⟨aI h,aJ (by simpa [h] using k8)⟩
   rcases qx with q1 | ⟨q1,q2⟩
   case' inl=>simp only[am,Nat.reduceAdd,Int.reduceNeg,vD,q1]
   case' inr=>simp only[am,Nat.reduceAdd,Int.reduceNeg,vD,q1,q2]
   all_goals
    refine bE.intro (FX D b Z (gS s c.name++f_ s (c8 s c) c.left++f_ s (c8 s c) c.right) s (c8 s c) c.pos 6 c.right.pos (by omega)) ?_;simp only[am,Int.reduceNeg,kc];refine cl (cz.eT (as' := [.sl .no 2 (((gS s c.name++f_ s (c8 s c) c.left++f_ s (c8 s c) c.right)++[(⟨6,c.right.pos⟩:aQ)]).map aQ.enc)]) (zh ((gS s c.name++f_ s (c8 s c) c.left++f_ s (c8 s c) c.right)++[(⟨6,c.right.pos⟩:aQ)]) _ (by simp only[bP,gM];omega)) ⟨dT.no,trivial⟩ bK.rfl) ?_;simp only[am,Int.reduceNeg,aQ.au];exact done _ _ _ (by rw[yy,aE k8])
  .simp only[am,Nat.reduceAdd,Int.reduceNeg,vD,aI (λh=>k8 (.inl h)),aI (λh=>k8 (.inr h))];refine bE.intro (By D b Z (gS s c.name++f_ s (c8 s c) c.left++f_ s (c8 s c) c.right) s (c8 s c) c.pos 6 c.right.pos (by omega)) ?_;simp only[am,Int.reduceNeg,kc];refine cl (cz.eT (as' := [.sl .no 2 ((gS s c.name++f_ s (c8 s c) c.left++f_ s (c8 s c) c.right).map aQ.enc)]) (zh (gS s c.name++f_ s (c8 s c) c.left++f_ s (c8 s c) c.right) _ (by omega)) ⟨dT.no,trivial⟩ bK.rfl) ?_;simp only[am,Int.reduceNeg,aQ.au]
   have:=done [] ?_ ?_ (by rw[yy,aA k8])
   .rw[eK] at this;exact this
 simp only[am,Int.reduceNeg,aI h8]
 by_cases h9:c.op=9
 .simp only[am,Int.reduceNeg,eC,aJ h9];refine cl (Ye D b Z [] s (-1) c.pos c.name (by simp) hs) ?_;rw[e1,gN];simp only[am,Int.reduceNeg,Nd.au,eC];refine cl (Yo D b Z (gS s c.name) s (c8 s c) c.pos c.left hs hg hb aC (by omega) hl qA) ?_;simp only[am,Int.reduceNeg,Nd.au,eC];have r1:=@Xa s (c8 s c) c.pos c.left;have r2:=@Xa s (c8 s c) c.pos c.right;refine cl (Yo D b Z (gS s c.name++ph s (c8 s c) c.pos c.left) s (c8 s c) c.pos c.right hs hg hb aC (by simp only[bP];omega) hr xy) ?_;simp only[am,Int.reduceNeg,kc];refine cl (cz.eT (as' := [.sl .no 2 ((gS s c.name++ph s (c8 s c) c.pos c.left++ph s (c8 s c) c.pos c.right).map aQ.enc)]) (zh (gS s c.name++ph s (c8 s c) c.pos c.left++ph s (c8 s c) c.pos c.right) _ (by simp only[bP];omega)) ⟨dT.no,trivial⟩ bK.rfl) ?_;simp only[am,Int.reduceNeg,aQ.au];exact fin _ _ _ _ (by rw[jF,qq];rw[aA jt,aA uf,aA h8,aE h9])
 simp only[am,Int.reduceNeg,kc,aI h9];refine cl (cz.eT (as' := [.sl .no 2 (([]:List aQ).map aQ.enc)]) (zh ([]:List aQ) _ (by simp)) ⟨dT.no,trivial⟩ bK.rfl) ?_;simp only[am,Int.reduceNeg,aQ.au];exact fin _ _ _ _ (by rw[jF,qq];rw[aA jt,aA uf,aA h8,aA h9])
def af_:aU prog 117 (sq [rg 4 [oz 1],rg 5 [oz 6],sq [rg 7 [om 0,nL,oi 0],lp 8 0 (sq [rg 11 [om 9,o1 6],sq [rg 12 [om 6,nB .gtr 0],ci 13 (rg 14 [om 5,om 1,oq (.nj (.s 14) (.s 15)),o1 5])],rg 17 [om 5,om 0,om 6,nA 1 18,no,oq (.nj (.s 17) (.s 21)),o1 5]]) 23],rg 24 [om 5,oq (.uc (.s 24)),o1 4],.ret]) [.tmp 4] 26:=aV func117
def af':aU prog 118 (sq [rg 2 [oz 6],rg 3 [oz 6],sq [rg 6 [om 0,nL,oi 0],lp 7 0 (sq [rg 10 [oA 2 6 8,nl 2,oZ 5 [1,0],o2 2 5],rg 12 [om 3,fo 0 5,n1 1,na 1 12,o1 3]]) 17],rg 18 [om 3,o1 2],.ret]) [.tmp 2] 19:=aV func118
def aga:aU prog 119 (sq [rg 2 [oz 1],rg 3 [om 0,oc 117 [.s 3,.c (.aF [44])],oq (.cat (.c (.aF [123])) (.s 4)),oq (.cat (.s 5) (.c (.aF [125]))),o1 2],.ret]) [.tmp 2] 7:=aV func119
def agc:aU prog 120 (sq [rg 2 [oz 6],rg 3 [oz 6],sq [rg 6 [om 0,nL,oi 0],lp 7 0 (sq [rg 10 [oA 4 6 8,nl 4,oZ 5 [1,0,1,0],o2 4 5],rg 12 [om 3,oQ 2 2 5 0,nF 0,oq (.cat (.s 15) (.c (.aF [60]))),oQ 2 2 5 1,nF 0,oq (.cat (.s 16) (.s 19)),n1 1,na 1 12,o1 3]]) 23],rg 24 [om 3,o1 2],.ret]) [.tmp 2] 25:=aV func120
def mc(l:List (List UInt8)):List (List V):=l.map λs=>[V.aF s]
variable{l:List (List UInt8)}
def wZ:(mc l).length=l.length:=aR ..
def Sa{s:List UInt8}(h:l[j]?=aa s):(mc l)[(j:Int).toNat]?=aa [.aF s]:=by simp[mc,h]
def E7(l:List (List UInt8))(sep:List UInt8)(D:af)(i Z:Nat):St :=
 ⟨[.sl .no 1 (mc l),.aF sep,.any,.any,.any,.sl (.tk Z) 1 (dE (j9 sep (l.take i))),.any,.any,.int .i64 l.length,.int .i64 (i:Nat)]++ar 16 .any,[],D.aY Z (j9 sep (l.take i)).length⟩
def NK(l:List (List UInt8))(sep:List UInt8)(D:af)(hl:l.length<=aK)(hb:(j9 sep l).length<=aK) :
 a7 117 [.sl .no 1 (mc l),.aF sep] D (.aF (j9 sep l)):=by
 refine af_.aT ?_;simp only[aS,am,aZ,Nat.reduceAdd,wZ];refine gn (λp:{p:Nat × Nat // D.aP p.2=ag/\p.1<=l.length}=>E7 l sep D p.1.1 p.1.2) (λp=>l.length - p.1.1) ?_ ?_
 .refine bm.sH 0 λZ bc=>⟨⟨(0,Z),bc,by simp⟩,?_,rfl,rfl⟩
  simp[E7,ar,kJ,j9,dE]
 .rintro⟨⟨i,Z⟩,bc,hi⟩;simp only at bc hi;simp only[E7,ar,am];have wi:IntKind.i64.wrap ((i:Int)+1)=((i+1:Nat):Int):=by simp only[aK] at hl;rw[wrap_i64];simp
  by_cases aC:i<l.length
  .have hs:=alP (sep:=sep) aC;have hm:=alM (sep:=sep) (l:=l) (i:=i+1);rw[hs] at hm;simp only[bP] at hm;simp only[am,aJ (show(i:Int)<l.length by omega)]
   by_cases h0:0<i
   case' pos =>
    rw[aE h0] at hs hm;simp only[am,cV,aJ (show(0:Int)<i by omega)];refine⟨_,rfl,?_⟩;refine iy (by rw[jE,jE];omega) (by rw[jE,gw]) ?_;simp only[am,gJ];rw[<-D9,jE,jE,<-bP]
   case' neg =>
    rw[aA h0,eK] at hs;rw[aA h0] at hm;simp only[am,aI (show ¬(0:Int)<i by omega)]
   all_goals
    refine ix (Sa (cS aC)) ?_;simp only[am,cV];refine⟨_,rfl,?_⟩;refine iy (by rw[jE,jE];simp at hm ⊢;omega) (by rw[jE,gw]) ?_;simp only[am,gJ,wi];rw[<-D9,jE,jE,<-bP,<-hs];exact bm.again (I:=λp:{p:Nat × Nat // D.aP p.2=ag/\p.1<=l.length}=>E7 l sep D p.1.1 p.1.2) (μ:=λp=>l.length - p.1.1) ⟨(i+1,Z),bc,aC⟩ (by simp;omega) (by simp[E7,am,ar]) cC.rfl bK.rfl
  .have aC:i=l.length:=by omega
   subst aC;simp only[am,cV,aI (show ¬(l.length:Int)<l.length by omega),fm];refine⟨_,_,rfl,?_⟩;refine aL rfl (jQ bc) ⟨?_,rfl⟩;simp[V.erase]
def y_(l:List aB)(D:af)(i Z:Nat)(aD:List (List V)):St :=
 ⟨[.any,.any,.any,.sl (.tk Z) 1 (mc ((l.take i).map aB.aq)),.any,.any,.sl .no 2 (l.map aB.enc),.int .i64 l.length,.int .i64 (i:Nat)]++ar 10 .any,aD,D.aY Z i⟩
def Ar{s:List UInt8}:mc l++[[.aF s]]=mc (l++[s]):=by simp[mc]
def Ji(l:List aB)(D:af)(hl:l.length+1<=aK):a7 118 [.sl .no 2 (l.map aB.enc)] D (.sl .no 1 (mc (l.map aB.aq))):=by
 refine af'.aT ?_;simp only[aS,am,aZ,Nat.reduceAdd];refine gn (λp:{p:Nat × Nat // D.aP p.2=ag/\p.1<=l.length}=>y_ l D p.1.1 p.1.2 []) (λp=>l.length - p.1.1) ?_ ?_
 .refine bm.sH 0 λZ bc=>⟨⟨(0,Z),bc,by simp⟩,?_,rfl,rfl⟩
  simp[y_,ar,kJ,mc]
 .rintro⟨⟨i,Z⟩,bc,hi⟩;simp only at bc hi;simp only[y_,ar,am];have wi:IntKind.i64.wrap ((i:Int)+1)=((i+1:Nat):Int):=by simp only[aK] at hl;rw[wrap_i64];simp
  by_cases aC:i<l.length
  .have xx:((l.take i).map aB.aq).length=i:=by simp;omega
   have sj:(l.take i).map aB.aq++[l[i].aq]=(l.take (i+1)).map aB.aq:=by rw[jl aC,gy,Gn]
   simp only[am,aJ (show(i:Int)<l.length by omega)];refine ix (Dx (cS aC)) ?_;simp only[am,Nat.reduceAdd,aB.enc];refine iy (by rw[wZ,xx];simp;omega) (by rw[wZ,xx,gw]) ?_;simp only[am,wZ,gJ,wi,xx];rw[Ar,sj];exact bm.ql (I:=λp:{p:Nat × Nat // D.aP p.2=ag/\p.1<=l.length}=>y_ l D p.1.1 p.1.2 []) (μ:=λp=>l.length - p.1.1) ⟨(i+1,Z),bc,aC⟩ (by simp;omega) (by simp[y_,am,ar]) (by simp[y_,am]) bK.rfl (by simp[y_,ar,bR,V.lo]) (by simp[y_,dw])
  .have aC:i=l.length:=by omega
   subst aC;simp only[am,aI (show ¬(l.length:Int)<l.length by omega),fm];refine aL rfl (jQ bc) ⟨?_,rfl⟩;simp[V.erase]
def za(l:List (aB × aB))(D:af)(i Z:Nat)(aD:List (List V)):St :=
 ⟨[.any,.any,.any,.sl (.tk Z) 1 (mc ((l.take i).map kp)),.any,.any,.sl .no 4 (l.map fL),.int .i64 l.length,.int .i64 (i:Nat)]++ar 16 .any,aD,D.aY Z i⟩
def aqa(l:List (aB × aB))(D:af)(hl:l.length+1<=aK)(hp:kR l<=aK):a7 120 [.sl .no 4 (l.map fL)] D (.sl .no 1 (mc (l.map kp))):=by
 refine agc.aT ?_;simp only[aS,am,aZ,Nat.reduceAdd];refine gn (λp:{p:Nat × Nat // D.aP p.2=ag/\p.1<=l.length}=>za l D p.1.1 p.1.2 []) (λp=>l.length - p.1.1) ?_ ?_
 .refine bm.sH 0 λZ bc=>⟨⟨(0,Z),bc,by simp⟩,?_,rfl,rfl⟩
  simp[za,ar,kJ,mc]
 .rintro⟨⟨i,Z⟩,bc,hi⟩;simp only at bc hi;simp only[za,ar,am];have wi:IntKind.i64.wrap ((i:Int)+1)=((i+1:Nat):Int):=by simp only[aK] at hl;rw[wrap_i64];simp
  by_cases aC:i<l.length
  .have xx:((l.take i).map kp).length=i:=by simp;omega
   have sj:(l.take i).map kp++[kp l[i]]=(l.take (i+1)).map kp:=by rw[jl aC,gy,Gn]
   simp only[am,aJ (show(i:Int)<l.length by omega)];refine ix (Ws (cS aC)) ?_;simp only[am,cV,Nat.reduceAdd,fL];have pT:=aqY aC;refine km ?_;simp only[am,cV,Int.reduceToNat,Nat.reduceMul];refine⟨by simp;omega,?_⟩;refine km ?_;simp only[am,Int.reduceToNat,Nat.reduceMul];refine⟨by simp;omega,?_⟩;refine iy (by rw[wZ,xx];simp;omega) (by rw[wZ,xx,gw]) ?_;simp only[am,wZ,gJ,wi,xx];rw[show l[i].1.aq++[60]++l[i].2.aq=kp l[i] from rfl,Ar,sj];exact bm.ql (I:=λp:{p:Nat × Nat // D.aP p.2=ag/\p.1<=l.length}=>za l D p.1.1 p.1.2 []) (μ:=λp=>l.length - p.1.1) ⟨(i+1,Z),bc,aC⟩ (by simp;omega) (by simp[za,am,ar]) (by simp[za,am]) bK.rfl (by simp[za,ar,bR,V.lo]) (by simp[za,dw])
  .have aC:i=l.length:=by omega
   subst aC;simp only[am,aI (show ¬(l.length:Int)<l.length by omega),fm];refine aL rfl (jQ bc) ⟨?_,rfl⟩;simp[V.erase]
def Rc(l:List (List UInt8))(D:af)(hl:l.length<=aK)(hb:(cO l).length+2<=aK):a7 119 [.sl .no 1 (mc l)] D (.aF (vC l)):=by
 refine aga.aT ?_;simp only[aS,am,aZ,Nat.reduceAdd];refine cl (NK l [44] D hl (by rw[Ic];omega)) ?_;simp only[am,Ic];refine⟨by simp;omega,by simp;omega,?_⟩;refine aH ?_;simp[V.erase,vC]
def aiZ:aU prog 59 (sq [rg 2 [ox 1 17 0,oz 1],rg 8 [fo 0 1,oC 100 [9],oZ 3 [1,1],o2 2 3],rg 11 [fo 0 3,n1 1,o1 4],rg 14 [of 7 1,nl 5,of 12 1,nl 5,oq (.jn 5 [(.s 15),(.s 17)]),o1 5],.De (rS 19 [fo 1 3]) (.s 20) 21 22 23 0 1 (sq [rg 24 [oe 22 2,o1 7],rg 25 [om 7],.block 2 (sq [rg 36 [oq (.eW .eql (.s 25) (.c (.int .i32 110))),o1 35],cd 35 (rg 37 [om 4,of 2 1,nF 0,n1 1,na 1 37,o1 4]) (sq [rg 44 [oq (.eW .eql (.s 25) (.c (.int .i32 102))),o1 43],cd 43 (rg 45 [om 4,fo 4 1,oC 118 [47],oc 117 [.s 48,.c (.aF [44])],n1 1,na 1 45,o1 4]) (sq [rg 53 [oq (.eW .eql (.s 25) (.c (.int .i32 119))),o1 52],cd 52 (rg 54 [om 4,fo 4 1,oC 118 [56],oC 119 [57],n1 1,na 1 54,o1 4]) (sq [rg 62 [oq (.eW .eql (.s 25) (.c (.int .i32 112))),o1 61],cd 61 (rg 63 [om 4,fo 5 1,oC 120 [65],oC 119 [66],n1 1,na 1 63,o1 4]) (sq [rg 26 [om 4,om 5,nI 5 0,nl 5,oC 121 [29],n1 1,na 1 26,o1 4],rg 33 [om 5,oq (.kV 5 (.s 33) (aa (.c (.int .i64 1))) ag ag),o1 5]])])])])])]),rg 70 [om 4,oc 117 [.s 70,.c (.aF [32])],o1 2],.ret]) [.tmp 2] 72:=aV func59
def Bs(c:az)(D:af)(ks:List UInt8)(b i Z:Nat):St :=
 ⟨[.any,.ptr (.aD 0) 0,.any,.any,.sl (.tk Z) 1 (mc (lB c (ks.take i)).1),.sl .no 5 ((lB c (ks.take i)).2.map Nd.enc)]++ar 15 .any++[.raw (.pointer (aa ⟨b,0,ag⟩))]++ar 50 .any,[c.enc,[.aF (bY c.op).1,.aF ks]],D.aY Z (i+1)⟩
def RU(c:az)(hg:D.b9 0=aa gC)(hw:16*c.wt+64<=aK):a7 59 [.agg c.enc] D (.aF (eJ c)):=by
 have hcw:c.wt=c.name.aq.length+fu c.an+kR c.bA+c.left.wt+c.right.wt:=rfl;have Mn:=Oj c.an;have HW:=WL c.bA;refine aiZ.aT ?_;simp only[aS,am,aZ,Nat.reduceAdd,cD,fk];refine cl (NW c.op hg) ?_;simp only[am,Nat.reduceAdd,Nd.au,eC];refine Pk ?_;simp only[am];have HN:=ajl c.op;have y6:eJ c=j9 [32] (lB c (bY c.op).2).1:=rfl;have rn:=Ld c.op;generalize fW:(bY c.op).2=ks at HN y6 rn;refine⟨ks,rfl,by rw[<-fW];exact Lc c.op,λb i aM => ∃Z:{Z:Nat // D.aP Z=ag},aM = Bs c D ks b i Z.1,?_,?_,?_,?_⟩
 .intro b;refine bm.sH 1 λZ bc=>⟨⟨Z,bc⟩,?_,?_,rfl⟩
  .simp[Bs,ar,kJ,mc,lB];exact⟨j1.tok rfl,j1.le dT.no⟩
  .simp[Bs]
 .rintro b i _ ⟨Z,rfl⟩;exact⟨rfl,by simp[Bs],by simp[Bs]⟩
 .rintro b i k _ hk ⟨⟨Z,bc⟩,rfl⟩;have hi:i<ks.length:=(fv.1 hk).1;have uu:ks.take (i+1)=ks.take i++[k]:=by rw[Bw hk]
  obtain⟨o1,o2,o3,o4⟩:=Oe c (ks.take i);have sj:=Wv c (ks.take i) k;rw[<-uu] at sj;have oJ:(mc (lB c (ks.take i)).1).length=i+1:=by rw[wZ,o3,jj];omega
  have fH:∀n:UInt8,((k.toNat:Nat):Int)=(n.toNat:Nat)↔k=n:=λn=>by
   constructor
   .intro h;exact Kf.1 (by omega)
   .rintro rfl;rfl
  have wW:((k.toNat:Nat):Int)=110↔k=110:=fH 110;have wV:((k.toNat:Nat):Int)=102↔k=102:=fH 102;have vI:((k.toNat:Nat):Int)=119↔k=119:=fH 119;have vH:((k.toNat:Nat):Int)=112↔k=112:=fH 112;have ht:=HN i hi k hk;simp only[Bs,ar,am];generalize hX:lB c (ks.take i)=X at *;obtain⟨rows,ts⟩:=X;simp only at o1 o2 o3 o4 oJ;simp only;rw[sj];simp only[zI];have yX:rows.length+1<=aK:=by
   have:(List.take i ks).length<=3:=by rw[jj];omega
   simp only[aK];omega
  by_cases k1:k=110
  .have hp:mW k c (ts.headD .zero)=c.name.aq:=by subst k1;rfl
   have hq:isTerm k=false:=by subst k1;rfl
   simp only[am,eC,aJ (wW.2 k1),hp,hq];refine iy (by rw[oJ];simp only[gM,aK] at *;omega) (by rw[oJ,gw]) ?_;simp only[am,cV,gJ,oJ];rw[Ar];exact bm.eT (by simp[am]) (by simp[am]) bK.rfl ⟨⟨Z,bc⟩,rfl⟩
  simp only[am,aI (λh=>k1 (wW.1 h))]
  by_cases k2:k=102
  .have hp:mW k c (ts.headD .zero)=cO (c.an.map aB.aq):=by subst k2;rfl
   have hq:isTerm k=false:=by subst k2;rfl
   simp only[am,eC,aJ (wV.2 k2),hp,hq];refine cl (Ji c.an _ (by omega)) ?_;simp only[am];refine cl (NK (c.an.map aB.aq) [44] _ (by rw[aR];omega) (by rw[Ic];omega)) ?_;simp only[am,Ic];refine iy (by rw[oJ];simp only[gM,aK] at *;omega) (by rw[oJ,gw]) ?_;simp only[am,cV,gJ,oJ];rw[Ar];exact bm.eT (by simp[am]) (by simp[am]) bK.rfl ⟨⟨Z,bc⟩,rfl⟩
  simp only[am,aI (λh=>k2 (wV.1 h))]
  by_cases k3:k=119
  .have hp:mW k c (ts.headD .zero)=vC (c.an.map aB.aq):=by subst k3;rfl
   have hq:isTerm k=false:=by subst k3;rfl
   simp only[am,eC,aJ (vI.2 k3),hp,hq];refine cl (Ji c.an _ (by omega)) ?_;simp only[am];refine cl (Rc (c.an.map aB.aq) _ (by rw[aR];omega) (by omega)) ?_;simp only[am];refine iy (by rw[oJ];simp only[gM,aK] at *;omega) (by rw[oJ,gw]) ?_;simp only[am,cV,gJ,oJ];rw[Ar];exact bm.eT (by simp[am]) (by simp[am]) bK.rfl ⟨⟨Z,bc⟩,rfl⟩
  simp only[am,aI (λh=>k3 (vI.1 h))]
  by_cases k4:k=112
  .have hp:mW k c (ts.headD .zero)=vC (c.bA.map kp):=by subst k4;rfl
   have hq:isTerm k=false:=by subst k4;rfl
   simp only[am,eC,aJ (vH.2 k4),hp,hq];refine cl (aqa c.bA _ (by omega) (by omega)) ?_;simp only[am];refine cl (Rc (c.bA.map kp) _ (by rw[aR];omega) (by omega)) ?_;simp only[am];refine iy (by rw[oJ];simp only[gM,aK] at *;omega) (by rw[oJ,gw]) ?_;simp only[am,cV,gJ,oJ];rw[Ar];exact bm.eT (by simp[am]) (by simp[am]) bK.rfl ⟨⟨Z,bc⟩,rfl⟩
  simp only[am,aI (λh=>k4 (vH.1 h))];have hq:isTerm k=true:=by simp[isTerm,k1,k2,k3,k4]
  have ht2:=ht hq;obtain⟨n,ns,qz⟩:∃n ns,ts=n::ns:=by
   rw[o4]
   match (List.filter isTerm (List.take i ks)).length,ht2 with
   | 0,_=>exact⟨_,_,rfl⟩
   | 1,_=>exact⟨_,_,rfl⟩
  have hnw:n.wt<=c.wt:=o2 n (by rw[qz];simp);have hp:mW k c (ts.headD .zero)=n.dy:=by rw[qz];simp[mW,k1,k2,k3,k4]
  have sn:ts.map Nd.enc=n.enc::ns.map Nd.enc:=by rw[qz];rfl
  have xx:ts.tail=ns:=by rw[qz];rfl
  simp only[am,hp,hq,xx,sn];refine lM (c:=n.enc) (by simp) ?_;simp only[am,Nd.au];refine cl (at6 _ n _ (bS _) (by omega)) ?_;simp only[am];refine iy (by rw[oJ];simp only[gM,aK] at *;omega) (by rw[oJ,gw]) ?_;simp only[am,cV,gJ,oJ];refine atm (a:=1) (by simp) ?_;simp only[am,cV];rw[Ar];exact bm.eT (by simp[am]) (by simp[am]) bK.rfl ⟨⟨Z,bc⟩,rfl⟩
 .rintro b _ ⟨⟨Z,bc⟩,rfl⟩;simp only[Bs,ar,am];rw[fm];obtain⟨o1,o2,o3,o4⟩:=Oe c ks;have ur:=alN _ o1;rw[o3] at ur;have HS:(j9 [32] (lB c ks).1).length<=aK:=by
   have:(ks.length+1)*(c.wt+8+1)<=4*(c.wt+8+1):=sS _ (by omega)
   omega
  refine(cz.eT (NK (lB c ks).1 [32] (D.aY Z (ks.length+1)) (by rw[o3];simp only[aK];omega) HS) ?_ bK.rfl).mono ?_
  .simp[am]
  rintro v _ ⟨rfl,rfl⟩;simp only[am];refine aL rfl (jQ bc) ⟨?_,rfl⟩;rw[y6];rfl
def agh:aU prog 138 (sq [rg 2 [oz 6],rg 3 [oz 6],sq [rg 6 [om 0,nL,oi 0],lp 7 0 (sq [rg 10 [oA 2 6 8,nl 2,oZ 5 [1,0],o2 2 5],rg 12 [om 3,fo 0 5,n1 1,na 1 12,o1 3]]) 17],rg 18 [om 3,o1 2],.ret]) [.tmp 2] 19:=aV func138
def agi:aU prog 139 (sq [rg 0 [ox 1 17 0,oR 2 pg],rg 7 [fo 4 1,oC 138 [8],o1 3],rg 4 [oz 7],sq [rg 10 [fo 5 1,nL,oi 0],lp 12 0 (sq [rg 15 [oA 4 11 13,nl 4,oZ 6 [1,0,1,0],o2 4 6],dg 17 [om 4,om 3,oQ 2 2 6 0,nF 0,oC 173 [18,21],om 3,oQ 2 2 6 1,nf 0,mM [0],no,oC 173 [23,26],oW [0,0] [(0,1,22),(1,1,27)],n1 2,na 2 17,o1 4]]) 31],rg 32 [om 3,nL,om 4,oC 200 [33,34],oC 199 [35],o2 65 2],.ret]) [.cell 2 ab 65] 37:=aV func139
def ag5:aU prog 200 (sq [rg 0 [oR 4 pg],rg 8 [om 0,oC 249 [8],oR 5 pg,o2 65 5],sq [rg 10 [om 1,nL,oi 0],lp 11 0 (sq [rg 14 [oA 2 10 12,nl 2,oZ 7 [0,0],o2 2 7],rg 16 [ol 65 5,fo 0 7,oC 250 [16,18],gA,ol 65 5,fo 1 7,oC 250 [21,23],gZ],ci 25 (dg 26 [of 0 7,mM [1],no,fo 0 7,of 1 5,oP 64 1 30 29,no,fo 1 7,oC 247 [32,34],of 1 5,oP 64 1 36 27,os 1 37 35])]) 38],rg 39 [ol 65 5,o2 65 4],.ret]) [.cell 4 ab 65] 40:=aV func200
def ahJ:aU prog 250 (sq [rg 4 [ox 2 65 0,oz 2],rg 5 [om 1,nB .geq 0,gA,om 1,ol 65 2,oC 267 [9],nb .lss 8,gZ,o1 4],.ret]) [.tmp 4] 13:=aV func250
def zt(p:Int × Int):List V:=[.int .i64 p.1,.int .i64 p.2]
def W_(r:Rl)(i:Int)(D:af):a7 250 [.agg r.enc,.int .i64 i] D (.bool (decide (0<=i)&&decide (i<(bG r:Nat)))):=by
 refine ahJ.aT ?_;simp only[aS,am,aZ,Nat.reduceAdd,Rl.au]
 by_cases h:0<=i
 .simp only[am,Rl.au,aJ h];refine cl (Bj r D) ?_;simp only[am];refine aH ?_;simp[V.erase]
 .simp only[am,aI h];refine aH ?_;simp[V.erase]
def aqW{l:List (Int × Int)}(h:j<l.length):(l.map zt)[((j:Nat):Int).toNat]?=aa (zt l[j]):=by simp[h]
def ar0(n:Int)(l:List (Int × Int))(D:af)(hl:l.length<=100000):a7 200 [.int .i64 n,.sl .no 2 (l.map zt)] D (.agg (sD n l).enc):=by
 refine ag5.aT ?_;simp only[aS,am,aZ,Nat.reduceAdd,Rl.au];refine cl (VQ n D) ?_;simp only[am,aR,Rl.au,aR];refine dK (l.length) (λi (x:Unit)=>⟨[.any,.any,.any,.any,.ptr (.aD 0) 0,.ptr (.aD 1) 0,.any,.any,.any,.any,.sl .no 2 (l.map zt),.int .i64 (l.length:Nat),.int .i64 (i:Nat)]++ar 27 .any,[Rl.zero.enc,(sD n (l.take i)).enc],D⟩) (λi x=>(True)) λF hF JF bn=>⟨?_,?_,?_⟩
 .refine en bn (()) (trivial) ?_ ?_ ?_
  all_goals simp[hF,ar,am,bT,sD]
 .rintro i x hi -;have hT:=apn (n:=n) hi;generalize hr:sD n (l.take i)=r at hT;have hp:=@mX r;obtain⟨p,HW⟩:∃p,l[i]=p:=⟨_,rfl⟩;rw[HW] at hT;simp only[hF,ar,am,dD hi];refine ix (aqW hi) ?_;rw[HW,hr];obtain⟨a,b⟩:=p;simp only[am,Nat.reduceAdd,Rl.au,zt];refine cl (W_ r a D) ?_
  by_cases ha:0<=a/\a<(bG r:Nat)
  .simp only[am,Rl.au,aJ ha.1,aJ ha.2];refine cl (W_ r b D) ?_
   by_cases hb:0<=b/\b<(bG r:Nat)
   .obtain⟨k,rfl⟩:∃k:Nat,a=k:=⟨a.toNat,by omega⟩;have hk:k<64:=by omega
    have e:sD n (l.take (i+1))=r.put k (kW (r.get k) b):=by rw[hT,Fv,aE ⟨ha,hb⟩];rfl
    simp only[am,cV,aJ hb.1,aJ hb.2];refine km ?_;simp only[am,jW,tV,Rl.x6 hk];refine bE.intro (Fs (r.get k) b D) ?_;simp only[am,cV];refine km ?_;simp only[DA,Rl.BE hk,Rl.BF hk,cG hi];refine fK (()) hi ?_ ?_ ?_ ?_ ?_ ?_
    .exact eU (bn _ _) (trivial)
    all_goals simp[hF,ar,am,bT,bR,dw,V.lo,e,Rl.cT]
   .have e:sD n (l.take (i+1))=r:=by rw[hT,Fv,aA λh=>hb h.2]
    have cc : (decide (0<=b)&&decide (b<(bG r:Nat)))=false:=by rw[<-yd];exact aI hb
    simp only[am,a_,cc,cG hi];refine fK (()) hi ?_ ?_ ?_ ?_ ?_ ?_
    .exact eU (bn _ _) (trivial)
    all_goals simp[hF,ar,am,bT,bR,dw,V.lo,e,Rl.cT]
  .have e:sD n (l.take (i+1))=r:=by rw[hT,Fv,aA λh=>ha h.1]
   have yM : (decide (0<=a)&&decide (a<(bG r:Nat)))=false:=by rw[<-yd];exact aI ha
   simp only[am,a_,yM,cG hi];refine fK (()) hi ?_ ?_ ?_ ?_ ?_ ?_
   .exact eU (bn _ _) (trivial)
   all_goals simp[hF,ar,am,bT,bR,dw,V.lo,e,Rl.cT]
 .rintro x -;simp only[hF,ar,am,a_,dY,a_,Rl.au,fm];exact aL (v:=.agg (sD n l).enc) Rl.dV (af.bg _) ⟨by simp only[V.erase,Rl.dO],rfl⟩
def Jf(l:List aB)(D:af)(hl:l.length<=100000):a7 138 [.sl .no 2 (l.map aB.enc)] D (.sl .no 1 (cX (dX l))):=by
 refine agh.aT ?_;simp only[aS,am,aZ,Nat.reduceAdd,aR];refine dK (l.length) (λi (Z:Nat)=>⟨[.any,.any,.any,.sl (.tk Z) 1 (cX (dX (l.take i))),.any,.any,.sl .no 2 (l.map aB.enc),.int .i64 (l.length:Nat),.int .i64 (i:Nat)]++ar 10 .any,[],D.aY Z i⟩) (λi Z=>(D.aP Z=ag)) λF hF JF bn=>⟨?_,?_,?_⟩
 .refine Hb 0 λZ bc=>⟨Z,eU (bn _ _) bc,?_,?_,?_⟩
  all_goals simp[hF,ar,kJ,dX,cX]
 .rintro i Z hi bc;have hlen:(cX (dX (l.take i))).length=i:=by rw[ia,BK,jj];omega
  have hs:cX (dX (l.take (i+1)))=cX (dX (l.take i))++[[.aF l[i].aq]]:=by rw[jl hi];simp only[dX,cX,gy,ch,fh]
  simp only[hF,ar,am,dD hi];refine ix (BI hi) ?_;simp only[am,aB.au,x_];refine iy (by rw[hlen];simp[aK];omega) (by rw[hlen];exact gw) ?_;rw[hlen];simp only[am,a_,gJ,cG hi,gM];refine fK (Z) hi ?_ ?_ ?_ ?_ ?_ ?_
  .exact eU (bn _ _) (bc)
  all_goals simp[hF,ar,am,bT,bR,dw,V.lo,hs]
 .rintro Z bc;simp only[hF,ar,am,a_,dY,a_,fm];refine aL rfl (jQ bc) ⟨rfl,rfl⟩
def wm(P:aB × aB->Int × Int)(l:List (aB × aB)):List (List V):=(l.map P).map zt
def aqS{P:aB × aB->Int × Int}{l:List (aB × aB)}:(wm P l).length=l.length:=by simp[wm]
def Wt{l:List (aB × aB)}(h:j<l.length):(l.map fL)[((j:Nat):Int).toNat]?=aa (fL l[j]):=by simp[h]
def OB(c:az)(D:af)(hn:c.an.length<=100000)(hp:c.bA.length<=100000):a7 139 [.agg c.enc] D (.agg (tN c).enc):=by
 refine agi.aT ?_;simp only[aS,am,aZ,Nat.reduceAdd,Rl.au];simp only[am,cD,eC];refine cl (Jf c.an D hn) ?_;simp only[am,aR,aR,eC];have hw:(dX c.an).length<=100000:=by rw[BK];exact hn
 generalize hP:IV (dX c.an)=P;refine dK (c.bA.length) (λi (Z:Nat)=>⟨[.any,.ptr (.aD 0) 0,.ptr (.aD 1) 0,.sl .no 1 (cX (dX c.an)),.sl (.tk Z) 2 (wm P (c.bA.take i)),.any,.any,.any,.any,.any,.any,.sl .no 4 (c.bA.map fL),.int .i64 (c.bA.length:Nat),.int .i64 (i:Nat)]++ar 23 .any,[c.enc,Rl.zero.enc],D.aY Z i⟩) (λi Z=>(D.aP Z=ag)) λF hF JF bn=>⟨?_,?_,?_⟩
 .refine Hb 0 λZ bc=>⟨Z,eU (bn _ _) bc,?_,?_,?_⟩
  all_goals simp[hF,ar,kJ,wm]
 .rintro i Z hi bc;have hlen:(wm P (c.bA.take i)).length=i:=by rw[aqS,jj];omega
  have hs:wm P (c.bA.take (i+1))=wm P (c.bA.take i)++[zt (P c.bA[i])]:=by rw[jl hi];simp only[wm,gy,ch,fh]
  simp only[hF,ar,am,dD hi];refine ix (Wt hi) ?_;simp only[am,cV,Nat.reduceAdd,fL];refine km ?_;simp only[am,Int.reduceToNat,Nat.reduceMul];refine bE.intro (w9 (dX c.an) c.bA[i].1.aq (D.aY Z i) hw) ?_;simp only[am,cV];refine km ?_;simp only[am,Int.reduceToNat,Nat.reduceMul];refine bE.intro (w9 (dX c.an) c.bA[i].2.aq (D.aY Z i) hw) ?_;simp only[am,Nat.reduceAdd];refine vt (by rw[hlen];simp[aK];omega) (by rw[hlen];exact gw) ?_;rw[hlen];have he:[V.int .i64 (dJ (iL (dX c.an) c.bA[i].1.aq)),.int .i64 (dJ (iL (dX c.an) c.bA[i].2.aq))]=zt (P c.bA[i]):=by rw[<-hP];rfl
  rw[he];simp only[am,a_,gJ,cG hi,gM];refine fK (Z) hi ?_ ?_ ?_ ?_ ?_ ?_
  .exact eU (bn _ _) (bc)
  all_goals simp[hF,ar,am,bT,bR,dw,V.lo,hs,az.enc,az.cP,Rl.cT]
 .rintro Z bc;simp only[hF,ar,am,a_,dY,a_,ia,fm];rw[BK];refine cl (cz.eT (as' := [.int .i64 (c.an.length:Nat),.sl .no 2 (wm P c.bA)]) (show cz prog 200 [.int .i64 (c.an.length:Nat),.sl .no 2 (wm P c.bA)] _ _ from ar0 (c.an.length:Nat) (c.bA.map P) _ (by simpa using hp)) ⟨dT.rfl,dT.no,trivial⟩ bK.rfl) ?_;simp only[am,Rl.au];refine cl (Rw _ _) ?_;simp only[am,Rl.au];subst hP;exact aL (v:=.agg (tN c).enc) Rl.dV (jQ bc) ⟨by simp only[V.erase,Rl.dO],rfl⟩
def agk:aU prog 140 (sq [rg 0 [ox 2 2 0,ox 3 17 1,oZ 4 [2,72]],rg 5 [oz 7],sq [rg 10 [fo 4 3,nL,oi 0],lp 12 0 (sq [rg 15 [oA 2 11 13,nl 2,oZ 7 [1,0],o2 2 7],rg 18 [ol 2 2,fo 0 7,oC 76 [18,20],o1 17,oe 17 0,oe 17 1,ot 8 22,o1 9],rg 24 [om 8,nB .geq 0],ci 25 (rg 26 [om 5,fo 0 2,om 8,nA 3 28,nf 1,nl 2,n1 2,na 2 26,o1 5])]) 35],rg 36 [om 5,oC 198 [36],o2 2 4],.ret]) [.cell 4 ab 2] 38:=aV func140
def ag2:aU prog 198 (sq [rg 0 [oZ 2 [2,72]],rg 8 [oG [2,72] [(0,1,.c (.bool ab))],oZ 3 [2,72],o2 2 3],sq [rg 9 [om 0,nL,oi 0],lp 10 0 (sq [rg 13 [oA 2 9 11,nl 2,oZ 5 [2,72],o2 2 5],rg 15 [fo 1 5,nL,oi 0],lp 17 2 (sq [rg 20 [oA 67 16 18,nl 67,oR 7 r7,o2 67 7],dg 22 [of 1 3,mM [1],no,ol 67 7,oC 201 [24],n1 67,na 67 23,of 1 3,os 1 28 27]]) 29]) 30],rg 31 [ol 2 3,o2 2 2],.ret]) [.cell 2 ab 2] 32:=aV func198
def ag6:aU prog 201 (sq [rg 0 [ox 1 67 0,oR 2 r7],rg 3 [oq (.jn 1 []),fo 1 1,na 1 3,of 1 1,os 1 7 6],rg 8 [ol 67 1,o2 67 2],.ret]) [.cell 2 ab 67] 9:=aV func201
theorem afn{f:bw}:cg 1 (f.enc.drop 1)=true:=rfl
def afq{f:bw}:setAt f.enc 1 [.sl .no 1 (cX f.an)]=f.enc:=by rw[bw.enc,ka,mC,p8,mU]
def Rp(f:bw)(D:af)(hf:f.an.length<=100000):a7 201 [.agg f.enc] D (.agg f.enc):=by
 refine ag6.aT ?_;simp only[aS,am,aZ,Nat.reduceAdd,bw.au];refine yp (by simp[ia,aK];omega) ?_;simp only[am,bw.au,afn,gN,afq];exact aL (v:=.agg f.enc) bw.dV (af.bg _) ⟨by simp only[V.erase,bw.dO],rfl⟩
def atd{l:List bC}(h:j<l.length):(l.map bC.enc)[((j:Nat):Int).toNat]?=aa l[j].enc:=by simp[h]
def K6{l:List bw}(h:j<l.length):(l.map bw.enc)[((j:Nat):Int).toNat]?=aa l[j].enc:=by simp[h]
def w8(l:List bw):List (List V):=l.map bw.enc
def afl{l:List bw}:(w8 l).length=l.length:=by simp[w8]
def afk{l:List bw}{f:bw}:w8 (l++[f])=w8 l++[f.enc]:=by simp[w8]
def WI(l:List bC)(D:af)(hl:l.length<=100000)(hs:∀s∈l,s.bQ.length<=100000/\∀f∈s.bQ,f.an.length<=100000)(hb:(l.flatMap bC.bQ).length<=100000000) :
 a7 198 [.sl .no 2 (l.map bC.enc)] D (.agg (Dd l).enc):=by
 have hT:∀{i:Nat} (hi:i<l.length),(l.take (i+1)).flatMap bC.bQ=(l.take i).flatMap bC.bQ++l[i].bQ:=λ{i} hi=>by rw[jl hi,zS];simp
 have hL:∀{i:Nat} (hi:i<l.length),((l.take i).flatMap bC.bQ).length+l[i].bQ.length<=100000000:=λ{i} hi=>by
  have h1:(l.take (i+1)++l.drop (i+1)).flatMap bC.bQ=l.flatMap bC.bQ:=by rw[rQ]
  rw[<-h1,zS,hT hi] at hb;simp only[bP] at hb;omega
 refine ag2.aT ?_;simp only[aS,am,aZ,Nat.reduceAdd,aR];obtain⟨Q,hQ⟩:∃Q:Nat->List bw,∀i,Q i=(l.take i).flatMap bC.bQ:=⟨_,λ_=>rfl⟩;have uh:Q 0=[]:=by rw[hQ];rfl
 have xe:Q l.length=(Dd l).bQ:=by rw[hQ,fm];rfl
 refine dK (l.length) (λi (Z:Nat)=>⟨[.any,.any,.ptr (.aD 0) 0,.ptr (.aD 1) 0,.any,.any,.any,.any,.any,.sl .no 2 (l.map bC.enc),.int .i64 (l.length:Nat),.int .i64 (i:Nat)]++ar 20 .any,[[.bool ak,.sl .ba 67 []],[.bool ab,.sl (.tk Z) 67 (w8 (Q i))]],D.aY Z (Q i).length⟩) (λi Z=>(D.aP Z=ag)) λF hF JF bn=>⟨?_,?_,?_⟩
 .refine Hc 0 λZ bc=>⟨Z,eU (bn _ _) bc,?_,?_,?_⟩
  all_goals simp[hF,ar,kJ,IA,uh,w8]
 .rintro i Z hi bc;have hsi:=hs _ (fg hi);have Tx:=hL hi;rw[<-hQ] at Tx;have pK:Q (i+1)=Q i++l[i].bQ:=by rw[hQ,hQ,hT hi]
  simp only[hF,ar,am,dD hi];refine ix (atd hi) ?_;simp only[am,Nat.reduceAdd,aR,bC.au,aR];generalize Q i=q at Tx pK;obtain⟨W,hW⟩:∃W:Nat->List bw,∀j,W j=q++l[i].bQ.take j:=⟨_,λ_=>rfl⟩;have hW0:q=W 0:=by rw[hW];simp
  have hWn:W l[i].bQ.length=Q (i+1):=by rw[hW,fm,pK]
  rw[hW0];refine dK (l[i].bQ.length) (λj (x:Unit)=>⟨[.any,.any,.ptr (.aD 0) 0,.ptr (.aD 1) 0,.any,.any,.any,.any,.any,.sl .no 2 (l.map bC.enc),.int .i64 (l.length:Nat),.int .i64 (i:Nat),.any,.any,.any,.any,.sl .no 67 (l[i].bQ.map bw.enc),.int .i64 (l[i].bQ.length:Nat),.int .i64 (j:Nat)]++ar 13 .any,[[.bool ak,.sl .ba 67 []],[.bool ab,.sl (.tk Z) 67 (w8 (W j))],l[i].enc],D.aY Z (W j).length⟩) (λj x=>(True)) λF2 ep yf iO=>⟨?_,?_,?_⟩
  .refine en iO (()) (trivial) ?_ ?_ ?_
   all_goals simp[ep,ar,am,bT]
  .rintro j x hj -;have TI:W (j+1)=W j++[l[i].bQ[j]]:=by rw[hW,hW,jl hj,e9]
   have hWl:(W j).length+1<=100000000:=by rw[hW];simp only[bP,jj];omega
   have hlen:(w8 (W j)).length=(W j).length:=afl;have akg:(W (j+1)).length=(W j).length+1:=by rw[TI];simp
   simp only[ep,ar,am,dD hj];refine ix (K6 hj) ?_;simp only[am,Nat.reduceAdd,bw.au];refine bE.intro (Rp l[i].bQ[j] (D.aY Z (W j).length) (hsi.2 _ (fg hj))) ?_;simp only[am,bw.au];refine vt (by rw[hlen];simp[aK];omega) (by rw[hlen];exact gw) ?_;rw[hlen];simp only[am,a_,gJ,cG hj,gM];rw[<-afk,<-TI,<-akg];refine fK (()) hj ?_ ?_ ?_ ?_ ?_ ?_
   .exact eU (iO _ _) (trivial)
   all_goals simp[ep,ar,am,bT,bR,dw,V.lo,bC.cT]
  .rintro x -;simp only[ep,ar,am,a_,dY,Nat.reduceAdd,Nat.reduceEqDiff,a_,reduceCtorEq,cG hi,hWn];refine fK (Z) hi ?_ ?_ ?_ ?_ ?_ ?_
   .exact eU (bn _ _) (bc)
   all_goals simp[hF,ar,am,bT,bR,dw,V.lo]
 .rintro Z bc;simp only[hF,ar,am,a_,dY,Nat.reduceAdd,a_,xe];refine aL rfl (jQ bc) ⟨rfl,rfl⟩
variable{w:aB}
def amg{s:aN}:(qF s w).length<=1:=by
 unfold qF;split
 .split<;>simp
 .simp
def zD(l:List bC):List (List V):=l.map bC.enc
def as9{l:List bC}{s:bC}:zD (l++[s])=zD l++[s.enc]:=by simp[zD]
def SD{f:aB->List bC}(h:∀w,(f w).length<=1):∀{l:List aB},(l.flatMap f).length<=l.length
 | []=>by simp
 | w::ws=>by have:=SD h (l:=ws);have:=h w;simp only[qX,bP,dB];omega
def Sr{N:Nat}:∀{l:List bC},(∀s∈l,s.bQ.length<=N)->(l.flatMap bC.bQ).length<=l.length*N
 | [],_=>by simp
 | s :: ss, h => by
  have h1:=Sr (N:=N) (l:=ss) λx hx=>h x (by simp[hx])
  have h2:=h s (by simp);simp only[qX,bP,dB,Gt];omega
def amh{s:aN}{x:bC}(h:x∈qF s w):∃l∈s.bz,x=l.shape:=by
 unfold qF at h;split at h
 .split at h
  .rename_i y hy;exact⟨y,sQ hy,by simpa using h⟩
  .simp at h
 .simp at h
def amk{s:aN}{k:Nat}(h:i_ s.bz w.aq=aa k)(hk:k<s.bz.length):qF s w=[s.bz[k].shape]:=by
 simp only[qF,h,cS hk]
def ami{s:aN}(h:i_ s.bz w.aq=ag):qF s w=[]:=by simp only[qF,h]
def WH(s:aN)(c:az)(D:af)(hs:s.wj)(hn:c.an.length<=100000):a7 140 [.agg s.enc,.agg c.enc] D (.agg (qO s c).enc):=by
 refine agk.aT ?_;simp only[aS,am,aZ,Nat.reduceAdd,aN.au];simp only[am,aR,aR,cD,eC];obtain⟨Q,hQ⟩:∃Q:Nat->List bC,∀i,Q i=(c.an.take i).flatMap (qF s):=⟨_,λ_=>rfl⟩;have uh:Q 0=[]:=by rw[hQ];rfl
 have yL:∀i,(Q i).length<=100000:=λi=>by
  rw[hQ]
  have:=SD (f:=qF s) (λ_=>amg) (l:=c.an.take i)
  rw[jj] at this;omega
 refine dK (c.an.length) (λi (Z:Nat)=>⟨[.any,.any,.ptr (.aD 0) 0,.ptr (.aD 1) 0,.ptr (.aD 2) 0,.sl (.tk Z) 2 (zD (Q i)),.any,.any,.any,.any,.any,.sl .no 2 (c.an.map aB.enc),.int .i64 (c.an.length:Nat),.int .i64 (i:Nat)]++ar 24 .any,[s.enc,c.enc,[.bool ak,.sl .ba 67 []]],D.aY Z (Q i).length⟩) (λi Z=>(D.aP Z=ag)) λF hF JF bn=>⟨?_,?_,?_⟩
 .refine Hb 0 λZ bc=>⟨Z,eU (bn _ _) bc,?_,?_,?_⟩
  all_goals simp[hF,ar,kJ,uh,zD]
 .rintro i Z hi bc;have pK:Q (i+1)=Q i++qF s c.an[i]:=by rw[hQ,hQ,jl hi,zS];simp
  have hlq:=yL i;simp only[hF,ar,am,dD hi];refine ix (BI hi) ?_;simp only[am,Nat.reduceAdd,aN.au,aB.au,x_];refine cl (wv s c.an[i].aq _ hs.1.1 hs.1.2.1) ?_;cases hf:i_ s.bz c.an[i].aq with
  | none =>
   have e:Q (i+1)=Q i:=by rw[pK,ami hf,eK]
   simp only[am,c7,a_,Int.reduceNeg,Int.reduceLE,dJ,cG hi];refine fK (Z) hi ?_ ?_ ?_ ?_ ?_ ?_
   .exact eU (bn _ _) (bc)
   all_goals simp[hF,ar,am,bT,bR,dw,V.lo,e,aN.cT,az.enc,az.cP]
  | some k =>
   have hk:=(Hk hf).1;have e:Q (i+1)=Q i++[s.bz[k].shape]:=by rw[pK,amk hf hk]
   have hlen:(zD (Q i)).length=(Q i).length:=by simp[zD]
   have e2:(Q (i+1)).length=(Q i).length+1:=by rw[e];simp
   simp only[am,Int.reduceNeg,aN.au,dJ,aJ (show(0:Int)<=((k:Nat):Int) by omega)];refine ix (xH hk) ?_;simp only[am,Int.reduceNeg,aN.au,bC.au];refine iy (by rw[hlen];simp[aK];omega) (by rw[hlen];exact gw) ?_;rw[hlen];simp only[am,a_,Int.reduceNeg,gJ,cG hi,gM];rw[<-as9,<-e,<-e2];refine fK (Z) hi ?_ ?_ ?_ ?_ ?_ ?_
   .exact eU (bn _ _) (bc)
   all_goals simp[hF,ar,am,bT,bR,dw,V.lo,aN.cT,az.enc,az.cP]
 .rintro Z bc;have hq:=yL c.an.length;have e:Q c.an.length=c.an.flatMap (qF s):=by rw[hQ,fm]
  have hm:∀x∈Q c.an.length,∃l∈s.bz,x=l.shape:=λx hx=>by
   rw[e] at hx;obtain⟨w,_,hx⟩:=Qk.1 hx;exact amh hx
  have yY:=Sr (N:=100) (l:=Q c.an.length) λx hx=>by obtain⟨l,hl,rfl⟩:=hm x hx;exact hs.2 l hl
  have Mr:qO s c=Dd (Q c.an.length):=by rw[qO,e]
  simp only[hF,ar,am,a_,dY,a_];refine cl (cz.eT (as' := [.sl .no 2 (zD (Q c.an.length))]) (WI (Q c.an.length) _ (by omega) (λx hx=>by obtain⟨l,hl,rfl⟩:=hm x hx;exact hs.1.2.2 l hl) (by omega)) ⟨dT.no,trivial⟩ bK.rfl) ?_;simp only[am,bC.au];refine aL rfl (jQ bc) ⟨by rw[Mr];rfl,rfl⟩
def agQ:aU prog 178 (sq [rg 2 [ox 1 17 0,oz 2],sq [rg 3 [fo 0 1,oc 223 [.s 4,.c (.int .i32 110)],nB .eql 0],cr 6 7 [of 2 1,nF 0,oq (.pA .eql (.s 9) (.c (.aF []))),o1 2]],rg 11 [of 2 1,nF 0,oC 161 [13],o1 2],.ret]) [.tmp 2] 15:=aV func178
def agR:aU prog 179 (sq [rg 2 [ox 1 17 0,oz 2],.block 0 (sq [rg 4 [fo 0 1,oc 223 [.s 5,.c (.int .i32 119)],nB .gtr 0,o1 3],cd 3 (sq [rg 8 [fo 4 1,nL,nB .gtr 0,gA,fo 4 1,oC 118 [14],oC 224 [15],gZ,o1 2],.ret]) (sq [rg 19 [fo 0 1,oc 223 [.s 20,.c (.int .i32 102)],nB .gtr 0,o1 18],cr 18 23 [fo 4 1,nL,nB .eql 1,gA,fo 4 1,oC 118 [29],oC 224 [30],gZ,o1 2]])]),rg 33 [fo 4 1,nL,nB .eql 0,o1 2],.ret]) [.tmp 2] 37:=aV func179
def ahl:aU prog 223 (sq [rg 4 [oi 0],rg 5 [oi 0],.De (rS 8 [om 0,oC 100 [8],ow 1 9]) (.s 10) 11 12 13 0 1 (sq [rg 14 [oe 12 2,o1 7],rg 15 [om 7,om 1,nb .eql 15],ci 17 (rg 18 [ic 5])]),rg 20 [om 5,o1 4],.ret]) [.tmp 4] 21:=aV func223
def ahm:aU prog 224 (sq [rg 2 [oz 2],sq [rg 5 [om 0,nL,oi 0],lp 6 0 (sq [rg 9 [oA 1 5 7,no,o1 4],rg 11 [om 4,oC 161 [11],nn],cr 13 2 [oz 2]]) 14],rg 2 [oq (.mv (.c (.bool ab)))],.ret]) [.tmp 2] 15:=aV func224
def Br(ks:List UInt8)(k:UInt8)(D:af)(b i:Nat):St :=
 ⟨[.any,.int .i32 (k.toNat:Nat),.any,.any,.any,.int .i64 ((ks.take i).count k:Nat)]++ar 5 .any++[.raw (.pointer (aa ⟨b,0,ag⟩))]++ar 9 .any,[],D⟩
def C6(op:Int)(k:UInt8)(hg:D.b9 0=aa gC):a7 223 [.int .i64 op,.int .i32 (k.toNat:Nat)] D (.int .i64 (fy op k:Nat)):=by
 refine ahl.aT ?_;simp only[aS,am,aZ,Nat.reduceAdd];refine Pk ?_;simp only[am];refine cl (NW op hg) ?_;simp only[am];have rn:=Ld op;have TS:fy op k=(bY op).2.count k:=rfl;generalize fW:(bY op).2=ks at rn TS;refine⟨ks,rfl,by rw[<-fW];exact Lc op,λb i aM => aM = Br ks k D b i,?_,?_,?_,?_⟩
 .intro b;refine bm.eT (t' := (Br ks k D b 0).t) ?_ cC.rfl bK.rfl rfl;simp[Br,ar,am]
 .rintro b i _ rfl;exact⟨rfl,by simp[Br],by simp[Br]⟩
 .rintro b i c _ hc rfl;have hi:i<ks.length:=(fv.1 hc).1;have sj:(ks.take (i+1)).count k=(ks.take i).count k+(if c=k then 1 else 0):=by
   rw[Bw hc,List.count_append,List.count_singleton];simp
  have hle:(ks.take i).count k<=3:=yh List.count_le_length (by rw[jj];omega);have fH:((c.toNat:Nat):Int)=(k.toNat:Nat)↔c=k:=by
   constructor
   .intro h;exact Kf.1 (by omega)
   .rintro rfl;rfl
  simp only[Br,ar,am]
  by_cases e:c=k
  .rw[aE e] at sj;simp only[am,cV,aJ (fH.2 e)];rw[wrap_i64];exact bm.eT (by simp[am,sj]) cC.rfl bK.rfl rfl
  .rw[aA e] at sj;simp only[am,cV,aI (λh=>e (fH.1 h))];exact bm.eT (by simp[am,sj]) cC.rfl bK.rfl rfl
 .rintro b _ rfl;simp only[Br,ar,am];rw[fm];refine aH ?_;simp[V.erase,TS]
def E8(l:List (List UInt8))(D:af)(i:Nat):St :=
 ⟨[.any,.any,.any,.any,.any,.sl .no 1 (mc l),.int .i64 l.length,.int .i64 (i:Nat)]++ar 7 .any,[],D⟩
def Rx(l:List (List UInt8))(D:af)(hl:l.length<=aK):a7 224 [.sl .no 1 (mc l)] D (.bool (pZ l)):=by
 simp only[aK] at hl;refine ahm.aT ?_;simp only[aS,am,aZ,Nat.reduceAdd,wZ];refine gn (λp:{i:Nat // i<=l.length/\pZ (l.take i)=ab}=>E8 l D p.1) (λp=>l.length - p.1) ?_ ?_
 .refine bm.enter ⟨0,by simp,by simp[pZ]⟩ ?_ cC.rfl bK.rfl;simp[E8,ar,am]
 rintro⟨i,hi,ha⟩;simp only[E8,ar,am]
 by_cases aC:i<l.length
 .simp only[am,aJ (show(i:Int)<l.length by omega)];refine ix (Sa (cS aC)) ?_;simp only[am];refine cl (uI l[i] D) ?_;cases hr:dx l[i]
  .simp only[am]
   have:pZ l=false:=by
    rw[pZ,Gi];exact⟨l[i],fg aC,by simp[hr]⟩
   refine aH ?_;simp[V.erase,this]
  .simp only[am];rw[wrap_i64];refine bm.again (I:=λp:{i:Nat // i<=l.length/\pZ (l.take i)=ab}=>E8 l D p.1) (μ:=λp=>l.length - p.1) ⟨i+1,aC,?_⟩ (by simp;omega) (by simp[E8,am,ar]) cC.rfl bK.rfl;simp only[pZ,jl aC,JR,bF] at ha ⊢;exact⟨ha,by simp[hr]⟩
 .have:i=l.length:=by omega
  subst this;rw[fm] at ha;simp only[am,aI (show ¬(l.length:Int)<l.length by omega)];refine aH ?_;simp[V.erase,ha]
def an7(c:az)(hg:D.b9 0=aa gC):a7 178 [.agg c.enc] D (.bool c.nN):=by
 refine agQ.aT ?_;simp only[aS,am,aZ,Nat.reduceAdd,cD,fk];have h:=λ(D:af) (hg:D.b9 0=aa gC)=>C6 c.op 110 hg
 refine cl (h D hg) ?_;simp only[am]
 by_cases h0:fy c.op 110=0
 .simp only[am,eC,aJ (show((fy c.op 110:Nat):Int)=0 by omega)];refine aH ?_;simp[V.erase,az.nN,h0]
 .simp only[am,eC,aI (show ¬((fy c.op 110:Nat):Int)=0 by omega)];refine cl (uI c.name.aq D) ?_;simp only[am];refine aH ?_;simp[V.erase,az.nN,h0]
def aoa(c:az)(hg:D.b9 0=aa gC)(hn:c.an.length+1<=aK):a7 179 [.agg c.enc] D (.bool c.kK):=by
 have rr:(c.an.map aB.aq).length<=aK:=by rw[aR];omega
 have h:=λ(D:af) (hg:D.b9 0=aa gC)=>C6 c.op 119 hg
 have h' := λ(D:af) (hg:D.b9 0=aa gC)=>C6 c.op 102 hg
 refine agR.aT ?_;simp only[aS,am,aZ,Nat.reduceAdd,cD,fk];refine cl (h D hg) ?_;simp only[am]
 by_cases h0:0<fy c.op 119
 .simp only[am,aR,eC,aJ (show(0:Int)<((fy c.op 119:Nat):Int) by omega),aR]
  by_cases h1:0<c.an.length
  .simp only[am,eC,aJ (show(0:Int)<((c.an.length:Nat):Int) by omega)];refine cl (Ji c.an D hn) ?_;simp only[am];refine cl (Rx (c.an.map aB.aq) D rr) ?_;simp only[am];refine aH ?_;simp[V.erase,az.kK,h0,h1]
  .simp only[am,aI (show ¬(0:Int)<((c.an.length:Nat):Int) by omega)];refine aH ?_;simp[V.erase,az.kK,h0,h1]
 .simp only[am,fk,aI (show ¬(0:Int)<((fy c.op 119:Nat):Int) by omega)];refine cl (h' D hg) ?_;simp only[am]
  by_cases h2:0<fy c.op 102
  .simp only[am,aR,eC,aJ (show(0:Int)<((fy c.op 102:Nat):Int) by omega),aR]
   by_cases h1:c.an.length=1
   .simp only[am,eC,aJ (show((c.an.length:Nat):Int)=1 by omega)];refine cl (Ji c.an D hn) ?_;simp only[am];refine cl (Rx (c.an.map aB.aq) D rr) ?_;simp only[am];refine aH ?_;simp[V.erase,az.kK,h0,h1,h2]
   .simp only[am,aI (show ¬((c.an.length:Nat):Int)=1 by omega)];refine aH ?_;simp[V.erase,az.kK,h0,h1,h2]
  .simp only[am,aR,eC,aI (show ¬(0:Int)<((fy c.op 102:Nat):Int) by omega),aR];have he:decide (((c.an.length:Nat):Int)=0)=decide (c.an.length=0):=by simp
   refine aH ?_;simp[V.erase,az.kK,h0,h2]
def af6:aU prog 113 (sq [rg 2 [ox 1 17 0,oz 2],sq [rg 3 [fo 0 1,nB .lss 0,gB,fo 0 1,nB .gtr 15,gZ],cr 10 2 [oz 2]],rg 11 [ol 17 1,oC 178 [11],gA,ol 17 1,oC 179 [14],gZ,gA,ol 17 1,oC 180 [18],gZ,gA,ol 17 1,oC 181 [22],gZ,o1 2],.ret]) [.tmp 2] 25:=aV func113
def agS:aU prog 180 (sq [rg 2 [ox 1 17 0,oz 2],sq [rg 5 [fo 0 1,oc 223 [.s 6,.c (.int .i32 112)],nB .eql 0],cr 8 9 [fo 5 1,nL,nB .eql 0,o1 2]],sq [rg 13 [fo 5 1,nL,oi 0],lp 15 0 (sq [rg 18 [oA 4 14 16,nl 4,oZ 4 [1,0,1,0],o2 4 4],rg 20 [oQ 2 2 4 0,nF 0,oC 161 [22],nn,gB,oQ 2 2 4 1,nF 0,oC 161 [28],nn,gZ],cr 31 2 [oz 2]]) 32],rg 2 [oq (.mv (.c (.bool ab)))],.ret]) [.tmp 2] 33:=aV func180
def agT:aU prog 181 (sq [rg 2 [ox 1 17 0,oz 2],sq [rg 3 [fo 0 1,oc 223 [.s 4,.c (.int .i32 116)],nB .gtr 0],cr 6 7 [of 7 1,nl 5,oC 182 [8],gA,of 12 1,nl 5,oC 182 [12],gZ,o1 2]],sq [rg 15 [fo 0 1,oc 223 [.s 16,.c (.int .i32 114)],nB .gtr 0],cr 18 19 [of 7 1,nl 5,oC 225 [20],gA,of 12 1,nl 5,oC 225 [24],gZ,o1 2]],rg 27 [of 7 1,nl 5,oW [0,0,1,7,10] [],oC 226 [28,29],gA,of 12 1,nl 5,oW [0,0,1,7,10] [],oC 226 [33,34],gZ,o1 2],.ret]) [.tmp 2] 37:=aV func181
def zb(c:az)(D:af)(i:Nat):St :=
 ⟨[.any,.ptr (.aD 0) 0]++ar 12 .any++[.sl .no 4 (c.bA.map fL),.int .i64 c.bA.length,.int .i64 (i:Nat)]++ar 16 .any,[c.enc],D⟩
def ap_(c:az)(hg:D.b9 0=aa gC)(hn:c.bA.length+1<=aK):a7 180 [.agg c.enc] D (.bool c.lT):=by
 have h:=λ(D:af) (hg:D.b9 0=aa gC)=>C6 c.op 112 hg
 simp only[aK] at hn;refine agS.aT ?_;simp only[aS,am,aZ,Nat.reduceAdd,cD,fk];refine cl (h D hg) ?_;simp only[am]
 by_cases h0:fy c.op 112=0
 .simp only[am,aR,eC,aR,aJ (show((fy c.op 112:Nat):Int)=0 by omega)];have he:decide (((c.bA.length:Nat):Int)=0)=decide (c.bA.length=0):=by simp
  refine aH ?_;simp[V.erase,az.lT,h0]
 simp only[am,aR,eC,aR,aI (show ¬((fy c.op 112:Nat):Int)=0 by omega)];have hq:c.lT=c.bA.all pe:=by unfold az.lT;rw[aA h0]
 refine gn (λp:{i:Nat // i<=c.bA.length/\(c.bA.take i).all pe=ab}=>zb c D p.1) (λp=>c.bA.length - p.1) ?_ ?_
 .refine bm.enter ⟨0,by simp,by simp⟩ ?_ cC.rfl bK.rfl;simp[zb,ar,am]
 rintro⟨i,hi,ha⟩;simp only[zb,ar,am]
 by_cases aC:i<c.bA.length
 .simp only[am,aJ (show(i:Int)<c.bA.length by omega)];refine ix (Ws (cS aC)) ?_;simp only[am,cV,Nat.reduceAdd,fL];refine km ?_;simp only[am,Int.reduceToNat,Nat.reduceMul];refine cl (uI c.bA[i].1.aq D) ?_;have j6:pe c.bA[i]=ak->c.lT=false:=λhf=>by
   rw[hq,Gi];exact⟨c.bA[i],fg aC,by simp[hf]⟩
  cases hr:dx c.bA[i].1.aq
  .simp only[am];refine aH ?_;simp[V.erase,j6 (by simp[pe,hr])]
  .simp only[am,cV];refine km ?_;simp only[am,Int.reduceToNat,Nat.reduceMul];refine cl (uI c.bA[i].2.aq D) ?_;cases Uj:dx c.bA[i].2.aq
   .simp only[am];refine aH ?_;simp[V.erase,j6 (by simp[pe,Uj])]
   .simp only[am];rw[wrap_i64];refine bm.ql (I:=λp:{i:Nat // i<=c.bA.length/\(c.bA.take i).all pe=ab}=>zb c D p.1) (μ:=λp=>c.bA.length - p.1) ⟨i+1,aC,?_⟩ (by simp;omega) (by simp[zb,am,ar]) (by simp[zb,am]) bK.rfl (by simp[zb,ar,bR,V.lo]) (by simp[zb,az.enc,az.cP,dw,bR,V.lo]);rw[jl aC,JR,ha];simp[pe,hr,Uj]
 .have:i=c.bA.length:=by omega
  subst this;rw[fm] at ha;simp only[am,aI (show ¬(c.bA.length:Int)<c.bA.length by omega)];refine aH ?_;simp[V.erase,hq,ha]
def awe:[V.int .i64 0,.int .i64 0,.aF [],.sl .ba 2 [],.sl .ba 5 []].map V.erase=Nd.zero.enc:=by rw[Nd.cJ];rfl
def XP(n:Nd)(D:af)(hw:n.wt<=aK):a7 226 [.agg n.enc,.agg [.int .i64 0,.int .i64 0,.aF [],.sl .ba 2 [],.sl .ba 5 []]] D (.bool (n.c9 .zero)):=by
 refine cz.eT (asH _ n .zero D (bS _) hw) ?_ bK.rfl;simp only[cQ,dT.rfl,il,pq];rw[<-awe];exact dT.erase (v:=.agg [.int .i64 0,.int .i64 0,.aF [],.sl .ba 2 [],.sl .ba 5 []])
def at3(c:az)(hg:D.b9 0=aa gC)(hl:c.left.wt<=aK)(hr:c.right.wt<=aK):a7 181 [.agg c.enc] D (.bool c.kt):=by
 have h:=λ(D:af) (hg:D.b9 0=aa gC)=>C6 c.op 116 hg
 have h' := λ(D:af) (hg:D.b9 0=aa gC)=>C6 c.op 114 hg
 refine agT.aT ?_;simp only[aS,am,aZ,Nat.reduceAdd,cD,fk];refine cl (h D hg) ?_;simp only[am]
 by_cases h0:0<fy c.op 116
 .simp only[am,Nd.au,eC,aJ (show(0:Int)<((fy c.op 116:Nat):Int) by omega)];refine cl (Fe _ c.left D (bS _) hl) ?_;cases hq:c.left.fA
  .simp only[am];refine aH ?_;simp[V.erase,az.kt,h0,hq]
  .simp only[am,Nd.au,eC];refine cl (Fe _ c.right D (bS _) hr) ?_;simp only[am];refine aH ?_;simp[V.erase,az.kt,h0,hq]
 simp only[am,fk,aI (show ¬(0:Int)<((fy c.op 116:Nat):Int) by omega)];refine cl (h' D hg) ?_;simp only[am]
 by_cases h2:0<fy c.op 114
 .simp only[am,Nd.au,eC,aJ (show(0:Int)<((fy c.op 114:Nat):Int) by omega)];refine cl (Xe c.left D hl) ?_;cases hq:c.left.jN
  .simp only[am];refine aH ?_;simp[V.erase,az.kt,h0,h2,hq]
  .simp only[am,Nd.au,eC];refine cl (Xe c.right D hr) ?_;simp only[am];refine aH ?_;simp[V.erase,az.kt,h0,h2,hq]
 simp only[am,Nd.au,eC,aI (show ¬(0:Int)<((fy c.op 114:Nat):Int) by omega)];refine cl (XP c.left D hl) ?_;cases hq:c.left.c9 .zero
 .simp only[am];refine aH ?_;simp[V.erase,az.kt,h0,h2,hq]
 .simp only[am,Nd.au,eC];refine cl (XP c.right D hr) ?_;simp only[am];refine aH ?_;simp[V.erase,az.kt,h0,h2,hq]
def acE(c:az)(hg:D.b9 0=aa gC)(hn:c.an.length+1<=aK)(hp:c.bA.length+1<=aK)(hl:c.left.wt<=aK)(hr:c.right.wt<=aK):a7 113 [.agg c.enc] D (.bool c.fS):=by
 have h1:=λ(D:af) (hg:D.b9 0=aa gC)=>an7 c hg
 have h2:=λ(D:af) (hg:D.b9 0=aa gC)=>aoa c hg hn
 have h3:=λ(D:af) (hg:D.b9 0=aa gC)=>ap_ c hg hp
 have h4:=λ(D:af) (hg:D.b9 0=aa gC)=>at3 c hg hl hr
 refine af6.aT ?_;simp only[aS,am,aZ,Nat.reduceAdd,cD,fk]
 by_cases k1:c.op<0
 .simp only[am,aJ k1];refine aH ?_;simp[V.erase,az.fS,show ¬(0<=c.op/\c.op<=15) by omega]
 simp only[am,fk,aI k1]
 by_cases k2:15<c.op
 .simp only[am,aJ k2];refine aH ?_;simp[V.erase,az.fS,show ¬(0<=c.op/\c.op<=15) by omega]
 have k3:0<=c.op/\c.op<=15:=by omega
 simp only[am,cD,aI k2];refine cl (h1 D hg) ?_;cases q1:c.nN
 .simp only[am];refine aH ?_;simp[V.erase,az.fS,q1]
 simp only[am,cD];refine cl (h2 D hg) ?_;cases q2:c.kK
 .simp only[am];refine aH ?_;simp[V.erase,az.fS,q1,q2]
 simp only[am,cD];refine cl (h3 D hg) ?_;cases q3:c.lT
 .simp only[am];refine aH ?_;simp[V.erase,az.fS,q1,q2,q3]
 simp only[am,cD];refine cl (h4 D hg) ?_;simp only[am];refine aH ?_;simp[V.erase,az.fS,q1,q2,q3,k3]
def af8:aU prog 115 (sq [rg 0 [ox 3 2 0,ox 5 5 2,oR 6 GO],sq [rg 11 [fo 0 5,nB .eql 1],ci 13 (sq [rg 15 [ol 2 3,fo 2 5,oC 76 [15,17],o1 14,oe 14 0,oe 14 1,ot 7 19,o1 8],rg 21 [om 8,oY GO [(0,1,.s 21)],o2 9 6],.ret])],dA 24 [9,10] [fo 0 3,om 1,nA 3 25,nf 1,nl 2,fo 4 5,nI 5 0,nl 5,oC 184 [29,33],o1 23,oe 23 0,oe 23 1,oN,oN,oX 9 8 35,oX 10 2 36],rg 37 [ol 8 9,oY GO [(0,1,.c (.int .i64 (-1))),(1,8,.s 37)],o2 9 6],.ret]) [.cell 6 ab 9] 39:=aV func115
def af9:aU prog 116 (sq [rg 0 [ox 3 2 0,ox 5 5 2,oZ 6 [15,0]],rg 12 [oG [15,0] [(1,1,.c (.int .i64 (-1)))],oZ 7 [15,0],o2 2 7],sq [rg 13 [fo 0 5,nB .eql 1],ci 15 (sq [rg 17 [ol 2 3,fo 2 5,oC 76 [17,19],o1 16,oe 16 0,oe 16 1,of 1 7,os 1 23 22],rg 24 [ol 2 7,o2 2 6],.ret])],sq [rg 25 [fo 4 5,nL,oi 0],lp 27 0 (sq [rg 30 [oA 5 26 28,nl 5,oZ 9 [0,0,1,7,10],o2 5 9],dg 32 [of 0 7,mM [1],no,of 2 9,mM [1],no,ol 2 3,om 1,fo 4 9,nI 5 0,nl 5,oC 115 [36,37,41],oY SH [(0,1,.s 35),(1,9,.s 42)],n1 10,na 10 33,of 0 7,os 1 46 45]]) 47],sq [rg 48 [fo 3 5,nL,oi 0],lp 50 2 (sq [rg 53 [oA 2 49 51,nl 2,oZ 11 [1,0],o2 2 11],rg 56 [ol 2 3,fo 0 11,oC 76 [56,58],o1 55,oe 55 0,oe 55 1,of 1 7,os 1 62 61]]) 63],rg 64 [ol 2 7,o2 2 6],.ret]) [.cell 6 ab 2] 65:=aV func116
def Su(s:aN)(lat:Nat)(n:Nd)(hs:s.ok)(hg:TZ D)(oH:lat<s.bz.length)(hk:n.kind=1\/0<n.aj.length)(hc:n.cI<=100000)(hw:n.wt<=aK):
 a7 115 [.agg s.enc,.int .i64 (lat:Nat),.agg n.enc] D (.agg (rW s lat n).enc):=by
 refine af8.aT ?_;simp only[aS,JD,Nat.reduceAdd,Int.reduceNeg,bN.au]
 by_cases h1:n.kind=1
 .simp only[am,Int.reduceNeg,aN.au,Nd.fl,aJ h1];refine cl (wv s n.aq D hs.1 hs.2.1) ?_;simp only[am,Int.reduceNeg,bN.au];exact aL (v:=.agg (bN.mk (dJ (lb s.vars n.aq)) .zero).enc) bN.dV (af.bg _) ⟨by rw[rW,aE h1];simp only[V.erase,bN.dO],rfl⟩
 have hk:0<n.aj.length:=hk.resolve_left h1;have hm:n.aj[0]∈n.aj:=fg _;have yZ:=rX hm;have y2:=qE hm;simp only[am,Nat.reduceAdd,bL,Int.reduceNeg,Nat.reduceLT,aN.au,aI h1];refine ix (xH oH) ?_;simp only[am,Int.reduceNeg,aN.au,Nd.fl];refine qD (n:=0) (by omega) (o_ (j:=0) (cS hk)) ?_;simp only[am,Int.reduceNeg,bC.au,Nd.au];refine bE.intro (KY s.bz[lat].shape n.aj[0] hg (hs.2.2 _ (fg oH)) (λm hm=>by obtain⟨a,b,c⟩:=Ob (n:=n.aj[0]) (by omega) m hm;exact⟨by omega,by omega,λq hq=>by have:=c q hq;omega⟩) (by omega)) ?_;have ee:rW s lat n=⟨-1,(iZ s.bz[lat].shape n.aj[0]).1⟩:=by rw[rW,aA h1,O2 oH,r9 hk]
 generalize iZ s.bz[lat].shape n.aj[0]=g at ee;obtain⟨e,o⟩:=g;cases o with
 | none =>
  simp only[am,Nat.reduceAdd,Int.reduceNeg,bp.au,bN.au,show vP ag=[.int .i64 0,.int .i64 0] from rfl];exact aL (v:=.agg (bN.mk (-1) e).enc) bN.dV (af.bg _) ⟨by rw[ee];simp only[V.erase,bN.dO],rfl⟩
 | some q =>
  simp only[am,Nat.reduceAdd,Int.reduceNeg,bp.au,bN.au,show vP (aa q)=[.int .i64 4,.int .i64 q] from rfl];exact aL (v:=.agg (bN.mk (-1) e).enc) bN.dV (af.bg _) ⟨by rw[ee];simp only[V.erase,bN.dO],rfl⟩
def S3(s:aN)(lat:Nat)(n:Nd)(hs:s.ok)(hg:TZ D)(oH:lat<s.bz.length)(hk:∀k∈n.aj,SG k)(Mn:n.an.length<=1)(hc:n.cI<=100000)(hw:n.wt<=aK):
 a7 116 [.agg s.enc,.int .i64 (lat:Nat),.agg n.enc] D (.agg (mZ s lat n).enc):=by
 refine af9.aT ?_;simp only[aS,JD,Nat.reduceAdd,Int.reduceNeg,b8.au]
 by_cases h1:n.kind=1
 .simp only[am,Int.reduceNeg,aN.au,Nd.fl,aJ h1];refine cl (wv s n.aq D hs.1 hs.2.1) ?_;simp only[am,Nat.reduceAdd,Int.reduceNeg];exact aL rfl (af.bg _) ⟨by rw[mZ,aE h1];rfl,rfl⟩
 simp only[am,aR,Int.reduceNeg,Nd.fl,aR,aI h1];have EE:=Ak n;obtain⟨Q,hQ⟩:∃Q:Nat->List (List V),∀i,Q i=((n.aj.take i).map (vN s lat)).map b8.enc:=⟨_,λ_=>rfl⟩;have uh:Q 0=[]:=by rw[hQ];rfl
 have xe:Q n.aj.length=(n.aj.map (vN s lat)).map b8.enc:=by rw[hQ,fm]
 have yL:∀{i:Nat},i<=n.aj.length->(Q i).length=i:=λ{i} hi=>by rw[hQ];simp;omega
 have pK:∀{i:Nat} (hi:i<n.aj.length) (h1:0<n.aj[i].aj.length),Q (i+1)=Q i++[(b8.mk n.aj[i].aq (rW s lat n.aj[i].aj[0])).enc]:=λ{i} hi h1=>by
  rw[hQ,hQ,jl hi,gy,gy,Gn,Gn,vN,r9 h1]
 refine dK (n.aj.length) (λi (Z:Nat)=>⟨[.any,.int .i64 (lat:Nat),.any,.ptr (.aD 0) 0,.any,.ptr (.aD 1) 0,.ptr (.aD 2) 0,.ptr (.aD 3) 0,.any,.any,.any,.any,.any,.any,.any,.any,.any,.any,.any,.any,.any,.any,.any,.any,.any,.any,.sl .no 5 (n.aj.map Nd.enc),.int .i64 (n.aj.length:Nat),.int .i64 (i:Nat)]++ar 36 .any,[s.enc,n.enc,[.sl .ba 10 [],.int .i64 0],[.sl (.tk Z) 10 (Q i),.int .i64 (-1)]],D.aY Z i⟩) (λi Z=>(D.aP Z=ag)) λF hF JF bn=>⟨?_,?_,?_⟩
 .refine Hc 0 λZ bc=>⟨Z,eU (bn _ _) bc,?_,?_,?_⟩
  all_goals simp[hF,ar,kJ,IA,uh]
 .rintro i Z hi bc;have hm:n.aj[i]∈n.aj:=fg _;have yZ:=rX hm;have y2:=qE hm;obtain⟨s9,s_⟩:=hk _ hm;have CH:n.aj[i].aj[0]∈n.aj[i].aj:=fg _;have akU:=rX CH;have akV:=qE CH;have yV:TZ (D.aY Z i):=hg;have hlen:=yL (J_ hi);simp only[hF,ar,am,dD hi,Int.reduceNeg];refine ix (o_ (cS hi)) ?_;simp only[JD,Nat.reduceAdd,Int.reduceNeg];refine qD (n:=0) (by omega) (o_ (j:=0) (cS s9)) ?_;simp only[am,Int.reduceNeg,aN.au,Nd.au];refine bE.intro (Su s lat n.aj[i].aj[0] hs yV oH (s_ _ CH) (by omega) (by omega)) ?_;simp only[am,Int.reduceNeg,bN.au,b8.au];refine vt (by rw[hlen];simp[aK];omega) (by rw[hlen];exact gw) ?_;rw[hlen];simp only[am,a_,Int.reduceNeg,Nd.fl,gJ,cG hi,gM];refine fK (Z) hi ?_ ?_ ?_ ?_ ?_ ?_
  .exact eU (bn _ _) (bc)
  all_goals simp[hF,ar,am,bT,bR,dw,V.lo,pK hi s9,aN.cT,Nd.cT]
 .rintro Z bc;have hlen:=yL (bS _);have xp:=D5 n;simp only[hF,ar,am,a_,dY,a_,Int.reduceNeg,Nd.fl,aR];refine dK (n.an.length) (λj (y:Unit)=>⟨[.any,.any,.any,.ptr (.aD 0) 0,.any,.any,.ptr (.aD 2) 0,.ptr (.aD 3) 0,.any,.any,.any,.any,.any,.any,.any,.any,.any,.any,.any,.any,.any,.any,.any,.any,.any,.any,.any,.any,.any,.any,.any,.any,.any,.any,.any,.any,.any,.any,.any,.any,.any,.any,.any,.any,.any,.any,.any,.any,.any,.sl .no 2 (n.an.map aB.enc),.int .i64 (n.an.length:Nat),.int .i64 (j:Nat)]++ar 13 .any,[s.enc,n.enc,[.sl .ba 10 [],.int .i64 0],[.sl (.tk Z) 10 (Q n.aj.length),.int .i64 (Bv s (n.an.take j))]],D.aY Z n.aj.length⟩) (λj y=>(True)) λF2 ep yf iO=>⟨?_,?_,?_⟩
  .refine en iO (()) (trivial) ?_ ?_ ?_
   all_goals simp[ep,ar,am,bT,Bv]
  .rintro j y hj -;obtain rfl:j=0:=by omega
   have et:=atV (s:=s) hj;simp only[ep,ar,am,dD hj];refine ix (BI hj) ?_;simp only[am,Nat.reduceAdd,x_,aN.au,aB.au];refine cl (wv s n.an[0].aq _ hs.1 hs.2.1) ?_;simp only[am,a_,cG hj];refine fK (()) hj ?_ ?_ ?_ ?_ ?_ ?_
   .exact eU (iO _ _) (trivial)
   all_goals simp[ep,ar,am,bT,bR,dw,V.lo,et,aN.cT,Nd.cT]
  .rintro y -;simp only[ep,ar,am,a_,dY,Nat.reduceAdd,a_,fm,xe];have e:mZ s lat n=⟨n.aj.map (vN s lat),Bv s n.an⟩:=by rw[mZ,aA h1]
   refine aL rfl (jQ bc) ⟨by rw[e];rfl,rfl⟩
def aiY:aU prog 58 (sq [rg 5 [ox 2 2 0,ox 3 17 1,oR 4 kf,oz 2],sq [rg 9 [fo 0 3,nB .lss 8,gB,fo 0 3,nB .gtr 10,gZ,gB,ol 17 3,oC 113 [18],nn,gZ,gB,ol 2 2,ol 17 3,oC 55 [23,24],ow 0 25,nB .neq 0,gZ],cr 28 29 [oY kf [],o2 18 4,oU 5 2]],rg 31 [ol 2 2,of 2 3,nF 0,oC 76 [31,34],o1 30,oe 30 0,oe 30 1,ot 6 36,o1 7],rg 38 [fo 0 3,om 6,oY kf [(0,1,.s 39),(1,1,.s 40)],oR 8 kf,o2 18 8],sq [rg 42 [fo 0 3],.block 0 (sq [rg 45 [oB .eql 43 8,o1 44],cd 44 (sq [rg 47 [ol 2 2,om 6,of 7 3,nl 5,oC 114 [47,48,50],o1 46,oe 46 0,oe 46 1,of 2 8,os 1 54 52],rg 55 [ol 2 2,om 6,of 12 3,nl 5,oC 115 [55,56,58],of 3 8,os 9 60 59]]) (sq [rg 62 [oB .eql 43 9,o1 61],cd 61 (dg 63 [ol 2 2,om 6,of 7 3,nl 5,oC 116 [63,64,66],mM [0],ol 2 2,om 6,of 12 3,mM [0],nl 5,oC 116 [68,69,71],of 12 8,os 2 73 67,of 14 8,os 2 74 72]) (sq [rg 76 [oB .eql 43 10,o1 75],ci 75 (dg 77 [om 7,of 1 2,mM [1],no,om 7,nA 3 79,nf 2,mM [1],no,of 4 3,mM [1,2],no,nI 2 0,nf 0,mM [1,2],no,of 16 8,os 1 89 77,of 1 8,os 1 90 83,of 17 8,os 1 91 88])])])])],rg 92 [ol 18 8,o2 18 4,oV 5 (.bool ab)],.ret]) [.cell 4 ab 18,.tmp 5] 93:=aV func58
def Ad(s:aN)(c:az):V:=.bt [.agg (if kn s c then mN s c else .zero).enc,.bool (kn s c)]
def afi(s:aN)(c:az)(hs:s.ok)(hg:TZ D)(kg:D.b9 0=aa gC)(hn:c.an.length+1<=aK)(hp:c.bA.length+1<=aK)(hl:c.left.cI<=100000)(hr:c.right.cI<=100000)(qA:c.left.wt<=aK)(xy:c.right.wt<=aK):
 a7 58 [.agg s.enc,.agg c.enc] D (Ad s c):=by
 have no:∀(t:List V) (lo:List (List V)),kn s c=ak->n8 (λv σ' => v=Ad s c/\σ' = D) ⟨t,lo,D⟩ (.bt [.agg (cN 0 0 (.sl .ba 10 []) .zero (.sl .ba 10 []) 0 (.sl .ba 10 []) 0 0 []),.bool ak]):=λt lo h=>by
  refine aL (by simp only[V.cY,bO,wH];exact GL rfl rfl rfl) (af.bg _) ⟨?_,rfl⟩;rw[Ad,h];simp only[V.erase,aX,GK];rfl
 have yes:∀(t:List V) (lo:List (List V)) (op lat:Int) (cd:V) (to:bN) (fa:V) (ta:Int) (fb:V) (tb v:Int) (f:List UInt8),kn s c=ab->cd.cY=ab->fa.cY=ab->fb.cY=ab->cN op lat cd.erase to fa.erase ta fb.erase tb v f=(mN s c).enc->n8 (λv σ' => v=Ad s c/\σ' = D) ⟨t,lo,D⟩ (.bt [.agg (cN op lat cd to fa ta fb tb v f),.bool ab]):=λt lo op lat cd to fa ta fb tb v f h n1 n2 n3 hx=>by
  refine aL (by simp only[V.cY,bO,wH];exact GL n1 n2 n3) (af.bg _) ⟨?_,rfl⟩;rw[Ad,h];simp only[V.erase,aX,GK,hx];rfl
 refine aiY.aT ?_;simp only[aS,am,aZ,Nat.reduceAdd,aN.au,kf,cD,fk]
 by_cases o1:c.op<8
 .simp only[am,l_,aJ o1];exact no _ _ (by simp[kn];omega)
 simp only[am,fk,aI o1]
 by_cases o2:10<c.op
 .simp only[am,l_,aJ o2];exact no _ _ (by simp[kn];omega)
 simp only[am,cD,aI o2];refine cl (acE c kg hn hp qA xy) ?_;cases hq:c.fS with
 | false =>
  simp only[am,l_];exact no _ _ (by simp[kn,hq])
 | true =>
  simp only[am,aN.au,cD];refine cl (SC s c hs hg hl hr qA xy) ?_;simp only[am,aQ.au]
  by_cases hf:(jF s c).cls=0
  case neg =>
   simp only[am,l_,aI hf];exact no _ _ (by simp[kn,hf])
  have hA:kn s c=true:=by simp only[kn,hq,hf,bL,wH,bF,cn];omega
  have hF:=M5.1 hA;simp only[am,aN.au,eC,aJ hf];refine cl (wv s c.name.aq D hs.1 hs.2.1) ?_;simp only[am,Nat.reduceAdd,l_,fk,Ae (op:=c.op) (lat:=dJ (i_ s.bz c.name.aq)) (c:=.sl .ba 10 []) (to:=.zero) (fa:=.sl .ba 10 []) (ta:=0) (fb:=.sl .ba 10 []) (tb:=0) (v:=0) (f:=[]) rfl rfl rfl]
  by_cases h8:c.op=8
  .simp only[am,aN.au,Nd.au,eC,aJ h8];obtain⟨k,hk,aC⟩:=hF.c8 (.inl h8);have kh : dJ (i_ s.bz c.name.aq)=(k:Nat):=hk;rw[kh];refine cl (ab3 s k c.left hg hs qA (by omega)) ?_;simp only[am,aN.au,l_,Nd.au,eC,KK];refine cl (Su s k c.right hs hg aC ?_ (by omega) xy) ?_
   .rcases hF.right h8 with h | h
    .exact .inl h
    .exact .inr (by rw[Fb (hF.labels h8).2 h];omega)
   simp only[am,bN.au,l_,Ae (op:=c.op) (lat:=k) (c:=.sl .no 10 (((nq s k c.left).getD []).map bB.enc)) (to:=rW s k c.right) (fa:=.sl .ba 10 []) (ta:=0) (fb:=.sl .ba 10 []) (tb:=0) (v:=0) (f:=[]) rfl rfl rfl];refine yes _ _ _ _ _ _ _ _ _ _ _ _ hA rfl rfl rfl ?_;rw[mN,aE h8,hk,h8];rfl
  simp only[am,aI h8]
  by_cases h9:c.op=9
  .simp only[am,aN.au,Nd.au,eC,aJ h9];obtain⟨k,hk,aC⟩:=hF.c8 (.inr h9);have kh : dJ (i_ s.bz c.name.aq)=(k:Nat):=hk;rw[kh];obtain⟨q1,q2⟩:=hF.rows h9;refine bE.intro (S3 s k c.left hs hg aC (I5 q1) (Xb q1) (by omega) qA) ?_;simp only[am,aN.au,Nd.au,eC];refine bE.intro (S3 s k c.right hs hg aC (I5 q2) (Xb q2) (by omega) xy) ?_;simp only[am,aN.au,fp.au,l_,eC,Ae (op:=c.op) (lat:=k) (c:=.sl .ba 10 []) (to:=.zero) (fa:=.sl .no 10 ((mZ s k c.left).fs.map b8.enc)) (ta:=(mZ s k c.left).tail) (fb:=.sl .no 10 ((mZ s k c.right).fs.map b8.enc)) (tb:=(mZ s k c.right).tail) (v:=0) (f:=[]) rfl rfl rfl];refine yes _ _ _ _ _ _ _ _ _ _ _ _ hA rfl rfl rfl ?_;rw[mN,aA h8,aE h9,hk,h9];rfl
  have jt:c.op=10:=by omega
  simp only[am,aN.au,aI h9,aJ jt];obtain⟨v,hv,H6,tz⟩:=hF.var jt;obtain⟨w,hw,_⟩:=hF.one jt;rw[H6];simp only[Int.reduceNeg,dJ];refine ix (F4 hv) ?_;simp only[am,Int.reduceNeg,aN.au,eC];have H7:0<c.an.length:=by rw[hw];simp
  refine qD (n:=0) (by omega) (BI (l:=c.an) (j:=0) H7) ?_;simp only[am,Int.reduceNeg,x_,aN.au,l_,eC,Ae (op:=c.op) (lat:=s.vars[v].lat) (c:=.sl .ba 10 []) (to:=.zero) (fa:=.sl .ba 10 []) (ta:=0) (fb:=.sl .ba 10 []) (tb:=0) (v:=v) (f:=c.an[0].aq) rfl rfl rfl];refine yes _ _ _ _ _ _ _ _ _ _ _ _ hA rfl rfl rfl ?_;rw[mN,aA h8,aA h9,H6,YR,cS hv,r9 H7,jt];rfl
theorem ajB:cg 1 (r7.drop 1)=true:=rfl
def ajC:setAt r7 1 [.sl .no 1 (cX l)]=(⟨0,l,.zero⟩:bw).enc:=by
 rw[bw.enc,show r7 = .int .i64 0::.sl .ba 1 []::Rl.zero.enc by rw[<-Rl.xR];rfl,ka,mC,p8,mU]
section
variable {f:bw}
theorem afm:cg 1 f.enc=true:=rfl
def afp{k:Int}:over f.enc [.int .i64 k]=(⟨k,f.an,f.rel⟩:bw).enc:=by rw[bw.enc,p8,mU];rfl
def afo:cg 65 (f.enc.drop 2)=true:=Rl.gV
def afr{r:Rl}:setAt f.enc 2 r.enc=(⟨f.kind,f.an,r⟩:bw).enc:=by rw[bw.enc,ka,ka,mC,Rl.gv];rfl
def D_:=ah @ajB <| ah @ajC <| ah @afm <| ah @afp <| ah @afo <| ah @afr @bw.Zn
end
def ai2:aU prog 73 (sq [rg 2 [oz 2],rg 3 [om 0,nB .geq 1,gA,om 0,nB .leq 5,gZ,o1 2],.ret]) [.tmp 2] 9:=aV func73
def ai4:aU prog 75 (sq [rg 2 [oz 2],rg 3 [om 0,nB .eql 6,gB,om 0,nB .eql 7,gZ,o1 2],.ret]) [.tmp 2] 9:=aV func75
def afV:aU prog 103 (sq [rg 6 [om 0,mk 0,nf 2,nf 2,nF 0,oC 171 [6,12],o1 5,oe 5 0,oe 5 1,ot 2 14,o1 3],rg 16 [mk 0,nf 2,nf 2,nF 1,o1 4],sq [rg 22 [mk 0,nf 2,nF 0,oC 73 [26]],cr 27 28 [om 0,om 3,om 4,oc 172 [.s 28,.s 29,.c (.int .i64 3),.s 30]]],rg 32 [om 0,om 3,nn,om 4,oc 172 [.s 32,.s 34,.c (.int .i64 3),.s 35]],rg 37 [om 0,om 3,gA,om 2,nn,gZ,om 4,oc 172 [.s 37,.s 42,.c (.int .i64 4),.s 43]]]) [] 45:=aV func103
def afW:aU prog 104 (sq [rg 8 [mk 0,nf 2,nF 4,oC 138 [12],o1 2],rg 14 [mk 0,nf 2,nF 4,nL,oi 0],lp 19 0 (sq [rg 22 [om 20,oA 2 18 20,nl 2,oZ 4 [1,0],ot 3 22,o2 2 4],rg 26 [om 0,fo 0 4,oC 171 [26,28],o1 25,oe 25 0,oe 25 1,ot 5 30,o1 6],sq [rg 32 [mk 0,nf 2,nF 0,nB .eql 3],ci 37 (sq [rg 38 [om 0,om 6,nn,fo 1 4,oc 172 [.s 38,.s 40,.c (.int .i64 3),.s 42]],rg 44 [om 0,om 6,gA,om 5,nn,gZ,fo 1 4,oc 172 [.s 44,.s 49,.c (.int .i64 4),.s 51]],(.exit 1)])],dg 53 [om 2,om 3,oq (.kV 1 (.s 53) ag (aa (.s 54)) ag),fo 0 4,oC 173 [55,57],nB .geq 0,o1 7],dg 60 [om 0,om 7,nm,oh 62 (om 0),oh 62 (nk),oh 62 (nf 2),oh 62 (nf 0),oh 62 (no),oh 62 (oC 75 [67]),oh 62 (nm),og 69 (om 6),oh 62 (oy 69 70),oq (.pick (.s 62) (.c (.bool ab)) (.s 71)),of 1 4,mM [0],no,oc 172 [.s 60,.s 72,.c (.int .i64 3),.s 74]]]) 76]) [] 77:=aV func104
def agJ:aU prog 171 (sq [rg 4 [oz 2,oz 2],rg 9 [mk 0,nf 0,nl 2,om 1,oC 76 [12,13],o1 8,oe 8 0,oe 8 1,ot 6 15,o1 7],rg 17 [om 6,nB .geq 0,om 6,nB .geq 0,gB,om 7,nB .geq 0,gZ,ot 4 18,o1 5],.ret]) [.tmp 4,.tmp 5] 25:=aV func171
def agK:aU prog 172 (sq [rg 8 [om 1],ci 8 (rg 9 [om 0,mk 0,nF 19,om 2,om 3,oW [0,0] [(0,1,14),(1,1,15)],n1 2,na 2 13,ok 9,nf 19,os 1 20 18])]) [] 21:=aV func172
def rC(D:af)(b Z:Nat)(l:List aQ)(s:aN)(c:az)(x y:Int)(is:Bool)(hl:l.length<=100000000) :
 dS 172 [.ptr (.out b) 0,.bool is,.int .i64 x,.int .i64 y] (eX D b Z l s c) (.bt []) (eX D b Z (l++ek is x y) s c):=by
 refine agK.aT ?_;simp only[aS,am,aZ,Nat.reduceAdd];cases is with
 | false =>
  simp only[am];exact aL rfl (af.bg _) ⟨rfl,by simp[ek]⟩
 | true =>
  simp only[am,Nat.reduceAdd,jI];refine iy (by simp[aK];omega) (by rw[aR];exact UT) ?_;simp only[am,aR,aR,jI,gM,alS];exact aL rfl (af.bg _) ⟨rfl,by simp[ek]⟩
variable{o:Option Nat}
def N3:decide (0<=dJ o)=o.isSome:=by cases o<;>simp[dJ]
def apN:decide (dJ o<0)=o.isNone:=by cases o with
 | none=>rfl
 | some k=>exact aI (by simp only[dJ];omega)
def UN(D:af)(b Z:Nat)(l:List aQ)(s:aN)(c:az)(t:List UInt8)(hs:s.ok) :
 dS 171 [.ptr (.out b) 0,.aF t] (eX D b Z l s c) (.bt [.bool (tC s t),.bool (iC s t)]) (eX D b Z l s c):=by
 refine agJ.aT ?_;simp only[aS,am,aZ,Nat.reduceAdd,aN.au,jI];refine cl (wv s t _ hs.1 hs.2.1) ?_;simp only[am,N3];cases hL:(i_ s.bz t).isSome with
 | true =>
  simp only[am];refine aH ?_;simp[V.erase,aX,tC,iC,hL]
 | false =>
  simp only[am,N3];refine aH ?_;simp[V.erase,aX,tC,iC,hL]
def Ni(op:Int)(D:af):a7 73 [.int .i64 op] D (.bool (lr op)):=by
 refine ai2.aT ?_;simp only[aS,am,aZ,Nat.reduceAdd]
 by_cases h:1<=op
 .simp only[am,aJ h];refine aH ?_;simp[V.erase,lr,h]
 .simp only[am,aI h];refine aH ?_;simp[V.erase,lr,h]
def F1(op:Int)(D:af):a7 75 [.int .i64 op] D (.bool (mF op)):=by
 refine ai4.aT ?_;simp only[aS,am,aZ,Nat.reduceAdd]
 by_cases h:op=6
 .simp only[am,aJ h];refine aH ?_;simp[V.erase,mF,h]
 .simp only[am,aI h];refine aH ?_;simp[V.erase,mF,h]
def alF(D:af)(b Z:Nat)(l:List aQ)(s:aN)(c:az)(hs:s.ok)(hl:l.length<=90000000) :
 dS 103 [.ptr (.out b) 0] (eX D b Z l s c) (.bt []) (eX D b Z (l++sd s c) s c):=by
 refine afV.aT ?_;simp only[aS,am,aZ,Nat.reduceAdd,jI];refine cl (UN D b Z l s c c.name.aq hs) ?_;simp only[am,Nat.reduceAdd,jI];refine cl (Ni c.op _) ?_;cases h5:lr c.op with
 | true =>
  simp only[am];refine cl (rC D b Z l s c 3 c.name.pos (iC s c.name.aq) (by omega)) ?_;simp only[am];exact aL rfl (af.bg _) ⟨rfl,by rw[sd,aE h5]⟩
 | false =>
  have e:sd s c=ek (!iC s c.name.aq) 3 c.name.pos++ek (iC s c.name.aq&&!tC s c.name.aq) 4 c.name.pos:=by rw[sd,h5];rfl
  have hlen:=@sG (!iC s c.name.aq) 3 c.name.pos;simp only[am];refine cl (rC D b Z l s c 3 c.name.pos (!iC s c.name.aq) (by omega)) ?_;cases hv:iC s c.name.aq with
  | true =>
   rw[hv] at hlen e;simp only[am];refine cl (rC D b Z (l++ek (!ab) 3 c.name.pos) s c 4 c.name.pos (!tC s c.name.aq) (by rw[bP];omega)) ?_;simp only[am];exact aL rfl (af.bg _) ⟨rfl,by rw[e,e9,lD];rfl⟩
  | false =>
   rw[hv] at hlen e;simp only[am];refine cl (rC D b Z (l++ek (!ak) 3 c.name.pos) s c 4 c.name.pos ak (by rw[bP];omega)) ?_;simp only[am];exact aL rfl (af.bg _) ⟨rfl,by rw[e,e9,PY];rfl⟩
def alI(D:af)(b Z:Nat)(l:List aQ)(s:aN)(c:az)(hs:s.ok)(hl:l.length<=80000000)(hn:c.an.length<=100000) :
 dS 104 [.ptr (.out b) 0] (eX D b Z l s c) (.bt []) (eX D b Z (l++lS s c c.an.length) s c):=by
 refine afW.aT ?_;simp only[aS,am,aZ,Nat.reduceAdd,jI];refine cl (Jf c.an _ (by omega)) ?_;simp only[am,Nat.reduceAdd,aR,aR,jI];have hw:(dX c.an).length=c.an.length:=BK;refine dK (c.an.length) (λi (x:Unit)=>⟨[.ptr (.out b) 0,.any,.sl .no 1 (cX (dX c.an)),.any,.any,.any,.any,.any,.any,.any,.any,.any,.any,.any,.any,.any,.any,.any,.sl .no 2 (c.an.map aB.enc),.int .i64 (c.an.length:Nat),.int .i64 (i:Nat)]++ar 56 .any,[],eX D b Z (l++lS s c i) s c⟩) (λi x=>(True)) λF hF JF bn=>⟨?_,?_,?_⟩
 .refine en bn (()) (trivial) ?_ ?_ ?_
  all_goals simp[hF,ar,am,bT,lS]
 .rintro i x hi -;have hN:=@NS s c i;have hS:=@VV s c i;have hg:c.an.getD i ⟨[],0⟩=c.an[i]:=by simp[ij,hi]
  simp only[hF,ar,am,dD hi];refine ix (BI hi) ?_;simp only[am,aB.au,x_];refine cl (UN D b Z (l++lS s c i) s c c.an[i].aq hs) ?_;simp only[am,jI]
  by_cases h3:c.op=3
  .have e:tG s c i=ek (!iC s c.an[i].aq) 3 c.an[i].pos++ek (iC s c.an[i].aq&&!tC s c.an[i].aq) 4 c.an[i].pos:=by rw[tG];simp only[hg];rw[aE h3]
   have hlen:=@sG (!iC s c.an[i].aq) 3 c.an[i].pos;simp only[am,tQ,aJ h3];refine cl (rC D b Z (l++lS s c i) s c 3 c.an[i].pos (!iC s c.an[i].aq) (by rw[bP];omega)) ?_;cases hv:iC s c.an[i].aq with
   | true =>
    rw[hv] at hlen e;simp only[am,tQ];refine cl (rC D b Z (l++lS s c i++ek (!ab) 3 c.an[i].pos) s c 4 c.an[i].pos (!tC s c.an[i].aq) (by simp only[bP];omega)) ?_;simp only[am,a_,reduceCtorEq,cG hi];rw[lD] at e;refine fK (()) hi ?_ ?_ ?_ ?_ ?_ ?_
    .exact eU (bn _ _) (trivial)
    all_goals simp[hF,ar,am,bT,bR,dw,V.lo,hS,e]
   | false =>
    rw[hv] at hlen e;simp only[am,tQ];refine cl (rC D b Z (l++lS s c i++ek (!ak) 3 c.an[i].pos) s c 4 c.an[i].pos ak (by simp only[bP];omega)) ?_;simp only[am,a_,reduceCtorEq,cG hi];rw[PY] at e;refine fK (()) hi ?_ ?_ ?_ ?_ ?_ ?_
    .exact eU (bn _ _) (trivial)
    all_goals simp[hF,ar,am,bT,bR,dw,V.lo,hS,e]
  .have e:tG s c i=ek ((iL ((dX c.an).take i) c.an[i].aq).isSome||(mF c.op&&iC s c.an[i].aq)) 3 c.an[i].pos:=by rw[tG];simp only[hg];rw[aA h3]
   simp only[am,cV,aI h3];refine Yf (b:=i) (by rw[ia];omega) ?_;rw[XC];simp only[am,x_];refine bE.intro (w9 ((dX c.an).take i) c.an[i].aq _ (by rw[jj];omega)) ?_;simp only[am,N3];cases hf:(iL ((dX c.an).take i) c.an[i].aq).isSome with
   | true =>
    rw[hf] at e;simp only[am,tQ];refine bE.intro (rC D b Z (l++lS s c i) s c 3 c.an[i].pos ab (by rw[bP];omega)) ?_;simp only[am,a_,tQ,cG hi];rw[Bool.true_or] at e;refine fK (()) hi ?_ ?_ ?_ ?_ ?_ ?_
    .exact eU (bn _ _) (trivial)
    all_goals simp[hF,ar,am,bT,bR,dw,V.lo,hS,e]
   | false =>
    rw[hf,Gc] at e;simp only[am,jI];refine bE.intro (F1 c.op _) ?_;cases hv:mF c.op with
    | true =>
     rw[hv,lD] at e;simp only[am,tQ];refine bE.intro (rC D b Z (l++lS s c i) s c 3 c.an[i].pos (iC s c.an[i].aq) (by rw[bP];omega)) ?_;simp only[am,a_,tQ,cG hi];refine fK (()) hi ?_ ?_ ?_ ?_ ?_ ?_
     .exact eU (bn _ _) (trivial)
     all_goals simp[hF,ar,am,bT,bR,dw,V.lo,hS,e]
    | false =>
     rw[hv,PY] at e;simp only[am,tQ];refine bE.intro (rC D b Z (l++lS s c i) s c 3 c.an[i].pos ak (by rw[bP];omega)) ?_;simp only[am,a_,tQ,cG hi];refine fK (()) hi ?_ ?_ ?_ ?_ ?_ ?_
     .exact eU (bn _ _) (trivial)
     all_goals simp[hF,ar,am,bT,bR,dw,V.lo,hS,e]
 .rintro x -;simp only[hF,ar,am,a_,dY,a_];exact aL rfl (af.bg _) ⟨rfl,rfl⟩
def aiU:aU prog 54 (sq [rg 0 [ox 2 2 0,ox 3 17 1,oZ 4 [0,0]],sq [rg 6 [fo 0 3,oC 73 [7],nn,gA,fo 0 3,oC 75 [12],nn,gZ],cr 15 16 [oW [0,0] [],o2 2 4]],rg 17 [ol 2 2,ol 17 3,oW [8,8,0,0,1,0,7,9,0,0,0,1,7,10,0,0,1,7,10,7] [(0,2,17),(2,17,18)],oq (.gO 20 (.s 19)),o1 5],.qf (rg 21 [om 5,oC 103 [21]]),rg 23 [om 5,oC 104 [23]],rg 25 [om 5,oC 105 [25]],rg 27 [om 5,oC 106 [27]],rg 29 [mk 5,nF 19,oC 57 [32],o2 2 4],.ret]) [.cell 4 ab 2] 34:=aV func54 ⟨[20],[4]⟩
def afX:aU prog 105 (sq [rg 0 [od (aa 1) (.gO 1 (.s 0))],rg 6 [oo 1,nk,nf 2,nF 4,oC 138 [10],od (aa 2) (.qm [(.sl .ba 1 [])]),o2 1 2],rg 12 [oq (.ko (.func 174) [] [(.s 1),(.s 2)]),o1 3],sq [rg 13 [oo 1,nk,nf 2,nF 5,nL,oi 0],lp 18 0 (sq [rg 21 [oA 4 17 19,nl 4,oZ 5 [1,0,1,0],o2 4 5],rg 23 [om 3,oQ 2 2 5 0,nl 2,oq (.iX (.s 23) [(.s 25)])],rg 27 [om 3,oQ 2 2 5 1,nl 2,oq (.iX (.s 27) [(.s 29)])]]) 31],rg 32 [oo 1,nk,nf 2,nF 0,nB .eql 5,gA,oo 2,nL,nB .leq 64,gZ],ci 42 (dg 43 [mM [1,2],oo 1,oo 1,nk,nf 2,nl 17,oC 139 [47],oC 175 [48],nn,mM [0,1],oo 1,nk,nf 2,nf 6,mM [0,1],no,oc 172 [.s 43,.s 50,.c (.int .i64 5),.s 55]])]) [] 57:=aV func105 ⟨[1,2],[]⟩
def afY:aU prog 106 (sq [rg 4 [mk 0,nf 2,nF 4,nL,o1 2,oj 3 64],sq [rg 10 [mk 0,nf 2,nF 0],.block 0 (sq [sq [rg 16 [oB .eql 14 6,o1 15],cd 15 .skip (rg 17 [oB .eql 14 7,o1 15])],cd 15 (sq [dg 18 [om 0,om 2,mk 0,nf 0,nF 1,nL,oq (.eW .sub (.c (.int .i64 64)) (.s 25)),nb .gtr 19,mk 0,nf 2,nF 1,oc 172 [.s 18,.s 27,.c (.int .i64 7),.s 32]],.ret]) (sq [rg 35 [oB .eql 14 4,o1 34],cd 34 (rg 3 [oi 8]) (sq [rg 37 [oB .eql 14 3,o1 36],ci 36 (dg 38 [mk 0,nf 0,nl 2,mk 0,nf 2,nl 17,oC 140 [41,45],ow 1 46,nL,o1 2,oj 3 8])])])])],dg 49 [om 0,om 2,om 3,nb .gtr 50,gB,mk 0,nf 0,nF 0,nL,nB .geq 16,gZ,mk 0,nf 2,nF 1,oc 172 [.s 49,.s 61,.c (.int .i64 7),.s 66]]]) [] 68:=aV func106
def agM:aU prog 174 (sq [rg 0 [ox 3 2 0],dg 4 [mM [1],oo 1,oo 2,fo 0 3,oC 173 [5,7],nB .lss 0,of 1 3,mM [0],no,oc 172 [.s 4,.s 9,.c (.int .i64 3),.s 11]]]) [] 13:=aV func174
def UO(D:af)(b Z b1 b2:Nat)(l:List aQ)(s:aN)(c:az)(w:aB)(n1:b1≠b)(n2:b2≠b)(h1:D.box b1=aa [.ptr (.out b) 0])(h2:D.box b2=aa [.sl .no 1 (cX (dX c.an))])(hl:l.length<=90000000)(hn:c.an.length<=100000) :
 dS 174 [.agg w.enc,.ptr (.out b1) 0,.ptr (.out b2) 0] (eX D b Z l s c) (.bt []) (eX D b Z (l++tH c w) s c):=by
 have e1:(eX D b Z l s c).box b1=aa [.ptr (.out b) 0]:=by rw[xF n1];exact h1
 have e2:(eX D b Z l s c).box b2=aa [.sl .no 1 (cX (dX c.an))]:=by rw[xF n2];exact h2
 refine agM.aT ?_;simp only[aS,am,aZ,Nat.reduceAdd,aB.au];simp only[am,x_,e1,e2];refine bE.intro (w9 (dX c.an) w.aq _ (by rw[BK];omega)) ?_;simp only[am,tQ,apN];refine bE.intro (rC D b Z l s c 3 w.pos (iL (dX c.an) w.aq).isNone (by omega)) ?_;simp only[am,tQ,e1];exact aL rfl (af.bg _) ⟨rfl,rfl⟩
variable{i:Nat}
def aqX{c:az}(hi:i<c.bA.length):(c.bA.take (i+1)).flatMap (qN c)=(c.bA.take i).flatMap (qN c)++(tH c c.bA[i].1++tH c c.bA[i].2):=by rw[jl hi,zS];simp[qN]
def alR(D:af)(b Z:Nat)(l:List aQ)(s:aN)(c:az)(hg:TZ D)(hl:l.length<=80000000)(hn:c.an.length<=100000)(hp:c.bA.length<=100000) :
 dS 105 [.ptr (.out b) 0] (eX D b Z l s c) (.bt []) (eX D b Z (l++tM c++rF c) s c):=by
 have fresh:∀{x:Nat} {dz:af},(eX dz b Z l s c).box x=ag->x≠b:=λ{x dz} h=>by rintro rfl;rw[M7] at h;simp at h
 refine afX.aT ?_;simp only[aS,am,aZ,Nat.reduceAdd];intro b1 e_;have n1:=fresh e_;rw[xF n1] at e_;simp only[am,Nat.reduceAdd];rw[US n1];have e1:(eX (D.set b1 [.ptr (.out b) 0]) b Z l s c).box b1=aa [.ptr (.out b) 0]:=by rw[xF n1,jh]
 simp only[am,jI];refine cl (Jf c.an _ (by omega)) ?_;simp only[am];intro b2 ec;have n2:=fresh ec;rw[xF n2] at ec;have NL:b1≠b2:=by rintro rfl;rw[jh] at ec;simp at ec
 rw[qS NL.symm] at ec;simp only[am];rw[US n2];have f1:((D.set b1 [.ptr (.out b) 0]).set b2 [.sl .no 1 (cX (dX c.an))]).box b1=aa [.ptr (.out b) 0]:=by rw[qS NL,jh]
 have f2:((D.set b1 [.ptr (.out b) 0]).set b2 [.sl .no 1 (cX (dX c.an))]).box b2=aa [.sl .no 1 (cX (dX c.an))]:=jh;have qy:∀{L:List aQ},(eX D b Z L s c).sub (eX ((D.set b1 [.ptr (.out b) 0]).set b2 [.sl .no 1 (cX (dX c.an))]) b Z L s c):=λ{L}=>af.Dn (UR n1 e_) (UR n2 (by rw[qS NL.symm];exact ec))
 generalize wa:(D.set b1 [V.ptr (Pl.out b) 0]).set b2 [V.sl .no 1 (cX (dX c.an))]=fc at f1 f2 qy;have xk:TZ fc:=by rw[<-wa];exact hg
 have g1:∀{L:List aQ},(eX fc b Z L s c).box b1=aa [.ptr (.out b) 0]:=λ{L}=>by rw[xF n1];exact f1
 have g2:∀{L:List aQ},(eX fc b Z L s c).box b2=aa [.sl .no 1 (cX (dX c.an))]:=λ{L}=>by rw[xF n2];exact f2
 simp only[am,Nat.reduceAdd,aR,aR,jI,g1];have hP:=λ(i:Nat)=>@WJ c (c.bA.take i)
 refine dK (c.bA.length) (λi (x:Unit)=>⟨[.any,.ptr (.out b1) 0,.ptr (.out b2) 0,.fn (.func 174) [] [.ptr (.out b1) 0,.ptr (.out b2) 0],.any,.any,.any,.any,.any,.any,.any,.any,.any,.any,.any,.any,.any,.sl .no 4 (c.bA.map fL),.int .i64 (c.bA.length:Nat),.int .i64 (i:Nat)]++ar 37 .any,[],eX fc b Z (l++(c.bA.take i).flatMap (qN c)) s c⟩) (λi x=>(True)) λF hF JF bn=>⟨?_,?_,?_⟩
 .exact en bn (()) (trivial)
 .rintro i x hi -;have hPi:=hP i;rw[jj] at hPi;have hS:=aqX hi;have rr:(tH c c.bA[i].1).length<=1:=sG;simp only[hF,ar,am,dD hi];refine ix (Wt hi) ?_;simp only[am,cV,Nat.reduceAdd,fL];refine km ?_;simp only[am,Int.reduceToNat,Nat.reduceMul];refine cl (UO fc b Z b1 b2 (l++(c.bA.take i).flatMap (qN c)) s c c.bA[i].1 n1 n2 f1 f2 (by rw[bP];omega) hn) ?_;simp only[am,cV];refine km ?_;simp only[am,Int.reduceToNat,Nat.reduceMul];refine cl (UO fc b Z b1 b2 (l++(c.bA.take i).flatMap (qN c)++tH c c.bA[i].1) s c c.bA[i].2 n1 n2 f1 f2 (by simp only[bP];omega) hn) ?_;simp only[am,a_,cG hi];refine fK (()) hi ?_ ?_ ?_ ?_ ?_ ?_
  .exact eU (bn _ _) (trivial)
  all_goals simp[hF,ar,am,bT,bR,dw,V.lo,hS]
 .rintro x -;have TA:=hP c.bA.length;rw[jj] at TA;have hw:((dX c.an).length:Int)=(c.an.length:Nat):=by rw[BK]
  have Uf:(l++tM c).length<=90000000:=by rw[bP,tM];rw[fm] at TA;omega
  simp only[hF,ar,am,a_,dY,a_,jI,fm,g1];have no:rF c=[]->eX D b Z (l++tM c++rF c) s c=eX D b Z (l++tM c) s c:=λh=>by rw[h,eK]
  by_cases h5:c.op=5
  case neg =>
   simp only[am,aI h5];exact aL rfl qy ⟨rfl,(no (by rw[rF,aA λh=>h5 h.1])).symm⟩
  simp only[am,ia,aJ h5,g2,hw]
  by_cases Cn:c.an.length<=64
  case neg =>
   simp only[am,aI (show ¬((c.an.length:Nat):Int)<=64 by omega)];exact aL rfl qy ⟨rfl,(no (by rw[rF,aA λh=>Cn h.2])).symm⟩
  have e:rF c=ek (!sv (tN c)) 5 c.nP:=by rw[rF,aE ⟨h5,Cn⟩]
  simp only[am,jI,aJ (show((c.an.length:Nat):Int)<=64 by omega),g1,cD];refine bE.intro (OB c _ (by omega) (by omega)) ?_;simp only[am,Rl.au];refine bE.intro (U4 (tN c) xk) ?_;simp only[am,Nat.reduceAdd,jI,g1];refine bE.intro (rC fc b Z (l++tM c) s c 5 c.nP (!sv (tN c)) (by omega)) ?_;simp only[am,jI,g1];rw[<-e];exact aL rfl qy ⟨rfl,rfl⟩
def alG(D:af)(b Z:Nat)(l:List aQ)(s:aN)(c:az)(hs:s.wj)(hl:l.length<=90000000)(hn:c.an.length<=100000) :
 dS 106 [.ptr (.out b) 0] (eX D b Z l s c) (.bt []) (eX D b Z (l++mS s c) s c):=by
 have h1:=hs.1.1;have h2:=hs.1.2.1;have YU:IntKind.i64.wrap (64 - (s.vars.length:Int))=64 - (s.vars.length:Nat):=wrap_i64 (by omega) (by omega);refine afY.aT ?_;simp only[aS,am,aZ,Nat.reduceAdd,aR,jI];have qx:(c.op=6\/c.op=7)->(decide (c.op=6)=ab)\/(decide (c.op=6)=ak/\decide (c.op=7)=ab):=λh=>by
  by_cases k:c.op=6
  .exact .inl (aJ k)
  .exact .inr ⟨aI k,aJ (h.resolve_left k)⟩
 by_cases xd:c.op=6\/c.op=7
 .have e:mS s c=ek (decide ((64:Int) - (s.vars.length:Nat)<(c.an.length:Nat))) 7 c.pos:=by rw[mS,aE xd]
  rcases qx xd with k | ⟨k,k2⟩
  case' inl=>simp only[am,Nat.reduceAdd,aR,aR,jI,k,YU]
  case' inr=>simp only[am,Nat.reduceAdd,aR,aR,jI,k,k2,YU]
  all_goals
   refine bE.intro (rC D b Z l s c 7 c.pos (decide ((64:Int) - (s.vars.length:Nat)<(c.an.length:Nat))) (by omega)) ?_;simp only[am];exact aL rfl (af.bg _) ⟨rfl,by rw[e]⟩
 have e0:mS s c=ek (decide ((if c.op=3 then(8:Int) else if c.op=4 then 8 else 64)<((if c.op=3 then(qO s c).bQ.length else c.an.length):Nat))||decide (16<=s.bz.length)) 7 c.pos:=by rw[mS,aA xd]
 have KT:decide ((16:Int)<=(s.bz.length:Nat))=decide (16<=s.bz.length):=sV.2 (by omega);simp only[am,aI (λh=>xd (.inl h)),aI (λh=>xd (.inr h))];have fin:∀(n:Nat) (m:Int),mS s c=ek (decide (m<(n:Nat))||decide (16<=s.bz.length)) 7 c.pos->∀B:Bool,B=(decide (m<(n:Nat))||decide (16<=s.bz.length)) ->
  dS 172 [.ptr (.out b) 0,.bool B,.int .i64 7,.int .i64 c.pos] (eX D b Z l s c) (.bt []) (eX D b Z (l++mS s c) s c):=λn m e B hB=>by
  rw[e,hB];exact rC D b Z l s c 7 c.pos _ (by omega)
 by_cases h4:c.op=4
 .have e:mS s c=ek (decide ((8:Int)<(c.an.length:Nat))||decide (16<=s.bz.length)) 7 c.pos:=by rw[e0,aA (by omega),aE h4,aA (by omega)]
  simp only[am,aJ h4];cases hb:decide ((8:Int)<(c.an.length:Nat)) with
  | true =>
   simp only[am,Nat.reduceAdd,jI];refine bE.intro (fin _ _ e ab (by rw[hb];rfl)) ?_;simp only[am];exact aL rfl (af.bg _) ⟨rfl,rfl⟩
  | false =>
   simp only[am,Nat.reduceAdd,aR,aR,jI,KT];refine bE.intro (fin _ _ e (decide (16<=s.bz.length)) (by rw[hb];rfl)) ?_;simp only[am];exact aL rfl (af.bg _) ⟨rfl,rfl⟩
 simp only[am,aI h4]
 by_cases h3:c.op=3
 .have e:mS s c=ek (decide ((8:Int)<((qO s c).bQ.length:Nat))||decide (16<=s.bz.length)) 7 c.pos:=by rw[e0,aE h3,aE h3]
  simp only[am,aN.au,jI,aJ h3,cD];refine bE.intro (WH s c _ hs hn) ?_;simp only[am,aR,bC.au,aR];cases hb:decide ((8:Int)<((qO s c).bQ.length:Nat)) with
  | true =>
   simp only[am,Nat.reduceAdd,jI];refine bE.intro (fin _ _ e ab (by rw[hb];rfl)) ?_;simp only[am];exact aL rfl (af.bg _) ⟨rfl,rfl⟩
  | false =>
   simp only[am,Nat.reduceAdd,aR,aR,jI,KT];refine bE.intro (fin _ _ e (decide (16<=s.bz.length)) (by rw[hb];rfl)) ?_;simp only[am];exact aL rfl (af.bg _) ⟨rfl,rfl⟩
 .have e:mS s c=ek (decide ((64:Int)<(c.an.length:Nat))||decide (16<=s.bz.length)) 7 c.pos:=by rw[e0,aA h3,aA h4,aA h3]
  simp only[am,aI h3];cases hb:decide ((64:Int)<(c.an.length:Nat)) with
  | true =>
   simp only[am,Nat.reduceAdd,jI];refine bE.intro (fin _ _ e ab (by rw[hb];rfl)) ?_;simp only[am];exact aL rfl (af.bg _) ⟨rfl,rfl⟩
  | false =>
   simp only[am,Nat.reduceAdd,aR,aR,jI,KT];refine bE.intro (fin _ _ e (decide (16<=s.bz.length)) (by rw[hb];rfl)) ?_;simp only[am];exact aL rfl (af.bg _) ⟨rfl,rfl⟩
def XY(s:aN)(c:az)(hs:s.wj)(hg:TZ D)(hn:c.an.length<=100000)(hp:c.bA.length<=100000):
 a7 54 [.agg s.enc,.agg c.enc] D (.agg (jO s c).enc):=by
 refine aiU.aT ?_;simp only[aS,am,aZ,Nat.reduceAdd,aN.au];simp only[am,cD,fk];refine cl (Ni c.op _) ?_;have qx:(lr c.op=ab)\/(lr c.op=ak/\mF c.op=ak)\/(lr c.op=ak/\mF c.op=ab):=by
  cases lr c.op<;>cases mF c.op<;>simp
 rcases qx with h5 | ⟨h5,h6⟩ | ⟨h5,h6⟩
 case' inl=>simp only[am,aN.au,h5,cD,UU]
 case' inr.inl =>
  simp only[am,h5,fk];refine cl (F1 c.op _) ?_;simp only[am,Nat.reduceAdd,h6];exact aL rfl (af.bg _) ⟨by rw[jO,h5,h6];rfl,rfl⟩
 case' inr.inr =>
  simp only[am,h5,fk];refine cl (F1 c.op _) ?_;simp only[am,aN.au,h6,cD,UU]
 all_goals
  have e:fI (wq s c)=jO s c:=by rw[jO,h5];first | rfl | rw[h6];rfl
  intro b hb;have hb:D.box b=none:=hb;simp only[am];refine bm.tok 0 λZ bc=>⟨_,_,(D.set b _).set b (kH Z [] s c),eZ.rfl,rfl,λi c' hc=>⟨c',hc,eZ.rfl⟩,qY.set jh (by simp[jz,kH,kJ]),?_⟩
  have bc:D.aP Z=none:=bc;rw[af.set_set,show(D.set b (kH Z [] s c)).aY Z 0=eX D b Z [] s c from rfl];have l1:=@akz s c;have l2:=@NS s c c.an.length;have l3:=@WJ c c.bA;have l4:=@apU c;have l5:=@amY s c;simp only[am];refine cl (alF D b Z [] s c hs.1 (by simp)) ?_;simp only[am,gN];refine cl (alI D b Z (sd s c) s c hs.1 (by omega) hn) ?_;simp only[am];refine cl (alR D b Z (sd s c++lS s c c.an.length) s c hg (by rw[bP];omega) hn hp) ?_;simp only[am];refine cl (alG D b Z (sd s c++lS s c c.an.length++tM c++rF c) s c hs (by simp only[bP,tM];omega) hn) ?_;simp only[am,jI];refine cl (cz.eT (as' := [.sl .no 2 ((wq s c).map aQ.enc)]) (zh (wq s c) _ (by simp only[wq,bP,tM];omega)) ⟨dT.no,trivial⟩ bK.rfl) ?_;simp only[am,aQ.au];exact aL rfl (alT hb bc) ⟨by rw[e];rfl,rfl⟩
def ai3:aU prog 74 (sq [rg 0 [ox 2 2 0,ox 3 17 1,oZ 4 [2,72]],rg 6 [fo 4 3,oC 138 [7],oY r7 [(1,1,.s 8)],oR 5 r7,o2 67 5],sq [rg 10 [fo 0 3],.block 0 (sq [rg 14 [oB .eql 11 1,o1 13],cd 13 (rg 15 [of 0 5,od ag (.store 1 (.s 15) (.c (.int .i64 1)))]) (sq [rg 17 [oB .eql 11 2,o1 16],cd 16 (rg 18 [of 0 5,od ag (.store 1 (.s 18) (.c (.int .i64 2)))]) (sq [rg 20 [oB .eql 11 4,o1 19],cd 19 (rg 21 [ol 17 3,oC 139 [21],of 0 5,od ag (.store 1 (.s 23) (.c (.int .i64 3))),of 2 5,os 65 24 22]) (sq [rg 26 [oB .eql 11 5,o1 25],cd 25 (rg 27 [ol 17 3,oC 139 [27],of 0 5,od ag (.store 1 (.s 29) (.c (.int .i64 4))),of 2 5,os 65 30 28]) (sq [rg 32 [oB .eql 11 3,o1 31],cd 31 (sq [rg 33 [ol 2 2,ol 17 3,oC 140 [33,34],o2 2 4],.ret]) (sq [rg 12 [oW [2,72] [],o2 2 4],.ret])])])])])])],rg 36 [ol 67 5,oC 141 [36],o2 2 4],.ret]) [.cell 4 ab 2] 38:=aV func74
def agf:aU prog 137 (sq [rg 0 [ox 1 2 0,oZ 2 [2,72]],rg 4 [ol 2 1,n1 2,oC 198 [5],oZ 3 [2,72],o2 2 3],rg 7 [fo 0 1,of 0 3,os 1 9 8],rg 10 [ol 2 3,o2 2 2],.ret]) [.cell 2 ab 2] 11:=aV func137
def agl:aU prog 141 (sq [rg 0 [ox 1 67 0,oZ 2 [2,72]],rg 3 [ol 67 1,oC 201 [3],n1 67,oW [2,72] [(1,1,5)],o2 2 2],.ret]) [.cell 2 ab 2] 7:=aV func141
def IN(f:bw)(D:af)(hf:f.an.length<=100000):a7 141 [.agg f.enc] D (.agg (bC.mk ak [f]).enc):=by
 refine agl.aT ?_;simp only[aS,am,aZ,Nat.reduceAdd,bw.au];refine cl (Rp f _ hf) ?_;simp only[am,Nat.reduceAdd,bw.au];exact aL rfl (af.bg _) ⟨rfl,rfl⟩
def as_(s:aN)(c:az)(D:af)(hs:s.wj)(hn:c.an.length<=100000)(hp:c.bA.length<=100000):a7 74 [.agg s.enc,.agg c.enc] D (.agg (tO s c).enc):=by
 have hw:∀(k:Int) (r:Rl),(⟨k,dX c.an,r⟩:bw).an.length<=100000:=λk r=>by simp only[BK];exact hn
 refine ai3.aT ?_;simp only[aS,am,aZ,Nat.reduceAdd,aN.au,cD,eC];refine cl (Jf c.an D hn) ?_;simp only[am,Nat.reduceAdd,bw.au,fk,D_]
 by_cases h1:c.op=1
 .simp only[am,bw.au,aJ h1,D_];refine cl (IN _ D (hw _ _)) ?_;simp only[am,bC.au];exact aL rfl (af.bg _) ⟨by rw[tO,aE h1];rfl,rfl⟩
 by_cases h2:c.op=2
 .simp only[am,bw.au,aI h1,aJ h2,D_];refine cl (IN _ D (hw _ _)) ?_;simp only[am,bC.au];exact aL rfl (af.bg _) ⟨by rw[tO,aA h1,aE h2];rfl,rfl⟩
 by_cases h4:c.op=4
 .simp only[am,cD,aI h1,aI h2,aJ h4];refine cl (OB c D hn hp) ?_;simp only[am,Rl.au,bw.au,D_];refine cl (IN _ D (hw _ _)) ?_;simp only[am,bC.au];exact aL rfl (af.bg _) ⟨by rw[tO,aA h1,aA h2,aE h4];rfl,rfl⟩
 by_cases h5:c.op=5
 .simp only[am,cD,aI h1,aI h2,aI h4,aJ h5];refine cl (OB c D hn hp) ?_;simp only[am,Rl.au,bw.au,D_];refine cl (IN _ D (hw _ _)) ?_;simp only[am,bC.au];exact aL rfl (af.bg _) ⟨by rw[tO,aA h1,aA h2,aA h4,aE h5];rfl,rfl⟩
 by_cases h3:c.op=3
 .simp only[am,aN.au,cD,aI h1,aI h2,aI h4,aI h5,aJ h3];refine cl (WH s c D hs hn) ?_;simp only[am,bC.au];exact aL rfl (af.bg _) ⟨by rw[tO,aA h1,aA h2,aA h4,aA h5,aE h3];rfl,rfl⟩
 .simp only[am,Nat.reduceAdd,aI h1,aI h2,aI h4,aI h5,aI h3];exact aL rfl (af.bg _) ⟨by rw[tO,aA h1,aA h2,aA h4,aA h5,aA h3];rfl,rfl⟩
def asQ(s:bC)(D:af)(hs:s.ok):a7 137 [.agg s.enc] D (.agg s.enc):=by
 refine agf.aT ?_;simp only[aS,am,aZ,Nat.reduceAdd,bC.au];refine cl (cz.eT (as' := [.sl .no 2 ([s].map bC.enc)]) (WI [s] D (by simp) (λx hx=>by simp at hx;subst hx;exact hs) (by have:=hs.1;simp;omega)) ⟨dT.no,trivial⟩ bK.rfl) ?_;simp only[am,Nat.reduceAdd,bC.au];refine aL rfl (af.bg _) ⟨?_,rfl⟩;simp only[Dd,qX,Qa,eK];rfl
def aiM:aU prog 42 (sq [rg 0 [ox 2 2 0,ox 3 17 1,oZ 4 [8,8]],rg 11 [ol 2 2,oC 72 [11],oZ 5 [8,8],o2 2 5],sq [rg 13 [ol 2 2,ol 17 3,oC 54 [13,14],ow 0 15,nB .neq 0],cr 17 18 [ol 2 5,o2 2 4]],sq [rg 19 [fo 0 3,oC 73 [20]],ci 21 (dg 22 [of 0 5,mM [1],no,of 2 3,nf 0,mM [1],no,ol 2 2,ol 17 3,oC 74 [27,28],oW [1,2,72] [(0,1,26),(1,2,29)],n1 3,na 3 23,of 0 5,os 1 33 32])],sq [rg 34 [fo 0 3,oC 75 [35]],ci 36 (sq [rg 6 [oi 1],sq [rg 37 [fo 0 3,nB .eql 7],ci 39 (rg 6 [oi 2])],rg 41 [ol 2 2,of 2 3,nF 0,oC 76 [41,44],o1 40,oe 40 0,oe 40 1,ot 7 46,o1 8],rg 48 [fo 4 3,nL,oi 0],lp 50 0 (sq [rg 53 [oA 2 49 51,nl 2,oZ 10 [1,0],o2 2 10],rg 55 [fo 1 5,fo 0 10,om 6,om 7,oW [1,0,0] [(0,1,58),(1,1,59),(2,1,60)],n1 3,na 3 56,of 1 5,os 1 64 63]]) 65])],rg 66 [ol 2 5,o2 2 4],.ret]) [.cell 4 ab 2] 67:=aV func42
def ai1:aU prog 72 (sq [rg 0 [ox 1 2 0,oZ 2 [8,8]],rg 0 [oZ 3 [8,8]],sq [rg 6 [fo 0 1,nL,oi 0],lp 8 0 (sq [rg 11 [oA 3 7 9,nl 3,oZ 5 [1,2,72],o2 3 5],dg 13 [of 0 3,mM [1],no,of 0 5,mM [1],no,of 1 5,nl 2,oC 137 [18],oW [1,2,72] [(0,1,16),(1,2,19)],n1 3,na 3 14,of 0 3,os 1 23 22]]) 24],rg 25 [fo 1 3,fo 1 1,na 3 26,of 1 3,os 1 30 29],rg 31 [ol 2 3,o2 2 2],.ret]) [.cell 2 ab 2] 32:=aV func72
def tE(l:List ei):List (List V):=l.map ei.enc
def wE(l:List dC):List (List V):=l.map dC.enc
def NF{l:List ei}:(tE l).length=l.length:=by simp[tE]
def auS{l:List dC}:(wE l).length=l.length:=by simp[wE]
def anH{l:List ei}{x:ei}:tE (l++[x])=tE l++[x.enc]:=by simp[tE]
def auR{l:List dC}{x:dC}:wE (l++[x])=wE l++[x.enc]:=by simp[wE]
def anI{l:List ei}(h:j<l.length):(l.map ei.enc)[((j:Nat):Int).toNat]?=aa l[j].enc:=by simp[h]
def clO(s:aN)(D:af)(v:V)(σ' : af):Prop:=∃Z O,Z≠O/\D.aP Z=ag/\D.aP O=ag/\v = .agg [.sl (.tk Z) 3 (tE s.bz),.sl (.tk O) 3 (wE s.vars)]/\σ' = (D.aY Z s.bz.length).aY O s.vars.length
def asP(s:aN)(D:af)(hs:s.ok):cz prog 72 [.agg s.enc] D (clO s D):=by
 obtain⟨h1,h2,h3⟩:=hs;refine ai1.aT ?_;simp only[aS,am,aZ,Nat.reduceAdd,aN.au,aR];obtain⟨Q,hQ⟩:∃Q:Nat->List ei,∀i,Q i=s.bz.take i:=⟨_,λ_=>rfl⟩;have uh:Q 0=[]:=by rw[hQ];rfl
 have xe:Q s.bz.length=s.bz:=by rw[hQ,fm]
 refine dK (s.bz.length) (λi (Z:Nat)=>⟨[.any,.ptr (.aD 0) 0,.ptr (.aD 1) 0,.ptr (.aD 2) 0,.any,.any,.any,.sl .no 3 (s.bz.map ei.enc),.int .i64 (s.bz.length:Nat),.int .i64 (i:Nat)]++ar 22 .any,[s.enc,[.sl .ba 3 [],.sl .ba 3 []],[.sl (.tk Z) 3 (tE (Q i)),.sl .ba 3 []]],D.aY Z (Q i).length⟩) (λi Z=>(D.aP Z=ag)) λF hF JF bn=>⟨?_,?_,?_⟩
 .refine Hc 0 λZ bc=>⟨Z,eU (bn _ _) bc,?_,?_,?_⟩
  all_goals simp[hF,ar,kJ,IA,uh,tE]
 .rintro i Z hi bc;have pK:Q (i+1)=Q i++[s.bz[i]]:=by rw[hQ,hQ,jl hi]
  have yL:(Q i).length+1<=100001:=by rw[hQ,jj];omega
  have hlen:(tE (Q i)).length=(Q i).length:=NF;have El:(Q (i+1)).length=(Q i).length+1:=by rw[pK];simp
  simp only[hF,ar,am,dD hi];refine ix (anI hi) ?_;simp only[am,Nat.reduceAdd,aN.au,bC.au,ei.Oo,ei.Oq,ei.FG,ei.Ot];refine bE.intro (asQ s.bz[i].shape (D.aY Z (Q i).length) (h3 _ (fg hi))) ?_;simp only[am,Nat.reduceAdd,bC.au];refine vt (by rw[hlen];simp[aK];omega) (by rw[hlen];exact gw) ?_;rw[hlen];simp only[am,a_,aN.au,gJ,cG hi,gM];rw[show V.aF s.bz[i].name::s.bz[i].shape.enc=s.bz[i].enc from rfl,<-anH,<-pK,<-El];refine fK (Z) hi ?_ ?_ ?_ ?_ ?_ ?_
  .exact eU (bn _ _) (bc)
  all_goals simp[hF,ar,am,bT,bR,dw,V.lo,aN.cT]
 .rintro Z bc;simp only[hF,ar,am,a_,dY,a_,aN.au,xe];refine GJ (by simp[aK];omega) λO lq=>?_
  simp only[am,Nat.reduceAdd,aR,aR];have aW:Z≠O:=λe=>by rw[<-e,gw] at lq;simp at lq
  exact arT rfl (af.bg _) ⟨Z,O,aW,bc,by rw[qe aW.symm] at lq;exact lq,by simp[tE,wE],by simp⟩
variable{b Z:Nat}
def atT{O a d:Nat}(h1:D.aP Z=ag)(h2:D.aP O=ag):D.sub (((D.aY Z a).aY O b).aY Z d):=by
 refine⟨λ_ _ h=>h,λt n h=>?_,λ_ _ h=>h⟩;have e1:t≠O:=λe=>by rw[e,h2] at h;simp at h
 have e2:t≠Z:=λe=>by rw[e,h1] at h;simp at h
 rw[qe e2,qe e1,qe e2];exact h
def acF{op:Int}(h:lr op=ab):op=1\/op=2\/op=3\/op=4\/op=5:=by
 simp only[lr,bF,cn] at h;omega
def O_{O a:Nat}(h1:D.aP Z=ag)(h2:D.aP O=ag):D.sub ((D.aY Z a).aY O b):=by
 refine⟨λ_ _ h=>h,λt n h=>?_,λ_ _ h=>h⟩;have e1:t≠O:=λe=>by rw[e,h2] at h;simp at h
 have e2:t≠Z:=λe=>by rw[e,h1] at h;simp at h
 rw[qe e1,qe e2];exact h
def QD(s:aN)(c:az)(hs:s.wj)(hg:TZ D)(hn:c.an.length<=100000)(hp:c.bA.length<=100000):
 a7 42 [.agg s.enc,.agg c.enc] D (.agg (rV s c).enc):=by
 have hl:=hs.1.1;have hv:=hs.1.2.1;refine aiM.aT ?_;simp only[aS,am,aZ,Nat.reduceAdd,aN.au,cD];refine(asP s D hs.1).mono ?_;rintro v fc ⟨Z,O,aW,bc,lq,rfl,rfl⟩;have t1:((D.aY Z s.bz.length).aY O s.vars.length).aP Z=aa s.bz.length:=by rw[qe aW,gw]
 simp only[am,Nat.reduceAdd,aN.au,cD];refine cl (XY s c (D:=(D.aY Z s.bz.length).aY O s.vars.length) hs hg hn hp) ?_
 by_cases hf:(jO s c).cls=0
 case neg =>
  simp only[am,Nat.reduceAdd,c7,aQ.au,hf];exact aL rfl (O_ bc lq) ⟨by rw[rV,aE hf];rfl,rfl⟩
 simp only[am,bL,aQ.au,fk,hf];refine cl (Ni c.op _) ?_;cases h5:lr c.op with
 | true =>
  simp only[am,aN.au,cD,eC];refine bE.intro (as_ s c ((D.aY Z s.bz.length).aY O s.vars.length) hs hn hp) ?_;simp only[am,Nat.reduceAdd,bC.au];refine vt (by rw[NF];simp[aK];omega) (by rw[NF];exact t1) ?_;simp only[am,fk,eC];have tz:mF c.op=false:=by
   rcases acF h5 with e | e | e | e | e<;>simp[mF,e]
  refine cl (F1 c.op _) ?_;simp only[am,Nat.reduceAdd,tz];refine aL rfl ?_ ⟨?_,rfl⟩
  .exact atT bc lq
  .rw[rV,aA (by simp[hf]),aE h5];simp[V.erase,aX,aN.enc,tE,wE,ei.enc]
 | false =>
  simp only[am,fk];refine cl (F1 c.op _) ?_;cases h2:mF c.op with
  | false =>
   simp only[am,Nat.reduceAdd];exact aL rfl (O_ bc lq) ⟨by rw[rV,aA (by simp[hf]),aA (by simp[h5]),aA (by simp[h2])];rfl,rfl⟩
  | true =>
   simp only[am,fk];obtain⟨w,hw⟩:∃w:aB->dC,∀x,w x=⟨x.aq,if c.op=7 then 2 else 1,dJ (i_ s.bz c.name.aq)⟩:=⟨_,λ_=>rfl⟩;obtain⟨Q,hQ⟩:∃Q:Nat->List dC,∀i,Q i=s.vars++(c.an.take i).map w:=⟨_,λ_=>rfl⟩;have uh:Q 0=s.vars:=by rw[hQ];simp
   have xe:(⟨s.bz,Q c.an.length⟩:aN)=rV s c:=by
    rw[rV,aA (by simp[hf]),aA (by simp[h5]),aE h2,hQ,fm];rw[funext hw]
   by_cases h7:c.op=7
   case' pos=>simp only[am,aN.au,eC,aJ h7]
   case' neg=>simp only[am,aN.au,eC,aI h7]
   all_goals
    refine cl (wv s c.name.aq _ hs.1.1 hs.1.2.1) ?_;simp only[am,aR,aR,eC];refine dK (c.an.length) (λi (x:Unit)=>⟨[.any,.any,.ptr (.aD 0) 0,.ptr (.aD 1) 0,.ptr (.aD 2) 0,.ptr (.aD 3) 0,.int .i64 (if c.op=7 then 2 else 1),.int .i64 (dJ (i_ s.bz c.name.aq)),.any,.any,.any,.any,.any,.any,.any,.any,.any,.any,.any,.any,.any,.any,.any,.any,.any,.any,.any,.any,.any,.any,.any,.any,.any,.any,.any,.any,.any,.any,.any,.any,.any,.any,.any,.any,.any,.any,.any,.any,.any,.sl .no 2 (c.an.map aB.enc),.int .i64 (c.an.length:Nat),.int .i64 (i:Nat)]++ar 15 .any,[s.enc,c.enc,[.sl .ba 3 [],.sl .ba 3 []],[.sl (.tk Z) 3 (tE s.bz),.sl (.tk O) 3 (wE (Q i))]],(D.aY Z s.bz.length).aY O (Q i).length⟩) (λi x=>(True)) λF hF JF bn=>⟨?_,?_,?_⟩
    .refine en bn (()) (trivial) ?_ ?_ ?_
     all_goals simp[hF,ar,am,bT,h7,uh]
    .rintro i x hi -;have pK:Q (i+1)=Q i++[w c.an[i]]:=by rw[hQ,hQ,jl hi,gy,e9];rfl
     have yL:(Q i).length+1<=300000:=by rw[hQ];simp only[bP,aR,jj];omega
     have hlen:(wE (Q i)).length=(Q i).length:=auS;have El:(Q (i+1)).length=(Q i).length+1:=by rw[pK];simp
     simp only[hF,ar,am,dD hi];refine ix (BI hi) ?_;simp only[am,Nat.reduceAdd,aB.au,x_];refine iy (by rw[hlen];simp[aK];omega) (by rw[hlen];exact gw) ?_;rw[hlen];simp only[am,a_,gJ,cG hi,gM];rw[show [V.aF c.an[i].aq,V.int .i64 (if c.op=7 then 2 else 1),V.int .i64 (dJ (i_ s.bz c.name.aq))]=(w c.an[i]).enc by rw[hw];rfl,<-auR,<-pK,<-El];refine fK (()) hi ?_ ?_ ?_ ?_ ?_ ?_
     .exact eU (bn _ _) (trivial)
     all_goals simp[hF,ar,am,bT,bR,dw,V.lo,aN.cT,az.enc,az.cP]
    .rintro x -;simp only[hF,ar,am,a_,dY,Nat.reduceAdd,a_];refine aL rfl (O_ bc lq) ⟨?_,rfl⟩;rw[<-xe];rfl
def af2:aU prog 11 (sq [rg 2 [oz 1],rg 3 [oz 6],sq [rg 6 [om 0,oC 21 [6],nL,oi 0],lp 8 0 (sq [rg 11 [oA 1 7 9,no,o1 5],rg 13 [om 3,om 5,oq (.nj (.s 13) (.s 14)),o1 3],rg 16 [om 3,oq (.jn 1 [(.c (.int .u8 10))]),na 1 16,o1 3]]) 19],rg 20 [om 3,oq (.uc (.s 20)),o1 2],.ret]) [.tmp 2] 22:=aV func11
def agr:aU prog 15 (sq [rg 0 [oZ 2 [0,0,0]],sq [rg 3 [om 0,oq (.r6 ak (.s 3) (.c .jd))],cr 4 5 [oW [0,0,0] [],o2 3 2]],dg 6 [mk 0,nf 0,nF 4,mk 0,nf 0,nF 2,nL,mk 0,nF 5,nL,nB .add 1,oW [0,0,0] [(0,1,10),(1,1,16),(2,1,22)],o2 3 2],.ret]) [.cell 2 ab 3] 24:=aV func15
def ag9:aU prog 21 (sq [rg 2 [oz 6],sq [rg 3 [om 0,oq (.r6 ak (.s 3) (.c .jd))],cr 4 2 [oz 6]],rg 5 [oq (.jn 1 []),mk 0,nf 0,nF 3,na 1 5,o1 2],.ret]) [.tmp 2] 12:=aV func21
def ahC:aU prog 24 (sq [rg 0 [oZ 2 [8,8,23]],rg 0 [oZ 3 [8,8,23]],sq [rg 6 [om 0,oq (.r6 ak (.s 6) (.c .jd))],cr 7 8 [ol 3 3,o2 3 2]],rg 9 [mk 0,nf 0,nf 0,nl 2,oW [0,0,1,0,7,9,0,0,0,1,7,10,0,0,1,7,10] [],oC 42 [13,14],of 0 3,os 2 16 15],sq [rg 17 [mk 0,nf 0,nF 2,nL,oi 0],lp 22 0 (sq [rg 25 [oA 18 21 23,nl 18,oR 5 kf,o2 18 5],dg 27 [of 2 3,mM [1],no,ol 18 5,oC 43 [29],n1 18,na 18 28,of 2 3,os 1 33 32]]) 34],rg 35 [ol 3 3,o2 3 2],.ret]) [.cell 2 ab 3] 36:=aV func24
def aiN:aU prog 43 (sq [rg 0 [ox 1 18 0,oR 2 kf],rg 3 [oq (.jn 10 []),fo 2 1,na 10 3,of 2 1,os 1 7 6],rg 8 [oq (.jn 10 []),of 12 1,nF 0,na 10 8,of 12 1,nf 0,os 1 14 12],rg 15 [oq (.jn 10 []),of 14 1,nF 0,na 10 15,of 14 1,nf 0,os 1 21 19],rg 22 [ol 18 1,o2 18 2],.ret]) [.cell 2 ab 18] 23:=aV func43
def RT(x:d_)(D:af)(h:BW x):a7 43 [.agg x.enc] D (.agg x.enc):=by
 obtain⟨h1,h2,h3⟩:=h;refine aiN.aT ?_;simp only[aS,am,aZ,Nat.reduceAdd,kZ];refine yp (by simp[aK];omega) ?_;simp only[am,kZ,gN];refine yp (by simp[aK];omega) ?_;simp only[am,kZ,gN];refine yp (by simp[aK];omega) ?_;simp only[am,kZ,gN];exact aL (v:=.agg x.enc) d_.dV (af.bg _) ⟨by simp only[V.erase,d_.dO],rfl⟩
variable{k:Tk}{s:fP}
def Bq(h:D.box b=aa (mw k s))(hn:s.cq.length<=100000):a7 15 [.ptr (.out b) 0] D (.agg (ft s).enc):=by
 rw[mw] at h;refine agr.aT ?_;simp only[aS,am,aZ,Nat.reduceAdd,GI];simp only[am,Nat.reduceAdd,aR,aR,h,wrap_i64 (x:=((s.cq.length:Nat):Int)+1) (by omega) (by omega)];exact aL rfl (af.bg _) ⟨rfl,rfl⟩
def am5(h:D.box b=aa (mw k s))(hn:s.live.lines.length<=100000):a7 21 [.ptr (.out b) 0] D (.sl .no 1 (cX s.live.lines)):=by
 rw[mw] at h;refine ag9.aT ?_;simp only[aS,am,aZ,Nat.reduceAdd,GI];simp only[am,h];refine yp (by simp[ia,aK];omega) ?_;simp only[am,gN];exact aL rfl (af.bg _) ⟨rfl,rfl⟩
def A7(h:j<l.length):(cX l)[((j:Nat):Int).toNat]?=aa [.aF l[j]]:=by simp[cX,h]
theorem aeC:dE [10]=[[.int .u8 10]]:=rfl
def atJ{u:V}(hu:u.cY=ab)(hl:lQ l<=1000000)(hc:a7 21 [u] D (.sl .no 1 (cX l))):a7 11 [u] D (.aF (qT l)):=by
 have Mh:=@IF l;refine af2.aT ?_;simp only[aS,am,aZ,Nat.reduceAdd];refine⟨hu,cl hc ?_⟩;simp only[am,ia];refine dK (l.length) (λi (Z:Nat)=>⟨[.any,.any,.any,.sl (.tk Z) 1 (dE (qT (l.take i))),.any,.any,.any,.sl .no 1 (cX l),.int .i64 (l.length:Nat),.int .i64 (i:Nat)]++ar 12 .any,[],D.aY Z (qT (l.take i)).length⟩) (λi Z=>(D.aP Z=ag)) λF hF JF bn=>⟨?_,?_,?_⟩
 .refine Hb 0 λZ bc=>⟨Z,eU (bn _ _) bc,?_,?_,?_⟩
  all_goals simp[hF,ar,kJ,qT,dE]
 .rintro i Z hi bc;have hn:=@anG l (i+1);rw[<-YG,YH hi] at hn;simp only[bP,gM] at hn;simp only[hF,ar,am,dD hi];refine ix (A7 hi) ?_;simp only[am,cV];refine⟨_,rfl,?_⟩;refine iy (by rw[jE,jE];simp[aK];omega) (by rw[jE,gw]) ?_;simp only[am,gJ];rw[<-aeC,<-D9,jE,jE,<-bP];refine iy (by rw[jE,jE];simp[aK];omega) (by rw[jE,gw]) ?_;simp only[am,a_,gJ,cG hi];rw[<-D9,jE,jE,<-bP,<-YH hi];exact nx bn (Z) hi (bc)
 .rintro Z bc;simp only[hF,ar,am,cV,a_,dY,a_,fm];refine⟨_,_,rfl,?_⟩;refine aL rfl (jQ bc) ⟨?_,rfl⟩;simp[V.erase]
def Kq{l:List d_}(h:j<l.length):(l.map d_.enc)[((j:Nat):Int).toNat]?=aa l[j].enc:=by simp[h]
def yq(l:List d_):List (List V):=l.map d_.enc
def aac{l:List d_}:(yq l).length=l.length:=by simp[yq]
def aab{l:List d_}{x:d_}:yq (l++[x])=yq l++[x.enc]:=by simp[yq]
def aqT(l:Lv):V:=.agg [.sl .no 3 (l.ib.bz.map ei.enc),.sl .no 3 (l.ib.vars.map dC.enc),.sl .no 18 (l.iW.map d_.enc)]
theorem asR{s:aN}{a b c:V}:over [a,b,c] s.enc=[.sl .no 3 (s.bz.map ei.enc),.sl .no 3 (s.vars.map dC.enc),c]:=rfl
def ZV{s:aN}:rV s .zero=s:=by simp[rV,jO,lr,mF,az.zero,aQ.zero]
def WG(h:D.box b=aa (mw k s))(hg:TZ D)(ho:s.live.ok):a7 24 [.ptr (.out b) 0] D (aqT s.live):=by
 obtain⟨l,fr⟩:=s;have hm:=ho.m;have ha:=ho.a;simp only at hm ha;rw[mw] at h;have ca:=QD l.ib .zero (D:=D) ho.s hg (by simp[az.zero]) (by simp[az.zero]);rw[ZV] at ca;refine ahC.aT ?_;simp only[aS,am,aZ,Nat.reduceAdd,GI];simp only[am,h];refine cl (cz.eT (as' := [.agg l.ib.enc,.agg az.zero.enc]) ca ⟨dT.rfl,dT.erase,trivial⟩ bK.rfl) ?_;simp only[am,aR,aN.au,aR,h,asR];obtain⟨Q,hQ⟩:∃Q:Nat->List d_,∀i,Q i=l.iW.take i:=⟨_,λ_=>rfl⟩;have uh:Q 0=[]:=by rw[hQ];rfl
 have xe:Q l.iW.length=l.iW:=by rw[hQ,fm]
 refine dK (l.iW.length) (λi (Z:Nat)=>⟨[.ptr (.out b) 0,.any,.ptr (.aD 0) 0,.ptr (.aD 1) 0,.any,.any,.any,.any,.any,.any,.any,.any,.any,.any,.any,.any,.any,.any,.any,.any,.any,.sl .no 18 (l.iW.map d_.enc),.int .i64 (l.iW.length:Nat),.int .i64 (i:Nat)]++ar 12 .any,[[.sl .ba 3 [],.sl .ba 3 [],.sl .ba 18 []],[.sl .no 3 (l.ib.bz.map ei.enc),.sl .no 3 (l.ib.vars.map dC.enc),.sl (.tk Z) 18 (yq (Q i))]],D.aY Z (Q i).length⟩) (λi Z=>(D.aP Z=ag)) λF hF JF bn=>⟨?_,?_,?_⟩
 .refine Hc 0 λZ bc=>⟨Z,eU (bn _ _) bc,?_,?_,?_⟩
  all_goals simp[hF,ar,kJ,IA,uh,yq]
 .rintro i Z hi bc;have pK:Q (i+1)=Q i++[l.iW[i]]:=by rw[hQ,hQ,jl hi]
  have yL:(Q i).length+1<=100001:=by rw[hQ,jj];omega
  have hlen:(yq (Q i)).length=(Q i).length:=aac;have El:(Q (i+1)).length=(Q i).length+1:=by rw[pK];simp
  simp only[hF,ar,am,dD hi];refine ix (Kq hi) ?_;simp only[am,Nat.reduceAdd,kZ];refine bE.intro (RT l.iW[i] (D.aY Z (Q i).length) (ha _ (fg hi))) ?_;simp only[am,kZ];refine vt (by rw[hlen];simp[aK];omega) (by rw[hlen];exact gw) ?_;rw[hlen];simp only[am,a_,gJ,cG hi,gM];rw[<-aab,<-pK,<-El];refine fK (Z) hi ?_ ?_ ?_ ?_ ?_ ?_
  .exact eU (bn _ _) (bc)
  all_goals simp[hF,ar,am,bT,bR,dw,V.lo]
 .rintro Z bc;simp only[hF,ar,am,a_,dY,Nat.reduceAdd,a_,xe];exact aL rfl (jQ bc) ⟨rfl,rfl⟩
def ahI:aU prog 25 (sq [rg 2 [oz 2],rg 3 [om 0,nB .geq 1,gA,om 0,nB .leq 10,gZ,o1 2],.ret]) [.tmp 2] 9:=aV func25
def aih:aU prog 29 (sq [rg 0 [ox 3 2 0,ox 4 3 1,oZ 6 [0,0,1,0,7,9,0,0,0,1,7,10,0,0,1,7,10],oR 7 kf,oZ 8 [0,0]],rg 15 [om 2,oC 53 [15],o1 14,oe 14 0,oe 14 1,oZ 9 [0,0,1,0,7,9,0,0,0,1,7,10,0,0,1,7,10],oZ 10 [0,0],os 17 9 17,o2 2 10],sq [rg 19 [fo 0 10,nB .neq 0],ci 21 (sq [dg 22 [oW [0,0,1,0,7,9,0,0,0,1,7,10,0,0,1,7,10] [],oY kf [],mM [1,2],ol 2 10,os 17 6 22,os 18 7 23,o2 2 8],.ret])],dg 25 [ol 2 3,ol 17 9,oC 54 [25,26],mM [0],ol 2 3,mM [0],ol 17 9,oC 55 [28,29],oq (.jn 2 [(.s 27),(.s 30)]),o1 11],sq [rg 32 [ol 3 4,ol 17 9,oC 56 [32,33]],ci 34 (rg 35 [om 11,fo 1 9,oG [0,0] [(0,1,.c (.int .i64 7)),(1,1,.s 37)],n1 2,na 2 35,o1 11])],sq [rg 41 [fo 0 9,nB .eql 12,gA,fo 2 4,nB .leq 1,gZ],ci 48 (rg 49 [om 11,fo 1 9,oG [0,0] [(0,1,.c (.int .i64 8)),(1,1,.s 51)],n1 2,na 2 49,o1 11])],sq [rg 55 [om 11,oC 57 [55],o2 2 10],rg 57 [fo 0 10,nB .neq 0],ci 59 (sq [dg 60 [oW [0,0,1,0,7,9,0,0,0,1,7,10,0,0,1,7,10] [],oY kf [],mM [1,2],ol 2 10,os 17 6 60,os 18 7 61,o2 2 8],.ret])],rg 64 [ol 2 3,ol 17 9,oC 58 [64,65],o1 63,oe 63 0,oe 63 1,oR 12 kf,os 18 12 67,o1 13],dg 69 [ol 17 9,mM [1],ol 18 12,oW [0,0] [],os 17 6 69,os 18 7 70,o2 2 8],.ret]) [.cell 6 ab 17,.cell 7 ab 18,.cell 8 ab 2] 72:=aV func29
def aiW:aU prog 56 (sq [rg 4 [ox 2 3 0,ox 3 17 1,oz 2],sq [rg 6 [fo 0 3,oC 25 [7]],ci 8 (sq [rg 9 [ol 17 3,oC 59 [9],nT,o1 5],rg 12 [om 5,nB .gtr 1024,gB,fo 0 2,om 5,oq (.eW .sub (.c (.int .i64 16383)) (.s 17)),nb .gtr 16,gZ],cr 20 4 [oq (.mv (.c (.bool ab)))]])],rg 21 [fo 0 3,oC 112 [22],gA,fo 1 2,nB .geq 64,gZ,nm,oh 29 (of 0 3),oh 29 (no),oh 29 (nB .eql 11),oh 29 (nm),og 33 (of 2 2),og 33 (no),og 33 (nB .geq 16),oh 29 (oy 33 36),oq (.pick (.s 29) (.c (.bool ab)) (.s 37)),o1 4],.ret]) [.tmp 4] 39:=aV func56
def af5:aU prog 112 (sq [rg 2 [oz 2],rg 3 [om 0,nB .geq 8,gA,om 0,nB .leq 10,gZ,o1 2],.ret]) [.tmp 2] 9:=aV func112
def Yv(op:Int)(D:af):a7 25 [.int .i64 op] D (.bool (rL op)):=by
 refine ahI.aT ?_;simp only[aS,am,aZ,Nat.reduceAdd]
 by_cases h:1<=op
 .simp only[am,aJ h];refine aH ?_;simp[V.erase,rL,h]
 .simp only[am,aI h];refine aH ?_;simp[V.erase,rL,h]
def QO(op:Int)(D:af):a7 112 [.int .i64 op] D (.bool (vu op)):=by
 refine af5.aT ?_;simp only[aS,am,aZ,Nat.reduceAdd]
 by_cases h:8<=op
 .simp only[am,aJ h];refine aH ?_;simp[V.erase,vu,h]
 .simp only[am,aI h];refine aH ?_;simp[V.erase,vu,h]
def JG:=ah @am <| ah @jm <| ah @cV <| ah @dt <| ah @bL <| ah @c7 <| ah @a_ <| ah @Rl.au <| ah @bw.au <| ah @aN.au <| ah @bC.au <| ah @aB.au <| ah @jW <| ah @tV @wO
def am1(r:Rm)(c:az)(kg:D.b9 0=aa gC)(hw:16*c.wt+64<=aK):a7 56 [.agg r.enc,.agg c.enc] D (.bool (jc r c)):=by
 have tail:∀B:Bool,(rL c.op&&(decide (1024<((eJ c).length:Int))||decide (IntKind.i64.wrap (16383 - (eJ c).length)<r.bytes)))=ak->B=((vu c.op&&decide (64<=r.iW))||(decide (c.op=11)&&decide (16<=r.cq)))->B=jc r c:=λB h e=>by
  rw[e,jc,h,Gc]
 refine aiW.aT ?_;simp only[aS,am,aZ,Nat.reduceAdd,Rm.au,cD,fk];refine cl (Yv c.op D) ?_;cases hs:rL c.op with
 | true =>
  rw[hs,lD] at tail;simp only[am,cD];refine cl (RU c kg hw) ?_;simp only[am];have yes:(decide (1024<((eJ c).length:Int))||decide (IntKind.i64.wrap (16383 - (eJ c).length)<r.bytes))=ab->jc r c=true:=λh=>by rw[jc,hs,h];rfl
  cases h1:decide (1024<((eJ c).length:Int)) with
  | true =>
   simp only[am];refine aH ?_;simp[V.erase,yes (by rw[h1];rfl)]
  | false =>
   cases h2:decide (IntKind.i64.wrap (16383 - (eJ c).length)<r.bytes) with
   | true =>
    simp only[am,Rm.au,h2];refine aH ?_;simp[V.erase,yes (by rw[h1,h2];rfl)]
   | false =>
    have tl:=λB=>tail B (by rw[h1,h2];rfl)
    simp only[am,Rm.au,fk,h2];refine cl (QO c.op D) ?_;simp only[am]
    repeat' (first
     | (refine jH (λh=>?_) (λh=>?_)<;>simp only[am,h,Rm.au,fk])
     | (refine eR (λh=>?_) (λh=>?_)<;>simp only[JG,h,Nat.reduceAdd,Nat.reduceEqDiff,aR,Int.reduceNeg,da,cm,eK,Int.reduceEq,Int.reduceLT,Int.reduceLE,Int.reduceGE,Nat.reduceLT,Int.reduceToNat,Nat.reduceMul,bZ,reduceCtorEq,aQ.au,Rm.au,cD,fk,eC,vD,l_,kf])
     | (refine jL (λh=>?_) (λh=>?_)<;>simp only[JG,h,Nat.reduceAdd,Nat.reduceEqDiff,aR,Int.reduceNeg,da,cm,eK,Int.reduceEq,Int.reduceLT,Int.reduceLE,Int.reduceGE,Nat.reduceLT,Int.reduceToNat,Nat.reduceMul,bZ,reduceCtorEq,aQ.au,Rm.au,cD,fk,eC,vD,l_,kf])
    )
    all_goals refine aH ?_
    all_goals simp only[V.erase]
    all_goals refine iK V.bool (tl _ ?_)
    all_goals clear tl tail hw kg
    all_goals simp[*]
 | false =>
  have tl:=λB=>tail B (by rw[hs];rfl)
  simp only[am,fk];refine cl (QO c.op D) ?_;simp only[am]
  repeat' (first
   | (refine jH (λh=>?_) (λh=>?_)<;>simp only[am,h,Rm.au,fk])
   | (refine eR (λh=>?_) (λh=>?_)<;>simp only[JG,h,Nat.reduceAdd,Nat.reduceEqDiff,aR,Int.reduceNeg,da,cm,eK,Int.reduceEq,Int.reduceLT,Int.reduceLE,Int.reduceGE,Nat.reduceLT,Int.reduceToNat,Nat.reduceMul,bZ,reduceCtorEq,aQ.au,Rm.au,cD,fk,eC,vD,l_,kf])
   | (refine jL (λh=>?_) (λh=>?_)<;>simp only[JG,h,Nat.reduceAdd,Nat.reduceEqDiff,aR,Int.reduceNeg,da,cm,eK,Int.reduceEq,Int.reduceLT,Int.reduceLE,Int.reduceGE,Nat.reduceLT,Int.reduceToNat,Nat.reduceMul,bZ,reduceCtorEq,aQ.au,Rm.au,cD,fk,eC,vD,l_,kf])
  )
  all_goals refine aH ?_
  all_goals simp only[V.erase]
  all_goals refine iK V.bool (tl _ ?_)
  all_goals clear tl tail hw kg
  all_goals simp[*]
def QR:cL (cN 0 0 (.sl .ba 10 []) .zero (.sl .ba 10 []) 0 (.sl .ba 10 []) 0 0 [])=true:=Ae rfl rfl rfl
def aag:aX (cN 0 0 (.sl .ba 10 []) .zero (.sl .ba 10 []) 0 (.sl .ba 10 []) 0 0 [])=d_.zero.enc:=by rw[GK];rfl
def aah:bO (cN 0 0 (.sl .ba 10 []) .zero (.sl .ba 10 []) 0 (.sl .ba 10 []) 0 0 [])=true:=GL rfl rfl rfl
def aaf(x:d_):cL x.enc=true:=Ae rfl rfl rfl
def tD(x:az × d_ × aQ):V:=.bt [.agg x.1.enc,.agg x.2.1.enc,.agg x.2.2.enc]
structure Qt(c:az):Prop where
 n:c.an.length<=100000
 p:c.bA.length<=100000
 l:c.left.cI<=100000
 r:c.right.cI<=100000
 wl:c.left.wt<=aK
 wr:c.right.wt<=aK
 w:16*c.wt+64<=aK
variable{t:List UInt8}
def NY(ht:t.length<=3000):Qt (cM t).1:=by
 have hb:=arK t;generalize (cM t).1=c at hb;have h1:=hb.ns;have h2:=hb.ps;have h3:=hb.l;have h4:=hb.r;have h5:=hb.nm;have h6:=hb.pt;have h7:=(Oj c.an).2;have h8:=G5 c.left;have h9:=G5 c.right;have mg:aK=268435456:=rfl;have hcw:c.wt=c.name.aq.length+fu c.an+kR c.bA+c.left.wt+c.right.wt:=rfl;exact⟨by omega,by omega,by omega,by omega,by omega,by omega,by omega⟩
def alH(s:aN)(r:Rm)(t:List UInt8)(hs:s.wj)(hg:TZ D)(kg:D.b9 0=aa gC)(ht:t.length<=3000):
 a7 29 [.agg s.enc,.agg r.enc,.aF t] D (tD (lP s r t)):=by
 have mg:aK=268435456:=rfl;have cu:=NY ht;have hm:=Nv t;have bU:=@Nu s r t;have j6:=@Ix s r t;have AU:=@C4 s r t;refine aih.aT ?_;simp only[aS,am,aZ,Nat.reduceAdd,aN.au,Rm.au,kf];refine cl (ada t kg (by omega) (by rw[Bz];omega)) ?_;generalize cM t=R at cu bU j6 AU;generalize lP s r t=X at bU j6 AU;obtain⟨c,k,a⟩:=R;simp only at cu bU j6 AU;obtain⟨Y'',hY⟩:∃Y'':d_,Y''=(if kn s c=ab then mN s c else .zero):=⟨_,rfl⟩;rw[<-hY] at AU;obtain⟨A,hA⟩:∃A:List V,A=Y''.enc:=⟨_,rfl⟩;have a1:A.length=18:=by rw[hA];exact tY
 have a2:takeN 18 A=aa A:=by rw[hA];exact Kr
 have a3:cL A=true:=by rw[hA];exact aaf Y''
 have a4:bO A=true:=by rw[hA];exact d_.dV
 have a5:over (cN 0 0 (.sl .ba 10 []) .zero (.sl .ba 10 []) 0 (.sl .ba 10 []) 0 0 []) A=A:=by rw[hA];exact uL (by rw[tY];exact tY.symm)
 have a6:aX A=Y''.enc:=by rw[hA];exact d_.dO
 have hT:Ad s c = .bt [.agg A,.bool (kn s c)]:=by rw[Ad,hA,hY]
 have cA:=afi s c (D:=D) hs.1 hg kg (by have:=cu.n;omega) (by have:=cu.p;omega) cu.l cu.r cu.wl cu.wr;rw[hT] at cA;have aG:∀(t:List V) (lo:List (List V)) (f:aQ),X=(.zero,.zero,f)->n8 (λv σ' => v=tD X/\σ' = D) ⟨t,lo,D⟩ (.bt [.agg gp,.agg (cN 0 0 (.sl .ba 10 []) .zero (.sl .ba 10 []) 0 (.sl .ba 10 []) 0 0 []),.agg f.enc]):=λt lo f h=>by
  refine aL (by simp only[V.cY,bO,aah];rfl) (af.bg _) ⟨?_,rfl⟩;rw[h,tD];simp only[V.erase,aX,aag];rfl
 simp only[am,Nat.reduceAdd,cD,Ed]
 by_cases hk:k=0
 case neg =>
  simp only[am,Nat.reduceAdd,l_,aI hk,QR];exact aG _ _ ⟨k,a⟩ (bU hk)
 simp only[am,aN.au,cD,aJ hk];refine bE.intro (XY s c hs hg cu.n cu.p) ?_;simp only[am,aN.au,cD];refine bE.intro (SC s c hs.1 hg cu.l cu.r cu.wl cu.wr) ?_;simp only[am,aQ.au,aN.au,Rm.au,cD];refine cl (am1 r c kg cu.w) ?_;have qx:(∃L,j_ s r c=L/\jc r c=ab/\c.op≠12/\L=[jO s c,jF s c]++[⟨7,c.pos⟩])\/(∃L,j_ s r c=L/\jc r c=ak/\c.op=12/\r.cq<=1/\L=[jO s c,jF s c]++[⟨8,c.pos⟩]) \/
  (∃L,j_ s r c=L/\jc r c=ak/\c.op=12/\¬r.cq<=1/\L=[jO s c,jF s c])\/(∃L,j_ s r c=L/\jc r c=ak/\c.op≠12/\L=[jO s c,jF s c]):=by
  cases hl:jc r c with
  | true =>
   have hp:=am2 hl;exact .inl ⟨_,rfl,rfl,hp,by simp[j_,hl,ek,hp]⟩
  | false =>
   by_cases ju:c.op=12
   .by_cases hf:r.cq<=1
    .exact .inr (.inl ⟨_,rfl,rfl,ju,hf,by simp[j_,hl,ek,ju,hf]⟩)
    .exact .inr (.inr (.inl ⟨_,rfl,rfl,ju,hf,by simp[j_,hl,ek,hf]⟩))
   .exact .inr (.inr (.inr ⟨_,rfl,rfl,ju,by simp[j_,hl,ek,ju]⟩))
 rcases qx with ⟨L,hL,e1,e2,e3⟩ | ⟨L,hL,e1,e2,e4,e3⟩ | ⟨L,hL,e1,e2,e4,e3⟩ | ⟨L,hL,e1,e2,e3⟩
 case' inl =>
  simp only[am,Nat.reduceAdd,fk,e1];refine yp (by simp[aK]) ?_;simp only[am,fk,aI e2]
 case' inr.inl =>
  simp only[am,Nat.reduceAdd,Rm.au,fk,e1,aJ e2,aJ e4];refine yp (by simp[aK]) ?_;simp only[am]
 case' inr.inr.inl =>
  simp only[am,Rm.au,fk,e1,aJ e2,aI e4]
 case' inr.inr.inr =>
  simp only[am,fk,e1,aI e2]
 all_goals
  rw[hL] at j6 AU;refine cl (cz.eT (as' := [.sl .no 2 (L.map aQ.enc)]) (zh L _ (by rw[e3];simp)) ⟨by rw[e3];exact dT.no,trivial⟩ bK.rfl) ?_;generalize fI L=f at j6 AU;simp only[am,aQ.au]
  by_cases hf:f.cls=0
  .simp only[am,aN.au,cD,aJ hf];refine cl cA ?_;simp only[am,Nat.reduceAdd,cD,l_,a1,a2,a3,a5];refine aL (by simp only[V.cY,bO,a4];rfl) (af.bg _) ⟨?_,rfl⟩;rw[AU hk hf,tD];simp only[V.erase,aX,a6];rfl
  .simp only[am,Nat.reduceAdd,aQ.au,l_,aI hf,QR];exact aG _ _ f (j6 hk hf)
def air:aU prog 30 (sq [rg 0 [ox 4 17 1,ox 5 18 2],rg 9 [ol 17 4,oC 59 [9],o1 6],rg 11 [mk 0,nf 0,nF 3,nL,o1 7],rg 17 [om 0,mk 0,nf 0,nF 3,om 7,om 7,oq (.kV 1 (.s 22) ag (aa (.s 23)) (aa (.s 24))),om 6,n1 1,na 1 25,ok 17,nf 0,nf 3,os 1 31 28],rg 32 [mk 0,nf 0,nF 4,om 6,nT,nB .add 1,nb .add 36,ok 32,nf 0,nf 4,os 1 43 40],sq [rg 44 [fo 0 5,nB .neq 0],ci 46 (sq [rg 47 [mk 0,nf 0,nF 2,nL,o1 8],dg 53 [om 0,mk 0,nf 0,nf 2,mM [1],no,om 8,om 8,oq (.kV 18 (.s 58) ag (aa (.s 59)) (aa (.s 60))),ol 18 5,oC 43 [62],n1 18,na 18 61,ok 53,nf 0,nf 2,os 1 68 65],.ret])],dg 69 [om 0,mk 0,nf 0,nf 0,nl 2,ol 17 4,oC 42 [74,75],ok 69,nf 0,nf 0,os 2 79 76]]) [] 80:=aV func30
theorem Q0{x:d_}:bI ak 1 x.enc=aa (.int .i64 x.op):=rfl
def atE(c:az)(x:d_)(h:D.box b=aa (mw k s))(ho:s.live.ok)(hg:TZ D)(kg:D.b9 0=aa gC)
 (hn:c.an.length<=100000) (hp:c.bA.length<=100000) (hw:16*c.wt+64<=aK) (hx:BW x) (ht:(eJ c).length<=100000) :
 dS 30 [.ptr (.out b) 0,.agg c.enc,.agg x.enc] D (.bt []) (D.set b (mw k ⟨Bt s.live c x,s.cq⟩)):=by
 obtain⟨l,fr⟩:=s;have Mh:=@IF l.lines;have h1:=ho.m;have h2:=ho.b;have h3:=ho.t;have hs:=ho.s;simp only at h1 h2 h3 hs;rw[mw] at h;simp only at h;refine air.aT ?_;simp only[aS,am,aZ,Nat.reduceAdd,cD,kZ];refine cl (RU c kg hw) ?_;simp only[am,cV,ia,h];refine Jb (by simp[ia]) ?_;rw[zY (by simp[ia])];simp only[am];refine yp (by simp[ia,aK];omega) ?_;simp only[am,h];have e1:cX l.lines++[[V.aF (eJ c)]]=cX (l.lines++[eJ c]):=by simp[cX]
 have e2:IntKind.i64.wrap (l.bytes+IntKind.i64.wrap (((eJ c).length:Nat)+1))=l.bytes+((eJ c).length+1:Nat):=by
  rw[wrap_i64 (x:=((eJ c).length:Nat)+1),wrap_i64];simp
 rw[e1,e2]
 by_cases mo:x.op=0
 .simp only[am,bL,cD,Q0,mo];refine bE.intro (QD l.ib c (D:=_) hs hg hn hp) ?_;simp only[am,aN.au];refine aL rfl (af.bg _) ⟨rfl,?_⟩;rw[Bt,aA (by simp[mo])];rfl
 .simp only[am,cV,aR,c7,aR,Q0,mo];refine Jb (by simp) ?_;rw[zY (by simp)];simp only[am,kZ];refine bE.intro (RT x _ hx) ?_;simp only[am,kZ];refine Z8 (by simp[aK];omega) ?_;simp only[am];refine aL rfl (af.bg _) ⟨rfl,?_⟩;rw[Bt,aE mo];simp[mw]
def Hn{f:aQ}{x y:Int}:fQ [1,1] f.enc [.int .i64 x,.int .i64 y]=aa (decide (f=⟨x,y⟩)):=aQ.qQ (g:=⟨x,y⟩)
def agj:aU prog 14 (sq [rg 4 [ox 2 18 0,ox 3 18 1,oz 2],rg 5 [fo 0 2,fo 0 3,nb .eql 6,gA,fo 1 2,fo 1 3,nb .eql 12,gZ,gA,fo 2 2,fo 2 3,oC 34 [19,21],gZ,gA,of 3 2,nl 9,of 3 3,nl 9,oq (.kA ak [1,1,1,1,1,1,1,1,1] (.s 26) (.s 28)),gZ,gA,of 12 2,nl 2,of 12 3,nl 2,oC 35 [33,35],gZ,gA,of 14 2,nl 2,of 14 3,nl 2,oC 35 [40,42],gZ,gA,fo 16 2,fo 16 3,nb .eql 47,gZ,gA,fo 17 2,fo 17 3,nE .eql 54,gZ,o1 4],.ret]) [.tmp 4] 59:=aV func14
def aiK:aU prog 35 (sq [rg 4 [ox 2 2 0,ox 3 2 1,oz 2],sq [rg 6 [fo 1 2,fo 1 3,nb .neq 7,gB,fo 0 2,nL,fo 0 3,nL,nb .neq 14,gZ],cr 19 4 [oz 2]],sq [rg 5 [oi 0],bl 0 (sq [sq [rg 20 [om 5,fo 0 2,nL,nb .lss 20],cx 24 0],.block 1 (sq [dg 27 [fo 0 2,om 5,nA 10 28,nl 10,fo 0 3,om 5,nA 10 33,nl 10,oq (.kA ab [2,1,1,1,1,1,1,1,1,1] (.s 31) (.s 36))],cr 37 4 [oz 2]]),rg 25 [ic 5]])],rg 4 [oq (.mv (.c (.bool ab)))],.ret]) [.tmp 4] 38:=aV func35
def SJ{l:List b8}(h:j<l.length):(l.map b8.enc)[((j:Nat):Int).toNat]?=aa l[j].enc:=by simp[h]
def W8(t:fp)(D:af)(hl:t.fs.length<=100000):a7 35 [.agg t.enc,.agg t.enc] D (.bool ab):=by
 refine aiK.aT ?_;simp only[aS,am,aZ,Nat.reduceAdd,bL,fp.au,aR];refine dK (t.fs.length) (λi (x:Unit)=>⟨[.any,.any,.ptr (.aD 0) 0,.ptr (.aD 1) 0,.any,.int .i64 (i:Nat)]++ar 32 .any,[t.enc,t.enc],D⟩) (λi x=>(True)) λF hF JF bn=>⟨?_,?_,?_⟩
 .exact en bn (()) (trivial)
 .rintro i x hi -;simp only[hF,ar,am,dD hi,fp.au,aR];refine ix (SJ hi) ?_;simp only[am,b8.au,fp.au];refine ix (SJ hi) ?_;simp only[am,bL,a_,b8.au,cG hi];exact nx bn (()) hi (trivial)
 .rintro x -;simp only[hF,ar,am,a_,dY,a_,fp.au,aR];exact rt
def acG(s:aN)(c:az)(hl:c.left.cI<=100000):(mN s c).code.length<=100000:=by
 rw[mN];split
 .have:=acK s (c8 s c) c.left;simp only;omega
 .split<;>simp
def Xm{s:aN}{lat:Nat}{n:Nd}(h:n.cI<=100000):(mZ s lat n).fs.length<=100000:=by
 have:=Ak n
 rw[mZ];split
 .simp
 .simp only[aR];omega
def SK(s:aN)(c:az)(hl:c.left.cI<=100000)(hr:c.right.cI<=100000):(mN s c).a.fs.length<=100000/\(mN s c).b.fs.length<=100000:=by
 rw[mN];split
 .simp[fp.zero]
 .split
  .exact⟨Xm hl,Xm hr⟩
  .simp[fp.zero]
def arG(x:d_)(D:af)(hc:x.code.length<=100000)(ha:x.a.fs.length<=100000)(hb:x.b.fs.length<=100000):a7 14 [.agg x.enc,.agg x.enc] D (.bool ab):=by
 obtain⟨op,lat,code,to,a,b,v,field⟩:=x;show cz prog 14 [.agg (cN op lat (.sl .no 10 (code.map bB.enc)) to (.sl .no 10 (a.fs.map b8.enc)) a.tail (.sl .no 10 (b.fs.map b8.enc)) b.tail v field),.agg (cN op lat (.sl .no 10 (code.map bB.enc)) to (.sl .no 10 (a.fs.map b8.enc)) a.tail (.sl .no 10 (b.fs.map b8.enc)) b.tail v field)] D _;refine agj.aT ?_;simp only[aS,am,aZ,Nat.reduceAdd];simp only[am,bL,l_];refine cl (asL code code D hc hc) ?_;simp only[am,bL,bN.au,l_];refine cl (W8 a D ha) ?_;simp only[am,l_];refine cl (W8 b D hb) ?_;simp only[am,bL,l_];exact rt
def agb:aU prog 12 (sq [rg 0 [oZ 4 [0,0,1,0,7,9,0,0,0,1,7,10,0,0,1,7,10],oR 5 kf,oZ 6 [0,0]],sq [rg 11 [om 0,oq (.r6 ak (.s 11) (.c .jd))],cr 12 13 [oW [0,0,1,0,7,9,0,0,0,1,7,10,0,0,1,7,10] [],oY kf [],oW [0,0] [],os 17 4 13,os 18 5 14,o2 2 6]],dA 17 [7,8,9] [mk 0,nf 0,nf 0,mM [1],nl 2,om 0,oC 15 [22],om 1,oC 29 [21,23,24],o1 16,oe 16 0,oe 16 1,oe 16 2,oN,oN,oN,oX 7 17 26,oX 8 18 27,oX 9 2 28],sq [rg 29 [fo 0 9,nB .neq 0],ci 31 (sq [dg 32 [ol 17 7,mM [1],ol 18 8,mM [1,2],ol 2 9,os 17 4 32,os 18 5 33,o2 2 6],.ret])],.block 0 (sq [rg 36 [fo 0 7,oC 25 [37],o1 35],cd 35 (rg 39 [om 0,ol 17 7,ol 18 8,oC 30 [39,40,41]]) (sq [rg 44 [fo 0 7,nB .eql 11,o1 43],cd 43 (.qf (dg 47 [om 0,mk 0,nF 5,mk 0,nf 0,nl 5,oW [8,8,23,6,0] [(0,5,55)],n1 5,na 5 51,ok 47,nf 5,os 1 60 58])) (sq [rg 62 [fo 0 7,nB .eql 12,o1 61],ci 61 (sq [rg 65 [mk 0,nF 5,nL,nB .sub 1,o1 10],rg 71 [om 0,mk 0,nF 5,om 10,nA 5 75,nf 0,nl 5,ok 71,nf 0,os 5 81 79],rg 82 [om 0,mk 0,nF 5,om 10,om 10,oq (.kV 5 (.s 86) ag (aa (.s 87)) (aa (.s 88))),ok 82,nf 5,os 1 91 89]])])])]),dg 92 [ol 17 7,mM [1],ol 18 8,mM [1,2],ol 2 9,os 17 4 92,os 18 5 93,o2 2 6],.ret]) [.cell 4 ab 17,.cell 5 ab 18,.cell 6 ab 2] 95:=aV func12 ⟨[],[9]⟩
def Vl(ht:t.length<=3000)(h:(fJ s t).2.2.cls=0):Qt (fJ s t).1/\BW (fJ s t).2.1/\(eJ (fJ s t).1).length<=2*t.length/\((fJ s t).1.op=12->s.cq≠[]):=by
 obtain⟨e1,e2,_,_,_,_,e7⟩:=Iy h;have cu:=NY ht;have ha:cM t=((cM t).1,0,0):=by
  obtain⟨a1,_⟩:=at7 h;rw[<-a1]
 refine⟨by rw[fJ,e1];exact cu,?_,by rw[fJ,e1];exact(QG ha).2.2,λju e=>e7 ⟨by rw[fJ,e1] at ju;exact ju,by simp[ft,e]⟩⟩;rw[fJ,e2];split
 .exact⟨acG _ _ cu.l,(SK _ _ cu.l cu.r).1,(SK _ _ cu.l cu.r).2⟩
 .exact⟨by simp[d_.zero],by simp[d_.zero,fp.zero],by simp[d_.zero,fp.zero]⟩
def Z'{r:Nat}{u:Tk}{m n:List (List V)}{K:V->af->Prop}(hk:k = .ba\/k = .tk Z)(hb:m.length+n.length<=aK)(ht:D.aP Z=aa m.length)(h:K (.sl (.tk Z) r (m++n)) (D.aY Z (m.length+n.length))):zM D r (.sl k r m) (.sl u r n) K:=by
 rcases hk with rfl | rfl
 .exact Z9 hb ht h
 .exact vt hb ht h
def Ca(t:List UInt8)(h:vo D b k s)(ho:s.ok)(hg:TZ D)(kg:D.b9 0=aa gC)(ht:t.length<=3000):
 cz prog 12 [.ptr (.out b) 0,.aF t] D λv σ' => v=tD (fJ s t)/\∃k',vo σ' b k' (jo s t)/\Kp D σ' b k k' := by
 have cj:=alH s.live.ib (ft s) t (D:=D) ho.l.s hg kg ht;have hlen:=Vl (s:=s) ht;have hd:jo s t=pE s (fJ s t):=rfl;rw[show lP s.live.ib (ft s) t=fJ s t from rfl] at cj;rw[hd];have bj:=ho.n;generalize fJ s t=X at cj hlen;obtain⟨c,x,f⟩:=X;simp only[tD] at cj hlen ⊢;have hb:=h.b;rw[mw] at hb;refine agb.aT ?_;simp only[aS,am,aZ,Nat.reduceAdd,bL,Nat.reduceLT,GI];simp only[am,hb];refine bE.intro (Bq h.b (by omega)) ?_;simp only[am,Rm.au];refine bE.intro cj ?_;simp only[am,Nat.reduceAdd,aQ.au,cD,kZ];refine⟨by rw[hb];rfl,?_⟩;have fin:∀{t:List V} {lo:List (List V)} {σ' : af} {k' : Tk} {s' : fP},s' = pE s (c,x,f)->vo σ' b k' s' -> Kp D σ' b k k' -> n8 (λv σ' => v = .bt [.agg c.enc,.agg x.enc,.agg f.enc]/\∃k',vo σ' b k' (pE s (c,x,f))/\Kp D σ' b k k') ⟨t,lo,σ'⟩ (.bt [.agg c.enc,.agg x.enc,.agg f.enc]):=λ{t lo σ' k' s'} e h1 h2=>by
  refine aL (by simp only[V.cY,bO,d_.dV];rfl) (af.bg _) ⟨?_,k',by rw[<-e];exact h1,h2⟩;simp only[V.erase,aX,d_.dO];rfl
 by_cases hf:f.cls=0
 case neg =>
  simp only[am,c7,aQ.au,cD,kZ,hf];exact fin (by rw[pE,aE hf]) h Kp.rfl
 obtain⟨cu,hx,y6,aW⟩:=hlen hf;simp only[am,bL,fk,hf];refine cl (Yv c.op _) ?_;cases eP:rL c.op with
 | true =>
  simp only[am,cD,kZ];refine cl (atE c x h.b ho.l hg kg cu.n cu.p cu.w hx (by omega)) ?_;simp only[am,aQ.au,cD,kZ];refine fin (k' := k) (s' := ⟨Bt s.live c x,s.cq⟩) (by rw[pE,aA (by simp[hf]),aE eP]) ⟨jh,?_⟩ ⟨λc hc=>qS hc,λ_ _ _ h=>h,rfl,λ_ h=>.inl h⟩;exact h.t
 | false =>
  simp only[am,fk]
  by_cases Ei:c.op=11
  .simp only[am,bL,Ei];have up:∀{K:St->Prop} {t:List V} {lo:List (List V)},(∀Z cU,cU.aP Z=aa s.cq.length->cU.box=D.box->cU.b9=D.b9->(∀t' n,k≠.tk t' -> D.aP t' = aa n->cU.aP t' = aa n/\t' ≠ Z)->(k = .tk Z\/D.aP Z=ag)->(k = .ba\/k = .tk Z)->K ⟨t,lo,cU⟩)->bm ⟨t,lo,D⟩ K:=λ{K t lo} hk=>by
    have ht:=h.t;cases k with
    | no=>exact ht.elim
    | ba=>exact bm.tok s.cq.length λZ bc=>⟨t,lo,D,eZ.rfl,rfl,λ_ c' hc=>⟨c',hc,eZ.rfl⟩,qY.rfl,hk Z _ gw rfl rfl (λt' n _ ry => by
     have:t' ≠ Z:=λe=>by rw[e,bc] at ry;simp at ry
     exact⟨by rw[qe this];exact ry,this⟩) (.inr bc) (.inl rfl)⟩
    | tk Z=>exact bm.eT cQ.rfl cC.rfl bK.rfl (hk Z D ht rfl rfl (λt' n hn ry => ⟨ry,λe=>hn (by rw[e])⟩) (.inl rfl) (.inr rfl))
   refine up λZ cU u1 u2 u3 u4 u5 u6=>?_
   have e_:cU.box b=aa _:=(congrFun u2 b).trans hb;simp only[am,Nat.reduceAdd,e_];refine Z' u6 (by simp[aK];omega) (by simp;exact u1) ?_;simp only[am,aR,aQ.au,aR,cD,kZ,e_];have akX:∀t' n,k≠.tk t' -> D.aP t' = aa n->((cU.aY Z (s.cq.length+1)).aP t')=aa n:=λt' n hn ry => by
    obtain⟨a1,a2⟩:=u4 t' n hn ry;rw[qe a2];exact a1
   refine fin (k' := .tk Z) (s' := ⟨s.live,s.cq++[s.live]⟩) (by rw[pE,aA (by simp[hf]),aA (by simp[eP]),aE Ei]) ⟨?_,?_⟩ ⟨λc hc=>?_,akX,u3,λt' e=>?_⟩
   .rw[jh];simp[mw,vK]
   .show(cU.aY Z (s.cq.length+1)).aP Z=aa (s.cq++[s.live]).length;rw[gw];simp
   .rw[qS hc];exact congrFun u2 c
   .simp only[Tk.tk.injEq] at e;subst e;exact u5
  .simp only[am,c7,fk,Ei]
   by_cases ju:c.op=12
   .simp only[am,bL,ju];have aW:=aW ju;obtain⟨fr,l,lI⟩:∃fr l,s.cq=fr++[l]:=⟨s.cq.dropLast,s.cq.getLast aW,(List.dropLast_concat_getLast aW).symm⟩;have kF:pE s (c,x,f)=⟨l,fr⟩:=by
     rw[pE,aA (by simp[hf]),aA (by simp[eP]),aA Ei,aE ju,lI];simp
    have vW:fr.length<=100:=by rw[lI] at bj;simp at bj;omega
    have hmp:s.cq.map vK=fr.map vK++[vK l]:=by rw[lI];simp
    rw[hmp] at hb;have hw:IntKind.i64.wrap (((fr.map vK++[vK l]).length:Nat) - 1)=((fr.length:Nat):Int):=by
     simp only[bP,aR,gM];rw[wrap_i64];omega
    simp only[am,hb,hw];refine qD (c:=vK l) (by omega) (by simp) ?_;simp only[am,cV,Nat.reduceAdd,vK,hb];refine Jb (by simp) ?_;rw[show fr.length=(fr.map vK).length by simp,List.take_left];simp only[am,aR,aQ.au,aR,cD,kZ];refine fin (k' := .ba) (s' := ⟨l,fr⟩) kF.symm ⟨?_,trivial⟩ ⟨λc hc=>?_,λ_ _ _ h=>h,rfl,λt' e=>by simp at e⟩
    .rw[jh];simp[mw]
    .rw[qS hc]
   .simp only[am,c7,aQ.au,cD,kZ,ju];exact fin (by simp[pE,hf,eP,Ei,ju]) h Kp.rfl
def ag4:aU prog 20 (sq [rg 4 [oz 2],sq [rg 6 [om 0,nL,om 1,nL,nb .neq 7],cr 10 4 [oz 2]],sq [rg 5 [oi 0],bl 0 (sq [sq [rg 11 [om 5,om 0,nL,nb .lss 11],cx 14 0],.block 1 (sq [dg 17 [om 0,om 5,nA 1 17,no,om 1,om 5,nA 1 21,no,nE .neq 20],cr 25 4 [oz 2]]),rg 15 [ic 5]])],rg 4 [oq (.mv (.c (.bool ab)))],.ret]) [.tmp 4] 26:=aV func20
def aiL:aU prog 41 (sq [rg 4 [ox 2 2 0,ox 3 2 1,oz 2],sq [rg 7 [fo 0 2,nL,fo 0 3,nL,nb .neq 9,gB,fo 1 2,nL,fo 1 3,nL,nb .neq 17,gZ],cr 22 4 [oz 2]],sq [rg 5 [oi 0],bl 0 (sq [sq [rg 23 [om 5,fo 0 2,nL,nb .lss 23],cx 27 0],.block 1 (sq [dg 30 [fo 0 2,om 5,nA 3 31,nF 0,fo 0 3,om 5,nA 3 37,nF 0,nE .neq 35,gB,fo 0 2,om 5,nA 3 45,nf 1,nl 2,fo 0 3,om 5,nA 3 51,nf 1,nl 2,oC 71 [49,55],nn,gZ],cr 58 4 [oz 2]]),rg 28 [ic 5]])],sq [rg 6 [oi 0],bl 2 (sq [sq [rg 59 [om 6,fo 1 2,nL,nb .lss 59],cx 63 2],.block 3 (sq [dg 66 [fo 1 2,om 6,nA 3 67,nl 3,fo 1 3,om 6,nA 3 72,nl 3,oq (.kA ab [2,1,1] (.s 70) (.s 75))],cr 76 4 [oz 2]]),rg 64 [ic 6]])],rg 4 [oq (.mv (.c (.bool ab)))],.ret]) [.tmp 4] 77:=aV func41
def ai0:aU prog 71 (sq [rg 4 [ox 2 2 0,ox 3 2 1,oz 2],sq [rg 8 [fo 0 2,fo 0 3,oq (.vz ab (.s 9) (.s 11)),gB,fo 1 2,nL,fo 1 3,nL,nb .neq 16,gZ],cr 21 4 [oz 2]],sq [rg 5 [oi 0],bl 0 (sq [sq [rg 22 [om 5,fo 1 2,nL,nb .lss 22],cx 26 0],.block 1 (sq [dA 29 [6,7] [fo 1 2,om 5,nA 67 30,nl 67,of 1 3,mM [1],no,om 5,nA 67 35,mM [1],nl 67,oN,oN,oX 6 67 33,oX 7 67 38],rg 39 [fo 0 6,fo 0 7,nb .neq 40,gB,fo 1 6,fo 1 7,oC 20 [46,48],nn,gZ,gB,of 2 6,nl 65,of 2 7,nl 65,oC 136 [54,56],nn,gZ],cr 59 4 [oz 2]]),rg 27 [ic 5]])],rg 4 [oq (.mv (.c (.bool ab)))],.ret]) [.tmp 4] 60:=aV func71
def awa:=ah @am <| ah @aZ <| ah @bL @ia
def asE(l:List (List UInt8))(D:af)(hl:l.length<=100000):a7 20 [.sl .no 1 (cX l),.sl .no 1 (cX l)] D (.bool ab):=by
 refine ag4.aT ?_;simp only[aS,awa,Nat.reduceAdd];refine dK (l.length) (λi (x:Unit)=>⟨[.sl .no 1 (cX l),.sl .no 1 (cX l),.any,.any,.any,.int .i64 (i:Nat)]++ar 20 .any,[],D⟩) (λi x=>(True)) λF hF JF bn=>⟨?_,?_,?_⟩
 .exact en bn (()) (trivial)
 .rintro i x hi -;simp only[hF,ar,am,dD hi,ia];refine ix (A7 hi) ?_;simp only[am];refine ix (A7 hi) ?_;simp only[am,bL,a_,cG hi];exact nx bn (()) hi (trivial)
 .rintro x -;simp only[hF,ar,am,a_,dY,a_,ia];exact aL rfl (af.bg _) ⟨rfl,rfl⟩
def awb:=ah @am <| ah @aZ <| ah @bL @bC.au
def awc:=ah @am <| ah @bL <| ah @bw.au @bC.au
def asF(x:bC)(D:af)(hx:x.ok):a7 71 [.agg x.enc,.agg x.enc] D (.bool ab):=by
 obtain⟨h1,h2⟩:=hx;refine ai0.aT ?_;simp only[aS,awb,Nat.reduceAdd,aR];refine dK (x.bQ.length) (λi (y:Unit)=>⟨[.any,.any,.ptr (.aD 0) 0,.ptr (.aD 1) 0,.any,.int .i64 (i:Nat)]++ar 54 .any,[x.enc,x.enc],D⟩) (λi y=>(True)) λF hF JF bn=>⟨?_,?_,?_⟩
 .exact en bn (()) (trivial)
 .rintro i y hi -;simp only[hF,ar,am,dD hi,Nat.reduceAdd,bL,Nat.reduceLT,bC.au,aR];refine ix (K6 hi) ?_;simp only[am,bw.au,bC.au];refine ix (K6 hi) ?_;simp only[awc,Nat.reduceAdd];refine cl (asE x.bQ[i].an D (h2 _ (fg hi))) ?_;simp only[am,Rl.au,bw.au];refine cl (ash x.bQ[i].rel x.bQ[i].rel D) ?_;simp only[am,bL,a_,cG hi];refine fK (()) hi ?_ ?_ ?_ ?_ ?_ ?_
  .exact eU (bn _ _) (trivial)
  all_goals simp[hF,ar,am,bT,bR,dw,V.lo,bC.cT]
 .rintro y -;simp only[hF,ar,am,a_,dY,a_,bC.au,aR];exact aL rfl (af.bg _) ⟨rfl,rfl⟩
def YT{l:List dC}(h:j<l.length):(l.map dC.enc)[((j:Nat):Int).toNat]?=aa l[j].enc:=by simp[h]
def auT{v:dC}:fQ [2,1,1] v.enc v.enc=aa true:=by rw[dC.enc,K1,r5,r5,He,qn,qn,qn];simp
def awd:=ah @am <| ah @aZ <| ah @bL @aN.au
def asG(s:aN)(D:af)(hs:s.ok):a7 41 [.agg s.enc,.agg s.enc] D (.bool ab):=by
 obtain⟨h1,h2,h3⟩:=hs;refine aiL.aT ?_;simp only[aS,awd,Nat.reduceAdd,aR];refine dK (s.bz.length) (λi (y:Unit)=>⟨[.any,.any,.ptr (.aD 0) 0,.ptr (.aD 1) 0,.any,.int .i64 (i:Nat)]++ar 71 .any,[s.enc,s.enc],D⟩) (λi y=>(True)) λF hF JF bn=>⟨?_,?_,?_⟩
 .exact en bn (()) (trivial)
 .rintro i y hi -;simp only[hF,ar,am,dD hi,aN.au,aR];refine ix (xH hi) ?_;simp only[am,aN.au];refine ix (xH hi) ?_;simp only[am,bL,aN.au];refine ix (xH hi) ?_;simp only[am,aN.au];refine ix (xH hi) ?_;simp only[am,aN.au,bC.au];refine bE.intro (asF s.bz[i].shape D (h3 _ (fg hi))) ?_;simp only[am,a_,cG hi];exact nx bn (()) hi (trivial)
 .rintro y -;simp only[hF,ar,am,a_,dY,a_,aN.au,aR];refine dK (s.vars.length) (λi (x:Unit)=>⟨[.any,.any,.ptr (.aD 0) 0,.ptr (.aD 1) 0,.any,.any,.int .i64 (i:Nat)]++ar 70 .any,[s.enc,s.enc],D⟩) (λi x=>(True)) λF2 ep yf iO=>⟨?_,?_,?_⟩
  .refine en iO (()) (trivial) ?_ ?_ ?_
   all_goals simp[ep,ar,am,bT]
  .rintro i x hj -;simp only[ep,ar,am,dD hj,aN.au,aR];refine ix (YT hj) ?_;simp only[am,aN.au,dC.FG];refine ix (YT hj) ?_;simp only[am,a_,dC.FG,auT,cG hj];refine nx iO (()) hj (trivial) ?_ ?_ ?_
   all_goals simp[ep,ar,am,bT]
  .rintro x -;simp only[ep,ar,am,a_,dY,a_,aN.au,aR];exact aL rfl (af.bg _) ⟨rfl,rfl⟩
def fn8:aU prog 8 (sq [rg 2 [oz 2],sq [rg 5 [om 0,nL,nB .gtr 60],cr 7 2 [oq (.mv (.c (.bool ab)))]],sq [rg 8 [om 0,nL,oi 0],lp 9 0 (sq [rg 12 [oA 1 8 10,no,o1 4],rg 14 [om 4,nT,nB .gtr 1500],cr 16 2 [oq (.mv (.c (.bool ab)))]]) 17],rg 2 [oz 2],.ret]) [.tmp 2] 18:=aV func8
def afS:aU prog 10 (sq [rg 0 [oq (.mv (.c .jd))],rg 1 [oW [8,8,23,6,0,10] [],oq (.gO 6 (.s 1)),o1 0],.ret]) [.tmp 0] 3:=aV func10 ⟨[2],[]⟩
def ahs:aU prog 23 (sq [rg 4 [ox 2 3 0,ox 3 3 1,oz 2],sq [rg 6 [of 0 2,nl 2,of 0 3,nl 2,oC 41 [7,9],nn,gB,fo 2 2,nL,fo 2 3,nL,nb .neq 15,gZ],cr 20 4 [oz 2]],sq [rg 21 [fo 2 2,nL,oi 0],lp 23 0 (sq [rg 26 [om 24,o1 5],dg 27 [fo 2 2,om 5,nA 18 28,nl 18,fo 2 3,om 5,nA 18 33,nl 18,oC 14 [31,36],nn],cr 38 4 [oz 2]]) 39],rg 4 [oq (.mv (.c (.bool ab)))],.ret]) [.tmp 4] 40:=aV func23
def yv(l:List (List UInt8)):Bool:=decide (60<l.length)||l.any λt=>decide (1500<t.length)
def Q9(h:yv l=ak):l.length<=60/\∀t∈l,t.length<=1500:=by
 simp only[yv,BN,Ao,List.any_eq_false,cn] at h;exact⟨by omega,λt ht=>by have:=h.2 t ht;omega⟩
def Z7(hi:i<l.length){p:List UInt8->Bool}:(l.take (i+1)).any p=((l.take i).any p||p l[i]):=by
 rw[jl hi,List.any_append];simp
def Q8(l:List (List UInt8))(D:af):a7 8 [.sl .no 1 (cX l)] D (.bool (yv l)):=by
 refine fn8.aT ?_;simp only[aS,am,aZ,Nat.reduceAdd,ia]
 by_cases h:60<l.length
 .simp only[am,aJ (show(60:Int)<l.length by omega)];exact aL rfl (af.bg _) ⟨by rw[yv,aJ h];rfl,rfl⟩
 simp only[am,ia,aI (show ¬(60:Int)<l.length by omega)];refine dK (l.length) (λi (x:Unit)=>⟨[.any,.any,.any,.any,.any,.any,.any,.any,.sl .no 1 (cX l),.int .i64 (l.length:Nat),.int .i64 (i:Nat)]++ar 7 .any,[],D⟩) (λi x=>((l.take i).any (λt=>decide (1500<t.length))=ak)) λF hF JF bn=>⟨?_,?_,?_⟩
 .exact en bn (()) (rfl)
 .rintro i x hi hx;simp only[hF,ar,am,dD hi];refine ix (A7 hi) ?_;simp only[am]
  by_cases hq:1500<l[i].length
  .simp only[am,a_,aJ (show(1500:Int)<l[i].length by omega)];refine aL rfl (af.bg _) ⟨?_,rfl⟩
   have:l.any (λt=>decide (1500<t.length))=true:=BR.2 ⟨l[i],fg hi,aJ hq⟩
   rw[yv,this,Bool.or_true];rfl
  .simp only[am,a_,aI (show ¬(1500:Int)<l[i].length by omega),cG hi];exact nx bn (()) hi (by rw[Z7 hi,hx,aI hq];rfl)
 .rintro x hx;simp only[hF,ar,am,a_,dY,a_];rw[fm] at hx;exact aL rfl (af.bg _) ⟨by rw[yv,hx,aI h];rfl,rfl⟩
def jx(l:Lv):List V:=[.sl .no 3 (l.ib.bz.map ei.enc),.sl .no 3 (l.ib.vars.map dC.enc),.sl .no 18 (l.iW.map d_.enc)]
def aqU(l:Lv)(D:af)(ho:l.ok):a7 23 [.agg (jx l),.agg (jx l)] D (.bool ab):=by
 have hm:=ho.m;have ha:=ho.a;have Rh:=asG l.ib D ho.s.1;rw[aN.enc] at Rh;have hp:∀{n:Nat},jx l=jx l:=rfl;refine ahs.aT ?_;simp only[aS,am,aZ,Nat.reduceAdd];simp only[jx];simp only[am,Nat.reduceAdd];refine cl (Rh) ?_;simp only[am,aR,bL,aR];refine dK (l.iW.length) (λi (x:Unit)=>⟨[.any,.any,.ptr (.aD 0) 0,.ptr (.aD 1) 0,.any,.any,.any,.any,.any,.any,.any,.any,.any,.any,.any,.any,.any,.any,.any,.any,.any,.any,.any,.int .i64 (l.iW.length:Nat),.int .i64 (i:Nat)]++ar 15 .any,[jx l,jx l],D⟩) (λi x=>(True)) λF hF JF bn=>⟨?_,?_,?_⟩
 .refine en bn (()) (trivial) ?_ ?_ ?_
  all_goals simp[hF,ar,am,bT,jx]
 .rintro i x hi -;have ci:=ha _ (fg hi);simp only[hF,ar,am,dD hi];simp only[jx];simp only[am];refine ix (Kq hi) ?_;simp only[am,kZ];refine ix (Kq hi) ?_;simp only[am,kZ];refine bE.intro (arG l.iW[i] D ci.c ci.a ci.b) ?_;simp only[am,a_,cG hi];refine nx bn (()) hi (trivial) ?_ ?_ ?_
  all_goals simp[hF,ar,am,bT,jx]
 .rintro x -;simp only[hF,ar,am,a_,dY,a_];exact aL rfl (af.bg _) ⟨rfl,rfl⟩
def atn(D:af):cz prog 10 [] D λv σ' => ∃b,v = .ptr (.out b) 0/\D.box b=ag/\σ' = D.set b S4:=by
 refine afS.aT ?_;simp only[aS,am,aZ,Nat.reduceAdd];intro b hb;simp only[am];exact aL rfl (af.bg _) ⟨b,rfl,hb,rfl⟩
def fn9:aU prog 9 (sq [rg 0 [oz 2],rg 10 [oC 10 [],o1 1],sq [rg 11 [oq (.jn 1 [(.c (.aF [99,104,97,105,110,32,107,32,123,97,44,98,125])),(.c (.aF [112,117,115,104])),(.c (.aF [108,97,98,101,108,32,107,32,32,123,120,125])),(.c (.aF [112,111,112]))]),nL,oi 0],lp 12 0 (sq [rg 15 [oA 1 11 13,no,o1 3],rg 18 [om 1,om 3,oC 12 [18,19],o1 17,oe 17 0,oe 17 1,oe 17 2,oZ 4 [0,0,1,0,7,9,0,0,0,1,7,10,0,0,1,7,10],oR 5 kf,oZ 6 [0,0],os 17 4 21,os 18 5 22,o2 2 6],rg 24 [ol 2 6,oW [0,0] [],oq (.kA ab [1,1] (.s 24) (.s 25))],cr 26 0 [oz 2]]) 27],rg 29 [om 1,oc 12 [.s 29,.c (.aF [112,111,112])],o1 28,oe 28 0,oe 28 1,oe 28 2,oZ 7 [0,0,1,0,7,9,0,0,0,1,7,10,0,0,1,7,10],oR 8 kf,oZ 9 [0,0],os 17 7 31,os 18 8 32,o2 2 9],rg 34 [om 1,oC 11 [34],oq (.pA .eql (.s 35) (.c (.aF [99,104,97,105,110,32,107,32,123,97,44,98,125,10]))),gA,ol 2 9,oG [0,0] [(0,1,.c (.int .i64 8))],oq (.kA ak [1,1] (.s 38) (.s 39)),gZ,gA,om 1,oC 15 [43],oG [0,0,0] [(0,1,.c (.int .i64 14)),(2,1,.c (.int .i64 1))],oq (.kA ak [1,1,1] (.s 44) (.s 45)),gZ,o1 0],.ret]) [.tmp 0] 48:=aV func9
def UX(D:af):cz prog 10 [] D λv σ' => ∃b,v = .ptr (.out b) 0/\D.box b=ag/\σ' = D.set b (mw .ba .zero) :=
 cz.up (atn D) λv σ' ⟨b,h1,h2,h3⟩=>⟨_,by rw[h3];exact bK.set ajz,b,h1,h2,rfl⟩
def R3(hs:s.ok)(ht:t.length<=3000):(jo s t).ok:=by
 by_cases h:(fJ s t).2.2.cls=0
 .exact adR hs (NY ht).n (Vl ht h).2.1
 .rw[jo,pE,aE h];exact hs
def S0:∀{l:List (List UInt8)} {s:fP},s.ok->(∀t∈l,t.length<=3000)->(l.foldl jo s).ok
 | [],_,hs,_=>hs
 | t::l,_,hs,h=>S0 (l:=l) (R3 hs (h t (by simp))) λx hx=>h x (by simp[hx])
def am6(h:s.ok):s.live.lines.length<=100000:=by
 have h1:=@IF s.live.lines;have h2:=h.l.t;omega
def M_(h:D.box b=aa (mw k s))(ho:s.ok):a7 11 [.ptr (.out b) 0] D (.aF (qT s.live.lines)) :=
 atJ rfl (by have:=ho.l.t;omega) (am5 h (am6 ho))
def Hh:(pF i).ok:=S0 Yw λt ht=>So t (BU ht)
def Kh(hg:TZ D)(kg:D.b9 0=aa gC):a7 9 [] D (.bool ab):=by
 refine fn9.aT ?_;simp only[aS,am,aZ,Nat.reduceAdd];refine(UX D).mono ?_;rintro v cU ⟨b,rfl,hb,rfl⟩;simp only[am,Nat.reduceAdd];refine dK (4) (λi (x:af × Tk)=>⟨[.any,.ptr (.out b) 0,.any,.any,.any,.any,.any,.any,.any,.any,.any,.sl .ba 1 (cX vM),.int .i64 4,.int .i64 (i:Nat)]++ar 34 .any,[],x.1⟩) (λi x=>(vo x.1 b x.2 (pF i)/\D.sub x.1/\DP D x.2/\x.1.b9=D.b9)) λF hF JF bn=>⟨?_,?_,?_⟩
 .refine en bn ((D.set b (mw .ba .zero),.ba)) (⟨XV,Yy hb,by simp[DP],rfl⟩) ?_ ?_ ?_
  all_goals simp[hF,ar,am,bT,vM,cX]
 .rintro i ⟨fc,k⟩ hi ⟨h1,h2,h3,h4⟩;simp only at h1 h2 h3 h4;have du : i<vM.length:=hi;have hf:=ae8 ⟨i,hi⟩;rw[r9 du] at hf;have cd:=Ca vM[i] h1 Hh (show TZ fc from by rw[TZ,h4];exact hg) (by rw[h4];exact kg) (So _ (fg du));generalize fJ (pF i) vM[i]=X at cd hf;obtain⟨c,y,f⟩:=X;simp only at hf;subst hf;simp only[tD] at cd;simp only[hF,ar,am];simp only[am,aJ (show((i:Nat):Int)<4 by omega)];refine ix (A7 du) ?_;simp only[am];refine cd.mono ?_;rintro v mG ⟨rfl,k',h5,h6⟩;simp only[am,Nat.reduceAdd,aQ.au,cD,kZ];simp only[am,bL,a_,Hn,cG hi];obtain⟨h7,h8⟩:=Kp.sub h2 hb h3 h6;refine fK ((mG,k')) hi ?_ ?_ ?_ ?_ ?_ ?_
  .exact eU (bn _ _) (⟨by rw[ae7 du];exact h5,h7,h8,h6.c.trans h4⟩)
  all_goals simp[hF,ar,am,bT,bR,dw,V.lo,az.enc,az.cP]
 .rintro⟨fc,k⟩ ⟨h1,h2,h3,h4⟩;simp only[hF,ar,am];simp only[am,a_,aI (show ¬(((4:Nat):Int)<4) by decide)];have cd:=Ca pf h1 Hh (show TZ fc from by rw[TZ,h4];exact hg) (by rw[h4];exact kg) (by decide);have hf:=ae9;have hd:jo (pF 4) pf=pF 4:=by rw[jo,pE,aE (by rw[hf];decide)]
  rw[hd] at cd;generalize fJ (pF 4) pf=X at cd hf;obtain⟨c,y,f⟩:=X;simp only at hf;subst hf;simp only[tD] at cd;refine cd.mono ?_;rintro v mG ⟨rfl,k',h5,h6⟩;simp only[am,Nat.reduceAdd,aQ.au,cD,kZ];have ct:=M_ h5.b Hh;have cr:=Bq h5.b (by have:=Hh (i:=4) |>.n;omega);rw[ae'] at ct;refine cl ct ?_;simp only[am,bL,aQ.au];simp only[am,bL,Hn];have er:ft (pF 4)=⟨14,0,1⟩:=by
   obtain⟨r1,r2,r3⟩:=ae_;rw[ft,r1,r2,r3];rfl
  rw[er] at cr;refine cl cr ?_;simp only[am,bL,Rm.enc];exact aL rfl (Kp.sub h2 hb h3 h6).1 ⟨rfl,rfl⟩
end Go.Proofs.Tryz
namespace Go.Am
open Go.ChangeShapes Go.WideShapes Go.ChangeAt Go.RowKit
structure zN{H:Type}(B:DataW H->Nat)(BA:List (DataW H)->Nat):Prop where
 aF:∀b,B (.lit (.string b))=b.length+1
 int:∀k n,B (.lit (.int k n))=1
 bool:∀b,B (.lit (.bool b))=1
 nil:B .nil=1
 slice:∀e s,B (.slice e s)=BA e+BA s+1
 agg:∀p,B (.agg p)=BA p+1
 no:BA []=0
 cons:∀d r,BA (d::r)=B d+BA r
def vL(W:World):Env:=⟨W,λ_=>.const,λ_=>ag,λ_=>ag⟩
section
variable {H:Type} {enc:TypeId × Value->H} {P:Program} {W:World} {sp:Nat->Bool} {B:DataW H->Nat} {BA:List (DataW H)->Nat}
variable{cs:List Value}
def arI{t:TypeId}{n:Nat}{x:DataW H × List MemPlace}(ht:P.underlying t=aa .string)(hB:zN B BA)(h:DataW.trod enc P W 0 sp ab n t cs=aa x):
 ∃s:List UInt8,RL (vL W) [.aF s] cs/\(∀v∈cs,v.oneCell' = ab)/\s.length+1=B x.1:=by
 obtain⟨s,rfl,rfl,_⟩:=DataW.trod_string ht h;exact⟨s.data.toList,by simp[RL,R],by simp[Value.oneCell'],(hB.aF _).symm⟩
def W3{U:Type}(ea:U->List V)(sz:U->Nat){e:TypeId}{k n:Nat}(hB:zN B BA)(hk:P.cellsOf e=k)(hlen:∀y,(ea y).length=k)
 (mi:∀cs x,DataW.trod enc P W 0 sp ab n e cs=aa x->∃y:U,RL (vL W) (ea y) cs/\(∀v∈cs,v.oneCell' = ab)/\sz y<=B x.1) {b o:Nat} :
 ∀(vJ:List (DataW H × List MemPlace)) (i:Nat),(∀j,j<vJ.length->(W.cells? 0 (Addr.add ⟨b,o,ag⟩ ((i+j)*k)) k).bind (DataW.trod enc P W 0 sp ab n e)=vJ[j]?) ->
  ∃l:List U,l.length=vJ.length/\gq (vL W).nl k (l.map ea) b (o+i*k)/\(l.map sz).sum<=BA (vJ.map (·.1))
 | [],i,_=>⟨[],rfl,by simp[gq],by simp⟩
 | x :: vJ, i, h => by
  obtain⟨l,h1,h2,h3⟩:=W3 ea sz hB hk hlen mi vJ (i+1) λj hj=>by
   have:=h (j+1) (by simp;omega)
   rw[show i+(j+1)=i+1+j by omega] at this;simpa using this
  have h0:=h 0 (by simp);simp only[wO,JZ] at h0;obtain⟨cs,hc,hr⟩:=iI.1 h0;obtain⟨y,k1,k2,k3⟩:=mi cs x hr;obtain⟨_,hl,vT⟩:=World.cells?_some hc;refine⟨y::l,by simp[h1],?_,?_⟩
  .simp only[ch,gq];refine⟨hlen y,BZ k1 k2 (λj v hv=>?_) (λ_ _=>trivial),by rw[show o+i*k+k=o+(i+1)*k by rw[jD];omega];exact h2⟩;have hj:j<k:=by have:=(fv.1 hv).1;omega
   have:=vT j hj
   rw[l9,l9] at this;show W.cell? _=_;rw[this,hv]
  .simp only[ch,n7,hB.cons];omega
variable{e:TypeId}{fuel:Nat}{U:Type}
def arH(ea:U->List V)(sz:U->Nat){t:TypeId}{k:Nat}(hB:zN B BA)(ht:P.underlying t=aa (.slice e))(hk:P.cellsOf e=k)(gi:0<k)(hlen:∀y,(ea y).length=k)
 (mi:∀n,n<fuel->∀cs x,DataW.trod enc P W 0 sp ab n e cs=aa x->∃y:U,RL (vL W) (ea y) cs/\(∀v∈cs,v.oneCell' = ab)/\sz y<=B x.1)
 {cs:List Value} {x:DataW H × List MemPlace} (h:DataW.trod enc P W 0 sp ab fuel t cs=aa x) :
 ∃l:List U,RL (vL W) [.sl .no k (l.map ea)] cs/\(∀v∈cs,v.oneCell' = ab)/\(l.map sz).sum+1<=B x.1:=by
 rcases DataW.trod_slice ht h with ⟨rfl,rfl⟩ | ⟨a,len,cap,elems,rest,n,rfl,rfl,rfl,_,hle,_,hl,TY,_,_⟩
 .refine⟨[],?_,by simp[Value.oneCell'],by simp[hB.nil]⟩;simp only[RL,R,fh,il];exact⟨ag,0,rfl,by simp,by simp,trivial⟩
 .have ha:elems=[]\/∃b o,a=⟨b,o,ag⟩:=by
   cases elems with
   | nil=>exact .inl rfl
   | cons y ys =>
    right;have h0:=TY 0 (by rw[<-hl];simp);simp only[JZ] at h0;obtain⟨cs',hc,_⟩:=iI.1 h0;obtain⟨_,iq,vT⟩:=World.cells?_some hc;have h1:=vT 0 (by rw[hk];exact gi);have h2:cs'[0]?=aa (cs'[0]'(by rw[iq,hk];exact gi)):=cS _;rw[h2] at h1;obtain⟨b,o,s⟩:=a;refine⟨b,o,?_⟩;simp only[World.cell?] at h1;cases s with
    | none=>rfl
    | some s =>
     split at h1
     .simp[Addr.add] at h1
     .simp at h1
  rcases ha with rfl | ⟨b,o,rfl⟩
  .refine⟨[],?_,by simp[Value.oneCell'],by simp[hB.slice]⟩;simp only[eM] at hl;subst hl;simp only[RL,R,fh,il];exact⟨aa a,cap,rfl,by simp,by simp,trivial⟩
  .obtain⟨l,h1,h2,h3⟩:=W3 (B:=B) (BA:=BA) (sp:=sp) (enc:=enc) (P:=P) (W:=W) (n:=n) ea sz hB hk hlen (mi n (Qp n)) elems 0 (λj hj=>by
    have:=TY j (by omega)
    rw[hk] at this;rw[jY];exact this)
   refine⟨l,?_,by simp[Value.oneCell'],?_⟩
   .simp only[RL,R,aR,il];exact⟨aa ⟨b,o,ag⟩,cap,by rw[h1,hl],by omega,.inr ⟨b,o,rfl,by simpa using h2⟩,trivial⟩
   .rw[hB.slice];omega
end
variable{H:Type}{P:Program}{W:World}{args:Array Value}{before:List MemPlace}{f:Func}{tb:TypeId}
def aqQ{enc:TypeId × Value->H}{s:ChangeSpec}{ds:List (DataW H)}
 (hl:laidOutB P=ab) (hm:mapsRowed P=ab) (hz:((bX P.types.size).all λt=>match P.underlying t with | some (.slice e)=>decide (0<P.cellsOf e) | _=>ab)=ab)
 (bx:f.resultTypes=#[tb]) (CP:P.underlying tb=aa .bool) (EN:∀t∈f.params.toList,t<P.types.size) (CR:s.vars=[]) (vW:(s.fn H ds).results=[.lit (.bool ab)]/\(s.fn H ds).args=ds/\(s.fn H ds).vars=[])
 (hW:DataW.Whole enc P f.params.toList s.vars ak W args.toList ds [] before) {W' : World} (hos:W'.os=W.os) (ak6:W'.output=W.output) (akE:∀a,W'.frozen? a=W.frozen? a) (mu:∀b,b<W.heap.size->W'.heap[b]?=W.heap[b]?) :
 s.post enc P f ak ab ak ak W args (.bool ab) W' := by
 have Er := hW;obtain⟨p,q,hA,hV,rfl,L6,EI⟩:=hW;rw[CR] at hV;obtain⟨_,rfl⟩:=trodVars_none hV;have akQ:W.keptBut W' (λ_=>False):=by
  refine⟨hos,ak6,λi hi=>?_⟩;rw[mu i hi];cases W.heap[i]? with
  | none=>rfl
  | some ob=>cases ob<;>simp
 simp only[eK] at Er;have kF:s.fn H (ds++[])=s.fn H ds:=by rw[eK]
 refine post_of_same (pa:=p) (pv:=[]) Er (λb Jc hd=>?_) (λJc hs=>?_) (λJc hs=>?_) (by simp) (World.keptBut_mono (λ_ h=>h.elim) akQ) ?_ (ok_one bx rfl (okWide_bool_mk CP _))
 .rw[kF,vW.1,bx];exact trodAll_cons_mk (shut_bool CP _) trodAll_mk0
 .rw[kF,vW.2.1];have aC:=DataW.TrodAll.lt hA;have key:∀(ts:List TypeId) (vs:List Value) (ds:List (DataW H)) (ps:List MemPlace),(∀t∈ts,t<P.types.size)->DataW.TrodAll enc P W 0 (λ_=>ab) ab ts vs ds ps->(∀x∈ps,x.block<W.heap.size)->(∀x∈ps,Jc x.block=ab)->DataW.TrodAll enc P W' 0 Jc ab ts vs ds ps:=by
   intro ts;induction ts with
   | nil=>intro vs ds ps _ h _ _;cases vs<;>cases ds<;>first | exact h | exact h.elim
   | cons t ts ih =>
    intro vs ds ps hT h aC hs;cases vs with
    | nil=>exact h.elim
    | cons v vs =>
     cases ds with
     | nil=>exact h.elim
     | cons d ds =>
      obtain⟨p,q,⟨n,h1⟩,h2,rfl⟩:=h;refine⟨p,q,⟨n,?_⟩,ih vs ds q (λt ht=>hT t (by simp[ht])) h2 (λx hx=>aC x (by simp[hx])) (λx hx=>hs x (by simp[hx])),rfl⟩;refine DataW.trod_stays (kids_rows hl hm) (λ{t e} ht he=>slices_full_of P hz t e ht he) (by simp) (hT t (by simp)) h1 (λx hx=>?_) (λx hx=>hs x (by simp[hx]));have hb:=aC x (by simp[hx]);cases x with
      | cell b off=>exact B9 (mu b hb)
      | map b=>exact mu b hb
  exact key _ _ _ _ EN hA (λx hx=>aC x hx) (λx hx=>hs x (by simpa using hx))
 .rw[kF,vW.2.2,CR];rfl
 .exact akE
def aqP{enc:TypeId × Value->H}{s:ChangeSpec}{ds:List (DataW H)}
 (hl:laidOutB P=ab) (hm:mapsRowed P=ab) (hz:((bX P.types.size).all λt=>match P.underlying t with | some (.slice e)=>decide (0<P.cellsOf e) | _=>ab)=ab)
 (bx:f.resultTypes=#[tb]) (CP:P.underlying tb=aa .bool) (EN:∀t∈f.params.toList,t<P.types.size) (CR:s.vars=[]) (vW:(s.fn H ds).results=[.lit (.bool ab)]/\(s.fn H ds).args=ds/\(s.fn H ds).vars=[])
 (hW:DataW.Whole enc P f.params.toList s.vars ak W args.toList ds [] before) {E' : Env} (bj:Fr (vL W) E') :
 s.post enc P f ak ab ak ak W args (.bool ab) E'.w :=
 aqQ hl hm hz bx CP EN CR vW hW bj.os bj.output bj.g_ λb hb=>(bj.same b hb (.inl rfl)).1
section
variable {P:Program} {W:World} {r:Reach} {b:Nat} {t:TypeId} {v:Value} {E:Env}
variable{e:TypeId}
def YQ{x:V}(ht:P.underlying t=aa (.slice e))(hv:Value.okWide P W r b t v)(h:RL E [x] v.cells.toList):R E x v:=by
 obtain⟨a,len,cap,rfl⟩:=okWide_slice ht hv;simpa [Value.cells,RL] using h
end
def rM(s:List UInt8):Value:=.string ⟨s.toArray⟩
section
variable {H:Type} {enc:TypeId × Value->H} {P:Program} {W:World}
def Wc(ps:List (List UInt8 × List UInt8)):DataW H:=.agg (ps.map λp=>.agg [.lit (.string p.1),.lit (.string p.2)])
variable{U:Type}
def Vo{l:List U}(h:l.length=2):∃a b,l=[a,b]:=by
 match l,h with
 | [a,b],_=>exact⟨a,b,rfl⟩
def YN{s:ByteArray}{l:List UInt8}(h:s.data.toList=l):Value.string s=rM l:=by subst h;simp[rM]
def chunks{U:Type}{k:Nat}(f:Nat->List U):∀(n:Nat) (cs:List U),cs.length=n*k->(∀i,i<n->(cs.drop (i*k)).take k=f i)->cs=((bX n).map f).flatten
 | 0,cs,hl,_=>by simp at hl;simp[hl]
 | n + 1, cs, hl, h => by
  rw[Gt] at hl;have h1:=chunks (k:=k) f n (cs.take (n*k)) (by rw[jj];omega) λi hi=>by
   have:i*k+k<=n*k:=by rw[<-Gt];exact sS _ hi
   rw[JU,List.take_take,yi (by omega)];exact h i (by omega)
  have h2:=h n (by omega);rw[zY (by rw[J5];omega)] at h2;rw[rP,gy,vf,<-h1];simp only[ch,fh,lE,Qb,eK];rw[<-h2,rQ]
variable{cs:List Value}{e:TypeId}{fuel:Nat}{sp:Nat->Bool}
def acf{base:Nat}{held:Bool}{tf:TypeId}{fs:Array Field}{x:DataW H × List MemPlace}{a b:List UInt8}
 (he:P.underlying e=aa (.struct fs)) (hs:fs.size=2) (L2:(fs[0]?).map (λf=>(f.type,f.offset))=aa (tf,0)) (Cv:(fs[1]?).map (λf=>(f.type,f.offset))=aa (tf,1))
 (H5:P.underlying tf=aa .string) (HG:P.cellsOf tf=1) (xh:P.cellsOf e=2)
 (h:DataW.trod enc P W base sp held fuel e cs=aa x) (hx:x.1 = .agg [.lit (.string a),.lit (.string b)]):cs=[rM a,rM b]:=by
 obtain⟨xs,m,rfl,rfl,hl,xz,hf⟩:=DataW.trod_struct he h;rw[xh] at hl;rw[hs] at xz;obtain⟨u,v,rfl⟩:=Vo hl;obtain⟨x0,x1,rfl⟩:=Vo xz;obtain⟨f0,g0,g1⟩:=dk.1 L2;obtain⟨f1,g2,g3⟩:=dk.1 Cv;simp only[py] at g1 g3;have h0:=hf 0 f0 g0;have h1:=hf 1 f1 g2;rw[g1.1,g1.2,HG] at h0;rw[g3.1,g3.2,HG] at h1;obtain⟨s0,p0,q0,_⟩:=DataW.trod_string H5 h0;obtain⟨s1,p1,q1,_⟩:=DataW.trod_string H5 h1;simp only[JV,DJ,wM,List.take_zero,ig,il] at p0 p1;subst p0 p1 q0 q1;simp only[ch,fh,DataW.agg.injEq,ig,DataW.lit.injEq,Lit.string.injEq,il] at hx;rw[YN hx.1,YN hx.2]
def acg{base:Nat}{held:Bool}{t tf:TypeId}{n:Nat}{fs:Array Field}{ps:List (List UInt8 × List UInt8)}{p:List MemPlace}
 (ht:P.underlying t=aa (.array n e)) (he:P.underlying e=aa (.struct fs)) (hs:fs.size=2) (L2:(fs[0]?).map (λf=>(f.type,f.offset))=aa (tf,0)) (Cv:(fs[1]?).map (λf=>(f.type,f.offset))=aa (tf,1))
 (H5:P.underlying tf=aa .string) (akw:P.cellsOf tf=1) (xh:P.cellsOf e=2) (HG:P.cellsOf t=n*2)
 (h:DataW.trod enc P W base sp held fuel t cs=aa (Wc ps,p)):cs=(ps.flatMap λp=>[p.1,p.2]).map rM:=by
 obtain⟨xs,m,rfl,hx,hl,xz,hi⟩:=DataW.trod_array ht h;rw[HG] at hl;have qB:xs.map (·.1)=ps.map λp=>(.agg [.lit (.string p.1),.lit (.string p.2)]:DataW H):=by
  have:=iK Prod.fst hx
  simpa [Wc] using this.symm
 have pT:ps.length=n:=by
  have:=iK List.length qB
  simp at this;omega
 have hc:=chunks (λi=>match ps[i]? with | some p=>[rM p.1,rM p.2] | none=>[]) n cs hl (λi dG=>by
  have h1:=hi i dG;rw[xh] at h1;have UB:xs[i]?=aa xs[i]:=by simp[xz,dG]
  have CM:ps[i]?=aa ps[i]:=by simp[pT,dG]
  rw[UB] at h1;have h2:=iK (·[i]?) qB;simp only[tU,UB,CM,tW,a9] at h2;rw[CM];exact acf he hs L2 Cv H5 akw xh h1 h2)
 rw[hc,<-pT];clear hc hi xz hl hx qB h pT;have key:∀qs:List (List UInt8 × List UInt8),((bX qs.length).map λi=>match qs[i]? with | some p=>[rM p.1,rM p.2] | none=>[])=qs.map λp=>[rM p.1,rM p.2]:=λqs=>by
  apply P';intro i
  by_cases hi:i<qs.length
  .simp[hi]
  .simp[hi]
 rw[key,List.map_flatMap,List.flatMap_def];rfl
end
def A8:V->Value
 | .aF s=>rM s
 | .int k n=>.int k n
 | _=>.bool ak
def isLit:V->Bool
 | .aF _=>ab
 | .int _ _=>ab
 | _=>ak
def ana{E:Env}{x:V}(h:isLit x=ab)(v:Value):R E x v↔v=A8 x:=by
 cases x<;>simp[isLit] at h<;>simp[R,A8,rM]
def Fo(B:Nat->Option (List V)):af:=⟨λ_=>ag,λ_=>ag,B⟩
def J8(W:World)(B:Nat->Option (List V)):Prop:=∀b cs,B b=aa cs->(∃e,W.heap[b]?=aa (.cells (cs.map A8).toArray e (0,0)))/\∀x∈cs,isLit x=ab
def Vr{E:Env}:∀{cs:List V},(∀x∈cs,isLit x=ab)->RL E cs (cs.map A8)
 | [],_=>by simp[RL]
 | x :: cs, h => by
  simp only[ch,RL];exact⟨(ana (h x (by simp)) _).2 rfl,Vr λy hy=>h y (by simp[hy])⟩
variable{B:Nat->Option (List V)}
def anR(h:J8 W B):(vL W).ok (Fo B):=by
 refine⟨λ_ _ h=>by simp[Fo] at h,λ_ _ h=>by simp[Fo] at h,λ_ _=>rfl,⟨0,λ_ _=>rfl⟩,λb cs hb=>?_⟩;obtain⟨⟨e,he⟩,hl⟩:=h b cs hb;refine BZ (vs:=cs.map A8) (Vr hl) (λv hv=>?_) (λj v hj=>?_) λ_ _=>trivial
 .obtain⟨x,hx,rfl⟩:=vh.1 hv
  have:=hl x hx
  cases x<;>simp[isLit] at this<;>rfl
 .show W.cell? _=_;simp only[World.cell?,he,jY];simpa using hj
def amq{enc:TypeId × Value->H}{n:FuncId}{s:ChangeSpec}{vs:List V}{ds:List (DataW H)}
 (hP:cz P n vs (Fo B) λv σ' => v = .bool ab/\σ' = Fo B) (hg:J8 W B) (hR:RL (vL W) vs args.toList)
 (hl:laidOutB P=ab) (hm:mapsRowed P=ab) (hz:((bX P.types.size).all λt=>match P.underlying t with | some (.slice e)=>decide (0<P.cellsOf e) | _=>ab)=ab)
 (bx:f.resultTypes=#[tb]) (CP:P.underlying tb=aa .bool) (EN:∀t∈f.params.toList,t<P.types.size) (CR:s.vars=[]) (vW:(s.fn H ds).results=[.lit (.bool ab)]/\(s.fn H ds).args=ds/\(s.fn H ds).vars=[])
 (hW:DataW.Whole enc P f.params.toList s.vars ak W args.toList ds [] before) :
 Calls P n args W λe W' => ∃v,e = .returned v/\s.post enc P f ak ab ak ak W args v W' := by
 refine(hP.2 (vL W) args (λ_=>rfl) (anR hg) hR).mono ?_;rintro e w' ⟨v,x,E',σ',rfl,rfl,_,_,TC,bj,rfl,_⟩;simp only[R] at TC;subst TC;exact⟨_,rfl,aqP hl hm hz bx CP EN CR vW hW bj⟩
section
variable {H:Type} {enc:TypeId × Value->H} {P:Program} {W:World}
def U2{name:String}{d:DataW Unit}{rest:List (String × DataW Unit)}{g:Nat}{t:TypeId}(h:laidMet P ((name,d)::rest) W)(hg:P.globalNamed name=aa g)(ht:(P.globals[g]?).map (·.type)=aa t){vs:List Value}
 (hc:∀(cs:List Value) (fuel:Nat) (p:List MemPlace),DataW.trod (λ_=>()) P W 0 (λ_=>ab) ak fuel t cs=aa (d,p)->cs=vs) (hv:vs≠[]):∃e,W.heap[g]?=aa (.cells vs.toArray e (0,0)):=by
 obtain⟨ps,⟨g',t',cs,fuel,p,q,rl,ry,hH,hd,_,EO⟩,_,hb⟩:=h;obtain rfl:g' = g:=vl (rl.symm.trans hg);obtain rfl:t' = t:=vl (ry.symm.trans ht);have bV:=hc _ _ _ hd;have yR : cs=vs.toArray:=by rw[<-bV]
 obtain⟨⟨c,e,xh⟩,_⟩:=hb g' 0 (by
  rw[EO];refine List.mem_append_left _ (List.mem_append_left _ ?_);rw[yR];cases vs with
  | nil=>exact absurd rfl hv
  | cons a l=>simp[MemPlace.row])
 refine⟨e,?_⟩;rw[xh];simp only[World.var?,hg,wQ,xh,a9] at hH;rw[hH,yR]
end
section
variable {H:Type} (enc:TypeId × Value->H) (P:Program) (W:World) (B:DataW H->Nat)
def sT(N:Nat)(t:TypeId)(F:List V->Nat->Prop):Prop :=
 ∀n,n<N->∀cs x,DataW.trod enc P W 0 (λ_=>ab) ab n t cs=aa x->∃l,RL (vL W) l cs/\(∀v∈cs,v.oneCell' = ab)/\F l (B x.1)
end
section
variable {H:Type} {enc:TypeId × Value->H} {P:Program} {W:World} {B:DataW H->Nat} {BA:List (DataW H)->Nat} {N:Nat} {t:TypeId}
variable{F:List V->Nat->Prop}
def sT.mono{M:Nat}(h:sT enc P W B N t F)(hM:M<=N):sT enc P W B M t F:=λn hn=>h n (vk hn hM)
def sT.to{G'':List V->Nat->Prop}(h:sT enc P W B N t F)(hg:∀l b,F l b->G'' l b):sT enc P W B N t G'':=λn hn cs x hx =>
 let ⟨l,h1,h2,h3⟩:=h n hn cs x hx
 ⟨l,h1,h2,hg _ _ h3⟩
def aue(ht:P.underlying t=aa .string)(hB:zN B BA):sT enc P W B N t λl b=>∃s:List UInt8,l=[.aF s]/\b=s.length+1:=λn _ cs x h =>
 let ⟨s,h1,h2,h3⟩:=arI ht hB h
 ⟨_,h1,h2,s,rfl,h3.symm⟩
variable{e:TypeId}{U:Type}
def auc(ea:U->List V)(sz:U->Nat){k:Nat}(hB:zN B BA)(ht:P.underlying t=aa (.slice e))(hk:P.cellsOf e=k)(gi:0<k)(hlen:∀y,(ea y).length=k)
 (mi:sT enc P W B N e λl b=>∃y,l=ea y/\sz y<=b):sT enc P W B (N+1) t λl b=>∃ys:List U,l=[.sl .no k (ys.map ea)]/\(ys.map sz).sum+1<=b:=by
 intro n hn cs x h;obtain⟨ys,h1,h2,h3⟩:=arH ea sz hB ht hk gi hlen (λm hm cs x h=>by
  obtain⟨l,k1,k2,y,rfl,k3⟩:=mi m (by omega) cs x h;exact⟨y,k1,k2,k3⟩) h
 exact⟨_,h1,h2,ys,rfl,h3⟩
def aud(ea:U->List V)(sz:U->Nat){k:Nat}(hB:zN B BA)(ht:P.underlying t=aa (.slice e))(hk:P.cellsOf e=k)(gi:0<k)(hlen:∀y,(ea y).length=k)
 (mi:sT enc P W B N e λl b=>∃y,l=ea y/\sz y<=b):sT enc P W B N t λl b=>∃ys:List U,l=[.sl .no k (ys.map ea)]/\(ys.map sz).sum+1<=b :=
 (auc ea sz hB ht hk gi hlen mi).mono (Nat.le_succ N)
end
end Go.Am
namespace Go.Proofs.Tryz
open Go.Am Go.ChangeShapes Go.WideShapes Go.ChangeAt Go.RowKit
open Go.Proofs.YtnpggmhoandloaaGreatDoor
def Rg(H:Type):zN (H:=H) Rows.uptoBulk Rows.uptoBulkAll :=
 ⟨λ_=>by simp only[Rows.uptoBulk],λ_ _=>by simp only[Rows.uptoBulk],λ_=>by simp only[Rows.uptoBulk],by simp only[Rows.uptoBulk],λ_ _=>by simp only[Rows.uptoBulk],λ_=>by simp only[Rows.uptoBulk],by simp only[Rows.uptoBulkAll],λ_ _=>by simp only[Rows.uptoBulkAll]⟩
def laid:laidOutB prog=true:=by kernel_rfl
def asd:mapsRowed prog=true:=by kernel_rfl
def ajA:((bX prog.types.size).all λt=>match prog.underlying t with | some (.slice e)=>decide (0<prog.cellsOf e) | _=>ab)=true:=by kernel_rfl
def own:ownKnob prog.godebug=none:=by kernel_rfl
def S9:Nat->Option (List V):=λb=>if b=0 then aa gC else if b=1 then aa xZ else ag
variable{W:World}
def ajW(h:laidMetH prog Rows.stackDropsRow.laid W):J8 W S9:=by
 have h0:laidMet prog Rows.stackDropsRow.laid W:=h;have h1:=laidMet.tail h0;obtain⟨e0,k0⟩:=U2 (g:=0) (t:=238) (vs:=gC.map A8) h0 (by kernel_rfl) (by kernel_rfl) (λcs fuel p hd=>(acg (ps:=iN) underlying238 underlying180 (by kernel_rfl) (by kernel_rfl) (by kernel_rfl) underlying9 (by kernel_rfl) (by kernel_rfl) (by kernel_rfl) hd).trans rfl) (by simp[gC,iN]);obtain⟨e1,k1⟩:=U2 (g:=1) (t:=320) (vs:=xZ.map A8) h1 (by kernel_rfl) (by kernel_rfl) (λcs fuel p hd=>(Lib.cells_of_tab (zs:=Jr) underlying320 underlying5 (by kernel_rfl) (by kernel_rfl) hd).trans rfl) (by simp[xZ,Jr]);intro b cs hb;simp only[S9] at hb;split at hb
 .rename_i hq;subst hq;obtain rfl:=vl hb;exact⟨⟨e0,k0⟩,by decide⟩
 split at hb
 .rename_i hq;subst hq;obtain rfl:=vl hb;exact⟨⟨e1,k1⟩,by decide⟩
 simp at hb
def Nj:DataW Unit->List Value
 | .lit (.int k n)=>[.int k n]
 | .lit (.string s)=>[rM s]
 | _=>[]
def amr:DataW Unit->List Value
 | .agg ds=>ds.flatMap Nj
 | d=>Nj d
def amt:DataW Unit->List Value
 | .agg ds=>ds.flatMap amr
 | d=>Nj d
def amu(h:Array Obj)(x:Nat × DataW Unit):Array Obj:=h.modify x.1 fun
 | .cells _ t frozen=>.cells (amt x.2).toArray t frozen
 | o=>o
noncomputable def Ng (os:Os):World :=
 {World.holding prog os ⟨#[],#[],[]⟩ with heap:=[(0,Rows.laid_clearance_command_forms),(1,Rows.laid_math_bits_deBruijn64tab)].foldl amu (World.holding prog os ⟨#[],#[],[]⟩).heap}
set_option maxRecDepth 100000
section
variable {H:Type} {enc:TypeId × Value->H} {W:World} {N:Nat}
abbrev TL(enc:TypeId × Value->H)(W:World)(N:Nat)(t:TypeId)(F:List V->Nat->Prop):Prop:=sT enc prog W (Rows.uptoBulk (H:=H)) N t F
def arD:TL enc W N 9 λl b=>∃y:List UInt8,l=[.aF y]/\y.length+1<=b:=(aue underlying9 (Rg H)).to λ_ _ ⟨y,h,k⟩=>⟨y,h,by omega⟩
def WY:TL enc W N 22 λl b=>∃ys:List (List UInt8),l=[.sl .no 1 (cX ys)]/\(ys.map λs=>s.length+1).sum+1<=b :=
 aud (λs:List UInt8=>[V.aF s]) (λs=>s.length+1) (Rg H) underlying22 (show prog.cellsOf 9=1 by kernel_rfl) (by decide) (λ_=>rfl) (arD.to λ_ _ ⟨y,h,k⟩=>⟨y,h,k⟩)
end
def fn6:aU prog 6 (sq [rg 4 [oz 2],sq [rg 21 [om 0,oC 8 [21],gB,om 1,oC 8 [24],gZ,gB,om 0,nL,nB .gtr 30,gZ,gB,om 1,nL,nB .gtr 30,gZ],cr 36 37 [oC 9 [],o1 4]],rg 38 [oC 10 [],o1 5],sq [rg 39 [om 0,nL,oi 0],lp 40 0 (sq [rg 43 [oA 1 39 41,no,o1 7],rg 45 [om 5,om 7,oC 12 [45,46]]]) 48],rg 49 [om 5,oC 11 [49],om 5,oC 24 [51],om 5,oC 15 [53],oZ 9 [8,8,23],oZ 10 [0,0,0],ot 8 50,os 3 9 52,o2 3 10],sq [rg 56 [om 5,oc 12 [.s 56,.c (.aF [112,117,115,104])],o1 55,oe 55 0,oe 55 1,oe 55 2,oZ 11 [0,0,1,0,7,9,0,0,0,1,7,10,0,0,1,7,10],oR 12 kf,oZ 13 [0,0],os 17 11 58,os 18 12 59,o2 2 13],rg 61 [ol 2 13,oW [0,0] [],oq (.kA ab [1,1] (.s 61) (.s 62))],cr 63 64 [fo 0 13,nB .eql 7,gA,fo 2 10,nB .eql 16,gZ,gA,oC 9 [],gZ,o1 4]],sq [rg 75 [om 1,nL,oi 0],lp 76 2 (sq [rg 79 [oA 1 75 77,no,o1 15],rg 82 [om 15,oC 28 [82],o1 81,oe 81 0,oe 81 1,oZ 16 [0,0,1,0,7,9,0,0,0,1,7,10,0,0,1,7,10],oZ 17 [0,0],os 17 16 84,o2 2 17],dg 86 [fo 0 16,nB .neq 12,gB,om 5,oC 15 [90],ow 2 91,of 2 10,mM [0],no,nB .add 1,nb .gtr 92,gZ],ci 97 (rg 98 [om 5,om 15,oC 12 [98,99]])]) 101],bl 4 (sq [sq [dg 102 [om 5,oC 15 [102],ow 2 103,of 2 10,mM [0],no,nb .gtr 104],cx 107 4],.block 5 (sq [rg 109 [om 5,oc 12 [.s 109,.c (.aF [112,111,112])],o1 108,oe 108 0,oe 108 1,oe 108 2,oZ 18 [0,0,1,0,7,9,0,0,0,1,7,10,0,0,1,7,10],oR 19 kf,oZ 20 [0,0],os 17 18 111,os 18 19 112,o2 2 20],rg 114 [ol 2 20,oW [0,0] [],oq (.kA ab [1,1] (.s 114) (.s 115))],cr 116 4 [oz 2]])]),dg 117 [om 5,oC 11 [117],om 8,nE .eql 118,gA,om 5,oC 24 [122],mM [1],ol 3 9,oC 23 [123,124],gZ,gA,om 5,oC 15 [128],mM [3],ol 3 10,oq (.kA ak [1,1,1] (.s 129) (.s 130)),gZ,gA,oC 9 [],gZ,o1 4],.ret]) [.tmp 4] 136:=aV func6
structure One(D:af)(b:Nat)(x:af × Tk)(S:fP):Prop where
 s:vo x.1 b x.2 S
 o:S.ok
 u:D.sub x.1
 k:DP D x.2
 c:x.1.b9=D.b9
variable{S:fP}{b:Nat}{t:List UInt8}{D:af}
def One.go{x:af × Tk}(h:One D b x S)(hb:D.box b=ag){cU:af}{k1:Tk}(ht:t.length<=3000)(h1:vo cU b k1 (jo S t))(hk:Kp x.1 cU b x.2 k1):One D b (cU,k1) (jo S t) :=
 ⟨h1,R3 h.o ht,(Kp.sub h.u hb h.k hk).1,(Kp.sub h.u hb h.k hk).2,hk.c.trans h.c⟩
variable{i:Nat}{l:List (List UInt8)}
def SX(h:i<l.length):(l.take (i+1)).foldl jo S=jo ((l.take i).foldl jo S) l[i]:=by rw[jl h,zT];rfl
def Below(S T:fP):Prop:=(S.cq++[S.live]) <+: T.cq\/T=S
def abh{T:fP}(h:Below S T)(hl:S.cq.length<T.cq.length)(aW:T.cq≠[]):Below S ⟨T.cq.getLast aW,T.cq.dropLast⟩:=by
 rcases h with ⟨r,hr⟩ | rfl
 .by_cases h0:r=[]
  .right;subst h0;rw[eK] at hr;obtain⟨tl,tf⟩:=T;simp only at hr aW ⊢;subst hr;simp
  .left;refine⟨r.dropLast,?_⟩;simp only;rw[<-hr,Zw h0]
 .omega
def abf{T:fP}(h:Below S T)(hl:¬S.cq.length<T.cq.length):T=S:=by
 rcases h with h | h
 .have:=h.length_le;simp at this;omega
 .exact h
section
variable {l:Lv} {a b c:V} {n:Nat}
theorem aqv:over [a,b,c] (jx l)=jx l:=rfl
theorem aqw:takeN 3 (jx l)=aa (jx l):=rfl
theorem aqq:bI ab 3 (jx l)=aa (.agg (jx l)):=rfl
theorem aqr:(jx l).length=3:=rfl
theorem aqu:cL (jx l)=true:=rfl
theorem aqs:bR n (jx l)=true:=rfl
theorem aqt:bO (jx l)=true:=rfl
def GQ{x:d_}:bR n x.enc=true:=by
 obtain⟨op,lat,code,⟨tv,e⟩,ra,rb,v,f⟩:=x;exact bp.GY (P:=λe=>bR n (d_.enc ⟨op,lat,code,⟨tv,e⟩,ra,rb,v,f⟩)=ab) (λ_ _ _ _ _ _ _ _ _=>rfl) e
def Oc:=ah @GQ <| ah @aqv <| ah @aqw <| ah @aqq <| ah @aqr <| ah @aqu <| ah @aqs @aqt
end
def arZ{r:Rm}:fQ [1,1,1] r.enc r.enc=aa true:=by rw[Rm.enc,r5,r5,r5,He,qn,qn,qn];simp
def ajw(l m:List (List UInt8))(hg:TZ D)(kg:D.b9 0=aa gC):a7 6 [.sl .no 1 (cX l),.sl .no 1 (cX m)] D (.bool ab):=by
 have GH:=Kh hg kg;have gT:∀{σ' : af},σ'.b9=D.b9->TZ σ' /\ σ'.b9 0=aa gC:=λ{σ'} e=>⟨by rw[TZ,e];exact hg,by rw[e];exact kg⟩
 refine fn6.aT ?_;simp only[aS,am,aZ,Nat.reduceAdd];refine cl (Q8 l D) ?_;cases hb:yv l with
 | true =>
  simp only[am];refine cl (GH) ?_;simp only[am];exact rt
 | false =>
  obtain⟨hl,hls⟩:=Q9 hb;simp only[am];refine cl (Q8 m D) ?_;cases hm:yv m with
  | true =>
   simp only[am];refine cl (GH) ?_;simp only[am];exact rt
  | false =>
   obtain⟨T_,hms⟩:=Q9 hm;simp only[am,ia]
   by_cases o1:30<l.length
   .simp only[am,aJ (show(30:Int)<l.length by omega)];refine cl (GH) ?_;simp only[am];exact rt
   simp only[am,ia,aI (show ¬(30:Int)<l.length by omega)]
   by_cases o2:30<m.length
   .simp only[am,aJ (show(30:Int)<m.length by omega)];refine cl (GH) ?_;simp only[am];exact rt
   simp only[am,aI (show ¬(30:Int)<m.length by omega)];refine(UX D).mono ?_;rintro v dz ⟨b,rfl,e_,rfl⟩;simp only[am,ia];refine dK (l.length) (λi (x:af × Tk)=>⟨[.any,.sl .no 1 (cX m),.any,.any,.any,.ptr (.out b) 0,.any,.any,.any,.any,.any,.any,.any,.any,.any,.any,.any,.any,.any,.any,.any,.any,.any,.any,.any,.any,.any,.any,.any,.any,.any,.any,.any,.any,.any,.any,.any,.any,.any,.sl .no 1 (cX l),.int .i64 (l.length:Nat),.int .i64 (i:Nat)]++ar 94 .any,[],x.1⟩) (λi x=>(One D b x ((l.take i).foldl jo .zero))) λF hF JF bn=>⟨?_,?_,?_⟩
   .exact en bn ((D.set b (mw .ba .zero),.ba)) (⟨XV,Yw,Yy e_,λ_ e=>by simp at e,rfl⟩)
   .rintro i ⟨dz,k0⟩ hi h;have ht:=hls _ (fg hi);have c1:=Ca l[i] h.s h.o (gT h.c).1 (gT h.c).2 (by omega);rw[<-SX hi] at c1;generalize fJ ((l.take i).foldl jo .zero) l[i]=X at c1;obtain⟨c,y,f⟩:=X;simp only[tD] at c1;simp only[hF,ar,am,dD hi];refine ix (A7 hi) ?_;simp only[am];refine c1.mono ?_;rintro v cU ⟨rfl,k1,s1,p1⟩;simp only[am,a_,cG hi];exact nx bn ((cU,k1)) hi (by rw[SX hi] at s1 ⊢;exact h.go e_ (by omega) s1 p1)
   .rintro⟨dz,k0⟩ h;rw[fm] at h;obtain⟨S,hS⟩:∃S,S=l.foldl jo .zero:=⟨_,rfl⟩;rw[<-hS] at h;have hSn:=h.o.n;simp only[hF,ar,am,a_,dY,a_];refine cl (M_ h.s.b h.o) ?_;simp only[am];have cp:a7 24 [.ptr (.out b) 0] dz (.agg (jx S.live)):=WG h.s.b (gT h.c).1 h.o.l;refine cl cp ?_;simp only[am];refine cl (Bq h.s.b (by omega)) ?_;simp only[am,Rm.au,Oc];have c2:=Ca mY h.s h.o (gT h.c).1 (gT h.c).2 (by decide);have hz:(fJ S mY).2.2.cls=0->(fJ S mY).2.2 = .zero:=λe=>(Iy e).2.2.1
    have hp:=adT (s:=S);generalize fJ S mY=X at c2 hz hp;obtain⟨c,y,f⟩:=X;simp only[tD] at c2 hz hp;refine c2.mono ?_;rintro v cU ⟨rfl,k1,s1,p1⟩;have g1:=h.go e_ (by decide) s1 p1;simp only[am,Nat.reduceAdd,aQ.au,cD,kZ,Hn]
    rcases hp with ⟨hf,hd⟩ | ⟨hf,aws⟩
    case' inr =>
     have aW:¬f=⟨0,0⟩:=λe=>by rw[e] at hf;simp at hf
     simp only[am,aQ.au,Rm.au,aI aW,aJ hf,aJ (show(ft S).cq=16 by simp only[ft];omega)];refine cl (Kh (gT g1.c).1 (gT g1.c).2) ?_;simp only[am];exact aL rfl g1.u ⟨rfl,rfl⟩
    have hz:=hz hf;subst hz;rw[hd] at g1;simp only[am,ia,aJ (show aQ.zero=⟨0,0⟩ from rfl)];refine dK (m.length) (λi (x:af × Tk)=>⟨[.any,.any,.any,.any,.any,.ptr (.out b) 0,.any,.any,.aF (qT S.live.lines),.ptr (.aD 0) 0,.ptr (.aD 1) 0,.any,.any,.any,.any,.any,.any,.any,.any,.any,.any,.any,.any,.any,.any,.any,.any,.any,.any,.any,.any,.any,.any,.any,.any,.any,.any,.any,.any,.any,.any,.any,.any,.any,.any,.any,.any,.any,.any,.any,.any,.any,.any,.any,.any,.any,.any,.any,.any,.any,.any,.any,.any,.any,.any,.any,.any,.any,.any,.any,.any,.any,.any,.any,.any,.sl .no 1 (cX m),.int .i64 (m.length:Nat),.int .i64 (i:Nat)]++ar 58 .any,[jx S.live,(ft S).enc,c.enc,y.enc,aQ.zero.enc],x.1⟩) (λi x=>(∃T,One D b x T/\(S.cq++[S.live]) <+: T.cq)) λF2 ep yf iO=>⟨?_,?_,?_⟩
    .refine en iO ((cU,k1)) (⟨_,g1,List.prefix_rfl⟩) ?_ ?_ ?_
     all_goals simp[ep,ar,am,bT]
    .rintro i ⟨fc,k2⟩ hj ⟨T,h2,qv⟩;have ht:=hms _ (fg hj);have hTn:=h2.o.n;have rq:=Nv m[i];have cR:=ac' m[i] fc (by simp[aK];omega) (by simp[aK];omega);rw[<-W6] at cR;have bj:=adQ (t:=m[i]) qv;have c3:=Ca m[i] h2.s h2.o (gT h2.c).1 (gT h2.c).2 (by omega);have g3:=λ{mG:af} {k3:Tk} (a:vo mG b k3 (jo T m[i])) (e:Kp fc mG b k2 k3)=>h2.go e_ (show m[i].length<=3000 by omega) a e
     generalize fJ T m[i]=X at c3;obtain⟨c',y',f'⟩:=X;simp only[tD] at c3;generalize cM m[i]=R at cR bj;obtain⟨d,e⟩:=R;simp only at cR bj;simp only[ep,ar,am,dD hj];refine ix (A7 hj) ?_;simp only[am];refine cl cR ?_;simp only[am,Nat.reduceAdd,cD,fk,Ed];have hw:=wrap_i64 (x:=(ft S).cq+1) (by simp only[ft];omega) (by simp only[ft];omega)
     by_cases CN:d.op=12/\¬S.cq.length+1<T.cq.length
     .simp only[am,bL,CN.1];refine bE.intro (Bq h2.s.b (by omega)) ?_
      have:=CN.2
      simp only[am,a_,Rm.au,hw,aI (show ¬(ft S).cq+1<(ft T).cq by simp only[ft];omega),cG hj];refine fK ((fc,k2)) hj ?_ ?_ ?_ ?_ ?_ ?_
      .exact eU (iO _ _) (⟨_,h2,qv⟩)
      all_goals simp[ep,ar,am,bT,bR,dw,V.lo,az.enc,az.cP,jx,Rm.enc,aQ.enc,GQ]
     have akD:=bj λe=>by simp only[bP,gM];exact Classical.byContradiction λq=>CN ⟨e,q⟩
     by_cases ju:d.op=12
     case' pos =>
      have hq:S.cq.length+1<T.cq.length:=Classical.byContradiction λq=>CN ⟨ju,q⟩
      simp only[am,bL,ju];refine bE.intro (Bq h2.s.b (by omega)) ?_;simp only[am,Rm.au,hw,aJ (show(ft S).cq+1<(ft T).cq by simp only[ft];omega)]
     case' neg =>
      simp only[am,c7,ju]
     all_goals
      refine c3.mono ?_;rintro v mG ⟨rfl,k3,s3,p3⟩;simp only[am,a_,cG hj];refine fK ((mG,k3)) hj ?_ ?_ ?_ ?_ ?_ ?_
      .exact eU (iO _ _) (⟨_,g3 s3 p3,akD⟩)
      all_goals simp[ep,ar,am,bT,bR,dw,V.lo,az.enc,az.cP,jx,Rm.enc,aQ.enc,GQ]
    .rintro⟨fc,k2⟩ ⟨T,h2,qv⟩;simp only[ep,ar,am,a_,dY,a_];refine dK ((T.cq.length+1)) (λi (x:af × Tk)=>⟨[.any,.any,.any,.any,.any,.ptr (.out b) 0,.any,.any,.aF (qT S.live.lines),.ptr (.aD 0) 0,.ptr (.aD 1) 0]++ar 125 .any,[jx S.live,(ft S).enc,c.enc,y.enc,aQ.zero.enc],x.1⟩) (λi x=>(∃U'',One D b x U''/\Below S U''/\U''.cq.length+i<=T.cq.length)) λF3 ug Zt Ek=>⟨?_,?_,?_⟩
     .refine en Ek ((fc,k2)) (⟨T,h2,.inl qv,bS _⟩) ?_ ?_ ?_
      all_goals simp[ug,ar,am,bT]
     .rintro i ⟨mG,k3⟩ hk ⟨U'',h3,lg,hle⟩;have hUn:=h3.o.n;simp only[ug,ar,am];refine bE.intro (Bq h3.s.b (by omega)) ?_;simp only[am,Rm.au]
      by_cases hq:S.cq.length<U''.cq.length
      .have aW:U''.cq≠[]:=λe=>by rw[e] at hq;simp at hq
       obtain⟨d1,d2⟩:=adS aW;have c4:=Ca pf h3.s h3.o (gT h3.c).1 (gT h3.c).2 (by decide);have g4:=λ{JI:af} {k4:Tk} (a:vo JI b k4 (jo U'' pf)) (e:Kp mG JI b k3 k4)=>h3.go e_ (by decide) a e
       generalize fJ U'' pf=X at c4 d1;obtain⟨c',y',f'⟩:=X;simp only at d1;subst d1;simp only[tD] at c4;rw[d2] at c4 g4;simp only[am,aJ (show(ft S).cq<(ft U'').cq by simp only[ft];omega)];refine c4.mono ?_;rintro v JI ⟨rfl,k4,s4,p4⟩;simp only[am,Nat.reduceAdd,a_,aQ.au,cD,kZ,Hn,aJ (show aQ.zero=⟨0,0⟩ from rfl)];refine fK ((JI,k4)) hk ?_ ?_ ?_ ?_ ?_ ?_
       .exact eU (Ek _ _) (⟨_,g4 s4 p4,abh lg hq aW,by simp;omega⟩)
       all_goals simp[ug,ar,am,bT,bR,dw,V.lo,az.enc,az.cP,jx,Rm.enc,aQ.enc,GQ]
      .have hU:=abf lg hq;subst hU;simp only[am,a_,aI (show ¬(ft U'').cq<(ft U'').cq by omega)];refine bE.intro (M_ h3.s.b h3.o) ?_;simp only[am,bL];have cp3:a7 24 [.ptr (.out b) 0] mG (.agg (jx U''.live)):=WG h3.s.b (gT h3.c).1 h3.o.l;refine bE.intro cp3 ?_;simp only[am,Oc];refine bE.intro (aqU U''.live mG h3.o.l) ?_;simp only[am];refine bE.intro (Bq h3.s.b (by omega)) ?_;simp only[am,Rm.au,arZ];refine bE.intro (Kh (gT h3.c).1 (gT h3.c).2) ?_;simp only[am,Rm.au,Oc];exact aL rfl h3.u ⟨rfl,rfl⟩
     .rintro⟨mG,k3⟩ ⟨U'',h3,lg,hle⟩;omega
open Go.Am Go.ChangeShapes Go.WideShapes Go.ChangeAt Go.RowKit
open Go.Proofs.YtnpggmhoandloaaGreatDoor
set_option maxRecDepth 100000 in
def aty(H:Type)(enc:TypeId × Value->H)(W:World)(base:Nat)(args:Array Value)(ds gs:List (DataW H))(before:List MemPlace)
 (EW:∀(j:Nat) t v,f6.params[j]?=aa t->args[j]?=aa v->Value.okWide prog W .any base t v)
 (hW:DataW.Whole enc prog f6.params.toList Rows.stackFramesSpec.vars ak W args.toList ds gs before) (hk:Rows.uptoSmall H (ds++gs)=ab) (hL:laidMetH prog Rows.stackFramesRow.laid W) :
 Calls prog 6 args W λe W' => ∃v,e = .returned v/\Rows.stackFramesSpec.post enc prog f6 ak ab ak ak W args v W' := by
 have Er := hW;obtain⟨p,q,hA0,hV,rfl,L6,EI⟩:=hW;have hA:DataW.TrodAll enc prog W 0 (λ_=>ab) ab f6.params.toList args.toList ds p:=hA0;rw[params6] at hA EW;obtain⟨v0,vs0,d0,R6,p0,q0,LK,rfl,rfl,⟨n0,h0⟩,r0⟩:=trodAll_cons hA;obtain⟨v1,vs1,d1,ds1,p1,q1,rfl,rfl,rfl,⟨n1,h1⟩,r1⟩:=trodAll_cons r0;obtain⟨rfl,rfl,rfl⟩:=trodAll_nil r1;obtain rfl:args=#[v0,v1]:=by cases args;simp_all
 obtain⟨rfl,rfl⟩:=trodVars_none hV;have hG:=ajW hL;obtain⟨_,a0,_,y0,rfl,b0⟩:=WY n0 (Qp _) _ _ h0;obtain⟨_,a1,_,y1,rfl,b1⟩:=WY n1 (Qp _) _ _ h1;have hb:Rows.uptoBulkAll [d0,d1]<=1048576:=by
  have h:=NX hk;rw[eK] at h;exact h
 simp only[Rows.uptoBulkAll] at hb;simp only[eK] at Er;have s0:=YQ underlying22 (EW 0 22 v0 rfl rfl) a0;have s1:=YQ underlying22 (EW 1 22 v1 rfl rfl) a1;refine amq (ajw y0 y1 rfl rfl) hG ?_ laid asd ajA rfl underlying4 (by rw[params6];decide +kernel) rfl ⟨rfl,rfl,rfl⟩ Er;simp only[RL,il];exact⟨s0,s1⟩
set_option maxRecDepth 100000 in
def atz(os:Os):laidMet prog Rows.stackFramesRow.laid ((Ng os).forCall (λ_ _=>0) ⟨#[],#[.slice ag 0 0,.slice ag 0 0],[]⟩).memory :=
 laidMet_of_run' 8 (by kernel_rfl) (by kernel_rfl)
variable{H:Type}
def atD(os:Os)(enc:TypeId × Value->H):∃places,DataW.whole enc prog ((Ng os).forCall (λ_ _=>0) ⟨#[],#[.slice ag 0 0,.slice ag 0 0],[]⟩).memory f6.params.toList Rows.stackFramesSpec.vars ak (#[.slice ag 0 0,.slice ag 0 0]:Array Value).toList 8=aa ([.nil,.nil],[],places) :=
 ⟨[],by kernel_rfl⟩
set_option maxRecDepth 100000 in
def atA(os:Os)(started:os.Started)(H:Type)(enc:TypeId × Value->H)(F:Stop.Interp) :
 ReturnsInHanded {} checked os 6 .any ((Rows.OpenSpec.upto Rows.stackFramesSpec).preRow enc prog f6 Rows.stackFramesUptoRow.domain ak Rows.stackFramesUptoRow.laid) (((Rows.OpenSpec.upto Rows.stackFramesSpec).at F).post enc prog f6 ak ab ak ak):=by
 obtain⟨places,hx⟩:=atD os enc;refine returnsInHanded_of_row (C:=checked) (s:=Rows.OpenSpec.upto Rows.stackFramesSpec) own started (by kernel_rfl) func6
  (witness_row_at (enc:=enc) (C:=checked) ak (Ng os) #[.slice ag 0 0,.slice ag 0 0] rfl (by kernel_rfl) (by kernel_rfl) (by kernel_rfl)
    (OpenSpec.preRow_of_cond 8 hx (by kernel_rfl) (λk hk=>by cases hk;kernel_rfl) (by kernel_rfl) (atz os))) ?_
 intro W base args ds gs before EW hW _ aku _ hL _ _;exact aty H enc W base args ds gs before EW hW (aku _ rfl) hL
end Go.Proofs.Tryz
