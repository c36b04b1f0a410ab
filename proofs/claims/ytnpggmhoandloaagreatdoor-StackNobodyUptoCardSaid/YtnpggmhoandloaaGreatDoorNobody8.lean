/-
  Part 8 of the proof of StackNobodyUptoCardSaid: a logic over the model, the forms of the functions that the law reaches, and what they compute.
-/
import Derived.Test.YtnpggmhoandloaaGreatDoorProg
import Derived.ProofKit
import Derived.OpenShut
import Derived.JoinedCond
import Derived.ChangeStays
import Derived.ReadAgain
import Derived.Deep.DeepHandedRow
import Derived.Lib.LaidTab
import Derived.Stop.LaidErr
import Derived.Test.YtnpggmhoandloaaGreatDoorCards
import Derived.Test.YtnpggmhoandloaaGreatDoorTie
import Derived.Test.YtnpggmhoandloaaGreatDoorNobody7
set_option linter.unusedVariables false
set_option linter.unusedSimpArgs false
set_option linter.defProp false
set_option linter.unusedSectionVars false
set_option maxRecDepth 4000
set_option maxHeartbeats 4000000
open Option renaming some->U,none->af
open Bool renaming true->aa,false->ak
open List renaming replicate->au,range->bU,getD->gU,zipWith->lq
open Eq renaming mpr->eQ
open Ne renaming symm->fi
namespace Go.Proofs.Tryz
open Go.Am
def agW:aT prog 42 (sq [rg 0 [ox 2 2 0,ox 3 17 1,oZ 4 [8,8]],rg 11 [ol 2 2,oC 72 [11],oZ 5 [8,8],o2 2 5],sq [rg 13 [ol 2 2,ol 17 3,oC 54 [13,14],ow 0 15,nB .neq 0],cr 17 18 [ol 2 5,o2 2 4]],sq [rg 19 [fo 0 3,oC 73 [20]],ci 21 (dg 22 [of 0 5,mM [1],no,of 2 3,nf 0,mM [1],no,ol 2 2,ol 17 3,oC 74 [27,28],oW [1,2,72] [(0,1,26),(1,2,29)],n1 3,na 3 23,of 0 5,os 1 33 32])],sq [rg 34 [fo 0 3,oC 75 [35]],ci 36 (sq [rg 6 [oi 1],sq [rg 37 [fo 0 3,nB .eql 7],ci 39 (rg 6 [oi 2])],rg 41 [ol 2 2,of 2 3,nF 0,oC 76 [41,44],o1 40,oe 40 0,oe 40 1,ot 7 46,o1 8],rg 48 [fo 4 3,nL,oi 0],lp 50 0 (sq [rg 53 [oA 2 49 51,nl 2,oZ 10 [1,0],o2 2 10],rg 55 [fo 1 5,fo 0 10,om 6,om 7,oW [1,0,0] [(0,1,58),(1,1,59),(2,1,60)],n1 3,na 3 56,of 1 5,os 1 64 63]]) 65])],rg 66 [ol 2 5,o2 2 4],.ret]) [.cell 4 aa 2] 67:=aW func42
def ag7:aT prog 72 (sq [rg 0 [ox 1 2 0,oZ 2 [8,8]],rg 0 [oZ 3 [8,8]],sq [rg 6 [fo 0 1,nL,oi 0],lp 8 0 (sq [rg 11 [oA 3 7 9,nl 3,oZ 5 [1,2,72],o2 3 5],dg 13 [of 0 3,mM [1],no,of 0 5,mM [1],no,of 1 5,nl 2,oC 137 [18],oW [1,2,72] [(0,1,16),(1,2,19)],n1 3,na 3 14,of 0 3,os 1 23 22]]) 24],rg 25 [fo 1 3,fo 1 1,na 3 26,of 1 3,os 1 30 29],rg 31 [ol 2 3,o2 2 2],.ret]) [.cell 2 aa 2] 32:=aW func72
def r9(l:List dY):List (List V):=l.map dY.enc
def vl(l:List du):List (List V):=l.map du.enc
variable{l:List dY}
def Ml:(r9 l).length=l.length:=by simp[r9]
def asa{l:List du}:(vl l).length=l.length:=by simp[vl]
def alq{x:dY}:r9 (l++[x])=r9 l++[x.enc]:=by simp[r9]
def ar'{l:List du}{x:du}:vl (l++[x])=vl l++[x.enc]:=by simp[vl]
variable{j:Nat}
def alr(h:j<l.length):(l.map dY.enc)[((j:Nat):Int).toNat]?=U l[j].enc:=by simp[h]
def clO(s:aH)(Z:ag)(v:V)(σ' : ag):Prop:=∃Y υ,Y≠υ/\Z.aK Y=af/\Z.aK υ=af/\v = .agg [.sl (.tk Y) 3 (r9 s.bu),.sl (.tk υ) 3 (vl s.vars)]/\σ' = (Z.aY Y s.bu.length).aY υ s.vars.length
def aqh(s:aH)(Z:ag)(hs:s.ok):cg prog 72 [.agg s.enc] Z (clO s Z):=by
 obtain⟨h1,h2,h3⟩:=hs;refine ag7.aS ?_;simp only[aR,am,a8,Nat.reduceAdd,aH.al,aN];obtain⟨Q,hQ⟩:∃Q:Nat->List dY,∀i,Q i=s.bu.take i:=⟨_,λ_=>rfl⟩;have vT:Q 0=[]:=by rw[hQ];rfl
 have zm:Q s.bu.length=s.bu:=by rw[hQ,eN]
 refine dP (s.bu.length) (λi (Y:Nat)=>⟨[.any,.ptr (.aD 0) 0,.ptr (.aD 1) 0,.ptr (.aD 2) 0,.any,.any,.any,.sl .no 3 (s.bu.map dY.enc),.int .i64 (s.bu.length:Nat),.int .i64 (i:Nat)]++au 22 .any,[s.enc,[.sl .aV 3 [],.sl .aV 3 []],[.sl (.tk Y) 3 (r9 (Q i)),.sl .aV 3 []]],Z.aY Y (Q i).length⟩) (λi Y=>(Z.aK Y=af)) λF hF JF bj=>⟨?_,?_,?_⟩
 .refine JE 0 λY br=>⟨Y,eQ (bj _ _) br,?_,?_,?_⟩
  all_goals simp[hF,au,o5,Mc,vT,r9]
 .rintro i Y hi br;have qQ:Q (i+1)=Q i++[s.bu[i]]:=by rw[hQ,hQ,jx hi]
  have zk:(Q i).length+1<=100001:=by rw[hQ,iR];omega
  have hlen:(r9 (Q i)).length=(Q i).length:=Ml;have Ki:(Q (i+1)).length=(Q i).length+1:=by rw[qQ];simp
  simp only[hF,au,am,dB hi];refine ix (alr hi) ?_;simp only[am,Nat.reduceAdd,aH.al,bA.al,dY.M5,dY.M6,dY.Ed,dY.M7];refine bJ.intro (aqi s.bu[i].shape (Z.aY Y (Q i).length) (h3 _ (fh hi))) ?_;simp only[am,Nat.reduceAdd,bA.al];refine xf (by rw[hlen];simp[aO];omega) (by rw[hlen];exact iZ) ?_;rw[hlen];simp only[am,a9,aH.al,jr,cE hi,gC];rw[show V.aF s.bu[i].name::s.bu[i].shape.enc=s.bu[i].enc from rfl,<-alq,<-qQ,<-Ki];refine fQ (Y) hi ?_ ?_ ?_ ?_ ?_ ?_
  .exact eQ (bj _ _) (br)
  all_goals simp[hF,au,am,bQ,bS,dL,V.lo,aH.cH]
 .rintro Y br;simp only[hF,au,am,a9,dV,a9,aH.al,zm];refine Fm (by simp[aO];omega) λυ kq=>?_
  simp only[am,Nat.reduceAdd,aN,aN];have aX:Y≠υ:=λe=>by rw[<-e,iZ] at kq;simp at kq
  exact apr rfl (ag.bc _) ⟨Y,υ,aX,br,by rw[pe aX.symm] at kq;exact kq,by simp[r9,vl],by simp⟩
variable{b Y:Nat}{Z:ag}
def arf{υ a d:Nat}(h1:Z.aK Y=af)(h2:Z.aK υ=af):Z.sub (((Z.aY Y a).aY υ b).aY Y d):=by
 refine⟨λ_ _ h=>h,λt n h=>?_,λ_ _ h=>h⟩;have e1:t≠υ:=λe=>by rw[e,h2] at h;simp at h
 have e2:t≠Y:=λe=>by rw[e,h1] at h;simp at h
 rw[pe e2,pe e1,pe e2];exact h
def aa0{op:Int}(h:l_ op=aa):op=1\/op=2\/op=3\/op=4\/op=5:=by
 simp only[l_,bC,ca] at h;omega
def NY{υ a:Nat}(h1:Z.aK Y=af)(h2:Z.aK υ=af):Z.sub ((Z.aY Y a).aY υ b):=by
 refine⟨λ_ _ h=>h,λt n h=>?_,λ_ _ h=>h⟩;have e1:t≠υ:=λe=>by rw[e,h2] at h;simp at h
 have e2:t≠Y:=λe=>by rw[e,h1] at h;simp at h
 rw[pe e1,pe e2];exact h
def Yg(s:aH)(c:aq)(hs:s.uY)(hg:TZ Z)(hn:c.aj.length<=100000)(hp:c.bm.length<=100000):
 a_ 42 [.agg s.enc,.agg c.enc] Z (.agg (sD s c).enc):=by
 have hl:=hs.1.1;have hv:=hs.1.2.1;refine agW.aS ?_;simp only[aR,am,a8,Nat.reduceAdd,aH.al,di];refine(aqh s Z hs.1).mono ?_;rintro v fz ⟨Y,υ,aX,br,kq,rfl,rfl⟩;have t1:((Z.aY Y s.bu.length).aY υ s.vars.length).aK Y=U s.bu.length:=by rw[pe aX,iZ]
 simp only[am,Nat.reduceAdd,aH.al,di];refine cl (Wm s c (Z:=(Z.aY Y s.bu.length).aY υ s.vars.length) hs hg hn hp) ?_
 by_cases hf:(kE s c).cls=0
 case neg =>
  simp only[am,Nat.reduceAdd,fk,aL.al,hf];exact aP rfl (NY br kq) ⟨by rw[sD,aE hf];rfl,rfl⟩
 simp only[am,bM,aL.al,eU,hf];refine cl (L1 c.op _) ?_;cases h5:l_ c.op with
 | true =>
  simp only[am,aH.al,di,cO];refine bJ.intro (aqB s c ((Z.aY Y s.bu.length).aY υ s.vars.length) hs hn hp) ?_;simp only[am,Nat.reduceAdd,bA.al];refine xf (by rw[Ml];simp[aO];omega) (by rw[Ml];exact t1) ?_;simp only[am,eU,cO];have r5:nJ c.op=false:=by
   rcases aa0 h5 with e | e | e | e | e<;>simp[nJ,e]
  refine cl (EA c.op _) ?_;simp only[am,Nat.reduceAdd,r5];refine aP rfl ?_ ⟨?_,rfl⟩
  .exact arf br kq
  .rw[sD,aC (by simp[hf]),aE h5];simp[V.erase,bx,aH.enc,r9,vl,dY.enc]
 | false =>
  simp only[am,eU];refine cl (EA c.op _) ?_;cases h2:nJ c.op with
  | false =>
   simp only[am,Nat.reduceAdd];exact aP rfl (NY br kq) ⟨by rw[sD,aC (by simp[hf]),aC (by simp[h5]),aC (by simp[h2])];rfl,rfl⟩
  | true =>
   simp only[am,eU];obtain⟨w,hw⟩:∃w:aA->du,∀x,w x=⟨x.an,if c.op=7 then 2 else 1,dh (iu s.bu c.name.an)⟩:=⟨_,λ_=>rfl⟩;obtain⟨Q,hQ⟩:∃Q:Nat->List du,∀i,Q i=s.vars++(c.aj.take i).map w:=⟨_,λ_=>rfl⟩;have vT:Q 0=s.vars:=by rw[hQ];simp
   have zm:(⟨s.bu,Q c.aj.length⟩:aH)=sD s c:=by
    rw[sD,aC (by simp[hf]),aC (by simp[h5]),aE h2,hQ,eN];rw[funext hw]
   by_cases h7:c.op=7
   case' pos=>simp only[am,aH.al,cO,aQ h7]
   case' neg=>simp only[am,aH.al,cO,aM h7]
   all_goals
    refine cl (vd s c.name.an _ hs.1.1 hs.1.2.1) ?_;simp only[am,aN,aN,cO];refine dP (c.aj.length) (λi (x:Unit)=>⟨[.any,.any,.ptr (.aD 0) 0,.ptr (.aD 1) 0,.ptr (.aD 2) 0,.ptr (.aD 3) 0,.int .i64 (if c.op=7 then 2 else 1),.int .i64 (dh (iu s.bu c.name.an)),.any,.any,.any,.any,.any,.any,.any,.any,.any,.any,.any,.any,.any,.any,.any,.any,.any,.any,.any,.any,.any,.any,.any,.any,.any,.any,.any,.any,.any,.any,.any,.any,.any,.any,.any,.any,.any,.any,.any,.any,.any,.sl .no 2 (c.aj.map aA.enc),.int .i64 (c.aj.length:Nat),.int .i64 (i:Nat)]++au 15 .any,[s.enc,c.enc,[.sl .aV 3 [],.sl .aV 3 []],[.sl (.tk Y) 3 (r9 s.bu),.sl (.tk υ) 3 (vl (Q i))]],(Z.aY Y s.bu.length).aY υ (Q i).length⟩) (λi x=>(True)) λF hF JF bj=>⟨?_,?_,?_⟩
    .refine en bj (()) (trivial) ?_ ?_ ?_
     all_goals simp[hF,au,am,bQ,h7,vT]
    .rintro i x hi -;have qQ:Q (i+1)=Q i++[w c.aj[i]]:=by rw[hQ,hQ,jx hi,f_,eB];rfl
     have zk:(Q i).length+1<=300000:=by rw[hQ];simp only[bN,aN,iR];omega
     have hlen:(vl (Q i)).length=(Q i).length:=asa;have Ki:(Q (i+1)).length=(Q i).length+1:=by rw[qQ];simp
     simp only[hF,au,am,dB hi];refine ix (AG hi) ?_;simp only[am,Nat.reduceAdd,aA.al,wS];refine jP (by rw[hlen];simp[aO];omega) (by rw[hlen];exact iZ) ?_;rw[hlen];simp only[am,a9,jr,cE hi,gC];rw[show [V.aF c.aj[i].an,V.int .i64 (if c.op=7 then 2 else 1),V.int .i64 (dh (iu s.bu c.name.an))]=(w c.aj[i]).enc by rw[hw];rfl,<-ar',<-qQ,<-Ki];refine fQ (()) hi ?_ ?_ ?_ ?_ ?_ ?_
     .exact eQ (bj _ _) (trivial)
     all_goals simp[hF,au,am,bQ,bS,dL,V.lo,aH.cH,aq.enc,aq.cQ]
    .rintro x -;simp only[hF,au,am,a9,dV,Nat.reduceAdd,a9];refine aP rfl (NY br kq) ⟨?_,rfl⟩;rw[<-zm];rfl
def ael:aT prog 11 (sq [rg 2 [oz 1],rg 3 [oz 6],sq [rg 6 [om 0,oC 21 [6],nL,oi 0],lp 8 0 (sq [rg 11 [oA 1 7 9,no,o1 5],rg 13 [om 3,om 5,oq (.mu (.s 13) (.s 14)),o1 3],rg 16 [om 3,oq (.kf 1 [(.c (.int .u8 10))]),na 1 16,o1 3]]) 19],rg 20 [om 3,oq (.sI (.s 20)),o1 2],.ret]) [.tmp 2] 22:=aW func11
def Ro:aT prog 15 (sq [rg 0 [oZ 2 [0,0,0]],sq [rg 3 [om 0,oq (.qK ak (.s 3) (.c .fV))],cr 4 5 [oW [0,0,0] [],o2 3 2]],dg 6 [mk 0,nf 0,nF 4,mk 0,nf 0,nF 2,nL,mk 0,nF 5,nL,nB .add 1,oW [0,0,0] [(0,1,10),(1,1,16),(2,1,22)],o2 3 2],.ret]) [.cell 2 aa 3] 24:=aW func15
def Rp:aT prog 21 (sq [rg 2 [oz 6],sq [rg 3 [om 0,oq (.qK ak (.s 3) (.c .fV))],cr 4 2 [oz 6]],rg 5 [oq (.kf 1 []),mk 0,nf 0,nF 3,na 1 5,o1 2],.ret]) [.tmp 2] 12:=aW func21
def afK:aT prog 24 (sq [rg 0 [oZ 2 [8,8,23]],rg 0 [oZ 3 [8,8,23]],sq [rg 6 [om 0,oq (.qK ak (.s 6) (.c .fV))],cr 7 8 [ol 3 3,o2 3 2]],rg 9 [mk 0,nf 0,nf 0,nl 2,oW [0,0,1,0,7,9,0,0,0,1,7,10,0,0,1,7,10] [],oC 42 [13,14],of 0 3,os 2 16 15],sq [rg 17 [mk 0,nf 0,nF 2,nL,oi 0],lp 22 0 (sq [rg 25 [oA 18 21 23,nl 18,oR 5 iJ,o2 18 5],dg 27 [of 2 3,mM [1],no,ol 18 5,oC 43 [29],n1 18,na 18 28,of 2 3,os 1 33 32]]) 34],rg 35 [ol 3 3,o2 3 2],.ret]) [.cell 2 aa 3] 36:=aW func24
def agX:aT prog 43 (sq [rg 0 [ox 1 18 0,oR 2 iJ],rg 3 [oq (.kf 10 []),fo 2 1,na 10 3,of 2 1,os 1 7 6],rg 8 [oq (.kf 10 []),of 12 1,nF 0,na 10 8,of 12 1,nf 0,os 1 14 12],rg 15 [oq (.kf 10 []),of 14 1,nF 0,na 10 15,of 14 1,nf 0,os 1 21 19],rg 22 [ol 18 1,o2 18 2],.ret]) [.cell 2 aa 18] 23:=aW func43
def aa'(x:dQ)(Z:ag)(h:w_ x):a_ 43 [.agg x.enc] Z (.agg x.enc):=by
 obtain⟨h1,h2,h3⟩:=h;refine agX.aS ?_;simp only[aR,am,a8,Nat.reduceAdd,jA];refine xg (by simp[aO];omega) ?_;simp only[am,jA,gd];refine xg (by simp[aO];omega) ?_;simp only[am,jA,gd];refine xg (by simp[aO];omega) ?_;simp only[am,jA,gd];exact aP (v:=.agg x.enc) dQ.dw (ag.bc _) ⟨by simp only[V.erase,dQ.dk],rfl⟩
variable{k:Tk}{s:gV}
def H0(h:Z.box b=U (jF k s))(hn:s.fc.length<=100000):a_ 15 [.ptr (.out b) 0] Z (.agg (rk s).enc):=by
 rw[jF] at h;refine Ro.aS ?_;simp only[aR,am,a8,Nat.reduceAdd,yV];simp only[am,Nat.reduceAdd,aN,aN,h,wrap_i64 (x:=((s.fc.length:Nat):Int)+1) (by omega) (by omega)];exact aP rfl (ag.bc _) ⟨rfl,rfl⟩
def aqR(Z:ag):a_ 15 [.fV] Z (.agg (Rm.mk 0 0 0).enc):=by
 refine Ro.aS ?_;simp only[aR,am,a8,Nat.reduceAdd,yV];exact aP rfl (ag.bc _) ⟨rfl,rfl⟩
def akP(h:Z.box b=U (jF k s))(hn:s.live.lines.length<=100000):a_ 21 [.ptr (.out b) 0] Z (.sl .no 1 (cU s.live.lines)):=by
 rw[jF] at h;refine Rp.aS ?_;simp only[aR,am,a8,Nat.reduceAdd,yV];simp only[am,h];refine xg (by simp[iY,aO];omega) ?_;simp only[am,gd];exact aP rfl (ag.bc _) ⟨rfl,rfl⟩
def TV(Z:ag):a_ 21 [.fV] Z (.sl .no 1 []):=by
 refine Rp.aS ?_;simp only[aR,am,a8,Nat.reduceAdd,yV];exact aP rfl (ag.bc _) ⟨rfl,rfl⟩
def Hi{l:List (List UInt8)}(h:j<l.length):(cU l)[((j:Nat):Int).toNat]?=U [.aF l[j]]:=by simp[cU,h]
theorem acW:de [10]=[[.int .u8 10]]:=rfl
def WW{l:List (List UInt8)}{u:V}(hu:u.cI=aa)(hl:kv l<=1000000)(hc:a_ 21 [u] Z (.sl .no 1 (cU l))):a_ 11 [u] Z (.aF (rp l)):=by
 have Sy:=@Ho l;refine ael.aS ?_;simp only[aR,am,a8,Nat.reduceAdd];refine⟨hu,cl hc ?_⟩;simp only[am,iY];refine dP (l.length) (λi (Y:Nat)=>⟨[.any,.any,.any,.sl (.tk Y) 1 (de (rp (l.take i))),.any,.any,.any,.sl .no 1 (cU l),.int .i64 (l.length:Nat),.int .i64 (i:Nat)]++au 12 .any,[],Z.aY Y (rp (l.take i)).length⟩) (λi Y=>(Z.aK Y=af)) λF hF JF bj=>⟨?_,?_,?_⟩
 .refine FT 0 λY br=>⟨Y,eQ (bj _ _) br,?_,?_,?_⟩
  all_goals simp[hF,au,o5,rp,de]
 .rintro i Y hi br;have hn:=@alp l (i+1);rw[<-W5,W6 hi] at hn;simp only[bN,gC] at hn;simp only[hF,au,am,dB hi];refine ix (Hi hi) ?_;simp only[am,cF];refine⟨_,rfl,?_⟩;refine jP (by rw[iS,iS];simp[aO];omega) (by rw[iS,iZ]) ?_;simp only[am,jr];rw[<-acW,<-CV,iS,iS,<-bN];refine jP (by rw[iS,iS];simp[aO];omega) (by rw[iS,iZ]) ?_;simp only[am,a9,jr,cE hi];rw[<-CV,iS,iS,<-bN,<-W6 hi];exact nx bj (Y) hi (br)
 .rintro Y br;simp only[hF,au,am,cF,a9,dV,a9,eN];refine⟨_,_,rfl,?_⟩;refine aP rfl (so br) ⟨?_,rfl⟩;simp[V.erase]
def Pz{l:List dQ}(h:j<l.length):(l.map dQ.enc)[((j:Nat):Int).toNat]?=U l[j].enc:=by simp[h]
def afQ:aT prog 25 (sq [rg 2 [oz 2],rg 3 [om 0,nB .geq 1,gA,om 0,nB .leq 10,gZ,o1 2],.ret]) [.tmp 2] 9:=aW func25
def ago:aT prog 29 (sq [rg 0 [ox 3 2 0,ox 4 3 1,oZ 6 [0,0,1,0,7,9,0,0,0,1,7,10,0,0,1,7,10],oR 7 iJ,oZ 8 [0,0]],rg 15 [om 2,oC 53 [15],o1 14,oe 14 0,oe 14 1,oZ 9 [0,0,1,0,7,9,0,0,0,1,7,10,0,0,1,7,10],oZ 10 [0,0],os 17 9 17,o2 2 10],sq [rg 19 [fo 0 10,nB .neq 0],ci 21 (sq [dg 22 [oW [0,0,1,0,7,9,0,0,0,1,7,10,0,0,1,7,10] [],oY iJ [],mM [1,2],ol 2 10,os 17 6 22,os 18 7 23,o2 2 8],.ret])],dg 25 [ol 2 3,ol 17 9,oC 54 [25,26],mM [0],ol 2 3,mM [0],ol 17 9,oC 55 [28,29],oq (.kf 2 [(.s 27),(.s 30)]),o1 11],sq [rg 32 [ol 3 4,ol 17 9,oC 56 [32,33]],ci 34 (rg 35 [om 11,fo 1 9,oG [0,0] [(0,1,.c (.int .i64 7)),(1,1,.s 37)],n1 2,na 2 35,o1 11])],sq [rg 41 [fo 0 9,nB .eql 12,gA,fo 2 4,nB .leq 1,gZ],ci 48 (rg 49 [om 11,fo 1 9,oG [0,0] [(0,1,.c (.int .i64 8)),(1,1,.s 51)],n1 2,na 2 49,o1 11])],sq [rg 55 [om 11,oC 57 [55],o2 2 10],rg 57 [fo 0 10,nB .neq 0],ci 59 (sq [dg 60 [oW [0,0,1,0,7,9,0,0,0,1,7,10,0,0,1,7,10] [],oY iJ [],mM [1,2],ol 2 10,os 17 6 60,os 18 7 61,o2 2 8],.ret])],rg 64 [ol 2 3,ol 17 9,oC 58 [64,65],o1 63,oe 63 0,oe 63 1,oR 12 iJ,os 18 12 67,o1 13],dg 69 [ol 17 9,mM [1],ol 18 12,oW [0,0] [],os 17 6 69,os 18 7 70,o2 2 8],.ret]) [.cell 6 aa 17,.cell 7 aa 18,.cell 8 aa 2] 72:=aW func29
def ag1:aT prog 56 (sq [rg 4 [ox 2 3 0,ox 3 17 1,oz 2],sq [rg 6 [fo 0 3,oC 25 [7]],ci 8 (sq [rg 9 [ol 17 3,oC 59 [9],nT,o1 5],rg 12 [om 5,nB .gtr 1024,gB,fo 0 2,om 5,oq (.ek .sub (.c (.int .i64 16383)) (.s 17)),nb .gtr 16,gZ],cr 20 4 [oq (.mv (.c (.bool aa)))]])],rg 21 [fo 0 3,oC 112 [22],gA,fo 1 2,nB .geq 64,gZ,nm,oh 29 (of 0 3),oh 29 (no),oh 29 (nB .eql 11),oh 29 (nm),og 33 (of 2 2),og 33 (no),og 33 (nB .geq 16),oh 29 (oy 33 36),oq (.pick (.s 29) (.c (.bool aa)) (.s 37)),o1 4],.ret]) [.tmp 4] 39:=aW func56
def aeo:aT prog 112 (sq [rg 2 [oz 2],rg 3 [om 0,nB .geq 8,gA,om 0,nB .leq 10,gZ,o1 2],.ret]) [.tmp 2] 9:=aW func112
def WV(op:Int)(Z:ag):a_ 25 [.int .i64 op] Z (.bool (tI op)):=by
 refine afQ.aS ?_;simp only[aR,am,a8,Nat.reduceAdd]
 by_cases h:1<=op
 .simp only[am,aQ h];refine aU ?_;simp[V.erase,tI,h]
 .simp only[am,aM h];refine aU ?_;simp[V.erase,tI,h]
def Py(op:Int)(Z:ag):a_ 112 [.int .i64 op] Z (.bool (vE op)):=by
 refine aeo.aS ?_;simp only[aR,am,a8,Nat.reduceAdd]
 by_cases h:8<=op
 .simp only[am,aQ h];refine aU ?_;simp[V.erase,vE,h]
 .simp only[am,aM h];refine aU ?_;simp[V.erase,vE,h]
def It:=ae @am <| ae @pn <| ae @cF <| ae @kh <| ae @bM <| ae @fk <| ae @a9 <| ae @Rl.al <| ae @bp.al <| ae @aH.al <| ae @bA.al <| ae @aA.al <| ae @ju <| ae @sB @wZ
def akK(r:Rm)(c:aq)(km:Z.bY 0=U gh)(hw:16*c.wt+64<=aO):a_ 56 [.agg r.enc,.agg c.enc] Z (.bool (kt r c)):=by
 have tail:∀B:Bool,(tI c.op&&(decide (1024<((eb c).length:Int))||decide (IntKind.i64.wrap (16383 - (eb c).length)<r.bytes)))=ak->B=((vE c.op&&decide (64<=r.lY))||(decide (c.op=11)&&decide (16<=r.fc)))->B=kt r c:=λB h e=>by
  rw[e,kt,h,EK]
 refine ag1.aS ?_;simp only[aR,am,a8,Nat.reduceAdd,Rm.al,di,eU];refine cl (WV c.op Z) ?_;cases hs:tI c.op with
 | true =>
  rw[hs,lj] at tail;simp only[am,di];refine cl (Qx c km hw) ?_;simp only[am];have yes:(decide (1024<((eb c).length:Int))||decide (IntKind.i64.wrap (16383 - (eb c).length)<r.bytes))=aa->kt r c=true:=λh=>by rw[kt,hs,h];rfl
  cases h1:decide (1024<((eb c).length:Int)) with
  | true =>
   simp only[am];refine aU ?_;simp[V.erase,yes (by rw[h1];rfl)]
  | false =>
   cases h2:decide (IntKind.i64.wrap (16383 - (eb c).length)<r.bytes) with
   | true =>
    simp only[am,Rm.al,h2];refine aU ?_;simp[V.erase,yes (by rw[h1,h2];rfl)]
   | false =>
    have tl:=λB=>tail B (by rw[h1,h2];rfl)
    simp only[am,Rm.al,eU,h2];refine cl (Py c.op Z) ?_;simp only[am]
    repeat' (first
     | (refine kP (λh=>?_) (λh=>?_)<;>simp only[am,h,Rm.al,eU])
     | (refine e9 (λh=>?_) (λh=>?_)<;>simp only[It,h,Nat.reduceAdd,Nat.reduceEqDiff,aN,Int.reduceNeg,dm,cD,eD,Int.reduceEq,Int.reduceLT,Int.reduceLE,Int.reduceGE,Nat.reduceLT,Int.reduceToNat,Nat.reduceMul,cn,reduceCtorEq,aL.al,Rm.al,di,eU,cO,uj,lr,iJ])
     | (refine la (λh=>?_) (λh=>?_)<;>simp only[It,h,Nat.reduceAdd,Nat.reduceEqDiff,aN,Int.reduceNeg,dm,cD,eD,Int.reduceEq,Int.reduceLT,Int.reduceLE,Int.reduceGE,Nat.reduceLT,Int.reduceToNat,Nat.reduceMul,cn,reduceCtorEq,aL.al,Rm.al,di,eU,cO,uj,lr,iJ])
    )
    all_goals refine aU ?_
    all_goals simp only[V.erase]
    all_goals refine gX V.bool (tl _ ?_)
    all_goals clear tl tail hw km
    all_goals simp[*]
 | false =>
  have tl:=λB=>tail B (by rw[hs];rfl)
  simp only[am,eU];refine cl (Py c.op Z) ?_;simp only[am]
  repeat' (first
   | (refine kP (λh=>?_) (λh=>?_)<;>simp only[am,h,Rm.al,eU])
   | (refine e9 (λh=>?_) (λh=>?_)<;>simp only[It,h,Nat.reduceAdd,Nat.reduceEqDiff,aN,Int.reduceNeg,dm,cD,eD,Int.reduceEq,Int.reduceLT,Int.reduceLE,Int.reduceGE,Nat.reduceLT,Int.reduceToNat,Nat.reduceMul,cn,reduceCtorEq,aL.al,Rm.al,di,eU,cO,uj,lr,iJ])
   | (refine la (λh=>?_) (λh=>?_)<;>simp only[It,h,Nat.reduceAdd,Nat.reduceEqDiff,aN,Int.reduceNeg,dm,cD,eD,Int.reduceEq,Int.reduceLT,Int.reduceLE,Int.reduceGE,Nat.reduceLT,Int.reduceToNat,Nat.reduceMul,cn,reduceCtorEq,aL.al,Rm.al,di,eU,cO,uj,lr,iJ])
  )
  all_goals refine aU ?_
  all_goals simp only[V.erase]
  all_goals refine gX V.bool (tl _ ?_)
  all_goals clear tl tail hw km
  all_goals simp[*]
def PC:cC (cz 0 0 (.sl .aV 10 []) .zero (.sl .aV 10 []) 0 (.sl .aV 10 []) 0 0 [])=true:=yY rfl rfl rfl
def YD:bx (cz 0 0 (.sl .aV 10 []) .zero (.sl .aV 10 []) 0 (.sl .aV 10 []) 0 0 [])=dQ.zero.enc:=by rw[Fo];rfl
def YE:bK (cz 0 0 (.sl .aV 10 []) .zero (.sl .aV 10 []) 0 (.sl .aV 10 []) 0 0 [])=true:=Fp rfl rfl rfl
def YC(x:dQ):cC x.enc=true:=yY rfl rfl rfl
def r8(x:aq × dQ × aL):V:=.bt [.agg x.1.enc,.agg x.2.1.enc,.agg x.2.2.enc]
structure Pa(c:aq):Prop where
 n:c.aj.length<=100000
 p:c.bm.length<=100000
 l:c.left.cy<=100000
 r:c.right.cy<=100000
 wl:c.left.wt<=aO
 wr:c.right.wt<=aO
 w:16*c.wt+64<=aO
variable{t:List UInt8}
def MD(ht:t.length<=3000):Pa (cW t).1:=by
 have hb:=apj t;generalize (cW t).1=c at hb;have h1:=hb.ns;have h2:=hb.ps;have h3:=hb.l;have h4:=hb.r;have h5:=hb.nm;have h6:=hb.pt;have h7:=(MZ c.aj).2;have h8:=FH c.left;have h9:=FH c.right;have jV:aO=268435456:=rfl;have hcw:c.wt=c.name.an.length+eK c.aj+j8 c.bm+c.left.wt+c.right.wt:=rfl;exact⟨by omega,by omega,by omega,by omega,by omega,by omega,by omega⟩
def ajz(s:aH)(r:Rm)(t:List UInt8)(hs:s.uY)(hg:TZ Z)(km:Z.bY 0=U gh)(ht:t.length<=3000):
 a_ 29 [.agg s.enc,.agg r.enc,.aF t] Z (r8 (lK s r t)):=by
 have jV:aO=268435456:=rfl;have b_:=MD ht;have hm:=TU t;have fK:=@Hg s r t;have iM:=@Hh s r t;have zK:=@DW s r t;refine ago.aS ?_;simp only[aR,am,a8,Nat.reduceAdd,aH.al,Rm.al,iJ];refine cl (abv t km (by omega) (by rw[Ay];omega)) ?_;generalize cW t=R at b_ fK iM zK;generalize lK s r t=X at fK iM zK;obtain⟨c,k,a⟩:=R;simp only at b_ fK iM zK;obtain⟨Y'',hY⟩:∃Y'':dQ,Y''=(if jE s c=aa then lZ s c else .zero):=⟨_,rfl⟩;rw[<-hY] at zK;obtain⟨A,hA⟩:∃A:List V,A=Y''.enc:=⟨_,rfl⟩;have a1:A.length=18:=by rw[hA];exact sF
 have a2:takeN 18 A=U A:=by rw[hA];exact I7
 have a3:cC A=true:=by rw[hA];exact YC Y''
 have a4:bK A=true:=by rw[hA];exact dQ.dw
 have a5:over (cz 0 0 (.sl .aV 10 []) .zero (.sl .aV 10 []) 0 (.sl .aV 10 []) 0 0 []) A=A:=by rw[hA];exact tu (by rw[sF];exact sF.symm)
 have a6:bx A=Y''.enc:=by rw[hA];exact dQ.dk
 have hT:yX s c = .bt [.agg A,.bool (jE s c)]:=by rw[yX,hA,hY]
 have cA:=adE s c (Z:=Z) hs.1 hg km (by have:=b_.n;omega) (by have:=b_.p;omega) b_.l b_.r b_.wl b_.wr;rw[hT] at cA;have aG:∀(t:List V) (lo:List (List V)) (f:aL),X=(.zero,.zero,f)->mV (λv σ' => v=r8 X/\σ' = Z) ⟨t,lo,Z⟩ (.bt [.agg gH,.agg (cz 0 0 (.sl .aV 10 []) .zero (.sl .aV 10 []) 0 (.sl .aV 10 []) 0 0 []),.agg f.enc]):=λt lo f h=>by
  refine aP (by simp only[V.cI,bK,YE];rfl) (ag.bc _) ⟨?_,rfl⟩;rw[h,r8];simp only[V.erase,bx,YD];rfl
 simp only[am,Nat.reduceAdd,di,JT]
 by_cases hk:k=0
 case neg =>
  simp only[am,Nat.reduceAdd,lr,aM hk,PC];exact aG _ _ ⟨k,a⟩ (fK hk)
 simp only[am,aH.al,di,aQ hk];refine bJ.intro (Wm s c hs hg b_.n b_.p) ?_;simp only[am,aH.al,di];refine bJ.intro (Q_ s c hs.1 hg b_.l b_.r b_.wl b_.wr) ?_;simp only[am,aL.al,aH.al,Rm.al,di];refine cl (akK r c km b_.w) ?_;have pC:(∃L,kX s r c=L/\kt r c=aa/\c.op≠12/\L=[kE s c,jQ s c]++[⟨7,c.pos⟩])\/(∃L,kX s r c=L/\kt r c=ak/\c.op=12/\r.fc<=1/\L=[kE s c,jQ s c]++[⟨8,c.pos⟩]) \/
  (∃L,kX s r c=L/\kt r c=ak/\c.op=12/\¬r.fc<=1/\L=[kE s c,jQ s c])\/(∃L,kX s r c=L/\kt r c=ak/\c.op≠12/\L=[kE s c,jQ s c]):=by
  cases hl:kt r c with
  | true =>
   have hp:=akL hl;exact .inl ⟨_,rfl,rfl,hp,by simp[kX,hl,dT,hp]⟩
  | false =>
   by_cases mz:c.op=12
   .by_cases hf:r.fc<=1
    .exact .inr (.inl ⟨_,rfl,rfl,mz,hf,by simp[kX,hl,dT,mz,hf]⟩)
    .exact .inr (.inr (.inl ⟨_,rfl,rfl,mz,hf,by simp[kX,hl,dT,hf]⟩))
   .exact .inr (.inr (.inr ⟨_,rfl,rfl,mz,by simp[kX,hl,dT,mz]⟩))
 rcases pC with ⟨L,hL,e1,e2,e3⟩ | ⟨L,hL,e1,e2,e4,e3⟩ | ⟨L,hL,e1,e2,e4,e3⟩ | ⟨L,hL,e1,e2,e3⟩
 case' inl =>
  simp only[am,Nat.reduceAdd,eU,e1];refine xg (by simp[aO]) ?_;simp only[am,eU,aM e2]
 case' inr.inl =>
  simp only[am,Nat.reduceAdd,Rm.al,eU,e1,aQ e2,aQ e4];refine xg (by simp[aO]) ?_;simp only[am]
 case' inr.inr.inl =>
  simp only[am,Rm.al,eU,e1,aQ e2,aM e4]
 case' inr.inr.inr =>
  simp only[am,eU,e1,aM e2]
 all_goals
  rw[hL] at iM zK;refine cl (cg.eh (as' := [.sl .no 2 (L.map aL.enc)]) (x_ L _ (by rw[e3];simp)) ⟨by rw[e3];exact da.no,trivial⟩ bL.rfl) ?_;generalize fU L=f at iM zK;simp only[am,aL.al]
  by_cases hf:f.cls=0
  .simp only[am,aH.al,di,aQ hf];refine cl cA ?_;simp only[am,Nat.reduceAdd,di,lr,a1,a2,a3,a5];refine aP (by simp only[V.cI,bK,a4];rfl) (ag.bc _) ⟨?_,rfl⟩;rw[zK hk hf,r8];simp only[V.erase,bx,a6];rfl
  .simp only[am,Nat.reduceAdd,aL.al,lr,aM hf,PC];exact aG _ _ f (iM hk hf)
def agy:aT prog 30 (sq [rg 0 [ox 4 17 1,ox 5 18 2],rg 9 [ol 17 4,oC 59 [9],o1 6],rg 11 [mk 0,nf 0,nF 3,nL,o1 7],rg 17 [om 0,mk 0,nf 0,nF 3,om 7,om 7,oq (.kF 1 (.s 22) af (U (.s 23)) (U (.s 24))),om 6,n1 1,na 1 25,ok 17,nf 0,nf 3,os 1 31 28],rg 32 [mk 0,nf 0,nF 4,om 6,nT,nB .add 1,nb .add 36,ok 32,nf 0,nf 4,os 1 43 40],sq [rg 44 [fo 0 5,nB .neq 0],ci 46 (sq [rg 47 [mk 0,nf 0,nF 2,nL,o1 8],dg 53 [om 0,mk 0,nf 0,nf 2,mM [1],no,om 8,om 8,oq (.kF 18 (.s 58) af (U (.s 59)) (U (.s 60))),ol 18 5,oC 43 [62],n1 18,na 18 61,ok 53,nf 0,nf 2,os 1 68 65],.ret])],dg 69 [om 0,mk 0,nf 0,nf 0,nl 2,ol 17 4,oC 42 [74,75],ok 69,nf 0,nf 0,os 2 79 76]]) [] 80:=aW func30
theorem PL{x:dQ}:bF ak 1 x.enc=U (.int .i64 x.op):=rfl
def aq5(c:aq)(x:dQ)(h:Z.box b=U (jF k s))(ho:s.live.ok)(hg:TZ Z)(km:Z.bY 0=U gh)
 (hn:c.aj.length<=100000) (hp:c.bm.length<=100000) (hw:16*c.wt+64<=aO) (hx:w_ x) (ht:(eb c).length<=100000) :
 dt 30 [.ptr (.out b) 0,.agg c.enc,.agg x.enc] Z (.bt []) (Z.set b (jF k ⟨As s.live c x,s.fc⟩)):=by
 obtain⟨l,fr⟩:=s;have Sy:=@Ho l.lines;have h1:=ho.m;have h2:=ho.b;have h3:=ho.t;have hs:=ho.s;simp only at h1 h2 h3 hs;rw[jF] at h;simp only at h;refine agy.aS ?_;simp only[aR,am,a8,Nat.reduceAdd,di,jA];refine cl (Qx c km hw) ?_;simp only[am,cF,iY,h];refine HW (by simp[iY]) ?_;rw[yQ (by simp[iY])];simp only[am];refine xg (by simp[iY,aO];omega) ?_;simp only[am,h];have e1:cU l.lines++[[V.aF (eb c)]]=cU (l.lines++[eb c]):=by simp[cU]
 have e2:IntKind.i64.wrap (l.bytes+IntKind.i64.wrap (((eb c).length:Nat)+1))=l.bytes+((eb c).length+1:Nat):=by
  rw[wrap_i64 (x:=((eb c).length:Nat)+1),wrap_i64];simp
 rw[e1,e2]
 by_cases l8:x.op=0
 .simp only[am,bM,di,PL,l8];refine bJ.intro (Yg l.lP c (Z:=_) hs hg hn hp) ?_;simp only[am,aH.al];refine aP rfl (ag.bc _) ⟨rfl,?_⟩;rw[As,aC (by simp[l8])];rfl
 .simp only[am,cF,aN,fk,aN,PL,l8];refine HW (by simp) ?_;rw[yQ (by simp)];simp only[am,jA];refine bJ.intro (aa' x _ hx) ?_;simp only[am,jA];refine Yv (by simp[aO];omega) ?_;simp only[am];refine aP rfl (ag.bc _) ⟨rfl,?_⟩;rw[As,aE l8];simp[jF]
def JU{f:aL}{x y:Int}:fA [1,1] f.enc [.int .i64 x,.int .i64 y]=U (decide (f=⟨x,y⟩)):=aL.pS (g:=⟨x,y⟩)
def aeD:aT prog 14 (sq [rg 4 [ox 2 18 0,ox 3 18 1,oz 2],rg 5 [fo 0 2,fo 0 3,nb .eql 6,gA,fo 1 2,fo 1 3,nb .eql 12,gZ,gA,fo 2 2,fo 2 3,oC 34 [19,21],gZ,gA,of 3 2,nl 9,of 3 3,nl 9,oq (.ir ak [1,1,1,1,1,1,1,1,1] (.s 26) (.s 28)),gZ,gA,of 12 2,nl 2,of 12 3,nl 2,oC 35 [33,35],gZ,gA,of 14 2,nl 2,of 14 3,nl 2,oC 35 [40,42],gZ,gA,fo 16 2,fo 16 3,nb .eql 47,gZ,gA,fo 17 2,fo 17 3,nE .eql 54,gZ,o1 4],.ret]) [.tmp 4] 59:=aW func14
def agU:aT prog 35 (sq [rg 4 [ox 2 2 0,ox 3 2 1,oz 2],sq [rg 6 [fo 1 2,fo 1 3,nb .neq 7,gB,fo 0 2,nL,fo 0 3,nL,nb .neq 14,gZ],cr 19 4 [oz 2]],sq [rg 5 [oi 0],bl 0 (sq [sq [rg 20 [om 5,fo 0 2,nL,nb .lss 20],cx 24 0],.block 1 (sq [dg 27 [fo 0 2,om 5,nA 10 28,nl 10,fo 0 3,om 5,nA 10 33,nl 10,oq (.ir aa [2,1,1,1,1,1,1,1,1,1] (.s 31) (.s 36))],cr 37 4 [oz 2]]),rg 25 [ic 5]])],rg 4 [oq (.mv (.c (.bool aa)))],.ret]) [.tmp 4] 38:=aW func35
def Rh{l:List bW}(h:j<l.length):(l.map bW.enc)[((j:Nat):Int).toNat]?=U l[j].enc:=by simp[h]
def VD(t:ei)(Z:ag)(hl:t.fs.length<=100000):a_ 35 [.agg t.enc,.agg t.enc] Z (.bool aa):=by
 refine agU.aS ?_;simp only[aR,am,a8,Nat.reduceAdd,bM,ei.al,aN];refine dP (t.fs.length) (λi (x:Unit)=>⟨[.any,.any,.ptr (.aD 0) 0,.ptr (.aD 1) 0,.any,.int .i64 (i:Nat)]++au 32 .any,[t.enc,t.enc],Z⟩) (λi x=>(True)) λF hF JF bj=>⟨?_,?_,?_⟩
 .exact en bj (()) (trivial)
 .rintro i x hi -;simp only[hF,au,am,dB hi,ei.al,aN];refine ix (Rh hi) ?_;simp only[am,bW.al,ei.al];refine ix (Rh hi) ?_;simp only[am,bM,a9,bW.al,cE hi];exact nx bj (()) hi (trivial)
 .rintro x -;simp only[hF,au,am,a9,dV,a9,ei.al,aN];exact rt
def aa1(s:aH)(c:aq)(hl:c.left.cy<=100000):(lZ s c).code.length<=100000:=by
 rw[lZ];split
 .have:=aa5 s (cM s c) c.left;simp only;omega
 .split<;>simp
def VS{s:aH}{lat:Nat}{n:Nd}(h:n.cy<=100000):(mh s lat n).fs.length<=100000:=by
 have:=y4 n
 rw[mh];split
 .simp
 .simp only[aN];omega
def Ri(s:aH)(c:aq)(hl:c.left.cy<=100000)(hr:c.right.cy<=100000):(lZ s c).a.fs.length<=100000/\(lZ s c).b.fs.length<=100000:=by
 rw[lZ];split
 .simp[ei.zero]
 .split
  .exact⟨VS hl,VS hr⟩
  .simp[ei.zero]
def Nf(x:dQ)(Z:ag)(hc:x.code.length<=100000)(ha:x.a.fs.length<=100000)(hb:x.b.fs.length<=100000):a_ 14 [.agg x.enc,.agg x.enc] Z (.bool aa):=by
 obtain⟨op,lat,code,to,a,b,v,field⟩:=x;show cg prog 14 [.agg (cz op lat (.sl .no 10 (code.map bw.enc)) to (.sl .no 10 (a.fs.map bW.enc)) a.tail (.sl .no 10 (b.fs.map bW.enc)) b.tail v field),.agg (cz op lat (.sl .no 10 (code.map bw.enc)) to (.sl .no 10 (a.fs.map bW.enc)) a.tail (.sl .no 10 (b.fs.map bW.enc)) b.tail v field)] Z _;refine aeD.aS ?_;simp only[aR,am,a8,Nat.reduceAdd];simp only[am,bM,lr];refine cl (aqd code code Z hc hc) ?_;simp only[am,bM,bH.al,lr];refine cl (VD a Z ha) ?_;simp only[am,lr];refine cl (VD b Z hb) ?_;simp only[am,bM,lr];exact rt
def Rn:aT prog 12 (sq [rg 0 [oZ 4 [0,0,1,0,7,9,0,0,0,1,7,10,0,0,1,7,10],oR 5 iJ,oZ 6 [0,0]],sq [rg 11 [om 0,oq (.qK ak (.s 11) (.c .fV))],cr 12 13 [oW [0,0,1,0,7,9,0,0,0,1,7,10,0,0,1,7,10] [],oY iJ [],oW [0,0] [],os 17 4 13,os 18 5 14,o2 2 6]],dA 17 [7,8,9] [mk 0,nf 0,nf 0,mM [1],nl 2,om 0,oC 15 [22],om 1,oC 29 [21,23,24],o1 16,oe 16 0,oe 16 1,oe 16 2,oN,oN,oN,oX 7 17 26,oX 8 18 27,oX 9 2 28],sq [rg 29 [fo 0 9,nB .neq 0],ci 31 (sq [dg 32 [ol 17 7,mM [1],ol 18 8,mM [1,2],ol 2 9,os 17 4 32,os 18 5 33,o2 2 6],.ret])],.block 0 (sq [rg 36 [fo 0 7,oC 25 [37],o1 35],cd 35 (rg 39 [om 0,ol 17 7,ol 18 8,oC 30 [39,40,41]]) (sq [rg 44 [fo 0 7,nB .eql 11,o1 43],cd 43 (.pf (dg 47 [om 0,mk 0,nF 5,mk 0,nf 0,nl 5,oW [8,8,23,6,0] [(0,5,55)],n1 5,na 5 51,ok 47,nf 5,os 1 60 58])) (sq [rg 62 [fo 0 7,nB .eql 12,o1 61],ci 61 (sq [rg 65 [mk 0,nF 5,nL,nB .sub 1,o1 10],rg 71 [om 0,mk 0,nF 5,om 10,nA 5 75,nf 0,nl 5,ok 71,nf 0,os 5 81 79],rg 82 [om 0,mk 0,nF 5,om 10,om 10,oq (.kF 5 (.s 86) af (U (.s 87)) (U (.s 88))),ok 82,nf 5,os 1 91 89]])])])]),dg 92 [ol 17 7,mM [1],ol 18 8,mM [1,2],ol 2 9,os 17 4 92,os 18 5 93,o2 2 6],.ret]) [.cell 4 aa 17,.cell 5 aa 18,.cell 6 aa 2] 95:=aW func12 ⟨[],[9]⟩
def Mb(ht:t.length<=3000)(h:(iC s t).2.2.cls=0):Pa (iC s t).1/\w_ (iC s t).2.1/\(eb (iC s t).1).length<=2*t.length/\((iC s t).1.op=12->s.fc≠[]):=by
 obtain⟨e1,e2,_,_,_,_,e7⟩:=TS h;have b_:=MD ht;have ha:cW t=((cW t).1,0,0):=by
  obtain⟨a1,_⟩:=arx h;rw[<-a1]
 refine⟨by rw[iC,e1];exact b_,?_,by rw[iC,e1];exact(Po ha).2.2,λmz e=>e7 ⟨by rw[iC,e1] at mz;exact mz,by simp[rk,e]⟩⟩;rw[iC,e2];split
 .exact⟨aa1 _ _ b_.l,(Ri _ _ b_.l b_.r).1,(Ri _ _ b_.l b_.r).2⟩
 .exact⟨by simp[dQ.zero],by simp[dQ.zero,ei.zero],by simp[dQ.zero,ei.zero]⟩
def Yy{r:Nat}{u:Tk}{m n:List (List V)}{K:V->ag->Prop}(hk:k = .aV\/k = .tk Y)(hb:m.length+n.length<=aO)(ht:Z.aK Y=U m.length)(h:K (.sl (.tk Y) r (m++n)) (Z.aY Y (m.length+n.length))):yE Z r (.sl k r m) (.sl u r n) K:=by
 rcases hk with rfl | rfl
 .exact Yw hb ht h
 .exact xf hb ht h
def FK(t:List UInt8)(h:sC Z b k s)(ho:s.ok)(hg:TZ Z)(km:Z.bY 0=U gh)(ht:t.length<=3000):
 cg prog 12 [.ptr (.out b) 0,.aF t] Z λv σ' => v=r8 (iC s t)/\∃k',sC σ' b k' (sK s t)/\Kp Z σ' b k k' := by
 have cj:=ajz s.live.lP (rk s) t (Z:=Z) ho.l.s hg km ht;have hlen:=Mb (s:=s) ht;have hd:sK s t=qI s (iC s t):=rfl;rw[show lK s.live.lP (rk s) t=iC s t from rfl] at cj;rw[hd];have bf:=ho.n;generalize iC s t=X at cj hlen;obtain⟨c,x,f⟩:=X;simp only[r8] at cj hlen ⊢;have hb:=h.b;rw[jF] at hb;refine Rn.aS ?_;simp only[aR,am,a8,Nat.reduceAdd,bM,Nat.reduceLT,yV];simp only[am,hb];refine bJ.intro (H0 h.b (by omega)) ?_;simp only[am,Rm.al];refine bJ.intro cj ?_;simp only[am,Nat.reduceAdd,aL.al,di,jA];refine⟨by rw[hb];rfl,?_⟩;have fin:∀{t:List V} {lo:List (List V)} {σ' : ag} {k' : Tk} {s' : gV},s' = qI s (c,x,f)->sC σ' b k' s' -> Kp Z σ' b k k' -> mV (λv σ' => v = .bt [.agg c.enc,.agg x.enc,.agg f.enc]/\∃k',sC σ' b k' (qI s (c,x,f))/\Kp Z σ' b k k') ⟨t,lo,σ'⟩ (.bt [.agg c.enc,.agg x.enc,.agg f.enc]):=λ{t lo σ' k' s'} e h1 h2=>by
  refine aP (by simp only[V.cI,bK,dQ.dw];rfl) (ag.bc _) ⟨?_,k',by rw[<-e];exact h1,h2⟩;simp only[V.erase,bx,dQ.dk];rfl
 by_cases hf:f.cls=0
 case neg =>
  simp only[am,fk,aL.al,di,jA,hf];exact fin (by rw[qI,aE hf]) h Kp.rfl
 obtain⟨b_,hx,xR,aX⟩:=hlen hf;simp only[am,bM,eU,hf];refine cl (WV c.op _) ?_;cases ec:tI c.op with
 | true =>
  simp only[am,di,jA];refine cl (aq5 c x h.b ho.l hg km b_.n b_.p b_.w hx (by omega)) ?_;simp only[am,aL.al,di,jA];refine fin (k' := k) (s' := ⟨As s.live c x,s.fc⟩) (by rw[qI,aC (by simp[hf]),aE ec]) ⟨gR,?_⟩ ⟨λc hc=>mL hc,λ_ _ _ h=>h,rfl,λ_ h=>.inl h⟩;exact h.t
 | false =>
  simp only[am,eU]
  by_cases C6:c.op=11
  .simp only[am,bM,C6];have up:∀{K:St->Prop} {t:List V} {lo:List (List V)},(∀Y cN,cN.aK Y=U s.fc.length->cN.box=Z.box->cN.bY=Z.bY->(∀t' n,k≠.tk t' -> Z.aK t' = U n->cN.aK t' = U n/\t' ≠ Y)->(k = .tk Y\/Z.aK Y=af)->(k = .aV\/k = .tk Y)->K ⟨t,lo,cN⟩)->bq ⟨t,lo,Z⟩ K:=λ{K t lo} hk=>by
    have ht:=h.t;cases k with
    | no=>exact ht.elim
    | aV=>exact bq.tok s.fc.length λY br=>⟨t,lo,Z,ey.rfl,rfl,λ_ c' hc=>⟨c',hc,ey.rfl⟩,p8.rfl,hk Y _ iZ rfl rfl (λt' n _ qi => by
     have:t' ≠ Y:=λe=>by rw[e,br] at qi;simp at qi
     exact⟨by rw[pe this];exact qi,this⟩) (.inr br) (.inl rfl)⟩
    | tk Y=>exact bq.eh cJ.rfl cm.rfl bL.rfl (hk Y Z ht rfl rfl (λt' n hn qi => ⟨qi,λe=>hn (by rw[e])⟩) (.inl rfl) (.inr rfl))
   refine up λY cN u1 u2 u3 u4 u5 u6=>?_
   have fv:cN.box b=U _:=(congrFun u2 b).trans hb;simp only[am,Nat.reduceAdd,fv];refine Yy u6 (by simp[aO];omega) (by simp;exact u1) ?_;simp only[am,aN,aL.al,aN,di,jA,fv];have aiR:∀t' n,k≠.tk t' -> Z.aK t' = U n->((cN.aY Y (s.fc.length+1)).aK t')=U n:=λt' n hn qi => by
    obtain⟨a1,a2⟩:=u4 t' n hn qi;rw[pe a2];exact a1
   refine fin (k' := .tk Y) (s' := ⟨s.live,s.fc++[s.live]⟩) (by rw[qI,aC (by simp[hf]),aC (by simp[ec]),aE C6]) ⟨?_,?_⟩ ⟨λc hc=>?_,aiR,u3,λt' e=>?_⟩
   .rw[gR];simp[jF,ur]
   .show(cN.aY Y (s.fc.length+1)).aK Y=U (s.fc++[s.live]).length;rw[iZ];simp
   .rw[mL hc];exact congrFun u2 c
   .simp only[Tk.tk.injEq] at e;subst e;exact u5
  .simp only[am,fk,eU,C6]
   by_cases mz:c.op=12
   .simp only[am,bM,mz];have aX:=aX mz;obtain⟨fr,l,kQ⟩:∃fr l,s.fc=fr++[l]:=⟨s.fc.dropLast,s.fc.getLast aX,(List.dropLast_concat_getLast aX).symm⟩;have jW:qI s (c,x,f)=⟨l,fr⟩:=by
     rw[qI,aC (by simp[hf]),aC (by simp[ec]),aC C6,aE mz,kQ];simp
    have sT:fr.length<=100:=by rw[kQ] at bf;simp at bf;omega
    have hmp:s.fc.map ur=fr.map ur++[ur l]:=by rw[kQ];simp
    rw[hmp] at hb;have hw:IntKind.i64.wrap (((fr.map ur++[ur l]).length:Nat) - 1)=((fr.length:Nat):Int):=by
     simp only[bN,aN,gC];rw[wrap_i64];omega
    simp only[am,hb,hw];refine qZ (c:=ur l) (by omega) (by simp) ?_;simp only[am,cF,Nat.reduceAdd,ur,hb];refine HW (by simp) ?_;rw[show fr.length=(fr.map ur).length by simp,List.take_left];simp only[am,aN,aL.al,aN,di,jA];refine fin (k' := .aV) (s' := ⟨l,fr⟩) jW.symm ⟨?_,trivial⟩ ⟨λc hc=>?_,λ_ _ _ h=>h,rfl,λt' e=>by simp at e⟩
    .rw[gR];simp[jF]
    .rw[mL hc]
   .simp only[am,fk,aL.al,di,jA,mz];exact fin (by simp[qI,hf,ec,C6,mz]) h Kp.rfl
def afd:aT prog 20 (sq [rg 4 [oz 2],sq [rg 6 [om 0,nL,om 1,nL,nb .neq 7],cr 10 4 [oz 2]],sq [rg 5 [oi 0],bl 0 (sq [sq [rg 11 [om 5,om 0,nL,nb .lss 11],cx 14 0],.block 1 (sq [dg 17 [om 0,om 5,nA 1 17,no,om 1,om 5,nA 1 21,no,nE .neq 20],cr 25 4 [oz 2]]),rg 15 [ic 5]])],rg 4 [oq (.mv (.c (.bool aa)))],.ret]) [.tmp 4] 26:=aW func20
def agV:aT prog 41 (sq [rg 4 [ox 2 2 0,ox 3 2 1,oz 2],sq [rg 7 [fo 0 2,nL,fo 0 3,nL,nb .neq 9,gB,fo 1 2,nL,fo 1 3,nL,nb .neq 17,gZ],cr 22 4 [oz 2]],sq [rg 5 [oi 0],bl 0 (sq [sq [rg 23 [om 5,fo 0 2,nL,nb .lss 23],cx 27 0],.block 1 (sq [dg 30 [fo 0 2,om 5,nA 3 31,nF 0,fo 0 3,om 5,nA 3 37,nF 0,nE .neq 35,gB,fo 0 2,om 5,nA 3 45,nf 1,nl 2,fo 0 3,om 5,nA 3 51,nf 1,nl 2,oC 71 [49,55],nn,gZ],cr 58 4 [oz 2]]),rg 28 [ic 5]])],sq [rg 6 [oi 0],bl 2 (sq [sq [rg 59 [om 6,fo 1 2,nL,nb .lss 59],cx 63 2],.block 3 (sq [dg 66 [fo 1 2,om 6,nA 3 67,nl 3,fo 1 3,om 6,nA 3 72,nl 3,oq (.ir aa [2,1,1] (.s 70) (.s 75))],cr 76 4 [oz 2]]),rg 64 [ic 6]])],rg 4 [oq (.mv (.c (.bool aa)))],.ret]) [.tmp 4] 77:=aW func41
def ag6:aT prog 71 (sq [rg 4 [ox 2 2 0,ox 3 2 1,oz 2],sq [rg 8 [fo 0 2,fo 0 3,oq (.uf aa (.s 9) (.s 11)),gB,fo 1 2,nL,fo 1 3,nL,nb .neq 16,gZ],cr 21 4 [oz 2]],sq [rg 5 [oi 0],bl 0 (sq [sq [rg 22 [om 5,fo 1 2,nL,nb .lss 22],cx 26 0],.block 1 (sq [dA 29 [6,7] [fo 1 2,om 5,nA 67 30,nl 67,of 1 3,mM [1],no,om 5,nA 67 35,mM [1],nl 67,oN,oN,oX 6 67 33,oX 7 67 38],rg 39 [fo 0 6,fo 0 7,nb .neq 40,gB,fo 1 6,fo 1 7,oC 20 [46,48],nn,gZ,gB,of 2 6,nl 65,of 2 7,nl 65,oC 136 [54,56],nn,gZ],cr 59 4 [oz 2]]),rg 27 [ic 5]])],rg 4 [oq (.mv (.c (.bool aa)))],.ret]) [.tmp 4] 60:=aW func71
def aty:=ae @am <| ae @a8 <| ae @bM @iY
def ap7(l:List (List UInt8))(Z:ag)(hl:l.length<=100000):a_ 20 [.sl .no 1 (cU l),.sl .no 1 (cU l)] Z (.bool aa):=by
 refine afd.aS ?_;simp only[aR,aty,Nat.reduceAdd];refine dP (l.length) (λi (x:Unit)=>⟨[.sl .no 1 (cU l),.sl .no 1 (cU l),.any,.any,.any,.int .i64 (i:Nat)]++au 20 .any,[],Z⟩) (λi x=>(True)) λF hF JF bj=>⟨?_,?_,?_⟩
 .exact en bj (()) (trivial)
 .rintro i x hi -;simp only[hF,au,am,dB hi,iY];refine ix (Hi hi) ?_;simp only[am];refine ix (Hi hi) ?_;simp only[am,bM,a9,cE hi];exact nx bj (()) hi (trivial)
 .rintro x -;simp only[hF,au,am,a9,dV,a9,iY];exact aP rfl (ag.bc _) ⟨rfl,rfl⟩
def atz:=ae @am <| ae @a8 <| ae @bM @bA.al
def atA:=ae @am <| ae @bM <| ae @bp.al @bA.al
def ap8(x:bA)(Z:ag)(hx:x.ok):a_ 71 [.agg x.enc,.agg x.enc] Z (.bool aa):=by
 obtain⟨h1,h2⟩:=hx;refine ag6.aS ?_;simp only[aR,atz,Nat.reduceAdd,aN];refine dP (x.bO.length) (λi (y:Unit)=>⟨[.any,.any,.ptr (.aD 0) 0,.ptr (.aD 1) 0,.any,.int .i64 (i:Nat)]++au 54 .any,[x.enc,x.enc],Z⟩) (λi y=>(True)) λF hF JF bj=>⟨?_,?_,?_⟩
 .exact en bj (()) (trivial)
 .rintro i y hi -;simp only[hF,au,am,dB hi,Nat.reduceAdd,bM,Nat.reduceLT,bA.al,aN];refine ix (JL hi) ?_;simp only[am,bp.al,bA.al];refine ix (JL hi) ?_;simp only[atA,Nat.reduceAdd];refine cl (ap7 x.bO[i].aj Z (h2 _ (fh hi))) ?_;simp only[am,Rl.al,bp.al];refine cl (apN x.bO[i].rel x.bO[i].rel Z) ?_;simp only[am,bM,a9,cE hi];refine fQ (()) hi ?_ ?_ ?_ ?_ ?_ ?_
  .exact eQ (bj _ _) (trivial)
  all_goals simp[hF,au,am,bQ,bS,dL,V.lo,bA.cH]
 .rintro y -;simp only[hF,au,am,a9,dV,a9,bA.al,aN];exact aP rfl (ag.bc _) ⟨rfl,rfl⟩
def Xh{l:List du}(h:j<l.length):(l.map du.enc)[((j:Nat):Int).toNat]?=U l[j].enc:=by simp[h]
def asb{v:du}:fA [2,1,1] v.enc v.enc=U true:=by rw[du.enc,JI,uu,uu,JH,rD,rD,rD];simp
def atB:=ae @am <| ae @a8 <| ae @bM @aH.al
def ap_(s:aH)(Z:ag)(hs:s.ok):a_ 41 [.agg s.enc,.agg s.enc] Z (.bool aa):=by
 obtain⟨h1,h2,h3⟩:=hs;refine agV.aS ?_;simp only[aR,atB,Nat.reduceAdd,aN];refine dP (s.bu.length) (λi (y:Unit)=>⟨[.any,.any,.ptr (.aD 0) 0,.ptr (.aD 1) 0,.any,.int .i64 (i:Nat)]++au 71 .any,[s.enc,s.enc],Z⟩) (λi y=>(True)) λF hF JF bj=>⟨?_,?_,?_⟩
 .exact en bj (()) (trivial)
 .rintro i y hi -;simp only[hF,au,am,dB hi,aH.al,aN];refine ix (wo hi) ?_;simp only[am,aH.al];refine ix (wo hi) ?_;simp only[am,bM,aH.al];refine ix (wo hi) ?_;simp only[am,aH.al];refine ix (wo hi) ?_;simp only[am,aH.al,bA.al];refine bJ.intro (ap8 s.bu[i].shape Z (h3 _ (fh hi))) ?_;simp only[am,a9,cE hi];exact nx bj (()) hi (trivial)
 .rintro y -;simp only[hF,au,am,a9,dV,a9,aH.al,aN];refine dP (s.vars.length) (λi (x:Unit)=>⟨[.any,.any,.ptr (.aD 0) 0,.ptr (.aD 1) 0,.any,.any,.int .i64 (i:Nat)]++au 70 .any,[s.enc,s.enc],Z⟩) (λi x=>(True)) λF2 eH yI ji=>⟨?_,?_,?_⟩
  .refine en ji (()) (trivial) ?_ ?_ ?_
   all_goals simp[eH,au,am,bQ]
  .rintro i x hj -;simp only[eH,au,am,dB hj,aH.al,aN];refine ix (Xh hj) ?_;simp only[am,aH.al,du.Ed];refine ix (Xh hj) ?_;simp only[am,a9,du.Ed,asb,cE hj];refine nx ji (()) hj (trivial) ?_ ?_ ?_
   all_goals simp[eH,au,am,bQ]
  .rintro x -;simp only[eH,au,am,a9,dV,a9,aH.al,aN];exact aP rfl (ag.bc _) ⟨rfl,rfl⟩
def aeb:aT prog 10 (sq [rg 0 [oq (.mv (.c .fV))],rg 1 [oW [8,8,23,6,0,10] [],oq (.gf 6 (.s 1)),o1 0],.ret]) [.tmp 0] 3:=aW func10 ⟨[2],[]⟩
def afA:aT prog 23 (sq [rg 4 [ox 2 3 0,ox 3 3 1,oz 2],sq [rg 6 [of 0 2,nl 2,of 0 3,nl 2,oC 41 [7,9],nn,gB,fo 2 2,nL,fo 2 3,nL,nb .neq 15,gZ],cr 20 4 [oz 2]],sq [rg 21 [fo 2 2,nL,oi 0],lp 23 0 (sq [rg 26 [om 24,o1 5],dg 27 [fo 2 2,om 5,nA 18 28,nl 18,fo 2 3,om 5,nA 18 33,nl 18,oC 14 [31,36],nn],cr 38 4 [oz 2]]) 39],rg 4 [oq (.mv (.c (.bool aa)))],.ret]) [.tmp 4] 40:=aW func23
def qp(l:Lv):List V:=[.sl .no 3 (l.lP.bu.map dY.enc),.sl .no 3 (l.lP.vars.map du.enc),.sl .no 18 (l.lY.map dQ.enc)]
def aox(l:Lv)(Z:ag)(ho:l.ok):a_ 23 [.agg (qp l),.agg (qp l)] Z (.bool aa):=by
 have hm:=ho.m;have ha:=ho.a;have P0:=ap_ l.lP Z ho.s.1;rw[aH.enc] at P0;have hp:∀{n:Nat},qp l=qp l:=rfl;refine afA.aS ?_;simp only[aR,am,a8,Nat.reduceAdd];simp only[qp];simp only[am,Nat.reduceAdd];refine cl (P0) ?_;simp only[am,aN,bM,aN];refine dP (l.lY.length) (λi (x:Unit)=>⟨[.any,.any,.ptr (.aD 0) 0,.ptr (.aD 1) 0,.any,.any,.any,.any,.any,.any,.any,.any,.any,.any,.any,.any,.any,.any,.any,.any,.any,.any,.any,.int .i64 (l.lY.length:Nat),.int .i64 (i:Nat)]++au 15 .any,[qp l,qp l],Z⟩) (λi x=>(True)) λF hF JF bj=>⟨?_,?_,?_⟩
 .refine en bj (()) (trivial) ?_ ?_ ?_
  all_goals simp[hF,au,am,bQ,qp]
 .rintro i x hi -;have ci:=ha _ (fh hi);simp only[hF,au,am,dB hi];simp only[qp];simp only[am];refine ix (Pz hi) ?_;simp only[am,jA];refine ix (Pz hi) ?_;simp only[am,jA];refine bJ.intro (Nf l.lY[i] Z ci.c ci.a ci.b) ?_;simp only[am,a9,cE hi];refine nx bj (()) hi (trivial) ?_ ?_ ?_
  all_goals simp[hF,au,am,bQ,qp]
 .rintro x -;simp only[hF,au,am,a9,dV,a9];exact aP rfl (ag.bc _) ⟨rfl,rfl⟩
def aow(Z:ag):a_ 24 [.fV] Z (.agg (qp .zero)):=by
 refine afK.aS ?_;simp only[aR,am,a8,Nat.reduceAdd,yV];exact aP rfl (ag.bc _) ⟨rfl,rfl⟩
def ab_(t:List UInt8)(Z:ag):a_ 12 [.fV,.aF t] Z (r8 (.zero,.zero,.zero)):=by
 refine Rn.aS ?_;simp only[aR,am,a8,Nat.reduceAdd,yV,jA];exact aP rfl (ag.bc _) ⟨rfl,rfl⟩
def aqO(Z:ag):cg prog 10 [] Z λv σ' => ∃b,v = .ptr (.out b) 0/\Z.box b=af/\σ' = Z.set b RA:=by
 refine aeb.aS ?_;simp only[aR,am,a8,Nat.reduceAdd];intro b hb;simp only[am];exact aP rfl (ag.bc _) ⟨b,rfl,hb,rfl⟩
def fn9:aT prog 9 (sq [rg 0 [oz 2],rg 10 [oC 10 [],o1 1],sq [rg 11 [oq (.kf 1 [(.c (.aF [99,104,97,105,110,32,107,32,123,97,44,98,125])),(.c (.aF [112,117,115,104])),(.c (.aF [108,97,98,101,108,32,107,32,32,123,120,125])),(.c (.aF [112,111,112]))]),nL,oi 0],lp 12 0 (sq [rg 15 [oA 1 11 13,no,o1 3],rg 18 [om 1,om 3,oC 12 [18,19],o1 17,oe 17 0,oe 17 1,oe 17 2,oZ 4 [0,0,1,0,7,9,0,0,0,1,7,10,0,0,1,7,10],oR 5 iJ,oZ 6 [0,0],os 17 4 21,os 18 5 22,o2 2 6],rg 24 [ol 2 6,oW [0,0] [],oq (.ir aa [1,1] (.s 24) (.s 25))],cr 26 0 [oz 2]]) 27],rg 29 [om 1,oc 12 [.s 29,.c (.aF [112,111,112])],o1 28,oe 28 0,oe 28 1,oe 28 2,oZ 7 [0,0,1,0,7,9,0,0,0,1,7,10,0,0,1,7,10],oR 8 iJ,oZ 9 [0,0],os 17 7 31,os 18 8 32,o2 2 9],rg 34 [om 1,oC 11 [34],oq (.mW .eql (.s 35) (.c (.aF [99,104,97,105,110,32,107,32,123,97,44,98,125,10]))),gA,ol 2 9,oG [0,0] [(0,1,.c (.int .i64 8))],oq (.ir ak [1,1] (.s 38) (.s 39)),gZ,gA,om 1,oC 15 [43],oG [0,0,0] [(0,1,.c (.int .i64 14)),(2,1,.c (.int .i64 1))],oq (.ir ak [1,1,1] (.s 44) (.s 45)),gZ,o1 0],.ret]) [.tmp 0] 48:=aW func9
def Tp(Z:ag):cg prog 10 [] Z λv σ' => ∃b,v = .ptr (.out b) 0/\Z.box b=af/\σ' = Z.set b (jF .aV .zero) :=
 cg.up (aqO Z) λv σ' ⟨b,h1,h2,h3⟩=>⟨_,by rw[h3];exact bL.set RB,b,h1,h2,rfl⟩
def QD(hs:s.ok)(ht:t.length<=3000):(sK s t).ok:=by
 by_cases h:(iC s t).2.2.cls=0
 .exact ab' hs (MD ht).n (Mb ht h).2.1
 .rw[sK,qI,aE h];exact hs
def Rv:∀{l:List (List UInt8)} {s:gV},s.ok->(∀t∈l,t.length<=3000)->(l.foldl sK s).ok
 | [],_,hs,_=>hs
 | t::l,_,hs,h=>Rv (l:=l) (QD hs (h t (by simp))) λx hx=>h x (by simp[hx])
def akQ(h:s.ok):s.live.lines.length<=100000:=by
 have h1:=@Ho s.live.lines;have h2:=h.l.t;omega
def LU(h:Z.box b=U (jF k s))(ho:s.ok):a_ 11 [.ptr (.out b) 0] Z (.aF (rp s.live.lines)) :=
 WW rfl (by have:=ho.l.t;omega) (akP h (akQ ho))
def ajZ(Z:ag):a_ 11 [.fV] Z (.aF []):=WW (l:=[]) rfl (by simp[kv]) (TV Z)
def FX{i:Nat}:(nV i).ok:=Rv H3 λt ht=>QX t (AS ht)
def Pp(hg:TZ Z)(km:Z.bY 0=U gh):a_ 9 [] Z (.bool aa):=by
 refine fn9.aS ?_;simp only[aR,am,a8,Nat.reduceAdd];refine(Tp Z).mono ?_;rintro v cN ⟨b,rfl,hb,rfl⟩;simp only[am,Nat.reduceAdd];refine dP (4) (λi (x:ag × Tk)=>⟨[.any,.ptr (.out b) 0,.any,.any,.any,.any,.any,.any,.any,.any,.any,.sl .aV 1 (cU uv),.int .i64 4,.int .i64 (i:Nat)]++au 34 .any,[],x.1⟩) (λi x=>(sC x.1 b x.2 (nV i)/\Z.sub x.1/\E6 Z x.2/\x.1.bY=Z.bY)) λF hF JF bj=>⟨?_,?_,?_⟩
 .refine en bj ((Z.set b (jF .aV .zero),.aV)) (⟨Wj,NW hb,by simp[E6],rfl⟩) ?_ ?_ ?_
  all_goals simp[hF,au,am,bQ,uv,cU]
 .rintro i ⟨fz,k⟩ hi ⟨h1,h2,h3,h4⟩;simp only at h1 h2 h3 h4;have db : i<uv.length:=hi;have hf:=ads ⟨i,hi⟩;rw[qN db] at hf;have cd:=FK uv[i] h1 FX (show TZ fz from by rw[TZ,h4];exact hg) (by rw[h4];exact km) (QX _ (fh db));generalize iC (nV i) uv[i]=X at cd hf;obtain⟨c,y,f⟩:=X;simp only at hf;subst hf;simp only[r8] at cd;simp only[hF,au,am];simp only[am,aQ (show((i:Nat):Int)<4 by omega)];refine ix (Hi db) ?_;simp only[am];refine cd.mono ?_;rintro v Iv ⟨rfl,k',h5,h6⟩;simp only[am,Nat.reduceAdd,aL.al,di,jA];simp only[am,bM,a9,JU,cE hi];obtain⟨h7,h8⟩:=Kp.sub h2 hb h3 h6;refine fQ ((Iv,k')) hi ?_ ?_ ?_ ?_ ?_ ?_
  .exact eQ (bj _ _) (⟨by rw[adr db];exact h5,h7,h8,h6.c.trans h4⟩)
  all_goals simp[hF,au,am,bQ,bS,dL,V.lo,aq.enc,aq.cQ]
 .rintro⟨fz,k⟩ ⟨h1,h2,h3,h4⟩;simp only[hF,au,am];simp only[am,a9,aM (show ¬(((4:Nat):Int)<4) by decide)];have cd:=FK HL h1 FX (show TZ fz from by rw[TZ,h4];exact hg) (by rw[h4];exact km) (by decide);have hf:=adt;have hd:sK (nV 4) HL=nV 4:=by rw[sK,qI,aE (by rw[hf];decide)]
  rw[hd] at cd;generalize iC (nV 4) HL=X at cd hf;obtain⟨c,y,f⟩:=X;simp only at hf;subst hf;simp only[r8] at cd;refine cd.mono ?_;rintro v Iv ⟨rfl,k',h5,h6⟩;simp only[am,Nat.reduceAdd,aL.al,di,jA];have ct:=LU h5.b FX;have cr:=H0 h5.b (by have:=FX (i:=4) |>.n;omega);rw[adv] at ct;refine cl ct ?_;simp only[am,bM,aL.al];simp only[am,bM,JU];have er:rk (nV 4)=⟨14,0,1⟩:=by
   obtain⟨r1,r2,r3⟩:=adu;rw[rk,r1,r2,r3];rfl
  rw[er] at cr;refine cl cr ?_;simp only[am,bM,Rm.enc];exact aP rfl (Kp.sub h2 hb h3 h6).1 ⟨rfl,rfl⟩
end Go.Proofs.Tryz
namespace Go.Am
open Go.ChangeShapes Go.WideShapes Go.ChangeAt Go.RowKit
structure Ix{H:Type}(B:DataW H->Nat)(BA:List (DataW H)->Nat):Prop where
 aF:∀b,B (.lit (.string b))=b.length+1
 int:∀k n,B (.lit (.int k n))=1
 bool:∀b,B (.lit (.bool b))=1
 nil:B .nil=1
 slice:∀e s,B (.slice e s)=BA e+BA s+1
 agg:∀p,B (.agg p)=BA p+1
 no:BA []=0
 cons:∀d r,BA (d::r)=B d+BA r
def A'(W:World):Env:=⟨W,λ_=>.const,λ_=>af,λ_=>af⟩
section
variable {H:Type} {enc:TypeId × Value->H} {P:Program} {W:World} {sp:Nat->Bool} {B:DataW H->Nat} {BA:List (DataW H)->Nat}
variable{cs:List Value}
def apg{t:TypeId}{n:Nat}{x:DataW H × List MemPlace}(ht:P.underlying t=U .string)(hB:Ix B BA)(h:DataW.trod enc P W 0 sp aa n t cs=U x):
 ∃s:List UInt8,RL (A' W) [.aF s] cs/\(∀v∈cs,v.oneCell' = aa)/\s.length+1=B x.1:=by
 obtain⟨s,rfl,rfl,_⟩:=DataW.trod_string ht h;exact⟨s.data.toList,by simp[RL,R],by simp[Value.oneCell'],(hB.aF _).symm⟩
end
variable{H:Type}{P:Program}{W:World}{args:Array Value}{before:List MemPlace}{f:Func}{tb:TypeId}
def aot{enc:TypeId × Value->H}{s:ChangeSpec}{ds:List (DataW H)}
 (hl:laidOutB P=aa) (hm:mapsRowed P=aa) (hz:((bU P.types.size).all λt=>match P.underlying t with | some (.slice e)=>decide (0<P.cellsOf e) | _=>aa)=aa)
 (iA:f.resultTypes=#[tb]) (BD:P.underlying tb=U .bool) (Dy:∀t∈f.params.toList,t<P.types.size) (BF:s.vars=[]) (sT:(s.fn H ds).results=[.lit (.bool aa)]/\(s.fn H ds).args=ds/\(s.fn H ds).vars=[])
 (hW:DataW.Whole enc P f.params.toList s.vars ak W args.toList ds [] before) {W' : World} (hos:W'.os=W.os) (ai0:W'.output=W.output) (aix:∀a,W'.frozen? a=W.frozen? a) (lH:∀b,b<W.heap.size->W'.heap[b]?=W.heap[b]?) :
 s.post enc P f ak aa ak ak W args (.bool aa) W' := by
 have Db := hW;obtain⟨p,q,hA,hV,rfl,KN,Du⟩:=hW;rw[BF] at hV;obtain⟨_,rfl⟩:=trodVars_none hV;have aiJ:W.keptBut W' (λ_=>False):=by
  refine⟨hos,ai0,λi hi=>?_⟩;rw[lH i hi];cases W.heap[i]? with
  | none=>rfl
  | some ob=>cases ob<;>simp
 simp only[eD] at Db;have jW:s.fn H (ds++[])=s.fn H ds:=by rw[eD]
 refine post_of_same (pa:=p) (pv:=[]) Db (λb HX hd=>?_) (λHX hs=>?_) (λHX hs=>?_) (by simp) (World.keptBut_mono (λ_ h=>h.elim) aiJ) ?_ (ok_one iA rfl (okWide_bool_mk BD _))
 .rw[jW,sT.1,iA];exact trodAll_cons_mk (shut_bool BD _) trodAll_mk0
 .rw[jW,sT.2.1];have aB:=DataW.TrodAll.lt hA;have key:∀(ts:List TypeId) (vs:List Value) (ds:List (DataW H)) (ps:List MemPlace),(∀t∈ts,t<P.types.size)->DataW.TrodAll enc P W 0 (λ_=>aa) aa ts vs ds ps->(∀x∈ps,x.block<W.heap.size)->(∀x∈ps,HX x.block=aa)->DataW.TrodAll enc P W' 0 HX aa ts vs ds ps:=by
   intro ts;induction ts with
   | nil=>intro vs ds ps _ h _ _;cases vs<;>cases ds<;>first | exact h | exact h.elim
   | cons t ts ih =>
    intro vs ds ps hT h aB hs;cases vs with
    | nil=>exact h.elim
    | cons v vs =>
     cases ds with
     | nil=>exact h.elim
     | cons d ds =>
      obtain⟨p,q,⟨n,h1⟩,h2,rfl⟩:=h;refine⟨p,q,⟨n,?_⟩,ih vs ds q (λt ht=>hT t (by simp[ht])) h2 (λx hx=>aB x (by simp[hx])) (λx hx=>hs x (by simp[hx])),rfl⟩;refine DataW.trod_stays (kids_rows hl hm) (λ{t e} ht he=>slices_full_of P hz t e ht he) (by simp) (hT t (by simp)) h1 (λx hx=>?_) (λx hx=>hs x (by simp[hx]));have hb:=aB x (by simp[hx]);cases x with
      | cell b off=>exact A5 (lH b hb)
      | map b=>exact lH b hb
  exact key _ _ _ _ Dy hA (λx hx=>aB x hx) (λx hx=>hs x (by simpa using hx))
 .rw[jW,sT.2.2,BF];rfl
 .exact aix
def aos{enc:TypeId × Value->H}{s:ChangeSpec}{ds:List (DataW H)}
 (hl:laidOutB P=aa) (hm:mapsRowed P=aa) (hz:((bU P.types.size).all λt=>match P.underlying t with | some (.slice e)=>decide (0<P.cellsOf e) | _=>aa)=aa)
 (iA:f.resultTypes=#[tb]) (BD:P.underlying tb=U .bool) (Dy:∀t∈f.params.toList,t<P.types.size) (BF:s.vars=[]) (sT:(s.fn H ds).results=[.lit (.bool aa)]/\(s.fn H ds).args=ds/\(s.fn H ds).vars=[])
 (hW:DataW.Whole enc P f.params.toList s.vars ak W args.toList ds [] before) {E' : Env} (bf:Fr (A' W) E') :
 s.post enc P f ak aa ak ak W args (.bool aa) E'.w :=
 aot hl hm hz iA BD Dy BF sT hW bf.os bf.output bf.gu λb hb=>(bf.same b hb (.inl rfl)).1
section
variable {P:Program} {W:World} {r:Reach} {b:Nat} {t:TypeId} {v:Value} {E:Env}
def arN{x:V}(ht:P.underlying t=U .string)(hv:Value.okWide P W r b t v)(h:RL E [x] v.cells.toList):R E x v:=by
 obtain⟨a,rfl⟩:=okWide_string ht hv;simpa [Value.cells,RL] using h
end
def qv(s:List UInt8):Value:=.string ⟨s.toArray⟩
section
variable {H:Type} {enc:TypeId × Value->H} {P:Program} {W:World}
def UP(ps:List (List UInt8 × List UInt8)):DataW H:=.agg (ps.map λp=>.agg [.lit (.string p.1),.lit (.string p.2)])
def TW{α:Type}{l:List α}(h:l.length=2):∃a b,l=[a,b]:=by
 match l,h with
 | [a,b],_=>exact⟨a,b,rfl⟩
def Xa{s:ByteArray}{l:List UInt8}(h:s.data.toList=l):Value.string s=qv l:=by subst h;simp[qv]
def chunks{α:Type}{k:Nat}(f:Nat->List α):∀(n:Nat) (cs:List α),cs.length=n*k->(∀i,i<n->(cs.drop (i*k)).take k=f i)->cs=((bU n).map f).flatten
 | 0,cs,hl,_=>by simp at hl;simp[hl]
 | n + 1, cs, hl, h => by
  rw[E5] at hl;have h1:=chunks (k:=k) f n (cs.take (n*k)) (by rw[iR];omega) λi hi=>by
   have:i*k+k<=n*k:=by rw[<-E5];exact rC _ hi
   rw[IH,List.take_take,w8 (by omega)];exact h i (by omega)
  have h2:=h n (by omega);rw[yQ (by rw[IQ];omega)] at h2;rw[qz,f_,tU,<-h1];simp only[b8,eR,kH,OW,eD];rw[<-h2,qA]
variable{cs:List Value}{sp:Nat->Bool}
def aaC{base:Nat}{held:Bool}{fuel:Nat}{e tf:TypeId}{fs:Array Field}{x:DataW H × List MemPlace}{a b:List UInt8}
 (he:P.underlying e=U (.struct fs)) (hs:fs.size=2) (KJ:(fs[0]?).map (λf=>(f.type,f.offset))=U (tf,0)) (Bp:(fs[1]?).map (λf=>(f.type,f.offset))=U (tf,1))
 (GO:P.underlying tf=U .string) (Gp:P.cellsOf tf=1) (vW:P.cellsOf e=2)
 (h:DataW.trod enc P W base sp held fuel e cs=U x) (hx:x.1 = .agg [.lit (.string a),.lit (.string b)]):cs=[qv a,qv b]:=by
 obtain⟨xs,m,rfl,rfl,hl,we,hf⟩:=DataW.trod_struct he h;rw[vW] at hl;rw[hs] at we;obtain⟨u,v,rfl⟩:=TW hl;obtain⟨x0,x1,rfl⟩:=TW we;obtain⟨f0,g0,g1⟩:=c7.1 KJ;obtain⟨f1,g2,g3⟩:=c7.1 Bp;simp only[nN] at g1 g3;have h0:=hf 0 f0 g0;have h1:=hf 1 f1 g2;rw[g1.1,g1.2,Gp] at h0;rw[g3.1,g3.2,Gp] at h1;obtain⟨s0,p0,q0,_⟩:=DataW.trod_string GO h0;obtain⟨s1,p1,q1,_⟩:=DataW.trod_string GO h1;simp only[II,Cp,vu,List.take_zero,gz,ij] at p0 p1;subst p0 p1 q0 q1;simp only[b8,eR,DataW.agg.injEq,gz,DataW.lit.injEq,Lit.string.injEq,ij] at hx;rw[Xa hx.1,Xa hx.2]
def aaD{base:Nat}{held:Bool}{fuel:Nat}{t e tf:TypeId}{n:Nat}{fs:Array Field}{ps:List (List UInt8 × List UInt8)}{p:List MemPlace}
 (ht:P.underlying t=U (.array n e)) (he:P.underlying e=U (.struct fs)) (hs:fs.size=2) (KJ:(fs[0]?).map (λf=>(f.type,f.offset))=U (tf,0)) (Bp:(fs[1]?).map (λf=>(f.type,f.offset))=U (tf,1))
 (GO:P.underlying tf=U .string) (aiq:P.cellsOf tf=1) (vW:P.cellsOf e=2) (Gp:P.cellsOf t=n*2)
 (h:DataW.trod enc P W base sp held fuel t cs=U (UP ps,p)):cs=(ps.flatMap λp=>[p.1,p.2]).map qv:=by
 obtain⟨xs,m,rfl,hx,hl,we,hi⟩:=DataW.trod_array ht h;rw[Gp] at hl;have pF:xs.map (·.1)=ps.map λp=>(.agg [.lit (.string p.1),.lit (.string p.2)]:DataW H):=by
  have:=gX Prod.fst hx
  simpa [UP] using this.symm
 have n9:ps.length=n:=by
  have:=gX List.length pF
  simp at this;omega
 have hc:=chunks (λi=>match ps[i]? with | some p=>[qv p.1,qv p.2] | none=>[]) n cs hl (λi eJ=>by
  have h1:=hi i eJ;rw[vW] at h1;have S4:xs[i]?=U xs[i]:=by simp[we,eJ]
  have Bz:ps[i]?=U ps[i]:=by simp[n9,eJ]
  rw[S4] at h1;have h2:=gX (·[i]?) pF;simp only[vt,S4,Bz,vB,aZ] at h2;rw[Bz];exact aaC he hs KJ Bp GO aiq vW h1 h2)
 rw[hc,<-n9];clear hc hi we hl hx pF h n9;have key:∀qs:List (List UInt8 × List UInt8),((bU qs.length).map λi=>match qs[i]? with | some p=>[qv p.1,qv p.2] | none=>[])=qs.map λp=>[qv p.1,qv p.2]:=λqs=>by
  apply OU;intro i
  by_cases hi:i<qs.length
  .simp[hi]
  .simp[hi]
 rw[key,List.map_flatMap,List.flatMap_def];rfl
end
def zU:V->Value
 | .aF s=>qv s
 | .int k n=>.int k n
 | _=>.bool ak
def isLit:V->Bool
 | .aF _=>aa
 | .int _ _=>aa
 | _=>ak
def akW{E:Env}{x:V}(h:isLit x=aa)(v:Value):R E x v↔v=zU x:=by
 cases x<;>simp[isLit] at h<;>simp[R,zU,qv]
def D1(B:Nat->Option (List V)):ag:=⟨λ_=>af,λ_=>af,B⟩
def IT(W:World)(B:Nat->Option (List V)):Prop:=∀b cs,B b=U cs->(∃e,W.heap[b]?=U (.cells (cs.map zU).toArray e (0,0)))/\∀x∈cs,isLit x=aa
def T0{E:Env}:∀{cs:List V},(∀x∈cs,isLit x=aa)->RL E cs (cs.map zU)
 | [],_=>by simp[RL]
 | x :: cs, h => by
  simp only[b8,RL];exact⟨(akW (h x (by simp)) _).2 rfl,T0 λy hy=>h y (by simp[hy])⟩
variable{B:Nat->Option (List V)}
def alB(h:IT W B):(A' W).ok (D1 B):=by
 refine⟨λ_ _ h=>by simp[D1] at h,λ_ _ h=>by simp[D1] at h,λ_ _=>rfl,⟨0,λ_ _=>rfl⟩,λb cs hb=>?_⟩;obtain⟨⟨e,he⟩,hl⟩:=h b cs hb;refine Cz (vs:=cs.map zU) (T0 hl) (λv hv=>?_) (λj v hj=>?_) λ_ _=>trivial
 .obtain⟨x,hx,rfl⟩:=tW.1 hv
  have:=hl x hx
  cases x<;>simp[isLit] at this<;>rfl
 .show W.cell? _=_;simp only[World.cell?,he,jy];simpa using hj
def akd{enc:TypeId × Value->H}{n:FuncId}{s:ChangeSpec}{vs:List V}{ds:List (DataW H)}
 (hP:cg P n vs (D1 B) λv σ' => v = .bool aa/\σ' = D1 B) (hg:IT W B) (hR:RL (A' W) vs args.toList)
 (hl:laidOutB P=aa) (hm:mapsRowed P=aa) (hz:((bU P.types.size).all λt=>match P.underlying t with | some (.slice e)=>decide (0<P.cellsOf e) | _=>aa)=aa)
 (iA:f.resultTypes=#[tb]) (BD:P.underlying tb=U .bool) (Dy:∀t∈f.params.toList,t<P.types.size) (BF:s.vars=[]) (sT:(s.fn H ds).results=[.lit (.bool aa)]/\(s.fn H ds).args=ds/\(s.fn H ds).vars=[])
 (hW:DataW.Whole enc P f.params.toList s.vars ak W args.toList ds [] before) :
 Calls P n args W λe W' => ∃v,e = .returned v/\s.post enc P f ak aa ak ak W args v W' := by
 refine(hP.2 (A' W) args (λ_=>rfl) (alB hg) hR).mono ?_;rintro e w' ⟨v,x,E',σ',rfl,rfl,_,_,R9,bf,rfl,_⟩;simp only[R] at R9;subst R9;exact⟨_,rfl,aos hl hm hz iA BD Dy BF sT hW bf⟩
section
variable {H:Type} {enc:TypeId × Value->H} {P:Program} {W:World}
def Tu{name:String}{d:DataW Unit}{rest:List (String × DataW Unit)}{g:Nat}{t:TypeId}(h:laidMet P ((name,d)::rest) W)(hg:P.globalNamed name=U g)(ht:(P.globals[g]?).map (·.type)=U t){vs:List Value}
 (hc:∀(cs:List Value) (fuel:Nat) (p:List MemPlace),DataW.trod (λ_=>()) P W 0 (λ_=>aa) ak fuel t cs=U (d,p)->cs=vs) (hv:vs≠[]):∃e,W.heap[g]?=U (.cells vs.toArray e (0,0)):=by
 obtain⟨ps,⟨g',t',cs,fuel,p,q,qe,qi,gx,hd,_,Dz⟩,_,hb⟩:=h;obtain rfl:g' = g:=tY (qe.symm.trans hg);obtain rfl:t' = t:=tY (qi.symm.trans ht);have bR:=hc _ _ _ hd;have xE : cs=vs.toArray:=by rw[<-bR]
 obtain⟨⟨c,e,vW⟩,_⟩:=hb g' 0 (by
  rw[Dz];refine List.mem_append_left _ (List.mem_append_left _ ?_);rw[xE];cases vs with
  | nil=>exact absurd rfl hv
  | cons a l=>simp[MemPlace.row])
 refine⟨e,?_⟩;rw[vW];simp only[World.var?,hg,vA,vW,aZ] at gx;rw[gx,xE]
end
section
variable {H:Type} (enc:TypeId × Value->H) (P:Program) (W:World) (B:DataW H->Nat)
def CD(N:Nat)(t:TypeId)(F:List V->Nat->Prop):Prop :=
 ∀n,n<N->∀cs x,DataW.trod enc P W 0 (λ_=>aa) aa n t cs=U x->∃l,RL (A' W) l cs/\(∀v∈cs,v.oneCell' = aa)/\F l (B x.1)
end
section
variable {H:Type} {enc:TypeId × Value->H} {P:Program} {W:World} {B:DataW H->Nat} {BA:List (DataW H)->Nat} {N:Nat} {t:TypeId}
def CD.to{F G'':List V->Nat->Prop}(h:CD enc P W B N t F)(hg:∀l b,F l b->G'' l b):CD enc P W B N t G'':=λn hn cs x hx =>
 let ⟨l,h1,h2,h3⟩:=h n hn cs x hx
 ⟨l,h1,h2,hg _ _ h3⟩
def arA(ht:P.underlying t=U .string)(hB:Ix B BA):CD enc P W B N t λl b=>∃s:List UInt8,l=[.aF s]/\b=s.length+1:=λn _ cs x h =>
 let ⟨s,h1,h2,h3⟩:=apg ht hB h
 ⟨_,h1,h2,s,rfl,h3.symm⟩
end
end Go.Am
namespace Go.Proofs.Tryz
open Go.Am Go.ChangeShapes Go.WideShapes Go.ChangeAt Go.RowKit
open Go.Proofs.YtnpggmhoandloaaGreatDoor
def ZP(H:Type):Ix (H:=H) Rows.uptoBulk Rows.uptoBulkAll :=
 ⟨λ_=>by simp only[Rows.uptoBulk],λ_ _=>by simp only[Rows.uptoBulk],λ_=>by simp only[Rows.uptoBulk],by simp only[Rows.uptoBulk],λ_ _=>by simp only[Rows.uptoBulk],λ_=>by simp only[Rows.uptoBulk],by simp only[Rows.uptoBulkAll],λ_ _=>by simp only[Rows.uptoBulkAll]⟩
def laid:laidOutB prog=true:=by kernel_rfl
def apK:mapsRowed prog=true:=by kernel_rfl
def ahs:((bU prog.types.size).all λt=>match prog.underlying t with | some (.slice e)=>decide (0<prog.cellsOf e) | _=>aa)=true:=by kernel_rfl
def own:ownKnob prog.godebug=none:=by kernel_rfl
def RG:Nat->Option (List V):=λb=>if b=0 then U gh else if b=1 then U wN else af
variable{W:World}
def ahO(h:laidMetH prog Rows.stackDropsRow.laid W):IT W RG:=by
 have h0:laidMet prog Rows.stackDropsRow.laid W:=h;have h1:=laidMet.tail h0;obtain⟨e0,k0⟩:=Tu (g:=0) (t:=238) (vs:=gh.map zU) h0 (by kernel_rfl) (by kernel_rfl) (λcs fuel p hd=>(aaD (ps:=jS) underlying238 underlying180 (by kernel_rfl) (by kernel_rfl) (by kernel_rfl) underlying9 (by kernel_rfl) (by kernel_rfl) (by kernel_rfl) hd).trans rfl) (by simp[gh,jS]);obtain⟨e1,k1⟩:=Tu (g:=1) (t:=320) (vs:=wN.map zU) h1 (by kernel_rfl) (by kernel_rfl) (λcs fuel p hd=>(Lib.cells_of_tab (zs:=Ie) underlying320 underlying5 (by kernel_rfl) (by kernel_rfl) hd).trans rfl) (by simp[wN,Ie]);intro b cs hb;simp only[RG] at hb;split at hb
 .rename_i hq;subst hq;obtain rfl:=tY hb;exact⟨⟨e0,k0⟩,by decide⟩
 split at hb
 .rename_i hq;subst hq;obtain rfl:=tY hb;exact⟨⟨e1,k1⟩,by decide⟩
 simp at hb
def L2:DataW Unit->List Value
 | .lit (.int k n)=>[.int k n]
 | .lit (.string s)=>[qv s]
 | _=>[]
def ake:DataW Unit->List Value
 | .agg ds=>ds.flatMap L2
 | d=>L2 d
def akf:DataW Unit->List Value
 | .agg ds=>ds.flatMap ake
 | d=>L2 d
def akg(h:Array Obj)(x:Nat × DataW Unit):Array Obj:=h.modify x.1 fun
 | .cells _ t frozen=>.cells (akf x.2).toArray t frozen
 | o=>o
noncomputable def LZ (os:Os):World :=
 {World.holding prog os ⟨#[],#[],[]⟩ with heap:=[(0,Rows.laid_clearance_command_forms),(1,Rows.laid_math_bits_deBruijn64tab)].foldl akg (World.holding prog os ⟨#[],#[],[]⟩).heap}
set_option maxRecDepth 100000
section
variable {H:Type} {enc:TypeId × Value->H} {W:World} {N:Nat}
abbrev TL(enc:TypeId × Value->H)(W:World)(N:Nat)(t:TypeId)(F:List V->Nat->Prop):Prop:=CD enc prog W (Rows.uptoBulk (H:=H)) N t F
def apd:TL enc W N 9 λl b=>∃y:List UInt8,l=[.aF y]/\y.length+1<=b:=(arA underlying9 (ZP H)).to λ_ _ ⟨y,h,k⟩=>⟨y,h,by omega⟩
end
def fn7:aT prog 7 (sq [rg 2 [oz 2],sq [rg 15 [om 0,nT,nB .gtr 1500],cr 17 18 [oC 9 [],o1 2]],rg 3 [oq (.mv (.c .fV))],rg 20 [om 3,om 0,oC 12 [20,21],o1 19,oe 19 0,oe 19 1,oe 19 2,oZ 4 [0,0,1,0,7,9,0,0,0,1,7,10,0,0,1,7,10],oR 5 iJ,oZ 6 [0,0],os 17 4 23,os 18 5 24,o2 2 6],sq [rg 26 [ol 17 4,oW [0,0,1,0,7,9,0,0,0,1,7,10,0,0,1,7,10] [],oC 13 [26,27],nn,gB,ol 18 5,oY iJ [],oC 14 [31,32],nn,gZ,gB,ol 2 6,oW [0,0] [],oq (.ir aa [1,1] (.s 37) (.s 38)),gZ,gB,om 3,oC 15 [42],oW [0,0,0] [],oq (.ir aa [1,1,1] (.s 43) (.s 44)),gZ,gB,om 3,oC 11 [48],oq (.mW .neq (.s 49) (.c (.aF []))),gZ,gB,om 3,oC 21 [53],nL,nB .neq 0,gZ,gB,om 3,oC 24 [59],oW [8,8,23] [],oC 23 [60,61],nn,gZ],cr 64 2 [oz 2]],rg 0 [od (U 7) (.nP [(.sl .aV 3 []),(.sl .aV 3 []),(.sl .aV 18 []),(.sl .aV 1 []),(.int .i64 0),(.sl .aV 5 [])])],rg 65 [oC 10 [],o1 8],rg 67 [om 0,oC 12 [7,67],o1 66,oe 66 0,oe 66 1,oe 66 2,oZ 9 [0,0,1,0,7,9,0,0,0,1,7,10,0,0,1,7,10],oR 10 iJ,oZ 11 [0,0],os 17 9 69,os 18 10 70,o2 2 11],rg 73 [om 8,om 0,oC 12 [73,74],o1 72,oe 72 0,oe 72 1,oe 72 2,oZ 12 [0,0,1,0,7,9,0,0,0,1,7,10,0,0,1,7,10],oR 13 iJ,oZ 14 [0,0],os 17 12 76,os 18 13 77,o2 2 14],rg 79 [ol 17 9,ol 17 12,oC 13 [79,80],gA,ol 18 10,ol 18 13,oC 14 [83,84],gZ,gA,ol 2 11,ol 2 14,oq (.ir ak [1,1] (.s 88) (.s 89)),gZ,gA,oC 11 [7],om 8,oC 11 [94],nE .eql 93,gZ,gA,oC 15 [7],om 8,oC 15 [100],oq (.ir ak [1,1,1] (.s 99) (.s 101)),gZ,gA,oC 9 [],gZ,o1 2],.ret]) [.tmp 2] 107:=aW func7 ⟨[7],[]⟩
def Qb:Cn .zero:=⟨by simp[aq.zero],by simp[aq.zero],by simp[aq.zero,Nd.zero,Nd.wt,eK,ft,aO],by simp[aq.zero,Nd.zero,Nd.wt,eK,ft,aO]⟩
variable{s:gV}{t:List UInt8}
def akO(ht:t.length<=3000):Cn (iC s t).1/\w_ (iC s t).2.1:=by
 by_cases h:(iC s t).2.2.cls=0
 .obtain⟨h1,h2,-⟩:=Mb ht h;have jV:aO=268435456:=rfl;have n1:=h1.n;have n2:=h1.p;exact⟨⟨by omega,by omega,h1.wl,h1.wr⟩,h2⟩
 .have z:Cn .zero/\w_ .zero:=⟨Qb,⟨by simp[dQ.zero],by simp[dQ.zero,ei.zero],by simp[dQ.zero,ei.zero]⟩⟩;rw[iC] at h ⊢
  by_cases hr:(cW t).2.1=0
  .by_cases hf:(fU (kX s.live.lP (rk s) (cW t).1)).cls=0
   .rw[DW hr hf] at h;exact absurd rfl h
   .rw[Hh hr hf];exact z
  .rw[Hg hr];exact z
variable{Z:ag}
def amd(t:List UInt8)(hg:TZ Z)(km:Z.bY 0=U gh):a_ 7 [.aF t] Z (.bool aa):=by
 have Ym:=Pp hg km;have dn:=ab_ t Z;simp only[r8] at dn;have vz:a_ 13 [.agg aq.zero.enc,.agg gH] Z (.bool aa):=cg.eh (as' := [.agg aq.zero.enc,.agg aq.zero.enc]) (Xg Qb Z) ⟨da.rfl,da.erase,trivial⟩ bL.rfl;have az:a_ 14 [.agg dQ.zero.enc,.agg iJ] Z (.bool aa):=cg.eh (as' := [.agg dQ.zero.enc,.agg dQ.zero.enc]) (Nf .zero Z (by simp[dQ.zero]) (by simp[dQ.zero,ei.zero]) (by simp[dQ.zero,ei.zero])) ⟨da.rfl,da.erase,trivial⟩ bL.rfl;have pz:a_ 23 [.agg (qp .zero),.agg [.sl .aV 3 [],.sl .aV 3 [],.sl .aV 18 []]] Z (.bool aa):=cg.eh (as' := [.agg (qp .zero),.agg (qp .zero)]) (aox .zero Z T') ⟨da.rfl,da.erase,trivial⟩ bL.rfl;refine fn7.aS ?_;simp only[aR,am,a8,Nat.reduceAdd]
 by_cases o1:1500<t.length
 .simp only[am,aQ (show(1500:Int)<t.length by omega)];refine cl (Ym) ?_;simp only[am];exact rt
 simp only[am,aM (show ¬(1500:Int)<t.length by omega)];refine cl dn ?_;simp only[am,Nat.reduceAdd,aL.al,di,jA];refine cl vz ?_;simp only[am,jA];refine⟨rfl,cl az ?_⟩;simp only[am,aL.al,JU,aQ (show aL.zero=⟨0,0⟩ from rfl)];refine cl (aqR Z) ?_;simp only[am,bM,Rm.enc];refine cl (ajZ Z) ?_;simp only[am,bM];refine cl (TV Z) ?_;simp only[am,aQ (show((0:Nat):Int)=0 from rfl)];refine cl (aow Z) ?_;simp only[am];refine⟨rfl,cl pz ?_⟩;simp only[am];intro b1 fv;simp only[am];refine(cg.eh (as' := []) (Tp (Z.set b1 (jF .aV .zero))) cJ.rfl (bL.set RB)).mono ?_;rintro v dr ⟨b2,rfl,dD,rfl⟩;have aX:b2≠b1:=λe=>by rw[e,gR] at dD;simp at dD
 have Sg : Z.box b2=none:=by rw[mL aX] at dD;exact dD
 have s1:sC ((Z.set b1 (jF .aV .zero)).set b2 (jF .aV .zero)) b1 .aV .zero:=⟨by rw[mL aX.symm,gR],trivial⟩;have s2:sC ((Z.set b1 (jF .aV .zero)).set b2 (jF .aV .zero)) b2 .aV .zero:=Wj;simp only[am];have c1:=FK t s1 H3 hg km (by omega);obtain⟨w1,w2⟩:=akO (s:=.zero) (t:=t) (by omega);have KW:=QD (t:=t) H3 (by omega);obtain⟨X,hX⟩:∃X,X=iC .zero t:=⟨_,rfl⟩;rw[<-hX] at c1 w1 w2;obtain⟨c,x,f⟩:=X;simp only[r8] at c1 w1 w2;refine c1.mono ?_;rintro v cN ⟨rfl,k1,s3,p1⟩;obtain⟨s4,a1⟩:=s2.other p1 aX (λ_ e=>by simp at e);simp only[am,Nat.reduceAdd,aL.al,di,jA];have e1:cN.bY=Z.bY:=p1.c;have c2:=FK t s4 H3 (show TZ cN from by rw[TZ,e1];exact hg) (by rw[e1];exact km) (by omega);rw[<-hX] at c2;simp only[r8] at c2;refine c2.mono ?_;rintro v fz ⟨rfl,k2,s5,p2⟩;obtain⟨s6,a2⟩:=s3.other p2 aX.symm (a1.symm);have e2:fz.bY=Z.bY:=p2.c.trans e1;have sT:=KW.n;simp only[am,Nat.reduceAdd,aL.al,di,jA];refine cl (Xg w1 fz) ?_;simp only[am,jA];refine cl (Nf x fz w2.c w2.a w2.b) ?_;simp only[am,bM,aL.al];refine cl (LU s6.b KW) ?_;simp only[am];refine cl (LU s5.b KW) ?_;simp only[am,bM];refine cl (H0 s6.b (by omega)) ?_;simp only[am];refine cl (H0 s5.b (by omega)) ?_;simp only[am,bM,Rm.enc];refine cl (Pp (show TZ fz from by rw[TZ,e2];exact hg) (by rw[e2];exact km)) ?_;simp only[am];have u0:Z.sub ((Z.set b1 (jF .aV .zero)).set b2 (jF .aV .zero)):=⟨λc ds hc=>(NW (by rw[mL aX];exact Sg)).1 c ds ((NW fv).1 c ds hc),λ_ _ h=>h,λ_ _ h=>h⟩;obtain⟨u1,_⟩:=Kp.sub u0 fv (λ_ e=>by simp at e) p1;obtain⟨u2,_⟩:=Kp.sub u1 Sg (λ_ e=>by simp at e) p2;exact aP rfl u2 ⟨rfl,rfl⟩
end Go.Proofs.Tryz
