/-
  Part 8 of the proof of StackDropsUptoCardSaid: a logic over the model, the forms of the functions that the law reaches, and what they compute.
-/
import Derived.Test.YtnpggmhoandloaaGreatDoorProg
import Derived.ProofKit
import Derived.OpenShut
import Derived.JoinedCond
import Derived.ChangeStays
import Derived.ReadAgain
import Derived.Deep.DeepHandedRow
import Derived.Lib.LaidTab
import Derived.Stop.LaidErr
import Derived.Test.YtnpggmhoandloaaGreatDoorCards
import Derived.Test.YtnpggmhoandloaaGreatDoorTie
import Derived.Test.YtnpggmhoandloaaGreatDoorDrops7
set_option linter.unusedVariables false
set_option linter.unusedSimpArgs false
set_option linter.defProp false
set_option linter.unusedSectionVars false
set_option maxRecDepth 4000
set_option maxHeartbeats 4000000
open Option renaming some->U,none->ae
open Bool renaming true->aa,false->ak
open List renaming replicate->aA,range->cc,getD->gU,zipWith->lg
open Eq renaming mpr->eN
open Ne renaming symm->fm
namespace Go.Proofs.Tryz
open Go.Am
def agE:aT prog 42 (sq [rg 0 [ox 2 2 0,ox 3 17 1,oZ 4 [8,8]],rg 11 [ol 2 2,oC 72 [11],oZ 5 [8,8],o2 2 5],sq [rg 13 [ol 2 2,ol 17 3,oC 54 [13,14],ow 0 15,nB .neq 0],cr 17 18 [ol 2 5,o2 2 4]],sq [rg 19 [fo 0 3,oC 73 [20]],ci 21 (dg 22 [of 0 5,mM [1],no,of 2 3,nf 0,mM [1],no,ol 2 2,ol 17 3,oC 74 [27,28],oW [1,2,72] [(0,1,26),(1,2,29)],n1 3,na 3 23,of 0 5,os 1 33 32])],sq [rg 34 [fo 0 3,oC 75 [35]],ci 36 (sq [rg 6 [oi 1],sq [rg 37 [fo 0 3,nB .eql 7],ci 39 (rg 6 [oi 2])],rg 41 [ol 2 2,of 2 3,nF 0,oC 76 [41,44],o1 40,oe 40 0,oe 40 1,ot 7 46,o1 8],rg 48 [fo 4 3,nL,oi 0],lp 50 0 (sq [rg 53 [oA 2 49 51,nl 2,oZ 10 [1,0],o2 2 10],rg 55 [fo 1 5,fo 0 10,om 6,om 7,oW [1,0,0] [(0,1,58),(1,1,59),(2,1,60)],n1 3,na 3 56,of 1 5,os 1 64 63]]) 65])],rg 66 [ol 2 5,o2 2 4],.ret]) [.cell 4 aa 2] 67:=aX func42
def agO:aT prog 72 (sq [rg 0 [ox 1 2 0,oZ 2 [8,8]],rg 0 [oZ 3 [8,8]],sq [rg 6 [fo 0 1,nL,oi 0],lp 8 0 (sq [rg 11 [oA 3 7 9,nl 3,oZ 5 [1,2,72],o2 3 5],dg 13 [of 0 3,mM [1],no,of 0 5,mM [1],no,of 1 5,nl 2,oC 137 [18],oW [1,2,72] [(0,1,16),(1,2,19)],n1 3,na 3 14,of 0 3,os 1 23 22]]) 24],rg 25 [fo 1 3,fo 1 1,na 3 26,of 1 3,os 1 30 29],rg 31 [ol 2 3,o2 2 2],.ret]) [.cell 2 aa 2] 32:=aX func72
def r6(l:List dT):List (List V):=l.map dT.enc
def vl(l:List dU):List (List V):=l.map dU.enc
def Mh{l:List dT}:(r6 l).length=l.length:=by simp[r6]
def arR{l:List dU}:(vl l).length=l.length:=by simp[vl]
def ak8{l:List dT}{x:dT}:r6 (l++[x])=r6 l++[x.enc]:=by simp[r6]
def arQ{l:List dU}{x:dU}:vl (l++[x])=vl l++[x.enc]:=by simp[vl]
variable{j:Nat}
def ak9{l:List dT}(h:j<l.length):(l.map dT.enc)[((j:Nat):Int).toNat]?=U l[j].enc:=by simp[h]
def clO(s:aI)(D:ag)(v:V)(σ' : ag):Prop:=∃Z υ,Z≠υ/\D.aJ Z=ae/\D.aJ υ=ae/\v = .agg [.sl (.tk Z) 3 (r6 s.bu),.sl (.tk υ) 3 (vl s.vars)]/\σ' = (D.aR Z s.bu.length).aR υ s.vars.length
def apR(s:aI)(D:ag)(hs:s.ok):cm prog 72 [.agg s.enc] D (clO s D):=by
 obtain⟨h1,h2,h3⟩:=hs;refine agO.aV ?_;simp only[aU,am,a8,Nat.reduceAdd,aI.an,aO];obtain⟨Q,hQ⟩:∃Q:Nat->List dT,∀i,Q i=s.bu.take i:=⟨_,λ_=>rfl⟩;have vW:Q 0=[]:=by rw[hQ];rfl
 have zp:Q s.bu.length=s.bu:=by rw[hQ,eH]
 refine eb (s.bu.length) (λi (Z:Nat)=>⟨[.any,.ptr (.aC 0) 0,.ptr (.aC 1) 0,.ptr (.aC 2) 0,.any,.any,.any,.sl .no 3 (s.bu.map dT.enc),.int .i64 (s.bu.length:Nat),.int .i64 (i:Nat)]++aA 22 .any,[s.enc,[.sl .aW 3 [],.sl .aW 3 []],[.sl (.tk Z) 3 (r6 (Q i)),.sl .aW 3 []]],D.aR Z (Q i).length⟩) (λi Z=>(D.aJ Z=ae)) λF hF JF br=>⟨?_,?_,?_⟩
 .refine JE 0 λZ bp=>⟨Z,eN (br _ _) bp,?_,?_,?_⟩
  all_goals simp[hF,aA,n7,L9,vW,r6]
 .rintro i Z hi bp;have qP:Q (i+1)=Q i++[s.bu[i]]:=by rw[hQ,hQ,jr hi]
  have zo:(Q i).length+1<=100001:=by rw[hQ,iP];omega
  have hlen:(r6 (Q i)).length=(Q i).length:=Mh;have Kf:(Q (i+1)).length=(Q i).length+1:=by rw[qP];simp
  simp only[hF,aA,am,eE hi];refine ix (ak9 hi) ?_;simp only[am,Nat.reduceAdd,aI.an,bC.an,dT.M1,dT.M3,dT.M5,dT.M4];refine bJ.intro (apS s.bu[i].shape (D.aR Z (Q i).length) (h3 _ (fu hi))) ?_;simp only[am,Nat.reduceAdd,bC.an];refine xf (by rw[hlen];simp[aM];omega) (by rw[hlen];exact iX) ?_;rw[hlen];simp only[am,a_,aI.an,jn,cT hi,gv];rw[show V.aF s.bu[i].name::s.bu[i].shape.enc=s.bu[i].enc from rfl,<-ak8,<-qP,<-Kf];refine fN (Z) hi ?_ ?_ ?_ ?_ ?_ ?_
  .exact eN (br _ _) (bp)
  all_goals simp[hF,aA,am,bZ,bQ,dC,V.lo,aI.cE]
 .rintro Z bp;simp only[hF,aA,am,a_,eJ,a_,aI.an,zp];refine Fp (by simp[aM];omega) λυ kh=>?_
  simp only[am,Nat.reduceAdd,aO,aO];have aQ:Z≠υ:=λe=>by rw[<-e,iX] at kh;simp at kh
  exact ao5 rfl (ag.bd _) ⟨Z,υ,aQ,bp,by rw[o6 aQ.symm] at kh;exact kh,by simp[r6,vl],by simp⟩
variable{b Z:Nat}{D:ag}
def aqP{υ a d:Nat}(h1:D.aJ Z=ae)(h2:D.aJ υ=ae):D.sub (((D.aR Z a).aR υ b).aR Z d):=by
 refine⟨λ_ _ h=>h,λt n h=>?_,λ_ _ h=>h⟩;have e1:t≠υ:=λe=>by rw[e,h2] at h;simp at h
 have e2:t≠Z:=λe=>by rw[e,h1] at h;simp at h
 rw[o6 e2,o6 e1,o6 e2];exact h
def aaN{op:Int}(h:lY op=aa):op=1\/op=2\/op=3\/op=4\/op=5:=by
 simp only[lY,bA,b7] at h;omega
def NW{υ a:Nat}(h1:D.aJ Z=ae)(h2:D.aJ υ=ae):D.sub ((D.aR Z a).aR υ b):=by
 refine⟨λ_ _ h=>h,λt n h=>?_,λ_ _ h=>h⟩;have e1:t≠υ:=λe=>by rw[e,h2] at h;simp at h
 have e2:t≠Z:=λe=>by rw[e,h1] at h;simp at h
 rw[o6 e1,o6 e2];exact h
def X3(s:aI)(c:aq)(hs:s.uY)(hg:TZ D)(hn:c.aj.length<=100000)(hp:c.bh.length<=100000):
 bc 42 [.agg s.enc,.agg c.enc] D (.agg (sA s c).enc):=by
 have hl:=hs.1.1;have hv:=hs.1.2.1;refine agE.aV ?_;simp only[aU,am,a8,Nat.reduceAdd,aI.an,df];refine(apR s D hs.1).mono ?_;rintro v fQ ⟨Z,υ,aQ,bp,kh,rfl,rfl⟩;have t1:((D.aR Z s.bu.length).aR υ s.vars.length).aJ Z=U s.bu.length:=by rw[o6 aQ,iX]
 simp only[am,Nat.reduceAdd,aI.an,df];refine cl (Wa s c (D:=(D.aR Z s.bu.length).aR υ s.vars.length) hs hg hn hp) ?_
 by_cases hf:(ku s c).cls=0
 case neg =>
  simp only[am,Nat.reduceAdd,ff,aL.an,hf];exact aN rfl (NW bp kh) ⟨by rw[sA,aD hf];rfl,rfl⟩
 simp only[am,bS,aL.an,eQ,hf];refine cl (LW c.op _) ?_;cases h5:lY c.op with
 | true =>
  simp only[am,aI.an,df,cL];refine bJ.intro (ap' s c ((D.aR Z s.bu.length).aR υ s.vars.length) hs hn hp) ?_;simp only[am,Nat.reduceAdd,bC.an];refine xf (by rw[Mh];simp[aM];omega) (by rw[Mh];exact t1) ?_;simp only[am,eQ,cL];have rY:ny c.op=false:=by
   rcases aaN h5 with e | e | e | e | e<;>simp[ny,e]
  refine cl (EB c.op _) ?_;simp only[am,Nat.reduceAdd,rY];refine aN rfl ?_ ⟨?_,rfl⟩
  .exact aqP bp kh
  .rw[sA,aB (by simp[hf]),aD h5];simp[V.erase,bw,aI.enc,r6,vl,dT.enc]
 | false =>
  simp only[am,eQ];refine cl (EB c.op _) ?_;cases h2:ny c.op with
  | false =>
   simp only[am,Nat.reduceAdd];exact aN rfl (NW bp kh) ⟨by rw[sA,aB (by simp[hf]),aB (by simp[h5]),aB (by simp[h2])];rfl,rfl⟩
  | true =>
   simp only[am,eQ];obtain⟨w,hw⟩:∃w:au->dU,∀x,w x=⟨x.al,if c.op=7 then 2 else 1,de (iq s.bu c.name.al)⟩:=⟨_,λ_=>rfl⟩;obtain⟨Q,hQ⟩:∃Q:Nat->List dU,∀i,Q i=s.vars++(c.aj.take i).map w:=⟨_,λ_=>rfl⟩;have vW:Q 0=s.vars:=by rw[hQ];simp
   have zp:(⟨s.bu,Q c.aj.length⟩:aI)=sA s c:=by
    rw[sA,aB (by simp[hf]),aB (by simp[h5]),aD h2,hQ,eH];rw[funext hw]
   by_cases h7:c.op=7
   case' pos=>simp only[am,aI.an,cL,aP h7]
   case' neg=>simp only[am,aI.an,cL,aK h7]
   all_goals
    refine cl (vd s c.name.al _ hs.1.1 hs.1.2.1) ?_;simp only[am,aO,aO,cL];refine eb (c.aj.length) (λi (x:Unit)=>⟨[.any,.any,.ptr (.aC 0) 0,.ptr (.aC 1) 0,.ptr (.aC 2) 0,.ptr (.aC 3) 0,.int .i64 (if c.op=7 then 2 else 1),.int .i64 (de (iq s.bu c.name.al)),.any,.any,.any,.any,.any,.any,.any,.any,.any,.any,.any,.any,.any,.any,.any,.any,.any,.any,.any,.any,.any,.any,.any,.any,.any,.any,.any,.any,.any,.any,.any,.any,.any,.any,.any,.any,.any,.any,.any,.any,.any,.sl .no 2 (c.aj.map au.enc),.int .i64 (c.aj.length:Nat),.int .i64 (i:Nat)]++aA 15 .any,[s.enc,c.enc,[.sl .aW 3 [],.sl .aW 3 []],[.sl (.tk Z) 3 (r6 s.bu),.sl (.tk υ) 3 (vl (Q i))]],(D.aR Z s.bu.length).aR υ (Q i).length⟩) (λi x=>(True)) λF hF JF br=>⟨?_,?_,?_⟩
    .refine en br (()) (trivial) ?_ ?_ ?_
     all_goals simp[hF,aA,am,bZ,h7,vW]
    .rintro i x hi -;have qP:Q (i+1)=Q i++[w c.aj[i]]:=by rw[hQ,hQ,jr hi,fX,dZ];rfl
     have zo:(Q i).length+1<=300000:=by rw[hQ];simp only[bI,aO,iP];omega
     have hlen:(vl (Q i)).length=(Q i).length:=arR;have Kf:(Q (i+1)).length=(Q i).length+1:=by rw[qP];simp
     simp only[hF,aA,am,eE hi];refine ix (AF hi) ?_;simp only[am,Nat.reduceAdd,au.an,wS];refine jI (by rw[hlen];simp[aM];omega) (by rw[hlen];exact iX) ?_;rw[hlen];simp only[am,a_,jn,cT hi,gv];rw[show [V.aF c.aj[i].al,V.int .i64 (if c.op=7 then 2 else 1),V.int .i64 (de (iq s.bu c.name.al))]=(w c.aj[i]).enc by rw[hw];rfl,<-arQ,<-qP,<-Kf];refine fN (()) hi ?_ ?_ ?_ ?_ ?_ ?_
     .exact eN (br _ _) (trivial)
     all_goals simp[hF,aA,am,bZ,bQ,dC,V.lo,aI.cE,aq.enc,aq.cM]
    .rintro x -;simp only[hF,aA,am,a_,eJ,Nat.reduceAdd,a_];refine aN rfl (NW bp kh) ⟨?_,rfl⟩;rw[<-zp];rfl
def ad':aT prog 11 (sq [rg 2 [oz 1],rg 3 [oz 6],sq [rg 6 [om 0,oC 21 [6],nL,oi 0],lp 8 0 (sq [rg 11 [oA 1 7 9,no,o1 5],rg 13 [om 3,om 5,oq (.mj (.s 13) (.s 14)),o1 3],rg 16 [om 3,oq (.j9 1 [(.c (.int .u8 10))]),na 1 16,o1 3]]) 19],rg 20 [om 3,oq (.sF (.s 20)),o1 2],.ret]) [.tmp 2] 22:=aX func11
def aeu:aT prog 15 (sq [rg 0 [oZ 2 [0,0,0]],sq [rg 3 [om 0,oq (.rF ak (.s 3) (.c .iL))],cr 4 5 [oW [0,0,0] [],o2 3 2]],dg 6 [mk 0,nf 0,nF 4,mk 0,nf 0,nF 2,nL,mk 0,nF 5,nL,nB .add 1,oW [0,0,0] [(0,1,10),(1,1,16),(2,1,22)],o2 3 2],.ret]) [.cell 2 aa 3] 24:=aX func15
def ae5:aT prog 21 (sq [rg 2 [oz 6],sq [rg 3 [om 0,oq (.rF ak (.s 3) (.c .iL))],cr 4 2 [oz 6]],rg 5 [oq (.j9 1 []),mk 0,nf 0,nF 3,na 1 5,o1 2],.ret]) [.tmp 2] 12:=aX func21
def agF:aT prog 43 (sq [rg 0 [ox 1 18 0,oR 2 jt],rg 3 [oq (.j9 10 []),fo 2 1,na 10 3,of 2 1,os 1 7 6],rg 8 [oq (.j9 10 []),of 12 1,nF 0,na 10 8,of 12 1,nf 0,os 1 14 12],rg 15 [oq (.j9 10 []),of 14 1,nF 0,na 10 15,of 14 1,nf 0,os 1 21 19],rg 22 [ol 18 1,o2 18 2],.ret]) [.cell 2 aa 18] 23:=aX func43
def aaY(x:eG)(D:ag)(h:w_ x):bc 43 [.agg x.enc] D (.agg x.enc):=by
 obtain⟨h1,h2,h3⟩:=h;refine agF.aV ?_;simp only[aU,am,a8,Nat.reduceAdd,lk];refine xg (by simp[aM];omega) ?_;simp only[am,lk,fY];refine xg (by simp[aM];omega) ?_;simp only[am,lk,fY];refine xg (by simp[aM];omega) ?_;simp only[am,lk,fY];exact aN (v:=.agg x.enc) eG.dq (ag.bd _) ⟨by simp only[V.erase,eG.dk],rfl⟩
variable{k:Tk}{s:gF}
def H3(h:D.box b=U (jV k s))(hn:s.eZ.length<=100000):bc 15 [.ptr (.out b) 0] D (.agg (rj s).enc):=by
 rw[jV] at h;refine aeu.aV ?_;simp only[aU,am,a8,Nat.reduceAdd,I1];simp only[am,Nat.reduceAdd,aO,aO,h,wrap_i64 (x:=((s.eZ.length:Nat):Int)+1) (by omega) (by omega)];exact aN rfl (ag.bd _) ⟨rfl,rfl⟩
def akw(h:D.box b=U (jV k s))(hn:s.live.lines.length<=100000):bc 21 [.ptr (.out b) 0] D (.sl .no 1 (cO s.live.lines)):=by
 rw[jV] at h;refine ae5.aV ?_;simp only[aU,am,a8,Nat.reduceAdd,I1];simp only[am,h];refine xg (by simp[gO,aM];omega) ?_;simp only[am,fY];exact aN rfl (ag.bd _) ⟨rfl,rfl⟩
variable{l:List (List UInt8)}
def DZ(h:j<l.length):(cO l)[((j:Nat):Int).toNat]?=U [.aF l[j]]:=by simp[cO,h]
theorem acJ:dc [10]=[[.int .u8 10]]:=rfl
def aqG{u:V}(hu:u.cG=aa)(hl:kT l<=1000000)(hc:bc 21 [u] D (.sl .no 1 (cO l))):bc 11 [u] D (.aF (rn l)):=by
 have Sp:=@Hr l;refine ad'.aV ?_;simp only[aU,am,a8,Nat.reduceAdd];refine⟨hu,cl hc ?_⟩;simp only[am,gO];refine eb (l.length) (λi (Z:Nat)=>⟨[.any,.any,.any,.sl (.tk Z) 1 (dc (rn (l.take i))),.any,.any,.any,.sl .no 1 (cO l),.int .i64 (l.length:Nat),.int .i64 (i:Nat)]++aA 12 .any,[],D.aR Z (rn (l.take i)).length⟩) (λi Z=>(D.aJ Z=ae)) λF hF JF br=>⟨?_,?_,?_⟩
 .refine FU 0 λZ bp=>⟨Z,eN (br _ _) bp,?_,?_,?_⟩
  all_goals simp[hF,aA,n7,rn,dc]
 .rintro i Z hi bp;have hn:=@ak7 l (i+1);rw[<-WT,WU hi] at hn;simp only[bI,gv] at hn;simp only[hF,aA,am,eE hi];refine ix (DZ hi) ?_;simp only[am,cF];refine⟨_,rfl,?_⟩;refine jI (by rw[iR,iR];simp[aM];omega) (by rw[iR,iX]) ?_;simp only[am,jn];rw[<-acJ,<-CV,iR,iR,<-bI];refine jI (by rw[iR,iR];simp[aM];omega) (by rw[iR,iX]) ?_;simp only[am,a_,jn,cT hi];rw[<-CV,iR,iR,<-bI,<-WU hi];exact nx br (Z) hi (bp)
 .rintro Z bp;simp only[hF,aA,am,cF,a_,eJ,a_,eH];refine⟨_,_,rfl,?_⟩;refine aN rfl (sj bp) ⟨?_,rfl⟩;simp[V.erase]
def afz:aT prog 25 (sq [rg 2 [oz 2],rg 3 [om 0,nB .geq 1,gA,om 0,nB .leq 10,gZ,o1 2],.ret]) [.tmp 2] 9:=aX func25
def af8:aT prog 29 (sq [rg 0 [ox 3 2 0,ox 4 3 1,oZ 6 [0,0,1,0,7,9,0,0,0,1,7,10,0,0,1,7,10],oR 7 jt,oZ 8 [0,0]],rg 15 [om 2,oC 53 [15],o1 14,oe 14 0,oe 14 1,oZ 9 [0,0,1,0,7,9,0,0,0,1,7,10,0,0,1,7,10],oZ 10 [0,0],os 17 9 17,o2 2 10],sq [rg 19 [fo 0 10,nB .neq 0],ci 21 (sq [dg 22 [oW [0,0,1,0,7,9,0,0,0,1,7,10,0,0,1,7,10] [],oY jt [],mM [1,2],ol 2 10,os 17 6 22,os 18 7 23,o2 2 8],.ret])],dg 25 [ol 2 3,ol 17 9,oC 54 [25,26],mM [0],ol 2 3,mM [0],ol 17 9,oC 55 [28,29],oq (.j9 2 [(.s 27),(.s 30)]),o1 11],sq [rg 32 [ol 3 4,ol 17 9,oC 56 [32,33]],ci 34 (rg 35 [om 11,fo 1 9,oG [0,0] [(0,1,.c (.int .i64 7)),(1,1,.s 37)],n1 2,na 2 35,o1 11])],sq [rg 41 [fo 0 9,nB .eql 12,gA,fo 2 4,nB .leq 1,gZ],ci 48 (rg 49 [om 11,fo 1 9,oG [0,0] [(0,1,.c (.int .i64 8)),(1,1,.s 51)],n1 2,na 2 49,o1 11])],sq [rg 55 [om 11,oC 57 [55],o2 2 10],rg 57 [fo 0 10,nB .neq 0],ci 59 (sq [dg 60 [oW [0,0,1,0,7,9,0,0,0,1,7,10,0,0,1,7,10] [],oY jt [],mM [1,2],ol 2 10,os 17 6 60,os 18 7 61,o2 2 8],.ret])],rg 64 [ol 2 3,ol 17 9,oC 58 [64,65],o1 63,oe 63 0,oe 63 1,oR 12 jt,os 18 12 67,o1 13],dg 69 [ol 17 9,mM [1],ol 18 12,oW [0,0] [],os 17 6 69,os 18 7 70,o2 2 8],.ret]) [.cell 6 aa 17,.cell 7 aa 18,.cell 8 aa 2] 72:=aX func29
def agJ:aT prog 56 (sq [rg 4 [ox 2 3 0,ox 3 17 1,oz 2],sq [rg 6 [fo 0 3,oC 25 [7]],ci 8 (sq [rg 9 [ol 17 3,oC 59 [9],nT,o1 5],rg 12 [om 5,nB .gtr 1024,gB,fo 0 2,om 5,oq (.eD .sub (.c (.int .i64 16383)) (.s 17)),nb .gtr 16,gZ],cr 20 4 [oq (.mv (.c (.bool aa)))]])],rg 21 [fo 0 3,oC 112 [22],gA,fo 1 2,nB .geq 64,gZ,nm,oh 29 (of 0 3),oh 29 (no),oh 29 (nB .eql 11),oh 29 (nm),og 33 (of 2 2),og 33 (no),og 33 (nB .geq 16),oh 29 (oy 33 36),oq (.pick (.s 29) (.c (.bool aa)) (.s 37)),o1 4],.ret]) [.tmp 4] 39:=aX func56
def aec:aT prog 112 (sq [rg 2 [oz 2],rg 3 [om 0,nB .geq 8,gA,om 0,nB .leq 10,gZ,o1 2],.ret]) [.tmp 2] 9:=aX func112
def WI(op:Int)(D:ag):bc 25 [.int .i64 op] D (.bool (tH op)):=by
 refine afz.aV ?_;simp only[aU,am,a8,Nat.reduceAdd]
 by_cases h:1<=op
 .simp only[am,aP h];refine aS ?_;simp[V.erase,tH,h]
 .simp only[am,aK h];refine aS ?_;simp[V.erase,tH,h]
def Ps(op:Int)(D:ag):bc 112 [.int .i64 op] D (.bool (vG op)):=by
 refine aec.aV ?_;simp only[aU,am,a8,Nat.reduceAdd]
 by_cases h:8<=op
 .simp only[am,aP h];refine aS ?_;simp[V.erase,vG,h]
 .simp only[am,aK h];refine aS ?_;simp[V.erase,vG,h]
def It:=af @am <| af @pf <| af @cF <| af @ka <| af @bS <| af @ff <| af @a_ <| af @Rl.an <| af @bn.an <| af @aI.an <| af @bC.an <| af @au.an <| af @jC <| af @tX @vz
def akr(r:Rm)(c:aq)(kJ:D.bO 0=U fL)(hw:16*c.wt+64<=aM):bc 56 [.agg r.enc,.agg c.enc] D (.bool (km r c)):=by
 have tail:∀B:Bool,(tH c.op&&(decide (1024<((dS c).length:Int))||decide (IntKind.i64.wrap (16383 - (dS c).length)<r.bytes)))=ak->B=((vG c.op&&decide (64<=r.pg))||(decide (c.op=11)&&decide (16<=r.eZ)))->B=km r c:=λB h e=>by
  rw[e,km,h,EN]
 refine agJ.aV ?_;simp only[aU,am,a8,Nat.reduceAdd,Rm.an,df,eQ];refine cl (WI c.op D) ?_;cases hs:tH c.op with
 | true =>
  rw[hs,pW] at tail;simp only[am,df];refine cl (Qp c kJ hw) ?_;simp only[am];have yes:(decide (1024<((dS c).length:Int))||decide (IntKind.i64.wrap (16383 - (dS c).length)<r.bytes))=aa->km r c=true:=λh=>by rw[km,hs,h];rfl
  cases h1:decide (1024<((dS c).length:Int)) with
  | true =>
   simp only[am];refine aS ?_;simp[V.erase,yes (by rw[h1];rfl)]
  | false =>
   cases h2:decide (IntKind.i64.wrap (16383 - (dS c).length)<r.bytes) with
   | true =>
    simp only[am,Rm.an,h2];refine aS ?_;simp[V.erase,yes (by rw[h1,h2];rfl)]
   | false =>
    have tl:=λB=>tail B (by rw[h1,h2];rfl)
    simp only[am,Rm.an,eQ,h2];refine cl (Ps c.op D) ?_;simp only[am]
    repeat' (first
     | (refine kH (λh=>?_) (λh=>?_)<;>simp only[am,h,Rm.an,eQ])
     | (refine fc (λh=>?_) (λh=>?_)<;>simp only[It,h,Nat.reduceAdd,Nat.reduceEqDiff,aO,Int.reduceNeg,di,cC,eg,Int.reduceEq,Int.reduceLT,Int.reduceLE,Int.reduceGE,Nat.reduceLT,Int.reduceToNat,Nat.reduceMul,ck,reduceCtorEq,aL.an,Rm.an,df,eQ,cL,ui,lj,jt])
     | (refine kX (λh=>?_) (λh=>?_)<;>simp only[It,h,Nat.reduceAdd,Nat.reduceEqDiff,aO,Int.reduceNeg,di,cC,eg,Int.reduceEq,Int.reduceLT,Int.reduceLE,Int.reduceGE,Nat.reduceLT,Int.reduceToNat,Nat.reduceMul,ck,reduceCtorEq,aL.an,Rm.an,df,eQ,cL,ui,lj,jt])
    )
    all_goals refine aS ?_
    all_goals simp only[V.erase]
    all_goals refine gX V.bool (tl _ ?_)
    all_goals clear tl tail hw kJ
    all_goals simp[*]
 | false =>
  have tl:=λB=>tail B (by rw[hs];rfl)
  simp only[am,eQ];refine cl (Ps c.op D) ?_;simp only[am]
  repeat' (first
   | (refine kH (λh=>?_) (λh=>?_)<;>simp only[am,h,Rm.an,eQ])
   | (refine fc (λh=>?_) (λh=>?_)<;>simp only[It,h,Nat.reduceAdd,Nat.reduceEqDiff,aO,Int.reduceNeg,di,cC,eg,Int.reduceEq,Int.reduceLT,Int.reduceLE,Int.reduceGE,Nat.reduceLT,Int.reduceToNat,Nat.reduceMul,ck,reduceCtorEq,aL.an,Rm.an,df,eQ,cL,ui,lj,jt])
   | (refine kX (λh=>?_) (λh=>?_)<;>simp only[It,h,Nat.reduceAdd,Nat.reduceEqDiff,aO,Int.reduceNeg,di,cC,eg,Int.reduceEq,Int.reduceLT,Int.reduceLE,Int.reduceGE,Nat.reduceLT,Int.reduceToNat,Nat.reduceMul,ck,reduceCtorEq,aL.an,Rm.an,df,eQ,cL,ui,lj,jt])
  )
  all_goals refine aS ?_
  all_goals simp only[V.erase]
  all_goals refine gX V.bool (tl _ ?_)
  all_goals clear tl tail hw kJ
  all_goals simp[*]
def Pu:cB (cy 0 0 (.sl .aW 10 []) .zero (.sl .aW 10 []) 0 (.sl .aW 10 []) 0 0 [])=true:=yY rfl rfl rfl
def Yo:bw (cy 0 0 (.sl .aW 10 []) .zero (.sl .aW 10 []) 0 (.sl .aW 10 []) 0 0 [])=eG.zero.enc:=by rw[Fq];rfl
def Yp:bH (cy 0 0 (.sl .aW 10 []) .zero (.sl .aW 10 []) 0 (.sl .aW 10 []) 0 0 [])=true:=Fs rfl rfl rfl
def Yn(x:eG):cB x.enc=true:=yY rfl rfl rfl
def sZ(x:aq × eG × aL):V:=.bq [.agg x.1.enc,.agg x.2.1.enc,.agg x.2.2.enc]
structure O6(c:aq):Prop where
 n:c.aj.length<=100000
 p:c.bh.length<=100000
 l:c.left.cw<=100000
 r:c.right.cw<=100000
 wl:c.left.wt<=aM
 wr:c.right.wt<=aM
 w:16*c.wt+64<=aM
variable{t:List UInt8}
def MA(ht:t.length<=3000):O6 (cV t).1:=by
 have hb:=aoZ t;generalize (cV t).1=c at hb;have h1:=hb.ns;have h2:=hb.ps;have h3:=hb.l;have h4:=hb.r;have h5:=hb.nm;have h6:=hb.pt;have h7:=(MW c.aj).2;have h8:=FJ c.left;have h9:=FJ c.right;have jO:aM=268435456:=rfl;have hcw:c.wt=c.name.al.length+eB c.aj+jZ c.bh+c.left.wt+c.right.wt:=rfl;exact⟨by omega,by omega,by omega,by omega,by omega,by omega,by omega⟩
def ajh(s:aI)(r:Rm)(t:List UInt8)(hs:s.uY)(hg:TZ D)(kJ:D.bO 0=U fL)(ht:t.length<=3000):
 bc 29 [.agg s.enc,.agg r.enc,.aF t] D (sZ (lG s r t)):=by
 have jO:aM=268435456:=rfl;have b9:=MA ht;have hm:=TI t;have fF:=@Hk s r t;have iI:=@Hl s r t;have zM:=@DY s r t;refine af8.aV ?_;simp only[aU,am,a8,Nat.reduceAdd,aI.an,Rm.an,jt];refine cl (abh t kJ (by omega) (by rw[Az];omega)) ?_;generalize cV t=R at b9 fF iI zM;generalize lG s r t=X at fF iI zM;obtain⟨c,k,a⟩:=R;simp only at b9 fF iI zM;obtain⟨Y'',hY⟩:∃Y'':eG,Y''=(if jw s c=aa then lT s c else .zero):=⟨_,rfl⟩;rw[<-hY] at zM;obtain⟨A,hA⟩:∃A:List V,A=Y''.enc:=⟨_,rfl⟩;have a1:A.length=18:=by rw[hA];exact sC
 have a2:takeN 18 A=U A:=by rw[hA];exact I7
 have a3:cB A=true:=by rw[hA];exact Yn Y''
 have a4:bH A=true:=by rw[hA];exact eG.dq
 have a5:over (cy 0 0 (.sl .aW 10 []) .zero (.sl .aW 10 []) 0 (.sl .aW 10 []) 0 0 []) A=A:=by rw[hA];exact tt (by rw[sC];exact sC.symm)
 have a6:bw A=Y''.enc:=by rw[hA];exact eG.dk
 have hT:yX s c = .bq [.agg A,.bool (jw s c)]:=by rw[yX,hA,hY]
 have cA:=adr s c (D:=D) hs.1 hg kJ (by have:=b9.n;omega) (by have:=b9.p;omega) b9.l b9.r b9.wl b9.wr;rw[hT] at cA;have aE:∀(t:List V) (lo:List (List V)) (f:aL),X=(.zero,.zero,f)->mP (λv σ' => v=sZ X/\σ' = D) ⟨t,lo,D⟩ (.bq [.agg gS,.agg (cy 0 0 (.sl .aW 10 []) .zero (.sl .aW 10 []) 0 (.sl .aW 10 []) 0 0 []),.agg f.enc]):=λt lo f h=>by
  refine aN (by simp only[V.cG,bH,Yp];rfl) (ag.bd _) ⟨?_,rfl⟩;rw[h,sZ];simp only[V.erase,bw,Yo];rfl
 simp only[am,Nat.reduceAdd,df,JQ]
 by_cases hk:k=0
 case neg =>
  simp only[am,Nat.reduceAdd,lj,aK hk,Pu];exact aE _ _ ⟨k,a⟩ (fF hk)
 simp only[am,aI.an,df,aP hk];refine bJ.intro (Wa s c hs hg b9.n b9.p) ?_;simp only[am,aI.an,df];refine bJ.intro (Q4 s c hs.1 hg b9.l b9.r b9.wl b9.wr) ?_;simp only[am,aL.an,aI.an,Rm.an,df];refine cl (akr r c kJ b9.w) ?_;have pz:(∃L,kS s r c=L/\km r c=aa/\c.op≠12/\L=[ku s c,jJ s c]++[⟨7,c.pos⟩])\/(∃L,kS s r c=L/\km r c=ak/\c.op=12/\r.eZ<=1/\L=[ku s c,jJ s c]++[⟨8,c.pos⟩]) \/
  (∃L,kS s r c=L/\km r c=ak/\c.op=12/\¬r.eZ<=1/\L=[ku s c,jJ s c])\/(∃L,kS s r c=L/\km r c=ak/\c.op≠12/\L=[ku s c,jJ s c]):=by
  cases hl:km r c with
  | true =>
   have hp:=aks hl;exact .inl ⟨_,rfl,rfl,hp,by simp[kS,hl,dK,hp]⟩
  | false =>
   by_cases mn:c.op=12
   .by_cases hf:r.eZ<=1
    .exact .inr (.inl ⟨_,rfl,rfl,mn,hf,by simp[kS,hl,dK,mn,hf]⟩)
    .exact .inr (.inr (.inl ⟨_,rfl,rfl,mn,hf,by simp[kS,hl,dK,hf]⟩))
   .exact .inr (.inr (.inr ⟨_,rfl,rfl,mn,by simp[kS,hl,dK,mn]⟩))
 rcases pz with ⟨L,hL,e1,e2,e3⟩ | ⟨L,hL,e1,e2,e4,e3⟩ | ⟨L,hL,e1,e2,e4,e3⟩ | ⟨L,hL,e1,e2,e3⟩
 case' inl =>
  simp only[am,Nat.reduceAdd,eQ,e1];refine xg (by simp[aM]) ?_;simp only[am,eQ,aK e2]
 case' inr.inl =>
  simp only[am,Nat.reduceAdd,Rm.an,eQ,e1,aP e2,aP e4];refine xg (by simp[aM]) ?_;simp only[am]
 case' inr.inr.inl =>
  simp only[am,Rm.an,eQ,e1,aP e2,aK e4]
 case' inr.inr.inr =>
  simp only[am,eQ,e1,aK e2]
 all_goals
  rw[hL] at iI zM;refine cl (cm.eM (as' := [.sl .no 2 (L.map aL.enc)]) (yc L _ (by rw[e3];simp)) ⟨by rw[e3];exact dE.no,trivial⟩ bN.rfl) ?_;generalize fS L=f at iI zM;simp only[am,aL.an]
  by_cases hf:f.cls=0
  .simp only[am,aI.an,df,aP hf];refine cl cA ?_;simp only[am,Nat.reduceAdd,df,lj,a1,a2,a3,a5];refine aN (by simp only[V.cG,bH,a4];rfl) (ag.bd _) ⟨?_,rfl⟩;rw[zM hk hf,sZ];simp only[V.erase,bw,a6];rfl
  .simp only[am,Nat.reduceAdd,aL.an,lj,aK hf,Pu];exact aE _ _ f (iI hk hf)
def agh:aT prog 30 (sq [rg 0 [ox 4 17 1,ox 5 18 2],rg 9 [ol 17 4,oC 59 [9],o1 6],rg 11 [mk 0,nf 0,nF 3,nL,o1 7],rg 17 [om 0,mk 0,nf 0,nF 3,om 7,om 7,oq (.kv 1 (.s 22) ae (U (.s 23)) (U (.s 24))),om 6,n1 1,na 1 25,ok 17,nf 0,nf 3,os 1 31 28],rg 32 [mk 0,nf 0,nF 4,om 6,nT,nB .add 1,nb .add 36,ok 32,nf 0,nf 4,os 1 43 40],sq [rg 44 [fo 0 5,nB .neq 0],ci 46 (sq [rg 47 [mk 0,nf 0,nF 2,nL,o1 8],dg 53 [om 0,mk 0,nf 0,nf 2,mM [1],no,om 8,om 8,oq (.kv 18 (.s 58) ae (U (.s 59)) (U (.s 60))),ol 18 5,oC 43 [62],n1 18,na 18 61,ok 53,nf 0,nf 2,os 1 68 65],.ret])],dg 69 [om 0,mk 0,nf 0,nf 0,nl 2,ol 17 4,oC 42 [74,75],ok 69,nf 0,nf 0,os 2 79 76]]) [] 80:=aX func30
theorem PE{x:eG}:bD ak 1 x.enc=U (.int .i64 x.op):=rfl
def aqC(c:aq)(x:eG)(h:D.box b=U (jV k s))(ho:s.live.ok)(hg:TZ D)(kJ:D.bO 0=U fL)
 (hn:c.aj.length<=100000) (hp:c.bh.length<=100000) (hw:16*c.wt+64<=aM) (hx:w_ x) (ht:(dS c).length<=100000) :
 dn 30 [.ptr (.out b) 0,.agg c.enc,.agg x.enc] D (.bq []) (D.set b (jV k ⟨Au s.live c x,s.eZ⟩)):=by
 obtain⟨l,fr⟩:=s;have Sp:=@Hr l.lines;have h1:=ho.m;have h2:=ho.b;have h3:=ho.t;have hs:=ho.s;simp only at h1 h2 h3 hs;rw[jV] at h;simp only at h;refine agh.aV ?_;simp only[aU,am,a8,Nat.reduceAdd,df,lk];refine cl (Qp c kJ hw) ?_;simp only[am,cF,gO,h];refine HY (by simp[gO]) ?_;rw[yS (by simp[gO])];simp only[am];refine xg (by simp[gO,aM];omega) ?_;simp only[am,h];have e1:cO l.lines++[[V.aF (dS c)]]=cO (l.lines++[dS c]):=by simp[cO]
 have e2:IntKind.i64.wrap (l.bytes+IntKind.i64.wrap (((dS c).length:Nat)+1))=l.bytes+((dS c).length+1:Nat):=by
  rw[wrap_i64 (x:=((dS c).length:Nat)+1),wrap_i64];simp
 rw[e1,e2]
 by_cases lW:x.op=0
 .simp only[am,bS,df,PE,lW];refine bJ.intro (X3 l.ni c (D:=_) hs hg hn hp) ?_;simp only[am,aI.an];refine aN rfl (ag.bd _) ⟨rfl,?_⟩;rw[Au,aB (by simp[lW])];rfl
 .simp only[am,cF,aO,ff,aO,PE,lW];refine HY (by simp) ?_;rw[yS (by simp)];simp only[am,lk];refine bJ.intro (aaY x _ hx) ?_;simp only[am,lk];refine Yg (by simp[aM];omega) ?_;simp only[am];refine aN rfl (ag.bd _) ⟨rfl,?_⟩;rw[Au,aD lW];simp[jV]
def JR{f:aL}{x y:Int}:fE [1,1] f.enc [.int .i64 x,.int .i64 y]=U (decide (f=⟨x,y⟩)):=aL.pQ (g:=⟨x,y⟩)
def aer:aT prog 14 (sq [rg 4 [ox 2 18 0,ox 3 18 1,oz 2],rg 5 [fo 0 2,fo 0 3,nb .eql 6,gA,fo 1 2,fo 1 3,nb .eql 12,gZ,gA,fo 2 2,fo 2 3,oC 34 [19,21],gZ,gA,of 3 2,nl 9,of 3 3,nl 9,oq (.jf ak [1,1,1,1,1,1,1,1,1] (.s 26) (.s 28)),gZ,gA,of 12 2,nl 2,of 12 3,nl 2,oC 35 [33,35],gZ,gA,of 14 2,nl 2,of 14 3,nl 2,oC 35 [40,42],gZ,gA,fo 16 2,fo 16 3,nb .eql 47,gZ,gA,fo 17 2,fo 17 3,nE .eql 54,gZ,o1 4],.ret]) [.tmp 4] 59:=aX func14
def agD:aT prog 35 (sq [rg 4 [ox 2 2 0,ox 3 2 1,oz 2],sq [rg 6 [fo 1 2,fo 1 3,nb .neq 7,gB,fo 0 2,nL,fo 0 3,nL,nb .neq 14,gZ],cr 19 4 [oz 2]],sq [rg 5 [oi 0],bl 0 (sq [sq [rg 20 [om 5,fo 0 2,nL,nb .lss 20],cx 24 0],.block 1 (sq [dg 27 [fo 0 2,om 5,nA 10 28,nl 10,fo 0 3,om 5,nA 10 33,nl 10,oq (.jf aa [2,1,1,1,1,1,1,1,1,1] (.s 31) (.s 36))],cr 37 4 [oz 2]]),rg 25 [ic 5]])],rg 4 [oq (.mv (.c (.bool aa)))],.ret]) [.tmp 4] 38:=aX func35
def Ra{l:List bU}(h:j<l.length):(l.map bU.enc)[((j:Nat):Int).toNat]?=U l[j].enc:=by simp[h]
def Vs(t:ek)(D:ag)(hl:t.fs.length<=100000):bc 35 [.agg t.enc,.agg t.enc] D (.bool aa):=by
 refine agD.aV ?_;simp only[aU,am,a8,Nat.reduceAdd,bS,ek.an,aO];refine eb (t.fs.length) (λi (x:Unit)=>⟨[.any,.any,.ptr (.aC 0) 0,.ptr (.aC 1) 0,.any,.int .i64 (i:Nat)]++aA 32 .any,[t.enc,t.enc],D⟩) (λi x=>(True)) λF hF JF br=>⟨?_,?_,?_⟩
 .exact en br (()) (trivial)
 .rintro i x hi -;simp only[hF,aA,am,eE hi,ek.an,aO];refine ix (Ra hi) ?_;simp only[am,bU.an,ek.an];refine ix (Ra hi) ?_;simp only[am,bS,a_,bU.an,cT hi];exact nx br (()) hi (trivial)
 .rintro x -;simp only[hF,aA,am,a_,eJ,a_,ek.an,aO];exact rt
def aaO(s:aI)(c:aq)(hl:c.left.cw<=100000):(lT s c).code.length<=100000:=by
 rw[lT];split
 .have:=aaS s (cJ s c) c.left;simp only;omega
 .split<;>simp
def VG{s:aI}{lat:Nat}{n:Nd}(h:n.cw<=100000):(ma s lat n).fs.length<=100000:=by
 have:=y7 n
 rw[ma];split
 .simp
 .simp only[aO];omega
def Rb(s:aI)(c:aq)(hl:c.left.cw<=100000)(hr:c.right.cw<=100000):(lT s c).a.fs.length<=100000/\(lT s c).b.fs.length<=100000:=by
 rw[lT];split
 .simp[ek.zero]
 .split
  .exact⟨VG hl,VG hr⟩
  .simp[ek.zero]
def aoT(x:eG)(D:ag)(hc:x.code.length<=100000)(ha:x.a.fs.length<=100000)(hb:x.b.fs.length<=100000):bc 14 [.agg x.enc,.agg x.enc] D (.bool aa):=by
 obtain⟨op,lat,code,to,a,b,v,field⟩:=x;show cm prog 14 [.agg (cy op lat (.sl .no 10 (code.map bt.enc)) to (.sl .no 10 (a.fs.map bU.enc)) a.tail (.sl .no 10 (b.fs.map bU.enc)) b.tail v field),.agg (cy op lat (.sl .no 10 (code.map bt.enc)) to (.sl .no 10 (a.fs.map bU.enc)) a.tail (.sl .no 10 (b.fs.map bU.enc)) b.tail v field)] D _;refine aer.aV ?_;simp only[aU,am,a8,Nat.reduceAdd];simp only[am,bS,lj];refine cl (apN code code D hc hc) ?_;simp only[am,bS,bF.an,lj];refine cl (Vs a D ha) ?_;simp only[am,lj];refine cl (Vs b D hb) ?_;simp only[am,bS,lj];exact rt
def aek:aT prog 12 (sq [rg 0 [oZ 4 [0,0,1,0,7,9,0,0,0,1,7,10,0,0,1,7,10],oR 5 jt,oZ 6 [0,0]],sq [rg 11 [om 0,oq (.rF ak (.s 11) (.c .iL))],cr 12 13 [oW [0,0,1,0,7,9,0,0,0,1,7,10,0,0,1,7,10] [],oY jt [],oW [0,0] [],os 17 4 13,os 18 5 14,o2 2 6]],dA 17 [7,8,9] [mk 0,nf 0,nf 0,mM [1],nl 2,om 0,oC 15 [22],om 1,oC 29 [21,23,24],o1 16,oe 16 0,oe 16 1,oe 16 2,oN,oN,oN,oX 7 17 26,oX 8 18 27,oX 9 2 28],sq [rg 29 [fo 0 9,nB .neq 0],ci 31 (sq [dg 32 [ol 17 7,mM [1],ol 18 8,mM [1,2],ol 2 9,os 17 4 32,os 18 5 33,o2 2 6],.ret])],.block 0 (sq [rg 36 [fo 0 7,oC 25 [37],o1 35],cd 35 (rg 39 [om 0,ol 17 7,ol 18 8,oC 30 [39,40,41]]) (sq [rg 44 [fo 0 7,nB .eql 11,o1 43],cd 43 (.o7 (dg 47 [om 0,mk 0,nF 5,mk 0,nf 0,nl 5,oW [8,8,23,6,0] [(0,5,55)],n1 5,na 5 51,ok 47,nf 5,os 1 60 58])) (sq [rg 62 [fo 0 7,nB .eql 12,o1 61],ci 61 (sq [rg 65 [mk 0,nF 5,nL,nB .sub 1,o1 10],rg 71 [om 0,mk 0,nF 5,om 10,nA 5 75,nf 0,nl 5,ok 71,nf 0,os 5 81 79],rg 82 [om 0,mk 0,nF 5,om 10,om 10,oq (.kv 5 (.s 86) ae (U (.s 87)) (U (.s 88))),ok 82,nf 5,os 1 91 89]])])])]),dg 92 [ol 17 7,mM [1],ol 18 8,mM [1,2],ol 2 9,os 17 4 92,os 18 5 93,o2 2 6],.ret]) [.cell 4 aa 17,.cell 5 aa 18,.cell 6 aa 2] 95:=aX func12 ⟨[],[9]⟩
def L7(ht:t.length<=3000)(h:(gq s t).2.2.cls=0):O6 (gq s t).1/\w_ (gq s t).2.1/\(dS (gq s t).1).length<=2*t.length/\((gq s t).1.op=12->s.eZ≠[]):=by
 obtain⟨e1,e2,_,_,_,_,e7⟩:=L8 h;have b9:=MA ht;have ha:cV t=((cV t).1,0,0):=by
  obtain⟨a1,_⟩:=aq4 h;rw[<-a1]
 refine⟨by rw[gq,e1];exact b9,?_,by rw[gq,e1];exact(Pg ha).2.2,λmn e=>e7 ⟨by rw[gq,e1] at mn;exact mn,by simp[rj,e]⟩⟩;rw[gq,e2];split
 .exact⟨aaO _ _ b9.l,(Rb _ _ b9.l b9.r).1,(Rb _ _ b9.l b9.r).2⟩
 .exact⟨by simp[eG.zero],by simp[eG.zero,ek.zero],by simp[eG.zero,ek.zero]⟩
def Yj{r:Nat}{u:Tk}{m n:List (List V)}{K:V->ag->Prop}(hk:k = .aW\/k = .tk Z)(hb:m.length+n.length<=aM)(ht:D.aJ Z=U m.length)(h:K (.sl (.tk Z) r (m++n)) (D.aR Z (m.length+n.length))):yI D r (.sl k r m) (.sl u r n) K:=by
 rcases hk with rfl | rfl
 .exact Yh hb ht h
 .exact xf hb ht h
def CT(t:List UInt8)(h:sy D b k s)(ho:s.ok)(hg:TZ D)(kJ:D.bO 0=U fL)(ht:t.length<=3000):
 cm prog 12 [.ptr (.out b) 0,.aF t] D λv σ' => v=sZ (gq s t)/\∃k',sy σ' b k' (qI s t)/\Kp D σ' b k k' := by
 have cj:=ajh s.live.ni (rj s) t (D:=D) ho.l.s hg kJ ht;have hlen:=L7 (s:=s) ht;have hd:qI s t=p_ s (gq s t):=rfl;rw[show lG s.live.ni (rj s) t=gq s t from rfl] at cj;rw[hd];have ba:=ho.n;generalize gq s t=X at cj hlen;obtain⟨c,x,f⟩:=X;simp only[sZ] at cj hlen ⊢;have hb:=h.b;rw[jV] at hb;refine aek.aV ?_;simp only[aU,am,a8,Nat.reduceAdd,bS,Nat.reduceLT,I1];simp only[am,hb];refine bJ.intro (H3 h.b (by omega)) ?_;simp only[am,Rm.an];refine bJ.intro cj ?_;simp only[am,Nat.reduceAdd,aL.an,df,lk];refine⟨by rw[hb];rfl,?_⟩;have fin:∀{t:List V} {lo:List (List V)} {σ' : ag} {k' : Tk} {s' : gF},s' = p_ s (c,x,f)->sy σ' b k' s' -> Kp D σ' b k k' -> mP (λv σ' => v = .bq [.agg c.enc,.agg x.enc,.agg f.enc]/\∃k',sy σ' b k' (p_ s (c,x,f))/\Kp D σ' b k k') ⟨t,lo,σ'⟩ (.bq [.agg c.enc,.agg x.enc,.agg f.enc]):=λ{t lo σ' k' s'} e h1 h2=>by
  refine aN (by simp only[V.cG,bH,eG.dq];rfl) (ag.bd _) ⟨?_,k',by rw[<-e];exact h1,h2⟩;simp only[V.erase,bw,eG.dk];rfl
 by_cases hf:f.cls=0
 case neg =>
  simp only[am,ff,aL.an,df,lk,hf];exact fin (by rw[p_,aD hf]) h Kp.rfl
 obtain⟨b9,hx,xU,aQ⟩:=hlen hf;simp only[am,bS,eQ,hf];refine cl (WI c.op _) ?_;cases dV:tH c.op with
 | true =>
  simp only[am,df,lk];refine cl (aqC c x h.b ho.l hg kJ b9.n b9.p b9.w hx (by omega)) ?_;simp only[am,aL.an,df,lk];refine fin (k' := k) (s' := ⟨Au s.live c x,s.eZ⟩) (by rw[p_,aB (by simp[hf]),aD dV]) ⟨gP,?_⟩ ⟨λc hc=>mE hc,λ_ _ _ h=>h,rfl,λ_ h=>.inl h⟩;exact h.t
 | false =>
  simp only[am,eQ]
  by_cases C6:c.op=11
  .simp only[am,bS,C6];have up:∀{K:St->Prop} {t:List V} {lo:List (List V)},(∀Z cR,cR.aJ Z=U s.eZ.length->cR.box=D.box->cR.bO=D.bO->(∀t' n,k≠.tk t' -> D.aJ t' = U n->cR.aJ t' = U n/\t' ≠ Z)->(k = .tk Z\/D.aJ Z=ae)->(k = .aW\/k = .tk Z)->K ⟨t,lo,cR⟩)->bm ⟨t,lo,D⟩ K:=λ{K t lo} hk=>by
    have ht:=h.t;cases k with
    | no=>exact ht.elim
    | aW=>exact bm.tok s.eZ.length λZ bp=>⟨t,lo,D,dY.rfl,rfl,λ_ c' hc=>⟨c',hc,dY.rfl⟩,pZ.rfl,hk Z _ iX rfl rfl (λt' n _ pB => by
     have:t' ≠ Z:=λe=>by rw[e,bp] at pB;simp at pB
     exact⟨by rw[o6 this];exact pB,this⟩) (.inr bp) (.inl rfl)⟩
    | tk Z=>exact bm.eM cK.rfl ch.rfl bN.rfl (hk Z D ht rfl rfl (λt' n hn pB => ⟨pB,λe=>hn (by rw[e])⟩) (.inl rfl) (.inr rfl))
   refine up λZ cR u1 u2 u3 u4 u5 u6=>?_
   have fg:cR.box b=U _:=(congrFun u2 b).trans hb;simp only[am,Nat.reduceAdd,fg];refine Yj u6 (by simp[aM];omega) (by simp;exact u1) ?_;simp only[am,aO,aL.an,aO,df,lk,fg];have aiy:∀t' n,k≠.tk t' -> D.aJ t' = U n->((cR.aR Z (s.eZ.length+1)).aJ t')=U n:=λt' n hn pB => by
    obtain⟨a1,a2⟩:=u4 t' n hn pB;rw[o6 a2];exact a1
   refine fin (k' := .tk Z) (s' := ⟨s.live,s.eZ++[s.live]⟩) (by rw[p_,aB (by simp[hf]),aB (by simp[dV]),aD C6]) ⟨?_,?_⟩ ⟨λc hc=>?_,aiy,u3,λt' e=>?_⟩
   .rw[gP];simp[jV,ur]
   .show(cR.aR Z (s.eZ.length+1)).aJ Z=U (s.eZ++[s.live]).length;rw[iX];simp
   .rw[mE hc];exact congrFun u2 c
   .simp only[Tk.tk.injEq] at e;subst e;exact u5
  .simp only[am,ff,eQ,C6]
   by_cases mn:c.op=12
   .simp only[am,bS,mn];have aQ:=aQ mn;obtain⟨fr,l,kI⟩:∃fr l,s.eZ=fr++[l]:=⟨s.eZ.dropLast,s.eZ.getLast aQ,(List.dropLast_concat_getLast aQ).symm⟩;have jP:p_ s (c,x,f)=⟨l,fr⟩:=by
     rw[p_,aB (by simp[hf]),aB (by simp[dV]),aB C6,aD mn,kI];simp
    have sP:fr.length<=100:=by rw[kI] at ba;simp at ba;omega
    have hmp:s.eZ.map ur=fr.map ur++[ur l]:=by rw[kI];simp
    rw[hmp] at hb;have hw:IntKind.i64.wrap (((fr.map ur++[ur l]).length:Nat) - 1)=((fr.length:Nat):Int):=by
     simp only[bI,aO,gv];rw[wrap_i64];omega
    simp only[am,hb,hw];refine qY (c:=ur l) (by omega) (by simp) ?_;simp only[am,cF,Nat.reduceAdd,ur,hb];refine HY (by simp) ?_;rw[show fr.length=(fr.map ur).length by simp,List.take_left];simp only[am,aO,aL.an,aO,df,lk];refine fin (k' := .aW) (s' := ⟨l,fr⟩) jP.symm ⟨?_,trivial⟩ ⟨λc hc=>?_,λ_ _ _ h=>h,rfl,λt' e=>by simp at e⟩
    .rw[gP];simp[jV]
    .rw[mE hc]
   .simp only[am,ff,aL.an,df,lk,mn];exact fin (by simp[p_,hf,dV,C6,mn]) h Kp.rfl
def fn8:aT prog 8 (sq [rg 2 [oz 2],sq [rg 5 [om 0,nL,nB .gtr 60],cr 7 2 [oq (.mv (.c (.bool aa)))]],sq [rg 8 [om 0,nL,oi 0],lp 9 0 (sq [rg 12 [oA 1 8 10,no,o1 4],rg 14 [om 4,nT,nB .gtr 1500],cr 16 2 [oq (.mv (.c (.bool aa)))]]) 17],rg 2 [oz 2],.ret]) [.tmp 2] 18:=aX func8
def ad1:aT prog 10 (sq [rg 0 [oq (.mv (.c .iL))],rg 1 [oW [8,8,23,6,0,10] [],oq (.fZ 6 (.s 1)),o1 0],.ret]) [.tmp 0] 3:=aX func10 ⟨[2],[]⟩
def yZ(l:List (List UInt8)):Bool:=decide (60<l.length)||l.any λt=>decide (1500<t.length)
def Zs(h:yZ l=ak):l.length<=60/\∀t∈l,t.length<=1500:=by
 simp only[yZ,AN,A',List.any_eq_false,b7] at h;exact⟨by omega,λt ht=>by have:=h.2 t ht;omega⟩
def Yf{i:Nat}(hi:i<l.length){p:List UInt8->Bool}:(l.take (i+1)).any p=((l.take i).any p||p l[i]):=by
 rw[jr hi,List.any_append];simp
def Zr(l:List (List UInt8))(D:ag):bc 8 [.sl .no 1 (cO l)] D (.bool (yZ l)):=by
 refine fn8.aV ?_;simp only[aU,am,a8,Nat.reduceAdd,gO]
 by_cases h:60<l.length
 .simp only[am,aP (show(60:Int)<l.length by omega)];exact aN rfl (ag.bd _) ⟨by rw[yZ,aP h];rfl,rfl⟩
 simp only[am,gO,aK (show ¬(60:Int)<l.length by omega)];refine eb (l.length) (λi (x:Unit)=>⟨[.any,.any,.any,.any,.any,.any,.any,.any,.sl .no 1 (cO l),.int .i64 (l.length:Nat),.int .i64 (i:Nat)]++aA 7 .any,[],D⟩) (λi x=>((l.take i).any (λt=>decide (1500<t.length))=ak)) λF hF JF br=>⟨?_,?_,?_⟩
 .exact en br (()) (rfl)
 .rintro i x hi hx;simp only[hF,aA,am,eE hi];refine ix (DZ hi) ?_;simp only[am]
  by_cases hq:1500<l[i].length
  .simp only[am,a_,aP (show(1500:Int)<l[i].length by omega)];refine aN rfl (ag.bd _) ⟨?_,rfl⟩
   have:l.any (λt=>decide (1500<t.length))=true:=Cp.2 ⟨l[i],fu hi,aP hq⟩
   rw[yZ,this,Bool.or_true];rfl
  .simp only[am,a_,aK (show ¬(1500:Int)<l[i].length by omega),cT hi];exact nx br (()) hi (by rw[Yf hi,hx,aK hq];rfl)
 .rintro x hx;simp only[hF,aA,am,a_,eJ,a_];rw[eH] at hx;exact aN rfl (ag.bd _) ⟨by rw[yZ,hx,aK h];rfl,rfl⟩
def aqm(D:ag):cm prog 10 [] D λv σ' => ∃b,v = .ptr (.out b) 0/\D.box b=ae/\σ' = D.set b Rr:=by
 refine ad1.aV ?_;simp only[aU,am,a8,Nat.reduceAdd];intro b hb;simp only[am];exact aN rfl (ag.bd _) ⟨b,rfl,hb,rfl⟩
def fn9:aT prog 9 (sq [rg 0 [oz 2],rg 10 [oC 10 [],o1 1],sq [rg 11 [oq (.j9 1 [(.c (.aF [99,104,97,105,110,32,107,32,123,97,44,98,125])),(.c (.aF [112,117,115,104])),(.c (.aF [108,97,98,101,108,32,107,32,32,123,120,125])),(.c (.aF [112,111,112]))]),nL,oi 0],lp 12 0 (sq [rg 15 [oA 1 11 13,no,o1 3],rg 18 [om 1,om 3,oC 12 [18,19],o1 17,oe 17 0,oe 17 1,oe 17 2,oZ 4 [0,0,1,0,7,9,0,0,0,1,7,10,0,0,1,7,10],oR 5 jt,oZ 6 [0,0],os 17 4 21,os 18 5 22,o2 2 6],rg 24 [ol 2 6,oW [0,0] [],oq (.jf aa [1,1] (.s 24) (.s 25))],cr 26 0 [oz 2]]) 27],rg 29 [om 1,oc 12 [.s 29,.c (.aF [112,111,112])],o1 28,oe 28 0,oe 28 1,oe 28 2,oZ 7 [0,0,1,0,7,9,0,0,0,1,7,10,0,0,1,7,10],oR 8 jt,oZ 9 [0,0],os 17 7 31,os 18 8 32,o2 2 9],rg 34 [om 1,oC 11 [34],oq (.nD .eql (.s 35) (.c (.aF [99,104,97,105,110,32,107,32,123,97,44,98,125,10]))),gA,ol 2 9,oG [0,0] [(0,1,.c (.int .i64 8))],oq (.jf ak [1,1] (.s 38) (.s 39)),gZ,gA,om 1,oC 15 [43],oG [0,0,0] [(0,1,.c (.int .i64 14)),(2,1,.c (.int .i64 1))],oq (.jf ak [1,1,1] (.s 44) (.s 45)),gZ,o1 0],.ret]) [.tmp 0] 48:=aX func9
def LO(D:ag):cm prog 10 [] D λv σ' => ∃b,v = .ptr (.out b) 0/\D.box b=ae/\σ' = D.set b (jV .aW .zero) :=
 cm.up (aqm D) λv σ' ⟨b,h1,h2,h3⟩=>⟨_,by rw[h3];exact bN.set ag',b,h1,h2,rfl⟩
def Qv(hs:s.ok)(ht:t.length<=3000):(qI s t).ok:=by
 by_cases h:(gq s t).2.2.cls=0
 .exact abX hs (MA ht).n (L7 ht h).2.1
 .rw[qI,p_,aD h];exact hs
def Rk:∀{l:List (List UInt8)} {s:gF},s.ok->(∀t∈l,t.length<=3000)->(l.foldl qI s).ok
 | [],_,hs,_=>hs
 | t::l,_,hs,h=>Rk (l:=l) (Qv hs (h t (by simp))) λx hx=>h x (by simp[hx])
def akx(h:s.ok):s.live.lines.length<=100000:=by
 have h1:=@Hr s.live.lines;have h2:=h.l.t;omega
def DP(h:D.box b=U (jV k s))(ho:s.ok):bc 11 [.ptr (.out b) 0] D (.aF (rn s.live.lines)) :=
 aqG rfl (by have:=ho.l.t;omega) (akw h (akx ho))
def FY{i:Nat}:(nK i).ok:=Rk WJ λt ht=>QR t (AU ht)
def Fm(hg:TZ D)(kJ:D.bO 0=U fL):bc 9 [] D (.bool aa):=by
 refine fn9.aV ?_;simp only[aU,am,a8,Nat.reduceAdd];refine(LO D).mono ?_;rintro v cR ⟨b,rfl,hb,rfl⟩;simp only[am,Nat.reduceAdd];refine eb (4) (λi (x:ag × Tk)=>⟨[.any,.ptr (.out b) 0,.any,.any,.any,.any,.any,.any,.any,.any,.any,.sl .aW 1 (cO uu),.int .i64 4,.int .i64 (i:Nat)]++aA 34 .any,[],x.1⟩) (λi x=>(sy x.1 b x.2 (nK i)/\D.sub x.1/\AW D x.2/\x.1.bO=D.bO)) λF hF JF br=>⟨?_,?_,?_⟩
 .refine en br ((D.set b (jV .aW .zero),.aW)) (⟨V9,NU hb,by simp[AW],rfl⟩) ?_ ?_ ?_
  all_goals simp[hF,aA,am,bZ,uu,cO]
 .rintro i ⟨fQ,k⟩ hi ⟨h1,h2,h3,h4⟩;simp only at h1 h2 h3 h4;have c_ : i<uu.length:=hi;have hf:=adf ⟨i,hi⟩;rw[qM c_] at hf;have cd:=CT uu[i] h1 FY (show TZ fQ from by rw[TZ,h4];exact hg) (by rw[h4];exact kJ) (QR _ (fu c_));generalize gq (nK i) uu[i]=X at cd hf;obtain⟨c,y,f⟩:=X;simp only at hf;subst hf;simp only[sZ] at cd;simp only[hF,aA,am];simp only[am,aP (show((i:Nat):Int)<4 by omega)];refine ix (DZ c_) ?_;simp only[am];refine cd.mono ?_;rintro v wV ⟨rfl,k',h5,h6⟩;simp only[am,Nat.reduceAdd,aL.an,df,lk];simp only[am,bS,a_,JR,cT hi];obtain⟨h7,h8⟩:=Kp.sub h2 hb h3 h6;refine fN ((wV,k')) hi ?_ ?_ ?_ ?_ ?_ ?_
  .exact eN (br _ _) (⟨by rw[ade c_];exact h5,h7,h8,h6.c.trans h4⟩)
  all_goals simp[hF,aA,am,bZ,bQ,dC,V.lo,aq.enc,aq.cM]
 .rintro⟨fQ,k⟩ ⟨h1,h2,h3,h4⟩;simp only[hF,aA,am];simp only[am,a_,aK (show ¬(((4:Nat):Int)<4) by decide)];have cd:=CT HO h1 FY (show TZ fQ from by rw[TZ,h4];exact hg) (by rw[h4];exact kJ) (by decide);have hf:=adg;have hd:qI (nK 4) HO=nK 4:=by rw[qI,p_,aD (by rw[hf];decide)]
  rw[hd] at cd;generalize gq (nK 4) HO=X at cd hf;obtain⟨c,y,f⟩:=X;simp only at hf;subst hf;simp only[sZ] at cd;refine cd.mono ?_;rintro v wV ⟨rfl,k',h5,h6⟩;simp only[am,Nat.reduceAdd,aL.an,df,lk];have ct:=DP h5.b FY;have cr:=H3 h5.b (by have:=FY (i:=4) |>.n;omega);rw[adi] at ct;refine cl ct ?_;simp only[am,bS,aL.an];simp only[am,bS,JR];have er:rj (nK 4)=⟨14,0,1⟩:=by
   obtain⟨r1,r2,r3⟩:=adh;rw[rj,r1,r2,r3];rfl
  rw[er] at cr;refine cl cr ?_;simp only[am,bS,Rm.enc];exact aN rfl (Kp.sub h2 hb h3 h6).1 ⟨rfl,rfl⟩
end Go.Proofs.Tryz
namespace Go.Am
open Go.ChangeShapes Go.WideShapes Go.ChangeAt Go.RowKit
structure vq{H:Type}(B:DataW H->Nat)(BA:List (DataW H)->Nat):Prop where
 aF:∀b,B (.lit (.string b))=b.length+1
 int:∀k n,B (.lit (.int k n))=1
 bool:∀b,B (.lit (.bool b))=1
 nil:B .nil=1
 slice:∀e s,B (.slice e s)=BA e+BA s+1
 agg:∀p,B (.agg p)=BA p+1
 no:BA []=0
 cons:∀d r,BA (d::r)=B d+BA r
def sI(W:World):Env:=⟨W,λ_=>.const,λ_=>ae,λ_=>ae⟩
section
variable {H:Type} {enc:TypeId × Value->H} {P:Program} {W:World} {sp:Nat->Bool} {B:DataW H->Nat} {BA:List (DataW H)->Nat}
variable{cs:List Value}
def aoU{t:TypeId}{k:IntKind}{n:Nat}{x:DataW H × List MemPlace}(ht:P.underlying t=U (.int k))(hB:vq B BA)(h:DataW.trod enc P W 0 sp aa n t cs=U x):
 ∃i:Int,RL (sI W) [.int k i] cs/\(∀v∈cs,v.oneCell' = aa)/\B x.1=1/\(Lit.int k i).wf=true:=by
 obtain⟨i,rfl,rfl,hw⟩:=DataW.trod_int ht h;exact⟨i,by simp[RL,R],by simp[Value.oneCell'],hB.int _ _,hw⟩
def aoW{t:TypeId}{n:Nat}{x:DataW H × List MemPlace}(ht:P.underlying t=U .string)(hB:vq B BA)(h:DataW.trod enc P W 0 sp aa n t cs=U x):
 ∃s:List UInt8,RL (sI W) [.aF s] cs/\(∀v∈cs,v.oneCell' = aa)/\s.length+1=B x.1:=by
 obtain⟨s,rfl,rfl,_⟩:=DataW.trod_string ht h;exact⟨s.data.toList,by simp[RL,R],by simp[Value.oneCell'],(hB.aF _).symm⟩
def Vo{O:Type}(ea:O->List V)(sz:O->Nat){e:TypeId}{k n:Nat}(hB:vq B BA)(hk:P.cellsOf e=k)(hlen:∀y,(ea y).length=k)
 (lv:∀cs x,DataW.trod enc P W 0 sp aa n e cs=U x->∃y:O,RL (sI W) (ea y) cs/\(∀v∈cs,v.oneCell' = aa)/\sz y<=B x.1) {b o:Nat} :
 ∀(uq:List (DataW H × List MemPlace)) (i:Nat),(∀j,j<uq.length->(W.cells? 0 (Addr.add ⟨b,o,ae⟩ ((i+j)*k)) k).bind (DataW.trod enc P W 0 sp aa n e)=uq[j]?) ->
  ∃l:List O,l.length=uq.length/\fK (sI W).nl k (l.map ea) b (o+i*k)/\(l.map sz).sum<=BA (uq.map (·.1))
 | [],i,_=>⟨[],rfl,by simp[fK],by simp⟩
 | x :: uq, i, h => by
  obtain⟨l,h1,h2,h3⟩:=Vo ea sz hB hk hlen lv uq (i+1) λj hj=>by
   have:=h (j+1) (by simp;omega)
   rw[show i+(j+1)=i+1+j by omega] at this;simpa using this
  have h0:=h 0 (by simp);simp only[vz,II] at h0;obtain⟨cs,hc,hr⟩:=gV.1 h0;obtain⟨y,k1,k2,k3⟩:=lv cs x hr;obtain⟨_,hl,uE⟩:=World.cells?_some hc;refine⟨y::l,by simp[h1],?_,?_⟩
  .simp only[bX,fK];refine⟨hlen y,AZ k1 k2 (λj v hv=>?_) (λ_ _=>trivial),by rw[show o+i*k+k=o+(i+1)*k by rw[iQ];omega];exact h2⟩;have hj:j<k:=by have:=(eX.1 hv).1;omega
   have:=uE j hj
   rw[lh,lh] at this;show W.cell? _=_;rw[this,hv]
  .simp only[bX,mO,hB.cons];omega
variable{e:TypeId}{fuel:Nat}{O:Type}
def aoV(ea:O->List V)(sz:O->Nat){t:TypeId}{k:Nat}(hB:vq B BA)(ht:P.underlying t=U (.slice e))(hk:P.cellsOf e=k)(iJ:0<k)(hlen:∀y,(ea y).length=k)
 (lv:∀n,n<fuel->∀cs x,DataW.trod enc P W 0 sp aa n e cs=U x->∃y:O,RL (sI W) (ea y) cs/\(∀v∈cs,v.oneCell' = aa)/\sz y<=B x.1)
 {cs:List Value} {x:DataW H × List MemPlace} (h:DataW.trod enc P W 0 sp aa fuel t cs=U x) :
 ∃l:List O,RL (sI W) [.sl .no k (l.map ea)] cs/\(∀v∈cs,v.oneCell' = aa)/\(l.map sz).sum+1<=B x.1:=by
 rcases DataW.trod_slice ht h with ⟨rfl,rfl⟩ | ⟨a,len,cap,elems,rest,n,rfl,rfl,rfl,_,hle,_,hl,Si,_,_⟩
 .refine⟨[],?_,by simp[Value.oneCell'],by simp[hB.nil]⟩;simp only[RL,R,eC,gw];exact⟨ae,0,rfl,by simp,by simp,trivial⟩
 .have ha:elems=[]\/∃b o,a=⟨b,o,ae⟩:=by
   cases elems with
   | nil=>exact .inl rfl
   | cons y ys =>
    right;have h0:=Si 0 (by rw[<-hl];simp);simp only[II] at h0;obtain⟨cs',hc,_⟩:=gV.1 h0;obtain⟨_,gz,uE⟩:=World.cells?_some hc;have h1:=uE 0 (by rw[hk];exact iJ);have h2:cs'[0]?=U (cs'[0]'(by rw[gz,hk];exact iJ)):=cH _;rw[h2] at h1;obtain⟨b,o,s⟩:=a;refine⟨b,o,?_⟩;simp only[World.cell?] at h1;cases s with
    | none=>rfl
    | some s =>
     split at h1
     .simp[Addr.add] at h1
     .simp at h1
  rcases ha with rfl | ⟨b,o,rfl⟩
  .refine⟨[],?_,by simp[Value.oneCell'],by simp[hB.slice]⟩;simp only[ei] at hl;subst hl;simp only[RL,R,eC,gw];exact⟨U a,cap,rfl,by simp,by simp,trivial⟩
  .obtain⟨l,h1,h2,h3⟩:=Vo (B:=B) (BA:=BA) (sp:=sp) (enc:=enc) (P:=P) (W:=W) (n:=n) ea sz hB hk hlen (lv n (IT n)) elems 0 (λj hj=>by
    have:=Si j (by omega)
    rw[hk] at this;rw[jc];exact this)
   refine⟨l,?_,by simp[Value.oneCell'],?_⟩
   .simp only[RL,R,aO,gw];exact⟨U ⟨b,o,ae⟩,cap,by rw[h1,hl],by omega,.inr ⟨b,o,rfl,by simpa using h2⟩,trivial⟩
   .rw[hB.slice];omega
end
variable{H:Type}{P:Program}{W:World}{args:Array Value}{before:List MemPlace}{f:Func}{tb:TypeId}
def an7{enc:TypeId × Value->H}{s:ChangeSpec}{ds:List (DataW H)}
 (hl:laidOutB P=aa) (hm:mapsRowed P=aa) (hz:((cc P.types.size).all λt=>match P.underlying t with | some (.slice e)=>decide (0<P.cellsOf e) | _=>aa)=aa)
 (iA:f.resultTypes=#[tb]) (BF:P.underlying tb=U .bool) (Dz:∀t∈f.params.toList,t<P.types.size) (BI:s.vars=[]) (sP:(s.fn H ds).results=[.lit (.bool aa)]/\(s.fn H ds).args=ds/\(s.fn H ds).vars=[])
 (hW:DataW.Whole enc P f.params.toList s.vars ak W args.toList ds [] before) {W' : World} (hos:W'.os=W.os) (aiH:W'.output=W.output) (aie:∀a,W'.frozen? a=W.frozen? a) (lD:∀b,b<W.heap.size->W'.heap[b]?=W.heap[b]?) :
 s.post enc P f ak aa ak ak W args (.bool aa) W' := by
 have Dc := hW;obtain⟨p,q,hA,hV,rfl,KJ,Dv⟩:=hW;rw[BI] at hV;obtain⟨_,rfl⟩:=trodVars_none hV;have air:W.keptBut W' (λ_=>False):=by
  refine⟨hos,aiH,λi hi=>?_⟩;rw[lD i hi];cases W.heap[i]? with
  | none=>rfl
  | some ob=>cases ob<;>simp
 simp only[eg] at Dc;have jP:s.fn H (ds++[])=s.fn H ds:=by rw[eg]
 refine post_of_same (pa:=p) (pv:=[]) Dc (λb HZ hd=>?_) (λHZ hs=>?_) (λHZ hs=>?_) (by simp) (World.keptBut_mono (λ_ h=>h.elim) air) ?_ (ok_one iA rfl (okWide_bool_mk BF _))
 .rw[jP,sP.1,iA];exact trodAll_cons_mk (shut_bool BF _) trodAll_mk0
 .rw[jP,sP.2.1];have az:=DataW.TrodAll.lt hA;have key:∀(ts:List TypeId) (vs:List Value) (ds:List (DataW H)) (ps:List MemPlace),(∀t∈ts,t<P.types.size)->DataW.TrodAll enc P W 0 (λ_=>aa) aa ts vs ds ps->(∀x∈ps,x.block<W.heap.size)->(∀x∈ps,HZ x.block=aa)->DataW.TrodAll enc P W' 0 HZ aa ts vs ds ps:=by
   intro ts;induction ts with
   | nil=>intro vs ds ps _ h _ _;cases vs<;>cases ds<;>first | exact h | exact h.elim
   | cons t ts ih =>
    intro vs ds ps hT h az hs;cases vs with
    | nil=>exact h.elim
    | cons v vs =>
     cases ds with
     | nil=>exact h.elim
     | cons d ds =>
      obtain⟨p,q,⟨n,h1⟩,h2,rfl⟩:=h;refine⟨p,q,⟨n,?_⟩,ih vs ds q (λt ht=>hT t (by simp[ht])) h2 (λx hx=>az x (by simp[hx])) (λx hx=>hs x (by simp[hx])),rfl⟩;refine DataW.trod_stays (kids_rows hl hm) (λ{t e} ht he=>slices_full_of P hz t e ht he) (by simp) (hT t (by simp)) h1 (λx hx=>?_) (λx hx=>hs x (by simp[hx]));have hb:=az x (by simp[hx]);cases x with
      | cell b off=>exact A8 (lD b hb)
      | map b=>exact lD b hb
  exact key _ _ _ _ Dz hA (λx hx=>az x hx) (λx hx=>hs x (by simpa using hx))
 .rw[jP,sP.2.2,BI];rfl
 .exact aie
def an6{enc:TypeId × Value->H}{s:ChangeSpec}{ds:List (DataW H)}
 (hl:laidOutB P=aa) (hm:mapsRowed P=aa) (hz:((cc P.types.size).all λt=>match P.underlying t with | some (.slice e)=>decide (0<P.cellsOf e) | _=>aa)=aa)
 (iA:f.resultTypes=#[tb]) (BF:P.underlying tb=U .bool) (Dz:∀t∈f.params.toList,t<P.types.size) (BI:s.vars=[]) (sP:(s.fn H ds).results=[.lit (.bool aa)]/\(s.fn H ds).args=ds/\(s.fn H ds).vars=[])
 (hW:DataW.Whole enc P f.params.toList s.vars ak W args.toList ds [] before) {E' : Env} (ba:Fr (sI W) E') :
 s.post enc P f ak aa ak ak W args (.bool aa) E'.w :=
 an7 hl hm hz iA BF Dz BI sP hW ba.os ba.output ba.gl λb hb=>(ba.same b hb (.inl rfl)).1
section
variable {P:Program} {W:World} {r:Reach} {b:Nat} {t:TypeId} {v:Value} {E:Env}
variable{e:TypeId}
def arp{x:V}(ht:P.underlying t=U (.slice e))(hv:Value.okWide P W r b t v)(h:RL E [x] v.cells.toList):R E x v:=by
 obtain⟨a,len,cap,rfl⟩:=okWide_slice ht hv;simpa [Value.cells,RL] using h
def aro{k:IntKind}{x:V}(ht:P.underlying t=U (.int k))(hv:Value.okWide P W r b t v)(h:RL E [x] v.cells.toList):R E x v:=by
 obtain⟨a,rfl⟩:=okWide_int ht hv;simpa [Value.cells,RL] using h
def arq{x:V}(ht:P.underlying t=U .string)(hv:Value.okWide P W r b t v)(h:RL E [x] v.cells.toList):R E x v:=by
 obtain⟨a,rfl⟩:=okWide_string ht hv;simpa [Value.cells,RL] using h
end
def qu(s:List UInt8):Value:=.string ⟨s.toArray⟩
section
variable {H:Type} {enc:TypeId × Value->H} {P:Program} {W:World}
def UD(ps:List (List UInt8 × List UInt8)):DataW H:=.agg (ps.map λp=>.agg [.lit (.string p.1),.lit (.string p.2)])
variable{O:Type}
def TJ{l:List O}(h:l.length=2):∃a b,l=[a,b]:=by
 match l,h with
 | [a,b],_=>exact⟨a,b,rfl⟩
def WZ{s:ByteArray}{l:List UInt8}(h:s.data.toList=l):Value.string s=qu l:=by subst h;simp[qu]
def chunks{O:Type}{k:Nat}(f:Nat->List O):∀(n:Nat) (cs:List O),cs.length=n*k->(∀i,i<n->(cs.drop (i*k)).take k=f i)->cs=((cc n).map f).flatten
 | 0,cs,hl,_=>by simp at hl;simp[hl]
 | n + 1, cs, hl, h => by
  rw[E7] at hl;have h1:=chunks (k:=k) f n (cs.take (n*k)) (by rw[iP];omega) λi hi=>by
   have:i*k+k<=n*k:=by rw[<-E7];exact rB _ hi
   rw[IE,List.take_take,w8 (by omega)];exact h i (by omega)
  have h2:=h n (by omega);rw[yS (by rw[IM];omega)] at h2;rw[tV,fX,tS,<-h1];simp only[bX,eC,kz,OT,eg];rw[<-h2,qy]
variable{cs:List Value}{e:TypeId}{fuel:Nat}{sp:Nat->Bool}
def aao{base:Nat}{held:Bool}{tf:TypeId}{fs:Array Field}{x:DataW H × List MemPlace}{a b:List UInt8}
 (he:P.underlying e=U (.struct fs)) (hs:fs.size=2) (xG:(fs[0]?).map (λf=>(f.type,f.offset))=U (tf,0)) (Bs:(fs[1]?).map (λf=>(f.type,f.offset))=U (tf,1))
 (GR:P.underlying tf=U .string) (Gq:P.cellsOf tf=1) (vZ:P.cellsOf e=2)
 (h:DataW.trod enc P W base sp held fuel e cs=U x) (hx:x.1 = .agg [.lit (.string a),.lit (.string b)]):cs=[qu a,qu b]:=by
 obtain⟨xs,m,rfl,rfl,hl,wh,hf⟩:=DataW.trod_struct he h;rw[vZ] at hl;rw[hs] at wh;obtain⟨u,v,rfl⟩:=TJ hl;obtain⟨x0,x1,rfl⟩:=TJ wh;obtain⟨f0,g0,g1⟩:=cZ.1 xG;obtain⟨f1,g2,g3⟩:=cZ.1 Bs;simp only[nC] at g1 g3;have h0:=hf 0 f0 g0;have h1:=hf 1 f1 g2;rw[g1.1,g1.2,Gq] at h0;rw[g3.1,g3.2,Gq] at h1;obtain⟨s0,p0,q0,_⟩:=DataW.trod_string GR h0;obtain⟨s1,p1,q1,_⟩:=DataW.trod_string GR h1;simp only[IF,Cq,vw,List.take_zero,gu,gw] at p0 p1;subst p0 p1 q0 q1;simp only[bX,eC,DataW.agg.injEq,gu,DataW.lit.injEq,Lit.string.injEq,gw] at hx;rw[WZ hx.1,WZ hx.2]
def aap{base:Nat}{held:Bool}{t tf:TypeId}{n:Nat}{fs:Array Field}{ps:List (List UInt8 × List UInt8)}{p:List MemPlace}
 (ht:P.underlying t=U (.array n e)) (he:P.underlying e=U (.struct fs)) (hs:fs.size=2) (xG:(fs[0]?).map (λf=>(f.type,f.offset))=U (tf,0)) (Bs:(fs[1]?).map (λf=>(f.type,f.offset))=U (tf,1))
 (GR:P.underlying tf=U .string) (ah9:P.cellsOf tf=1) (vZ:P.cellsOf e=2) (Gq:P.cellsOf t=n*2)
 (h:DataW.trod enc P W base sp held fuel t cs=U (UD ps,p)):cs=(ps.flatMap λp=>[p.1,p.2]).map qu:=by
 obtain⟨xs,m,rfl,hx,hl,wh,hi⟩:=DataW.trod_array ht h;rw[Gq] at hl;have pD:xs.map (·.1)=ps.map λp=>(.agg [.lit (.string p.1),.lit (.string p.2)]:DataW H):=by
  have:=gX Prod.fst hx
  simpa [UD] using this.symm
 have nX:ps.length=n:=by
  have:=gX List.length pD
  simp at this;omega
 have hc:=chunks (λi=>match ps[i]? with | some p=>[qu p.1,qu p.2] | none=>[]) n cs hl (λi ey=>by
  have h1:=hi i ey;rw[vZ] at h1;have SV:xs[i]?=U xs[i]:=by simp[wh,ey]
  have BD:ps[i]?=U ps[i]:=by simp[nX,ey]
  rw[SV] at h1;have h2:=gX (·[i]?) pD;simp only[vu,SV,BD,vC,aY] at h2;rw[BD];exact aao he hs xG Bs GR ah9 vZ h1 h2)
 rw[hc,<-nX];clear hc hi wh hl hx pD h nX;have key:∀qs:List (List UInt8 × List UInt8),((cc qs.length).map λi=>match qs[i]? with | some p=>[qu p.1,qu p.2] | none=>[])=qs.map λp=>[qu p.1,qu p.2]:=λqs=>by
  apply OP;intro i
  by_cases hi:i<qs.length
  .simp[hi]
  .simp[hi]
 rw[key,List.map_flatMap,List.flatMap_def];rfl
end
def zW:V->Value
 | .aF s=>qu s
 | .int k n=>.int k n
 | _=>.bool ak
def isLit:V->Bool
 | .aF _=>aa
 | .int _ _=>aa
 | _=>ak
def akD{E:Env}{x:V}(h:isLit x=aa)(v:Value):R E x v↔v=zW x:=by
 cases x<;>simp[isLit] at h<;>simp[R,zW,qu]
def D4(B:Nat->Option (List V)):ag:=⟨λ_=>ae,λ_=>ae,B⟩
def IP(W:World)(B:Nat->Option (List V)):Prop:=∀b cs,B b=U cs->(∃e,W.heap[b]?=U (.cells (cs.map zW).toArray e (0,0)))/\∀x∈cs,isLit x=aa
def TN{E:Env}:∀{cs:List V},(∀x∈cs,isLit x=aa)->RL E cs (cs.map zW)
 | [],_=>by simp[RL]
 | x :: cs, h => by
  simp only[bX,RL];exact⟨(akD (h x (by simp)) _).2 rfl,TN λy hy=>h y (by simp[hy])⟩
variable{B:Nat->Option (List V)}
def alg(h:IP W B):(sI W).ok (D4 B):=by
 refine⟨λ_ _ h=>by simp[D4] at h,λ_ _ h=>by simp[D4] at h,λ_ _=>rfl,⟨0,λ_ _=>rfl⟩,λb cs hb=>?_⟩;obtain⟨⟨e,he⟩,hl⟩:=h b cs hb;refine AZ (vs:=cs.map zW) (TN hl) (λv hv=>?_) (λj v hj=>?_) λ_ _=>trivial
 .obtain⟨x,hx,rfl⟩:=vv.1 hv
  have:=hl x hx
  cases x<;>simp[isLit] at this<;>rfl
 .show W.cell? _=_;simp only[World.cell?,he,jc];simpa using hj
def ajW{enc:TypeId × Value->H}{n:FuncId}{s:ChangeSpec}{vs:List V}{ds:List (DataW H)}
 (hP:cm P n vs (D4 B) λv σ' => v = .bool aa/\σ' = D4 B) (hg:IP W B) (hR:RL (sI W) vs args.toList)
 (hl:laidOutB P=aa) (hm:mapsRowed P=aa) (hz:((cc P.types.size).all λt=>match P.underlying t with | some (.slice e)=>decide (0<P.cellsOf e) | _=>aa)=aa)
 (iA:f.resultTypes=#[tb]) (BF:P.underlying tb=U .bool) (Dz:∀t∈f.params.toList,t<P.types.size) (BI:s.vars=[]) (sP:(s.fn H ds).results=[.lit (.bool aa)]/\(s.fn H ds).args=ds/\(s.fn H ds).vars=[])
 (hW:DataW.Whole enc P f.params.toList s.vars ak W args.toList ds [] before) :
 Calls P n args W λe W' => ∃v,e = .returned v/\s.post enc P f ak aa ak ak W args v W' := by
 refine(hP.2 (sI W) args (λ_=>rfl) (alg hg) hR).mono ?_;rintro e w' ⟨v,x,E',σ',rfl,rfl,_,_,RZ,ba,rfl,_⟩;simp only[R] at RZ;subst RZ;exact⟨_,rfl,an6 hl hm hz iA BF Dz BI sP hW ba⟩
section
variable {H:Type} {enc:TypeId × Value->H} {P:Program} {W:World}
def Tj{name:String}{d:DataW Unit}{rest:List (String × DataW Unit)}{g:Nat}{t:TypeId}(h:laidMet P ((name,d)::rest) W)(hg:P.globalNamed name=U g)(ht:(P.globals[g]?).map (·.type)=U t){vs:List Value}
 (hc:∀(cs:List Value) (fuel:Nat) (p:List MemPlace),DataW.trod (λ_=>()) P W 0 (λ_=>aa) ak fuel t cs=U (d,p)->cs=vs) (hv:vs≠[]):∃e,W.heap[g]?=U (.cells vs.toArray e (0,0)):=by
 obtain⟨ps,⟨g',t',cs,fuel,p,q,qd,pB,gp,hd,_,DA⟩,_,hb⟩:=h;obtain rfl:g' = g:=tY (qd.symm.trans hg);obtain rfl:t' = t:=tY (pB.symm.trans ht);have bP:=hc _ _ _ hd;have xE : cs=vs.toArray:=by rw[<-bP]
 obtain⟨⟨c,e,vZ⟩,_⟩:=hb g' 0 (by
  rw[DA];refine List.mem_append_left _ (List.mem_append_left _ ?_);rw[xE];cases vs with
  | nil=>exact absurd rfl hv
  | cons a l=>simp[MemPlace.row])
 refine⟨e,?_⟩;rw[vZ];simp only[World.var?,hg,vB,vZ,aY] at gp;rw[gp,xE]
end
section
variable {H:Type} (enc:TypeId × Value->H) (P:Program) (W:World) (B:DataW H->Nat)
def qB(N:Nat)(t:TypeId)(F:List V->Nat->Prop):Prop :=
 ∀n,n<N->∀cs x,DataW.trod enc P W 0 (λ_=>aa) aa n t cs=U x->∃l,RL (sI W) l cs/\(∀v∈cs,v.oneCell' = aa)/\F l (B x.1)
end
section
variable {H:Type} {enc:TypeId × Value->H} {P:Program} {W:World} {B:DataW H->Nat} {BA:List (DataW H)->Nat} {N:Nat} {t:TypeId}
variable{F:List V->Nat->Prop}
def qB.mono{M:Nat}(h:qB enc P W B N t F)(hM:M<=N):qB enc P W B M t F:=λn hn=>h n (tW hn hM)
def qB.to{G'':List V->Nat->Prop}(h:qB enc P W B N t F)(hg:∀l b,F l b->G'' l b):qB enc P W B N t G'':=λn hn cs x hx =>
 let ⟨l,h1,h2,h3⟩:=h n hn cs x hx
 ⟨l,h1,h2,hg _ _ h3⟩
def aq7{k:IntKind}(ht:P.underlying t=U (.int k))(hB:vq B BA):qB enc P W B N t λl b=>∃i:Int,l=[.int k i]/\b=1/\(Lit.int k i).wf=true:=λn _ cs x h =>
 let ⟨i,h1,h2,h3,h4⟩:=aoU ht hB h
 ⟨_,h1,h2,i,rfl,h3,h4⟩
def aq_(ht:P.underlying t=U .string)(hB:vq B BA):qB enc P W B N t λl b=>∃s:List UInt8,l=[.aF s]/\b=s.length+1:=λn _ cs x h =>
 let ⟨s,h1,h2,h3⟩:=aoW ht hB h
 ⟨_,h1,h2,s,rfl,h3.symm⟩
variable{e:TypeId}{O:Type}
def aq8(ea:O->List V)(sz:O->Nat){k:Nat}(hB:vq B BA)(ht:P.underlying t=U (.slice e))(hk:P.cellsOf e=k)(iJ:0<k)(hlen:∀y,(ea y).length=k)
 (lv:qB enc P W B N e λl b=>∃y,l=ea y/\sz y<=b):qB enc P W B (N+1) t λl b=>∃ys:List O,l=[.sl .no k (ys.map ea)]/\(ys.map sz).sum+1<=b:=by
 intro n hn cs x h;obtain⟨ys,h1,h2,h3⟩:=aoV ea sz hB ht hk iJ hlen (λm hm cs x h=>by
  obtain⟨l,k1,k2,y,rfl,k3⟩:=lv m (by omega) cs x h;exact⟨y,k1,k2,k3⟩) h
 exact⟨_,h1,h2,ys,rfl,h3⟩
def aq9(ea:O->List V)(sz:O->Nat){k:Nat}(hB:vq B BA)(ht:P.underlying t=U (.slice e))(hk:P.cellsOf e=k)(iJ:0<k)(hlen:∀y,(ea y).length=k)
 (lv:qB enc P W B N e λl b=>∃y,l=ea y/\sz y<=b):qB enc P W B N t λl b=>∃ys:List O,l=[.sl .no k (ys.map ea)]/\(ys.map sz).sum+1<=b :=
 (aq8 ea sz hB ht hk iJ hlen lv).mono (Nat.le_succ N)
end
end Go.Am
namespace Go.Proofs.Tryz
open Go.Am Go.ChangeShapes Go.WideShapes Go.ChangeAt Go.RowKit
open Go.Proofs.YtnpggmhoandloaaGreatDoor
def Jc(H:Type):vq (H:=H) Rows.uptoBulk Rows.uptoBulkAll :=
 ⟨λ_=>by simp only[Rows.uptoBulk],λ_ _=>by simp only[Rows.uptoBulk],λ_=>by simp only[Rows.uptoBulk],by simp only[Rows.uptoBulk],λ_ _=>by simp only[Rows.uptoBulk],λ_=>by simp only[Rows.uptoBulk],by simp only[Rows.uptoBulkAll],λ_ _=>by simp only[Rows.uptoBulkAll]⟩
def laid:laidOutB prog=true:=by kernel_rfl
def apl:mapsRowed prog=true:=by kernel_rfl
def aha:((cc prog.types.size).all λt=>match prog.underlying t with | some (.slice e)=>decide (0<prog.cellsOf e) | _=>aa)=true:=by kernel_rfl
def own:ownKnob prog.godebug=none:=by kernel_rfl
def Rw:Nat->Option (List V):=λb=>if b=0 then U fL else if b=1 then U wO else ae
variable{W:World}
def ahw(h:laidMetH prog Rows.stackDropsRow.laid W):IP W Rw:=by
 have h0:laidMet prog Rows.stackDropsRow.laid W:=h;have h1:=laidMet.tail h0;obtain⟨e0,k0⟩:=Tj (g:=0) (t:=238) (vs:=fL.map zW) h0 (by kernel_rfl) (by kernel_rfl) (λcs fuel p hd=>(aap (ps:=jL) underlying238 underlying180 (by kernel_rfl) (by kernel_rfl) (by kernel_rfl) underlying9 (by kernel_rfl) (by kernel_rfl) (by kernel_rfl) hd).trans rfl) (by simp[fL,jL]);obtain⟨e1,k1⟩:=Tj (g:=1) (t:=320) (vs:=wO.map zW) h1 (by kernel_rfl) (by kernel_rfl) (λcs fuel p hd=>(Lib.cells_of_tab (zs:=Ig) underlying320 underlying5 (by kernel_rfl) (by kernel_rfl) hd).trans rfl) (by simp[wO,Ig]);intro b cs hb;simp only[Rw] at hb;split at hb
 .rename_i hq;subst hq;obtain rfl:=tY hb;exact⟨⟨e0,k0⟩,by decide⟩
 split at hb
 .rename_i hq;subst hq;obtain rfl:=tY hb;exact⟨⟨e1,k1⟩,by decide⟩
 simp at hb
def LX:DataW Unit->List Value
 | .lit (.int k n)=>[.int k n]
 | .lit (.string s)=>[qu s]
 | _=>[]
def ajX:DataW Unit->List Value
 | .agg ds=>ds.flatMap LX
 | d=>LX d
def ajY:DataW Unit->List Value
 | .agg ds=>ds.flatMap ajX
 | d=>LX d
def ajZ(h:Array Obj)(x:Nat × DataW Unit):Array Obj:=h.modify x.1 fun
 | .cells _ t frozen=>.cells (ajY x.2).toArray t frozen
 | o=>o
noncomputable def LU (os:Os):World :=
 {World.holding prog os ⟨#[],#[],[]⟩ with heap:=[(0,Rows.laid_clearance_command_forms),(1,Rows.laid_math_bits_deBruijn64tab)].foldl ajZ (World.holding prog os ⟨#[],#[],[]⟩).heap}
set_option maxRecDepth 100000
section
variable {H:Type} {enc:TypeId × Value->H} {W:World} {N:Nat}
abbrev TL(enc:TypeId × Value->H)(W:World)(N:Nat)(t:TypeId)(F:List V->Nat->Prop):Prop:=qB enc prog W (Rows.uptoBulk (H:=H)) N t F
def Vk:TL enc W N 9 λl b=>∃y:List UInt8,l=[.aF y]/\y.length+1<=b:=(aq_ underlying9 (Jc H)).to λ_ _ ⟨y,h,k⟩=>⟨y,h,by omega⟩
def aoK:TL enc W N 22 λl b=>∃ys:List (List UInt8),l=[.sl .no 1 (cO ys)]/\(ys.map λs=>s.length+1).sum+1<=b :=
 aq9 (λs:List UInt8=>[V.aF s]) (λs=>s.length+1) (Jc H) underlying22 (show prog.cellsOf 9=1 by kernel_rfl) (by decide) (λ_=>rfl) (Vk.to λ_ _ ⟨y,h,k⟩=>⟨y,h,k⟩)
def aoQ:TL enc W N 5 λl b=>∃y:Nat,l=[.int .u8 (y:Nat)]/\y<256/\1<=b:=(aq7 underlying5 (Jc H)).to λ_ _ ⟨y,h,k,hw⟩=>by
 simp[Lit.wf,IntKind.min,IntKind.max,IntKind.signed,IntKind.bits] at hw;obtain⟨n,rfl⟩:∃n:Nat,y=n:=⟨y.toNat,by omega⟩;exact⟨n,h,by omega,by omega⟩
end
def aaH:Cn .zero:=⟨by simp[aq.zero],by simp[aq.zero],by simp[aq.zero,Nd.zero,Nd.wt,eB,fk,aM],by simp[aq.zero,Nd.zero,Nd.wt,eB,fk,aM]⟩
variable{s:gF}{t:List UInt8}
def akv(ht:t.length<=3000):Cn (gq s t).1/\w_ (gq s t).2.1:=by
 by_cases h:(gq s t).2.2.cls=0
 .obtain⟨h1,h2,-⟩:=L7 ht h;have jO:aM=268435456:=rfl;have n1:=h1.n;have n2:=h1.p;exact⟨⟨by omega,by omega,h1.wl,h1.wr⟩,h2⟩
 .have z:Cn .zero/\w_ .zero:=⟨aaH,⟨by simp[eG.zero],by simp[eG.zero,ek.zero],by simp[eG.zero,ek.zero]⟩⟩;rw[gq] at h ⊢
  by_cases hr:(cV t).2.1=0
  .by_cases hf:(fS (kS s.live.ni (rj s) (cV t).1)).cls=0
   .rw[DY hr hf] at h;exact absurd rfl h
   .rw[Hl hr hf];exact z
  .rw[Hk hr];exact z
def fn3:aT prog 3 (sq [rg 6 [oz 2],sq [rg 21 [om 0,oC 8 [21],gB,om 1,nT,nB .gtr 1500,gZ],cr 27 28 [oC 9 [],o1 6]],rg 29 [oC 10 [],oC 10 [],ot 7 29,o1 8],rg 31 [om 2,oq (.pn .i64 (.s 31)),om 0,nL,nB .add 1,nb .rem 32,o1 9],sq [rg 10 [oi 0],bl 0 (sq [sq [rg 37 [om 10,om 0,nL,nb .leq 37],cx 40 0],.block 1 (sq [sq [rg 43 [om 10,om 9,nb .eql 43],ci 45 (sq [rg 46 [om 7,oC 11 [46],o1 11],sq [rg 49 [om 7,om 1,oC 12 [49,50],o1 48,oe 48 0,oe 48 1,oe 48 2,oZ 12 [0,0,1,0,7,9,0,0,0,1,7,10,0,0,1,7,10],oR 13 jt,oZ 14 [0,0],os 17 12 52,os 18 13 53,o2 2 14],rg 55 [ol 2 14,oW [0,0] [],oq (.jf ak [1,1] (.s 55) (.s 56))],cr 57 58 [oC 9 [],o1 6]],rg 59 [om 7,oC 11 [59],om 11,nE .neq 60],cr 62 6 [oz 2]])],sq [rg 63 [om 10,om 0,nL,nb .eql 63],ci 66 (.exit 0)],rg 68 [om 7,om 0,om 10,nA 1 69,no,oC 12 [68,72],o1 67,oe 67 0,oe 67 1,oe 67 2,oZ 15 [0,0,1,0,7,9,0,0,0,1,7,10,0,0,1,7,10],oR 16 jt,oZ 17 [0,0],os 17 15 74,os 18 16 75,o2 2 17],rg 78 [om 8,om 0,om 10,nA 1 79,no,oC 12 [78,82],o1 77,oe 77 0,oe 77 1,oe 77 2,oZ 18 [0,0,1,0,7,9,0,0,0,1,7,10,0,0,1,7,10],oR 19 jt,oZ 20 [0,0],os 17 18 84,os 18 19 85,o2 2 20],rg 87 [ol 17 15,ol 17 18,oC 13 [87,88],nn,gB,ol 18 16,ol 18 19,oC 14 [92,93],nn,gZ,gB,ol 2 17,ol 2 20,oq (.jf aa [1,1] (.s 98) (.s 99)),gZ,gB,om 7,oC 11 [103],om 8,oC 11 [105],nE .neq 104,gZ,gB,om 7,oC 15 [110],om 8,oC 15 [112],oq (.jf aa [1,1,1] (.s 111) (.s 113)),gZ],cr 115 6 [oz 2]]),rg 41 [ic 10]])],rg 116 [oC 9 [],o1 6],.ret]) [.tmp 6] 117:=aX func3
structure IY(D:ag)(b1 b2:Nat)(x:ag × Tk × Tk)(S:gF):Prop where
 s:sy x.1 b1 x.2.1 S
 t:sy x.1 b2 x.2.2 S
 a:AJ x.2.1 x.2.2
 o:S.ok
 u:D.sub x.1
 k:AW D x.2.1
 l:AW D x.2.2
 c:x.1.bO=D.bO
variable{D:ag}
def ab5(l:List (List UInt8))(t:List UInt8)(n:Nat)(hn:n<256)(hg:TZ D)(kJ:D.bO 0=U fL):bc 3 [.sl .no 1 (cO l),.aF t,.int .u8 (n:Nat)] D (.bool aa):=by
 have Pn:=Fm hg kJ;refine fn3.aV ?_;simp only[aU,am,a8,Nat.reduceAdd];refine cl (Zr l D) ?_;cases hb:yZ l with
 | true =>
  simp only[am];refine cl (Pn) ?_;simp only[am];exact rt
 | false =>
  obtain⟨hl,hls⟩:=Zs hb
  by_cases o1:1500<t.length
  .simp only[am,aP (show(1500:Int)<t.length by omega)];refine cl (Pn) ?_;simp only[am];exact rt
  simp only[am,aK (show ¬(1500:Int)<t.length by omega)];refine(LO D).mono ?_;rintro v cY ⟨b1,rfl,fg,rfl⟩;simp only[am];refine(LO _).mono ?_;rintro v cR ⟨b2,rfl,dw,rfl⟩;have aQ:b2≠b1:=λe=>by rw[e,gP] at dw;simp at dw
  have R7 : D.box b2=none:=by rw[mE aQ] at dw;exact dw
  have u0:D.sub ((D.set b1 (jV .aW .zero)).set b2 (jV .aW .zero)):=⟨λc ds hc=>(NU (by rw[mE aQ];exact R7)).1 c ds ((NU fg).1 c ds hc),λ_ _ h=>h,λ_ _ h=>h⟩;have arj:IY D b1 b2 ((D.set b1 (jV .aW .zero)).set b2 (jV .aW .zero),.aW,.aW) .zero:=⟨⟨by rw[mE aQ.symm,gP],trivial⟩,V9,λ_ e=>by simp at e,WJ,u0,λ_ e=>by simp at e,λ_ e=>by simp at e,rfl⟩;obtain⟨iv,xL⟩:∃iv:Int,hC .i64 (IntKind.i64.wrap (n:Nat)) (IntKind.i64.wrap ((l.length:Nat)+1)) .rem=U (.int .i64 iv):=by
   rw[wrap_i64 (x:=((l.length:Nat):Int)+1),ai7,aB (by omega)];exact⟨_,rfl⟩
  simp only[am,gO,xL];refine eb ((l.length+1)) (λi (x:ag × Tk × Tk)=>⟨[.sl .no 1 (cO l),.aF t,.any,.any,.any,.any,.any,.ptr (.out b1) 0,.ptr (.out b2) 0,.int .i64 iv,.int .i64 (i:Nat)]++aA 106 .any,[],x.1⟩) (λi x=>(∃S,IY D b1 b2 x S)) λF hF JF br=>⟨?_,?_,?_⟩
  .exact en br (((D.set b1 (jV .aW .zero)).set b2 (jV .aW .zero),.aW,.aW)) (⟨.zero,arj⟩)
  .rintro i ⟨cY,k1,k2⟩ hi ⟨S,h⟩;have hil:i<=l.length:=by omega
   have gT:∀{σ' : ag},σ'.bO=D.bO->TZ σ' /\ σ'.bO 0=U fL:=λ{σ'} e=>⟨by rw[TZ,e];exact hg,by rw[e];exact kJ⟩
   simp only[hF,aA,am,gO];simp only[am,aP (show(i:Int)<=l.length by omega)];have hS:=h.o;have hSn:=hS.n
   by_cases hk:(i:Int)=iv
   case' pos =>
    simp only[am,aP hk];refine cl (DP h.s.b hS) ?_;simp only[am];have c1:=CT t h.s hS (gT h.c).1 (gT h.c).2 (by omega);have xG:(gq S t).2.2.cls=0->(gq S t).2.2 = .zero:=λe=>(L8 e).2.2.1
    have hd:(gq S t).2.2.cls≠0->qI S t=S:=λe=>by rw[qI,p_,aD e]
    generalize gq S t=X at c1 xG hd;obtain⟨c,y,f⟩:=X;simp only[sZ] at c1 xG hd;refine c1.mono ?_;rintro v cR ⟨rfl,k3,s3,p1⟩;obtain⟨s4,a1⟩:=h.t.other p1 aQ h.a;obtain⟨u1,n1⟩:=Kp.sub h.u fg h.k p1;have e1:cR.bO=D.bO:=p1.c.trans h.c;simp only[am,Nat.reduceAdd,aL.an,df,lk,JR]
    by_cases hf:f=⟨0,0⟩
    .simp only[am,aP hf];refine cl (Fm (gT e1).1 (gT e1).2) ?_;simp only[am,a_];exact aN rfl u1 ⟨rfl,rfl⟩
    have Sa:f.cls≠0:=λe=>hf (xG e)
    rw[hd Sa] at s3;simp only[am,aK hf];refine cl (DP s3.b hS) ?_;simp only[am,bS,gO];have h2:IY D b1 b2 (cR,k3,k2) S:=⟨s3,s4,a1,hS,u1,n1,h.l,e1⟩;clear xG hd s3 s4 a1 u1 n1 e1 hf Sa p1
   case' neg =>
    simp only[am,gO,aK hk];revert cY k1 k2;intro cR k3 k2 h2
   all_goals
    by_cases hq:i=l.length
    .simp only[am,a_,reduceCtorEq,aP (show(i:Int)=l.length by omega)];refine cl (Fm (gT h2.c).1 (gT h2.c).2) ?_;simp only[am];exact aN rfl h2.u ⟨rfl,rfl⟩
    have az:i<l.length:=by omega
    have pB := hls _ (fu az);simp only[am,aK (show ¬(i:Int)=l.length by omega)];refine ix (DZ az) ?_;simp only[am];have c2:=CT l[i] h2.s hS (gT h2.c).1 (gT h2.c).2 (by omega);obtain⟨w1,w2⟩:=akv (s:=S) (t:=l[i]) (by omega);have GF:=Qv (t:=l[i]) hS (by omega);obtain⟨X,hX⟩:∃X,X=gq S l[i]:=⟨_,rfl⟩;rw[<-hX] at c2 w1 w2;obtain⟨c,y,f⟩:=X;simp only[sZ] at c2 w1 w2;refine c2.mono ?_;rintro v fQ ⟨rfl,k4,s5,p2⟩;obtain⟨s6,a2⟩:=h2.t.other p2 aQ h2.a;obtain⟨u2,n2⟩:=Kp.sub h2.u fg h2.k p2;have e2:fQ.bO=D.bO:=p2.c.trans h2.c;simp only[am,Nat.reduceAdd,aL.an,df,lk];refine ix (DZ az) ?_;simp only[am];have c3:=CT l[i] s6 hS (gT e2).1 (gT e2).2 (by omega);rw[<-hX] at c3;simp only[sZ] at c3;refine c3.mono ?_;rintro v wV ⟨rfl,k5,s7,p3⟩;obtain⟨s8,a3⟩:=s5.other p3 aQ.symm a2.symm;obtain⟨u3,n3⟩:=Kp.sub u2 R7 h2.l p3;have e3:wV.bO=D.bO:=p3.c.trans e2;have sP:=GF.n;simp only[am,Nat.reduceAdd,aL.an,df,lk];refine cl (arM w1 wV) ?_;simp only[am,lk];refine cl (aoT y wV w2.c w2.a w2.b) ?_;simp only[am,bS,aL.an];refine cl (DP s8.b GF) ?_;simp only[am];refine cl (DP s7.b GF) ?_;simp only[am,bS];refine cl (H3 s8.b (by omega)) ?_;simp only[am];refine cl (H3 s7.b (by omega)) ?_;simp only[am,bS,a_,Rm.enc,cT hi];refine fN ((wV,k4,k5)) hi ?_ ?_ ?_ ?_ ?_ ?_
    .exact eN (br _ _) (⟨_,s8,s7,a3.symm,GF,u3,n2,n3,e3⟩)
    all_goals simp[hF,aA,am,bZ,bQ,dC,V.lo,aq.enc,aq.cM]
  .rintro⟨cY,k1,k2⟩ ⟨S,h⟩;have gT:TZ cY/\cY.bO 0=U fL:=⟨by rw[TZ,h.c];exact hg,by rw[h.c];exact kJ⟩;simp only[hF,aA,am,gO];simp only[am,a_,aK (show ¬((l.length+1:Nat):Int)<=l.length by omega)];refine cl (Fm gT.1 gT.2) ?_;simp only[am];exact aN rfl h.u ⟨rfl,rfl⟩
end Go.Proofs.Tryz
