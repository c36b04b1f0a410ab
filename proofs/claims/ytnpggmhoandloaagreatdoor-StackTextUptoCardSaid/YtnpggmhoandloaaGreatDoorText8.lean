/-
  Part 8 of the proof of StackTextUptoCardSaid: a logic over the model, the forms of the functions that the law reaches, and what they compute.
-/
import Derived.Test.YtnpggmhoandloaaGreatDoorProg
import Derived.ProofKit
import Derived.OpenShut
import Derived.JoinedCond
import Derived.ChangeStays
import Derived.ReadAgain
import Derived.Deep.DeepHandedRow
import Derived.Lib.LaidTab
import Derived.Stop.LaidErr
import Derived.Test.YtnpggmhoandloaaGreatDoorCards
import Derived.Test.YtnpggmhoandloaaGreatDoorTie
import Derived.Test.YtnpggmhoandloaaGreatDoorText7
set_option linter.unusedVariables false
set_option linter.unusedSimpArgs false
set_option linter.defProp false
set_option linter.unusedSectionVars false
set_option maxRecDepth 4000
set_option maxHeartbeats 4000000
open Option renaming some->aa,none->aj
open Bool renaming true->ab,false->ar
open List renaming replicate->aq,range->bA,getD->fW,zipWith->mu
open Eq renaming mpr->ey
open Ne renaming symm->fJ
namespace Go.Proofs.Tryz
open Go.Am
def ahn:aS prog 138 (sq [rg 2 [oz 6],rg 3 [oz 6],sq [rg 6 [om 0,nL,oi 0],lp 7 0 (sq [rg 10 [oA 2 6 8,nl 2,oZ 5 [1,0],o2 2 5],rg 12 [om 3,fo 0 5,n1 1,na 1 12,o1 3]]) 17],rg 18 [om 3,o1 2],.ret]) [.tmp 2] 19:=aW func138
def aho:aS prog 139 (sq [rg 0 [ox 1 17 0,oR 2 mY],rg 7 [fo 4 1,oC 138 [8],o1 3],rg 4 [oz 7],sq [rg 10 [fo 5 1,nL,oi 0],lp 12 0 (sq [rg 15 [oA 4 11 13,nl 4,oZ 6 [1,0,1,0],o2 4 6],dg 17 [om 4,om 3,oQ 2 2 6 0,nF 0,oC 173 [18,21],om 3,oQ 2 2 6 1,nf 0,mM [0],no,oC 173 [23,26],oW [0,0] [(0,1,22),(1,1,27)],n1 2,na 2 17,o1 4]]) 31],rg 32 [om 3,nL,om 4,oC 200 [33,34],oC 199 [35],o2 65 2],.ret]) [.cell 2 ab 65] 37:=aW func139
def ah':aS prog 200 (sq [rg 0 [oR 4 mY],rg 8 [om 0,oC 249 [8],oR 5 mY,o2 65 5],sq [rg 10 [om 1,nL,oi 0],lp 11 0 (sq [rg 14 [oA 2 10 12,nl 2,oZ 7 [0,0],o2 2 7],rg 16 [ol 65 5,fo 0 7,oC 250 [16,18],gA,ol 65 5,fo 1 7,oC 250 [21,23],gZ],ci 25 (dg 26 [of 0 7,mM [1],no,fo 0 7,of 1 5,oP 64 1 30 29,no,fo 1 7,oC 247 [32,34],of 1 5,oP 64 1 36 27,os 1 37 35])]) 38],rg 39 [ol 65 5,o2 65 4],.ret]) [.cell 4 ab 65] 40:=aW func200
def aiY:aS prog 250 (sq [rg 4 [ox 2 65 0,oz 2],rg 5 [om 1,nB .geq 0,gA,om 1,ol 65 2,oC 267 [9],nb .lss 8,gZ,o1 4],.ret]) [.tmp 4] 13:=aW func250
def zY(p:Int × Int):List V:=[.int .i64 p.1,.int .i64 p.2]
def X_(r:Rl)(i:Int)(D:ah):a8 250 [.agg r.enc,.int .i64 i] D (.bool (decide (0<=i)&&decide (i<(bd r:Nat)))):=by
 refine aiY.aV ?_;simp only[aU,am,a7,Nat.reduceAdd,Rl.al]
 by_cases h:0<=i
 .simp only[am,Rl.al,aK h];refine cl (B2 r D) ?_;simp only[am];refine aL ?_;simp[V.erase]
 .simp only[am,aJ h];refine aL ?_;simp[V.erase]
variable{j:Nat}
def asn{l:List (Int × Int)}(h:j<l.length):(l.map zY)[((j:Nat):Int).toNat]?=aa (zY l[j]):=by simp[h]
def atA(n:Int)(l:List (Int × Int))(D:ah)(hl:l.length<=100000):a8 200 [.int .i64 n,.sl .no 2 (l.map zY)] D (.agg (ri n l).enc):=by
 refine ah'.aV ?_;simp only[aU,am,a7,Nat.reduceAdd,Rl.al];refine cl (WL n D) ?_;simp only[am,aN,Rl.al,aN];refine cn (l.length) (λi (x:Unit)=>⟨[.any,.any,.any,.any,.ptr (.aE 0) 0,.ptr (.aE 1) 0,.any,.any,.any,.any,.sl .no 2 (l.map zY),.int .i64 (l.length:Nat),.int .i64 (i:Nat)]++aq 27 .any,[Rl.zero.enc,(ri n (l.take i)).enc],D⟩) (λi x=>(True)) λF hF JF aT=>⟨?_,?_,?_⟩
 .refine en aT (()) (trivial) ?_ ?_ ?_
  all_goals simp[hF,aq,am,bt,ri]
 .rintro i x hi -;have hT:=aqS (n:=n) hi;generalize hr:ri n (l.take i)=r at hT;have hp:=@je r;obtain⟨p,Iu⟩:∃p,l[i]=p:=⟨_,rfl⟩;rw[Iu] at hT;simp only[hF,aq,am,cc hi];refine ix (asn hi) ?_;rw[Iu,hr];obtain⟨a,b⟩:=p;simp only[am,Nat.reduceAdd,Rl.al,zY];refine cl (X_ r a D) ?_
  by_cases ha:0<=a/\a<(bd r:Nat)
  .simp only[am,Rl.al,aK ha.1,aK ha.2];refine cl (X_ r b D) ?_
   by_cases hb:0<=b/\b<(bd r:Nat)
   .obtain⟨k,rfl⟩:∃k:Nat,a=k:=⟨a.toNat,by omega⟩;have hk:k<64:=by omega
    have e:ri n (l.take (i+1))=r.put k (ln (r.get k) b):=by rw[hT,zT,aF ⟨ha,hb⟩];rfl
    simp only[am,cX,aK hb.1,aK hb.2];refine jC ?_;simp only[am,gi,se,Rl.ud hk];refine bK.intro (FU (r.get k) b D) ?_;simp only[am,cX];refine jC ?_;simp only[Ch,Rl.Aq hk,Rl.Ar hk,bJ hi];refine fk (()) hi ?_ ?_ ?_ ?_ ?_ ?_
    .exact ey (aT _ _) (trivial)
    all_goals simp[hF,aq,am,bt,bR,du,V.lo,e,Rl.cP]
   .have e:ri n (l.take (i+1))=r:=by rw[hT,zT,aB λh=>hb h.2]
    have cC : (decide (0<=b)&&decide (b<(bd r:Nat)))=false:=by rw[<-yG];exact aJ hb
    simp only[am,aI,cC,bJ hi];refine fk (()) hi ?_ ?_ ?_ ?_ ?_ ?_
    .exact ey (aT _ _) (trivial)
    all_goals simp[hF,aq,am,bt,bR,du,V.lo,e,Rl.cP]
  .have e:ri n (l.take (i+1))=r:=by rw[hT,zT,aB λh=>ha h.1]
   have H5 : (decide (0<=a)&&decide (a<(bd r:Nat)))=false:=by rw[<-yG];exact aJ ha
   simp only[am,aI,H5,bJ hi];refine fk (()) hi ?_ ?_ ?_ ?_ ?_ ?_
   .exact ey (aT _ _) (trivial)
   all_goals simp[hF,aq,am,bt,bR,du,V.lo,e,Rl.cP]
 .rintro x -;simp only[hF,aq,am,aI,cE,aI,Rl.al,dX];exact aX (v:=.agg (ri n l).enc) Rl.dV (ah.bm _) ⟨by simp only[V.erase,Rl.dL],rfl⟩
def JR(l:List aA)(D:ah)(hl:l.length<=100000):a8 138 [.sl .no 2 (l.map aA.enc)] D (.sl .no 1 (cD (c7 l))):=by
 refine ahn.aV ?_;simp only[aU,am,a7,Nat.reduceAdd,aN];refine cn (l.length) (λi (Z:Nat)=>⟨[.any,.any,.any,.sl (.tk Z) 1 (cD (c7 (l.take i))),.any,.any,.sl .no 2 (l.map aA.enc),.int .i64 (l.length:Nat),.int .i64 (i:Nat)]++aq 10 .any,[],D.a_ Z i⟩) (λi Z=>(D.aR Z=aj)) λF hF JF aT=>⟨?_,?_,?_⟩
 .refine HC 0 λZ bE=>⟨Z,ey (aT _ _) bE,?_,?_,?_⟩
  all_goals simp[hF,aq,pD,c7,cD]
 .rintro i Z hi bE;have hlen:(cD (c7 (l.take i))).length=i:=by rw[eB,xb,iN];omega
  have hs:cD (c7 (l.take (i+1)))=cD (c7 (l.take i))++[[.aG l[i].au]]:=by rw[iG hi];simp only[c7,cD,fX,cz,fe]
  simp only[hF,aq,am,cc hi];refine ix (Cf hi) ?_;simp only[am,aA.al,yD];refine kM (by rw[hlen];simp[aQ];omega) (by rw[hlen];exact jG) ?_;rw[hlen];simp only[am,aI,jU,bJ hi,fI];refine fk (Z) hi ?_ ?_ ?_ ?_ ?_ ?_
  .exact ey (aT _ _) (bE)
  all_goals simp[hF,aq,am,bt,bR,du,V.lo,hs]
 .rintro Z bE;simp only[hF,aq,am,aI,cE,aI,dX];refine aX rfl (s4 bE) ⟨rfl,rfl⟩
def wR(P:aA × aA->Int × Int)(l:List (aA × aA)):List (List V):=(l.map P).map zY
def asi{P:aA × aA->Int × Int}{l:List (aA × aA)}:(wR P l).length=l.length:=by simp[wR]
def Xr{l:List (aA × aA)}(h:j<l.length):(l.map gz)[((j:Nat):Int).toNat]?=aa (gz l[j]):=by simp[h]
def O_(c:az)(D:ah)(hn:c.an.length<=100000)(hp:c.bw.length<=100000):a8 139 [.agg c.enc] D (.agg (lQ c).enc):=by
 refine aho.aV ?_;simp only[aU,am,a7,Nat.reduceAdd,Rl.al];simp only[am,dZ,dD];refine cl (JR c.an D hn) ?_;simp only[am,aN,aN,dD];have hw:(c7 c.an).length<=100000:=by rw[xb];exact hn
 generalize hP:BZ (c7 c.an)=P;refine cn (c.bw.length) (λi (Z:Nat)=>⟨[.any,.ptr (.aE 0) 0,.ptr (.aE 1) 0,.sl .no 1 (cD (c7 c.an)),.sl (.tk Z) 2 (wR P (c.bw.take i)),.any,.any,.any,.any,.any,.any,.sl .no 4 (c.bw.map gz),.int .i64 (c.bw.length:Nat),.int .i64 (i:Nat)]++aq 23 .any,[c.enc,Rl.zero.enc],D.a_ Z i⟩) (λi Z=>(D.aR Z=aj)) λF hF JF aT=>⟨?_,?_,?_⟩
 .refine HC 0 λZ bE=>⟨Z,ey (aT _ _) bE,?_,?_,?_⟩
  all_goals simp[hF,aq,pD,wR]
 .rintro i Z hi bE;have hlen:(wR P (c.bw.take i)).length=i:=by rw[asi,iN];omega
  have hs:wR P (c.bw.take (i+1))=wR P (c.bw.take i)++[zY (P c.bw[i])]:=by rw[iG hi];simp only[wR,fX,cz,fe]
  simp only[hF,aq,am,cc hi];refine ix (Xr hi) ?_;simp only[am,cX,Nat.reduceAdd,gz];refine jC ?_;simp only[am,Int.reduceToNat,Nat.reduceMul];refine bK.intro (xB (c7 c.an) c.bw[i].1.au (D.a_ Z i) hw) ?_;simp only[am,cX];refine jC ?_;simp only[am,Int.reduceToNat,Nat.reduceMul];refine bK.intro (xB (c7 c.an) c.bw[i].2.au (D.a_ Z i) hw) ?_;simp only[am,Nat.reduceAdd];refine xo (by rw[hlen];simp[aQ];omega) (by rw[hlen];exact jG) ?_;rw[hlen];have he:[V.int .i64 (cN (fu (c7 c.an) c.bw[i].1.au)),.int .i64 (cN (fu (c7 c.an) c.bw[i].2.au))]=zY (P c.bw[i]):=by rw[<-hP];rfl
  rw[he];simp only[am,aI,jU,bJ hi,fI];refine fk (Z) hi ?_ ?_ ?_ ?_ ?_ ?_
  .exact ey (aT _ _) (bE)
  all_goals simp[hF,aq,am,bt,bR,du,V.lo,hs,az.enc,az.dc,Rl.cP]
 .rintro Z bE;simp only[hF,aq,am,aI,cE,aI,eB,dX];rw[xb];refine cl (ch.eC (as' := [.int .i64 (c.an.length:Nat),.sl .no 2 (wR P c.bw)]) (show ch prog 200 [.int .i64 (c.an.length:Nat),.sl .no 2 (wR P c.bw)] _ _ from atA (c.an.length:Nat) (c.bw.map P) _ (by simpa using hp)) ⟨dp.rfl,dp.no,trivial⟩ bW.rfl) ?_;simp only[am,Rl.al];refine cl (Sc _ _) ?_;simp only[am,Rl.al];subst hP;exact aX (v:=.agg (lQ c).enc) Rl.dV (s4 bE) ⟨by simp only[V.erase,Rl.dL],rfl⟩
def ahq:aS prog 140 (sq [rg 0 [ox 2 2 0,ox 3 17 1,oZ 4 [2,72]],rg 5 [oz 7],sq [rg 10 [fo 4 3,nL,oi 0],lp 12 0 (sq [rg 15 [oA 2 11 13,nl 2,oZ 7 [1,0],o2 2 7],rg 18 [ol 2 2,fo 0 7,oC 76 [18,20],o1 17,oe 17 0,oe 17 1,ot 8 22,o1 9],rg 24 [om 8,nB .geq 0],ci 25 (rg 26 [om 5,fo 0 2,om 8,nA 3 28,nf 1,nl 2,n1 2,na 2 26,o1 5])]) 35],rg 36 [om 5,oC 198 [36],o2 2 4],.ret]) [.cell 4 ab 2] 38:=aW func140
def ah8:aS prog 198 (sq [rg 0 [oZ 2 [2,72]],rg 8 [oG [2,72] [(0,1,.c (.bool ab))],oZ 3 [2,72],o2 2 3],sq [rg 9 [om 0,nL,oi 0],lp 10 0 (sq [rg 13 [oA 2 9 11,nl 2,oZ 5 [2,72],o2 2 5],rg 15 [fo 1 5,nL,oi 0],lp 17 2 (sq [rg 20 [oA 67 16 18,nl 67,oR 7 sA,o2 67 7],dg 22 [of 1 3,mM [1],no,ol 67 7,oC 201 [24],n1 67,na 67 23,of 1 3,os 1 28 27]]) 29]) 30],rg 31 [ol 2 3,o2 2 2],.ret]) [.cell 2 ab 2] 32:=aW func198
def aia:aS prog 201 (sq [rg 0 [ox 1 67 0,oR 2 sA],rg 3 [oq (.ko 1 []),fo 1 1,na 1 3,of 1 1,os 1 7 6],rg 8 [ol 67 1,o2 67 2],.ret]) [.cell 2 ab 67] 9:=aW func201
theorem ags{f:bh}:cw 1 (f.enc.drop 1)=true:=rfl
def agv{f:bh}:setAt f.enc 1 [.sl .no 1 (cD f.an)]=f.enc:=by rw[bh.enc,kh,ng,qz,nR]
def R6(f:bh)(D:ah)(hf:f.an.length<=100000):a8 201 [.agg f.enc] D (.agg f.enc):=by
 refine aia.aV ?_;simp only[aU,am,a7,Nat.reduceAdd,bh.al];refine yY (by simp[eB,aQ];omega) ?_;simp only[am,bh.al,ags,gQ,agv];exact aX (v:=.agg f.enc) bh.dV (ah.bm _) ⟨by simp only[V.erase,bh.dL],rfl⟩
def auZ{l:List bz}(h:j<l.length):(l.map bz.enc)[((j:Nat):Int).toNat]?=aa l[j].enc:=by simp[h]
def LK{l:List bh}(h:j<l.length):(l.map bh.enc)[((j:Nat):Int).toNat]?=aa l[j].enc:=by simp[h]
def xA(l:List bh):List (List V):=l.map bh.enc
def agq{l:List bh}:(xA l).length=l.length:=by simp[xA]
def agp{l:List bh}{f:bh}:xA (l++[f])=xA l++[f.enc]:=by simp[xA]
def XE(l:List bz)(D:ah)(hl:l.length<=100000)(hs:∀s∈l,s.bC.length<=100000/\∀f∈s.bC,f.an.length<=100000)(hb:(l.flatMap bz.bC).length<=100000000) :
 a8 198 [.sl .no 2 (l.map bz.enc)] D (.agg (zZ l).enc):=by
 have hT:∀{i:Nat} (hi:i<l.length),(l.take (i+1)).flatMap bz.bC=(l.take i).flatMap bz.bC++l[i].bC:=λ{i} hi=>by rw[iG hi,xd];simp
 have hL:∀{i:Nat} (hi:i<l.length),((l.take i).flatMap bz.bC).length+l[i].bC.length<=100000000:=λ{i} hi=>by
  have U:(l.take (i+1)++l.drop (i+1)).flatMap bz.bC=l.flatMap bz.bC:=by rw[rG]
  rw[<-U,xd,hT hi] at hb;simp only[bM] at hb;omega
 refine ah8.aV ?_;simp only[aU,am,a7,Nat.reduceAdd,aN];obtain⟨Q,hQ⟩:∃Q:Nat->List bh,∀i,Q i=(l.take i).flatMap bz.bC:=⟨_,λ_=>rfl⟩;have uM:Q 0=[]:=by rw[hQ];rfl
 have xK:Q l.length=(zZ l).bC:=by rw[hQ,dX];rfl
 refine cn (l.length) (λi (Z:Nat)=>⟨[.any,.any,.ptr (.aE 0) 0,.ptr (.aE 1) 0,.any,.any,.any,.any,.any,.sl .no 2 (l.map bz.enc),.int .i64 (l.length:Nat),.int .i64 (i:Nat)]++aq 20 .any,[[.bool ar,.sl .aZ 67 []],[.bool ab,.sl (.tk Z) 67 (xA (Q i))]],D.a_ Z (Q i).length⟩) (λi Z=>(D.aR Z=aj)) λF hF JF aT=>⟨?_,?_,?_⟩
 .refine HD 0 λZ bE=>⟨Z,ey (aT _ _) bE,?_,?_,?_⟩
  all_goals simp[hF,aq,pD,I9,uM,xA]
 .rintro i Z hi bE;have hsi:=hs _ (dj hi);have Ul:=hL hi;rw[<-hQ] at Ul;have qc:Q (i+1)=Q i++l[i].bC:=by rw[hQ,hQ,hT hi]
  simp only[hF,aq,am,cc hi];refine ix (auZ hi) ?_;simp only[am,Nat.reduceAdd,aN,bz.al,aN];generalize Q i=q at Ul qc;obtain⟨W,hW⟩:∃W:Nat->List bh,∀j,W j=q++l[i].bC.take j:=⟨_,λ_=>rfl⟩;have hW0:q=W 0:=by rw[hW];simp
  have hWn:W l[i].bC.length=Q (i+1):=by rw[hW,dX,qc]
  rw[hW0];refine cn (l[i].bC.length) (λj (x:Unit)=>⟨[.any,.any,.ptr (.aE 0) 0,.ptr (.aE 1) 0,.any,.any,.any,.any,.any,.sl .no 2 (l.map bz.enc),.int .i64 (l.length:Nat),.int .i64 (i:Nat),.any,.any,.any,.any,.sl .no 67 (l[i].bC.map bh.enc),.int .i64 (l[i].bC.length:Nat),.int .i64 (j:Nat)]++aq 13 .any,[[.bool ar,.sl .aZ 67 []],[.bool ab,.sl (.tk Z) 67 (xA (W j))],l[i].enc],D.a_ Z (W j).length⟩) (λj x=>(True)) λF2 bZ pU df=>⟨?_,?_,?_⟩
  .refine en df (()) (trivial) ?_ ?_ ?_
   all_goals simp[bZ,aq,am,bt]
  .rintro j x hj -;have Uu:W (j+1)=W j++[l[i].bC[j]]:=by rw[hW,hW,iG hj,eN]
   have hWl:(W j).length+1<=100000000:=by rw[hW];simp only[bM,iN];omega
   have hlen:(xA (W j)).length=(W j).length:=agq;have alC:(W (j+1)).length=(W j).length+1:=by rw[Uu];simp
   simp only[bZ,aq,am,cc hj];refine ix (LK hj) ?_;simp only[am,Nat.reduceAdd,bh.al];refine bK.intro (R6 l[i].bC[j] (D.a_ Z (W j).length) (hsi.2 _ (dj hj))) ?_;simp only[am,bh.al];refine xo (by rw[hlen];simp[aQ];omega) (by rw[hlen];exact jG) ?_;rw[hlen];simp only[am,aI,jU,bJ hj,fI];rw[<-agp,<-Uu,<-alC];refine fk (()) hj ?_ ?_ ?_ ?_ ?_ ?_
   .exact ey (df _ _) (trivial)
   all_goals simp[bZ,aq,am,bt,bR,du,V.lo,bz.cP]
  .rintro x -;simp only[bZ,aq,am,aI,cE,Nat.reduceAdd,Nat.reduceEqDiff,aI,reduceCtorEq,bJ hi,hWn];refine fk (Z) hi ?_ ?_ ?_ ?_ ?_ ?_
   .exact ey (aT _ _) (bE)
   all_goals simp[hF,aq,am,bt,bR,du,V.lo]
 .rintro Z bE;simp only[hF,aq,am,aI,cE,Nat.reduceAdd,aI,xK];refine aX rfl (s4 bE) ⟨rfl,rfl⟩
variable{s:aH}{w:aA}
def anN:(mT s w).length<=1:=by
 unfold mT;split
 .split<;>simp
 .simp
def Ag(l:List bz):List (List V):=l.map bz.enc
def auT{l:List bz}{s:bz}:Ag (l++[s])=Ag l++[s.enc]:=by simp[Ag]
def Tq{f:aA->List bz}(h:∀w,(f w).length<=1):∀{l:List aA},(l.flatMap f).length<=l.length
 | []=>by simp
 | w::ws=>by have:=Tq h (l:=ws);have:=h w;simp only[qI,bM,dm];omega
def Tb{N:Nat}:∀{l:List bz},(∀s∈l,s.bC.length<=N)->(l.flatMap bz.bC).length<=l.length*N
 | [],_=>by simp
 | s :: ss, h => by
  have U:=Tb (N:=N) (l:=ss) λx hx=>h x (by simp[hx])
  have h2:=h s (by simp);simp only[qI,bM,dm,GW];omega
def anO{x:bz}(h:x∈mT s w):∃l∈s.ba,x=l.shape:=by
 unfold mT at h;split at h
 .split at h
  .rename_i y hy;exact⟨y,rF hy,by simpa using h⟩
  .simp at h
 .simp at h
variable{k:Nat}
def anQ(h:gV s.ba w.au=aa k)(hk:k<s.ba.length):mT s w=[s.ba[k].shape]:=by
 simp only[mT,h,cK hk]
def anP(h:gV s.ba w.au=aj):mT s w=[]:=by simp only[mT,h]
def XD(s:aH)(c:az)(D:ah)(hs:s.wO)(hn:c.an.length<=100000):a8 140 [.agg s.enc,.agg c.enc] D (.agg (jQ s c).enc):=by
 refine ahq.aV ?_;simp only[aU,am,a7,Nat.reduceAdd,aH.al];simp only[am,aN,aN,dZ,dD];obtain⟨Q,hQ⟩:∃Q:Nat->List bz,∀i,Q i=(c.an.take i).flatMap (mT s):=⟨_,λ_=>rfl⟩;have uM:Q 0=[]:=by rw[hQ];rfl
 have zh:∀i,(Q i).length<=100000:=λi=>by
  rw[hQ]
  have:=Tq (f:=mT s) (λ_=>anN) (l:=c.an.take i)
  rw[iN] at this;omega
 refine cn (c.an.length) (λi (Z:Nat)=>⟨[.any,.any,.ptr (.aE 0) 0,.ptr (.aE 1) 0,.ptr (.aE 2) 0,.sl (.tk Z) 2 (Ag (Q i)),.any,.any,.any,.any,.any,.sl .no 2 (c.an.map aA.enc),.int .i64 (c.an.length:Nat),.int .i64 (i:Nat)]++aq 24 .any,[s.enc,c.enc,[.bool ar,.sl .aZ 67 []]],D.a_ Z (Q i).length⟩) (λi Z=>(D.aR Z=aj)) λF hF JF aT=>⟨?_,?_,?_⟩
 .refine HC 0 λZ bE=>⟨Z,ey (aT _ _) bE,?_,?_,?_⟩
  all_goals simp[hF,aq,pD,uM,Ag]
 .rintro i Z hi bE;have qc:Q (i+1)=Q i++mT s c.an[i]:=by rw[hQ,hQ,iG hi,xd];simp
  have hlq:=zh i;simp only[hF,aq,am,cc hi];refine ix (Cf hi) ?_;simp only[am,Nat.reduceAdd,aH.al,aA.al,yD];refine cl (wT s c.an[i].au _ hs.1.1 hs.1.2.1) ?_;cases hf:gV s.ba c.an[i].au with
  | none =>
   have e:Q (i+1)=Q i:=by rw[qc,anP hf,eD]
   simp only[am,fL,aI,Int.reduceNeg,Int.reduceLE,cN,bJ hi];refine fk (Z) hi ?_ ?_ ?_ ?_ ?_ ?_
   .exact ey (aT _ _) (bE)
   all_goals simp[hF,aq,am,bt,bR,du,V.lo,e,aH.cP,az.enc,az.dc]
  | some k =>
   have hk:=(uG hf).1;have e:Q (i+1)=Q i++[s.ba[k].shape]:=by rw[qc,anQ hf hk]
   have hlen:(Ag (Q i)).length=(Q i).length:=by simp[Ag]
   have e2:(Q (i+1)).length=(Q i).length+1:=by rw[e];simp
   simp only[am,Int.reduceNeg,aH.al,cN,aK (show(0:Int)<=((k:Nat):Int) by omega)];refine ix (sS hk) ?_;simp only[am,Int.reduceNeg,aH.al,bz.al];refine kM (by rw[hlen];simp[aQ];omega) (by rw[hlen];exact jG) ?_;rw[hlen];simp only[am,aI,Int.reduceNeg,jU,bJ hi,fI];rw[<-auT,<-e,<-e2];refine fk (Z) hi ?_ ?_ ?_ ?_ ?_ ?_
   .exact ey (aT _ _) (bE)
   all_goals simp[hF,aq,am,bt,bR,du,V.lo,aH.cP,az.enc,az.dc]
 .rintro Z bE;have hq:=zh c.an.length;have e:Q c.an.length=c.an.flatMap (mT s):=by rw[hQ,dX]
  have hm:∀x∈Q c.an.length,∃l∈s.ba,x=l.shape:=λx hx=>by
   rw[e] at hx;obtain⟨w,_,hx⟩:=tt.1 hx;exact anO hx
  have zt:=Tb (N:=100) (l:=Q c.an.length) λx hx=>by obtain⟨l,hl,rfl⟩:=hm x hx;exact hs.2 l hl
  have M':jQ s c=zZ (Q c.an.length):=by rw[jQ,e]
  simp only[hF,aq,am,aI,cE,aI];refine cl (ch.eC (as' := [.sl .no 2 (Ag (Q c.an.length))]) (XE (Q c.an.length) _ (by omega) (λx hx=>by obtain⟨l,hl,rfl⟩:=hm x hx;exact hs.1.2.2 l hl) (by omega)) ⟨dp.no,trivial⟩ bW.rfl) ?_;simp only[am,bz.al];refine aX rfl (s4 bE) ⟨by rw[M'];rfl,rfl⟩
def ahS:aS prog 178 (sq [rg 2 [ox 1 17 0,oz 2],sq [rg 3 [fo 0 1,oc 223 [.s 4,.c (.int .i32 110)],nB .eql 0],cr 6 7 [of 2 1,nF 0,oq (.pZ .eql (.s 9) (.c (.aG []))),o1 2]],rg 11 [of 2 1,nF 0,oC 161 [13],o1 2],.ret]) [.tmp 2] 15:=aW func178
def ahT:aS prog 179 (sq [rg 2 [ox 1 17 0,oz 2],.block 0 (sq [rg 4 [fo 0 1,oc 223 [.s 5,.c (.int .i32 119)],nB .gtr 0,o1 3],cd 3 (sq [rg 8 [fo 4 1,nL,nB .gtr 0,gA,fo 4 1,oC 118 [14],oC 224 [15],gZ,o1 2],.ret]) (sq [rg 19 [fo 0 1,oc 223 [.s 20,.c (.int .i32 102)],nB .gtr 0,o1 18],cr 18 23 [fo 4 1,nL,nB .eql 1,gA,fo 4 1,oC 118 [29],oC 224 [30],gZ,o1 2]])]),rg 33 [fo 4 1,nL,nB .eql 0,o1 2],.ret]) [.tmp 2] 37:=aW func179
def aiw:aS prog 223 (sq [rg 4 [oi 0],rg 5 [oi 0],.DC (rS 8 [om 0,oC 100 [8],ow 1 9]) (.s 10) 11 12 13 0 1 (sq [rg 14 [oe 12 2,o1 7],rg 15 [om 7,om 1,nb .eql 15],ci 17 (rg 18 [ic 5])]),rg 20 [om 5,o1 4],.ret]) [.tmp 4] 21:=aW func223
def aix:aS prog 224 (sq [rg 2 [oz 2],sq [rg 5 [om 0,nL,oi 0],lp 6 0 (sq [rg 9 [oA 1 5 7,no,o1 4],rg 11 [om 4,oC 161 [11],nn],cr 13 2 [oz 2]]) 14],rg 2 [oq (.mv (.c (.bool ab)))],.ret]) [.tmp 2] 15:=aW func224
def B_(ks:List UInt8)(k:UInt8)(D:ah)(b i:Nat):St :=
 ⟨[.any,.int .i32 (k.toNat:Nat),.any,.any,.any,.int .i64 ((ks.take i).count k:Nat)]++aq 5 .any++[.raw (.pointer (aa ⟨b,0,aj⟩))]++aq 9 .any,[],D⟩
variable{D:ah}
def Dr(op:Int)(k:UInt8)(hg:D.b8 0=aa gG):a8 223 [.int .i64 op,.int .i32 (k.toNat:Nat)] D (.int .i64 (fm op k:Nat)):=by
 refine aiw.aV ?_;simp only[aU,am,a7,Nat.reduceAdd];refine P7 ?_;simp only[am];refine cl (OA op hg) ?_;simp only[am];have wv:=LZ op;have UC:fm op k=(cu op).2.count k:=rfl;generalize gn:(cu op).2=ks at wv UC;refine⟨ks,rfl,by rw[<-gn];exact LY op,λb i aP => aP = B_ ks k D b i,?_,?_,?_,?_⟩
 .intro b;refine bI.eC (t' := (B_ ks k D b 0).t) ?_ cT.rfl bW.rfl rfl;simp[B_,aq,am]
 .rintro b i _ rfl;exact⟨rfl,by simp[B_],by simp[B_]⟩
 .rintro b i c _ hc rfl;have hi:i<ks.length:=(fy.1 hc).1;have sI:(ks.take (i+1)).count k=(ks.take i).count k+(if c=k then 1 else 0):=by
   rw[DM hc,List.count_append,List.count_singleton];simp
  have hle:(ks.take i).count k<=3:=yQ List.count_le_length (by rw[iN];omega);have gY:((c.toNat:Nat):Int)=(k.toNat:Nat)↔c=k:=by
   constructor
   .intro h;exact KT.1 (by omega)
   .rintro rfl;rfl
  simp only[B_,aq,am]
  by_cases e:c=k
  .rw[aF e] at sI;simp only[am,cX,aK (gY.2 e)];rw[wrap_i64];exact bI.eC (by simp[am,sI]) cT.rfl bW.rfl rfl
  .rw[aB e] at sI;simp only[am,cX,aJ (λh=>e (gY.1 h))];exact bI.eC (by simp[am,sI]) cT.rfl bW.rfl rfl
 .rintro b _ rfl;simp only[B_,aq,am];rw[dX];refine aL ?_;simp[V.erase,UC]
def Fy(l:List (List UInt8))(D:ah)(i:Nat):St :=
 ⟨[.any,.any,.any,.any,.any,.sl .no 1 (mE l),.int .i64 l.length,.int .i64 (i:Nat)]++aq 7 .any,[],D⟩
def Sd(l:List (List UInt8))(D:ah)(hl:l.length<=aQ):a8 224 [.sl .no 1 (mE l)] D (.bool (qu l)):=by
 simp only[aQ] at hl;refine aix.aV ?_;simp only[aU,am,a7,Nat.reduceAdd,xy];refine jX (λp:{i:Nat // i<=l.length/\qu (l.take i)=ab}=>Fy l D p.1) (λp=>l.length - p.1) ?_ ?_
 .refine bI.enter ⟨0,by simp,by simp[qu]⟩ ?_ cT.rfl bW.rfl;simp[Fy,aq,am]
 rintro⟨i,hi,ha⟩;simp only[Fy,aq,am]
 by_cases aD:i<l.length
 .simp only[am,aK (show(i:Int)<l.length by omega)];refine ix (SY (cK aD)) ?_;simp only[am];refine cl (u9 l[i] D) ?_;cases hr:cV l[i]
  .simp only[am]
   have:qu l=false:=by
    rw[qu,AI];exact⟨l[i],dj aD,by simp[hr]⟩
   refine aL ?_;simp[V.erase,this]
  .simp only[am];rw[wrap_i64];refine bI.again (I:=λp:{i:Nat // i<=l.length/\qu (l.take i)=ab}=>Fy l D p.1) (μ:=λp=>l.length - p.1) ⟨i+1,aD,?_⟩ (by simp;omega) (by simp[Fy,am,aq]) cT.rfl bW.rfl;simp only[qu,iG aD,D5,bg] at ha ⊢;exact⟨ha,by simp[hr]⟩
 .have:i=l.length:=by omega
  subst this;rw[dX] at ha;simp only[am,aJ (show ¬(l.length:Int)<l.length by omega)];refine aL ?_;simp[V.erase,ha]
def apv(c:az)(hg:D.b8 0=aa gG):a8 178 [.agg c.enc] D (.bool c.nP):=by
 refine ahS.aV ?_;simp only[aU,am,a7,Nat.reduceAdd,dZ,ft];have h:=λ(D:ah) (hg:D.b8 0=aa gG)=>Dr c.op 110 hg
 refine cl (h D hg) ?_;simp only[am]
 by_cases h0:fm c.op 110=0
 .simp only[am,dD,aK (show((fm c.op 110:Nat):Int)=0 by omega)];refine aL ?_;simp[V.erase,az.nP,h0]
 .simp only[am,dD,aJ (show ¬((fm c.op 110:Nat):Int)=0 by omega)];refine cl (u9 c.name.au D) ?_;simp only[am];refine aL ?_;simp[V.erase,az.nP,h0]
def apC(c:az)(hg:D.b8 0=aa gG)(hn:c.an.length+1<=aQ):a8 179 [.agg c.enc] D (.bool c.kA):=by
 have nG:(c.an.map aA.au).length<=aQ:=by rw[aN];omega
 have h:=λ(D:ah) (hg:D.b8 0=aa gG)=>Dr c.op 119 hg
 have h' := λ(D:ah) (hg:D.b8 0=aa gG)=>Dr c.op 102 hg
 refine ahT.aV ?_;simp only[aU,am,a7,Nat.reduceAdd,dZ,ft];refine cl (h D hg) ?_;simp only[am]
 by_cases h0:0<fm c.op 119
 .simp only[am,aN,dD,aK (show(0:Int)<((fm c.op 119:Nat):Int) by omega),aN]
  by_cases U:0<c.an.length
  .simp only[am,dD,aK (show(0:Int)<((c.an.length:Nat):Int) by omega)];refine cl (JU c.an D hn) ?_;simp only[am];refine cl (Sd (c.an.map aA.au) D nG) ?_;simp only[am];refine aL ?_;simp[V.erase,az.kA,h0,U]
  .simp only[am,aJ (show ¬(0:Int)<((c.an.length:Nat):Int) by omega)];refine aL ?_;simp[V.erase,az.kA,h0,U]
 .simp only[am,ft,aJ (show ¬(0:Int)<((fm c.op 119:Nat):Int) by omega)];refine cl (h' D hg) ?_;simp only[am]
  by_cases h2:0<fm c.op 102
  .simp only[am,aN,dD,aK (show(0:Int)<((fm c.op 102:Nat):Int) by omega),aN]
   by_cases U:c.an.length=1
   .simp only[am,dD,aK (show((c.an.length:Nat):Int)=1 by omega)];refine cl (JU c.an D hn) ?_;simp only[am];refine cl (Sd (c.an.map aA.au) D nG) ?_;simp only[am];refine aL ?_;simp[V.erase,az.kA,h0,U,h2]
   .simp only[am,aJ (show ¬((c.an.length:Nat):Int)=1 by omega)];refine aL ?_;simp[V.erase,az.kA,h0,U,h2]
  .simp only[am,aN,dD,aJ (show ¬(0:Int)<((fm c.op 102:Nat):Int) by omega),aN];have he:decide (((c.an.length:Nat):Int)=0)=decide (c.an.length=0):=by simp
   refine aL ?_;simp[V.erase,az.kA,h0,h2]
def aha:aS prog 113 (sq [rg 2 [ox 1 17 0,oz 2],sq [rg 3 [fo 0 1,nB .lss 0,gB,fo 0 1,nB .gtr 15,gZ],cr 10 2 [oz 2]],rg 11 [ol 17 1,oC 178 [11],gA,ol 17 1,oC 179 [14],gZ,gA,ol 17 1,oC 180 [18],gZ,gA,ol 17 1,oC 181 [22],gZ,o1 2],.ret]) [.tmp 2] 25:=aW func113
def ahU:aS prog 180 (sq [rg 2 [ox 1 17 0,oz 2],sq [rg 5 [fo 0 1,oc 223 [.s 6,.c (.int .i32 112)],nB .eql 0],cr 8 9 [fo 5 1,nL,nB .eql 0,o1 2]],sq [rg 13 [fo 5 1,nL,oi 0],lp 15 0 (sq [rg 18 [oA 4 14 16,nl 4,oZ 4 [1,0,1,0],o2 4 4],rg 20 [oQ 2 2 4 0,nF 0,oC 161 [22],nn,gB,oQ 2 2 4 1,nF 0,oC 161 [28],nn,gZ],cr 31 2 [oz 2]]) 32],rg 2 [oq (.mv (.c (.bool ab)))],.ret]) [.tmp 2] 33:=aW func180
def ahV:aS prog 181 (sq [rg 2 [ox 1 17 0,oz 2],sq [rg 3 [fo 0 1,oc 223 [.s 4,.c (.int .i32 116)],nB .gtr 0],cr 6 7 [of 7 1,nl 5,oC 182 [8],gA,of 12 1,nl 5,oC 182 [12],gZ,o1 2]],sq [rg 15 [fo 0 1,oc 223 [.s 16,.c (.int .i32 114)],nB .gtr 0],cr 18 19 [of 7 1,nl 5,oC 225 [20],gA,of 12 1,nl 5,oC 225 [24],gZ,o1 2]],rg 27 [of 7 1,nl 5,oW [0,0,1,7,10] [],oC 226 [28,29],gA,of 12 1,nl 5,oW [0,0,1,7,10] [],oC 226 [33,34],gZ,o1 2],.ret]) [.tmp 2] 37:=aW func181
def zH(c:az)(D:ah)(i:Nat):St :=
 ⟨[.any,.ptr (.aE 0) 0]++aq 12 .any++[.sl .no 4 (c.bw.map gz),.int .i64 c.bw.length,.int .i64 (i:Nat)]++aq 16 .any,[c.enc],D⟩
def arz(c:az)(hg:D.b8 0=aa gG)(hn:c.bw.length+1<=aQ):a8 180 [.agg c.enc] D (.bool c.mi):=by
 have h:=λ(D:ah) (hg:D.b8 0=aa gG)=>Dr c.op 112 hg
 simp only[aQ] at hn;refine ahU.aV ?_;simp only[aU,am,a7,Nat.reduceAdd,dZ,ft];refine cl (h D hg) ?_;simp only[am]
 by_cases h0:fm c.op 112=0
 .simp only[am,aN,dD,aN,aK (show((fm c.op 112:Nat):Int)=0 by omega)];have he:decide (((c.bw.length:Nat):Int)=0)=decide (c.bw.length=0):=by simp
  refine aL ?_;simp[V.erase,az.mi,h0]
 simp only[am,aN,dD,aN,aJ (show ¬((fm c.op 112:Nat):Int)=0 by omega)];have hq:c.mi=c.bw.all pG:=by unfold az.mi;rw[aB h0]
 refine jX (λp:{i:Nat // i<=c.bw.length/\(c.bw.take i).all pG=ab}=>zH c D p.1) (λp=>c.bw.length - p.1) ?_ ?_
 .refine bI.enter ⟨0,by simp,by simp⟩ ?_ cT.rfl bW.rfl;simp[zH,aq,am]
 rintro⟨i,hi,ha⟩;simp only[zH,aq,am]
 by_cases aD:i<c.bw.length
 .simp only[am,aK (show(i:Int)<c.bw.length by omega)];refine ix (Js (cK aD)) ?_;simp only[am,cX,Nat.reduceAdd,gz];refine jC ?_;simp only[am,Int.reduceToNat,Nat.reduceMul];refine cl (u9 c.bw[i].1.au D) ?_;have ka:pG c.bw[i]=ar->c.mi=false:=λhf=>by
   rw[hq,AI];exact⟨c.bw[i],dj aD,by simp[hf]⟩
  cases hr:cV c.bw[i].1.au
  .simp only[am];refine aL ?_;simp[V.erase,ka (by simp[pG,hr])]
  .simp only[am,cX];refine jC ?_;simp only[am,Int.reduceToNat,Nat.reduceMul];refine cl (u9 c.bw[i].2.au D) ?_;cases U2:cV c.bw[i].2.au
   .simp only[am];refine aL ?_;simp[V.erase,ka (by simp[pG,U2])]
   .simp only[am];rw[wrap_i64];refine bI.uv (I:=λp:{i:Nat // i<=c.bw.length/\(c.bw.take i).all pG=ab}=>zH c D p.1) (μ:=λp=>c.bw.length - p.1) ⟨i+1,aD,?_⟩ (by simp;omega) (by simp[zH,am,aq]) (by simp[zH,am]) bW.rfl (by simp[zH,aq,bR,V.lo]) (by simp[zH,az.enc,az.dc,du,bR,V.lo]);rw[iG aD,D5,ha];simp[pG,hr,U2]
 .have:i=c.bw.length:=by omega
  subst this;rw[dX] at ha;simp only[am,aJ (show ¬(c.bw.length:Int)<c.bw.length by omega)];refine aL ?_;simp[V.erase,hq,ha]
def axY:[V.int .i64 0,.int .i64 0,.aG [],.sl .aZ 2 [],.sl .aZ 5 []].map V.erase=Nd.zero.enc:=by rw[Nd.dB];rfl
def YU(n:Nd)(D:ah)(hw:n.wt<=aQ):a8 226 [.agg n.enc,.agg [.int .i64 0,.int .i64 0,.aG [],.sl .aZ 2 [],.sl .aZ 5 []]] D (.bool (n.c_ .zero)):=by
 refine ch.eC (aun _ n .zero D (bY _) hw) ?_ bW.rfl;simp only[da,dp.rfl,im,qF];rw[<-axY];exact dp.erase (v:=.agg [.int .i64 0,.int .i64 0,.aG [],.sl .aZ 2 [],.sl .aZ 5 []])
def avL(c:az)(hg:D.b8 0=aa gG)(hl:c.left.wt<=aQ)(hr:c.right.wt<=aQ):a8 181 [.agg c.enc] D (.bool c.kE):=by
 have h:=λ(D:ah) (hg:D.b8 0=aa gG)=>Dr c.op 116 hg
 have h' := λ(D:ah) (hg:D.b8 0=aa gG)=>Dr c.op 114 hg
 refine ahV.aV ?_;simp only[aU,am,a7,Nat.reduceAdd,dZ,ft];refine cl (h D hg) ?_;simp only[am]
 by_cases h0:0<fm c.op 116
 .simp only[am,Nd.al,dD,aK (show(0:Int)<((fm c.op 116:Nat):Int) by omega)];refine cl (FG _ c.left D (bY _) hl) ?_;cases hq:c.left.eP
  .simp only[am];refine aL ?_;simp[V.erase,az.kE,h0,hq]
  .simp only[am,Nd.al,dD];refine cl (FG _ c.right D (bY _) hr) ?_;simp only[am];refine aL ?_;simp[V.erase,az.kE,h0,hq]
 simp only[am,ft,aJ (show ¬(0:Int)<((fm c.op 116:Nat):Int) by omega)];refine cl (h' D hg) ?_;simp only[am]
 by_cases h2:0<fm c.op 114
 .simp only[am,Nd.al,dD,aK (show(0:Int)<((fm c.op 114:Nat):Int) by omega)];refine cl (Yg c.left D hl) ?_;cases hq:c.left.jF
  .simp only[am];refine aL ?_;simp[V.erase,az.kE,h0,h2,hq]
  .simp only[am,Nd.al,dD];refine cl (Yg c.right D hr) ?_;simp only[am];refine aL ?_;simp[V.erase,az.kE,h0,h2,hq]
 simp only[am,Nd.al,dD,aJ (show ¬(0:Int)<((fm c.op 114:Nat):Int) by omega)];refine cl (YU c.left D hl) ?_;cases hq:c.left.c_ .zero
 .simp only[am];refine aL ?_;simp[V.erase,az.kE,h0,h2,hq]
 .simp only[am,Nd.al,dD];refine cl (YU c.right D hr) ?_;simp only[am];refine aL ?_;simp[V.erase,az.kE,h0,h2,hq]
def adQ(c:az)(hg:D.b8 0=aa gG)(hn:c.an.length+1<=aQ)(hp:c.bw.length+1<=aQ)(hl:c.left.wt<=aQ)(hr:c.right.wt<=aQ):a8 113 [.agg c.enc] D (.bool c.fp):=by
 have U:=λ(D:ah) (hg:D.b8 0=aa gG)=>apv c hg
 have h2:=λ(D:ah) (hg:D.b8 0=aa gG)=>apC c hg hn
 have h3:=λ(D:ah) (hg:D.b8 0=aa gG)=>arz c hg hp
 have h4:=λ(D:ah) (hg:D.b8 0=aa gG)=>avL c hg hl hr
 refine aha.aV ?_;simp only[aU,am,a7,Nat.reduceAdd,dZ,ft]
 by_cases k1:c.op<0
 .simp only[am,aK k1];refine aL ?_;simp[V.erase,az.fp,show ¬(0<=c.op/\c.op<=15) by omega]
 simp only[am,ft,aJ k1]
 by_cases k2:15<c.op
 .simp only[am,aK k2];refine aL ?_;simp[V.erase,az.fp,show ¬(0<=c.op/\c.op<=15) by omega]
 have k3:0<=c.op/\c.op<=15:=by omega
 simp only[am,dZ,aJ k2];refine cl (U D hg) ?_;cases q1:c.nP
 .simp only[am];refine aL ?_;simp[V.erase,az.fp,q1]
 simp only[am,dZ];refine cl (h2 D hg) ?_;cases q2:c.kA
 .simp only[am];refine aL ?_;simp[V.erase,az.fp,q1,q2]
 simp only[am,dZ];refine cl (h3 D hg) ?_;cases q3:c.mi
 .simp only[am];refine aL ?_;simp[V.erase,az.fp,q1,q2,q3]
 simp only[am,dZ];refine cl (h4 D hg) ?_;simp only[am];refine aL ?_;simp[V.erase,az.fp,q1,q2,q3,k3]
def ahc:aS prog 115 (sq [rg 0 [ox 3 2 0,ox 5 5 2,oR 6 Hg],sq [rg 11 [fo 0 5,nB .eql 1],ci 13 (sq [rg 15 [ol 2 3,fo 2 5,oC 76 [15,17],o1 14,oe 14 0,oe 14 1,ot 7 19,o1 8],rg 21 [om 8,oY Hg [(0,1,.s 21)],o2 9 6],.ret])],dA 24 [9,10] [fo 0 3,om 1,nA 3 25,nf 1,nl 2,fo 4 5,nI 5 0,nl 5,oC 184 [29,33],o1 23,oe 23 0,oe 23 1,oN,oN,oX 9 8 35,oX 10 2 36],rg 37 [ol 8 9,oY Hg [(0,1,.c (.int .i64 (-1))),(1,8,.s 37)],o2 9 6],.ret]) [.cell 6 ab 9] 39:=aW func115
def ahd:aS prog 116 (sq [rg 0 [ox 3 2 0,ox 5 5 2,oZ 6 [15,0]],rg 12 [oG [15,0] [(1,1,.c (.int .i64 (-1)))],oZ 7 [15,0],o2 2 7],sq [rg 13 [fo 0 5,nB .eql 1],ci 15 (sq [rg 17 [ol 2 3,fo 2 5,oC 76 [17,19],o1 16,oe 16 0,oe 16 1,of 1 7,os 1 23 22],rg 24 [ol 2 7,o2 2 6],.ret])],sq [rg 25 [fo 4 5,nL,oi 0],lp 27 0 (sq [rg 30 [oA 5 26 28,nl 5,oZ 9 [0,0,1,7,10],o2 5 9],dg 32 [of 0 7,mM [1],no,of 2 9,mM [1],no,ol 2 3,om 1,fo 4 9,nI 5 0,nl 5,oC 115 [36,37,41],oY Tu [(0,1,.s 35),(1,9,.s 42)],n1 10,na 10 33,of 0 7,os 1 46 45]]) 47],sq [rg 48 [fo 3 5,nL,oi 0],lp 50 2 (sq [rg 53 [oA 2 49 51,nl 2,oZ 11 [1,0],o2 2 11],rg 56 [ol 2 3,fo 0 11,oC 76 [56,58],o1 55,oe 55 0,oe 55 1,of 1 7,os 1 62 61]]) 63],rg 64 [ol 2 7,o2 2 6],.ret]) [.cell 6 ab 2] 65:=aW func116
def Td(s:aH)(lat:Nat)(n:Nd)(hs:s.ok)(hg:TZ D)(kW:lat<s.ba.length)(hk:n.kind=1\/0<n.ak.length)(hc:n.cU<=100000)(hw:n.wt<=aQ):
 a8 115 [.agg s.enc,.int .i64 (lat:Nat),.agg n.enc] D (.agg (pX s lat n).enc):=by
 refine ahc.aV ?_;simp only[aU,Kg,Nat.reduceAdd,Int.reduceNeg,bO.al]
 by_cases U:n.kind=1
 .simp only[am,Int.reduceNeg,aH.al,Nd.fl,aK U];refine cl (wT s n.au D hs.1 hs.2.1) ?_;simp only[am,Int.reduceNeg,bO.al];exact aX (v:=.agg (bO.mk (cN (jK s.vars n.au)) .zero).enc) bO.dV (ah.bm _) ⟨by rw[pX,aF U];simp only[V.erase,bO.dL],rfl⟩
 have hk:0<n.ak.length:=hk.resolve_left U;have hm:n.ak[0]∈n.ak:=dj _;have zu:=so hm;have zw:=qp hm;simp only[am,Nat.reduceAdd,b9,Int.reduceNeg,Nat.reduceLT,aH.al,aJ U];refine ix (sS kW) ?_;simp only[am,Int.reduceNeg,aH.al,Nd.fl];refine sN (n:=0) (by omega) (qv (j:=0) (cK hk)) ?_;simp only[am,Int.reduceNeg,bz.al,Nd.al];refine bK.intro (LC s.ba[lat].shape n.ak[0] hg (hs.2.2 _ (dj kW)) (λm hm=>by obtain⟨a,b,c⟩:=OO (n:=n.ak[0]) (by omega) m hm;exact⟨by omega,by omega,λq hq=>by have:=c q hq;omega⟩) (by omega)) ?_;have ee:pX s lat n=⟨-1,(gx s.ba[lat].shape n.ak[0]).1⟩:=by rw[pX,aB U,Ge kW,ny hk]
 generalize gx s.ba[lat].shape n.ak[0]=g at ee;obtain⟨e,o⟩:=g;cases o with
 | none =>
  simp only[am,Nat.reduceAdd,Int.reduceNeg,bn.al,bO.al,show v_ aj=[.int .i64 0,.int .i64 0] from rfl];exact aX (v:=.agg (bO.mk (-1) e).enc) bO.dV (ah.bm _) ⟨by rw[ee];simp only[V.erase,bO.dL],rfl⟩
 | some q =>
  simp only[am,Nat.reduceAdd,Int.reduceNeg,bn.al,bO.al,show v_ (aa q)=[.int .i64 4,.int .i64 q] from rfl];exact aX (v:=.agg (bO.mk (-1) e).enc) bO.dV (ah.bm _) ⟨by rw[ee];simp only[V.erase,bO.dL],rfl⟩
def TN(s:aH)(lat:Nat)(n:Nd)(hs:s.ok)(hg:TZ D)(kW:lat<s.ba.length)(hk:∀k∈n.ak,Tt k)(UP:n.an.length<=1)(hc:n.cU<=100000)(hw:n.wt<=aQ):
 a8 116 [.agg s.enc,.int .i64 (lat:Nat),.agg n.enc] D (.agg (lS s lat n).enc):=by
 refine ahd.aV ?_;simp only[aU,Kg,Nat.reduceAdd,Int.reduceNeg,bV.al]
 by_cases U:n.kind=1
 .simp only[am,Int.reduceNeg,aH.al,Nd.fl,aK U];refine cl (wT s n.au D hs.1 hs.2.1) ?_;simp only[am,Nat.reduceAdd,Int.reduceNeg];exact aX rfl (ah.bm _) ⟨by rw[lS,aF U];rfl,rfl⟩
 simp only[am,aN,Int.reduceNeg,Nd.fl,aN,aJ U];have Fb:=A3 n;obtain⟨Q,hQ⟩:∃Q:Nat->List (List V),∀i,Q i=((n.ak.take i).map (sC s lat)).map bV.enc:=⟨_,λ_=>rfl⟩;have uM:Q 0=[]:=by rw[hQ];rfl
 have xK:Q n.ak.length=(n.ak.map (sC s lat)).map bV.enc:=by rw[hQ,dX]
 have zh:∀{i:Nat},i<=n.ak.length->(Q i).length=i:=λ{i} hi=>by rw[hQ];simp;omega
 have qc:∀{i:Nat} (hi:i<n.ak.length) (U:0<n.ak[i].ak.length),Q (i+1)=Q i++[(bV.mk n.ak[i].au (pX s lat n.ak[i].ak[0])).enc]:=λ{i} hi U=>by
  rw[hQ,hQ,iG hi,fX,fX,GP,GP,sC,ny U]
 refine cn (n.ak.length) (λi (Z:Nat)=>⟨[.any,.int .i64 (lat:Nat),.any,.ptr (.aE 0) 0,.any,.ptr (.aE 1) 0,.ptr (.aE 2) 0,.ptr (.aE 3) 0,.any,.any,.any,.any,.any,.any,.any,.any,.any,.any,.any,.any,.any,.any,.any,.any,.any,.any,.sl .no 5 (n.ak.map Nd.enc),.int .i64 (n.ak.length:Nat),.int .i64 (i:Nat)]++aq 36 .any,[s.enc,n.enc,[.sl .aZ 10 [],.int .i64 0],[.sl (.tk Z) 10 (Q i),.int .i64 (-1)]],D.a_ Z i⟩) (λi Z=>(D.aR Z=aj)) λF hF JF aT=>⟨?_,?_,?_⟩
 .refine HD 0 λZ bE=>⟨Z,ey (aT _ _) bE,?_,?_,?_⟩
  all_goals simp[hF,aq,pD,I9,uM]
 .rintro i Z hi bE;have hm:n.ak[i]∈n.ak:=dj _;have zu:=so hm;have zw:=qp hm;obtain⟨qU,qV⟩:=hk _ hm;have C':n.ak[i].ak[0]∈n.ak[i].ak:=dj _;have ami:=so C';have amk:=qp C';have zq:TZ (D.a_ Z i):=hg;have hlen:=zh (KM hi);simp only[hF,aq,am,cc hi,Int.reduceNeg];refine ix (qv (cK hi)) ?_;simp only[Kg,Nat.reduceAdd,Int.reduceNeg];refine sN (n:=0) (by omega) (qv (j:=0) (cK qU)) ?_;simp only[am,Int.reduceNeg,aH.al,Nd.al];refine bK.intro (Td s lat n.ak[i].ak[0] hs zq kW (qV _ C') (by omega) (by omega)) ?_;simp only[am,Int.reduceNeg,bO.al,bV.al];refine xo (by rw[hlen];simp[aQ];omega) (by rw[hlen];exact jG) ?_;rw[hlen];simp only[am,aI,Int.reduceNeg,Nd.fl,jU,bJ hi,fI];refine fk (Z) hi ?_ ?_ ?_ ?_ ?_ ?_
  .exact ey (aT _ _) (bE)
  all_goals simp[hF,aq,am,bt,bR,du,V.lo,qc hi qU,aH.cP,Nd.cP]
 .rintro Z bE;have hlen:=zh (bY _);have xU:=Ep n;simp only[hF,aq,am,aI,cE,aI,Int.reduceNeg,Nd.fl,aN];refine cn (n.an.length) (λj (y:Unit)=>⟨[.any,.any,.any,.ptr (.aE 0) 0,.any,.any,.ptr (.aE 2) 0,.ptr (.aE 3) 0,.any,.any,.any,.any,.any,.any,.any,.any,.any,.any,.any,.any,.any,.any,.any,.any,.any,.any,.any,.any,.any,.any,.any,.any,.any,.any,.any,.any,.any,.any,.any,.any,.any,.any,.any,.any,.any,.any,.any,.any,.any,.sl .no 2 (n.an.map aA.enc),.int .i64 (n.an.length:Nat),.int .i64 (j:Nat)]++aq 13 .any,[s.enc,n.enc,[.sl .aZ 10 [],.int .i64 0],[.sl (.tk Z) 10 (Q n.ak.length),.int .i64 (wV s (n.an.take j))]],D.a_ Z n.ak.length⟩) (λj y=>(True)) λF2 bZ pU df=>⟨?_,?_,?_⟩
  .refine en df (()) (trivial) ?_ ?_ ?_
   all_goals simp[bZ,aq,am,bt,wV]
  .rintro j y hj -;obtain rfl:j=0:=by omega
   have et:=avD (s:=s) hj;simp only[bZ,aq,am,cc hj];refine ix (Cf hj) ?_;simp only[am,Nat.reduceAdd,yD,aH.al,aA.al];refine cl (wT s n.an[0].au _ hs.1 hs.2.1) ?_;simp only[am,aI,bJ hj];refine fk (()) hj ?_ ?_ ?_ ?_ ?_ ?_
   .exact ey (df _ _) (trivial)
   all_goals simp[bZ,aq,am,bt,bR,du,V.lo,et,aH.cP,Nd.cP]
  .rintro y -;simp only[bZ,aq,am,aI,cE,Nat.reduceAdd,aI,dX,xK];have e:lS s lat n=⟨n.ak.map (sC s lat),wV s n.an⟩:=by rw[lS,aB U]
   refine aX rfl (s4 bE) ⟨by rw[e];rfl,rfl⟩
def akh:aS prog 58 (sq [rg 5 [ox 2 2 0,ox 3 17 1,oR 4 kP,oz 2],sq [rg 9 [fo 0 3,nB .lss 8,gB,fo 0 3,nB .gtr 10,gZ,gB,ol 17 3,oC 113 [18],nn,gZ,gB,ol 2 2,ol 17 3,oC 55 [23,24],ow 0 25,nB .neq 0,gZ],cr 28 29 [oY kP [],o2 18 4,oU 5 2]],rg 31 [ol 2 2,of 2 3,nF 0,oC 76 [31,34],o1 30,oe 30 0,oe 30 1,ot 6 36,o1 7],rg 38 [fo 0 3,om 6,oY kP [(0,1,.s 39),(1,1,.s 40)],oR 8 kP,o2 18 8],sq [rg 42 [fo 0 3],.block 0 (sq [rg 45 [oB .eql 43 8,o1 44],cd 44 (sq [rg 47 [ol 2 2,om 6,of 7 3,nl 5,oC 114 [47,48,50],o1 46,oe 46 0,oe 46 1,of 2 8,os 1 54 52],rg 55 [ol 2 2,om 6,of 12 3,nl 5,oC 115 [55,56,58],of 3 8,os 9 60 59]]) (sq [rg 62 [oB .eql 43 9,o1 61],cd 61 (dg 63 [ol 2 2,om 6,of 7 3,nl 5,oC 116 [63,64,66],mM [0],ol 2 2,om 6,of 12 3,mM [0],nl 5,oC 116 [68,69,71],of 12 8,os 2 73 67,of 14 8,os 2 74 72]) (sq [rg 76 [oB .eql 43 10,o1 75],ci 75 (dg 77 [om 7,of 1 2,mM [1],no,om 7,nA 3 79,nf 2,mM [1],no,of 4 3,mM [1,2],no,nI 2 0,nf 0,mM [1,2],no,of 16 8,os 1 89 77,of 1 8,os 1 90 83,of 17 8,os 1 91 88])])])])],rg 92 [ol 18 8,o2 18 4,oV 5 (.bool ab)],.ret]) [.cell 4 ab 18,.tmp 5] 93:=aW func58
def AT(s:aH)(c:az):V:=.bH [.agg (if kv s c then kN s c else .zero).enc,.bool (kv s c)]
def agn(s:aH)(c:az)(hs:s.ok)(hg:TZ D)(kq:D.b8 0=aa gG)(hn:c.an.length+1<=aQ)(hp:c.bw.length+1<=aQ)(hl:c.left.cU<=100000)(hr:c.right.cU<=100000)(Bt:c.left.wt<=aQ)(xY:c.right.wt<=aQ):
 a8 58 [.agg s.enc,.agg c.enc] D (AT s c):=by
 have no:∀(t:List V) (lo:List (List V)),kv s c=ar->mw (λv σ' => v=AT s c/\σ' = D) ⟨t,lo,D⟩ (.bH [.agg (cO 0 0 (.sl .aZ 10 []) .zero (.sl .aZ 10 []) 0 (.sl .aZ 10 []) 0 0 []),.bool ar]):=λt lo h=>by
  refine aX (by simp only[V.c9,bT,rC];exact Hd rfl rfl rfl) (ah.bm _) ⟨?_,rfl⟩;rw[AT,h];simp only[V.erase,bD,Hc];rfl
 have yes:∀(t:List V) (lo:List (List V)) (op lat:Int) (cd:V) (to:bO) (fa:V) (ta:Int) (fb:V) (tb v:Int) (f:List UInt8),kv s c=ab->cd.c9=ab->fa.c9=ab->fb.c9=ab->cO op lat cd.erase to fa.erase ta fb.erase tb v f=(kN s c).enc->mw (λv σ' => v=AT s c/\σ' = D) ⟨t,lo,D⟩ (.bH [.agg (cO op lat cd to fa ta fb tb v f),.bool ab]):=λt lo op lat cd to fa ta fb tb v f h n1 n2 n3 hx=>by
  refine aX (by simp only[V.c9,bT,rC];exact Hd n1 n2 n3) (ah.bm _) ⟨?_,rfl⟩;rw[AT,h];simp only[V.erase,bD,Hc,hx];rfl
 refine akh.aV ?_;simp only[aU,am,a7,Nat.reduceAdd,aH.al,kP,dZ,ft]
 by_cases o1:c.op<8
 .simp only[am,gF,aK o1];exact no _ _ (by simp[kv];omega)
 simp only[am,ft,aJ o1]
 by_cases o2:10<c.op
 .simp only[am,gF,aK o2];exact no _ _ (by simp[kv];omega)
 simp only[am,dZ,aJ o2];refine cl (adQ c kq hn hp Bt xY) ?_;cases hq:c.fp with
 | false =>
  simp only[am,gF];exact no _ _ (by simp[kv,hq])
 | true =>
  simp only[am,aH.al,dZ];refine cl (Tn s c hs hg hl hr Bt xY) ?_;simp only[am,aY.al]
  by_cases hf:(kQ s c).cls=0
  case neg =>
   simp only[am,gF,aJ hf];exact no _ _ (by simp[kv,hf])
  have hA:kv s c=true:=by simp only[kv,hq,hf,b9,rC,bg,bQ];omega
  have hF:=IK.1 hA;simp only[am,aH.al,dD,aK hf];refine cl (wT s c.name.au D hs.1 hs.2.1) ?_;simp only[am,Nat.reduceAdd,gF,ft,AU (op:=c.op) (lat:=cN (gV s.ba c.name.au)) (c:=.sl .aZ 10 []) (to:=.zero) (fa:=.sl .aZ 10 []) (ta:=0) (fb:=.sl .aZ 10 []) (tb:=0) (v:=0) (f:=[]) rfl rfl rfl]
  by_cases h8:c.op=8
  .simp only[am,aH.al,Nd.al,dD,aK h8];obtain⟨k,hk,aD⟩:=hF.cZ (.inl h8);have j_ : cN (gV s.ba c.name.au)=(k:Nat):=hk;rw[j_];refine cl (ada s k c.left hg hs Bt (by omega)) ?_;simp only[am,aH.al,gF,Nd.al,dD,Ln];refine cl (Td s k c.right hs hg aD ?_ (by omega) xY) ?_
   .rcases hF.right h8 with h | h
    .exact .inl h
    .exact .inr (by rw[zK (hF.labels h8).2 h];omega)
   simp only[am,bO.al,gF,AU (op:=c.op) (lat:=k) (c:=.sl .no 10 (((mC s k c.left).getD []).map bu.enc)) (to:=pX s k c.right) (fa:=.sl .aZ 10 []) (ta:=0) (fb:=.sl .aZ 10 []) (tb:=0) (v:=0) (f:=[]) rfl rfl rfl];refine yes _ _ _ _ _ _ _ _ _ _ _ _ hA rfl rfl rfl ?_;rw[kN,aF h8,hk,h8];rfl
  simp only[am,aJ h8]
  by_cases h9:c.op=9
  .simp only[am,aH.al,Nd.al,dD,aK h9];obtain⟨k,hk,aD⟩:=hF.cZ (.inr h9);have j_ : cN (gV s.ba c.name.au)=(k:Nat):=hk;rw[j_];obtain⟨q1,q2⟩:=hF.rows h9;refine bK.intro (TN s k c.left hs hg aD (JH q1) (Yc q1) (by omega) Bt) ?_;simp only[am,aH.al,Nd.al,dD];refine bK.intro (TN s k c.right hs hg aD (JH q2) (Yc q2) (by omega) xY) ?_;simp only[am,aH.al,ec.al,gF,dD,AU (op:=c.op) (lat:=k) (c:=.sl .aZ 10 []) (to:=.zero) (fa:=.sl .no 10 ((lS s k c.left).fs.map bV.enc)) (ta:=(lS s k c.left).tail) (fb:=.sl .no 10 ((lS s k c.right).fs.map bV.enc)) (tb:=(lS s k c.right).tail) (v:=0) (f:=[]) rfl rfl rfl];refine yes _ _ _ _ _ _ _ _ _ _ _ _ hA rfl rfl rfl ?_;rw[kN,aB h8,aF h9,hk,h9];rfl
  have fM:c.op=10:=by omega
  simp only[am,aH.al,aJ h9,aK fM];obtain⟨v,hv,Df,rT⟩:=hF.var fM;obtain⟨w,hw,_⟩:=hF.one fM;rw[Df];simp only[Int.reduceNeg,cN];refine ix (As hv) ?_;simp only[am,Int.reduceNeg,aH.al,dD];have ID:0<c.an.length:=by rw[hw];simp
  refine sN (n:=0) (by omega) (Cf (l:=c.an) (j:=0) ID) ?_;simp only[am,Int.reduceNeg,yD,aH.al,gF,dD,AU (op:=c.op) (lat:=s.vars[v].lat) (c:=.sl .aZ 10 []) (to:=.zero) (fa:=.sl .aZ 10 []) (ta:=0) (fb:=.sl .aZ 10 []) (tb:=0) (v:=v) (f:=c.an[0].au) rfl rfl rfl];refine yes _ _ _ _ _ _ _ _ _ _ _ _ hA rfl rfl rfl ?_;rw[kN,aB h8,aB h9,Df,J_,cK hv,ny ID,fM];rfl
theorem akU:cw 1 (sA.drop 1)=true:=rfl
variable{l:List (List UInt8)}
def akV:setAt sA 1 [.sl .no 1 (cD l)]=(⟨0,l,.zero⟩:bh).enc:=by
 rw[bh.enc,show sA = .int .i64 0::.sl .aZ 1 []::Rl.zero.enc by rw[<-Rl.yl];rfl,kh,ng,qz,nR]
section
variable {f:bh}
theorem agr:cw 1 f.enc=true:=rfl
def agu{k:Int}:over f.enc [.int .i64 k]=(⟨k,f.an,f.rel⟩:bh).enc:=by rw[bh.enc,qz,nR];rfl
def agt:cw 65 (f.enc.drop 2)=true:=Rl.ib
def agw{r:Rl}:setAt f.enc 2 r.enc=(⟨f.kind,f.an,r⟩:bh).enc:=by rw[bh.enc,kh,kh,ng,Rl.gC];rfl
def Ez:=af @akU <| af @akV <| af @agr <| af @agu <| af @agt <| af @agw @bh.zov
end
def akl:aS prog 73 (sq [rg 2 [oz 2],rg 3 [om 0,nB .geq 1,gA,om 0,nB .leq 5,gZ,o1 2],.ret]) [.tmp 2] 9:=aW func73
def akn:aS prog 75 (sq [rg 2 [oz 2],rg 3 [om 0,nB .eql 6,gB,om 0,nB .eql 7,gZ,o1 2],.ret]) [.tmp 2] 9:=aW func75
def ag1:aS prog 103 (sq [rg 6 [om 0,mk 0,nf 2,nf 2,nF 0,oC 171 [6,12],o1 5,oe 5 0,oe 5 1,ot 2 14,o1 3],rg 16 [mk 0,nf 2,nf 2,nF 1,o1 4],sq [rg 22 [mk 0,nf 2,nF 0,oC 73 [26]],cr 27 28 [om 0,om 3,om 4,oc 172 [.s 28,.s 29,.c (.int .i64 3),.s 30]]],rg 32 [om 0,om 3,nn,om 4,oc 172 [.s 32,.s 34,.c (.int .i64 3),.s 35]],rg 37 [om 0,om 3,gA,om 2,nn,gZ,om 4,oc 172 [.s 37,.s 42,.c (.int .i64 4),.s 43]]]) [] 45:=aW func103
def ag2:aS prog 104 (sq [rg 8 [mk 0,nf 2,nF 4,oC 138 [12],o1 2],rg 14 [mk 0,nf 2,nF 4,nL,oi 0],lp 19 0 (sq [rg 22 [om 20,oA 2 18 20,nl 2,oZ 4 [1,0],ot 3 22,o2 2 4],rg 26 [om 0,fo 0 4,oC 171 [26,28],o1 25,oe 25 0,oe 25 1,ot 5 30,o1 6],sq [rg 32 [mk 0,nf 2,nF 0,nB .eql 3],ci 37 (sq [rg 38 [om 0,om 6,nn,fo 1 4,oc 172 [.s 38,.s 40,.c (.int .i64 3),.s 42]],rg 44 [om 0,om 6,gA,om 5,nn,gZ,fo 1 4,oc 172 [.s 44,.s 49,.c (.int .i64 4),.s 51]],(.exit 1)])],dg 53 [om 2,om 3,oq (.lT 1 (.s 53) aj (aa (.s 54)) aj),fo 0 4,oC 173 [55,57],nB .geq 0,o1 7],dg 60 [om 0,om 7,nm,oh 62 (om 0),oh 62 (nk),oh 62 (nf 2),oh 62 (nf 0),oh 62 (no),oh 62 (oC 75 [67]),oh 62 (nm),og 69 (om 6),oh 62 (oy 69 70),oq (.pick (.s 62) (.c (.bool ab)) (.s 71)),of 1 4,mM [0],no,oc 172 [.s 60,.s 72,.c (.int .i64 3),.s 74]]]) 76]) [] 77:=aW func104
def ahL:aS prog 171 (sq [rg 4 [oz 2,oz 2],rg 9 [mk 0,nf 0,nl 2,om 1,oC 76 [12,13],o1 8,oe 8 0,oe 8 1,ot 6 15,o1 7],rg 17 [om 6,nB .geq 0,om 6,nB .geq 0,gB,om 7,nB .geq 0,gZ,ot 4 18,o1 5],.ret]) [.tmp 4,.tmp 5] 25:=aW func171
def ahM:aS prog 172 (sq [rg 8 [om 1],ci 8 (rg 9 [om 0,mk 0,nF 19,om 2,om 3,oW [0,0] [(0,1,14),(1,1,15)],n1 2,na 2 13,ok 9,nf 19,os 1 20 18])]) [] 21:=aW func172
def rW(D:ah)(b Z:Nat)(l:List aY)(s:aH)(c:az)(x y:Int)(is:Bool)(hl:l.length<=100000000) :
 dY 172 [.ptr (.out b) 0,.bool is,.int .i64 x,.int .i64 y] (eZ D b Z l s c) (.bH []) (eZ D b Z (l++ep is x y) s c):=by
 refine ahM.aV ?_;simp only[aU,am,a7,Nat.reduceAdd];cases is with
 | false =>
  simp only[am];exact aX rfl (ah.bm _) ⟨rfl,by simp[ep]⟩
 | true =>
  simp only[am,Nat.reduceAdd,jL];refine kM (by simp[aQ];omega) (by rw[aN];exact VA) ?_;simp only[am,aN,aN,jL,fI,ann];exact aX rfl (ah.bm _) ⟨rfl,by simp[ep]⟩
variable{o:Option Nat}
def OF:decide (0<=cN o)=o.isSome:=by cases o<;>simp[cN]
def ara:decide (cN o<0)=o.isNone:=by cases o with
 | none=>rfl
 | some k=>exact aJ (by simp only[cN];omega)
def Vt(D:ah)(b Z:Nat)(l:List aY)(s:aH)(c:az)(t:List UInt8)(hs:s.ok) :
 dY 171 [.ptr (.out b) 0,.aG t] (eZ D b Z l s c) (.bH [.bool (o7 s t),.bool (iA s t)]) (eZ D b Z l s c):=by
 refine ahL.aV ?_;simp only[aU,am,a7,Nat.reduceAdd,aH.al,jL];refine cl (wT s t _ hs.1 hs.2.1) ?_;simp only[am,OF];cases hL:(gV s.ba t).isSome with
 | true =>
  simp only[am];refine aL ?_;simp[V.erase,bD,o7,iA,hL]
 | false =>
  simp only[am,OF];refine aL ?_;simp[V.erase,bD,o7,iA,hL]
def N0(op:Int)(D:ah):a8 73 [.int .i64 op] D (.bool (kx op)):=by
 refine akl.aV ?_;simp only[aU,am,a7,Nat.reduceAdd]
 by_cases h:1<=op
 .simp only[am,aK h];refine aL ?_;simp[V.erase,kx,h]
 .simp only[am,aJ h];refine aL ?_;simp[V.erase,kx,h]
def Gw(op:Int)(D:ah):a8 75 [.int .i64 op] D (.bool (nj op)):=by
 refine akn.aV ?_;simp only[aU,am,a7,Nat.reduceAdd]
 by_cases h:op=6
 .simp only[am,aK h];refine aL ?_;simp[V.erase,nj,h]
 .simp only[am,aJ h];refine aL ?_;simp[V.erase,nj,h]
def am'(D:ah)(b Z:Nat)(l:List aY)(s:aH)(c:az)(hs:s.ok)(hl:l.length<=90000000) :
 dY 103 [.ptr (.out b) 0] (eZ D b Z l s c) (.bH []) (eZ D b Z (l++qf s c) s c):=by
 refine ag1.aV ?_;simp only[aU,am,a7,Nat.reduceAdd,jL];refine cl (Vt D b Z l s c c.name.au hs) ?_;simp only[am,Nat.reduceAdd,jL];refine cl (N0 c.op _) ?_;cases h5:kx c.op with
 | true =>
  simp only[am];refine cl (rW D b Z l s c 3 c.name.pos (iA s c.name.au) (by omega)) ?_;simp only[am];exact aX rfl (ah.bm _) ⟨rfl,by rw[qf,aF h5]⟩
 | false =>
  have e:qf s c=ep (!iA s c.name.au) 3 c.name.pos++ep (iA s c.name.au&&!o7 s c.name.au) 4 c.name.pos:=by rw[qf,h5];rfl
  have hlen:=@s6 (!iA s c.name.au) 3 c.name.pos;simp only[am];refine cl (rW D b Z l s c 3 c.name.pos (!iA s c.name.au) (by omega)) ?_;cases hv:iA s c.name.au with
  | true =>
   rw[hv] at hlen e;simp only[am];refine cl (rW D b Z (l++ep (!ab) 3 c.name.pos) s c 4 c.name.pos (!o7 s c.name.au) (by rw[bM];omega)) ?_;simp only[am];exact aX rfl (ah.bm _) ⟨rfl,by rw[e,eN,iM];rfl⟩
  | false =>
   rw[hv] at hlen e;simp only[am];refine cl (rW D b Z (l++ep (!ar) 3 c.name.pos) s c 4 c.name.pos ar (by rw[bM];omega)) ?_;simp only[am];exact aX rfl (ah.bm _) ⟨rfl,by rw[e,eN,Km];rfl⟩
def anc(D:ah)(b Z:Nat)(l:List aY)(s:aH)(c:az)(hs:s.ok)(hl:l.length<=80000000)(hn:c.an.length<=100000) :
 dY 104 [.ptr (.out b) 0] (eZ D b Z l s c) (.bH []) (eZ D b Z (l++lL s c c.an.length) s c):=by
 refine ag2.aV ?_;simp only[aU,am,a7,Nat.reduceAdd,jL];refine cl (JR c.an _ (by omega)) ?_;simp only[am,Nat.reduceAdd,aN,aN,jL];have hw:(c7 c.an).length=c.an.length:=xb;refine cn (c.an.length) (λi (x:Unit)=>⟨[.ptr (.out b) 0,.any,.sl .no 1 (cD (c7 c.an)),.any,.any,.any,.any,.any,.any,.any,.any,.any,.any,.any,.any,.any,.any,.any,.sl .no 2 (c.an.map aA.enc),.int .i64 (c.an.length:Nat),.int .i64 (i:Nat)]++aq 56 .any,[],eZ D b Z (l++lL s c i) s c⟩) (λi x=>(True)) λF hF JF aT=>⟨?_,?_,?_⟩
 .refine en aT (()) (trivial) ?_ ?_ ?_
  all_goals simp[hF,aq,am,bt,lL]
 .rintro i x hi -;have hN:=@Ov s c i;have hS:=@WQ s c i;have hg:c.an.getD i ⟨[],0⟩=c.an[i]:=by simp[fW,hi]
  simp only[hF,aq,am,cc hi];refine ix (Cf hi) ?_;simp only[am,aA.al,yD];refine cl (Vt D b Z (l++lL s c i) s c c.an[i].au hs) ?_;simp only[am,jL]
  by_cases h3:c.op=3
  .have e:qw s c i=ep (!iA s c.an[i].au) 3 c.an[i].pos++ep (iA s c.an[i].au&&!o7 s c.an[i].au) 4 c.an[i].pos:=by rw[qw];simp only[hg];rw[aF h3]
   have hlen:=@s6 (!iA s c.an[i].au) 3 c.an[i].pos;simp only[am,ue,aK h3];refine cl (rW D b Z (l++lL s c i) s c 3 c.an[i].pos (!iA s c.an[i].au) (by rw[bM];omega)) ?_;cases hv:iA s c.an[i].au with
   | true =>
    rw[hv] at hlen e;simp only[am,ue];refine cl (rW D b Z (l++lL s c i++ep (!ab) 3 c.an[i].pos) s c 4 c.an[i].pos (!o7 s c.an[i].au) (by simp only[bM];omega)) ?_;simp only[am,aI,reduceCtorEq,bJ hi];rw[iM] at e;refine fk (()) hi ?_ ?_ ?_ ?_ ?_ ?_
    .exact ey (aT _ _) (trivial)
    all_goals simp[hF,aq,am,bt,bR,du,V.lo,hS,e]
   | false =>
    rw[hv] at hlen e;simp only[am,ue];refine cl (rW D b Z (l++lL s c i++ep (!ar) 3 c.an[i].pos) s c 4 c.an[i].pos ar (by simp only[bM];omega)) ?_;simp only[am,aI,reduceCtorEq,bJ hi];rw[Km] at e;refine fk (()) hi ?_ ?_ ?_ ?_ ?_ ?_
    .exact ey (aT _ _) (trivial)
    all_goals simp[hF,aq,am,bt,bR,du,V.lo,hS,e]
  .have e:qw s c i=ep ((fu ((c7 c.an).take i) c.an[i].au).isSome||(nj c.op&&iA s c.an[i].au)) 3 c.an[i].pos:=by rw[qw];simp only[hg];rw[aB h3]
   simp only[am,cX,aJ h3];refine Zk (b:=i) (by rw[eB];omega) ?_;rw[YI];simp only[am,yD];refine bK.intro (xB ((c7 c.an).take i) c.an[i].au _ (by rw[iN];omega)) ?_;simp only[am,OF];cases hf:(fu ((c7 c.an).take i) c.an[i].au).isSome with
   | true =>
    rw[hf] at e;simp only[am,ue];refine bK.intro (rW D b Z (l++lL s c i) s c 3 c.an[i].pos ab (by rw[bM];omega)) ?_;simp only[am,aI,ue,bJ hi];rw[Bool.true_or] at e;refine fk (()) hi ?_ ?_ ?_ ?_ ?_ ?_
    .exact ey (aT _ _) (trivial)
    all_goals simp[hF,aq,am,bt,bR,du,V.lo,hS,e]
   | false =>
    rw[hf,Cl] at e;simp only[am,jL];refine bK.intro (Gw c.op _) ?_;cases hv:nj c.op with
    | true =>
     rw[hv,iM] at e;simp only[am,ue];refine bK.intro (rW D b Z (l++lL s c i) s c 3 c.an[i].pos (iA s c.an[i].au) (by rw[bM];omega)) ?_;simp only[am,aI,ue,bJ hi];refine fk (()) hi ?_ ?_ ?_ ?_ ?_ ?_
     .exact ey (aT _ _) (trivial)
     all_goals simp[hF,aq,am,bt,bR,du,V.lo,hS,e]
    | false =>
     rw[hv,Km] at e;simp only[am,ue];refine bK.intro (rW D b Z (l++lL s c i) s c 3 c.an[i].pos ar (by rw[bM];omega)) ?_;simp only[am,aI,ue,bJ hi];refine fk (()) hi ?_ ?_ ?_ ?_ ?_ ?_
     .exact ey (aT _ _) (trivial)
     all_goals simp[hF,aq,am,bt,bR,du,V.lo,hS,e]
 .rintro x -;simp only[hF,aq,am,aI,cE,aI];exact aX rfl (ah.bm _) ⟨rfl,rfl⟩
def akd:aS prog 54 (sq [rg 0 [ox 2 2 0,ox 3 17 1,oZ 4 [0,0]],sq [rg 6 [fo 0 3,oC 73 [7],nn,gA,fo 0 3,oC 75 [12],nn,gZ],cr 15 16 [oW [0,0] [],o2 2 4]],rg 17 [ol 2 2,ol 17 3,oW [8,8,0,0,1,0,7,9,0,0,0,1,7,10,0,0,1,7,10,7] [(0,2,17),(2,17,18)],oq (.gS 20 (.s 19)),o1 5],.qG (rg 21 [om 5,oC 103 [21]]),rg 23 [om 5,oC 104 [23]],rg 25 [om 5,oC 105 [25]],rg 27 [om 5,oC 106 [27]],rg 29 [mk 5,nF 19,oC 57 [32],o2 2 4],.ret]) [.cell 4 ab 2] 34:=aW func54 ⟨[20],[4]⟩
def ag3:aS prog 105 (sq [rg 0 [od (aa 1) (.gS 1 (.s 0))],rg 6 [oo 1,nk,nf 2,nF 4,oC 138 [10],od (aa 2) (.qL [(.sl .aZ 1 [])]),o2 1 2],rg 12 [oq (.ky (.func 174) [] [(.s 1),(.s 2)]),o1 3],sq [rg 13 [oo 1,nk,nf 2,nF 5,nL,oi 0],lp 18 0 (sq [rg 21 [oA 4 17 19,nl 4,oZ 5 [1,0,1,0],o2 4 5],rg 23 [om 3,oQ 2 2 5 0,nl 2,oq (.jj (.s 23) [(.s 25)])],rg 27 [om 3,oQ 2 2 5 1,nl 2,oq (.jj (.s 27) [(.s 29)])]]) 31],rg 32 [oo 1,nk,nf 2,nF 0,nB .eql 5,gA,oo 2,nL,nB .leq 64,gZ],ci 42 (dg 43 [mM [1,2],oo 1,oo 1,nk,nf 2,nl 17,oC 139 [47],oC 175 [48],nn,mM [0,1],oo 1,nk,nf 2,nf 6,mM [0,1],no,oc 172 [.s 43,.s 50,.c (.int .i64 5),.s 55]])]) [] 57:=aW func105 ⟨[1,2],[]⟩
def ag4:aS prog 106 (sq [rg 4 [mk 0,nf 2,nF 4,nL,o1 2,oj 3 64],sq [rg 10 [mk 0,nf 2,nF 0],.block 0 (sq [sq [rg 16 [oB .eql 14 6,o1 15],cd 15 .skip (rg 17 [oB .eql 14 7,o1 15])],cd 15 (sq [dg 18 [om 0,om 2,mk 0,nf 0,nF 1,nL,oq (.dU .sub (.c (.int .i64 64)) (.s 25)),nb .gtr 19,mk 0,nf 2,nF 1,oc 172 [.s 18,.s 27,.c (.int .i64 7),.s 32]],.ret]) (sq [rg 35 [oB .eql 14 4,o1 34],cd 34 (rg 3 [oi 8]) (sq [rg 37 [oB .eql 14 3,o1 36],ci 36 (dg 38 [mk 0,nf 0,nl 2,mk 0,nf 2,nl 17,oC 140 [41,45],ow 1 46,nL,o1 2,oj 3 8])])])])],dg 49 [om 0,om 2,om 3,nb .gtr 50,gB,mk 0,nf 0,nF 0,nL,nB .geq 16,gZ,mk 0,nf 2,nF 1,oc 172 [.s 49,.s 61,.c (.int .i64 7),.s 66]]]) [] 68:=aW func106
def ahO:aS prog 174 (sq [rg 0 [ox 3 2 0],dg 4 [mM [1],oo 1,oo 2,fo 0 3,oC 173 [5,7],nB .lss 0,of 1 3,mM [0],no,oc 172 [.s 4,.s 9,.c (.int .i64 3),.s 11]]]) [] 13:=aW func174
def Vu(D:ah)(b Z b1 b2:Nat)(l:List aY)(s:aH)(c:az)(w:aA)(n1:b1≠b)(n2:b2≠b)(U:D.box b1=aa [.ptr (.out b) 0])(h2:D.box b2=aa [.sl .no 1 (cD (c7 c.an))])(hl:l.length<=90000000)(hn:c.an.length<=100000) :
 dY 174 [.agg w.enc,.ptr (.out b1) 0,.ptr (.out b2) 0] (eZ D b Z l s c) (.bH []) (eZ D b Z (l++tY c w) s c):=by
 have e1:(eZ D b Z l s c).box b1=aa [.ptr (.out b) 0]:=by rw[x_ n1];exact U
 have e2:(eZ D b Z l s c).box b2=aa [.sl .no 1 (cD (c7 c.an))]:=by rw[x_ n2];exact h2
 refine ahO.aV ?_;simp only[aU,am,a7,Nat.reduceAdd,aA.al];simp only[am,yD,e1,e2];refine bK.intro (xB (c7 c.an) w.au _ (by rw[xb];omega)) ?_;simp only[am,ue,ara];refine bK.intro (rW D b Z l s c 3 w.pos (fu (c7 c.an) w.au).isNone (by omega)) ?_;simp only[am,ue,e1];exact aX rfl (ah.bm _) ⟨rfl,rfl⟩
variable{c:az}{i:Nat}
def aso(hi:i<c.bw.length):(c.bw.take (i+1)).flatMap (rp c)=(c.bw.take i).flatMap (rp c)++(tY c c.bw[i].1++tY c c.bw[i].2):=by rw[iG hi,xd];simp[rp]
def anm(D:ah)(b Z:Nat)(l:List aY)(s:aH)(c:az)(hg:TZ D)(hl:l.length<=80000000)(hn:c.an.length<=100000)(hp:c.bw.length<=100000) :
 dY 105 [.ptr (.out b) 0] (eZ D b Z l s c) (.bH []) (eZ D b Z (l++ub c++qy c) s c):=by
 have fresh:∀{x:Nat} {dE:ah},(eZ dE b Z l s c).box x=aj->x≠b:=λ{x dE} h=>by rintro rfl;rw[NP] at h;simp at h
 refine ag3.aV ?_;simp only[aU,am,a7,Nat.reduceAdd];intro b1 ek;have n1:=fresh ek;rw[x_ n1] at ek;simp only[am,Nat.reduceAdd];rw[Vz n1];have e1:(eZ (D.set b1 [.ptr (.out b) 0]) b Z l s c).box b1=aa [.ptr (.out b) 0]:=by rw[x_ n1,iS]
 simp only[am,jL];refine cl (JR c.an _ (by omega)) ?_;simp only[am];intro b2 dx;have n2:=fresh dx;rw[x_ n2] at dx;have On:b1≠b2:=by rintro rfl;rw[iS] at dx;simp at dx
 rw[pf On.symm] at dx;simp only[am];rw[Vz n2];have f1:((D.set b1 [.ptr (.out b) 0]).set b2 [.sl .no 1 (cD (c7 c.an))]).box b1=aa [.ptr (.out b) 0]:=by rw[pf On,iS]
 have f2:((D.set b1 [.ptr (.out b) 0]).set b2 [.sl .no 1 (cD (c7 c.an))]).box b2=aa [.sl .no 1 (cD (c7 c.an))]:=iS;have qY:∀{L:List aY},(eZ D b Z L s c).sub (eZ ((D.set b1 [.ptr (.out b) 0]).set b2 [.sl .no 1 (cD (c7 c.an))]) b Z L s c):=λ{L}=>ah.DL (Vy n1 ek) (Vy n2 (by rw[pf On.symm];exact dx))
 generalize wE:(D.set b1 [V.ptr (Pl.out b) 0]).set b2 [V.sl .no 1 (cD (c7 c.an))]=eT at f1 f2 qY;have xP:TZ eT:=by rw[<-wE];exact hg
 have g1:∀{L:List aY},(eZ eT b Z L s c).box b1=aa [.ptr (.out b) 0]:=λ{L}=>by rw[x_ n1];exact f1
 have g2:∀{L:List aY},(eZ eT b Z L s c).box b2=aa [.sl .no 1 (cD (c7 c.an))]:=λ{L}=>by rw[x_ n2];exact f2
 simp only[am,Nat.reduceAdd,aN,aN,jL,g1];have hP:=λ(i:Nat)=>@XF c (c.bw.take i)
 refine cn (c.bw.length) (λi (x:Unit)=>⟨[.any,.ptr (.out b1) 0,.ptr (.out b2) 0,.fn (.func 174) [] [.ptr (.out b1) 0,.ptr (.out b2) 0],.any,.any,.any,.any,.any,.any,.any,.any,.any,.any,.any,.any,.any,.sl .no 4 (c.bw.map gz),.int .i64 (c.bw.length:Nat),.int .i64 (i:Nat)]++aq 37 .any,[],eZ eT b Z (l++(c.bw.take i).flatMap (rp c)) s c⟩) (λi x=>(True)) λF hF JF aT=>⟨?_,?_,?_⟩
 .exact en aT (()) (trivial)
 .rintro i x hi -;have hPi:=hP i;rw[iN] at hPi;have hS:=aso hi;have nG:(tY c c.bw[i].1).length<=1:=s6;simp only[hF,aq,am,cc hi];refine ix (Xr hi) ?_;simp only[am,cX,Nat.reduceAdd,gz];refine jC ?_;simp only[am,Int.reduceToNat,Nat.reduceMul];refine cl (Vu eT b Z b1 b2 (l++(c.bw.take i).flatMap (rp c)) s c c.bw[i].1 n1 n2 f1 f2 (by rw[bM];omega) hn) ?_;simp only[am,cX];refine jC ?_;simp only[am,Int.reduceToNat,Nat.reduceMul];refine cl (Vu eT b Z b1 b2 (l++(c.bw.take i).flatMap (rp c)++tY c c.bw[i].1) s c c.bw[i].2 n1 n2 f1 f2 (by simp only[bM];omega) hn) ?_;simp only[am,aI,bJ hi];refine fk (()) hi ?_ ?_ ?_ ?_ ?_ ?_
  .exact ey (aT _ _) (trivial)
  all_goals simp[hF,aq,am,bt,bR,du,V.lo,hS]
 .rintro x -;have Un:=hP c.bw.length;rw[iN] at Un;have hw:((c7 c.an).length:Int)=(c.an.length:Nat):=by rw[xb]
  have UY:(l++ub c).length<=90000000:=by rw[bM,ub];rw[dX] at Un;omega
  simp only[hF,aq,am,aI,cE,aI,jL,dX,g1];have no:qy c=[]->eZ D b Z (l++ub c++qy c) s c=eZ D b Z (l++ub c) s c:=λh=>by rw[h,eD]
  by_cases h5:c.op=5
  case neg =>
   simp only[am,aJ h5];exact aX rfl qY ⟨rfl,(no (by rw[qy,aB λh=>h5 h.1])).symm⟩
  simp only[am,eB,aK h5,g2,hw]
  by_cases xJ:c.an.length<=64
  case neg =>
   simp only[am,aJ (show ¬((c.an.length:Nat):Int)<=64 by omega)];exact aX rfl qY ⟨rfl,(no (by rw[qy,aB λh=>xJ h.2])).symm⟩
  have e:qy c=ep (!jN (lQ c)) 5 c.pd:=by rw[qy,aF ⟨h5,xJ⟩]
  simp only[am,jL,aK (show((c.an.length:Nat):Int)<=64 by omega),g1,dZ];refine bK.intro (O_ c _ (by omega) (by omega)) ?_;simp only[am,Rl.al];refine bK.intro (VL (lQ c) xP) ?_;simp only[am,Nat.reduceAdd,jL,g1];refine bK.intro (rW eT b Z (l++ub c) s c 5 c.pd (!jN (lQ c)) (by omega)) ?_;simp only[am,jL,g1];rw[<-e];exact aX rfl qY ⟨rfl,rfl⟩
def ana(D:ah)(b Z:Nat)(l:List aY)(s:aH)(c:az)(hs:s.wO)(hl:l.length<=90000000)(hn:c.an.length<=100000) :
 dY 106 [.ptr (.out b) 0] (eZ D b Z l s c) (.bH []) (eZ D b Z (l++lI s c) s c):=by
 have U:=hs.1.1;have h2:=hs.1.2.1;have ZR:IntKind.i64.wrap (64 - (s.vars.length:Int))=64 - (s.vars.length:Nat):=wrap_i64 (by omega) (by omega);refine ag4.aV ?_;simp only[aU,am,a7,Nat.reduceAdd,aN,jL];have mb:(c.op=6\/c.op=7)->(decide (c.op=6)=ab)\/(decide (c.op=6)=ar/\decide (c.op=7)=ab):=λh=>by
  by_cases k:c.op=6
  .exact .inl (aK k)
  .exact .inr ⟨aJ k,aK (h.resolve_left k)⟩
 by_cases wb:c.op=6\/c.op=7
 .have e:lI s c=ep (decide ((64:Int) - (s.vars.length:Nat)<(c.an.length:Nat))) 7 c.pos:=by rw[lI,aF wb]
  rcases mb wb with k | ⟨k,k2⟩
  case' inl=>simp only[am,Nat.reduceAdd,aN,aN,jL,k,ZR]
  case' inr=>simp only[am,Nat.reduceAdd,aN,aN,jL,k,k2,ZR]
  all_goals
   refine bK.intro (rW D b Z l s c 7 c.pos (decide ((64:Int) - (s.vars.length:Nat)<(c.an.length:Nat))) (by omega)) ?_;simp only[am];exact aX rfl (ah.bm _) ⟨rfl,by rw[e]⟩
 have e0:lI s c=ep (decide ((if c.op=3 then(8:Int) else if c.op=4 then 8 else 64)<((if c.op=3 then(jQ s c).bC.length else c.an.length):Nat))||decide (16<=s.ba.length)) 7 c.pos:=by rw[lI,aB wb]
 have Ly:decide ((16:Int)<=(s.ba.length:Nat))=decide (16<=s.ba.length):=su.2 (by omega);simp only[am,aJ (λh=>wb (.inl h)),aJ (λh=>wb (.inr h))];have fin:∀(n:Nat) (m:Int),lI s c=ep (decide (m<(n:Nat))||decide (16<=s.ba.length)) 7 c.pos->∀B:Bool,B=(decide (m<(n:Nat))||decide (16<=s.ba.length)) ->
  dY 172 [.ptr (.out b) 0,.bool B,.int .i64 7,.int .i64 c.pos] (eZ D b Z l s c) (.bH []) (eZ D b Z (l++lI s c) s c):=λn m e B hB=>by
  rw[e,hB];exact rW D b Z l s c 7 c.pos _ (by omega)
 by_cases h4:c.op=4
 .have e:lI s c=ep (decide ((8:Int)<(c.an.length:Nat))||decide (16<=s.ba.length)) 7 c.pos:=by rw[e0,aB (by omega),aF h4,aB (by omega)]
  simp only[am,aK h4];cases hb:decide ((8:Int)<(c.an.length:Nat)) with
  | true =>
   simp only[am,Nat.reduceAdd,jL];refine bK.intro (fin _ _ e ab (by rw[hb];rfl)) ?_;simp only[am];exact aX rfl (ah.bm _) ⟨rfl,rfl⟩
  | false =>
   simp only[am,Nat.reduceAdd,aN,aN,jL,Ly];refine bK.intro (fin _ _ e (decide (16<=s.ba.length)) (by rw[hb];rfl)) ?_;simp only[am];exact aX rfl (ah.bm _) ⟨rfl,rfl⟩
 simp only[am,aJ h4]
 by_cases h3:c.op=3
 .have e:lI s c=ep (decide ((8:Int)<((jQ s c).bC.length:Nat))||decide (16<=s.ba.length)) 7 c.pos:=by rw[e0,aF h3,aF h3]
  simp only[am,aH.al,jL,aK h3,dZ];refine bK.intro (XD s c _ hs hn) ?_;simp only[am,aN,bz.al,aN];cases hb:decide ((8:Int)<((jQ s c).bC.length:Nat)) with
  | true =>
   simp only[am,Nat.reduceAdd,jL];refine bK.intro (fin _ _ e ab (by rw[hb];rfl)) ?_;simp only[am];exact aX rfl (ah.bm _) ⟨rfl,rfl⟩
  | false =>
   simp only[am,Nat.reduceAdd,aN,aN,jL,Ly];refine bK.intro (fin _ _ e (decide (16<=s.ba.length)) (by rw[hb];rfl)) ?_;simp only[am];exact aX rfl (ah.bm _) ⟨rfl,rfl⟩
 .have e:lI s c=ep (decide ((64:Int)<(c.an.length:Nat))||decide (16<=s.ba.length)) 7 c.pos:=by rw[e0,aB h3,aB h4,aB h3]
  simp only[am,aJ h3];cases hb:decide ((64:Int)<(c.an.length:Nat)) with
  | true =>
   simp only[am,Nat.reduceAdd,jL];refine bK.intro (fin _ _ e ab (by rw[hb];rfl)) ?_;simp only[am];exact aX rfl (ah.bm _) ⟨rfl,rfl⟩
  | false =>
   simp only[am,Nat.reduceAdd,aN,aN,jL,Ly];refine bK.intro (fin _ _ e (decide (16<=s.ba.length)) (by rw[hb];rfl)) ?_;simp only[am];exact aX rfl (ah.bm _) ⟨rfl,rfl⟩
def Y1(s:aH)(c:az)(hs:s.wO)(hg:TZ D)(hn:c.an.length<=100000)(hp:c.bw.length<=100000):
 a8 54 [.agg s.enc,.agg c.enc] D (.agg (jT s c).enc):=by
 refine akd.aV ?_;simp only[aU,am,a7,Nat.reduceAdd,aH.al];simp only[am,dZ,ft];refine cl (N0 c.op _) ?_;have mb:(kx c.op=ab)\/(kx c.op=ar/\nj c.op=ar)\/(kx c.op=ar/\nj c.op=ab):=by
  cases kx c.op<;>cases nj c.op<;>simp
 rcases mb with h5 | ⟨h5,h6⟩ | ⟨h5,h6⟩
 case' inl=>simp only[am,aH.al,h5,dZ,VC]
 case' inr.inl =>
  simp only[am,h5,ft];refine cl (Gw c.op _) ?_;simp only[am,Nat.reduceAdd,h6];exact aX rfl (ah.bm _) ⟨by rw[jT,h5,h6];rfl,rfl⟩
 case' inr.inr =>
  simp only[am,h5,ft];refine cl (Gw c.op _) ?_;simp only[am,aH.al,h6,dZ,VC]
 all_goals
  have e:hD (r6 s c)=jT s c:=by rw[jT,h5];first | rfl | rw[h6];rfl
  intro b hb;have hb:D.box b=none:=hb;simp only[am];refine bI.tok 0 λZ bE=>⟨_,_,(D.set b _).set b (kX Z [] s c),fc.rfl,rfl,λi c' hc=>⟨c',hc,fc.rfl⟩,rH.set iS (by simp[jz,kX,pD]),?_⟩
  have bE:D.aR Z=none:=bE;rw[ah.set_set,show(D.set b (kX Z [] s c)).a_ Z 0=eZ D b Z [] s c from rfl];have l1:=@alW s c;have l2:=@Ov s c c.an.length;have l3:=@XF c c.bw;have l4:=@ari c;have l5:=@aor s c;simp only[am];refine cl (am' D b Z [] s c hs.1 (by simp)) ?_;simp only[am,gQ];refine cl (anc D b Z (qf s c) s c hs.1 (by omega) hn) ?_;simp only[am];refine cl (anm D b Z (qf s c++lL s c c.an.length) s c hg (by rw[bM];omega) hn hp) ?_;simp only[am];refine cl (ana D b Z (qf s c++lL s c c.an.length++ub c++qy c) s c hs (by simp only[bM,ub];omega) hn) ?_;simp only[am,jL];refine cl (ch.eC (as' := [.sl .no 2 ((r6 s c).map aY.enc)]) (zN (r6 s c) _ (by simp only[r6,bM,ub];omega)) ⟨dp.no,trivial⟩ bW.rfl) ?_;simp only[am,aY.al];exact aX rfl (ano hb bE) ⟨by rw[e];rfl,rfl⟩
def akm:aS prog 74 (sq [rg 0 [ox 2 2 0,ox 3 17 1,oZ 4 [2,72]],rg 6 [fo 4 3,oC 138 [7],oY sA [(1,1,.s 8)],oR 5 sA,o2 67 5],sq [rg 10 [fo 0 3],.block 0 (sq [rg 14 [oB .eql 11 1,o1 13],cd 13 (rg 15 [of 0 5,od aj (.store 1 (.s 15) (.c (.int .i64 1)))]) (sq [rg 17 [oB .eql 11 2,o1 16],cd 16 (rg 18 [of 0 5,od aj (.store 1 (.s 18) (.c (.int .i64 2)))]) (sq [rg 20 [oB .eql 11 4,o1 19],cd 19 (rg 21 [ol 17 3,oC 139 [21],of 0 5,od aj (.store 1 (.s 23) (.c (.int .i64 3))),of 2 5,os 65 24 22]) (sq [rg 26 [oB .eql 11 5,o1 25],cd 25 (rg 27 [ol 17 3,oC 139 [27],of 0 5,od aj (.store 1 (.s 29) (.c (.int .i64 4))),of 2 5,os 65 30 28]) (sq [rg 32 [oB .eql 11 3,o1 31],cd 31 (sq [rg 33 [ol 2 2,ol 17 3,oC 140 [33,34],o2 2 4],.ret]) (sq [rg 12 [oW [2,72] [],o2 2 4],.ret])])])])])])],rg 36 [ol 67 5,oC 141 [36],o2 2 4],.ret]) [.cell 4 ab 2] 38:=aW func74
def ahm:aS prog 137 (sq [rg 0 [ox 1 2 0,oZ 2 [2,72]],rg 4 [ol 2 1,n1 2,oC 198 [5],oZ 3 [2,72],o2 2 3],rg 7 [fo 0 1,of 0 3,os 1 9 8],rg 10 [ol 2 3,o2 2 2],.ret]) [.cell 2 ab 2] 11:=aW func137
def ahr:aS prog 141 (sq [rg 0 [ox 1 67 0,oZ 2 [2,72]],rg 3 [ol 67 1,oC 201 [3],n1 67,oW [2,72] [(1,1,5)],o2 2 2],.ret]) [.cell 2 ab 2] 7:=aW func141
def Ji(f:bh)(D:ah)(hf:f.an.length<=100000):a8 141 [.agg f.enc] D (.agg (bz.mk ar [f]).enc):=by
 refine ahr.aV ?_;simp only[aU,am,a7,Nat.reduceAdd,bh.al];refine cl (R6 f _ hf) ?_;simp only[am,Nat.reduceAdd,bh.al];exact aX rfl (ah.bm _) ⟨rfl,rfl⟩
def auV(s:aH)(c:az)(D:ah)(hs:s.wO)(hn:c.an.length<=100000)(hp:c.bw.length<=100000):a8 74 [.agg s.enc,.agg c.enc] D (.agg (jV s c).enc):=by
 have hw:∀(k:Int) (r:Rl),(⟨k,c7 c.an,r⟩:bh).an.length<=100000:=λk r=>by simp only[xb];exact hn
 refine akm.aV ?_;simp only[aU,am,a7,Nat.reduceAdd,aH.al,dZ,dD];refine cl (JR c.an D hn) ?_;simp only[am,Nat.reduceAdd,bh.al,ft,Ez]
 by_cases U:c.op=1
 .simp only[am,bh.al,aK U,Ez];refine cl (Ji _ D (hw _ _)) ?_;simp only[am,bz.al];exact aX rfl (ah.bm _) ⟨by rw[jV,aF U];rfl,rfl⟩
 by_cases h2:c.op=2
 .simp only[am,bh.al,aJ U,aK h2,Ez];refine cl (Ji _ D (hw _ _)) ?_;simp only[am,bz.al];exact aX rfl (ah.bm _) ⟨by rw[jV,aB U,aF h2];rfl,rfl⟩
 by_cases h4:c.op=4
 .simp only[am,dZ,aJ U,aJ h2,aK h4];refine cl (O_ c D hn hp) ?_;simp only[am,Rl.al,bh.al,Ez];refine cl (Ji _ D (hw _ _)) ?_;simp only[am,bz.al];exact aX rfl (ah.bm _) ⟨by rw[jV,aB U,aB h2,aF h4];rfl,rfl⟩
 by_cases h5:c.op=5
 .simp only[am,dZ,aJ U,aJ h2,aJ h4,aK h5];refine cl (O_ c D hn hp) ?_;simp only[am,Rl.al,bh.al,Ez];refine cl (Ji _ D (hw _ _)) ?_;simp only[am,bz.al];exact aX rfl (ah.bm _) ⟨by rw[jV,aB U,aB h2,aB h4,aF h5];rfl,rfl⟩
 by_cases h3:c.op=3
 .simp only[am,aH.al,dZ,aJ U,aJ h2,aJ h4,aJ h5,aK h3];refine cl (XD s c D hs hn) ?_;simp only[am,bz.al];exact aX rfl (ah.bm _) ⟨by rw[jV,aB U,aB h2,aB h4,aB h5,aF h3];rfl,rfl⟩
 .simp only[am,Nat.reduceAdd,aJ U,aJ h2,aJ h4,aJ h5,aJ h3];exact aX rfl (ah.bm _) ⟨by rw[jV,aB U,aB h2,aB h4,aB h5,aB h3];rfl,rfl⟩
def auv(s:bz)(D:ah)(hs:s.ok):a8 137 [.agg s.enc] D (.agg s.enc):=by
 refine ahm.aV ?_;simp only[aU,am,a7,Nat.reduceAdd,bz.al];refine cl (ch.eC (as' := [.sl .no 2 ([s].map bz.enc)]) (XE [s] D (by simp) (λx hx=>by simp at hx;subst hx;exact hs) (by have:=hs.1;simp;omega)) ⟨dp.no,trivial⟩ bW.rfl) ?_;simp only[am,Nat.reduceAdd,bz.al];refine aX rfl (ah.bm _) ⟨?_,rfl⟩;simp only[zZ,qI,Ky,eD];rfl
def aj6:aS prog 42 (sq [rg 0 [ox 2 2 0,ox 3 17 1,oZ 4 [8,8]],rg 11 [ol 2 2,oC 72 [11],oZ 5 [8,8],o2 2 5],sq [rg 13 [ol 2 2,ol 17 3,oC 54 [13,14],ow 0 15,nB .neq 0],cr 17 18 [ol 2 5,o2 2 4]],sq [rg 19 [fo 0 3,oC 73 [20]],ci 21 (dg 22 [of 0 5,mM [1],no,of 2 3,nf 0,mM [1],no,ol 2 2,ol 17 3,oC 74 [27,28],oW [1,2,72] [(0,1,26),(1,2,29)],n1 3,na 3 23,of 0 5,os 1 33 32])],sq [rg 34 [fo 0 3,oC 75 [35]],ci 36 (sq [rg 6 [oi 1],sq [rg 37 [fo 0 3,nB .eql 7],ci 39 (rg 6 [oi 2])],rg 41 [ol 2 2,of 2 3,nF 0,oC 76 [41,44],o1 40,oe 40 0,oe 40 1,ot 7 46,o1 8],rg 48 [fo 4 3,nL,oi 0],lp 50 0 (sq [rg 53 [oA 2 49 51,nl 2,oZ 10 [1,0],o2 2 10],rg 55 [fo 1 5,fo 0 10,om 6,om 7,oW [1,0,0] [(0,1,58),(1,1,59),(2,1,60)],n1 3,na 3 56,of 1 5,os 1 64 63]]) 65])],rg 66 [ol 2 5,o2 2 4],.ret]) [.cell 4 ab 2] 67:=aW func42
def akk:aS prog 72 (sq [rg 0 [ox 1 2 0,oZ 2 [8,8]],rg 0 [oZ 3 [8,8]],sq [rg 6 [fo 0 1,nL,oi 0],lp 8 0 (sq [rg 11 [oA 3 7 9,nl 3,oZ 5 [1,2,72],o2 3 5],dg 13 [of 0 3,mM [1],no,of 0 5,mM [1],no,of 1 5,nl 2,oC 137 [18],oW [1,2,72] [(0,1,16),(1,2,19)],n1 3,na 3 14,of 0 3,os 1 23 22]]) 24],rg 25 [fo 1 3,fo 1 1,na 3 26,of 1 3,os 1 30 29],rg 31 [ol 2 3,o2 2 2],.ret]) [.cell 2 ab 2] 32:=aW func72
def tW(l:List dJ):List (List V):=l.map dJ.enc
def w9(l:List db):List (List V):=l.map db.enc
def Oi{l:List dJ}:(tW l).length=l.length:=by simp[tW]
def aws{l:List db}:(w9 l).length=l.length:=by simp[w9]
def ao6{l:List dJ}{x:dJ}:tW (l++[x])=tW l++[x.enc]:=by simp[tW]
def awr{l:List db}{x:db}:w9 (l++[x])=w9 l++[x.enc]:=by simp[w9]
def ao7{l:List dJ}(h:j<l.length):(l.map dJ.enc)[((j:Nat):Int).toNat]?=aa l[j].enc:=by simp[h]
def clO(s:aH)(D:ah)(v:V)(σ' : ah):Prop:=∃Z υ,Z≠υ/\D.aR Z=aj/\D.aR υ=aj/\v = .agg [.sl (.tk Z) 3 (tW s.ba),.sl (.tk υ) 3 (w9 s.vars)]/\σ' = (D.a_ Z s.ba.length).a_ υ s.vars.length
def auu(s:aH)(D:ah)(hs:s.ok):ch prog 72 [.agg s.enc] D (clO s D):=by
 obtain⟨U,h2,h3⟩:=hs;refine akk.aV ?_;simp only[aU,am,a7,Nat.reduceAdd,aH.al,aN];obtain⟨Q,hQ⟩:∃Q:Nat->List dJ,∀i,Q i=s.ba.take i:=⟨_,λ_=>rfl⟩;have uM:Q 0=[]:=by rw[hQ];rfl
 have xK:Q s.ba.length=s.ba:=by rw[hQ,dX]
 refine cn (s.ba.length) (λi (Z:Nat)=>⟨[.any,.ptr (.aE 0) 0,.ptr (.aE 1) 0,.ptr (.aE 2) 0,.any,.any,.any,.sl .no 3 (s.ba.map dJ.enc),.int .i64 (s.ba.length:Nat),.int .i64 (i:Nat)]++aq 22 .any,[s.enc,[.sl .aZ 3 [],.sl .aZ 3 []],[.sl (.tk Z) 3 (tW (Q i)),.sl .aZ 3 []]],D.a_ Z (Q i).length⟩) (λi Z=>(D.aR Z=aj)) λF hF JF aT=>⟨?_,?_,?_⟩
 .refine HD 0 λZ bE=>⟨Z,ey (aT _ _) bE,?_,?_,?_⟩
  all_goals simp[hF,aq,pD,I9,uM,tW]
 .rintro i Z hi bE;have qc:Q (i+1)=Q i++[s.ba[i]]:=by rw[hQ,hQ,iG hi]
  have zh:(Q i).length+1<=100001:=by rw[hQ,iN];omega
  have hlen:(tW (Q i)).length=(Q i).length:=Oi;have EN:(Q (i+1)).length=(Q i).length+1:=by rw[qc];simp
  simp only[hF,aq,am,cc hi];refine ix (ao7 hi) ?_;simp only[am,Nat.reduceAdd,aH.al,bz.al,dJ.Jz,dJ.JA,dJ.DB,dJ.JB];refine bK.intro (auv s.ba[i].shape (D.a_ Z (Q i).length) (h3 _ (dj hi))) ?_;simp only[am,Nat.reduceAdd,bz.al];refine xo (by rw[hlen];simp[aQ];omega) (by rw[hlen];exact jG) ?_;rw[hlen];simp only[am,aI,aH.al,jU,bJ hi,fI];rw[show V.aG s.ba[i].name::s.ba[i].shape.enc=s.ba[i].enc from rfl,<-ao6,<-qc,<-EN];refine fk (Z) hi ?_ ?_ ?_ ?_ ?_ ?_
  .exact ey (aT _ _) (bE)
  all_goals simp[hF,aq,am,bt,bR,du,V.lo,aH.cP]
 .rintro Z bE;simp only[hF,aq,am,aI,cE,aI,aH.al,xK];refine Ha (by simp[aQ];omega) λυ lF=>?_
  simp only[am,Nat.reduceAdd,aN,aN];have a9:Z≠υ:=λe=>by rw[<-e,jG] at lF;simp at lF
  exact ato rfl (ah.bm _) ⟨Z,υ,a9,bE,by rw[qE a9.symm] at lF;exact lF,by simp[tW,w9],by simp⟩
variable{b Z:Nat}
def avB{υ a d:Nat}(U:D.aR Z=aj)(h2:D.aR υ=aj):D.sub (((D.a_ Z a).a_ υ b).a_ Z d):=by
 refine⟨λ_ _ h=>h,λt n h=>?_,λ_ _ h=>h⟩;have e1:t≠υ:=λe=>by rw[e,h2] at h;simp at h
 have e2:t≠Z:=λe=>by rw[e,U] at h;simp at h
 rw[qE e2,qE e1,qE e2];exact h
def adR{op:Int}(h:kx op=ab):op=1\/op=2\/op=3\/op=4\/op=5:=by
 simp only[kx,bg,bQ] at h;omega
def PU{υ a:Nat}(U:D.aR Z=aj)(h2:D.aR υ=aj):D.sub ((D.a_ Z a).a_ υ b):=by
 refine⟨λ_ _ h=>h,λt n h=>?_,λ_ _ h=>h⟩;have e1:t≠υ:=λe=>by rw[e,h2] at h;simp at h
 have e2:t≠Z:=λe=>by rw[e,U] at h;simp at h
 rw[qE e1,qE e2];exact h
def Ri(s:aH)(c:az)(hs:s.wO)(hg:TZ D)(hn:c.an.length<=100000)(hp:c.bw.length<=100000):
 a8 42 [.agg s.enc,.agg c.enc] D (.agg (lr s c).enc):=by
 have hl:=hs.1.1;have hv:=hs.1.2.1;refine aj6.aV ?_;simp only[aU,am,a7,Nat.reduceAdd,aH.al,dZ];refine(auu s D hs.1).mono ?_;rintro v eT ⟨Z,υ,a9,bE,lF,rfl,rfl⟩;have t1:((D.a_ Z s.ba.length).a_ υ s.vars.length).aR Z=aa s.ba.length:=by rw[qE a9,jG]
 simp only[am,Nat.reduceAdd,aH.al,dZ];refine cl (Y1 s c (D:=(D.a_ Z s.ba.length).a_ υ s.vars.length) hs hg hn hp) ?_
 by_cases hf:(jT s c).cls=0
 case neg =>
  simp only[am,Nat.reduceAdd,fL,aY.al,hf];exact aX rfl (PU bE lF) ⟨by rw[lr,aF hf];rfl,rfl⟩
 simp only[am,b9,aY.al,ft,hf];refine cl (N0 c.op _) ?_;cases h5:kx c.op with
 | true =>
  simp only[am,aH.al,dZ,dD];refine bK.intro (auV s c ((D.a_ Z s.ba.length).a_ υ s.vars.length) hs hn hp) ?_;simp only[am,Nat.reduceAdd,bz.al];refine xo (by rw[Oi];simp[aQ];omega) (by rw[Oi];exact t1) ?_;simp only[am,ft,dD];have rT:nj c.op=false:=by
   rcases adR h5 with e | e | e | e | e<;>simp[nj,e]
  refine cl (Gw c.op _) ?_;simp only[am,Nat.reduceAdd,rT];refine aX rfl ?_ ⟨?_,rfl⟩
  .exact avB bE lF
  .rw[lr,aB (by simp[hf]),aF h5];simp[V.erase,bD,aH.enc,tW,w9,dJ.enc]
 | false =>
  simp only[am,ft];refine cl (Gw c.op _) ?_;cases h2:nj c.op with
  | false =>
   simp only[am,Nat.reduceAdd];exact aX rfl (PU bE lF) ⟨by rw[lr,aB (by simp[hf]),aB (by simp[h5]),aB (by simp[h2])];rfl,rfl⟩
  | true =>
   simp only[am,ft];obtain⟨w,hw⟩:∃w:aA->db,∀x,w x=⟨x.au,if c.op=7 then 2 else 1,cN (gV s.ba c.name.au)⟩:=⟨_,λ_=>rfl⟩;obtain⟨Q,hQ⟩:∃Q:Nat->List db,∀i,Q i=s.vars++(c.an.take i).map w:=⟨_,λ_=>rfl⟩;have uM:Q 0=s.vars:=by rw[hQ];simp
   have xK:(⟨s.ba,Q c.an.length⟩:aH)=lr s c:=by
    rw[lr,aB (by simp[hf]),aB (by simp[h5]),aF h2,hQ,dX];rw[funext hw]
   by_cases h7:c.op=7
   case' pos=>simp only[am,aH.al,dD,aK h7]
   case' neg=>simp only[am,aH.al,dD,aJ h7]
   all_goals
    refine cl (wT s c.name.au _ hs.1.1 hs.1.2.1) ?_;simp only[am,aN,aN,dD];refine cn (c.an.length) (λi (x:Unit)=>⟨[.any,.any,.ptr (.aE 0) 0,.ptr (.aE 1) 0,.ptr (.aE 2) 0,.ptr (.aE 3) 0,.int .i64 (if c.op=7 then 2 else 1),.int .i64 (cN (gV s.ba c.name.au)),.any,.any,.any,.any,.any,.any,.any,.any,.any,.any,.any,.any,.any,.any,.any,.any,.any,.any,.any,.any,.any,.any,.any,.any,.any,.any,.any,.any,.any,.any,.any,.any,.any,.any,.any,.any,.any,.any,.any,.any,.any,.sl .no 2 (c.an.map aA.enc),.int .i64 (c.an.length:Nat),.int .i64 (i:Nat)]++aq 15 .any,[s.enc,c.enc,[.sl .aZ 3 [],.sl .aZ 3 []],[.sl (.tk Z) 3 (tW s.ba),.sl (.tk υ) 3 (w9 (Q i))]],(D.a_ Z s.ba.length).a_ υ (Q i).length⟩) (λi x=>(True)) λF hF JF aT=>⟨?_,?_,?_⟩
    .refine en aT (()) (trivial) ?_ ?_ ?_
     all_goals simp[hF,aq,am,bt,h7,uM]
    .rintro i x hi -;have qc:Q (i+1)=Q i++[w c.an[i]]:=by rw[hQ,hQ,iG hi,fX,eN];rfl
     have zh:(Q i).length+1<=300000:=by rw[hQ];simp only[bM,aN,iN];omega
     have hlen:(w9 (Q i)).length=(Q i).length:=aws;have EN:(Q (i+1)).length=(Q i).length+1:=by rw[qc];simp
     simp only[hF,aq,am,cc hi];refine ix (Cf hi) ?_;simp only[am,Nat.reduceAdd,aA.al,yD];refine kM (by rw[hlen];simp[aQ];omega) (by rw[hlen];exact jG) ?_;rw[hlen];simp only[am,aI,jU,bJ hi,fI];rw[show [V.aG c.an[i].au,V.int .i64 (if c.op=7 then 2 else 1),V.int .i64 (cN (gV s.ba c.name.au))]=(w c.an[i]).enc by rw[hw];rfl,<-awr,<-qc,<-EN];refine fk (()) hi ?_ ?_ ?_ ?_ ?_ ?_
     .exact ey (aT _ _) (trivial)
     all_goals simp[hF,aq,am,bt,bR,du,V.lo,aH.cP,az.enc,az.dc]
    .rintro x -;simp only[hF,aq,am,aI,cE,Nat.reduceAdd,aI];refine aX rfl (PU bE lF) ⟨?_,rfl⟩;rw[<-xK];rfl
def ag8:aS prog 11 (sq [rg 2 [oz 1],rg 3 [oz 6],sq [rg 6 [om 0,oC 21 [6],nL,oi 0],lp 8 0 (sq [rg 11 [oA 1 7 9,no,o1 5],rg 13 [om 3,om 5,oq (.n6 (.s 13) (.s 14)),o1 3],rg 16 [om 3,oq (.ko 1 [(.c (.int .u8 10))]),na 1 16,o1 3]]) 19],rg 20 [om 3,oq (.uD (.s 20)),o1 2],.ret]) [.tmp 2] 22:=aW func11
def ahw:aS prog 15 (sq [rg 0 [oZ 2 [0,0,0]],sq [rg 3 [om 0,oq (.sy ar (.s 3) (.c .jr))],cr 4 5 [oW [0,0,0] [],o2 3 2]],dg 6 [mk 0,nf 0,nF 4,mk 0,nf 0,nF 2,nL,mk 0,nF 5,nL,nB .add 1,oW [0,0,0] [(0,1,10),(1,1,16),(2,1,22)],o2 3 2],.ret]) [.cell 2 ab 3] 24:=aW func15
def aij:aS prog 21 (sq [rg 2 [oz 6],sq [rg 3 [om 0,oq (.sy ar (.s 3) (.c .jr))],cr 4 2 [oz 6]],rg 5 [oq (.ko 1 []),mk 0,nf 0,nF 3,na 1 5,o1 2],.ret]) [.tmp 2] 12:=aW func21
def aiO:aS prog 24 (sq [rg 0 [oZ 2 [8,8,23]],rg 0 [oZ 3 [8,8,23]],sq [rg 6 [om 0,oq (.sy ar (.s 6) (.c .jr))],cr 7 8 [ol 3 3,o2 3 2]],rg 9 [mk 0,nf 0,nf 0,nl 2,oW [0,0,1,0,7,9,0,0,0,1,7,10,0,0,1,7,10] [],oC 42 [13,14],of 0 3,os 2 16 15],sq [rg 17 [mk 0,nf 0,nF 2,nL,oi 0],lp 22 0 (sq [rg 25 [oA 18 21 23,nl 18,oR 5 kP,o2 18 5],dg 27 [of 2 3,mM [1],no,ol 18 5,oC 43 [29],n1 18,na 18 28,of 2 3,os 1 33 32]]) 34],rg 35 [ol 3 3,o2 3 2],.ret]) [.cell 2 ab 3] 36:=aW func24
def aj7:aS prog 43 (sq [rg 0 [ox 1 18 0,oR 2 kP],rg 3 [oq (.ko 10 []),fo 2 1,na 10 3,of 2 1,os 1 7 6],rg 8 [oq (.ko 10 []),of 12 1,nF 0,na 10 8,of 12 1,nf 0,os 1 14 12],rg 15 [oq (.ko 10 []),of 14 1,nF 0,na 10 15,of 14 1,nf 0,os 1 21 19],rg 22 [ol 18 1,o2 18 2],.ret]) [.cell 2 ab 18] 23:=aW func43
def SC(x:dG)(D:ah)(h:Cu x):a8 43 [.agg x.enc] D (.agg x.enc):=by
 obtain⟨U,h2,h3⟩:=h;refine aj7.aV ?_;simp only[aU,am,a7,Nat.reduceAdd,lu];refine yY (by simp[aQ];omega) ?_;simp only[am,lu,gQ];refine yY (by simp[aQ];omega) ?_;simp only[am,lu,gQ];refine yY (by simp[aQ];omega) ?_;simp only[am,lu,gQ];exact aX (v:=.agg x.enc) dG.dV (ah.bm _) ⟨by simp only[V.erase,dG.dL],rfl⟩
def PN{s:fq}{k:Tk}(h:D.box b=aa (kZ k s))(hn:s.fv.length<=100000):a8 15 [.ptr (.out b) 0] D (.agg (qC s).enc):=by
 rw[kZ] at h;refine ahw.aV ?_;simp only[aU,am,a7,Nat.reduceAdd,G'];simp only[am,Nat.reduceAdd,aN,aN,h,wrap_i64 (x:=((s.fv.length:Nat):Int)+1) (by omega) (by omega)];exact aX rfl (ah.bm _) ⟨rfl,rfl⟩
def We{s:fq}{k:Tk}(h:D.box b=aa (kZ k s))(hn:s.live.lines.length<=100000):a8 21 [.ptr (.out b) 0] D (.sl .no 1 (cD s.live.lines)):=by
 rw[kZ] at h;refine aij.aV ?_;simp only[aU,am,a7,Nat.reduceAdd,G'];simp only[am,h];refine yY (by simp[eB,aQ];omega) ?_;simp only[am,gQ];exact aX rfl (ah.bm _) ⟨rfl,rfl⟩
def BL(h:j<l.length):(cD l)[((j:Nat):Int).toNat]?=aa [.aG l[j]]:=by simp[cD,h]
theorem afG:dK [10]=[[.int .u8 10]]:=rfl
def avs{u:V}(hu:u.c9=ab)(hl:mg l<=1000000)(hc:a8 21 [u] D (.sl .no 1 (cD l))):a8 11 [u] D (.aG (r9 l)):=by
 have Ip:=@Jc l;refine ag8.aV ?_;simp only[aU,am,a7,Nat.reduceAdd];refine⟨hu,cl hc ?_⟩;simp only[am,eB];refine cn (l.length) (λi (Z:Nat)=>⟨[.any,.any,.any,.sl (.tk Z) 1 (dK (r9 (l.take i))),.any,.any,.any,.sl .no 1 (cD l),.int .i64 (l.length:Nat),.int .i64 (i:Nat)]++aq 12 .any,[],D.a_ Z (r9 (l.take i)).length⟩) (λi Z=>(D.aR Z=aj)) λF hF JF aT=>⟨?_,?_,?_⟩
 .refine HC 0 λZ bE=>⟨Z,ey (aT _ _) bE,?_,?_,?_⟩
  all_goals simp[hF,aq,pD,r9,dK]
 .rintro i Z hi bE;have hn:=@ao5 l (i+1);rw[<-P2,ZH hi] at hn;simp only[bM,fI] at hn;simp only[hF,aq,am,cc hi];refine ix (BL hi) ?_;simp only[am,cX];refine⟨_,rfl,?_⟩;refine kM (by rw[jJ,jJ];simp[aQ];omega) (by rw[jJ,jG]) ?_;simp only[am,jU];rw[<-afG,<-Ex,jJ,jJ,<-bM];refine kM (by rw[jJ,jJ];simp[aQ];omega) (by rw[jJ,jG]) ?_;simp only[am,aI,jU,bJ hi];rw[<-Ex,jJ,jJ,<-bM,<-ZH hi];exact nx aT (Z) hi (bE)
 .rintro Z bE;simp only[hF,aq,am,cX,aI,cE,aI,dX];refine⟨_,_,rfl,?_⟩;refine aX rfl (s4 bE) ⟨?_,rfl⟩;simp[V.erase]
def Hb{l:List dG}(h:j<l.length):(l.map dG.enc)[((j:Nat):Int).toNat]?=aa l[j].enc:=by simp[h]
def yZ(l:List dG):List (List V):=l.map dG.enc
def aba{l:List dG}:(yZ l).length=l.length:=by simp[yZ]
def aa'{l:List dG}{x:dG}:yZ (l++[x])=yZ l++[x.enc]:=by simp[yZ]
def asj(l:Lv):V:=.agg [.sl .no 3 (l.fQ.ba.map dJ.enc),.sl .no 3 (l.fQ.vars.map db.enc),.sl .no 18 (l.fE.map dG.enc)]
theorem auA{a b c:V}:over [a,b,c] s.enc=[.sl .no 3 (s.ba.map dJ.enc),.sl .no 3 (s.vars.map db.enc),c]:=rfl
def aaR:lr s .zero=s:=by simp[lr,jT,kx,nj,az.zero,aY.zero]
def XC{s:fq}{k:Tk}(h:D.box b=aa (kZ k s))(hg:TZ D)(ho:s.live.ok):a8 24 [.ptr (.out b) 0] D (asj s.live):=by
 obtain⟨l,fr⟩:=s;have hm:=ho.m;have ha:=ho.a;simp only at hm ha;rw[kZ] at h;have ca:=Ri l.fQ .zero (D:=D) ho.s hg (by simp[az.zero]) (by simp[az.zero]);rw[aaR] at ca;refine aiO.aV ?_;simp only[aU,am,a7,Nat.reduceAdd,G'];simp only[am,h];refine cl (ch.eC (as' := [.agg l.fQ.enc,.agg az.zero.enc]) ca ⟨dp.rfl,dp.erase,trivial⟩ bW.rfl) ?_;simp only[am,aN,aH.al,aN,h,auA];obtain⟨Q,hQ⟩:∃Q:Nat->List dG,∀i,Q i=l.fE.take i:=⟨_,λ_=>rfl⟩;have uM:Q 0=[]:=by rw[hQ];rfl
 have xK:Q l.fE.length=l.fE:=by rw[hQ,dX]
 refine cn (l.fE.length) (λi (Z:Nat)=>⟨[.ptr (.out b) 0,.any,.ptr (.aE 0) 0,.ptr (.aE 1) 0,.any,.any,.any,.any,.any,.any,.any,.any,.any,.any,.any,.any,.any,.any,.any,.any,.any,.sl .no 18 (l.fE.map dG.enc),.int .i64 (l.fE.length:Nat),.int .i64 (i:Nat)]++aq 12 .any,[[.sl .aZ 3 [],.sl .aZ 3 [],.sl .aZ 18 []],[.sl .no 3 (l.fQ.ba.map dJ.enc),.sl .no 3 (l.fQ.vars.map db.enc),.sl (.tk Z) 18 (yZ (Q i))]],D.a_ Z (Q i).length⟩) (λi Z=>(D.aR Z=aj)) λF hF JF aT=>⟨?_,?_,?_⟩
 .refine HD 0 λZ bE=>⟨Z,ey (aT _ _) bE,?_,?_,?_⟩
  all_goals simp[hF,aq,pD,I9,uM,yZ]
 .rintro i Z hi bE;have qc:Q (i+1)=Q i++[l.fE[i]]:=by rw[hQ,hQ,iG hi]
  have zh:(Q i).length+1<=100001:=by rw[hQ,iN];omega
  have hlen:(yZ (Q i)).length=(Q i).length:=aba;have EN:(Q (i+1)).length=(Q i).length+1:=by rw[qc];simp
  simp only[hF,aq,am,cc hi];refine ix (Hb hi) ?_;simp only[am,Nat.reduceAdd,lu];refine bK.intro (SC l.fE[i] (D.a_ Z (Q i).length) (ha _ (dj hi))) ?_;simp only[am,lu];refine xo (by rw[hlen];simp[aQ];omega) (by rw[hlen];exact jG) ?_;rw[hlen];simp only[am,aI,jU,bJ hi,fI];rw[<-aa',<-qc,<-EN];refine fk (Z) hi ?_ ?_ ?_ ?_ ?_ ?_
  .exact ey (aT _ _) (bE)
  all_goals simp[hF,aq,am,bt,bR,du,V.lo]
 .rintro Z bE;simp only[hF,aq,am,aI,cE,Nat.reduceAdd,aI,xK];exact aX rfl (s4 bE) ⟨rfl,rfl⟩
def aiX:aS prog 25 (sq [rg 2 [oz 2],rg 3 [om 0,nB .geq 1,gA,om 0,nB .leq 10,gZ,o1 2],.ret]) [.tmp 2] 9:=aW func25
def ajB:aS prog 29 (sq [rg 0 [ox 3 2 0,ox 4 3 1,oZ 6 [0,0,1,0,7,9,0,0,0,1,7,10,0,0,1,7,10],oR 7 kP,oZ 8 [0,0]],rg 15 [om 2,oC 53 [15],o1 14,oe 14 0,oe 14 1,oZ 9 [0,0,1,0,7,9,0,0,0,1,7,10,0,0,1,7,10],oZ 10 [0,0],os 17 9 17,o2 2 10],sq [rg 19 [fo 0 10,nB .neq 0],ci 21 (sq [dg 22 [oW [0,0,1,0,7,9,0,0,0,1,7,10,0,0,1,7,10] [],oY kP [],mM [1,2],ol 2 10,os 17 6 22,os 18 7 23,o2 2 8],.ret])],dg 25 [ol 2 3,ol 17 9,oC 54 [25,26],mM [0],ol 2 3,mM [0],ol 17 9,oC 55 [28,29],oq (.ko 2 [(.s 27),(.s 30)]),o1 11],sq [rg 32 [ol 3 4,ol 17 9,oC 56 [32,33]],ci 34 (rg 35 [om 11,fo 1 9,oG [0,0] [(0,1,.c (.int .i64 7)),(1,1,.s 37)],n1 2,na 2 35,o1 11])],sq [rg 41 [fo 0 9,nB .eql 12,gA,fo 2 4,nB .leq 1,gZ],ci 48 (rg 49 [om 11,fo 1 9,oG [0,0] [(0,1,.c (.int .i64 8)),(1,1,.s 51)],n1 2,na 2 49,o1 11])],sq [rg 55 [om 11,oC 57 [55],o2 2 10],rg 57 [fo 0 10,nB .neq 0],ci 59 (sq [dg 60 [oW [0,0,1,0,7,9,0,0,0,1,7,10,0,0,1,7,10] [],oY kP [],mM [1,2],ol 2 10,os 17 6 60,os 18 7 61,o2 2 8],.ret])],rg 64 [ol 2 3,ol 17 9,oC 58 [64,65],o1 63,oe 63 0,oe 63 1,oR 12 kP,os 18 12 67,o1 13],dg 69 [ol 17 9,mM [1],ol 18 12,oW [0,0] [],os 17 6 69,os 18 7 70,o2 2 8],.ret]) [.cell 6 ab 17,.cell 7 ab 18,.cell 8 ab 2] 72:=aW func29
def akf:aS prog 56 (sq [rg 4 [ox 2 3 0,ox 3 17 1,oz 2],sq [rg 6 [fo 0 3,oC 25 [7]],ci 8 (sq [rg 9 [ol 17 3,oC 59 [9],nT,o1 5],rg 12 [om 5,nB .gtr 1024,gB,fo 0 2,om 5,oq (.dU .sub (.c (.int .i64 16383)) (.s 17)),nb .gtr 16,gZ],cr 20 4 [oq (.mv (.c (.bool ab)))]])],rg 21 [fo 0 3,oC 112 [22],gA,fo 1 2,nB .geq 64,gZ,nm,oh 29 (of 0 3),oh 29 (no),oh 29 (nB .eql 11),oh 29 (nm),og 33 (of 2 2),og 33 (no),og 33 (nB .geq 16),oh 29 (oy 33 36),oq (.pick (.s 29) (.c (.bool ab)) (.s 37)),o1 4],.ret]) [.tmp 4] 39:=aW func56
def ag':aS prog 112 (sq [rg 2 [oz 2],rg 3 [om 0,nB .geq 8,gA,om 0,nB .leq 10,gZ,o1 2],.ret]) [.tmp 2] 9:=aW func112
def PQ(op:Int)(D:ah):a8 25 [.int .i64 op] D (.bool (nX op)):=by
 refine aiX.aV ?_;simp only[aU,am,a7,Nat.reduceAdd]
 by_cases h:1<=op
 .simp only[am,aK h];refine aL ?_;simp[V.erase,nX,h]
 .simp only[am,aJ h];refine aL ?_;simp[V.erase,nX,h]
def Ru(op:Int)(D:ah):a8 112 [.int .i64 op] D (.bool (xp op)):=by
 refine ag'.aV ?_;simp only[aU,am,a7,Nat.reduceAdd]
 by_cases h:8<=op
 .simp only[am,aK h];refine aL ?_;simp[V.erase,xp,h]
 .simp only[am,aJ h];refine aL ?_;simp[V.erase,xp,h]
def Kh:=af @am <| af @qM <| af @cX <| af @lz <| af @b9 <| af @fL <| af @aI <| af @Rl.al <| af @bh.al <| af @aH.al <| af @bz.al <| af @aA.al <| af @gi <| af @se @xg
def aos(r:Rm)(c:az)(kq:D.b8 0=aa gG)(hw:16*c.wt+64<=aQ):a8 56 [.agg r.enc,.agg c.enc] D (.bool (k_ r c)):=by
 have tail:∀B:Bool,(nX c.op&&(decide (1024<((dO c).length:Int))||decide (IntKind.i64.wrap (16383 - (dO c).length)<r.bytes)))=ar->B=((xp c.op&&decide (64<=r.fE))||(decide (c.op=11)&&decide (16<=r.fv)))->B=k_ r c:=λB h e=>by
  rw[e,k_,h,Cl]
 refine akf.aV ?_;simp only[aU,am,a7,Nat.reduceAdd,Rm.al,dZ,ft];refine cl (PQ c.op D) ?_;cases hs:nX c.op with
 | true =>
  rw[hs,iM] at tail;simp only[am,dZ];refine cl (SD c kq hw) ?_;simp only[am];have yes:(decide (1024<((dO c).length:Int))||decide (IntKind.i64.wrap (16383 - (dO c).length)<r.bytes))=ab->k_ r c=true:=λh=>by rw[k_,hs,h];rfl
  cases U:decide (1024<((dO c).length:Int)) with
  | true =>
   simp only[am];refine aL ?_;simp[V.erase,yes (by rw[U];rfl)]
  | false =>
   cases h2:decide (IntKind.i64.wrap (16383 - (dO c).length)<r.bytes) with
   | true =>
    simp only[am,Rm.al,h2];refine aL ?_;simp[V.erase,yes (by rw[U,h2];rfl)]
   | false =>
    have tl:=λB=>tail B (by rw[U,h2];rfl)
    simp only[am,Rm.al,ft,h2];refine cl (Ru c.op D) ?_;simp only[am]
    repeat' (first
     | (refine kS (λh=>?_) (λh=>?_)<;>simp only[am,h,Rm.al,ft])
     | (refine fx (λh=>?_) (λh=>?_)<;>simp only[Kh,h,Nat.reduceAdd,Nat.reduceEqDiff,aN,Int.reduceNeg,dP,cM,eD,Int.reduceEq,Int.reduceLT,Int.reduceLE,Int.reduceGE,Nat.reduceLT,Int.reduceToNat,Nat.reduceMul,cF,reduceCtorEq,aY.al,Rm.al,dZ,ft,dD,vQ,gF,kP])
     | (refine lb (λh=>?_) (λh=>?_)<;>simp only[Kh,h,Nat.reduceAdd,Nat.reduceEqDiff,aN,Int.reduceNeg,dP,cM,eD,Int.reduceEq,Int.reduceLT,Int.reduceLE,Int.reduceGE,Nat.reduceLT,Int.reduceToNat,Nat.reduceMul,cF,reduceCtorEq,aY.al,Rm.al,dZ,ft,dD,vQ,gF,kP])
    )
    all_goals refine aL ?_
    all_goals simp only[V.erase]
    all_goals refine iH V.bool (tl _ ?_)
    all_goals clear tl tail hw kq
    all_goals simp[*]
 | false =>
  have tl:=λB=>tail B (by rw[hs];rfl)
  simp only[am,ft];refine cl (Ru c.op D) ?_;simp only[am]
  repeat' (first
   | (refine kS (λh=>?_) (λh=>?_)<;>simp only[am,h,Rm.al,ft])
   | (refine fx (λh=>?_) (λh=>?_)<;>simp only[Kh,h,Nat.reduceAdd,Nat.reduceEqDiff,aN,Int.reduceNeg,dP,cM,eD,Int.reduceEq,Int.reduceLT,Int.reduceLE,Int.reduceGE,Nat.reduceLT,Int.reduceToNat,Nat.reduceMul,cF,reduceCtorEq,aY.al,Rm.al,dZ,ft,dD,vQ,gF,kP])
   | (refine lb (λh=>?_) (λh=>?_)<;>simp only[Kh,h,Nat.reduceAdd,Nat.reduceEqDiff,aN,Int.reduceNeg,dP,cM,eD,Int.reduceEq,Int.reduceLT,Int.reduceLE,Int.reduceGE,Nat.reduceLT,Int.reduceToNat,Nat.reduceMul,cF,reduceCtorEq,aY.al,Rm.al,dZ,ft,dD,vQ,gF,kP])
  )
  all_goals refine aL ?_
  all_goals simp only[V.erase]
  all_goals refine iH V.bool (tl _ ?_)
  all_goals clear tl tail hw kq
  all_goals simp[*]
def Rw:cW (cO 0 0 (.sl .aZ 10 []) .zero (.sl .aZ 10 []) 0 (.sl .aZ 10 []) 0 0 [])=true:=AU rfl rfl rfl
def abe:bD (cO 0 0 (.sl .aZ 10 []) .zero (.sl .aZ 10 []) 0 (.sl .aZ 10 []) 0 0 [])=dG.zero.enc:=by rw[Hc];rfl
def abf:bT (cO 0 0 (.sl .aZ 10 []) .zero (.sl .aZ 10 []) 0 (.sl .aZ 10 []) 0 0 [])=true:=Hd rfl rfl rfl
def abd(x:dG):cW x.enc=true:=AU rfl rfl rfl
def wG(x:az × dG × aY):V:=.bH [.agg x.1.enc,.agg x.2.1.enc,.agg x.2.2.enc]
structure Q7(c:az):Prop where
 n:c.an.length<=100000
 p:c.bw.length<=100000
 l:c.left.cU<=100000
 r:c.right.cU<=100000
 wl:c.left.wt<=aQ
 wr:c.right.wt<=aQ
 w:16*c.wt+64<=aQ
variable{t:List UInt8}
def OB(ht:t.length<=3000):Q7 (cG t).1:=by
 have hb:=X2 t;generalize (cG t).1=c at hb;have U:=hb.ns;have h2:=hb.ps;have h3:=hb.l;have h4:=hb.r;have h5:=hb.nm;have h6:=hb.pt;have h7:=(B3 c.an).2;have h8:=CM c.left;have h9:=CM c.right;have lB:aQ=268435456:=rfl;have ME:c.wt=c.name.au.length+e_ c.an+kg c.bw+c.left.wt+c.right.wt:=rfl;exact⟨by omega,by omega,by omega,by omega,by omega,by omega,by omega⟩
def anb(s:aH)(r:Rm)(t:List UInt8)(hs:s.wO)(hg:TZ D)(kq:D.b8 0=aa gG)(ht:t.length<=3000):
 a8 29 [.agg s.enc,.agg r.enc,.aG t] D (wG (iK s r t)):=by
 have lB:aQ=268435456:=rfl;have ck:=OB ht;have hm:=Wd t;have gm:=@N_ s r t;have ka:=@N' s r t;have By:=@I8 s r t;refine ajB.aV ?_;simp only[aU,am,a7,Nat.reduceAdd,aH.al,Rm.al,kP];refine cl (aek t kq (by omega) (by rw[Cc];omega)) ?_;generalize cG t=R at ck gm ka By;generalize iK s r t=X at gm ka By;obtain⟨c,k,a⟩:=R;simp only at ck gm ka By;obtain⟨Y'',hY⟩:∃Y'':dG,Y''=(if kv s c=ab then kN s c else .zero):=⟨_,rfl⟩;rw[<-hY] at By;obtain⟨A,hA⟩:∃A:List V,A=Y''.enc:=⟨_,rfl⟩;have a1:A.length=18:=by rw[hA];exact uA
 have a2:takeN 18 A=aa A:=by rw[hA];exact K5
 have a3:cW A=true:=by rw[hA];exact abd Y''
 have a4:bT A=true:=by rw[hA];exact dG.dV
 have a5:over (cO 0 0 (.sl .aZ 10 []) .zero (.sl .aZ 10 []) 0 (.sl .aZ 10 []) 0 0 []) A=A:=by rw[hA];exact vb (by rw[uA];exact uA.symm)
 have a6:bD A=Y''.enc:=by rw[hA];exact dG.dL
 have hT:AT s c = .bH [.agg A,.bool (kv s c)]:=by rw[AT,hA,hY]
 have cA:=agn s c (D:=D) hs.1 hg kq (by have:=ck.n;omega) (by have:=ck.p;omega) ck.l ck.r ck.wl ck.wr;rw[hT] at cA;have aM:∀(t:List V) (lo:List (List V)) (f:aY),X=(.zero,.zero,f)->mw (λv σ' => v=wG X/\σ' = D) ⟨t,lo,D⟩ (.bH [.agg iU,.agg (cO 0 0 (.sl .aZ 10 []) .zero (.sl .aZ 10 []) 0 (.sl .aZ 10 []) 0 0 []),.agg f.enc]):=λt lo f h=>by
  refine aX (by simp only[V.c9,bT,abf];rfl) (ah.bm _) ⟨?_,rfl⟩;rw[h,wG];simp only[V.erase,bD,abe];rfl
 simp only[am,Nat.reduceAdd,dZ,LW]
 by_cases hk:k=0
 case neg =>
  simp only[am,Nat.reduceAdd,gF,aJ hk,Rw];exact aM _ _ ⟨k,a⟩ (gm hk)
 simp only[am,aH.al,dZ,aK hk];refine bK.intro (Y1 s c hs hg ck.n ck.p) ?_;simp only[am,aH.al,dZ];refine bK.intro (Tn s c hs.1 hg ck.l ck.r ck.wl ck.wr) ?_;simp only[am,aY.al,aH.al,Rm.al,dZ];refine cl (aos r c kq ck.w) ?_;have mb:(∃L,la s r c=L/\k_ r c=ab/\c.op≠12/\L=[jT s c,kQ s c]++[⟨7,c.pos⟩])\/(∃L,la s r c=L/\k_ r c=ar/\c.op=12/\r.fv<=1/\L=[jT s c,kQ s c]++[⟨8,c.pos⟩]) \/
  (∃L,la s r c=L/\k_ r c=ar/\c.op=12/\¬r.fv<=1/\L=[jT s c,kQ s c])\/(∃L,la s r c=L/\k_ r c=ar/\c.op≠12/\L=[jT s c,kQ s c]):=by
  cases hl:k_ r c with
  | true =>
   have hp:=aot hl;exact .inl ⟨_,rfl,rfl,hp,by simp[la,hl,ep,hp]⟩
  | false =>
   by_cases n9:c.op=12
   .by_cases hf:r.fv<=1
    .exact .inr (.inl ⟨_,rfl,rfl,n9,hf,by simp[la,hl,ep,n9,hf]⟩)
    .exact .inr (.inr (.inl ⟨_,rfl,rfl,n9,hf,by simp[la,hl,ep,hf]⟩))
   .exact .inr (.inr (.inr ⟨_,rfl,rfl,n9,by simp[la,hl,ep,n9]⟩))
 rcases mb with ⟨L,hL,e1,e2,e3⟩ | ⟨L,hL,e1,e2,e4,e3⟩ | ⟨L,hL,e1,e2,e4,e3⟩ | ⟨L,hL,e1,e2,e3⟩
 case' inl =>
  simp only[am,Nat.reduceAdd,ft,e1];refine yY (by simp[aQ]) ?_;simp only[am,ft,aJ e2]
 case' inr.inl =>
  simp only[am,Nat.reduceAdd,Rm.al,ft,e1,aK e2,aK e4];refine yY (by simp[aQ]) ?_;simp only[am]
 case' inr.inr.inl =>
  simp only[am,Rm.al,ft,e1,aK e2,aJ e4]
 case' inr.inr.inr =>
  simp only[am,ft,e1,aJ e2]
 all_goals
  rw[hL] at ka By;refine cl (ch.eC (as' := [.sl .no 2 (L.map aY.enc)]) (zN L _ (by rw[e3];simp)) ⟨by rw[e3];exact dp.no,trivial⟩ bW.rfl) ?_;generalize hD L=f at ka By;simp only[am,aY.al]
  by_cases hf:f.cls=0
  .simp only[am,aH.al,dZ,aK hf];refine cl cA ?_;simp only[am,Nat.reduceAdd,dZ,gF,a1,a2,a3,a5];refine aX (by simp only[V.c9,bT,a4];rfl) (ah.bm _) ⟨?_,rfl⟩;rw[By hk hf,wG];simp only[V.erase,bD,a6];rfl
  .simp only[am,Nat.reduceAdd,aY.al,gF,aJ hf,Rw];exact aM _ _ f (ka hk hf)
def ajL:aS prog 30 (sq [rg 0 [ox 4 17 1,ox 5 18 2],rg 9 [ol 17 4,oC 59 [9],o1 6],rg 11 [mk 0,nf 0,nF 3,nL,o1 7],rg 17 [om 0,mk 0,nf 0,nF 3,om 7,om 7,oq (.lT 1 (.s 22) aj (aa (.s 23)) (aa (.s 24))),om 6,n1 1,na 1 25,ok 17,nf 0,nf 3,os 1 31 28],rg 32 [mk 0,nf 0,nF 4,om 6,nT,nB .add 1,nb .add 36,ok 32,nf 0,nf 4,os 1 43 40],sq [rg 44 [fo 0 5,nB .neq 0],ci 46 (sq [rg 47 [mk 0,nf 0,nF 2,nL,o1 8],dg 53 [om 0,mk 0,nf 0,nf 2,mM [1],no,om 8,om 8,oq (.lT 18 (.s 58) aj (aa (.s 59)) (aa (.s 60))),ol 18 5,oC 43 [62],n1 18,na 18 61,ok 53,nf 0,nf 2,os 1 68 65],.ret])],dg 69 [om 0,mk 0,nf 0,nf 0,nl 2,ol 17 4,oC 42 [74,75],ok 69,nf 0,nf 0,os 2 79 76]]) [] 80:=aW func30
theorem RH{x:dG}:bP ar 1 x.enc=aa (.int .i64 x.op):=rfl
def avm{s:fq}{k:Tk}(c:az)(x:dG)(h:D.box b=aa (kZ k s))(ho:s.live.ok)(hg:TZ D)(kq:D.b8 0=aa gG)
 (hn:c.an.length<=100000) (hp:c.bw.length<=100000) (hw:16*c.wt+64<=aQ) (hx:Cu x) (ht:(dO c).length<=100000) :
 dY 30 [.ptr (.out b) 0,.agg c.enc,.agg x.enc] D (.bH []) (D.set b (kZ k ⟨pj s.live c x,s.fv⟩)):=by
 obtain⟨l,fr⟩:=s;have Ip:=@Jc l.lines;have U:=ho.m;have h2:=ho.b;have h3:=ho.t;have hs:=ho.s;simp only at U h2 h3 hs;rw[kZ] at h;simp only at h;refine ajL.aV ?_;simp only[aU,am,a7,Nat.reduceAdd,dZ,lu];refine cl (SD c kq hw) ?_;simp only[am,cX,eB,h];refine JN (by simp[eB]) ?_;rw[AN (by simp[eB])];simp only[am];refine yY (by simp[eB,aQ];omega) ?_;simp only[am,h];have e1:cD l.lines++[[V.aG (dO c)]]=cD (l.lines++[dO c]):=by simp[cD]
 have e2:IntKind.i64.wrap (l.bytes+IntKind.i64.wrap (((dO c).length:Nat)+1))=l.bytes+((dO c).length+1:Nat):=by
  rw[wrap_i64 (x:=((dO c).length:Nat)+1),wrap_i64];simp
 rw[e1,e2]
 by_cases jA:x.op=0
 .simp only[am,b9,dZ,RH,jA];refine bK.intro (Ri l.fQ c (D:=_) hs hg hn hp) ?_;simp only[am,aH.al];refine aX rfl (ah.bm _) ⟨rfl,?_⟩;rw[pj,aB (by simp[jA])];rfl
 .simp only[am,cX,aN,fL,aN,RH,jA];refine JN (by simp) ?_;rw[AN (by simp)];simp only[am,lu];refine bK.intro (SC x _ hx) ?_;simp only[am,lu];refine aa6 (by simp[aQ];omega) ?_;simp only[am];refine aX rfl (ah.bm _) ⟨rfl,?_⟩;rw[pj,aF jA];simp[kZ]
def LX{f:aY}{x y:Int}:fZ [1,1] f.enc [.int .i64 x,.int .i64 y]=aa (decide (f=⟨x,y⟩)):=aY.rq (g:=⟨x,y⟩)
def ahp:aS prog 14 (sq [rg 4 [ox 2 18 0,ox 3 18 1,oz 2],rg 5 [fo 0 2,fo 0 3,nb .eql 6,gA,fo 1 2,fo 1 3,nb .eql 12,gZ,gA,fo 2 2,fo 2 3,oC 34 [19,21],gZ,gA,of 3 2,nl 9,of 3 3,nl 9,oq (.l8 ar [1,1,1,1,1,1,1,1,1] (.s 26) (.s 28)),gZ,gA,of 12 2,nl 2,of 12 3,nl 2,oC 35 [33,35],gZ,gA,of 14 2,nl 2,of 14 3,nl 2,oC 35 [40,42],gZ,gA,fo 16 2,fo 16 3,nb .eql 47,gZ,gA,fo 17 2,fo 17 3,nE .eql 54,gZ,o1 4],.ret]) [.tmp 4] 59:=aW func14
def aj4:aS prog 35 (sq [rg 4 [ox 2 2 0,ox 3 2 1,oz 2],sq [rg 6 [fo 1 2,fo 1 3,nb .neq 7,gB,fo 0 2,nL,fo 0 3,nL,nb .neq 14,gZ],cr 19 4 [oz 2]],sq [rg 5 [oi 0],bl 0 (sq [sq [rg 20 [om 5,fo 0 2,nL,nb .lss 20],cx 24 0],.block 1 (sq [dg 27 [fo 0 2,om 5,nA 10 28,nl 10,fo 0 3,om 5,nA 10 33,nl 10,oq (.l8 ab [2,1,1,1,1,1,1,1,1,1] (.s 31) (.s 36))],cr 37 4 [oz 2]]),rg 25 [ic 5]])],rg 4 [oq (.mv (.c (.bool ab)))],.ret]) [.tmp 4] 38:=aW func35
def Tx{l:List bV}(h:j<l.length):(l.map bV.enc)[((j:Nat):Int).toNat]?=aa l[j].enc:=by simp[h]
def X6(t:ec)(D:ah)(hl:t.fs.length<=100000):a8 35 [.agg t.enc,.agg t.enc] D (.bool ab):=by
 refine aj4.aV ?_;simp only[aU,am,a7,Nat.reduceAdd,b9,ec.al,aN];refine cn (t.fs.length) (λi (x:Unit)=>⟨[.any,.any,.ptr (.aE 0) 0,.ptr (.aE 1) 0,.any,.int .i64 (i:Nat)]++aq 32 .any,[t.enc,t.enc],D⟩) (λi x=>(True)) λF hF JF aT=>⟨?_,?_,?_⟩
 .exact en aT (()) (trivial)
 .rintro i x hi -;simp only[hF,aq,am,cc hi,ec.al,aN];refine ix (Tx hi) ?_;simp only[am,bV.al,ec.al];refine ix (Tx hi) ?_;simp only[am,b9,aI,bV.al,bJ hi];exact nx aT (()) hi (trivial)
 .rintro x -;simp only[hF,aq,am,aI,cE,aI,ec.al,aN];exact rt
def adS(s:aH)(c:az)(hl:c.left.cU<=100000):(kN s c).code.length<=100000:=by
 rw[kN];split
 .have:=adW s (cZ s c) c.left;simp only;omega
 .split<;>simp
def Yp{lat:Nat}{n:Nd}(h:n.cU<=100000):(lS s lat n).fs.length<=100000:=by
 have:=A3 n
 rw[lS];split
 .simp
 .simp only[aN];omega
def Ty(s:aH)(c:az)(hl:c.left.cU<=100000)(hr:c.right.cU<=100000):(kN s c).a.fs.length<=100000/\(kN s c).b.fs.length<=100000:=by
 rw[kN];split
 .simp[ec.zero]
 .split
  .exact⟨Yp hl,Yp hr⟩
  .simp[ec.zero]
def as_(x:dG)(D:ah)(hc:x.code.length<=100000)(ha:x.a.fs.length<=100000)(hb:x.b.fs.length<=100000):a8 14 [.agg x.enc,.agg x.enc] D (.bool ab):=by
 obtain⟨op,lat,code,to,a,b,v,field⟩:=x;show ch prog 14 [.agg (cO op lat (.sl .no 10 (code.map bu.enc)) to (.sl .no 10 (a.fs.map bV.enc)) a.tail (.sl .no 10 (b.fs.map bV.enc)) b.tail v field),.agg (cO op lat (.sl .no 10 (code.map bu.enc)) to (.sl .no 10 (a.fs.map bV.enc)) a.tail (.sl .no 10 (b.fs.map bV.enc)) b.tail v field)] D _;refine ahp.aV ?_;simp only[aU,am,a7,Nat.reduceAdd];simp only[am,b9,gF];refine cl (auq code code D hc hc) ?_;simp only[am,b9,bO.al,gF];refine cl (X6 a D ha) ?_;simp only[am,gF];refine cl (X6 b D hb) ?_;simp only[am,b9,gF];exact rt
def ahh:aS prog 12 (sq [rg 0 [oZ 4 [0,0,1,0,7,9,0,0,0,1,7,10,0,0,1,7,10],oR 5 kP,oZ 6 [0,0]],sq [rg 11 [om 0,oq (.sy ar (.s 11) (.c .jr))],cr 12 13 [oW [0,0,1,0,7,9,0,0,0,1,7,10,0,0,1,7,10] [],oY kP [],oW [0,0] [],os 17 4 13,os 18 5 14,o2 2 6]],dA 17 [7,8,9] [mk 0,nf 0,nf 0,mM [1],nl 2,om 0,oC 15 [22],om 1,oC 29 [21,23,24],o1 16,oe 16 0,oe 16 1,oe 16 2,oN,oN,oN,oX 7 17 26,oX 8 18 27,oX 9 2 28],sq [rg 29 [fo 0 9,nB .neq 0],ci 31 (sq [dg 32 [ol 17 7,mM [1],ol 18 8,mM [1,2],ol 2 9,os 17 4 32,os 18 5 33,o2 2 6],.ret])],.block 0 (sq [rg 36 [fo 0 7,oC 25 [37],o1 35],cd 35 (rg 39 [om 0,ol 17 7,ol 18 8,oC 30 [39,40,41]]) (sq [rg 44 [fo 0 7,nB .eql 11,o1 43],cd 43 (.qG (dg 47 [om 0,mk 0,nF 5,mk 0,nf 0,nl 5,oW [8,8,23,6,0] [(0,5,55)],n1 5,na 5 51,ok 47,nf 5,os 1 60 58])) (sq [rg 62 [fo 0 7,nB .eql 12,o1 61],ci 61 (sq [rg 65 [mk 0,nF 5,nL,nB .sub 1,o1 10],rg 71 [om 0,mk 0,nF 5,om 10,nA 5 75,nf 0,nl 5,ok 71,nf 0,os 5 81 79],rg 82 [om 0,mk 0,nF 5,om 10,om 10,oq (.lT 5 (.s 86) aj (aa (.s 87)) (aa (.s 88))),ok 82,nf 5,os 1 91 89]])])])]),dg 92 [ol 17 7,mM [1],ol 18 8,mM [1,2],ol 2 9,os 17 4 92,os 18 5 93,o2 2 6],.ret]) [.cell 4 ab 17,.cell 5 ab 18,.cell 6 ab 2] 95:=aW func12 ⟨[],[9]⟩
def Wa{s:fq}(ht:t.length<=3000)(h:(gJ s t).2.2.cls=0):Q7 (gJ s t).1/\Cu (gJ s t).2.1/\(dO (gJ s t).1).length<=2*t.length/\((gJ s t).1.op=12->s.fv≠[]):=by
 obtain⟨e1,e2,_,_,_,_,e7⟩:=Dp h;have ck:=OB ht;have ha:cG t=((cG t).1,0,0):=by
  obtain⟨a1,_⟩:=P3 h;rw[<-a1]
 refine⟨by rw[gJ,e1];exact ck,?_,by rw[gJ,e1];exact(KV ha).2.2,λn9 e=>e7 ⟨by rw[gJ,e1] at n9;exact n9,by simp[qC,e]⟩⟩;rw[gJ,e2];split
 .exact⟨adS _ _ ck.l,(Ty _ _ ck.l ck.r).1,(Ty _ _ ck.l ck.r).2⟩
 .exact⟨by simp[dG.zero],by simp[dG.zero,ec.zero],by simp[dG.zero,ec.zero]⟩
def aa9{r:Nat}{k u:Tk}{m n:List (List V)}{K:V->ah->Prop}(hk:k = .aZ\/k = .tk Z)(hb:m.length+n.length<=aQ)(ht:D.aR Z=aa m.length)(h:K (.sl (.tk Z) r (m++n)) (D.a_ Z (m.length+n.length))):Az D r (.sl k r m) (.sl u r n) K:=by
 rcases hk with rfl | rfl
 .exact aa7 hb ht h
 .exact xo hb ht h
def Hv{s:fq}{k:Tk}(t:List UInt8)(h:pz D b k s)(ho:s.ok)(hg:TZ D)(kq:D.b8 0=aa gG)(ht:t.length<=3000):
 ch prog 12 [.ptr (.out b) 0,.aG t] D λv σ' => v=wG (gJ s t)/\∃k',pz σ' b k' (gw s t)/\Kp D σ' b k k' := by
 have cj:=anb s.live.fQ (qC s) t (D:=D) ho.l.s hg kq ht;have hlen:=Wa (s:=s) ht;have hd:gw s t=qQ s (gJ s t):=rfl;rw[show iK s.live.fQ (qC s) t=gJ s t from rfl] at cj;rw[hd];have bq:=ho.n;generalize gJ s t=X at cj hlen;obtain⟨c,x,f⟩:=X;simp only[wG] at cj hlen ⊢;have hb:=h.b;rw[kZ] at hb;refine ahh.aV ?_;simp only[aU,am,a7,Nat.reduceAdd,b9,Nat.reduceLT,G'];simp only[am,hb];refine bK.intro (PN h.b (by omega)) ?_;simp only[am,Rm.al];refine bK.intro cj ?_;simp only[am,Nat.reduceAdd,aY.al,dZ,lu];refine⟨by rw[hb];rfl,?_⟩;have fin:∀{t:List V} {lo:List (List V)} {σ' : ah} {k' : Tk} {s' : fq},s' = qQ s (c,x,f)->pz σ' b k' s' -> Kp D σ' b k k' -> mw (λv σ' => v = .bH [.agg c.enc,.agg x.enc,.agg f.enc]/\∃k',pz σ' b k' (qQ s (c,x,f))/\Kp D σ' b k k') ⟨t,lo,σ'⟩ (.bH [.agg c.enc,.agg x.enc,.agg f.enc]):=λ{t lo σ' k' s'} e U h2=>by
  refine aX (by simp only[V.c9,bT,dG.dV];rfl) (ah.bm _) ⟨?_,k',by rw[<-e];exact U,h2⟩;simp only[V.erase,bD,dG.dL];rfl
 by_cases hf:f.cls=0
 case neg =>
  simp only[am,fL,aY.al,dZ,lu,hf];exact fin (by rw[qQ,aF hf]) h Kp.rfl
 obtain⟨ck,hx,uU,a9⟩:=hlen hf;simp only[am,b9,ft,hf];refine cl (PQ c.op _) ?_;cases eE:nX c.op with
 | true =>
  simp only[am,dZ,lu];refine cl (avm c x h.b ho.l hg kq ck.n ck.p ck.w hx (by omega)) ?_;simp only[am,aY.al,dZ,lu];refine fin (k' := k) (s' := ⟨pj s.live c x,s.fv⟩) (by rw[qQ,aB (by simp[hf]),aF eE]) ⟨iS,?_⟩ ⟨λc hc=>pf hc,λ_ _ _ h=>h,rfl,λ_ h=>.inl h⟩;exact h.t
 | false =>
  simp only[am,ft]
  by_cases EJ:c.op=11
  .simp only[am,b9,EJ];have up:∀{K:St->Prop} {t:List V} {lo:List (List V)},(∀Z bF,bF.aR Z=aa s.fv.length->bF.box=D.box->bF.b8=D.b8->(∀t' n,k≠.tk t' -> D.aR t' = aa n->bF.aR t' = aa n/\t' ≠ Z)->(k = .tk Z\/D.aR Z=aj)->(k = .aZ\/k = .tk Z)->K ⟨t,lo,bF⟩)->bI ⟨t,lo,D⟩ K:=λ{K t lo} hk=>by
    have ht:=h.t;cases k with
    | no=>exact ht.elim
    | aZ=>exact bI.tok s.fv.length λZ bE=>⟨t,lo,D,fc.rfl,rfl,λ_ c' hc=>⟨c',hc,fc.rfl⟩,rH.rfl,hk Z _ jG rfl rfl (λt' n _ rR => by
     have:t' ≠ Z:=λe=>by rw[e,bE] at rR;simp at rR
     exact⟨by rw[qE this];exact rR,this⟩) (.inr bE) (.inl rfl)⟩
    | tk Z=>exact bI.eC da.rfl cT.rfl bW.rfl (hk Z D ht rfl rfl (λt' n hn rR => ⟨rR,λe=>hn (by rw[e])⟩) (.inl rfl) (.inr rfl))
   refine up λZ bF u1 u2 u3 u4 u5 u6=>?_
   have ek:bF.box b=aa _:=(congrFun u2 b).trans hb;simp only[am,Nat.reduceAdd,ek];refine aa9 u6 (by simp[aQ];omega) (by simp;exact u1) ?_;simp only[am,aN,aY.al,aN,dZ,lu,ek];have amq:∀t' n,k≠.tk t' -> D.aR t' = aa n->((bF.a_ Z (s.fv.length+1)).aR t')=aa n:=λt' n hn rR => by
    obtain⟨a1,a2⟩:=u4 t' n hn rR;rw[qE a2];exact a1
   refine fin (k' := .tk Z) (s' := ⟨s.live,s.fv++[s.live]⟩) (by rw[qQ,aB (by simp[hf]),aB (by simp[eE]),aF EJ]) ⟨?_,?_⟩ ⟨λc hc=>?_,amq,u3,λt' e=>?_⟩
   .rw[iS];simp[kZ,vZ]
   .show(bF.a_ Z (s.fv.length+1)).aR Z=aa (s.fv++[s.live]).length;rw[jG];simp
   .rw[pf hc];exact congrFun u2 c
   .simp only[Tk.tk.injEq] at e;subst e;exact u5
  .simp only[am,fL,ft,EJ]
   by_cases n9:c.op=12
   .simp only[am,b9,n9];have a9:=a9 n9;obtain⟨fr,l,l_⟩:∃fr l,s.fv=fr++[l]:=⟨s.fv.dropLast,s.fv.getLast a9,(List.dropLast_concat_getLast a9).symm⟩;have kV:qQ s (c,x,f)=⟨l,fr⟩:=by
     rw[qQ,aB (by simp[hf]),aB (by simp[eE]),aB EJ,aF n9,l_];simp
    have wj:fr.length<=100:=by rw[l_] at bq;simp at bq;omega
    have hmp:s.fv.map vZ=fr.map vZ++[vZ l]:=by rw[l_];simp
    rw[hmp] at hb;have hw:IntKind.i64.wrap (((fr.map vZ++[vZ l]).length:Nat) - 1)=((fr.length:Nat):Int):=by
     simp only[bM,aN,fI];rw[wrap_i64];omega
    simp only[am,hb,hw];refine sN (c:=vZ l) (by omega) (by simp) ?_;simp only[am,cX,Nat.reduceAdd,vZ,hb];refine JN (by simp) ?_;rw[show fr.length=(fr.map vZ).length by simp,List.take_left];simp only[am,aN,aY.al,aN,dZ,lu];refine fin (k' := .aZ) (s' := ⟨l,fr⟩) kV.symm ⟨?_,trivial⟩ ⟨λc hc=>?_,λ_ _ _ h=>h,rfl,λt' e=>by simp at e⟩
    .rw[iS];simp[kZ]
    .rw[pf hc]
   .simp only[am,fL,aY.al,dZ,lu,n9];exact fin (by simp[qQ,hf,eE,EJ,n9]) h Kp.rfl
def ah_:aS prog 20 (sq [rg 4 [oz 2],sq [rg 6 [om 0,nL,om 1,nL,nb .neq 7],cr 10 4 [oz 2]],sq [rg 5 [oi 0],bl 0 (sq [sq [rg 11 [om 5,om 0,nL,nb .lss 11],cx 14 0],.block 1 (sq [dg 17 [om 0,om 5,nA 1 17,no,om 1,om 5,nA 1 21,no,nE .neq 20],cr 25 4 [oz 2]]),rg 15 [ic 5]])],rg 4 [oq (.mv (.c (.bool ab)))],.ret]) [.tmp 4] 26:=aW func20
def aj5:aS prog 41 (sq [rg 4 [ox 2 2 0,ox 3 2 1,oz 2],sq [rg 7 [fo 0 2,nL,fo 0 3,nL,nb .neq 9,gB,fo 1 2,nL,fo 1 3,nL,nb .neq 17,gZ],cr 22 4 [oz 2]],sq [rg 5 [oi 0],bl 0 (sq [sq [rg 23 [om 5,fo 0 2,nL,nb .lss 23],cx 27 0],.block 1 (sq [dg 30 [fo 0 2,om 5,nA 3 31,nF 0,fo 0 3,om 5,nA 3 37,nF 0,nE .neq 35,gB,fo 0 2,om 5,nA 3 45,nf 1,nl 2,fo 0 3,om 5,nA 3 51,nf 1,nl 2,oC 71 [49,55],nn,gZ],cr 58 4 [oz 2]]),rg 28 [ic 5]])],sq [rg 6 [oi 0],bl 2 (sq [sq [rg 59 [om 6,fo 1 2,nL,nb .lss 59],cx 63 2],.block 3 (sq [dg 66 [fo 1 2,om 6,nA 3 67,nl 3,fo 1 3,om 6,nA 3 72,nl 3,oq (.l8 ab [2,1,1] (.s 70) (.s 75))],cr 76 4 [oz 2]]),rg 64 [ic 6]])],rg 4 [oq (.mv (.c (.bool ab)))],.ret]) [.tmp 4] 77:=aW func41
def akj:aS prog 71 (sq [rg 4 [ox 2 2 0,ox 3 2 1,oz 2],sq [rg 8 [fo 0 2,fo 0 3,oq (.vM ab (.s 9) (.s 11)),gB,fo 1 2,nL,fo 1 3,nL,nb .neq 16,gZ],cr 21 4 [oz 2]],sq [rg 5 [oi 0],bl 0 (sq [sq [rg 22 [om 5,fo 1 2,nL,nb .lss 22],cx 26 0],.block 1 (sq [dA 29 [6,7] [fo 1 2,om 5,nA 67 30,nl 67,of 1 3,mM [1],no,om 5,nA 67 35,mM [1],nl 67,oN,oN,oX 6 67 33,oX 7 67 38],rg 39 [fo 0 6,fo 0 7,nb .neq 40,gB,fo 1 6,fo 1 7,oC 20 [46,48],nn,gZ,gB,of 2 6,nl 65,of 2 7,nl 65,oC 136 [54,56],nn,gZ],cr 59 4 [oz 2]]),rg 27 [ic 5]])],rg 4 [oq (.mv (.c (.bool ab)))],.ret]) [.tmp 4] 60:=aW func71
def axS:=af @am <| af @a7 <| af @b9 @eB
def auk(l:List (List UInt8))(D:ah)(hl:l.length<=100000):a8 20 [.sl .no 1 (cD l),.sl .no 1 (cD l)] D (.bool ab):=by
 refine ah_.aV ?_;simp only[aU,axS,Nat.reduceAdd];refine cn (l.length) (λi (x:Unit)=>⟨[.sl .no 1 (cD l),.sl .no 1 (cD l),.any,.any,.any,.int .i64 (i:Nat)]++aq 20 .any,[],D⟩) (λi x=>(True)) λF hF JF aT=>⟨?_,?_,?_⟩
 .exact en aT (()) (trivial)
 .rintro i x hi -;simp only[hF,aq,am,cc hi,eB];refine ix (BL hi) ?_;simp only[am];refine ix (BL hi) ?_;simp only[am,b9,aI,bJ hi];exact nx aT (()) hi (trivial)
 .rintro x -;simp only[hF,aq,am,aI,cE,aI,eB];exact aX rfl (ah.bm _) ⟨rfl,rfl⟩
def axT:=af @am <| af @a7 <| af @b9 @bz.al
def axU:=af @am <| af @b9 <| af @bh.al @bz.al
def aul(x:bz)(D:ah)(hx:x.ok):a8 71 [.agg x.enc,.agg x.enc] D (.bool ab):=by
 obtain⟨U,h2⟩:=hx;refine akj.aV ?_;simp only[aU,axT,Nat.reduceAdd,aN];refine cn (x.bC.length) (λi (y:Unit)=>⟨[.any,.any,.ptr (.aE 0) 0,.ptr (.aE 1) 0,.any,.int .i64 (i:Nat)]++aq 54 .any,[x.enc,x.enc],D⟩) (λi y=>(True)) λF hF JF aT=>⟨?_,?_,?_⟩
 .exact en aT (()) (trivial)
 .rintro i y hi -;simp only[hF,aq,am,cc hi,Nat.reduceAdd,b9,Nat.reduceLT,bz.al,aN];refine ix (LK hi) ?_;simp only[am,bh.al,bz.al];refine ix (LK hi) ?_;simp only[axU,Nat.reduceAdd];refine cl (auk x.bC[i].an D (h2 _ (dj hi))) ?_;simp only[am,Rl.al,bh.al];refine cl (Ym x.bC[i].rel x.bC[i].rel D) ?_;simp only[am,b9,aI,bJ hi];refine fk (()) hi ?_ ?_ ?_ ?_ ?_ ?_
  .exact ey (aT _ _) (trivial)
  all_goals simp[hF,aq,am,bt,bR,du,V.lo,bz.cP]
 .rintro y -;simp only[hF,aq,am,aI,cE,aI,bz.al,aN];exact aX rfl (ah.bm _) ⟨rfl,rfl⟩
def ZQ{l:List db}(h:j<l.length):(l.map db.enc)[((j:Nat):Int).toNat]?=aa l[j].enc:=by simp[h]
def awt{v:db}:fZ [2,1,1] v.enc v.enc=aa true:=by rw[db.enc,LH,v7,v7,LG,tA,tA,tA];simp
def axV:=af @am <| af @a7 <| af @b9 @aH.al
def aum(s:aH)(D:ah)(hs:s.ok):a8 41 [.agg s.enc,.agg s.enc] D (.bool ab):=by
 obtain⟨U,h2,h3⟩:=hs;refine aj5.aV ?_;simp only[aU,axV,Nat.reduceAdd,aN];refine cn (s.ba.length) (λi (y:Unit)=>⟨[.any,.any,.ptr (.aE 0) 0,.ptr (.aE 1) 0,.any,.int .i64 (i:Nat)]++aq 71 .any,[s.enc,s.enc],D⟩) (λi y=>(True)) λF hF JF aT=>⟨?_,?_,?_⟩
 .exact en aT (()) (trivial)
 .rintro i y hi -;simp only[hF,aq,am,cc hi,aH.al,aN];refine ix (sS hi) ?_;simp only[am,aH.al];refine ix (sS hi) ?_;simp only[am,b9,aH.al];refine ix (sS hi) ?_;simp only[am,aH.al];refine ix (sS hi) ?_;simp only[am,aH.al,bz.al];refine bK.intro (aul s.ba[i].shape D (h3 _ (dj hi))) ?_;simp only[am,aI,bJ hi];exact nx aT (()) hi (trivial)
 .rintro y -;simp only[hF,aq,am,aI,cE,aI,aH.al,aN];refine cn (s.vars.length) (λi (x:Unit)=>⟨[.any,.any,.ptr (.aE 0) 0,.ptr (.aE 1) 0,.any,.any,.int .i64 (i:Nat)]++aq 70 .any,[s.enc,s.enc],D⟩) (λi x=>(True)) λF2 bZ pU df=>⟨?_,?_,?_⟩
  .refine en df (()) (trivial) ?_ ?_ ?_
   all_goals simp[bZ,aq,am,bt]
  .rintro i x hj -;simp only[bZ,aq,am,cc hj,aH.al,aN];refine ix (ZQ hj) ?_;simp only[am,aH.al,db.DB];refine ix (ZQ hj) ?_;simp only[am,aI,db.DB,awt,bJ hj];refine nx df (()) hj (trivial) ?_ ?_ ?_
   all_goals simp[bZ,aq,am,bt]
  .rintro x -;simp only[bZ,aq,am,aI,cE,aI,aH.al,aN];exact aX rfl (ah.bm _) ⟨rfl,rfl⟩
def fn8:aS prog 8 (sq [rg 2 [oz 2],sq [rg 5 [om 0,nL,nB .gtr 60],cr 7 2 [oq (.mv (.c (.bool ab)))]],sq [rg 8 [om 0,nL,oi 0],lp 9 0 (sq [rg 12 [oA 1 8 10,no,o1 4],rg 14 [om 4,nT,nB .gtr 1500],cr 16 2 [oq (.mv (.c (.bool ab)))]]) 17],rg 2 [oz 2],.ret]) [.tmp 2] 18:=aW func8
def agY:aS prog 10 (sq [rg 0 [oq (.mv (.c .jr))],rg 1 [oW [8,8,23,6,0,10] [],oq (.gS 6 (.s 1)),o1 0],.ret]) [.tmp 0] 3:=aW func10 ⟨[2],[]⟩
def aiD:aS prog 23 (sq [rg 4 [ox 2 3 0,ox 3 3 1,oz 2],sq [rg 6 [of 0 2,nl 2,of 0 3,nl 2,oC 41 [7,9],nn,gB,fo 2 2,nL,fo 2 3,nL,nb .neq 15,gZ],cr 20 4 [oz 2]],sq [rg 21 [fo 2 2,nL,oi 0],lp 23 0 (sq [rg 26 [om 24,o1 5],dg 27 [fo 2 2,om 5,nA 18 28,nl 18,fo 2 3,om 5,nA 18 33,nl 18,oC 14 [31,36],nn],cr 38 4 [oz 2]]) 39],rg 4 [oq (.mv (.c (.bool ab)))],.ret]) [.tmp 4] 40:=aW func23
def AV(l:List (List UInt8)):Bool:=decide (60<l.length)||l.any λt=>decide (1500<t.length)
def ack(h:AV l=ar):l.length<=60/\∀t∈l,t.length<=1500:=by
 simp only[AV,ui,xw,QL,bQ] at h;exact⟨by omega,λt ht=>by have:=h.2 t ht;omega⟩
def aa5(hi:i<l.length){p:List UInt8->Bool}:(l.take (i+1)).any p=((l.take i).any p||p l[i]):=by
 rw[iG hi,List.any_append];simp
def acj(l:List (List UInt8))(D:ah):a8 8 [.sl .no 1 (cD l)] D (.bool (AV l)):=by
 refine fn8.aV ?_;simp only[aU,am,a7,Nat.reduceAdd,eB]
 by_cases h:60<l.length
 .simp only[am,aK (show(60:Int)<l.length by omega)];exact aX rfl (ah.bm _) ⟨by rw[AV,aK h];rfl,rfl⟩
 simp only[am,eB,aJ (show ¬(60:Int)<l.length by omega)];refine cn (l.length) (λi (x:Unit)=>⟨[.any,.any,.any,.any,.any,.any,.any,.any,.sl .no 1 (cD l),.int .i64 (l.length:Nat),.int .i64 (i:Nat)]++aq 7 .any,[],D⟩) (λi x=>((l.take i).any (λt=>decide (1500<t.length))=ar)) λF hF JF aT=>⟨?_,?_,?_⟩
 .exact en aT (()) (rfl)
 .rintro i x hi hx;simp only[hF,aq,am,cc hi];refine ix (BL hi) ?_;simp only[am]
  by_cases hq:1500<l[i].length
  .simp only[am,aI,aK (show(1500:Int)<l[i].length by omega)];refine aX rfl (ah.bm _) ⟨?_,rfl⟩
   have:l.any (λt=>decide (1500<t.length))=true:=yK.2 ⟨l[i],dj hi,aK hq⟩
   rw[AV,this,Bool.or_true];rfl
  .simp only[am,aI,aJ (show ¬(1500:Int)<l[i].length by omega),bJ hi];exact nx aT (()) hi (by rw[aa5 hi,hx,aJ hq];rfl)
 .rintro x hx;simp only[hF,aq,am,aI,cE,aI];rw[dX] at hx;exact aX rfl (ah.bm _) ⟨by rw[AV,hx,aJ h];rfl,rfl⟩
def jd(l:Lv):List V:=[.sl .no 3 (l.fQ.ba.map dJ.enc),.sl .no 3 (l.fQ.vars.map db.enc),.sl .no 18 (l.fE.map dG.enc)]
def asl(l:Lv)(D:ah)(ho:l.ok):a8 23 [.agg (jd l),.agg (jd l)] D (.bool ab):=by
 have hm:=ho.m;have ha:=ho.a;have RZ:=aum l.fQ D ho.s.1;rw[aH.enc] at RZ;have hp:∀{n:Nat},jd l=jd l:=rfl;refine aiD.aV ?_;simp only[aU,am,a7,Nat.reduceAdd];simp only[jd];simp only[am,Nat.reduceAdd];refine cl (RZ) ?_;simp only[am,aN,b9,aN];refine cn (l.fE.length) (λi (x:Unit)=>⟨[.any,.any,.ptr (.aE 0) 0,.ptr (.aE 1) 0,.any,.any,.any,.any,.any,.any,.any,.any,.any,.any,.any,.any,.any,.any,.any,.any,.any,.any,.any,.int .i64 (l.fE.length:Nat),.int .i64 (i:Nat)]++aq 15 .any,[jd l,jd l],D⟩) (λi x=>(True)) λF hF JF aT=>⟨?_,?_,?_⟩
 .refine en aT (()) (trivial) ?_ ?_ ?_
  all_goals simp[hF,aq,am,bt,jd]
 .rintro i x hi -;have ci:=ha _ (dj hi);simp only[hF,aq,am,cc hi];simp only[jd];simp only[am];refine ix (Hb hi) ?_;simp only[am,lu];refine ix (Hb hi) ?_;simp only[am,lu];refine bK.intro (as_ l.fE[i] D ci.c ci.a ci.b) ?_;simp only[am,aI,bJ hi];refine nx aT (()) hi (trivial) ?_ ?_ ?_
  all_goals simp[hF,aq,am,bt,jd]
 .rintro x -;simp only[hF,aq,am,aI,cE,aI];exact aX rfl (ah.bm _) ⟨rfl,rfl⟩
def au8(D:ah):ch prog 10 [] D λv σ' => ∃b,v = .ptr (.out b) 0/\D.box b=aj/\σ' = D.set b TO:=by
 refine agY.aV ?_;simp only[aU,am,a7,Nat.reduceAdd];intro b hb;simp only[am];exact aX rfl (ah.bm _) ⟨b,rfl,hb,rfl⟩
def fn9:aS prog 9 (sq [rg 0 [oz 2],rg 10 [oC 10 [],o1 1],sq [rg 11 [oq (.ko 1 [(.c (.aG [99,104,97,105,110,32,107,32,123,97,44,98,125])),(.c (.aG [112,117,115,104])),(.c (.aG [108,97,98,101,108,32,107,32,32,123,120,125])),(.c (.aG [112,111,112]))]),nL,oi 0],lp 12 0 (sq [rg 15 [oA 1 11 13,no,o1 3],rg 18 [om 1,om 3,oC 12 [18,19],o1 17,oe 17 0,oe 17 1,oe 17 2,oZ 4 [0,0,1,0,7,9,0,0,0,1,7,10,0,0,1,7,10],oR 5 kP,oZ 6 [0,0],os 17 4 21,os 18 5 22,o2 2 6],rg 24 [ol 2 6,oW [0,0] [],oq (.l8 ab [1,1] (.s 24) (.s 25))],cr 26 0 [oz 2]]) 27],rg 29 [om 1,oc 12 [.s 29,.c (.aG [112,111,112])],o1 28,oe 28 0,oe 28 1,oe 28 2,oZ 7 [0,0,1,0,7,9,0,0,0,1,7,10,0,0,1,7,10],oR 8 kP,oZ 9 [0,0],os 17 7 31,os 18 8 32,o2 2 9],rg 34 [om 1,oC 11 [34],oq (.pZ .eql (.s 35) (.c (.aG [99,104,97,105,110,32,107,32,123,97,44,98,125,10]))),gA,ol 2 9,oG [0,0] [(0,1,.c (.int .i64 8))],oq (.l8 ar [1,1] (.s 38) (.s 39)),gZ,gA,om 1,oC 15 [43],oG [0,0,0] [(0,1,.c (.int .i64 14)),(2,1,.c (.int .i64 1))],oq (.l8 ar [1,1,1] (.s 44) (.s 45)),gZ,o1 0],.ret]) [.tmp 0] 48:=aW func9
def NS(D:ah):ch prog 10 [] D λv σ' => ∃b,v = .ptr (.out b) 0/\D.box b=aj/\σ' = D.set b (kZ .aZ .zero) :=
 ch.up (au8 D) λv σ' ⟨b,U,h2,h3⟩=>⟨_,by rw[h3];exact bW.set akS,b,U,h2,rfl⟩
def Ls{s:fq}(hs:s.ok)(ht:t.length<=3000):(gw s t).ok:=by
 by_cases h:(gJ s t).2.2.cls=0
 .exact aeZ hs (OB ht).n (Wa ht h).2.1
 .rw[gw,qQ,aF h];exact hs
def TH:∀{l:List (List UInt8)} {s:fq},s.ok->(∀t∈l,t.length<=3000)->(l.foldl gw s).ok
 | [],_,hs,_=>hs
 | t::l,_,hs,h=>TH (l:=l) (Ls hs (h t (by simp))) λx hx=>h x (by simp[hx])
def Wf{s:fq}(h:s.ok):s.live.lines.length<=100000:=by
 have U:=@Jc s.live.lines;have h2:=h.l.t;omega
def IU{s:fq}{k:Tk}(h:D.box b=aa (kZ k s))(ho:s.ok):a8 11 [.ptr (.out b) 0] D (.aG (r9 s.live.lines)) :=
 avs rfl (by have:=ho.l.t;omega) (We h (Wf ho))
def HJ:(p_ i).ok:=TH PR λt ht=>S_ t (Cs ht)
def Rk(hg:TZ D)(kq:D.b8 0=aa gG):a8 9 [] D (.bool ab):=by
 refine fn9.aV ?_;simp only[aU,am,a7,Nat.reduceAdd];refine(NS D).mono ?_;rintro v bF ⟨b,rfl,hb,rfl⟩;simp only[am,Nat.reduceAdd];refine cn (4) (λi (x:ah × Tk)=>⟨[.any,.ptr (.out b) 0,.any,.any,.any,.any,.any,.any,.any,.any,.any,.sl .aZ 1 (cD v8),.int .i64 4,.int .i64 (i:Nat)]++aq 34 .any,[],x.1⟩) (λi x=>(pz x.1 b x.2 (p_ i)/\D.sub x.1/\xk D x.2/\x.1.b8=D.b8)) λF hF JF aT=>⟨?_,?_,?_⟩
 .refine en aT ((D.set b (kZ .aZ .zero),.aZ)) (⟨YZ,PS hb,by simp[xk],rfl⟩) ?_ ?_ ?_
  all_goals simp[hF,aq,am,bt,v8,cD]
 .rintro i ⟨eT,k⟩ hi ⟨U,h2,h3,h4⟩;simp only at U h2 h3 h4;have dt : i<v8.length:=hi;have hf:=af' ⟨i,hi⟩;rw[ny dt] at hf;have cd:=Hv v8[i] U HJ (show TZ eT from by rw[TZ,h4];exact hg) (by rw[h4];exact kq) (S_ _ (dj dt));generalize gJ (p_ i) v8[i]=X at cd hf;obtain⟨c,y,f⟩:=X;simp only at hf;subst hf;simp only[wG] at cd;simp only[hF,aq,am];simp only[am,aK (show((i:Nat):Int)<4 by omega)];refine ix (BL dt) ?_;simp only[am];refine cd.mono ?_;rintro v Ci ⟨rfl,k',h5,h6⟩;simp only[am,Nat.reduceAdd,aY.al,dZ,lu];simp only[am,b9,aI,LX,bJ hi];obtain⟨h7,h8⟩:=Kp.sub h2 hb h3 h6;refine fk ((Ci,k')) hi ?_ ?_ ?_ ?_ ?_ ?_
  .exact ey (aT _ _) (⟨by rw[af_ dt];exact h5,h7,h8,h6.c.trans h4⟩)
  all_goals simp[hF,aq,am,bt,bR,du,V.lo,az.enc,az.dc]
 .rintro⟨eT,k⟩ ⟨U,h2,h3,h4⟩;simp only[hF,aq,am];simp only[am,aI,aJ (show ¬(((4:Nat):Int)<4) by decide)];have cd:=Hv Jx U HJ (show TZ eT from by rw[TZ,h4];exact hg) (by rw[h4];exact kq) (by decide);have hf:=aga;have hd:gw (p_ 4) Jx=p_ 4:=by rw[gw,qQ,aF (by rw[hf];decide)]
  rw[hd] at cd;generalize gJ (p_ 4) Jx=X at cd hf;obtain⟨c,y,f⟩:=X;simp only at hf;subst hf;simp only[wG] at cd;refine cd.mono ?_;rintro v Ci ⟨rfl,k',h5,h6⟩;simp only[am,Nat.reduceAdd,aY.al,dZ,lu];have ct:=IU h5.b HJ;have cr:=PN h5.b (by have:=HJ (i:=4) |>.n;omega);rw[agc] at ct;refine cl ct ?_;simp only[am,b9,aY.al];simp only[am,b9,LX];have er:qC (p_ 4)=⟨14,0,1⟩:=by
   obtain⟨r1,r2,r3⟩:=agb;rw[qC,r1,r2,r3];rfl
  rw[er] at cr;refine cl cr ?_;simp only[am,b9,Rm.enc];exact aX rfl (Kp.sub h2 hb h3 h6).1 ⟨rfl,rfl⟩
end Go.Proofs.Tryz
namespace Go.Am
open Go.ChangeShapes Go.WideShapes Go.ChangeAt Go.RowKit
structure AA{H:Type}(B:DataW H->Nat)(BA:List (DataW H)->Nat):Prop where
 aG:∀b,B (.lit (.string b))=b.length+1
 int:∀k n,B (.lit (.int k n))=1
 bool:∀b,B (.lit (.bool b))=1
 nil:B .nil=1
 slice:∀e s,B (.slice e s)=BA e+BA s+1
 agg:∀p,B (.agg p)=BA p+1
 no:BA []=0
 cons:∀d r,BA (d::r)=B d+BA r
def v5(W:World):Env:=⟨W,λ_=>.const,λ_=>aj,λ_=>aj⟩
section
variable {H:Type} {enc:TypeId × Value->H} {P:Program} {W:World} {sp:Nat->Bool} {B:DataW H->Nat} {BA:List (DataW H)->Nat}
variable{cs:List Value}
def atd{t:TypeId}{n:Nat}{x:DataW H × List MemPlace}(ht:P.underlying t=aa .string)(hB:AA B BA)(h:DataW.trod enc P W 0 sp ab n t cs=aa x):
 ∃s:List UInt8,RL (v5 W) [.aG s] cs/\(∀v∈cs,v.oneCell' = ab)/\s.length+1=B x.1:=by
 obtain⟨s,rfl,rfl,_⟩:=DataW.trod_string ht h;exact⟨s.data.toList,by simp[RL,R],by simp[Value.oneCell'],(hB.aG _).symm⟩
def XZ{O:Type}(ea:O->List V)(sz:O->Nat){e:TypeId}{k n:Nat}(hB:AA B BA)(hk:P.cellsOf e=k)(hlen:∀y,(ea y).length=k)
 (mI:∀cs x,DataW.trod enc P W 0 sp ab n e cs=aa x->∃y:O,RL (v5 W) (ea y) cs/\(∀v∈cs,v.oneCell' = ab)/\sz y<=B x.1) {b o:Nat} :
 ∀(vY:List (DataW H × List MemPlace)) (i:Nat),(∀j,j<vY.length->(W.cells? 0 (Addr.add ⟨b,o,aj⟩ ((i+j)*k)) k).bind (DataW.trod enc P W 0 sp ab n e)=vY[j]?) ->
  ∃l:List O,l.length=vY.length/\gv (v5 W).nl k (l.map ea) b (o+i*k)/\(l.map sz).sum<=BA (vY.map (·.1))
 | [],i,_=>⟨[],rfl,by simp[gv],by simp⟩
 | x :: vY, i, h => by
  obtain⟨l,U,h2,h3⟩:=XZ ea sz hB hk hlen mI vY (i+1) λj hj=>by
   have:=h (j+1) (by simp;omega)
   rw[show i+(j+1)=i+1+j by omega] at this;simpa using this
  have h0:=h 0 (by simp);simp only[xg,Kz] at h0;obtain⟨cs,hc,hr⟩:=iV.1 h0;obtain⟨y,k1,k2,k3⟩:=mI cs x hr;obtain⟨_,hl,wg⟩:=World.cells?_some hc;refine⟨y::l,by simp[U],?_,?_⟩
  .simp only[cz,gv];refine⟨hlen y,Cw k1 k2 (λj v hv=>?_) (λ_ _=>trivial),by rw[show o+i*k+k=o+(i+1)*k by rw[jw];omega];exact h2⟩;have hj:j<k:=by have:=(fy.1 hv).1;omega
   have:=wg j hj
   rw[my,my] at this;show W.cell? _=_;rw[this,hv]
  .simp only[cz,py,hB.cons];omega
variable{e:TypeId}{fuel k:Nat}{O:Type}
def atc(ea:O->List V)(sz:O->Nat){t:TypeId}(hB:AA B BA)(ht:P.underlying t=aa (.slice e))(hk:P.cellsOf e=k)(iw:0<k)(hlen:∀y,(ea y).length=k)
 (mI:∀n,n<fuel->∀cs x,DataW.trod enc P W 0 sp ab n e cs=aa x->∃y:O,RL (v5 W) (ea y) cs/\(∀v∈cs,v.oneCell' = ab)/\sz y<=B x.1)
 {cs:List Value} {x:DataW H × List MemPlace} (h:DataW.trod enc P W 0 sp ab fuel t cs=aa x) :
 ∃l:List O,RL (v5 W) [.sl .no k (l.map ea)] cs/\(∀v∈cs,v.oneCell' = ab)/\(l.map sz).sum+1<=B x.1:=by
 rcases DataW.trod_slice ht h with ⟨rfl,rfl⟩ | ⟨a,len,cap,elems,rest,n,rfl,rfl,rfl,_,hle,_,hl,UH,_,_⟩
 .refine⟨[],?_,by simp[Value.oneCell'],by simp[hB.nil]⟩;simp only[RL,R,fe,im];exact⟨aj,0,rfl,by simp,by simp,trivial⟩
 .have ha:elems=[]\/∃b o,a=⟨b,o,aj⟩:=by
   cases elems with
   | nil=>exact .inl rfl
   | cons y ys =>
    right;have h0:=UH 0 (by rw[<-hl];simp);simp only[Kz] at h0;obtain⟨cs',hc,_⟩:=iV.1 h0;obtain⟨_,fS,wg⟩:=World.cells?_some hc;have U:=wg 0 (by rw[hk];exact iw);have h2:cs'[0]?=aa (cs'[0]'(by rw[fS,hk];exact iw)):=cK _;rw[h2] at U;obtain⟨b,o,s⟩:=a;refine⟨b,o,?_⟩;simp only[World.cell?] at U;cases s with
    | none=>rfl
    | some s =>
     split at U
     .simp[Addr.add] at U
     .simp at U
  rcases ha with rfl | ⟨b,o,rfl⟩
  .refine⟨[],?_,by simp[Value.oneCell'],by simp[hB.slice]⟩;simp only[dQ] at hl;subst hl;simp only[RL,R,fe,im];exact⟨aa a,cap,rfl,by simp,by simp,trivial⟩
  .obtain⟨l,U,h2,h3⟩:=XZ (B:=B) (BA:=BA) (sp:=sp) (enc:=enc) (P:=P) (W:=W) (n:=n) ea sz hB hk hlen (mI n (KO n)) elems 0 (λj hj=>by
    have:=UH j (by omega)
    rw[hk] at this;rw[j6];exact this)
   refine⟨l,?_,by simp[Value.oneCell'],?_⟩
   .simp only[RL,R,aN,im];exact⟨aa ⟨b,o,aj⟩,cap,by rw[U,hl],by omega,.inr ⟨b,o,rfl,by simpa using h2⟩,trivial⟩
   .rw[hB.slice];omega
end
variable{H:Type}{P:Program}{W:World}{args:Array Value}{before:List MemPlace}{f:Func}{tb:TypeId}
def asg{enc:TypeId × Value->H}{s:ChangeSpec}{ds:List (DataW H)}
 (hl:laidOutB P=ab) (hm:mapsRowed P=ab) (hz:((bA P.types.size).all λt=>match P.underlying t with | some (.slice e)=>decide (0<P.cellsOf e) | _=>ab)=ab)
 (jo:f.resultTypes=#[tb]) (Dd:P.underlying tb=aa .bool) (Fl:∀t∈f.params.toList,t<P.types.size) (Dg:s.vars=[]) (wj:(s.fn H ds).results=[.lit (.bool ab)]/\(s.fn H ds).args=ds/\(s.fn H ds).vars=[])
 (hW:DataW.Whole enc P f.params.toList s.vars ar W args.toList ds [] before) {W' : World} (hos:W'.os=W.os) (amA:W'.output=W.output) (al1:∀a,W'.frozen? a=W.frozen? a) (mQ:∀b,b<W.heap.size->W'.heap[b]?=W.heap[b]?) :
 s.post enc P f ar ab ar ar W args (.bool ab) W' := by
 have ET := hW;obtain⟨p,q,hA,hV,rfl,MQ,Fh⟩:=hW;rw[Dg] at hV;obtain⟨_,rfl⟩:=trodVars_none hV;have amd:W.keptBut W' (λ_=>False):=by
  refine⟨hos,amA,λi hi=>?_⟩;rw[mQ i hi];cases W.heap[i]? with
  | none=>rfl
  | some ob=>cases ob<;>simp
 simp only[eD] at ET;have kV:s.fn H (ds++[])=s.fn H ds:=by rw[eD]
 refine post_of_same (pa:=p) (pv:=[]) ET (λb JO hd=>?_) (λJO hs=>?_) (λJO hs=>?_) (by simp) (World.keptBut_mono (λ_ h=>h.elim) amd) ?_ (ok_one jo rfl (okWide_bool_mk Dd _))
 .rw[kV,wj.1,jo];exact trodAll_cons_mk (shut_bool Dd _) trodAll_mk0
 .rw[kV,wj.2.1];have aD:=DataW.TrodAll.lt hA;have key:∀(ts:List TypeId) (vs:List Value) (ds:List (DataW H)) (ps:List MemPlace),(∀t∈ts,t<P.types.size)->DataW.TrodAll enc P W 0 (λ_=>ab) ab ts vs ds ps->(∀x∈ps,x.block<W.heap.size)->(∀x∈ps,JO x.block=ab)->DataW.TrodAll enc P W' 0 JO ab ts vs ds ps:=by
   intro ts;induction ts with
   | nil=>intro vs ds ps _ h _ _;cases vs<;>cases ds<;>first | exact h | exact h.elim
   | cons t ts ih =>
    intro vs ds ps hT h aD hs;cases vs with
    | nil=>exact h.elim
    | cons v vs =>
     cases ds with
     | nil=>exact h.elim
     | cons d ds =>
      obtain⟨p,q,⟨n,U⟩,h2,rfl⟩:=h;refine⟨p,q,⟨n,?_⟩,ih vs ds q (λt ht=>hT t (by simp[ht])) h2 (λx hx=>aD x (by simp[hx])) (λx hx=>hs x (by simp[hx])),rfl⟩;refine DataW.trod_stays (kids_rows hl hm) (λ{t e} ht he=>slices_full_of P hz t e ht he) (by simp) (hT t (by simp)) U (λx hx=>?_) (λx hx=>hs x (by simp[hx]));have hb:=aD x (by simp[hx]);cases x with
      | cell b off=>exact CH (mQ b hb)
      | map b=>exact mQ b hb
  exact key _ _ _ _ Fl hA (λx hx=>aD x hx) (λx hx=>hs x (by simpa using hx))
 .rw[kV,wj.2.2,Dg];rfl
 .exact al1
def asf{enc:TypeId × Value->H}{s:ChangeSpec}{ds:List (DataW H)}
 (hl:laidOutB P=ab) (hm:mapsRowed P=ab) (hz:((bA P.types.size).all λt=>match P.underlying t with | some (.slice e)=>decide (0<P.cellsOf e) | _=>ab)=ab)
 (jo:f.resultTypes=#[tb]) (Dd:P.underlying tb=aa .bool) (Fl:∀t∈f.params.toList,t<P.types.size) (Dg:s.vars=[]) (wj:(s.fn H ds).results=[.lit (.bool ab)]/\(s.fn H ds).args=ds/\(s.fn H ds).vars=[])
 (hW:DataW.Whole enc P f.params.toList s.vars ar W args.toList ds [] before) {E' : Env} (bq:Fr (v5 W) E') :
 s.post enc P f ar ab ar ar W args (.bool ab) E'.w :=
 asg hl hm hz jo Dd Fl Dg wj hW bq.os bq.output bq.iq λb hb=>(bq.same b hb (.inl rfl)).1
section
variable {P:Program} {W:World} {r:Reach} {b:Nat} {t:TypeId} {v:Value} {E:Env}
variable{e:TypeId}
def av7{x:V}(ht:P.underlying t=aa (.slice e))(hv:Value.okWide P W r b t v)(h:RL E [x] v.cells.toList):R E x v:=by
 obtain⟨a,len,cap,rfl⟩:=okWide_slice ht hv;simpa [Value.cells,RL] using h
end
def r_(s:List UInt8):Value:=.string ⟨s.toArray⟩
section
variable {H:Type} {enc:TypeId × Value->H} {P:Program} {W:World}
def Xc(ps:List (List UInt8 × List UInt8)):DataW H:=.agg (ps.map λp=>.agg [.lit (.string p.1),.lit (.string p.2)])
variable{O:Type}
def Wg{l:List O}(h:l.length=2):∃a b,l=[a,b]:=by
 match l,h with
 | [a,b],_=>exact⟨a,b,rfl⟩
def ZM{s:ByteArray}{l:List UInt8}(h:s.data.toList=l):Value.string s=r_ l:=by subst h;simp[r_]
def chunks{O:Type}{k:Nat}(f:Nat->List O):∀(n:Nat) (cs:List O),cs.length=n*k->(∀i,i<n->(cs.drop (i*k)).take k=f i)->cs=((bA n).map f).flatten
 | 0,cs,hl,_=>by simp at hl;simp[hl]
 | n + 1, cs, hl, h => by
  rw[GW] at hl;have U:=chunks (k:=k) f n (cs.take (n*k)) (by rw[iN];omega) λi hi=>by
   have:i*k+k<=n*k:=by rw[<-GW];exact sd _ hi
   rw[Ku,List.take_take,xh (by omega)];exact h i (by omega)
  have h2:=h n (by omega);rw[AN (by rw[KD];omega)] at h2;rw[iF,fX,vC,<-U];simp only[cz,fe,lV,QU,eD];rw[<-h2,rG]
variable{cs:List Value}{e:TypeId}{fuel:Nat}{sp:Nat->Bool}
def adp{base:Nat}{held:Bool}{tf:TypeId}{fs:Array Field}{x:DataW H × List MemPlace}{a b:List UInt8}
 (he:P.underlying e=aa (.struct fs)) (hs:fs.size=2) (MM:(fs[0]?).map (λf=>(f.type,f.offset))=aa (tf,0)) (C4:(fs[1]?).map (λf=>(f.type,f.offset))=aa (tf,1))
 (IB:P.underlying tf=aa .string) (Ia:P.cellsOf tf=1) (xN:P.cellsOf e=2)
 (h:DataW.trod enc P W base sp held fuel e cs=aa x) (hx:x.1 = .agg [.lit (.string a),.lit (.string b)]):cs=[r_ a,r_ b]:=by
 obtain⟨xs,m,rfl,rfl,hl,xZ,hf⟩:=DataW.trod_struct he h;rw[xN] at hl;rw[hs] at xZ;obtain⟨u,v,rfl⟩:=Wg hl;obtain⟨x0,x1,rfl⟩:=Wg xZ;obtain⟨f0,g0,g1⟩:=dn.1 MM;obtain⟨f1,g2,g3⟩:=dn.1 C4;simp only[pW] at g1 g3;have h0:=hf 0 f0 g0;have U:=hf 1 f1 g2;rw[g1.1,g1.2,Ia] at h0;rw[g3.1,g3.2,Ia] at U;obtain⟨s0,p0,q0,_⟩:=DataW.trod_string IB h0;obtain⟨s1,p1,q1,_⟩:=DataW.trod_string IB U;simp only[Kv,D7,xf,List.take_zero,iE,im] at p0 p1;subst p0 p1 q0 q1;simp only[cz,fe,DataW.agg.injEq,iE,DataW.lit.injEq,Lit.string.injEq,im] at hx;rw[ZM hx.1,ZM hx.2]
def adq{base:Nat}{held:Bool}{t tf:TypeId}{n:Nat}{fs:Array Field}{ps:List (List UInt8 × List UInt8)}{p:List MemPlace}
 (ht:P.underlying t=aa (.array n e)) (he:P.underlying e=aa (.struct fs)) (hs:fs.size=2) (MM:(fs[0]?).map (λf=>(f.type,f.offset))=aa (tf,0)) (C4:(fs[1]?).map (λf=>(f.type,f.offset))=aa (tf,1))
 (IB:P.underlying tf=aa .string) (alT:P.cellsOf tf=1) (xN:P.cellsOf e=2) (Ia:P.cellsOf t=n*2)
 (h:DataW.trod enc P W base sp held fuel t cs=aa (Xc ps,p)):cs=(ps.flatMap λp=>[p.1,p.2]).map r_:=by
 obtain⟨xs,m,rfl,hx,hl,xZ,hi⟩:=DataW.trod_array ht h;rw[Ia] at hl;have qZ:xs.map (·.1)=ps.map λp=>(.agg [.lit (.string p.1),.lit (.string p.2)]:DataW H):=by
  have:=iH Prod.fst hx
  simpa [Xc] using this.symm
 have qk:ps.length=n:=by
  have:=iH List.length qZ
  simp at this;omega
 have hc:=chunks (λi=>match ps[i]? with | some p=>[r_ p.1,r_ p.2] | none=>[]) n cs hl (λi eX=>by
  have U:=hi i eX;rw[xN] at U;have Vh:xs[i]?=aa xs[i]:=by simp[xZ,eX]
  have Db:ps[i]?=aa ps[i]:=by simp[qk,eX]
  rw[Vh] at U;have h2:=iH (·[i]?) qZ;simp only[uo,Vh,Db,uu,bc] at h2;rw[Db];exact adp he hs MM C4 IB alT xN U h2)
 rw[hc,<-qk];clear hc hi xZ hl hx qZ h qk;have key:∀qs:List (List UInt8 × List UInt8),((bA qs.length).map λi=>match qs[i]? with | some p=>[r_ p.1,r_ p.2] | none=>[])=qs.map λp=>[r_ p.1,r_ p.2]:=λqs=>by
  apply QT;intro i
  by_cases hi:i<qs.length
  .simp[hi]
  .simp[hi]
 rw[key,List.map_flatMap,List.flatMap_def];rfl
end
def BM:V->Value
 | .aG s=>r_ s
 | .int k n=>.int k n
 | _=>.bool ar
def isLit:V->Bool
 | .aG _=>ab
 | .int _ _=>ab
 | _=>ar
def aoB{E:Env}{x:V}(h:isLit x=ab)(v:Value):R E x v↔v=BM x:=by
 cases x<;>simp[isLit] at h<;>simp[R,BM,r_]
def FQ(B:Nat->Option (List V)):ah:=⟨λ_=>aj,λ_=>aj,B⟩
def KK(W:World)(B:Nat->Option (List V)):Prop:=∀b cs,B b=aa cs->(∃e,W.heap[b]?=aa (.cells (cs.map BM).toArray e (0,0)))/\∀x∈cs,isLit x=ab
def Wj{E:Env}:∀{cs:List V},(∀x∈cs,isLit x=ab)->RL E cs (cs.map BM)
 | [],_=>by simp[RL]
 | x :: cs, h => by
  simp only[cz,RL];exact⟨(aoB (h x (by simp)) _).2 rfl,Wj λy hy=>h y (by simp[hy])⟩
variable{B:Nat->Option (List V)}
def ape(h:KK W B):(v5 W).ok (FQ B):=by
 refine⟨λ_ _ h=>by simp[FQ] at h,λ_ _ h=>by simp[FQ] at h,λ_ _=>rfl,⟨0,λ_ _=>rfl⟩,λb cs hb=>?_⟩;obtain⟨⟨e,he⟩,hl⟩:=h b cs hb;refine Cw (vs:=cs.map BM) (Wj hl) (λv hv=>?_) (λj v hj=>?_) λ_ _=>trivial
 .obtain⟨x,hx,rfl⟩:=px.1 hv
  have:=hl x hx
  cases x<;>simp[isLit] at this<;>rfl
 .show W.cell? _=_;simp only[World.cell?,he,j6];simpa using hj
def anT{enc:TypeId × Value->H}{n:FuncId}{s:ChangeSpec}{vs:List V}{ds:List (DataW H)}
 (hP:ch P n vs (FQ B) λv σ' => v = .bool ab/\σ' = FQ B) (hg:KK W B) (hR:RL (v5 W) vs args.toList)
 (hl:laidOutB P=ab) (hm:mapsRowed P=ab) (hz:((bA P.types.size).all λt=>match P.underlying t with | some (.slice e)=>decide (0<P.cellsOf e) | _=>ab)=ab)
 (jo:f.resultTypes=#[tb]) (Dd:P.underlying tb=aa .bool) (Fl:∀t∈f.params.toList,t<P.types.size) (Dg:s.vars=[]) (wj:(s.fn H ds).results=[.lit (.bool ab)]/\(s.fn H ds).args=ds/\(s.fn H ds).vars=[])
 (hW:DataW.Whole enc P f.params.toList s.vars ar W args.toList ds [] before) :
 Calls P n args W λe W' => ∃v,e = .returned v/\s.post enc P f ar ab ar ar W args v W' := by
 refine(hP.2 (v5 W) args (λ_=>rfl) (ape hg) hR).mono ?_;rintro e w' ⟨v,x,E',σ',rfl,rfl,_,_,Up,bq,rfl,_⟩;simp only[R] at Up;subst Up;exact⟨_,rfl,asf hl hm hz jo Dd Fl Dg wj hW bq⟩
section
variable {H:Type} {enc:TypeId × Value->H} {P:Program} {W:World}
def VJ{name:String}{d:DataW Unit}{rest:List (String × DataW Unit)}{g:Nat}{t:TypeId}(h:laidMet P ((name,d)::rest) W)(hg:P.globalNamed name=aa g)(ht:(P.globals[g]?).map (·.type)=aa t){vs:List Value}
 (hc:∀(cs:List Value) (fuel:Nat) (p:List MemPlace),DataW.trod (λ_=>()) P W 0 (λ_=>ab) ar fuel t cs=aa (d,p)->cs=vs) (hv:vs≠[]):∃e,W.heap[g]?=aa (.cells vs.toArray e (0,0)):=by
 obtain⟨ps,⟨g',t',cs,fuel,p,q,rN,rR,iy,hd,_,Fm⟩,_,hb⟩:=h;obtain rfl:g' = g:=vG (rN.symm.trans hg);obtain rfl:t' = t:=vG (rR.symm.trans ht);have b7:=hc _ _ _ hd;have zm : cs=vs.toArray:=by rw[<-b7]
 obtain⟨⟨c,e,xN⟩,_⟩:=hb g' 0 (by
  rw[Fm];refine KE _ (KE _ ?_);rw[zm];cases vs with
  | nil=>exact absurd rfl hv
  | cons a l=>simp[MemPlace.row])
 refine⟨e,?_⟩;rw[xN];simp only[World.var?,hg,xl,xN,bc] at iy;rw[iy,zm]
end
section
variable {H:Type} (enc:TypeId × Value->H) (P:Program) (W:World) (B:DataW H->Nat)
def tz(N:Nat)(t:TypeId)(F:List V->Nat->Prop):Prop :=
 ∀n,n<N->∀cs x,DataW.trod enc P W 0 (λ_=>ab) ab n t cs=aa x->∃l,RL (v5 W) l cs/\(∀v∈cs,v.oneCell' = ab)/\F l (B x.1)
end
section
variable {H:Type} {enc:TypeId × Value->H} {P:Program} {W:World} {B:DataW H->Nat} {BA:List (DataW H)->Nat} {N:Nat} {t:TypeId}
variable{F:List V->Nat->Prop}
def tz.mono{M:Nat}(h:tz enc P W B N t F)(hM:M<=N):tz enc P W B M t F:=λn hn=>h n (ur hn hM)
def tz.to{G'':List V->Nat->Prop}(h:tz enc P W B N t F)(hg:∀l b,F l b->G'' l b):tz enc P W B N t G'':=λn hn cs x hx =>
 let ⟨l,U,h2,h3⟩:=h n hn cs x hx
 ⟨l,U,h2,hg _ _ h3⟩
def avU(ht:P.underlying t=aa .string)(hB:AA B BA):tz enc P W B N t λl b=>∃s:List UInt8,l=[.aG s]/\b=s.length+1:=λn _ cs x h =>
 let ⟨s,U,h2,h3⟩:=atd ht hB h
 ⟨_,U,h2,s,rfl,h3.symm⟩
variable{e:TypeId}{k:Nat}{O:Type}
def avS(ea:O->List V)(sz:O->Nat)(hB:AA B BA)(ht:P.underlying t=aa (.slice e))(hk:P.cellsOf e=k)(iw:0<k)(hlen:∀y,(ea y).length=k)
 (mI:tz enc P W B N e λl b=>∃y,l=ea y/\sz y<=b):tz enc P W B (N+1) t λl b=>∃ys:List O,l=[.sl .no k (ys.map ea)]/\(ys.map sz).sum+1<=b:=by
 intro n hn cs x h;obtain⟨ys,U,h2,h3⟩:=atc ea sz hB ht hk iw hlen (λm hm cs x h=>by
  obtain⟨l,k1,k2,y,rfl,k3⟩:=mI m (by omega) cs x h;exact⟨y,k1,k2,k3⟩) h
 exact⟨_,U,h2,ys,rfl,h3⟩
def avT(ea:O->List V)(sz:O->Nat)(hB:AA B BA)(ht:P.underlying t=aa (.slice e))(hk:P.cellsOf e=k)(iw:0<k)(hlen:∀y,(ea y).length=k)
 (mI:tz enc P W B N e λl b=>∃y,l=ea y/\sz y<=b):tz enc P W B N t λl b=>∃ys:List O,l=[.sl .no k (ys.map ea)]/\(ys.map sz).sum+1<=b :=
 (avS ea sz hB ht hk iw hlen mI).mono (Nat.le_succ N)
end
end Go.Am
namespace Go.Proofs.Tryz
open Go.Am Go.ChangeShapes Go.WideShapes Go.ChangeAt Go.RowKit
open Go.Proofs.YtnpggmhoandloaaGreatDoor
def RY(H:Type):AA (H:=H) Rows.uptoBulk Rows.uptoBulkAll :=
 ⟨λ_=>by simp only[Rows.uptoBulk],λ_ _=>by simp only[Rows.uptoBulk],λ_=>by simp only[Rows.uptoBulk],by simp only[Rows.uptoBulk],λ_ _=>by simp only[Rows.uptoBulk],λ_=>by simp only[Rows.uptoBulk],by simp only[Rows.uptoBulkAll],λ_ _=>by simp only[Rows.uptoBulkAll]⟩
def laid:laidOutB prog=true:=by kernel_rfl
def atQ:mapsRowed prog=true:=by kernel_rfl
def akT:((bA prog.types.size).all λt=>match prog.underlying t with | some (.slice e)=>decide (0<prog.cellsOf e) | _=>ab)=true:=by kernel_rfl
def own:ownKnob prog.godebug=none:=by kernel_rfl
def TU:Nat->Option (List V):=λb=>if b=0 then aa gG else if b=1 then aa yA else aj
variable{W:World}
def ald(h:laidMetH prog Rows.stackDropsRow.laid W):KK W TU:=by
 have h0:laidMet prog Rows.stackDropsRow.laid W:=h;have U:=laidMet.tail h0;obtain⟨e0,k0⟩:=VJ (g:=0) (t:=238) (vs:=gG.map BM) h0 (by kernel_rfl) (by kernel_rfl) (λcs fuel p hd=>(adq (ps:=iZ) underlying238 underlying180 (by kernel_rfl) (by kernel_rfl) (by kernel_rfl) underlying9 (by kernel_rfl) (by kernel_rfl) (by kernel_rfl) hd).trans rfl) (by simp[gG,iZ]);obtain⟨e1,k1⟩:=VJ (g:=1) (t:=320) (vs:=yA.map BM) U (by kernel_rfl) (by kernel_rfl) (λcs fuel p hd=>(Lib.cells_of_tab (zs:=J4) underlying320 underlying5 (by kernel_rfl) (by kernel_rfl) hd).trans rfl) (by simp[yA,J4]);intro b cs hb;simp only[TU] at hb;split at hb
 .rename_i hq;subst hq;obtain rfl:=vG hb;exact⟨⟨e0,k0⟩,by decide⟩
 split at hb
 .rename_i hq;subst hq;obtain rfl:=vG hb;exact⟨⟨e1,k1⟩,by decide⟩
 simp at hb
def N1:DataW Unit->List Value
 | .lit (.int k n)=>[.int k n]
 | .lit (.string s)=>[r_ s]
 | _=>[]
def anU:DataW Unit->List Value
 | .agg ds=>ds.flatMap N1
 | d=>N1 d
def anV:DataW Unit->List Value
 | .agg ds=>ds.flatMap anU
 | d=>N1 d
def anW(h:Array Obj)(x:Nat × DataW Unit):Array Obj:=h.modify x.1 fun
 | .cells _ t frozen=>.cells (anV x.2).toArray t frozen
 | o=>o
noncomputable def NY (os:Os):World :=
 {World.holding prog os ⟨#[],#[],[]⟩ with heap:=[(0,Rows.laid_clearance_command_forms),(1,Rows.laid_math_bits_deBruijn64tab)].foldl anW (World.holding prog os ⟨#[],#[],[]⟩).heap}
set_option maxRecDepth 100000
section
variable {H:Type} {enc:TypeId × Value->H} {W:World} {N:Nat}
abbrev TL(enc:TypeId × Value->H)(W:World)(N:Nat)(t:TypeId)(F:List V->Nat->Prop):Prop:=tz enc prog W (Rows.uptoBulk (H:=H)) N t F
def as7:TL enc W N 9 λl b=>∃y:List UInt8,l=[.aG y]/\y.length+1<=b:=(avU underlying9 (RY H)).to λ_ _ ⟨y,h,k⟩=>⟨y,h,by omega⟩
def as1:TL enc W N 22 λl b=>∃ys:List (List UInt8),l=[.sl .no 1 (cD ys)]/\(ys.map λs=>s.length+1).sum+1<=b :=
 avT (λs:List UInt8=>[V.aG s]) (λs=>s.length+1) (RY H) underlying22 (show prog.cellsOf 9=1 by kernel_rfl) (by decide) (λ_=>rfl) (as7.to λ_ _ ⟨y,h,k⟩=>⟨y,h,k⟩)
end
structure Two(D:ah)(b1 b2:Nat)(x:ah × Tk × Tk)(S:fq):Prop where
 s:pz x.1 b1 x.2.1 S
 t:pz x.1 b2 x.2.2 S
 a:Ay x.2.1 x.2.2
 o:S.ok
 u:D.sub x.1
 k:xk D x.2.1
 l:xk D x.2.2
 c:x.1.b8=D.b8
structure One(D:ah)(b:Nat)(x:ah × Tk)(S:fq):Prop where
 s:pz x.1 b x.2 S
 o:S.ok
 u:D.sub x.1
 k:xk D x.2
 c:x.1.b8=D.b8
variable{i:Nat}{l:List (List UInt8)}
def HN{S:fq}(h:i<l.length):(l.take (i+1)).foldl gw S=gw ((l.take i).foldl gw S) l[i]:=by rw[iG h,yN];rfl
section
variable {l:Lv} {a b c:V} {n:Nat}
theorem arV:over [a,b,c] (jd l)=jd l:=rfl
theorem arW:takeN 3 (jd l)=aa (jd l):=rfl
theorem arQ:bP ab 3 (jd l)=aa (.agg (jd l)):=rfl
theorem arR:(jd l).length=3:=rfl
theorem arU:cW (jd l)=true:=rfl
theorem arS:bR n (jd l)=true:=rfl
theorem arT:bT (jd l)=true:=rfl
def ab2{x:dG}:bR n x.enc=true:=by
 obtain⟨op,lat,code,⟨tv,e⟩,ra,rb,v,f⟩:=x;exact bn.Ho (P:=λe=>bR n (dG.enc ⟨op,lat,code,⟨tv,e⟩,ra,rb,v,f⟩)=ab) (λ_ _ _ _ _ _ _ _ _=>rfl) e
def B0:=af @ab2 <| af @arV <| af @arW <| af @arQ <| af @arR <| af @arU <| af @arS @arT
end
def aka:aS prog 48 (sq [rg 2 [ox 1 2 0,oz 2],rg 3 [oz 6],sq [rg 8 [fo 0 1,nL,nB .gtr 16,gB,fo 1 1,nL,nB .gtr 64,gZ],cr 17 2 [oz 2]],sq [rg 4 [oi 0],bl 0 (sq [sq [rg 18 [om 4,fo 0 1,nL,nb .lss 18],cx 22 0],.block 1 (sq [sq [rg 25 [fo 0 1,om 4,nA 3 26,nf 1,nl 2,oC 78 [30],nn],cr 32 2 [oz 2]],rg 33 [om 3,fo 0 1,om 4,nA 3 35,nF 0,n1 1,na 1 33,o1 3]]),rg 23 [ic 4]])],sq [rg 5 [oi 0],bl 2 (sq [sq [rg 42 [om 5,fo 1 1,nL,nb .lss 42],cx 46 2],.block 3 (sq [rg 49 [fo 1 1,om 5,nA 3 50,nl 3,oZ 6 [1,0,0],o2 3 6],sq [rg 54 [fo 1 6,nB .neq 1,gA,fo 1 6,nB .neq 2,gZ,gB,fo 2 6,nB .lss 0,gZ,gB,fo 2 6,fo 0 1,nL,nb .geq 69,gZ],cr 74 2 [oz 2]],rg 75 [om 3,fo 0 6,n1 1,na 1 75,o1 3]]),rg 47 [ic 5]])],sq [rg 7 [oi 0],bl 4 (sq [sq [rg 80 [om 7,om 3,nL,nb .lss 80],cx 83 4],.block 5 (sq [rg 86 [om 3,om 7,nA 1 86,no,oC 79 [89],nn],cr 91 2 [oz 2]]),rg 84 [ic 7]])],rg 92 [om 3,oC 80 [92],nB .lss 0,o1 2],.ret]) [.tmp 2] 95:=aW func48
def vu(n:Nat)(v:db):Bool:=(decide (v.kind=1)||decide (v.kind=2))&&decide (0<=v.lat)&&decide (v.lat<(n:Nat))
def ja(s:aH):List (List UInt8):=s.ba.map dJ.name++s.vars.map db.name
def lj(s:aH):Bool:=decide (s.ba.length<=16)&&decide (s.vars.length<=64)&&(s.ba.all λl=>fH l.shape)&&s.vars.all (vu s.ba.length)&&(ja s).all cV&&(po (ja s)).isNone
def YH{x:List UInt8}:cD (l++[x])=cD l++[[.aG x]]:=by simp[cD]
variable{s:aH}
def auw(hi:i<s.ba.length)(h:fH s.ba[i].shape=ar):lj s=false:=by
 cases hq:lj s with
 | false=>rfl
 | true =>
  simp only[lj,bg,eM] at hq;rw[hq.1.1.1.2 _ (dj hi)] at h;simp at h
def auz(hi:i<s.vars.length)(h:vu s.ba.length s.vars[i]=ar):lj s=false:=by
 cases hq:lj s with
 | false=>rfl
 | true =>
  simp only[lj,bg,eM] at hq;rw[hq.1.1.2 _ (dj hi)] at h;simp at h
def auy(hi:i<(ja s).length)(h:cV (ja s)[i]=ar):lj s=false:=by
 cases hq:lj s with
 | false=>rfl
 | true =>
  simp only[lj,bg,eM] at hq;rw[hq.1.2 _ (dj hi)] at h;simp at h
def auB(s:aH)(D:ah)(ck:s.ok):a8 48 [.agg s.enc] D (.bool (lj s)):=by
 refine aka.aV ?_;simp only[aU,am,a7,Nat.reduceAdd,aH.al,aN]
 by_cases U:16<s.ba.length
 .simp only[am,aK (show(16:Int)<s.ba.length by omega)];refine aL ?_;simp[V.erase,lj];intro h;omega
 .simp only[am,aN,aH.al,aN,aJ (show ¬(16:Int)<s.ba.length by omega)]
  by_cases h2:64<s.vars.length
  .simp only[am,aK (show(64:Int)<s.vars.length by omega)];refine aL ?_;simp[V.erase,lj];intro _ h;omega
  .simp only[am,aJ (show ¬(64:Int)<s.vars.length by omega)];refine cn (s.ba.length) (λi (x:List (List UInt8) × Tk × ah)=>⟨[.any,.ptr (.aE 0) 0,.any,.sl x.2.1 1 (cD x.1),.int .i64 (i:Nat)]++aq 90 .any,[s.enc],x.2.2⟩) (λi x=>(x.1=(s.ba.take i).map dJ.name/\(∀l∈s.ba.take i,fH l.shape=ab)/\Gr D x.2.2 x.2.1 x.1.length)) λF hF JF aT=>⟨?_,?_,?_⟩
   .refine en aT (([],.aZ,D)) (⟨by simp,by simp,Gr.nil⟩) ?_ ?_ ?_
    all_goals simp[hF,aq,am,bt,cD]
   .rintro i ⟨nm,tk,bF⟩ hi ⟨hN,hS,hG⟩;simp only at hN hS hG;have nG:nm.length=i:=by rw[hN];simp;omega
    simp only[hF,aq,am,cc hi,aH.al,aN];refine ix (sS hi) ?_;simp only[am,bz.al,aH.al];refine(Yn s.ba[i].shape bF (ck.2.2 _ (dj hi))).mono ?_;rintro v bF ⟨rfl,rfl⟩;cases h3:fH s.ba[i].shape with
    | false =>
     simp only[am,aI];exact aX rfl hG.sub ⟨by rw[auw hi h3];rfl,rfl⟩
    | true =>
     simp only[am,aH.al];refine ix (sS hi) ?_;simp only[am,aH.al];refine Gr.app (by simpa [eB] using hG) (by simp[aQ,eB];omega) λfD σ' lA _ _=>?_
     simp only[am,aI,bJ hi];refine nx aT ((nm++[s.ba[i].name],fD,σ')) hi (⟨by rw[hN,iG hi,fX];rfl,Gp hS hi h3,by simpa [eB] using lA⟩) ?_ ?_ ?_
     all_goals simp[hF,aq,am,bt,YH]
   .rintro⟨nm,tk,bF⟩ ⟨hN,hS,hG⟩;simp only[dX] at hN hS hG;simp only[hF,aq,am,aI,cE,aI,aH.al,aN];refine cn (s.vars.length) (λj (y:List (List UInt8) × Tk × ah)=>⟨[.any,.ptr (.aE 0) 0,.any,.sl y.2.1 1 (cD y.1),.any,.int .i64 (j:Nat)]++aq 89 .any,[s.enc],y.2.2⟩) (λj y=>(y.1=s.ba.map dJ.name++(s.vars.take j).map db.name/\(∀v∈s.vars.take j,vu s.ba.length v=ab)/\Gr D y.2.2 y.2.1 y.1.length)) λF2 bZ pU df=>⟨?_,?_,?_⟩
    .refine en df ((nm,tk,bF)) (⟨by rw[hN];simp,by simp,hG⟩) ?_ ?_ ?_
     all_goals simp[bZ,aq,am,bt,cD]
    .rintro j ⟨nv,tv,eT⟩ hj ⟨hM,hR,hH⟩;simp only at hM hR hH;have nG:nv.length=s.ba.length+j:=by rw[hM];simp;omega
     simp only[bZ,aq,am,cc hj,aH.al,aN];refine ix (As hj) ?_;simp only[am,aH.al,db.Jz,db.JA,db.DB,db.JB];have aM:vu s.ba.length s.vars[j]=ar->∀(t:List V) (lo:List (List V)),mw (λv σ' => v = .bool (lj s)/\σ' = D) ⟨t,lo,eT⟩ (.bool ar):=λh t lo=>aX rfl hH.sub ⟨by rw[auz hj h];rfl,rfl⟩
     by_cases hz:decide (s.vars[j].kind=1)=ar/\decide (s.vars[j].kind=2)=ar
     .obtain⟨e1,e2⟩:=hz;simp only[am,aI,aH.al,e1,e2];exact aM (by rw[vu,e1,e2];rfl) _ _
     have mb:(decide (s.vars[j].kind=1)=ab)\/(decide (s.vars[j].kind=1)=ar/\decide (s.vars[j].kind=2)=ab):=by
      revert hz;cases decide (s.vars[j].kind=1)<;>cases decide (s.vars[j].kind=2)<;>simp
     rcases mb with e1 | ⟨e1,e2⟩
     case' inl=>simp only[am,aH.al,e1]
     case' inr=>simp only[am,aH.al,e1,e2]
     all_goals
      by_cases h0:s.vars[j].lat<0
      .simp only[am,aI,aK h0];exact aM (by rw[vu,aJ (show ¬0<=s.vars[j].lat by omega)];simp) _ _
      .simp only[am,aN,aH.al,aN,aJ h0]
       by_cases h9:((s.ba.length:Nat):Int)<=s.vars[j].lat
       .simp only[am,aI,aK h9];exact aM (by rw[vu,aJ (show ¬s.vars[j].lat<(s.ba.length:Nat) by omega)];simp) _ _
       .simp only[am,aH.al,aJ h9];have ok:vu s.ba.length s.vars[j]=true:=by
         rw[vu,aK (show 0<=s.vars[j].lat by omega),aK (show s.vars[j].lat<(s.ba.length:Nat) by omega)]
         first | (rw[e1,e2];rfl) | (rw[e1];rfl)
        refine Gr.app (by simpa [eB] using hH) (by simp[aQ,eB];omega) λfD σ' lA _ _=>?_
        simp only[am,aI,bJ hj];refine fk ((nv++[s.vars[j].name],fD,σ')) hj ?_ ?_ ?_ ?_ ?_ ?_
        .exact ey (df _ _) (⟨by rw[hM,iG hj,fX,eN];rfl,Gp hR hj ok,by simpa [eB] using lA⟩)
        all_goals simp[bZ,aq,am,bt,bR,du,V.lo,YH,aH.cP]
    .rintro⟨nv,tv,eT⟩ ⟨hM,hR,hH⟩;simp only[dX] at hM hR hH;rw[<-ja] at hM;subst hM;have nG:(ja s).length<=100000:=by simp[ja];omega
     simp only[bZ,aq,am,aI,cE,aI,aH.al,aN];refine cn ((ja s).length) (λk (z:Unit)=>⟨[.any,.any,.any,.sl tv 1 (cD (ja s)),.any,.any,.any,.int .i64 (k:Nat)]++aq 87 .any,[s.enc],eT⟩) (λk z=>(∀m,m<k->∀(hm:m<(ja s).length),cV (ja s)[m]=ab)) λF3 tG JF3 EM=>⟨?_,?_,?_⟩
     .refine en EM (()) ((λm hm=>absurd hm (Nat.not_lt_zero m))) ?_ ?_ ?_
      all_goals simp[tG,aq,am,bt,cD]
     .rintro k z hk hJ;simp only[tG,aq,am,cc hk,eB,eB];refine ix (B9 hk) ?_;simp only[am,ny hk];refine(JG (ja s)[k] eT).mono ?_;rintro v eT ⟨rfl,rfl⟩;cases hb:cV (ja s)[k] with
      | false =>
       simp only[am,aI];exact aX rfl hH.sub ⟨by rw[auy hk hb];rfl,rfl⟩
      | true =>
       simp only[am,aI,bJ hk];refine nx EM (()) hk (iW hJ (λ_=>hb)) ?_ ?_ ?_
       all_goals simp[tG,aq,am,bt]
     .rintro z hJ;simp only[tG,aq,am,aI,cE,aI,eB];refine ch.eC (as' := [.sl .no 1 (cD (ja s))]) ?_ ⟨dp.no,trivial⟩ bW.rfl;refine(Pj (ja s) eT nG).mono ?_;rintro v eT ⟨rfl,rfl⟩;simp only[am];have e:lj s=(po (ja s)).isNone:=by
       simp only[lj];rw[aK (show s.ba.length<=16 by omega),aK (show s.vars.length<=64 by omega),eM.2 hS,eM.2 hR,eM.2 (λx hx=>by
        obtain⟨m,hm,rfl⟩:=uq.1 hx;exact hJ m hm hm)]
       simp
      refine aX rfl hH.sub ⟨?_,rfl⟩;rw[e];cases po (ja s) with
      | none=>simp[V.erase,cN]
      | some k =>
       exact iH V.bool (aJ (show ¬((k:Nat):Int)<0 by omega))
def adI{r:Rl}:qO (l6 r)=true:=Eo.2 ⟨λi hi=>A0.2 (jx.refl (by rwa [A1] at hi)),λi j k U h2=>A0.2 ((A0.1 U).trans (A0.1 h2))⟩
variable{c:az}
def O9(h:c.an.length<=64):(lQ c).n=(c.an.length:Nat):=by
 rw[lQ,<-Lg];show((bd _:Nat):Int)=_;rw[A1,aqR];omega
variable{t:List UInt8}
def LN:fu l t=aj↔t∉l:=by
 rw[fu,um];constructor
 .intro h hm;obtain⟨i,hi,e⟩:=uq.1 hm
  have:=h i (by simpa using hi)
  simp[fW,cK hi,e] at this
 .intro h i hi;have hi:i<l.length:=by simpa using hi
  simp only[fW,cK hi,yR,bQ];exact λe=>h (e▸dj hi)
def WU:∀{l:List (List UInt8)},(∀i (hi:i<l.length),l[i]∉l.take i)->l.Nodup:=λ{l} h=>by
 rw[aaz,aaA];intro i j hi hj Im e;refine h j hj ?_;rw[<-e];exact aay.2 ⟨i,by omega,rfl⟩
def Gu:po l=aj↔l.Nodup:=by
 rw[po,um];constructor
 .intro h;refine WU λi hi hm=>?_
  have:=h i (by simpa using hi)
  rw[ny hi] at this;cases hf:fu (l.take i) l[i] with
  | none=>exact LN.1 hf hm
  | some k=>rw[hf] at this;simp at this
 .intro h i hi;have hi:i<l.length:=by simpa using hi
  have:fu (l.take i) (l.getD i [])=none:=by
   rw[ny hi,LN];intro hm;obtain⟨j,hj,e⟩:=aay.1 hm;rw[aaz,aaA] at h;exact h j i (by omega) hi (by omega) e
  rw[this];exact Bool.false_ne_true
def agJ{l:List dJ}:(gV l t).isSome=ar↔t∉l.map dJ.name:=by
 rw[Q8,si,gV,um];constructor
 .intro h hm;obtain⟨i,hi,e⟩:=uq.1 hm;have hi:i<l.length:=by simpa using hi
  have:=h i (by simpa using hi)
  simp[FW,cK hi] at this e;exact this e
 .intro h i hi;have hi:i<l.length:=by simpa using hi
  simp only[FW,cK hi,bQ];exact λe=>h (e▸List.mem_map_of_mem (dj hi))
def agM{l:List db}:(jK l t).isSome=ar↔t∉l.map db.name:=by
 rw[Q8,si,jK,um];constructor
 .intro h hm;obtain⟨i,hi,e⟩:=uq.1 hm;have hi:i<l.length:=by simpa using hi
  have:=h i (by simpa using hi)
  simp[FX,cK hi] at this e;exact this e
 .intro h i hi;have hi:i<l.length:=by simpa using hi
  simp only[FX,cK hi,bQ];exact λe=>h (e▸List.mem_map_of_mem (dj hi))
def Wk:iA s t=ar↔t∉ja s:=by
 rw[iA,ui,agJ,agM,ja,fi,not_or]
def wZ{b:Bool}{x y:Int}(hx:x≠0)(h:∀f∈ep b x y,f.cls=0):b=false:=by
 cases b with
 | false=>rfl
 | true=>exact absurd (h ⟨x,y⟩ (by simp[ep])) hx
structure Decl(s:aH)(c:az):Prop where
 h:∀f∈qf s c,f.cls=0
 n:∀i,i<c.an.length->∀f∈qw s c i,f.cls=0
 o:∀f∈qy c,f.cls=0
 l:∀f∈lI s c,f.cls=0
def SI(h:(kx c.op||nj c.op)=ab)(hf:(jT s c).cls=0):Decl s c:=by
 rw[jT,aF h] at hf
 have:=(I1 hf).2
 refine⟨λf hm=>this f (by simp[r6,hm]),λi hi f hm=>this f ?_,λf hm=>this f (by simp[r6,hm]),λf hm=>this f (by simp[r6,hm])⟩;simp only[r6,lL,fi,tt,mq];exact .inl (.inl (.inl (.inr ⟨i,hi,hm⟩)))
def L4{l:List aA}(hi:i<l.length):l.getD i ⟨[],0⟩=l[i]:=by simp[fW,cK hi]
def axB{l:List aA}(hi:i<l.length):(c7 l)[i]'(by simpa [c7] using hi)=l[i].au:=by simp[c7]
def SH(h:Decl s c)(h3:c.op≠3):(c7 c.an).Nodup:=by
 refine WU λi hi=>?_
 have dt : i<c.an.length:=by simpa [c7] using hi
 have:=h.n i dt
 simp only[qw,aB h3] at this
 have:=wZ (by decide) this
 rw[ui] at this;rw[axB dt,<-LN,<-si,<-Q8,<-L4 dt];exact this.1
def Sf(h:kx c.op=ab):c.op=1\/c.op=2\/c.op=3\/c.op=4\/c.op=5:=by
 simp only[kx,bg,bQ] at h;omega
def Eu(h:c.op=1\/c.op=2\/c.op=3\/c.op=4\/c.op=5\/c.op=6\/c.op=7)(hq:c.fp=ab):0<c.an.length/\(c7 c.an).all cV=ab/\cV c.name.au=true:=by
 simp only[az.fp,bg] at hq;obtain⟨⟨⟨⟨_,U⟩,h2⟩,_⟩,_⟩:=hq;have e1:fm c.op 110≠0:=by rcases h with h | h | h | h | h | h | h<;>rw[h]<;>decide
 have e2:0<fm c.op 119:=by rcases h with h | h | h | h | h | h | h<;>rw[h]<;>decide
 rw[az.nP,aB e1] at U;rw[az.kA,aF e2,bg,bQ] at h2;exact⟨h2.1,h2.2,U⟩
def Jj(hd:Decl s c)(hq:c.fp=ab)(h:c.op=1\/c.op=2\/c.op=4\/c.op=5):kz (c7 c.an)=ab/\c.an.length<=64/\(c.op=4->c.an.length<=8):=by
 obtain⟨n1,n2,_⟩:=Eu (by omega) hq;have h3:c.op≠3:=by omega
 have hl:=hd.l;rw[lI,aB (by omega)] at hl;have hl:=wZ (by decide) hl;simp only[ui,xw,aB h3] at hl;have hl:=hl.1;have hn:=Gu.2 (SH hd h3);have xJ:c.an.length<=64/\(c.op=4->c.an.length<=8):=by split at hl<;>omega
 refine⟨?_,xJ⟩;simp only[kz,hn,n2,yS,rC,bg,bQ,xb];exact⟨n1,xJ.1⟩
def auX(hs:∀l∈s.ba,fH l.shape=ab)(hd:Decl s c)(hq:c.fp=ab)(h5:kx c.op=ab):fH (jV s c)=true:=by
 have one:∀(k:Int) (r:Rl),gl ⟨k,c7 c.an,r⟩=ab->fH ⟨ar,[⟨k,c7 c.an,r⟩]⟩=true:=λk r h=>by simp[fH,h]
 have e0:decide (bd Rl.zero=0)=true:=by simp[bd,Rl.zero]
 rcases Sf h5 with h | h | h | h | h
 .rw[jV,aF h];refine one _ _ ?_;rw[gl,(Jj hd hq (by omega)).1];simp[e0]
 .rw[jV,aB (by omega),aF h];refine one _ _ ?_;rw[gl,(Jj hd hq (by omega)).1];simp[e0]
 .have hl:=hd.l;rw[lI,aB (by omega)] at hl;have hl:=wZ (by decide) hl;simp only[ui,xw,aF h] at hl;obtain⟨n1,n2,_⟩:=Eu (by omega) hq;have e:jV s c=jQ s c:=by simp[jV,h]
  have dq:∀x∈c.an.flatMap (mT s),fH x=true:=λx hx=>by
   obtain⟨w,_,hw⟩:=tt.1 hx;obtain⟨l,hl,rfl⟩:=VK hw;exact hs l hl
  have iw:1<=(jQ s c).bC.length:=by
   have:=hd.n 0 n1
   simp only[qw,aF h] at this;have t1:=wZ (by decide) λf hf=>this f (KE _ hf)
   have t2:=wZ (by decide) λf hf=>this f (QY _ hf)
   have hi:o7 s (c.an.getD 0 ⟨[],0⟩).au=true:=by
    cases hi:o7 s (c.an.getD 0 ⟨[],0⟩).au with
    | true=>rfl
    | false=>rw[hi] at t2;simp at t1 t2;rw[t1] at t2;simp at t2
   rw[L4 n1,o7] at hi;obtain⟨k,hk⟩:=Eb.1 hi;have aD:k<s.ba.length:=(uG hk).1;have hx:s.ba[k].shape∈c.an.flatMap (mT s):=tt.2 ⟨c.an[0],dj n1,by simp[mT,hk,cK aD]⟩;have hr:=dq _ hx;simp only[fH,bg,bQ] at hr;have hp:0<s.ba[k].shape.bC.length:=hr.1.1.1;have hm:s.ba[k].shape.bC[0]∈(jQ s c).bC:=by
    simp only[jQ,zZ];exact tt.2 ⟨_,hx,dj hp⟩
   exact aaw hm
  rw[e];have hf:(jQ s c).bC.all gl=true:=by
   rw[eM];intro f hf;simp only[jQ,zZ] at hf;obtain⟨x,hx,hf⟩:=tt.1 hf
   have:=dq x hx
   simp only[fH,bg,eM] at this;exact this.2 f hf
  have ht:(jQ s c).tuple=true:=rfl;simp only[fH,hf,ht,Bool.true_or,rC,bg,bQ];omega
 .have e:jV s c=⟨ar,[⟨3,c7 c.an,lQ c⟩]⟩:=by simp[jV,h]
  rw[e];obtain⟨a1,a2,a3⟩:=Jj hd hq (.inr (.inr (.inl h)));obtain⟨n1,_,_⟩:=Eu (by omega) hq;refine one _ _ ?_
  have:=a3 h
  have hg:gW (lQ c)=true:=by
   simp only[gW,bg,bQ,O9 a2];exact⟨by omega,adI⟩
  simp[gl,a1,O9 a2,xb,hg]
 .have e:jV s c=⟨ar,[⟨4,c7 c.an,lQ c⟩]⟩:=by simp[jV,h]
  rw[e];obtain⟨a1,a2,_⟩:=Jj hd hq (.inr (.inr (.inr h)));refine one _ _ ?_;have ho:=hd.o;rw[qy,aF ⟨h,a2⟩] at ho;have ho:=wZ (by decide) ho;have hg:jN (lQ c)=true:=by simpa using ho
  simp[gl,a1,O9 a2,xb,hg]
def aaU(hs:lj s=ab)(hq:c.fp=ab)(hf:(jT s c).cls=0):lj (lr s c)=true:=by
 rw[lr,aB (by simp[hf])];simp only[lj,bg,bQ,eM,si,Gu] at hs;obtain⟨⟨⟨⟨⟨U,h2⟩,h3⟩,h4⟩,h5⟩,h6⟩:=hs;split
 .rename_i h;have hd:=SI (by rw[h];rfl) hf;obtain⟨a1,_⟩:=V9 h hf;have hr:=auX h3 hd hq h;obtain⟨n1,n2,n3⟩:=Eu (by rcases Sf h with e | e | e | e | e<;>simp[e]) hq;have hh:=hd.h;rw[qf,aF h] at hh;have hl:=Wk.1 (wZ (by decide) hh);simp only[ja,fi,not_or] at hl;have e:ja ⟨s.ba++[⟨c.name.au,jV s c⟩],s.vars⟩=s.ba.map dJ.name++([c.name.au]++s.vars.map db.name):=by simp[ja]
  simp only[lj,bg,bQ,eM,si,Gu];refine⟨⟨⟨⟨⟨by simp only[bM,fI];omega,h2⟩,λl fS => ?_⟩,λv hv=>?_⟩,λx hx=>?_⟩,?_⟩
  .rcases fi.1 fS with fS | fS
   .exact h3 l fS
   .simp at fS;subst fS;exact hr
  .have:=h4 v hv
   simp only[vu,bg,bQ,bM,fI] at this ⊢;exact⟨this.1,by omega⟩
  .rw[e] at hx;simp only[fi,kH] at hx
   rcases hx with hx | hx | hx
   .exact h5 x (by simp only[ja,fi];exact .inl hx)
   .rw[hx];exact n3
   .exact h5 x (by simp only[ja,fi];exact .inr hx)
  .rw[e];rw[ja,KH] at h6;rw[KH];refine⟨h6.1,?_,?_⟩
   .simp only[mr,KI];exact⟨hl.2,h6.2.1⟩
   .intro x hx y hy;simp only[fi,kH] at hy
    rcases hy with hy | hy
    .rw[hy];exact λe=>hl.1 (e▸hx)
    .exact h6.2.2 x hx y hy
 split
 .rename_i h5' h;have hd:=SI (by rw[h];simp) hf;have a1:=V_ h hf;have wb:c.op=6\/c.op=7:=by simpa [nj] using h
  obtain⟨n1,n2,n3⟩:=Eu (by omega) hq;have hn:=SH hd (by omega);have hh:=hd.h;rw[qf,aB h5'] at hh;have t1:=wZ (by decide) λf hf=>hh f (KE _ hf)
  have t2:=wZ (by decide) λf hf=>hh f (QY _ hf)
  have hi:o7 s c.name.au=true:=by
   cases hi:o7 s c.name.au with
   | true=>rfl
   | false=>rw[hi] at t2;simp at t1 t2;rw[t1] at t2;simp at t2
  rw[o7] at hi;obtain⟨k,hk⟩:=Eb.1 hi;have aD:k<s.ba.length:=(uG hk).1;have al0:∀x∈c7 c.an,x∉ja s:=λx hx=>by
   obtain⟨w,hw,rfl⟩:=px.1 hx;obtain⟨i,hi,rfl⟩:=uq.1 hw
   have:=hd.n i hi
   simp only[qw,aB (show ¬c.op=3 by omega)] at this
   have:=wZ (by decide) this
   rw[ui,h,iM,L4 hi] at this;exact Wk.1 this.2
  have e:ja ⟨s.ba,s.vars++c.an.map λw=>⟨w.au,if c.op=7 then 2 else 1,cN (gV s.ba c.name.au)⟩⟩=ja s++c7 c.an:=by simp[ja,c7,tq]
  simp only[lj,bg,bQ,eM,si,Gu];refine⟨⟨⟨⟨⟨U,by simp only[bM,aN];omega⟩,h3⟩,λv hv=>?_⟩,λx hx=>?_⟩,?_⟩
  .rcases fi.1 hv with hv | hv
   .exact h4 v hv
   .obtain⟨w,_,rfl⟩:=px.1 hv;simp only[vu,hk,cN,bg,j1,bQ];refine⟨⟨?_,by omega⟩,by omega⟩;split
    .exact .inr rfl
    .exact .inl rfl
  .rw[e] at hx
   rcases fi.1 hx with hx | hx
   .exact h5 x hx
   .exact eM.1 n2 x hx
  .rw[e,KH];exact⟨h6,hn,λx hx y hy e=>al0 y hy (e▸hx)⟩
 .simp only[lj,bg,bQ,eM,si,Gu];exact⟨⟨⟨⟨⟨U,h2⟩,h3⟩,h4⟩,h5⟩,h6⟩
def VQ(s t:aH):Prop:=s.ba <+: t.ba/\s.vars <+: t.vars
def aaS:VQ s (lr s c):=by
 unfold lr;split
 .exact⟨D9,D9⟩
 split
 .exact⟨List.prefix_append _ _,D9⟩
 split
 .exact⟨D9,List.prefix_append _ _⟩
 .exact⟨D9,D9⟩
section
variable {s t:aH} (h:VQ s t)
include h
theorem IZ{v k l:Int}(hf:ke s v k l=ab):ke t v k l=true:=by
 unfold ke at hf ⊢;split at hf
 .rename_i h0;rw[aF h0];cases hv:s.vars[v.toNat]? with
  | none=>rw[hv] at hf;simp at hf
  | some x =>
   rw[hv] at hf
   have:t.vars[v.toNat]?=aa x:=by
    obtain⟨r,hr⟩:=h.2;rw[<-hr,qJ (fy.1 hv).1];exact hv
   rw[this];exact hf
 .simp at hf
variable{k:Nat}
theorem VT(hk:k<s.ba.length):nV t k=nV s k:=by
 obtain⟨r,hr⟩:=h.1;simp only[nV,<-hr,qJ hk]
theorem VR{a:bO}(hk:k<s.ba.length)(hf:nN s k a=ab):nN t k a=true:=by
 unfold nN at hf ⊢;split at hf
 .rename_i h0;rw[aF h0,VT h hk];exact hf
 .rename_i h0;rw[aB h0];exact IZ h hf
theorem VS{x:ec}(hk:k<s.ba.length)(hf:mR s k x=ab):mR t k x=true:=by
 simp only[mR,bg,j1,bQ,eM] at hf ⊢;obtain⟨⟨⟨U,h2⟩,h3⟩,h4⟩:=hf;exact⟨⟨⟨U,h2.imp id (IZ h)⟩,λf hm=>⟨(h3 f hm).1,VR h hk (h3 f hm).2⟩⟩,h4⟩
theorem an8{x:dG}(hf:lW s x=ab):lW t x=true:=by
 have hn:s.ba.length<=t.ba.length:=h.1.length_le;unfold lW at hf ⊢;split at hf
 .rename_i h0;rw[aF h0];simp only[bg] at hf ⊢;exact⟨IZ h hf.1,hf.2⟩
 rename_i h0;rw[aB h0];split at hf
 .rename_i U;rw[aF U];simp only[bg,bQ] at hf ⊢;obtain⟨⟨⟨a1,a2⟩,a3⟩,a4⟩:=hf;exact⟨⟨⟨a1,by omega⟩,VS h (by omega) a3⟩,VS h (by omega) a4⟩
 rename_i U;rw[aB U];split at hf
 .rename_i h2;rw[aF h2];simp only[bg,bQ,NN,eM] at hf ⊢;obtain⟨⟨⟨a1,a2⟩,a3,a4⟩,a5⟩:=hf;refine⟨⟨⟨a1,by omega⟩,λi hi=>?_,a4⟩,VR h (by omega) a5⟩
  have:=a3 i hi
  simp only[nM,bg,j1,bQ] at this ⊢;rw[VT h (k:=x.lat.toNat) (by omega)];exact⟨this.1.imp id (IZ h),this.2⟩
 .simp at hf
end
def acx{l:Lv}(h:yH l):lj l.fQ=ab/\∀a∈l.fE,lW l.fQ a=true:=by
 induction h with
 | zero=>exact⟨by decide +kernel,by simp[Lv.zero]⟩
 | @step l r t hl hb ha h0 hs ih =>
  obtain⟨i1,i2⟩:=ih;obtain⟨a1,a2,_⟩:=P3 h0;obtain⟨_,e2,_,e3,_,_,_⟩:=Dp h0;have hc:cG t=((cG t).1,0,0):=by rw[<-a1]
  obtain⟨q,_,_⟩:=KV hc;unfold pj;split
  .rename_i jA;refine⟨i1,λa hm=>?_⟩
   rcases fi.1 hm with hm | hm
   .exact i2 a hm
   .simp at hm;subst hm;rw[e2] at jA ⊢;split at jA
    .rename_i hi;rw[aF hi];exact(IK.1 hi).fits
    .exact absurd rfl jA
  .exact⟨aaU i1 q e3,λa hm=>an8 aaS (i2 a hm)⟩
def aj_:aS prog 46 (sq [rg 2 [oz 1],rg 3 [oz 1],sq [rg 4 [oi 0],bl 0 (sq [sq [rg 5 [nm,om 0,nL,nb .lss 5],cx 8 0],.block 1 (sq [sq [rg 11 [om 4,nB .gtr 0],ci 12 (rg 13 [om 3,oq (.cat (.s 13) (.c (.aG [44]))),o1 3])],rg 15 [om 3,om 0,om 4,nA 2 16,nF 0,oq (.cat (.s 15) (.s 20)),o1 3]]),rg 9 [ic 4]])],rg 22 [om 3,o1 2],.ret]) [.tmp 2] 23:=aW func46
def NB(w:List aA)(D:ah)(i:Nat):St :=
 ⟨[.sl .no 2 (w.map aA.enc),.any,.any,.aG (bX ((w.map aA.au).take i)),.int .i64 (i:Nat)]++aq 18 .any,[],D⟩
def ZZ(w:List aA)(D:ah)(hw:e_ w<=aQ):a8 46 [.sl .no 2 (w.map aA.enc)] D (.aG (fR w)):=by
 have hl:=(B3 w).2;have hs:=(B3 w).1;simp only[aQ] at hw;refine aj_.aV ?_;simp only[aU,am,a7,Nat.reduceAdd];refine jX (λp:{i:Nat // i<=w.length}=>NB w D p.1) (λp=>w.length - p.1) ?_ ?_
 .refine bI.enter ⟨0,by simp⟩ ?_ cT.rfl bW.rfl;simp[NB,aq,am,bX]
 rintro⟨i,hi⟩;simp only[NB,aq,am,aN];refine fx ?_ ?_
 .intro aD;have aD:i<w.length:=by simpa using aD
  have dr:=IM (L:=w.map aA.au) (i:=i) (by simpa using aD);have hle:=IN (w.map aA.au) (i+1);have wi:IntKind.i64.wrap ((i:Int)+1)=(i:Int)+1:=wrap_i64 (by omega) (by omega);rw[AL] at dr;rw[dr] at hle;simp only[bM] at hle;simp only[am]
  by_cases h0:0<i
  case' pos =>
   rw[aF h0] at dr hle;simp only[dm,dQ] at hle;simp only[am,aK (show(0:Int)<i by omega)];refine⟨by simp[aQ];omega,?_⟩
  case' neg =>
   rw[aB h0] at dr hle;simp only[dQ,eD] at hle dr;simp only[am,aJ (show ¬(0:Int)<i by omega)]
  all_goals
   refine ix (Av (cK aD)) ?_;simp only[am,aA.enc];refine⟨by simp[aQ];omega,?_⟩;simp only[wi];exact bI.again ⟨i+1,aD⟩ (by simp;omega) (by simp[am,dr]) cT.rfl bW.rfl
 intro aD;have aD:i=w.length:=by simp at aD;omega
 subst aD;rw[show(w.map aA.au).take w.length=w.map aA.au by rw[<-aN (f:=aA.au),dX]];simp only[am];refine aL ?_;simp[V.erase,fR]
def ai8:aS prog 26 (sq [rg 2 [ox 1 17 0,oz 1],rg 9 [fo 0 1,oC 44 [10],o1 3],rg 12 [fo 0 1,oC 45 [13],o1 4],rg 5 [oq (.mv (.c (.bool ab)))],sq [rg 6 [oi 0],bl 0 (sq [sq [rg 15 [om 6,om 4,nT,nb .lss 15],cx 18 0],.block 1 (sq [rg 21 [om 3,oq (.cat (.s 21) (.c (.aG [32]))),o1 3],rg 23 [om 4,om 6,nS 23],.block 2 (sq [rg 36 [ou .eql 25 110,o1 35],cd 35 (rg 37 [om 3,of 2 1,nF 0,oq (.cat (.s 37) (.s 40)),o1 3]) (sq [rg 43 [ou .eql 25 102,o1 42],cd 42 (rg 44 [om 3,fo 4 1,oC 46 [46],oq (.cat (.s 44) (.s 47)),o1 3]) (sq [rg 50 [ou .eql 25 119,o1 49],cd 49 (rg 51 [om 3,oq (.cat (.s 51) (.c (.aG [123]))),fo 4 1,oC 46 [54],oq (.cat (.s 52) (.s 55)),oq (.cat (.s 56) (.c (.aG [125]))),o1 3]) (sq [rg 59 [ou .eql 25 112,o1 58],cd 58 (sq [rg 60 [om 3,oq (.cat (.s 60) (.c (.aG [123]))),o1 3],sq [rg 7 [oi 0],bl 3 (sq [sq [rg 62 [om 7,fo 5 1,nL,nb .lss 62],cx 66 3],.block 4 (sq [sq [rg 69 [om 7,nB .gtr 0],ci 70 (rg 71 [om 3,oq (.cat (.s 71) (.c (.aG [44]))),o1 3])],dg 73 [om 3,fo 5 1,om 7,nA 4 75,oQ 2 2 77 0,nF 0,oq (.cat (.s 73) (.s 80)),oq (.cat (.s 81) (.c (.aG [60]))),fo 5 1,om 7,nA 4 84,oQ 2 2 86 1,nF 0,oq (.cat (.s 82) (.s 89)),o1 3]]),rg 67 [ic 7]])],rg 91 [om 3,oq (.cat (.s 91) (.c (.aG [125]))),o1 3]]) (sq [rg 26 [of 12 1,nl 5,oZ 8 [0,0,1,7,10],o2 5 8],sq [rg 28 [om 5],ci 28 (rg 29 [of 7 1,nl 5,o2 5 8])],rg 5 [oz 2],rg 31 [om 3,ol 5 8,oC 47 [32],oq (.cat (.s 31) (.s 33)),o1 3]])])])])])]),rg 19 [ic 6]])],rg 93 [om 3,o1 2],.ret]) [.tmp 2] 94:=aW func26
def BV(ks:List UInt8):Bool:=decide ((ks.filter isTerm).length=0)
def yp(c:az)(ks:List UInt8)(D:ah)(i:Nat):St :=
 ⟨[.any,.ptr (.aE 0) 0,.any,.aG (hC [32] (iB c (ks.take i)).1),.aG ks,.bool (BV (ks.take i)),.int .i64 (i:Nat)]++aq 87 .any,[c.enc],D⟩
def Gl(c:az)(ks s0:List UInt8)(b:Bool)(D:ah)(i k:Nat):St :=
 ⟨[.any,.ptr (.aE 0) 0,.any,.aG (s0++bX ((c.bw.map h_).take k)),.aG ks,.bool b,.int .i64 (i:Nat),.int .i64 (k:Nat)]++aq 86 .any,[c.enc],D⟩
def ar8(c:az)(ks:List UInt8)(k:UInt8):hC [32] (iB c (ks++[k])).1=hC [32] (iB c ks).1++[32]++jE k c ((iB c ks).2.headD .zero):=by
 rw[OR,yq,Vx,aF (by rw[(DA c ks).2.2.1];omega)]
def apU(ks:List UInt8)(k:UInt8):BV (ks++[k])=(BV ks&&!isTerm k):=by
 unfold BV;rw[AJ,bM];cases h:isTerm k
 .simp[h]
 .simp[h]
def apF{n m:Nd}:over n.enc m.enc=m.enc:=by rw[Nd.dB,Nd.dB];rfl
theorem acQ{n:Nat}:bR n c.enc=true:=rfl
def atW(c:az)(D:ah)(hw:16*c.wt+128<=aQ):a8 26 [.agg c.enc] D (.aG (dO c)):=by
 have ME:c.wt=c.name.au.length+e_ c.an+kg c.bw+c.left.wt+c.right.wt:=rfl;have UP:=B3 c.an;have Iu:=OW c.bw;have lB:aQ=268435456:=rfl;refine ai8.aV ?_;simp only[aU,am,a7,Nat.reduceAdd,dZ,ft];refine cl (aaN c.op D) ?_;simp only[am,ft];refine cl (aoj c.op D) ?_;simp only[am];have Bj:=TK c.op;have uU:dO c=hC [32] (iB c (cu c.op).2).1:=rfl;have wv:=LZ c.op;have h00:hC [32] (iB c []).1=(cu c.op).1:=by simp[iB,hC]
 have hb:∀ks:List UInt8,ks.length<=3->(hC [32] (iB c ks).1).length<=4*(c.wt+9):=λks hk=>by
  obtain⟨o1,_,o3,_⟩:=DA c ks;have xS:=Vw _ o1;rw[o3] at xS
  have:(ks.length+1)*(c.wt+8+1)<=4*(c.wt+8+1):=sd _ (by omega)
  omega
 generalize gn:(cu c.op).2=ks at Bj uU wv ⊢;refine jX (λp:{i:Nat // i<=ks.length}=>yp c ks D p.1) (λp=>ks.length - p.1) ?_ ?_
 .refine bI.enter ⟨0,by simp⟩ ?_ cT.rfl bW.rfl;simp[yp,aq,am,h00,BV]
 rintro⟨i,hi⟩;simp only[yp,aq,am];refine fx ?_ ?_
 .intro aD;have aD:i<ks.length:=by simpa using aD
  have sH:ks.take (i+1)=ks.take i++[ks[i]]:=by rw[iG aD]
  have Na:=ar8 c (ks.take i) ks[i];have kr:=apU (ks.take i) ks[i];rw[<-sH] at Na kr;have ek:=hb (ks.take (i+1)) (by rw[iN];omega);rw[Na] at ek;simp only[bM,fI] at ek;have wi:IntKind.i64.wrap ((i:Int)+1)=((i+1:Nat):Int):=by rw[wrap_i64];simp
  obtain⟨o1,o2,o3,o4⟩:=DA c (ks.take i);have ht:=Bj i aD ks[i] (cK aD);have gY:∀n:UInt8,((ks[i].toNat:Nat):Int)=(n.toNat:Nat)↔ks[i]=n:=λn=>by
   constructor
   .intro h;exact KT.1 (by omega)
   .intro h;rw[h]
  have y6:((ks[i].toNat:Nat):Int)=110↔ks[i]=110:=gY 110;have A7:((ks[i].toNat:Nat):Int)=102↔ks[i]=102:=gY 102;have vU:((ks[i].toNat:Nat):Int)=119↔ks[i]=119:=gY 119;have vT:((ks[i].toNat:Nat):Int)=112↔ks[i]=112:=gY 112;have again:∀(st:List V) (ls:List (List V)),da st (yp c ks D (i+1)).t->cT (ls.take 1) [c.enc]->bI ⟨st,ls,D⟩ λaP => ∃j:{i:Nat // i<=ks.length},aP = yp c ks D j.1/\ks.length - j.1<ks.length - i:=λst ls U h2 =>
   bI.uv (I:=λp:{i:Nat // i<=ks.length}=>yp c ks D p.1) (μ:=λp=>ks.length - p.1) ⟨i+1,aD⟩ (by simp;omega) U h2 bW.rfl (by simp[yp,aq,bR,V.lo]) (by simp[yp,du,acQ])
  simp only[yp,Na,kr] at again;generalize hC [32] (iB c (ks.take i)).1=out at again ek ⊢;generalize qn:(iB c (ks.take i)).2=ts at again ek o2 o4;generalize hnt:BV (ks.take i)=nt at again ⊢;simp only[am];refine⟨by simp[aQ];omega,?_⟩;refine wF (Ao aD) ?_;simp only[am]
  by_cases k1:ks[i]=110
  .have hp:jE ks[i] c (ts.headD .zero)=c.name.au:=by rw[k1];rfl
   have hq:isTerm ks[i]=false:=by rw[k1];rfl
   rw[hp] at ek again;rw[hq] at again;simp only[am,dD,aK (y6.2 k1)];refine⟨by simp[aQ];omega,?_⟩;simp only[wi];refine again _ _ ?_ ?_
   .simp[am,aq]
   .simp[am]
  simp only[am,aJ (λh=>k1 (y6.1 h))]
  by_cases k2:ks[i]=102
  .have hp:jE ks[i] c (ts.headD .zero)=fR c.an:=by rw[k2];rfl
   have hq:isTerm ks[i]=false:=by rw[k2];rfl
   rw[hp] at ek again;rw[hq] at again;simp only[am,dD,aK (A7.2 k2)];refine cl (ZZ c.an D (by omega)) ?_;simp only[am];refine⟨by simp[aQ];omega,?_⟩;simp only[wi];refine again _ _ ?_ ?_
   .simp[am,aq]
   .simp[am]
  simp only[am,aJ (λh=>k2 (A7.1 h))]
  by_cases k3:ks[i]=119
  .have hp:jE ks[i] c (ts.headD .zero)=[123]++fR c.an++[125]:=by rw[k3];rfl
   have hq:isTerm ks[i]=false:=by rw[k3];rfl
   rw[hp] at ek again;rw[hq] at again;simp only[bM,fI] at ek;simp only[am,dD,aK (vU.2 k3)];refine⟨by simp[aQ];omega,?_⟩;refine cl (ZZ c.an D (by omega)) ?_;simp only[am];refine⟨by simp[aQ];omega,?_⟩;refine⟨by simp[aQ];omega,?_⟩;simp only[wi];refine again _ _ ?_ ?_
   .simp[am,aq]
   .simp[am]
  simp only[am,aJ (λh=>k3 (vU.1 h))]
  by_cases k4:ks[i]=112
  .have hp:jE ks[i] c (ts.headD .zero)=[123]++bX (c.bw.map h_)++[125]:=by rw[k4];rfl
   have hq:isTerm ks[i]=false:=by rw[k4];rfl
   rw[hp] at ek again;rw[hq] at again;simp only[bM,fI] at ek;simp only[am,aK (vT.2 k4)];refine⟨by simp[aQ];omega,?_⟩;refine jX (λp:{k:Nat // k<=c.bw.length}=>Gl c ks (out++[32]++[123]) nt D i p.1) (λp=>c.bw.length - p.1) ?_ ?_
   .refine bI.enter ⟨0,by simp⟩ ?_ cT.rfl bW.rfl;simp[Gl,aq,am,bX]
   rintro⟨k,hk⟩;simp only[Gl,aq,am,dD,aN];refine fx ?_ ?_
   .intro iu;have iu:k<c.bw.length:=by simpa using iu
    have dr:=IM (L:=c.bw.map h_) (i:=k) (by simpa using iu);have hle:=IN (c.bw.map h_) (k+1);have wk:IntKind.i64.wrap ((k:Int)+1)=((k+1:Nat):Int):=by rw[wrap_i64];simp
    rw[AL] at dr;rw[dr] at hle;simp only[bM,h_,fI] at hle;simp only[am]
    by_cases h0:0<k
    case' pos =>
     rw[aF h0] at dr hle;simp only[dm,dQ] at hle;simp only[am,dD,aK (show(0:Int)<k by omega)];refine⟨by simp[aQ];omega,?_⟩
    case' neg =>
     rw[aB h0] at dr hle;simp only[dQ,eD] at hle dr;simp only[am,dD,aJ (show ¬(0:Int)<k by omega)]
    all_goals
     refine ix (Js (cK iu)) ?_;simp only[am,cX];refine Vo ?_;simp only[am,Int.reduceToNat,Nat.reduceMul,dD,gz];refine⟨by simp[aQ];omega,?_⟩;refine⟨by simp[aQ];omega,?_⟩;refine ix (Js (cK iu)) ?_;simp only[am,cX];refine Vo ?_;simp only[am,Int.reduceToNat,Nat.reduceMul,gz];refine⟨by simp[aQ];omega,?_⟩;simp only[wk];exact bI.again (I:=λp:{k:Nat // k<=c.bw.length}=>Gl c ks (out++[32]++[123]) nt D i p.1) (μ:=λp=>c.bw.length - p.1) ⟨k+1,iu⟩ (by simp;omega) (by simp[am,aq,dr,h_,Gl]) cT.rfl bW.rfl
   intro iu;have iu:k=c.bw.length:=by simp at iu;omega
   subst iu;rw[show(c.bw.map h_).take c.bw.length=c.bw.map h_ by rw[<-aN (f:=h_),dX]];simp only[am,Nat.reduceEqDiff];refine⟨by simp[aQ];omega,?_⟩;simp only[wi];refine again _ _ ?_ ?_
   .simp[am,aq]
   .simp[am]
  simp only[am,Nd.al,dD,aJ (λh=>k4 (vT.1 h))];have hq:isTerm ks[i]=true:=by simp[isTerm,k1,k2,k3,k4]
  have Nn:=ht hq;have hp:jE ks[i] c (ts.headD .zero)=(if nt=ab then c.left else c.right).cY:=by
   rw[o4,<-hnt];unfold BV
   match (List.filter isTerm (List.take i ks)).length,Nn with
   | 0,_=>simp[jE,k1,k2,k3,k4]
   | 1,_=>simp[jE,k1,k2,k3,k4]
  rw[hp] at ek again;rw[hq] at again;cases nt
  .simp only[am,Nd.al];refine cl (ZE _ c.right D (bY _) (by omega)) ?_;simp only[am];simp only[dP,cF] at ek again;refine⟨by simp[aQ];omega,?_⟩;simp only[wi];refine again _ _ ?_ ?_
   .simp[am,aq]
   .simp[am]
  .simp only[am,Nd.al,dD,apF];refine cl (ZE _ c.left D (bY _) (by omega)) ?_;simp only[am];simp only[cM] at ek again;refine⟨by simp[aQ];omega,?_⟩;simp only[wi];refine again _ _ ?_ ?_
   .simp[am,aq]
   .simp[am]
 .intro aD;have aD:i=ks.length:=by simp at aD;omega
  subst aD;rw[dX,<-uU];simp only[am];exact rt
variable{j:Nat}
def Tw{l:List bV}(h:j<l.length):(l.map bV.enc)[((j:Nat):Int).toNat]?=aa l[j].enc:=by simp[h]
def akv:aS prog 83 (sq [rg 2 [oz 2],rg 3 [oi 0],sq [rg 4 [oi 0],bl 0 (sq [sq [rg 5 [nm,om 0,nL,nb .lss 5],cx 8 0],.block 1 (sq [rg 11 [om 0,om 4,nA 10 11,nF 0],.block 2 (sq [sq [rg 17 [oB .eql 15 1,o1 16],cd 16 .skip (rg 18 [oB .eql 15 2,o1 16])],cd 16 (rg 19 [ic 3]) (sq [sq [rg 22 [oB .eql 15 3,o1 21],cd 21 .skip (rg 23 [oB .eql 15 4,o1 21])],cd 21 (sq [sq [rg 24 [om 0,om 4,nA 10 24,nF 1,nB .lss 1,gB,om 0,om 4,nA 10 31,nF 1,om 3,nb .gtr 35,gZ],cr 38 2 [oz 2]],rg 39 [om 3,om 0,om 4,nA 10 40,nF 1,nb .sub 39,nB .add 1,o1 3]]) (sq [rg 2 [oz 2],.ret])])])]),rg 9 [ic 4]])],rg 47 [om 3,nB .eql 1,o1 2],.ret]) [.tmp 2] 49:=aW func83
def atb(l:List bu)(D:ah)(hl:l.length<=100000):a8 83 [.sl .no 10 (l.map bu.enc)] D (.bool (ym l)):=by
 refine akv.aV ?_;simp only[aU,am,a7,Nat.reduceAdd];refine cn (l.length) (λi (d:Nat)=>⟨[.sl .no 10 (l.map bu.enc),.any,.bool ar,.int .i64 (d:Nat),.int .i64 (i:Nat)]++aq 44 .any,[],D⟩) (λi d=>(rK l 0=rK (l.drop i) d/\d<=i)) λF hF JF aT=>⟨?_,?_,?_⟩
 .exact en aT (0) (⟨rfl,bY _⟩)
 .rintro i d hi ⟨hJ,hd⟩;rw[nr hi,rK] at hJ;have no:rK l 0=aj->ym l=false:=λh=>by rw[ym,h];rfl
  simp only[hF,aq,am,cc hi,aN];refine ix (A4 hi) ?_;simp only[am,bu.al]
  by_cases U:l[i].op=1\/l[i].op=2
  .rw[aF U] at hJ;have mb:(decide (l[i].op=1)=ab)\/(decide (l[i].op=1)=ar/\decide (l[i].op=2)=ab):=by
    by_cases h:l[i].op=1
    .exact .inl (aK h)
    .exact .inr ⟨aJ h,aK (by simpa [h] using U)⟩
   rcases mb with e1 | ⟨e1,e2⟩
   case' inl=>simp only[am,aI,e1,bJ hi,bJ (n:=d+1) (KO d) (by omega)]
   case' inr=>simp only[am,aI,e1,e2,bJ hi,bJ (n:=d+1) (KO d) (by omega)]
   all_goals
    refine fk (d+1) hi ?_ ?_ ?_ ?_ ?_ ?_
    .exact ey (aT _ _) (⟨hJ,by omega⟩)
    all_goals simp[hF,aq,am,bt,bR,du,V.lo]
  .rw[aB U] at hJ;have e1:decide (l[i].op=1)=false:=aJ λh=>U (.inl h)
   have e2:decide (l[i].op=2)=false:=aJ λh=>U (.inr h)
   by_cases h3:l[i].op=3\/l[i].op=4
   .rw[aF h3] at hJ;have mb:(decide (l[i].op=3)=ab)\/(decide (l[i].op=3)=ar/\decide (l[i].op=4)=ab):=by
     by_cases h:l[i].op=3
     .exact .inl (aK h)
     .exact .inr ⟨aJ h,aK (by simpa [h] using h3)⟩
    rcases mb with e3 | ⟨e3,e4⟩
    case' inl=>simp only[am,e1,e2,e3]
    case' inr=>simp only[am,e1,e2,e3,e4]
    all_goals
     refine ix (A4 hi) ?_;simp only[am,bu.al]
     by_cases hb:l[i].n<1
     .rw[aF (.inl hb)] at hJ;simp only[am,aI,aK hb];refine aL ?_;simp[V.erase,no hJ]
     .simp only[am,aJ hb];refine ix (A4 hi) ?_;simp only[am,bu.al]
      by_cases dx:((d:Nat):Int)<l[i].n
      .rw[aF (.inr dx)] at hJ;simp only[am,aI,aK dx];refine aL ?_;simp[V.erase,no hJ]
      .rw[aB (by omega)] at hJ;simp only[am,aJ dx];refine ix (A4 hi) ?_;simp only[am,aI,bu.al];rw[wrap_i64 (x:=((d:Nat):Int) - l[i].n),wrap_i64 (x:=((d:Nat):Int) - l[i].n+1),show((d:Nat):Int) - l[i].n+1=((d - (l[i].n.toNat - 1):Nat):Int) by omega];simp only[bJ hi];refine fk (d - (l[i].n.toNat - 1)) hi ?_ ?_ ?_ ?_ ?_ ?_
       .exact ey (aT _ _) (⟨hJ,by omega⟩)
       all_goals simp[hF,aq,am,bt,bR,du,V.lo]
   .rw[aB h3] at hJ;have e3:decide (l[i].op=3)=false:=aJ λh=>h3 (.inl h)
    have e4:decide (l[i].op=4)=false:=aJ λh=>h3 (.inr h)
    simp only[am,aI,e1,e2,e3,e4];refine aL ?_;simp[V.erase,no hJ]
 .rintro d ⟨hJ,hd⟩;rw[D6,rK] at hJ;simp only[hF,aq,am,aI,cE,aI,aN];refine aL ?_;simp[V.erase,ym,hJ];omega
def akb:aS prog 49 (sq [rg 4 [ox 2 2 0,ox 3 18 1,oz 2],sq [rg 7 [fo 0 3,nB .eql 10],cr 9 10 [ol 2 2,fo 16 3,fo 1 3,oc 81 [.s 10,.s 12,.c (.int .i64 2),.s 14],gA,fo 17 3,oC 79 [18],gZ,o1 4]],sq [rg 21 [fo 1 3,nB .lss 0,gB,fo 1 3,fo 0 2,nL,nb .geq 26,gZ],cr 31 4 [oz 2]],sq [rg 32 [fo 0 3,nB .eql 9],cr 34 35 [ol 2 2,fo 1 3,of 12 3,nl 2,oC 82 [35,37,39],gA,ol 2 2,fo 1 3,of 14 3,nl 2,oC 82 [42,44,46],gZ,o1 4]],sq [rg 49 [fo 0 3,nB .neq 8,gB,fo 2 3,oC 83 [54],nn,gZ,gB,ol 2 2,fo 1 3,of 3 3,nl 9,oC 84 [59,61,63],nn,gZ],cr 66 4 [oz 2]],sq [rg 5 [oi 0],bl 0 (sq [sq [rg 67 [om 5,fo 2 3,nL,nb .lss 67],cx 71 0],.block 1 (sq [rg 74 [fo 2 3,om 5,nA 10 75,nl 10,oR 6 x7,o2 10 6],dg 79 [fo 0 6,nB .eql 1,gA,ol 2 2,fo 1 6,fo 1 3,oc 81 [.s 83,.s 85,.c (.int .i64 1),.s 87],nn,gZ,nm,oh 91 (of 0 6),oh 91 (no),oh 91 (nB .eql 2),oh 91 (nm),og 95 (of 0 2),og 95 (no),og 95 (of 1 3),og 95 (no),og 95 (nA 3 97),og 95 (nf 1),og 95 (nl 2),og 95 (of 2 6),og 95 (nl 8),og 95 (oC 85 [102,104]),og 95 (nn),oh 91 (oy 95 106),oq (.pick (.s 91) (.c (.bool ab)) (.s 107))],cr 108 4 [oz 2]]),rg 72 [ic 5]])],rg 4 [oq (.mv (.c (.bool ab)))],.ret]) [.tmp 4] 109:=aW func49
def akt:aS prog 81 (sq [rg 8 [ox 4 2 0,oz 2],rg 9 [om 1,nB .geq 0,gA,om 1,fo 1 4,nL,nb .lss 12,gZ,gA,fo 1 4,om 1,nA 3 20,nF 1,om 2,nb .eql 24,gZ,gA,fo 1 4,om 1,nA 3 30,nF 2,om 3,nb .eql 34,gZ,o1 8],.ret]) [.tmp 8] 38:=aW func81
def aku:aS prog 82 (sq [rg 6 [ox 3 2 0,ox 5 2 2,oz 2],rg 7 [oz 6],sq [rg 9 [fo 0 5,nL,nB .gtr 16,nm,oh 13 (of 1 5),oh 13 (no),oh 13 (nB .geq 0),oh 13 (nm),og 17 (ol 2 3),og 17 (of 1 5),og 17 (no),og 17 (om 1),og 17 (oc 81 [.s 18,.s 20,.c (.int .i64 2),.s 21]),og 17 (nn),oh 13 (oy 17 23),oq (.pick (.s 13) (.c (.bool ab)) (.s 24))],cr 25 6 [oz 2]],sq [rg 8 [oi 0],bl 0 (sq [sq [rg 26 [om 8,fo 0 5,nL,nb .lss 26],cx 30 0],.block 1 (sq [rg 33 [om 7,fo 0 5,om 8,nA 10 35,nF 0,n1 1,na 1 33,o1 7],dg 42 [om 7,om 8,nA 1 42,no,oC 79 [45],nn,gB,ol 2 3,om 1,fo 0 5,om 8,nA 10 52,nf 1,nl 9,oC 84 [49,50,56],nn,gZ],cr 59 6 [oz 2]]),rg 31 [ic 8]])],rg 60 [om 7,oC 80 [60],nB .lss 0,o1 6],.ret]) [.tmp 6] 63:=aW func82
def akw:aS prog 84 (sq [rg 6 [ox 3 2 0,ox 5 9 2,oz 2],sq [rg 7 [fo 0 5,nB .lss 0],ci 9 (sq [dg 10 [fo 0 3,om 1,nA 3 11,nf 1,nl 2,of 1 5,nl 8,oC 85 [15,17],o1 6],.ret])],rg 19 [ol 2 3,fo 0 5,om 1,oc 81 [.s 19,.s 21,.c (.int .i64 1),.s 22],o1 6],.ret]) [.tmp 6] 24:=aW func84
def FC(s:aH)(v kind lat:Int)(D:ah):ch prog 81 [.agg s.enc,.int .i64 v,.int .i64 kind,.int .i64 lat] D λr σ' => r = .bool (ke s v kind lat)/\σ' = D:=by
 refine akt.aV ?_;simp only[aU,am,a7,Nat.reduceAdd,aH.al]
 by_cases h0:0<=v
 case neg =>
  simp only[am,aJ h0];refine aL ?_;simp[V.erase,ke,h0]
 obtain⟨n,rfl⟩:=AF h0;simp only[am,aN,aH.al,aN,aK h0]
 by_cases U:n<s.vars.length
 case neg =>
  simp only[am,aJ (show ¬(n:Int)<s.vars.length by omega)];refine aL ?_;simp[V.erase,ke,U]
 simp only[am,aH.al,aK (show(n:Int)<s.vars.length by omega)];refine ix (As U) ?_;have e:ke s (n:Nat) kind lat=(decide (s.vars[n].kind=kind)&&decide (s.vars[n].lat=lat)):=by
  rw[ke,aF h0,gi,cK U]
 by_cases h2:s.vars[n].kind=kind
 case neg =>
  simp only[am,aH.al,aJ h2];refine aL ?_;simp[V.erase,e,h2]
 simp only[am,aH.al,aK h2];refine ix (As U) ?_;simp only[am,aH.al];refine aL ?_;simp[V.erase,e,h2]
def axW:=af @am <| af @aH.al <| af @bz.al @bn.al
variable{D:ah}
def X8(s:aH)(lat:Nat)(a:bO)(hs:s.ok)(kW:lat<s.ba.length):ch prog 84 [.agg s.enc,.int .i64 (lat:Nat),.agg a.enc] D λr σ' => r = .bool (nN s lat a)/\σ' = D:=by
 refine akw.aV ?_;simp only[aU,am,a7,Nat.reduceAdd,aH.al,bO.al]
 by_cases h0:a.v<0
 .simp only[am,aH.al,aK h0];refine ix (sS kW) ?_;simp only[axW,bO.al];refine bK.intro (To s.ba[lat].shape a.c D (hs.2.2 _ (dj kW))) ?_;simp only[am];refine aL ?_;simp[V.erase,nN,h0,Ge kW]
 .simp only[am,aH.al,bO.al,aJ h0];refine cl (FC s a.v 1 lat D) ?_;simp only[am];refine aL ?_;simp[V.erase,nN,h0]
def X9(s:aH)(lat:Nat)(t:ec)(hs:s.ok)(kW:lat<s.ba.length):ch prog 82 [.agg s.enc,.int .i64 (lat:Nat),.agg t.enc] D λr σ' => r = .bool (mR s lat t)/\σ' = D:=by
 have no:∀(u:List V) (lo:List (List V)) (bF:ah),mR s lat t=ar->D.sub bF->mw (λr σ' => r = .bool (mR s lat t)/\σ' = D) ⟨u,lo,bF⟩ (.bool ar):=λu lo bF h h' => by
  rw[h];exact aX rfl h' ⟨rfl,rfl⟩
 refine aku.aV ?_;simp only[aU,am,a7,Nat.reduceAdd,aH.al,ec.al,aN]
 by_cases U:16<t.fs.length
 .simp only[am,aK (show(16:Int)<t.fs.length by omega)];exact no _ _ _ (by simp[mR];omega) (ah.bm _)
 simp only[am,ec.al,aJ (show ¬(16:Int)<t.fs.length by omega)];have h3:t.tail<0\/(0<=t.tail/\ke s t.tail 2 lat=ab)\/(0<=t.tail/\ke s t.tail 2 lat=ar):=by
  rcases Int.lt_or_le t.tail 0 with h | h
  .exact .inl h
  .cases hb:ke s t.tail 2 lat with
   | false=>exact .inr (.inr ⟨h,rfl⟩)
   | true=>exact .inr (.inl ⟨h,rfl⟩)
 rcases h3 with ht | ⟨ht,hb⟩ | ⟨ht,hb⟩
 rotate_left 2
 .simp only[am,aH.al,ec.al,aK ht];refine cl (FC s t.tail 2 lat D) ?_;simp only[am,hb];exact no _ _ _ (by simp[mR,hb,show ¬t.tail<0 by omega]) (ah.bm _)
 case' inl=>simp only[am,aJ (show ¬0<=t.tail by omega)]
 case' inr.inl =>
  simp only[am,aH.al,ec.al,aK ht];refine cl (FC s t.tail 2 lat D) ?_;simp only[am,hb]
 all_goals
  have tS:(decide (t.tail<0)||ke s t.tail 2 lat)=true:=by first | simp[ht];done | simp[hb];done
  have aM:∀i (hi:i<t.fs.length),(cV t.fs[i].name&&nN s lat t.fs[i].a)=ar->mR s lat t=false:=λi hi h=>by
   rw[mR,AI.2 ⟨t.fs[i],dj hi,by rw[h];simp⟩];simp
  refine cn (t.fs.length) (λi (x:Tk × ah)=>⟨[.any,.int .i64 (lat:Nat),.any,.ptr (.aE 0) 0,.any,.ptr (.aE 1) 0,.any,.sl x.1 1 (cD ((t.fs.take i).map bV.name)),.int .i64 (i:Nat)]++aq 54 .any,[s.enc,t.enc],x.2⟩) (λi x=>(Gr D x.2 x.1 i/\∀k (hk:k<t.fs.length),k<i->(cV t.fs[k].name&&nN s lat t.fs[k].a)=ab)) λF hF JF aT=>⟨?_,?_,?_⟩
  .refine en aT ((.aZ,D)) (⟨Gr.nil,by intro k _ h;omega⟩) ?_ ?_ ?_
   all_goals simp[hF,aq,am,bt,cD]
  .rintro i ⟨tk,bF⟩ hi ⟨hG,hJ⟩;simp only at hG;have nx:∀(h:(cV t.fs[i].name&&nN s lat t.fs[i].a)=ab) k (hk:k<t.fs.length),k<i+1->(cV t.fs[k].name&&nN s lat t.fs[k].a)=true:=λh k hk aD=>by
    by_cases e:k=i
    .subst e;exact h
    .exact hJ k hk (by omega)
   have hlen:((t.fs.take i).map bV.name).length=i:=by simp;omega
   simp only[hF,aq,am,cc hi,ec.al,aN];refine ix (Tw hi) ?_;simp only[am,bV.al];refine Gr.app (by rw[eB,hlen];exact hG) (by simp[eB,aQ];omega) λfD eT Uh _ _=>?_
   have EL:Gr D eT fD (i+1):=by rw[bM,eB,hlen] at Uh;exact Uh
   have et:(t.fs.take (i+1)).map bV.name=(t.fs.take i).map bV.name++[t.fs[i].name]:=by rw[iG hi,fX];rfl
   have el:(cD ((t.fs.take i).map bV.name)++[[V.aG t.fs[i].name]])[((i:Nat):Int).toNat]?=aa [.aG t.fs[i].name]:=by
    rw[gi,AK (by rw[eB,hlen];exact bY _),eB,hlen,Q6];rfl
   simp only[am];refine ix (el) ?_;simp only[am];refine bK.intro (JG t.fs[i].name eT) ?_;cases hn:cV t.fs[i].name with
   | false =>
    simp only[am,aI];exact no _ _ _ (aM i hi (by rw[hn];rfl)) EL.1
   | true =>
    simp only[am,aH.al,ec.al];refine ix (Tw hi) ?_;simp only[am,aH.al,bO.al,bV.al];refine bK.intro (X8 s lat t.fs[i].a hs kW) ?_;cases dx:nN s lat t.fs[i].a with
    | false =>
     simp only[am,aI];exact no _ _ _ (aM i hi (by rw[hn,dx];rfl)) EL.1
    | true =>
     simp only[am,aI,bJ hi];refine fk ((fD,eT)) hi ?_ ?_ ?_ ?_ ?_ ?_
     .exact ey (aT _ _) (⟨EL,nx (by rw[hn,dx];rfl)⟩)
     all_goals simp[hF,aq,am,bt,bR,du,V.lo,et,YG,aH.cP,ec.cP]
  .rintro⟨tk,bF⟩ ⟨hG,hJ⟩;have e:mR s lat t=(po (t.fs.map bV.name)).isNone:=by
    rw[mR,tS,aK (by omega),eM.2 λy hy=>by obtain⟨k,hk,rfl⟩:=uq.1 hy;exact hJ k hk hk];rfl
   simp only[hF,aq,am,aI,cE,aI,ec.al,aN,dX];refine cl (ch.eC (as' := [.sl .no 1 (cD (t.fs.map bV.name))]) (Pj (t.fs.map bV.name) bF (by simp;omega)) ⟨dp.no,trivial⟩ bW.rfl) ?_;simp only[am,BY];rw[e];exact aX rfl hG.1 ⟨rfl,rfl⟩
def axX:=af @am <| af @aH.al <| af @bz.al <| af @bn.al @bu.al
def att(s:aH)(a:dG)(hs:s.ok)(hl:a.code.length<=100000):ch prog 49 [.agg s.enc,.agg a.enc] D λr σ' => r = .bool (lW s a)/\σ' = D:=by
 obtain⟨op,lat,code,to,ra,rb,v,f⟩:=a;simp only at hl;refine akb.aV ?_;simp only[aU,aak,Nat.reduceAdd];simp only[dG.enc]
 by_cases fM:op=10
 .simp only[am,aH.al,gF,aK fM];refine cl (FC s v 2 lat D) ?_;cases hb:ke s v 2 lat with
  | false =>
   simp only[am];refine aL ?_;simp[V.erase,lW,fM,hb]
  | true =>
   simp only[am,gF];refine cl (JG f D) ?_;simp only[am];refine aL ?_;simp[V.erase,lW,fM,hb]
 simp only[am,gF,aJ fM];have out:(decide (0<=lat)&&decide (lat<s.ba.length))=ar->lW s ⟨op,lat,code,to,ra,rb,v,f⟩=false:=λh=>by
  rw[lW,aB fM]
  by_cases h9:op=9
  .rw[aF h9,h];rfl
  .rw[aB h9];split
   .rw[h];rfl
   .rfl
 by_cases Io:lat<0
 .simp only[am,aK Io];refine aL ?_;simp[V.erase,out (by simp;omega)]
 obtain⟨k,rfl⟩:=AF (show 0<=lat by omega);simp only[am,aN,aH.al,gF,aN,aJ Io]
 by_cases hk:k<s.ba.length
 case neg =>
  simp only[am,aK (show(s.ba.length:Int)<=(k:Nat) by omega)];refine aL ?_;simp[V.erase,out (by simp;omega)]
 simp only[am,gF,aJ (show ¬(s.ba.length:Int)<=(k:Nat) by omega)]
 by_cases h9:op=9
 .simp only[am,aH.al,gF,aK h9];refine cl (X9 s k ra hs hk) ?_;have e:∀b,mR s k ra=b->lW s ⟨op,(k:Nat),code,to,ra,rb,v,f⟩=(b&&mR s k rb):=λb hb=>by
   rw[lW,aB fM,aF h9,aK (by simp),aK (by simpa using hk)];simp[hb]
  cases hb:mR s k ra with
  | false =>
   simp only[am];refine aL ?_;simp[V.erase,e _ hb]
  | true =>
   simp only[am,aH.al,gF];refine cl (X9 s k rb hs hk) ?_;simp only[am];refine aL ?_;simp[V.erase,e _ hb]
 simp only[am,gF,aJ h9]
 by_cases h8:op=8
 case neg =>
  simp only[am,aJ h8];refine aL ?_;simp[V.erase,lW,fM,h9,h8]
 simp only[am,gF,aK h8];have e:lW s ⟨op,(k:Nat),code,to,ra,rb,v,f⟩=(code.all (nM s k)&&ym code&&nN s k to):=by
  rw[lW,aB fM,aB h9,aF h8,aK (by simp),aK (by simpa using hk)];rfl
 refine cl (atb code D hl) ?_;cases hr:ym code with
 | false =>
  simp only[am];refine aL ?_;simp[V.erase,e,hr]
 | true =>
  simp only[am,aH.al,bO.al,gF];refine cl (X8 s k to hs hk) ?_;cases ha:nN s k to with
  | false =>
   simp only[am];refine aL ?_;simp[V.erase,e,ha]
  | true =>
   simp only[am];have aM:∀i (hi:i<code.length),nM s k code[i]=ar->lW s ⟨op,(k:Nat),code,to,ra,rb,v,f⟩=false:=λi hi h=>by
    rw[e,AI.2 ⟨code[i],dj hi,by rw[h];simp⟩];rfl
   refine cn (code.length) (λi (x:Unit)=>⟨[.any,.any,.ptr (.aE 0) 0,.ptr (.aE 1) 0,.any,.int .i64 (i:Nat)]++aq 103 .any,[s.enc,cO op (k:Nat) (.sl .no 10 (code.map bu.enc)) to (.sl .no 10 (ra.fs.map bV.enc)) ra.tail (.sl .no 10 (rb.fs.map bV.enc)) rb.tail v f],D⟩) (λi x=>(∀j (hj:j<code.length),j<i->nM s k code[j]=ab)) λF hF JF aT=>⟨?_,?_,?_⟩
   .exact en aT (()) (by intro k _ h;omega)
   .rintro i x hi hJ;have nx:∀(h:nM s k code[i]=ab) j (hj:j<code.length),j<i+1->nM s k code[j]=true:=λh j hj aD=>by
     by_cases e:j=i
     .subst e;exact h
     .exact hJ j hj (by omega)
    have dR:∀n,bR n (cO op (k:Nat) (.sl .no 10 (code.map bu.enc)) to (.sl .no 10 (ra.fs.map bV.enc)) ra.tail (.sl .no 10 (rb.fs.map bV.enc)) rb.tail v f)=true:=λn=>abz rfl rfl rfl
    simp only[hF,aq,am,cc hi,gF,aN];refine ix (A4 hi) ?_;simp only[am,Nat.reduceAdd,bu.al]
    by_cases U:code[i].op=1
    .simp only[am,aH.al,bu.al,gF,aK U];refine bK.intro (FC s code[i].n 1 k D) ?_;have e:nM s k code[i]=ke s code[i].n 1 k:=by simp[nM,U]
     cases hb:ke s code[i].n 1 k with
     | false =>
      simp only[am,aI];refine aL ?_;simp[V.erase,aM i hi (by rw[e,hb])]
     | true =>
      simp only[am,aI,bu.al,aJ (show ¬code[i].op=2 by omega),bJ hi];refine fk (()) hi ?_ ?_ ?_ ?_ ?_ ?_
      .exact ey (aT _ _) (nx (by rw[e,hb]))
      all_goals simp[hF,aq,am,bt,bR,du,V.lo,aH.cP,dR]
    .simp only[am,bu.al,aJ U]
     by_cases h2:code[i].op=2
     .simp only[am,aH.al,gF,aK h2];refine ix (sS hk) ?_;simp only[axX];refine bK.intro (To s.ba[k].shape code[i].c D (hs.2.2 _ (dj hk))) ?_;have e:nM s k code[i]=sB s.ba[k].shape code[i].c:=by simp[nM,h2,Ge hk]
      cases hb:sB s.ba[k].shape code[i].c with
      | false =>
       simp only[am,aI];refine aL ?_;simp[V.erase,aM i hi (by rw[e,hb])]
      | true =>
       simp only[am,aI,bJ hi];refine fk (()) hi ?_ ?_ ?_ ?_ ?_ ?_
       .exact ey (aT _ _) (nx (by rw[e,hb]))
       all_goals simp[hF,aq,am,bt,bR,du,V.lo,aH.cP,dR]
     .simp only[am,aI,aJ h2,bJ hi];refine fk (()) hi ?_ ?_ ?_ ?_ ?_ ?_
      .exact ey (aT _ _) (nx (by simp[nM,U,h2]))
      all_goals simp[hF,aq,am,bt,bR,du,V.lo,aH.cP,dR]
   .rintro x hJ;have e2:lW s ⟨op,(k:Nat),code,to,ra,rb,v,f⟩=true:=by
     rw[e,hr,ha,eM.2 λy hy=>by obtain⟨j,hj,rfl⟩:=uq.1 hy;exact hJ j hj hj];rfl
    simp only[hF,aq,am,aI,cE,aI,gF,aN];refine aL ?_;simp[V.erase,e2]
def fn5:aS prog 5 (sq [rg 2 [oz 2],sq [rg 13 [om 0,oC 8 [13]],cr 14 15 [oC 9 [],o1 2]],rg 16 [oC 10 [],oC 10 [],ot 3 16,o1 4],sq [rg 18 [om 0,nL,oi 0],lp 19 0 (sq [rg 22 [oA 1 18 20,no,o1 6],rg 24 [om 3,om 6,oC 12 [24,25]]]) 27],sq [rg 28 [om 3,oC 21 [28],nL,oi 0],lp 30 2 (sq [rg 33 [oA 1 29 31,no,o1 8],rg 36 [om 4,om 8,oC 12 [36,37],o1 35,oe 35 0,oe 35 1,oe 35 2,oZ 9 [0,0,1,0,7,9,0,0,0,1,7,10,0,0,1,7,10],oR 10 kP,oZ 11 [0,0],os 17 9 39,os 18 10 40,o2 2 11],rg 42 [ol 2 11,oW [0,0] [],oq (.l8 ab [1,1] (.s 42) (.s 43)),gB,fo 0 9,oC 25 [47],nn,gZ,gB,ol 17 9,oC 26 [52],om 8,nE .neq 53,gZ],cr 56 2 [oz 2]]) 57],rg 58 [om 3,oC 24 [58],oZ 12 [8,8,23],o2 3 12],sq [rg 60 [ol 3 12,oC 27 [60],nn,gB,om 3,oC 11 [64],nT,nB .gtr 16384,gZ],cr 68 2 [oz 2]],dg 69 [om 4,oC 11 [69],om 3,oC 11 [71],nE .eql 70,gA,om 4,oC 24 [75],mM [2],ol 3 12,oC 23 [76,77],gZ,gA,om 4,oC 15 [81],ow 2 82,nB .eql 1,gZ,gA,oC 9 [],gZ,o1 2],.ret]) [.tmp 2] 89:=aW func5
def ajh:aS prog 27 (sq [rg 2 [ox 1 3 0,oz 2],sq [rg 4 [of 0 1,nl 2,oC 48 [5],nn,gB,fo 2 1,nL,nB .gtr 64,gZ],cr 13 2 [oz 2]],sq [rg 3 [oi 0],bl 0 (sq [sq [rg 14 [om 3,fo 2 1,nL,nb .lss 14],cx 18 0],.block 1 (sq [dg 21 [of 0 1,nl 2,fo 2 1,om 3,nA 18 24,nl 18,oC 49 [22,27],nn],cr 29 2 [oz 2]]),rg 19 [ic 3]])],rg 2 [oq (.mv (.c (.bool ab)))],.ret]) [.tmp 2] 30:=aW func27
def axA(ht:t.length<=3000):16*(cG t).1.wt+128<=aQ:=by
 have hb:=X2 t;generalize (cG t).1=c at hb;have U:=hb.ns;have h2:=hb.ps;have h3:=hb.l;have h4:=hb.r;have h5:=hb.nm;have h6:=hb.pt;have h7:=(B3 c.an).2;have h8:=CM c.left;have h9:=CM c.right;have lB:aQ=268435456:=rfl;have ME:c.wt=c.name.au.length+e_ c.an+kg c.bw+c.left.wt+c.right.wt:=rfl;omega
def atu(l:Lv)(D:ah)(ho:l.ok)(hr:lj l.fQ=ab/\∀a∈l.fE,lW l.fQ a=ab):a8 27 [.agg (jd l)] D (.bool ab):=by
 have hm:=ho.m;have ha:=ho.a;have cr:=auB l.fQ D ho.s.1;rw[hr.1,aH.enc] at cr;refine ajh.aV ?_;simp only[aU,am,a7,Nat.reduceAdd,B0];simp only[jd];simp only[am];refine cl cr ?_;simp only[am,aN,aN,aJ (show ¬(64:Int)<(l.fE.length:Nat) by omega)];refine cn (l.fE.length) (λi (x:Unit)=>⟨[.any,.ptr (.aE 0) 0,.any,.int .i64 (i:Nat)]++aq 26 .any,[jd l],D⟩) (λi x=>(True)) λF hF JF aT=>⟨?_,?_,?_⟩
 .refine en aT (()) (trivial) ?_ ?_ ?_
  all_goals simp[hF,aq,am,bt,jd]
 .rintro i x hi -;have ci:=ha _ (dj hi);have cf:=att l.fQ l.fE[i] (D:=D) ho.s.1 ci.c;rw[hr.2 _ (dj hi),aH.enc] at cf;simp only[hF,aq,am];simp only[jd];simp only[am,aN,aN,aK (show((i:Nat):Int)<(l.fE.length:Nat) by omega)];refine ix (Hb hi) ?_;simp only[am,lu];refine bK.intro cf ?_;simp only[am,aI,bJ hi];refine nx aT (()) hi (trivial) ?_ ?_ ?_
  all_goals simp[hF,aq,am,bt,jd]
 .rintro x -;simp only[hF,aq,am];simp only[jd];simp only[am,aN,aI,aN,aJ (show ¬((l.fE.length:Nat):Int)<(l.fE.length:Nat) by omega)];exact aX rfl (ah.bm _) ⟨rfl,rfl⟩
structure yI(D:ah)(b1 b2:Nat)(x:ah × Tk × Tk)(S T:fq):Prop where
 s:pz x.1 b1 x.2.1 S
 t:pz x.1 b2 x.2.2 T
 a:Ay x.2.1 x.2.2
 o:S.ok
 p:T.ok
 u:D.sub x.1
 k:xk D x.2.1
 l:xk D x.2.2
 c:x.1.b8=D.b8
def yI.go{b1 b2:Nat}{x:ah × Tk × Tk}{S T:fq}(h:yI D b1 b2 x S T)(hb:D.box b1=aj)(hn:b2≠b1){bF:ah}{k1:Tk}(ht:t.length<=3000)(U:pz bF b1 k1 (gw S t))(hk:Kp x.1 bF b1 x.2.1 k1):yI D b1 b2 (bF,k1,x.2.2) (gw S t) T :=
 ⟨U,(h.t.other hk hn h.a).1,(h.t.other hk hn h.a).2,Ls h.o ht,h.p,(Kp.sub h.u hb h.k hk).1,(Kp.sub h.u hb h.k hk).2,h.l,hk.c.trans h.c⟩
def yI.go2{b1 b2:Nat}{x:ah × Tk × Tk}{S T:fq}(h:yI D b1 b2 x S T)(hb:D.box b2=aj)(hn:b2≠b1){bF:ah}{k1:Tk}(ht:t.length<=3000)(U:pz bF b2 k1 (gw T t))(hk:Kp x.1 bF b2 x.2.2 k1):yI D b1 b2 (bF,x.2.1,k1) S (gw T t) :=
 ⟨(h.s.other hk hn.symm h.a.symm).1,U,(h.s.other hk hn.symm h.a.symm).2.symm,h.o,Ls h.p ht,(Kp.sub h.u hb h.l hk).1,h.k,(Kp.sub h.u hb h.l hk).2,hk.c.trans h.c⟩
def TG:∀{l:List (List UInt8)} {s:fq},s.built->(l.foldl gw s).built
 | [],_,hs=>hs
 | _::l,_,hs=>TG (l:=l) (acw hs)
def acy{l:Lv}(h:yH l):∀t∈l.lines,t.length<=1024:=by
 induction h with
 | zero=>simp[Lv.zero]
 | @step l r t hl hb ha h0 hs ih =>
  obtain⟨_,_,_,_,_,e6,_⟩:=Dp h0;have el:(pj l (cG t).1 (iK l.fQ r t).2.1).lines=l.lines++[dO (cG t).1]:=by unfold pj;split<;>rfl
  rw[el];intro x hx
  rcases fi.1 hx with hx | hx
  .exact ih x hx
  .simp at hx;subst hx;exact((V' e6).1 hs).1
def avM(l:List (List UInt8))(hg:TZ D)(kq:D.b8 0=aa gG):a8 5 [.sl .no 1 (cD l)] D (.bool ab):=by
 have alv:=Rk hg kq;have gT:∀{σ' : ah},σ'.b8=D.b8->TZ σ' /\ σ'.b8 0=aa gG:=λ{σ'} e=>⟨by rw[TZ,e];exact hg,by rw[e];exact kq⟩
 refine fn5.aV ?_;simp only[aU,am,a7,Nat.reduceAdd];refine cl (acj l D) ?_;cases hb:AV l with
 | true =>
  simp only[am];refine cl (alv) ?_;simp only[am];exact rt
 | false =>
  obtain⟨hl,hls⟩:=ack hb;simp only[am];refine(NS D).mono ?_;rintro v dE ⟨b1,rfl,ek,rfl⟩;simp only[am];refine(NS _).mono ?_;rintro v bF ⟨b2,rfl,dx,rfl⟩;have a9:b2≠b1:=λe=>by rw[e,iS] at dx;simp at dx
  have Uy : D.box b2=none:=by rw[pf a9] at dx;exact dx
  have u0:D.sub ((D.set b1 (kZ .aZ .zero)).set b2 (kZ .aZ .zero)):=⟨λc ds hc=>(PS (by rw[pf a9];exact Uy)).1 c ds ((PS ek).1 c ds hc),λ_ _ h=>h,λ_ _ h=>h⟩;simp only[am,eB];refine cn (l.length) (λi (x:ah × Tk × Tk)=>⟨[.any,.any,.any,.ptr (.out b1) 0,.ptr (.out b2) 0,.any,.any,.any,.any,.any,.any,.any,.any,.any,.any,.any,.any,.any,.sl .no 1 (cD l),.int .i64 (l.length:Nat),.int .i64 (i:Nat)]++aq 68 .any,[],x.1⟩) (λi x=>(yI D b1 b2 x ((l.take i).foldl gw .zero) .zero)) λF hF JF aT=>⟨?_,?_,?_⟩
  .exact en aT (((D.set b1 (kZ .aZ .zero)).set b2 (kZ .aZ .zero),.aZ,.aZ)) (⟨⟨by rw[pf a9.symm,iS];rfl,trivial⟩,YZ,λ_ e=>by simp at e,PR,PR,u0,λ_ e=>by simp at e,λ_ e=>by simp at e,rfl⟩)
  .rintro i ⟨dE,k1,k2⟩ hi h;have ht:=hls _ (dj hi);have c1:=Hv l[i] h.s h.o (gT h.c).1 (gT h.c).2 (by omega);rw[<-HN hi] at c1;generalize gJ ((l.take i).foldl gw .zero) l[i]=X at c1;obtain⟨c,y,f⟩:=X;simp only[wG] at c1;simp only[hF,aq,am,cc hi];refine ix (BL hi) ?_;simp only[am];refine c1.mono ?_;rintro v bF ⟨rfl,k3,s1,p1⟩;simp only[am,aI,bJ hi];exact nx aT ((bF,k3,k2)) hi (by rw[HN hi] at s1 ⊢;exact h.go ek a9 (by omega) s1 p1)
  .rintro⟨dE,k1,k2⟩ h;rw[dX] at h;have H9:(l.foldl gw .zero).built:=TG acz;generalize l.foldl gw .zero=S at h H9;obtain⟨r1,r2⟩:=replay H9.l;have hrt:=acx H9.l;have hSt:=h.o.l.t;have Ip:=Wf h.o;obtain⟨n,hn⟩:∃n,n=S.live.lines.length:=⟨_,rfl⟩;simp only[hF,aq,am,aI,cE,aI];refine cl (We h.s.b Ip) ?_;simp only[am,eB];refine cn (S.live.lines.length) (λi (x:ah × Tk × Tk)=>⟨[.any,.any,.any,.ptr (.out b1) 0,.ptr (.out b2) 0,.any,.any,.any,.any,.any,.any,.any,.any,.any,.any,.any,.any,.any,.any,.any,.any,.any,.any,.any,.any,.any,.any,.any,.any,.sl .no 1 (cD S.live.lines),.int .i64 (S.live.lines.length:Nat),.int .i64 (i:Nat)]++aq 57 .any,[],x.1⟩) (λi x=>(yI D b1 b2 x S ((S.live.lines.take i).foldl gw .zero))) λF2 bZ pU df=>⟨?_,?_,?_⟩
   .refine en df ((dE,k1,k2)) (h) ?_ ?_ ?_
    all_goals simp[bZ,aq,am,bt]
   .rintro i ⟨bF,k3,k4⟩ hj U;have ag:=r2 i hj;have hm:=acy H9.l _ (dj hj);have c1:=Hv S.live.lines[i] U.t U.p (gT U.c).1 (gT U.c).2 (by omega);rw[<-HN hj] at c1;have g1:=λ{Ci:ah} {k3:Tk} (a:pz Ci b2 k3 (gw ((S.live.lines.take i).foldl gw .zero) S.live.lines[i])) (e:Kp bF Ci b2 k4 k3)=>U.go2 Uy a9 (show S.live.lines[i].length<=3000 by omega) a e
    have hw:16*(gJ ((S.live.lines.take i).foldl gw .zero) S.live.lines[i]).1.wt+128<=aQ:=by
     rw[show(gJ ((S.live.lines.take i).foldl gw .zero) S.live.lines[i]).1=(cG S.live.lines[i]).1 from(Dp (by have:=ag.f;rw[gJ] at this;rw[this];rfl)).1];exact axA (by omega)
    obtain⟨a1,a2,a3⟩:=ag;generalize gJ ((S.live.lines.take i).foldl gw .zero) S.live.lines[i]=X at c1 a1 a2 a3 hw;obtain⟨c,y,f⟩:=X;simp only at a1 a2 a3 hw;subst a1;simp only[wG] at c1;have ct:=λσ' => atW c σ' hw
    rw[a3] at ct;simp only[bZ,aq,am,cc hj];refine ix (BL hj) ?_;simp only[am];refine c1.mono ?_;rintro v eT ⟨rfl,k5,s1,p1⟩;simp only[am,Nat.reduceAdd,aY.al,dZ,ft,lu,LX,aK (show aY.zero=⟨0,0⟩ from rfl)];refine cl (PQ c.op eT) ?_;simp only[am,dZ,a2];refine cl (ct eT) ?_;simp only[am,b9,aI,bJ hj];refine fk ((eT,k3,k5)) hj ?_ ?_ ?_ ?_ ?_ ?_
    .exact ey (df _ _) (by rw[HN hj] at s1 ⊢;exact g1 s1 p1)
    all_goals simp[bZ,aq,am,bt,bR,du,V.lo,az.enc,az.dc]
   .rintro⟨bF,k3,k4⟩ U;rw[dX,r1] at U;simp only[bZ,aq,am,aI,cE,aI];have cp:a8 24 [.ptr (.out b1) 0] bF (.agg (jd S.live)):=XC U.s.b (gT U.c).1 U.o.l;have cq:a8 24 [.ptr (.out b2) 0] bF (.agg (jd S.live)):=XC (s:=⟨S.live,[]⟩) U.t.b (gT U.c).1 U.p.l;refine cl cp ?_;simp only[am,B0,B0];refine cl (atu S.live bF U.o.l hrt) ?_;simp only[am];refine cl (IU U.s.b U.o) ?_;have tS:=@P2 S.live.lines;simp only[am,aJ (show ¬(16384:Int)<((r9 S.live.lines).length:Nat) by omega)];refine bK.intro (IU U.t.b U.p) ?_;simp only[am];refine bK.intro (IU U.s.b U.o) ?_;simp only[am,b9];refine bK.intro cq ?_;simp only[am,B0,B0];refine bK.intro (asl S.live bF U.o.l) ?_;simp only[am];refine bK.intro (PN U.t.b (by simp)) ?_;simp only[am,Rm.al,aK (show(qC ⟨S.live,[]⟩).fv=1 by simp[qC])];refine bK.intro (Rk (gT U.c).1 (gT U.c).2) ?_;simp only[am,B0,B0];exact aX rfl U.u ⟨rfl,rfl⟩
open Go.Am Go.ChangeShapes Go.WideShapes Go.ChangeAt Go.RowKit
open Go.Proofs.YtnpggmhoandloaaGreatDoor
set_option maxRecDepth 100000 in
def avg(H:Type)(enc:TypeId × Value->H)(W:World)(base:Nat)(args:Array Value)(ds gs:List (DataW H))(before:List MemPlace)
 (IC:∀(j:Nat) t v,f5.params[j]?=aa t->args[j]?=aa v->Value.okWide prog W .any base t v)
 (hW:DataW.Whole enc prog f5.params.toList Rows.stackTextSpec.vars ar W args.toList ds gs before) (hk:Rows.uptoSmall H (ds++gs)=ab) (hL:laidMetH prog Rows.stackTextRow.laid W) :
 Calls prog 5 args W λe W' => ∃v,e = .returned v/\Rows.stackTextSpec.post enc prog f5 ar ab ar ar W args v W' := by
 have ET := hW;obtain⟨p,q,hA0,hV,rfl,MQ,Fh⟩:=hW;have hA:DataW.TrodAll enc prog W 0 (λ_=>ab) ab f5.params.toList args.toList ds p:=hA0;rw[params5] at hA IC;obtain⟨v0,vs0,d0,SQ,p0,q0,Ms,rfl,rfl,⟨n0,h0⟩,r0⟩:=trodAll_cons hA;obtain⟨rfl,rfl,rfl⟩:=trodAll_nil r0;obtain rfl:args=#[v0]:=by cases args;simp_all
 obtain⟨rfl,rfl⟩:=trodVars_none hV;have hG:=ald hL;obtain⟨_,a0,_,y0,rfl,b0⟩:=as1 n0 (KO _) _ _ h0;have hb:Rows.uptoBulkAll [d0]<=1048576:=by
  have h:=Dv hk;rw[eD] at h;exact h
 simp only[Rows.uptoBulkAll] at hb;simp only[eD] at ET;have s0:=av7 underlying22 (IC 0 22 v0 rfl rfl) a0;refine anT (avM y0 rfl rfl) hG ?_ laid atQ akT rfl underlying4 (by rw[params5];decide +kernel) rfl ⟨rfl,rfl,rfl⟩ ET;simp only[RL,im];exact s0
set_option maxRecDepth 100000 in
def avh(os:Os):laidMet prog Rows.stackTextRow.laid ((NY os).forCall (λ_ _=>0) ⟨#[],#[.slice aj 0 0],[]⟩).memory :=
 laidMet_of_run' 8 (by kernel_rfl) (by kernel_rfl)
variable{H:Type}
def avl(os:Os)(enc:TypeId × Value->H):∃places,DataW.whole enc prog ((NY os).forCall (λ_ _=>0) ⟨#[],#[.slice aj 0 0],[]⟩).memory f5.params.toList Rows.stackTextSpec.vars ar (#[.slice aj 0 0]:Array Value).toList 8=aa ([.nil],[],places) :=
 ⟨[],by kernel_rfl⟩
set_option maxRecDepth 100000 in
def avi(os:Os)(started:os.Started)(H:Type)(enc:TypeId × Value->H)(F:Stop.Interp) :
 ReturnsInHanded {} checked os 5 .any ((Rows.OpenSpec.upto Rows.stackTextSpec).preRow enc prog f5 Rows.stackTextUptoRow.domain ar Rows.stackTextUptoRow.laid) (((Rows.OpenSpec.upto Rows.stackTextSpec).at F).post enc prog f5 ar ab ar ar):=by
 obtain⟨places,hx⟩:=avl os enc;refine returnsInHanded_of_row (C:=checked) (s:=Rows.OpenSpec.upto Rows.stackTextSpec) own started (by kernel_rfl) func5
  (witness_row_at (enc:=enc) (C:=checked) ar (NY os) #[.slice aj 0 0] rfl (by kernel_rfl) (by kernel_rfl) (by kernel_rfl)
    (OpenSpec.preRow_of_cond 8 hx (by kernel_rfl) (λk hk=>by cases hk;kernel_rfl) (by kernel_rfl) (avh os))) ?_
 intro W base args ds gs before IC hW _ alR _ hL _ _;exact avg H enc W base args ds gs before IC hW (alR _ rfl) hL
end Go.Proofs.Tryz
