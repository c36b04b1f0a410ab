/-
  Part 8 of the proof of JudgeLineUptoCardSaid: a logic over the model, the forms of the functions that the law reaches, and what they compute.
-/
import Derived.Test.YtkeidlpchmepkaaGreatDoorProg
import Derived.ProofKit
import Derived.OpenShut
import Derived.JoinedCond
import Derived.ChangeStays
import Derived.ReadAgain
import Derived.Deep.DeepHandedRow
import Derived.Lib.LaidTab
import Derived.Stop.LaidErr
import Derived.Test.YtkeidlpchmepkaaGreatDoorCards
import Derived.Test.YtkeidlpchmepkaaGreatDoorTie
import Derived.Test.YtkeidlpchmepkaaGreatDoorLine7
set_option linter.unusedVariables false
set_option linter.unusedSimpArgs false
set_option linter.defProp false
set_option linter.unusedSectionVars false
set_option maxRecDepth 4000
set_option maxHeartbeats 4000000
open Option renaming some->U,none->ah
open Bool renaming true->aa,false->aq
open List renaming replicate->aj,range->bG,getD->gy,zipWith->lQ
open Eq renaming mpr->cI
open Ne renaming symm->fL
namespace Go.Proofs.Tryz
open Go.Am
def ah_:aR prog 65 (sq [rg 0 [ox 3 2 0,ox 5 5 2,oR 6 As],sq [rg 11 [fo 0 5,nB .eql 1],ci 13 (sq [rg 15 [ol 2 3,fo 2 5,oC 63 [15,17],o1 14,oe 14 0,oe 14 1,ot 7 19,o1 8],rg 21 [om 8,oY As [(0,1,.s 21)],o2 9 6],.ret])],dA 24 [9,10] [fo 0 3,om 1,nA 3 25,nf 1,nl 2,fo 4 5,nI 5 0,nl 5,oC 125 [29,33],o1 23,oe 23 0,oe 23 1,oN,oN,oX 9 8 35,oX 10 2 36],rg 37 [ol 8 9,oY As [(0,1,.c (.int .i64 (-1))),(1,8,.s 37)],o2 9 6],.ret]) [.cell 6 aa 9] 39:=aS func65
def ah':aR prog 66 (sq [rg 0 [ox 3 2 0,ox 5 5 2,oZ 6 [15,0]],rg 12 [oG [15,0] [(1,1,.c (.int .i64 (-1)))],oZ 7 [15,0],o2 2 7],sq [rg 13 [fo 0 5,nB .eql 1],ci 15 (sq [rg 17 [ol 2 3,fo 2 5,oC 63 [17,19],o1 16,oe 16 0,oe 16 1,of 1 7,os 1 23 22],rg 24 [ol 2 7,o2 2 6],.ret])],sq [rg 25 [fo 4 5,nL,oi 0],lp 27 0 (sq [rg 30 [oA 5 26 28,nl 5,oZ 9 [0,0,1,7,10],o2 5 9],dg 32 [of 0 7,mM [1],no,of 2 9,mM [1],no,ol 2 3,om 1,fo 4 9,nI 5 0,nl 5,oC 65 [36,37,41],oY KX [(0,1,.s 35),(1,9,.s 42)],n1 10,na 10 33,of 0 7,os 1 46 45]]) 47],sq [rg 48 [fo 3 5,nL,oi 0],lp 50 2 (sq [rg 53 [oA 2 49 51,nl 2,oZ 11 [1,0],o2 2 11],rg 56 [ol 2 3,fo 0 11,oC 63 [56,58],o1 55,oe 55 0,oe 55 1,of 1 7,os 1 62 61]]) 63],rg 64 [ol 2 7,o2 2 6],.ret]) [.cell 6 aa 2] 65:=aS func66
variable{Z:ab}
def Sc(s:aG)(lat:Nat)(n:Nd)(hs:s.ok)(hg:TZ Z)(iY:lat<s.bt.length)(hk:n.kind=1\/0<n.ae.length)(hc:n.cJ<=100000)(hw:n.wt<=aJ):
 aT 65 [.agg s.enc,.int .i64 (lat:Nat),.agg n.enc] Z (.agg (rj s lat n).enc):=by
 refine ah_.aP ?_;simp only[aO,yw,Nat.reduceAdd,Int.reduceNeg,bO.ak]
 by_cases h1:n.kind=1
 .simp only[am,Int.reduceNeg,aG.ak,Nd.fl,aB h1];refine cl (yg s n.ar Z hs.1 hs.2.1) ?_;simp only[am,Int.reduceNeg,bO.ak];exact aN (v:=.agg (bO.mk (bY (iw s.vars n.ar)) .zero).enc) bO.dL (ab.bc _) ⟨by rw[rj,aI h1];simp only[V.erase,bO.dy],rfl⟩
 have hk:0<n.ae.length:=hk.resolve_left h1;have hm:n.ae[0]∈n.ae:=dq _;have qI:=lx hm;have qJ:=gw hm;simp only[am,Nat.reduceAdd,bL,Int.reduceNeg,Nat.reduceLT,aG.ak,az h1];refine ix (u7 iY) ?_;simp only[am,Int.reduceNeg,aG.ak,Nd.fl];refine mh (n:=0) (by omega) (fN (j:=0) (bN hk)) ?_;simp only[am,Int.reduceNeg,bJ.ak,Nd.ak];refine bA.intro (KF s.bt[lat].shape n.ae[0] hg (hs.2.2 _ (dq iY)) (λm hm=>by obtain⟨a,b,c⟩:=DC (n:=n.ae[0]) (by omega) m hm;exact⟨by omega,by omega,λq hq=>by have:=c q hq;omega⟩) (by omega)) ?_;have ee:rj s lat n=⟨-1,(gz s.bt[lat].shape n.ae[0]).1⟩:=by rw[rj,aw h1,DL iY,jS hk]
 generalize gz s.bt[lat].shape n.ae[0]=g at ee;obtain⟨e,o⟩:=g;cases o with
 | none =>
  simp only[am,Nat.reduceAdd,Int.reduceNeg,bp.ak,bO.ak,show mG ah=[.int .i64 0,.int .i64 0] from rfl];exact aN (v:=.agg (bO.mk (-1) e).enc) bO.dL (ab.bc _) ⟨by rw[ee];simp only[V.erase,bO.dy],rfl⟩
 | some q =>
  simp only[am,Nat.reduceAdd,Int.reduceNeg,bp.ak,bO.ak,show mG (U q)=[.int .i64 4,.int .i64 q] from rfl];exact aN (v:=.agg (bO.mk (-1) e).enc) bO.dL (ab.bc _) ⟨by rw[ee];simp only[V.erase,bO.dy],rfl⟩
def SJ(s:aG)(lat:Nat)(n:Nd)(hs:s.ok)(hg:TZ Z)(iY:lat<s.bt.length)(hk:∀k∈n.ae,KW k)(EY:n.al.length<=1)(hc:n.cJ<=100000)(hw:n.wt<=aJ):
 aT 66 [.agg s.enc,.int .i64 (lat:Nat),.agg n.enc] Z (.agg (mn s lat n).enc):=by
 refine ah'.aP ?_;simp only[aO,yw,Nat.reduceAdd,Int.reduceNeg,ck.ak]
 by_cases h1:n.kind=1
 .simp only[am,Int.reduceNeg,aG.ak,Nd.fl,aB h1];refine cl (yg s n.ar Z hs.1 hs.2.1) ?_;simp only[am,Nat.reduceAdd,Int.reduceNeg];exact aN rfl (ab.bc _) ⟨by rw[mn,aI h1];rfl,rfl⟩
 simp only[am,aD,Int.reduceNeg,Nd.fl,aD,az h1];have wq:=vX n;obtain⟨Q,hQ⟩:∃Q:Nat->List (List V),∀i,Q i=((n.ae.take i).map (xx s lat)).map ck.enc:=⟨_,λ_=>rfl⟩;have uP:Q 0=[]:=by rw[hQ];rfl
 have wc:Q n.ae.length=(n.ae.map (xx s lat)).map ck.enc:=by rw[hQ,df]
 have uQ:∀{i:Nat},i<=n.ae.length->(Q i).length=i:=λ{i} hi=>by rw[hQ];simp;omega
 have qC:∀{i:Nat} (hi:i<n.ae.length) (h1:0<n.ae[i].ae.length),Q (i+1)=Q i++[(ck.mk n.ae[i].ar (rj s lat n.ae[i].ae[0])).enc]:=λ{i} hi h1=>by
  rw[hQ,hQ,jg hi,jf,jf,Cc,Cc,xx,jS h1]
 refine ct (n.ae.length) (λi (D:Nat)=>⟨[.any,.int .i64 (lat:Nat),.any,.ptr (.au 0) 0,.any,.ptr (.au 1) 0,.ptr (.au 2) 0,.ptr (.au 3) 0,.any,.any,.any,.any,.any,.any,.any,.any,.any,.any,.any,.any,.any,.any,.any,.any,.any,.any,.sl .no 5 (n.ae.map Nd.enc),.int .i64 (n.ae.length:Nat),.int .i64 (i:Nat)]++aj 36 .any,[s.enc,n.enc,[.sl .a9 10 [],.int .i64 0],[.sl (.tk D) 10 (Q i),.int .i64 (-1)]],Z.ba D i⟩) (λi D=>(Z.aY D=ah)) λF hF JF aW=>⟨?_,?_,?_⟩
 .refine Hc 0 λD a_=>⟨D,cI (aW _ _) a_,?_,?_,?_⟩
  all_goals simp[hF,aj,jG,Il,uP]
 .rintro i D hi a_;have hm:n.ae[i]∈n.ae:=dq _;have qI:=lx hm;have qJ:=gw hm;obtain⟨qE,qF⟩:=hk _ hm;have sK:n.ae[i].ae[0]∈n.ae[i].ae:=dq _;have L_:=lx sK;have Ma:=gw sK;have zi:TZ (Z.ba D i):=hg;have hlen:=uQ (Ec hi);simp only[hF,aj,am,ca hi,Int.reduceNeg];refine ix (fN (bN hi)) ?_;simp only[yw,Nat.reduceAdd,Int.reduceNeg];refine mh (n:=0) (by omega) (fN (j:=0) (bN qE)) ?_;simp only[am,Int.reduceNeg,aG.ak,Nd.ak];refine bA.intro (Sc s lat n.ae[i].ae[0] hs zi iY (qF _ sK) (by omega) (by omega)) ?_;simp only[am,Int.reduceNeg,bO.ak,ck.ak];refine vS (by rw[hlen];simp[aJ];omega) (by rw[hlen];exact eR) ?_;rw[hlen];simp only[am,aK,Int.reduceNeg,Nd.fl,eJ,bF hi,fx];refine db (D) hi ?_ ?_ ?_ ?_ ?_ ?_
  .exact cI (aW _ _) (a_)
  all_goals simp[hF,aj,am,bd,bK,cp,V.lo,qC hi qE,aG.bP,Nd.bP]
 .rintro D a_;have hlen:=uQ (b7 _);have uW:=Cv n;simp only[hF,aj,am,aK,cy,aK,Int.reduceNeg,Nd.fl,aD];refine ct (n.al.length) (λj (y:Unit)=>⟨[.any,.any,.any,.ptr (.au 0) 0,.any,.any,.ptr (.au 2) 0,.ptr (.au 3) 0,.any,.any,.any,.any,.any,.any,.any,.any,.any,.any,.any,.any,.any,.any,.any,.any,.any,.any,.any,.any,.any,.any,.any,.any,.any,.any,.any,.any,.any,.any,.any,.any,.any,.any,.any,.any,.any,.any,.any,.any,.any,.sl .no 2 (n.al.map aF.enc),.int .i64 (n.al.length:Nat),.int .i64 (j:Nat)]++aj 13 .any,[s.enc,n.enc,[.sl .a9 10 [],.int .i64 0],[.sl (.tk D) 10 (Q n.ae.length),.int .i64 (DR s (n.al.take j))]],Z.ba D n.ae.length⟩) (λj y=>(True)) λF2 bT mE cX=>⟨?_,?_,?_⟩
  .refine en cX (()) (trivial) ?_ ?_ ?_
   all_goals simp[bT,aj,am,bd,DR]
  .rintro j y hj -;obtain rfl:j=0:=by omega
   have et:=XT (s:=s) hj;simp only[bT,aj,am,ca hj];refine ix (tg hj) ?_;simp only[am,Nat.reduceAdd,td,aG.ak,aF.ak];refine cl (yg s n.al[0].ar _ hs.1 hs.2.1) ?_;simp only[am,aK,bF hj];refine db (()) hj ?_ ?_ ?_ ?_ ?_ ?_
   .exact cI (cX _ _) (trivial)
   all_goals simp[bT,aj,am,bd,bK,cp,V.lo,et,aG.bP,Nd.bP]
  .rintro y -;simp only[bT,aj,am,aK,cy,Nat.reduceAdd,aK,df,wc];have e:mn s lat n=⟨n.ae.map (xx s lat),DR s n.al⟩:=by rw[mn,aw h1]
   refine aN rfl (gV a_) ⟨by rw[e];rfl,rfl⟩
def agI:aR prog 23 (sq [rg 5 [ox 2 2 0,ox 3 17 1,oR 4 iL,oz 2],sq [rg 9 [fo 0 3,nB .lss 8,gB,fo 0 3,nB .gtr 10,gZ,gB,ol 17 3,oC 62 [18],nn,gZ,gB,ol 2 2,ol 17 3,oC 20 [23,24],ow 0 25,nB .neq 0,gZ],cr 28 29 [oY iL [],o2 18 4,oU 5 2]],rg 31 [ol 2 2,of 2 3,nF 0,oC 63 [31,34],o1 30,oe 30 0,oe 30 1,ot 6 36,o1 7],rg 38 [fo 0 3,om 6,oY iL [(0,1,.s 39),(1,1,.s 40)],oR 8 iL,o2 18 8],sq [rg 42 [fo 0 3],.block 0 (sq [rg 45 [oB .eql 43 8,o1 44],cd 44 (sq [rg 47 [ol 2 2,om 6,of 7 3,nl 5,oC 64 [47,48,50],o1 46,oe 46 0,oe 46 1,of 2 8,os 1 54 52],rg 55 [ol 2 2,om 6,of 12 3,nl 5,oC 65 [55,56,58],of 3 8,os 9 60 59]]) (sq [rg 62 [oB .eql 43 9,o1 61],cd 61 (dg 63 [ol 2 2,om 6,of 7 3,nl 5,oC 66 [63,64,66],mM [0],ol 2 2,om 6,of 12 3,mM [0],nl 5,oC 66 [68,69,71],of 12 8,os 2 73 67,of 14 8,os 2 74 72]) (sq [rg 76 [oB .eql 43 10,o1 75],ci 75 (dg 77 [om 7,of 1 2,mM [1],no,om 7,nA 3 79,nf 2,mM [1],no,of 4 3,mM [1,2],no,nI 2 0,nf 0,mM [1,2],no,of 16 8,os 1 89 77,of 1 8,os 1 90 83,of 17 8,os 1 91 88])])])])],rg 92 [ol 18 8,o2 18 4,oV 5 (.bool aa)],.ret]) [.cell 4 aa 18,.tmp 5] 93:=aS func23
def ri(s:aG)(c:aL):V:=.bz [.agg (if jD s c then mZ s c else .zero).enc,.bool (jD s c)]
def ad8(s:aG)(c:aL)(hs:s.ok)(hg:TZ Z)(mJ:Z.cQ 0=U il)(hn:c.al.length+1<=aJ)(hp:c.a8.length+1<=aJ)(hl:c.left.cJ<=100000)(hr:c.right.cJ<=100000)(jW:c.left.wt<=aJ)(oH:c.right.wt<=aJ):
 aT 23 [.agg s.enc,.agg c.enc] Z (ri s c):=by
 have no:∀(t:List V) (lo:List (List V)),jD s c=aq->jx (λv σ' => v=ri s c/\σ' = Z) ⟨t,lo,Z⟩ (.bz [.agg (cP 0 0 (.sl .a9 10 []) .zero (.sl .a9 10 []) 0 (.sl .a9 10 []) 0 0 []),.bool aq]):=λt lo h=>by
  refine aN (by simp only[V.cM,bS,sa];exact Ck rfl rfl rfl) (ab.bc _) ⟨?_,rfl⟩;rw[ri,h];simp only[V.erase,aZ,Cj];rfl
 have yes:∀(t:List V) (lo:List (List V)) (op lat:Int) (cd:V) (to:bO) (fa:V) (ta:Int) (fb:V) (tb v:Int) (f:List UInt8),jD s c=aa->cd.cM=aa->fa.cM=aa->fb.cM=aa->cP op lat cd.erase to fa.erase ta fb.erase tb v f=(mZ s c).enc->jx (λv σ' => v=ri s c/\σ' = Z) ⟨t,lo,Z⟩ (.bz [.agg (cP op lat cd to fa ta fb tb v f),.bool aa]):=λt lo op lat cd to fa ta fb tb v f h n1 n2 n3 hx=>by
  refine aN (by simp only[V.cM,bS,sa];exact Ck n1 n2 n3) (ab.bc _) ⟨?_,rfl⟩;rw[ri,h];simp only[V.erase,aZ,Cj,hx];rfl
 refine agI.aP ?_;simp only[aO,am,aX,Nat.reduceAdd,aG.ak,iL,cE,b8]
 by_cases o1:c.op<8
 .simp only[am,fA,aB o1];exact no _ _ (by simp[jD];omega)
 simp only[am,b8,az o1]
 by_cases o2:10<c.op
 .simp only[am,fA,aB o2];exact no _ _ (by simp[jD];omega)
 simp only[am,cE,az o2];refine cl (abC c mJ hn hp jW oH) ?_;cases hq:c.qe with
 | false =>
  simp only[am,fA];exact no _ _ (by simp[jD,hq])
 | true =>
  simp only[am,aG.ak,cE];refine cl (Sm s c hs hg hl hr jW oH) ?_;simp only[am,aM.ak]
  by_cases hf:(iN s c).cls=0
  case neg =>
   simp only[am,fA,az hf];exact no _ _ (by simp[jD,hf])
  have hA:jD s c=true:=by simp only[jD,hq,hf,bL,sa,b_,eb];omega
  have hF:=Uj.1 hA;simp only[am,aG.ak,bM,aB hf];refine cl (yg s c.name.ar Z hs.1 hs.2.1) ?_;simp only[am,Nat.reduceAdd,fA,b8,vT (op:=c.op) (lat:=bY (fu s.bt c.name.ar)) (c:=.sl .a9 10 []) (to:=.zero) (fa:=.sl .a9 10 []) (ta:=0) (fb:=.sl .a9 10 []) (tb:=0) (v:=0) (f:=[]) rfl rfl rfl]
  by_cases h8:c.op=8
  .simp only[am,aG.ak,Nd.ak,bM,aB h8];obtain⟨k,hk,an⟩:=hF.cN (.inl h8);have iX : bY (fu s.bt c.name.ar)=(k:Nat):=hk;rw[iX];refine cl (aa3 s k c.left hg hs jW (by omega)) ?_;simp only[am,aG.ak,fA,Nd.ak,bM,uF];refine cl (Sc s k c.right hs hg an ?_ (by omega) oH) ?_
   .rcases hF.right h8 with h | h
    .exact .inl h
    .exact .inr (by rw[Fx (hF.labels h8).2 h];omega)
   simp only[am,bO.ak,fA,vT (op:=c.op) (lat:=k) (c:=.sl .no 10 (((lW s k c.left).getD []).map bH.enc)) (to:=rj s k c.right) (fa:=.sl .a9 10 []) (ta:=0) (fb:=.sl .a9 10 []) (tb:=0) (v:=0) (f:=[]) rfl rfl rfl];refine yes _ _ _ _ _ _ _ _ _ _ _ _ hA rfl rfl rfl ?_;rw[mZ,aI h8,hk,h8];rfl
  simp only[am,az h8]
  by_cases h9:c.op=9
  .simp only[am,aG.ak,Nd.ak,bM,aB h9];obtain⟨k,hk,an⟩:=hF.cN (.inr h9);have iX : bY (fu s.bt c.name.ar)=(k:Nat):=hk;rw[iX];obtain⟨q1,q2⟩:=hF.rows h9;refine bA.intro (SJ s k c.left hs hg an (IY q1) (IZ q1) (by omega) jW) ?_;simp only[am,aG.ak,Nd.ak,bM];refine bA.intro (SJ s k c.right hs hg an (IY q2) (IZ q2) (by omega) oH) ?_;simp only[am,aG.ak,fi.ak,fA,bM,vT (op:=c.op) (lat:=k) (c:=.sl .a9 10 []) (to:=.zero) (fa:=.sl .no 10 ((mn s k c.left).fs.map ck.enc)) (ta:=(mn s k c.left).tail) (fb:=.sl .no 10 ((mn s k c.right).fs.map ck.enc)) (tb:=(mn s k c.right).tail) (v:=0) (f:=[]) rfl rfl rfl];refine yes _ _ _ _ _ _ _ _ _ _ _ _ hA rfl rfl rfl ?_;rw[mZ,aw h8,aI h9,hk,h9];rfl
  have ec:c.op=10:=by omega
  simp only[am,aG.ak,az h9,aB ec];obtain⟨v,hv,Be,uY⟩:=hF.var ec;obtain⟨w,hw,_⟩:=hF.one ec;rw[Be];simp only[Int.reduceNeg,bY];refine ix (um hv) ?_;simp only[am,Int.reduceNeg,aG.ak,bM];have Bf:0<c.al.length:=by rw[hw];simp
  refine mh (n:=0) (by omega) (tg (l:=c.al) (j:=0) Bf) ?_;simp only[am,Int.reduceNeg,td,aG.ak,fA,bM,vT (op:=c.op) (lat:=s.vars[v].lat) (c:=.sl .a9 10 []) (to:=.zero) (fa:=.sl .a9 10 []) (ta:=0) (fb:=.sl .a9 10 []) (tb:=0) (v:=v) (f:=c.al[0].ar) rfl rfl rfl];refine yes _ _ _ _ _ _ _ _ _ _ _ _ hA rfl rfl rfl ?_;rw[mZ,aw h8,aw h9,Be,Pn,bN hv,jS Bf,ec];rfl
def fn9:aR prog 9 (sq [rg 0 [ox 3 2 0,ox 4 3 1,oZ 6 [0,0,1,0,7,9,0,0,0,1,7,10,0,0,1,7,10],oR 7 iL,oZ 8 [0,0]],rg 15 [om 2,oC 18 [15],o1 14,oe 14 0,oe 14 1,oZ 9 [0,0,1,0,7,9,0,0,0,1,7,10,0,0,1,7,10],oZ 10 [0,0],os 17 9 17,o2 2 10],sq [rg 19 [fo 0 10,nB .neq 0],ci 21 (sq [dg 22 [oW [0,0,1,0,7,9,0,0,0,1,7,10,0,0,1,7,10] [],oY iL [],mM [1,2],ol 2 10,os 17 6 22,os 18 7 23,o2 2 8],.ret])],dg 25 [ol 2 3,ol 17 9,oC 19 [25,26],mM [0],ol 2 3,mM [0],ol 17 9,oC 20 [28,29],oq (.km 2 [(.s 27),(.s 30)]),o1 11],sq [rg 32 [ol 3 4,ol 17 9,oC 21 [32,33]],ci 34 (rg 35 [om 11,fo 1 9,oG [0,0] [(0,1,.c (.int .i64 7)),(1,1,.s 37)],n1 2,na 2 35,o1 11])],sq [rg 41 [fo 0 9,nB .eql 12,gA,fo 2 4,nB .leq 1,gZ],ci 48 (rg 49 [om 11,fo 1 9,oG [0,0] [(0,1,.c (.int .i64 8)),(1,1,.s 51)],n1 2,na 2 49,o1 11])],sq [rg 55 [om 11,oC 22 [55],o2 2 10],rg 57 [fo 0 10,nB .neq 0],ci 59 (sq [dg 60 [oW [0,0,1,0,7,9,0,0,0,1,7,10,0,0,1,7,10] [],oY iL [],mM [1,2],ol 2 10,os 17 6 60,os 18 7 61,o2 2 8],.ret])],rg 64 [ol 2 3,ol 17 9,oC 23 [64,65],o1 63,oe 63 0,oe 63 1,oR 12 iL,os 18 12 67,o1 13],dg 69 [ol 17 9,mM [1],ol 18 12,oW [0,0] [],os 17 6 69,os 18 7 70,o2 2 8],.ret]) [.cell 6 aa 17,.cell 7 aa 18,.cell 8 aa 2] 72:=aS func9
def ae6:aR prog 13 (sq [rg 2 [oz 2],rg 3 [om 0,nB .geq 1,gA,om 0,nB .leq 10,gZ,o1 2],.ret]) [.tmp 2] 9:=aS func13
def agm:aR prog 21 (sq [rg 4 [ox 2 3 0,ox 3 17 1,oz 2],sq [rg 6 [fo 0 3,oC 13 [7]],ci 8 (sq [rg 9 [ol 17 3,oC 15 [9],nT,o1 5],rg 12 [om 5,nB .gtr 1024,gB,fo 0 2,om 5,oq (.dV .sub (.c (.int .i64 16383)) (.s 17)),nb .gtr 16,gZ],cr 20 4 [oq (.mv (.c (.bool aa)))]])],rg 21 [fo 0 3,oC 61 [22],gA,fo 1 2,nB .geq 64,gZ,nm,oh 29 (of 0 3),oh 29 (no),oh 29 (nB .eql 11),oh 29 (nm),og 33 (of 2 2),og 33 (no),og 33 (nB .geq 16),oh 29 (oy 33 36),oq (.pick (.s 29) (.c (.bool aa)) (.s 37)),o1 4],.ret]) [.tmp 4] 39:=aS func21
def ah6:aR prog 61 (sq [rg 2 [oz 2],rg 3 [om 0,nB .geq 8,gA,om 0,nB .leq 10,gZ,o1 2],.ret]) [.tmp 2] 9:=aS func61
def XO(op:Int)(Z:ab):aT 13 [.int .i64 op] Z (.bool (uk op)):=by
 refine ae6.aP ?_;simp only[aO,am,aX,Nat.reduceAdd]
 by_cases h:1<=op
 .simp only[am,aB h];refine aC ?_;simp[V.erase,uk,h]
 .simp only[am,az h];refine aC ?_;simp[V.erase,uk,h]
def QJ(op:Int)(Z:ab):aT 61 [.int .i64 op] Z (.bool (xn op)):=by
 refine ah6.aP ?_;simp only[aO,am,aX,Nat.reduceAdd]
 by_cases h:8<=op
 .simp only[am,aB h];refine aC ?_;simp[V.erase,xn,h]
 .simp only[am,az h];refine aC ?_;simp[V.erase,xn,h]
def Jx:=af @am <| af @jj <| af @cG <| af @dK <| af @bL <| af @c9 <| af @aK <| af @Rl.ak <| af @bn.ak <| af @aG.ak <| af @bJ.ak <| af @aF.ak <| af @gK <| af @qw @vJ
def al3(r:Rm)(c:aL)(mJ:Z.cQ 0=U il)(hw:16*c.wt+64<=aJ):aT 21 [.agg r.enc,.agg c.enc] Z (.bool (k_ r c)):=by
 have tail:∀B:Bool,(uk c.op&&(decide (1024<((q_ c).length:Int))||decide (IntKind.i64.wrap (16383 - (q_ c).length)<r.bytes)))=aq->B=((xn c.op&&decide (64<=r.uC))||(decide (c.op=11)&&decide (16<=r.lA)))->B=k_ r c:=λB h e=>by
  rw[e,k_,h,ur]
 refine agm.aP ?_;simp only[aO,am,aX,Nat.reduceAdd,Rm.ak,cE,b8];refine cl (XO c.op Z) ?_;cases hs:uk c.op with
 | true =>
  rw[hs,gJ] at tail;simp only[am,cE];refine cl (ab8 c mJ hw) ?_;simp only[am];have yes:(decide (1024<((q_ c).length:Int))||decide (IntKind.i64.wrap (16383 - (q_ c).length)<r.bytes))=aa->k_ r c=true:=λh=>by rw[k_,hs,h];rfl
  cases h1:decide (1024<((q_ c).length:Int)) with
  | true =>
   simp only[am];refine aC ?_;simp[V.erase,yes (by rw[h1];rfl)]
  | false =>
   cases h2:decide (IntKind.i64.wrap (16383 - (q_ c).length)<r.bytes) with
   | true =>
    simp only[am,Rm.ak,h2];refine aC ?_;simp[V.erase,yes (by rw[h1,h2];rfl)]
   | false =>
    have tl:=λB=>tail B (by rw[h1,h2];rfl)
    simp only[am,Rm.ak,b8,h2];refine cl (QJ c.op Z) ?_;simp only[am]
    repeat' (first
     | (refine fR (λh=>?_) (λh=>?_)<;>simp only[am,h,Rm.ak,b8])
     | (refine cO (λh=>?_) (λh=>?_)<;>simp only[Jx,h,Nat.reduceAdd,Nat.reduceEqDiff,aD,Int.reduceNeg,dm,cH,eM,Int.reduceEq,Int.reduceLT,Int.reduceLE,Int.reduceGE,Nat.reduceLT,Int.reduceToNat,Nat.reduceMul,ch,reduceCtorEq,aM.ak,Rm.ak,cE,b8,bM,lU,fA,iL])
     | (refine fT (λh=>?_) (λh=>?_)<;>simp only[Jx,h,Nat.reduceAdd,Nat.reduceEqDiff,aD,Int.reduceNeg,dm,cH,eM,Int.reduceEq,Int.reduceLT,Int.reduceLE,Int.reduceGE,Nat.reduceLT,Int.reduceToNat,Nat.reduceMul,ch,reduceCtorEq,aM.ak,Rm.ak,cE,b8,bM,lU,fA,iL])
    )
    all_goals refine aC ?_
    all_goals simp only[V.erase]
    all_goals refine jR V.bool (tl _ ?_)
    all_goals clear tl tail hw mJ
    all_goals simp[*]
 | false =>
  have tl:=λB=>tail B (by rw[hs];rfl)
  simp only[am,b8];refine cl (QJ c.op Z) ?_;simp only[am]
  repeat' (first
   | (refine fR (λh=>?_) (λh=>?_)<;>simp only[am,h,Rm.ak,b8])
   | (refine cO (λh=>?_) (λh=>?_)<;>simp only[Jx,h,Nat.reduceAdd,Nat.reduceEqDiff,aD,Int.reduceNeg,dm,cH,eM,Int.reduceEq,Int.reduceLT,Int.reduceLE,Int.reduceGE,Nat.reduceLT,Int.reduceToNat,Nat.reduceMul,ch,reduceCtorEq,aM.ak,Rm.ak,cE,b8,bM,lU,fA,iL])
   | (refine fT (λh=>?_) (λh=>?_)<;>simp only[Jx,h,Nat.reduceAdd,Nat.reduceEqDiff,aD,Int.reduceNeg,dm,cH,eM,Int.reduceEq,Int.reduceLT,Int.reduceLE,Int.reduceGE,Nat.reduceLT,Int.reduceToNat,Nat.reduceMul,ch,reduceCtorEq,aM.ak,Rm.ak,cE,b8,bM,lU,fA,iL])
  )
  all_goals refine aC ?_
  all_goals simp only[V.erase]
  all_goals refine jR V.bool (tl _ ?_)
  all_goals clear tl tail hw mJ
  all_goals simp[*]
def Ci:c8 (cP 0 0 (.sl .a9 10 []) .zero (.sl .a9 10 []) 0 (.sl .a9 10 []) 0 0 [])=true:=vT rfl rfl rfl
def QL:aZ (cP 0 0 (.sl .a9 10 []) .zero (.sl .a9 10 []) 0 (.sl .a9 10 []) 0 0 [])=ju.zero.enc:=by rw[Cj];rfl
def QM:bS (cP 0 0 (.sl .a9 10 []) .zero (.sl .a9 10 []) 0 (.sl .a9 10 []) 0 0 [])=true:=Ck rfl rfl rfl
def QK(x:ju):c8 x.enc=true:=vT rfl rfl rfl
def wE(x:aL × ju × aM):V:=.bz [.agg x.1.enc,.agg x.2.1.enc,.agg x.2.2.enc]
structure Y4(c:aL):Prop where
 n:c.al.length<=100000
 p:c.a8.length<=100000
 l:c.left.cJ<=100000
 r:c.right.cJ<=100000
 wl:c.left.wt<=aJ
 wr:c.right.wt<=aJ
 w:16*c.wt+64<=aJ
def N1{t:List UInt8}(ht:t.length<=3000):Y4 (ij t).1:=by
 have hb:=Wz t;generalize (ij t).1=c at hb;have h1:=hb.ns;have h2:=hb.ps;have h3:=hb.l;have h4:=hb.r;have h5:=hb.nm;have h6:=hb.pt;have h7:=(DE c.al).2;have h8:=Cw c.left;have h9:=Cw c.right;have iP:aJ=268435456:=rfl;have HE:c.wt=c.name.ar.length+eK c.al+jY c.a8+c.left.wt+c.right.wt:=rfl;exact⟨by omega,by omega,by omega,by omega,by omega,by omega,by omega⟩
def Na(s:aG)(r:Rm)(t:List UInt8)(hs:s.x9)(hg:TZ Z)(mJ:Z.cQ 0=U il)(ht:t.length<=3000):
 aT 9 [.agg s.enc,.agg r.enc,.aH t] Z (wE (lG s r t)):=by
 have iP:aJ=268435456:=rfl;have cc:=N1 ht;have hm:=NA t;have bZ:=@Nx s r t;have eG:=@Ny s r t;have jC:=@Nz s r t;refine fn9.aP ?_;simp only[aO,am,aX,Nat.reduceAdd,aG.ak,Rm.ak,iL];refine cl (ab6 t mJ (by omega) (by rw[Pe];omega)) ?_;generalize ij t=R at cc bZ eG jC;generalize lG s r t=X at bZ eG jC;obtain⟨c,k,a⟩:=R;simp only at cc bZ eG jC;obtain⟨Y'',hY⟩:∃Y'':ju,Y''=(if jD s c=aa then mZ s c else .zero):=⟨_,rfl⟩;rw[<-hY] at jC;obtain⟨A,hA⟩:∃A:List V,A=Y''.enc:=⟨_,rfl⟩;have a1:A.length=18:=by rw[hA];exact uD
 have a2:takeN 18 A=U A:=by rw[hA];exact Kc
 have a3:c8 A=true:=by rw[hA];exact QK Y''
 have a4:bS A=true:=by rw[hA];exact ju.dL
 have a5:over (cP 0 0 (.sl .a9 10 []) .zero (.sl .a9 10 []) 0 (.sl .a9 10 []) 0 0 []) A=A:=by rw[hA];exact vh (by rw[uD];exact uD.symm)
 have a6:aZ A=Y''.enc:=by rw[hA];exact ju.dy
 have hT:ri s c = .bz [.agg A,.bool (jD s c)]:=by rw[ri,hA,hY]
 have cA:=ad8 s c (Z:=Z) hs.1 hg mJ (by have:=cc.n;omega) (by have:=cc.p;omega) cc.l cc.r cc.wl cc.wr;rw[hT] at cA;have aQ:∀(t:List V) (lo:List (List V)) (f:aM),X=(.zero,.zero,f)->jx (λv σ' => v=wE X/\σ' = Z) ⟨t,lo,Z⟩ (.bz [.agg fZ,.agg (cP 0 0 (.sl .a9 10 []) .zero (.sl .a9 10 []) 0 (.sl .a9 10 []) 0 0 []),.agg f.enc]):=λt lo f h=>by
  refine aN (by simp only[V.cM,bS,QM];rfl) (ab.bc _) ⟨?_,rfl⟩;rw[h,wE];simp only[V.erase,aZ,QL];rfl
 simp only[am,Nat.reduceAdd,cE,ED]
 by_cases hk:k=0
 case neg =>
  simp only[am,Nat.reduceAdd,fA,az hk,Ci];exact aQ _ _ ⟨k,a⟩ (bZ hk)
 simp only[am,aG.ak,cE,aB hk];refine bA.intro (ar1 s c hs hg cc.n cc.p) ?_;simp only[am,aG.ak,cE];refine bA.intro (Sm s c hs.1 hg cc.l cc.r cc.wl cc.wr) ?_;simp only[am,aM.ak,aG.ak,Rm.ak,cE];refine cl (al3 r c mJ cc.w) ?_;have mg:(∃L,jq s r c=L/\k_ r c=aa/\c.op≠12/\L=[lq s c,iN s c]++[⟨7,c.pos⟩])\/(∃L,jq s r c=L/\k_ r c=aq/\c.op=12/\r.lA<=1/\L=[lq s c,iN s c]++[⟨8,c.pos⟩]) \/
  (∃L,jq s r c=L/\k_ r c=aq/\c.op=12/\¬r.lA<=1/\L=[lq s c,iN s c])\/(∃L,jq s r c=L/\k_ r c=aq/\c.op≠12/\L=[lq s c,iN s c]):=by
  cases hl:k_ r c with
  | true =>
   have hp:=UU hl;exact .inl ⟨_,rfl,rfl,hp,by simp[jq,hl,de,hp]⟩
  | false =>
   by_cases uN:c.op=12
   .by_cases hf:r.lA<=1
    .exact .inr (.inl ⟨_,rfl,rfl,uN,hf,by simp[jq,hl,de,uN,hf]⟩)
    .exact .inr (.inr (.inl ⟨_,rfl,rfl,uN,hf,by simp[jq,hl,de,hf]⟩))
   .exact .inr (.inr (.inr ⟨_,rfl,rfl,uN,by simp[jq,hl,de,uN]⟩))
 rcases mg with ⟨L,hL,e1,e2,e3⟩ | ⟨L,hL,e1,e2,e4,e3⟩ | ⟨L,hL,e1,e2,e4,e3⟩ | ⟨L,hL,e1,e2,e3⟩
 case' inl =>
  simp only[am,Nat.reduceAdd,b8,e1];refine Ej (by simp[aJ]) ?_;simp only[am,b8,az e2]
 case' inr.inl =>
  simp only[am,Nat.reduceAdd,Rm.ak,b8,e1,aB e2,aB e4];refine Ej (by simp[aJ]) ?_;simp only[am]
 case' inr.inr.inl =>
  simp only[am,Rm.ak,b8,e1,aB e2,az e4]
 case' inr.inr.inr =>
  simp only[am,b8,e1,az e2]
 all_goals
  rw[hL] at eG jC;refine cl (cF.cY (as' := [.sl .no 2 (L.map aM.enc)]) (zA L _ (by rw[e3];simp)) ⟨by rw[e3];exact dr.no,trivial⟩ br.rfl) ?_;generalize fS L=f at eG jC;simp only[am,aM.ak]
  by_cases hf:f.cls=0
  .simp only[am,aG.ak,cE,aB hf];refine cl cA ?_;simp only[am,Nat.reduceAdd,cE,fA,a1,a2,a3,a5];refine aN (by simp only[V.cM,bS,a4];rfl) (ab.bc _) ⟨?_,rfl⟩;rw[jC hk hf,wE];simp only[V.erase,aZ,a6];rfl
  .simp only[am,Nat.reduceAdd,aM.ak,fA,az hf,Ci];exact aQ _ _ f (eG hk hf)
def fn8:aR prog 8 (sq [rg 0 [oz 2],rg 8 [oW [8,8] [],oG [0,0,0] [(2,1,.c (.int .i64 1))],oc 9 [.s 8,.s 9,.c (.aH [112,111,112])],o1 7,oe 7 0,oe 7 1,oe 7 2,oZ 1 [0,0,1,0,7,9,0,0,0,1,7,10,0,0,1,7,10],oR 2 iL,oZ 3 [0,0],os 17 1 11,os 18 2 12,o2 2 3],rg 15 [oW [8,8] [],oG [0,0,0] [(2,1,.c (.int .i64 1))],oc 9 [.s 15,.s 16,.c (.aH [32,112,117,115,104])],o1 14,oe 14 0,oe 14 1,oe 14 2,oZ 4 [0,0,1,0,7,9,0,0,0,1,7,10,0,0,1,7,10],oR 5 iL,oZ 6 [0,0],os 17 4 18,os 18 5 19,o2 2 6],rg 21 [ol 2 3,oG [0,0] [(0,1,.c (.int .i64 8))],oq (.kn aq [1,1] (.s 21) (.s 22)),gA,ol 2 6,oW [0,0] [],oq (.kn aq [1,1] (.s 25) (.s 26)),gZ,gA,fo 0 4,nB .eql 11,gZ,gA,fo 1 4,nB .eql 1,gZ,o1 0],.ret]) [.tmp 0] 39:=aS func8
structure YK(A:List V):Prop where
 len:A.length=18
 tk:takeN 18 A=U A
 one:c8 A=aa
 cM:bS A=aa
 ov:over (cP 0 0 (.sl .a9 10 []) .zero (.sl .a9 10 []) 0 (.sl .a9 10 []) 0 0 []) A=A
def GS(x:ju):YK x.enc:=⟨uD,Kc,QK x,ju.dL,vh (by rw[uD];exact uD.symm)⟩
def aey{f:aM}{x y:Int}:gd [1,1] f.enc [.int .i64 x,.int .i64 y]=U (decide (f=⟨x,y⟩)):=aM.qX (g:=⟨x,y⟩)
def s6:aG:=⟨[],[]⟩
def zP:Rm:=⟨0,0,1⟩
def adY:(lG s6 zP [112,111,112]).2.2=⟨8,0⟩:=by decide +kernel
def adZ:(lG s6 zP [32,112,117,115,104]).2.2=⟨0,0⟩/\(lG s6 zP [32,112,117,115,104]).1.op=11/\(lG s6 zP [32,112,117,115,104]).1.pos=1:=by decide +kernel
def Zd(hg:TZ Z)(mJ:Z.cQ 0=U il):aT 8 [] Z (.bool aa):=by
 have h0:s6.x9:=⟨⟨by simp[s6],by simp[s6],by simp[s6]⟩,by simp[s6]⟩;have c1:=Na s6 zP [112,111,112] h0 hg mJ (by simp);have c2:=Na s6 zP [32,112,117,115,104] h0 hg mJ (by simp);have e1:=adY;have e2:=adZ;generalize lG s6 zP [112,111,112]=X at c1 e1;generalize lG s6 zP [32,112,117,115,104]=Z'' at c2 e2;obtain⟨c,x,f⟩:=X;obtain⟨d,z,g⟩:=Z'';simp only[wE] at c1 c2 e1 e2;obtain⟨e2,e3,e4⟩:=e2;subst e1;subst e2;obtain⟨a1,a2,a3,a4,a5⟩:=GS x;obtain⟨b1,b2,b3,b4,b5⟩:=GS z;generalize x.enc=A at c1 a1 a2 a3 a4 a5;generalize z.enc=B at c2 b1 b2 b3 b4 b5;refine fn8.aP ?_;simp only[aO,am,aX,Nat.reduceAdd,iL];refine cl (cF.cY c1 ⟨dr.erase (v:=.agg [.sl .a9 3 [],.sl .a9 3 []]),dr.rfl,dr.rfl,trivial⟩ br.rfl) ?_;simp only[am,Nat.reduceAdd,aM.ak,cE,fA,a1,a3,a5];refine cl (cF.cY c2 ⟨dr.erase (v:=.agg [.sl .a9 3 [],.sl .a9 3 []]),dr.rfl,dr.rfl,trivial⟩ br.rfl) ?_;simp only[am,Nat.reduceAdd,bL,aM.ak,cE,b8,fA,b1,b3,b5,aey,e3,e4];exact rt
def aad{s:aG}(h:Au s=aq):s.x9:=by
 refine⟨aac h,λl hl=>?_⟩;simp only[Au,yQ,w9,D8,uH,JC] at h
 have:=((h.1.2 l hl).1).1
 omega
end Go.Proofs.Tryz
namespace Go.Am
open Go.ChangeShapes Go.WideShapes Go.ChangeAt Go.RowKit
structure qt{H:Type}(B:DataW H->Nat)(BA:List (DataW H)->Nat):Prop where
 aH:∀b,B (.lit (.string b))=b.length+1
 int:∀k n,B (.lit (.int k n))=1
 bool:∀b,B (.lit (.bool b))=1
 nil:B .nil=1
 slice:∀e s,B (.slice e s)=BA e+BA s+1
 agg:∀p,B (.agg p)=BA p+1
 no:BA []=0
 cons:∀d r,BA (d::r)=B d+BA r
def su(W:World):Env:=⟨W,λ_=>.const,λ_=>ah,λ_=>ah⟩
section
variable {H:Type} {enc:TypeId × Value->H} {P:Program} {W:World} {sp:Nat->Bool} {B:DataW H->Nat} {BA:List (DataW H)->Nat}
variable{cs:List Value}{n:Nat}{t:TypeId}
def aqG{k:IntKind}{x:DataW H × List MemPlace}(ht:P.underlying t=U (.int k))(hB:qt B BA)(h:DataW.trod enc P W 0 sp aa n t cs=U x):
 ∃i:Int,RL (su W) [.int k i] cs/\(∀v∈cs,v.oneCell' = aa)/\B x.1=1/\(Lit.int k i).wf=true:=by
 obtain⟨i,rfl,rfl,hw⟩:=DataW.trod_int ht h;exact⟨i,by simp[RL,R],by simp[Value.oneCell'],hB.int _ _,hw⟩
def aqF{x:DataW H × List MemPlace}(ht:P.underlying t=U .bool)(hB:qt B BA)(h:DataW.trod enc P W 0 sp aa n t cs=U x):
 ∃i:Bool,RL (su W) [.bool i] cs/\(∀v∈cs,v.oneCell' = aa)/\B x.1=1:=by
 obtain⟨i,rfl,rfl⟩:=DataW.trod_bool ht h;exact⟨i,by simp[RL,R],by simp[Value.oneCell'],hB.bool _⟩
def aqI{x:DataW H × List MemPlace}(ht:P.underlying t=U .string)(hB:qt B BA)(h:DataW.trod enc P W 0 sp aa n t cs=U x):
 ∃s:List UInt8,RL (su W) [.aH s] cs/\(∀v∈cs,v.oneCell' = aa)/\s.length+1=B x.1:=by
 obtain⟨s,rfl,rfl,_⟩:=DataW.trod_string ht h;exact⟨s.data.toList,by simp[RL,R],by simp[Value.oneCell'],(hB.aH _).symm⟩
def Ww{Y:Type}(ea:Y->List V)(sz:Y->Nat){e:TypeId}{k n:Nat}(hB:qt B BA)(hk:P.cellsOf e=k)(hlen:∀y,(ea y).length=k)
 (l8:∀cs x,DataW.trod enc P W 0 sp aa n e cs=U x->∃y:Y,RL (su W) (ea y) cs/\(∀v∈cs,v.oneCell' = aa)/\sz y<=B x.1) {b o:Nat} :
 ∀(v5:List (DataW H × List MemPlace)) (i:Nat),(∀j,j<v5.length->(W.cells? 0 (Addr.add ⟨b,o,ah⟩ ((i+j)*k)) k).bind (DataW.trod enc P W 0 sp aa n e)=v5[j]?) ->
  ∃l:List Y,l.length=v5.length/\gm (su W).nl k (l.map ea) b (o+i*k)/\(l.map sz).sum<=BA (v5.map (·.1))
 | [],i,_=>⟨[],rfl,by simp[gm],by simp⟩
 | x :: v5, i, h => by
  obtain⟨l,h1,h2,h3⟩:=Ww ea sz hB hk hlen l8 v5 (i+1) λj hj=>by
   have:=h (j+1) (by simp;omega)
   rw[show i+(j+1)=i+1+j by omega] at this;simpa using this
  have h0:=h 0 (by simp);simp only[vJ,Gx] at h0;obtain⟨cs,hc,hr⟩:=iK.1 h0;obtain⟨y,k1,k2,k3⟩:=l8 cs x hr;obtain⟨_,hl,wg⟩:=World.cells?_some hc;refine⟨y::l,by simp[h1],?_,?_⟩
  .simp only[dz,gm];refine⟨hlen y,Ce k1 k2 (λj v hv=>?_) (λ_ _=>trivial),by rw[show o+i*k+k=o+(i+1)*k by rw[jh];omega];exact h2⟩;have hj:j<k:=by have:=(fw.1 hv).1;omega
   have:=wg j hj
   rw[lS,lS] at this;show W.cell? _=_;rw[this,hv]
  .simp only[dz,rh,hB.cons];omega
variable{e:TypeId}{fuel k:Nat}{Y:Type}
def aqH(ea:Y->List V)(sz:Y->Nat)(hB:qt B BA)(ht:P.underlying t=U (.slice e))(hk:P.cellsOf e=k)(gg:0<k)(hlen:∀y,(ea y).length=k)
 (l8:∀n,n<fuel->∀cs x,DataW.trod enc P W 0 sp aa n e cs=U x->∃y:Y,RL (su W) (ea y) cs/\(∀v∈cs,v.oneCell' = aa)/\sz y<=B x.1)
 {cs:List Value} {x:DataW H × List MemPlace} (h:DataW.trod enc P W 0 sp aa fuel t cs=U x) :
 ∃l:List Y,RL (su W) [.sl .no k (l.map ea)] cs/\(∀v∈cs,v.oneCell' = aa)/\(l.map sz).sum+1<=B x.1:=by
 rcases DataW.trod_slice ht h with ⟨rfl,rfl⟩ | ⟨a,len,cap,elems,rest,n,rfl,rfl,rfl,_,hle,_,hl,TB,_,_⟩
 .refine⟨[],?_,by simp[Value.oneCell'],by simp[hB.nil]⟩;simp only[RL,R,eQ,gM];exact⟨ah,0,rfl,by simp,by simp,trivial⟩
 .have ha:elems=[]\/∃b o,a=⟨b,o,ah⟩:=by
   cases elems with
   | nil=>exact .inl rfl
   | cons y ys =>
    right;have h0:=TB 0 (by rw[<-hl];simp);simp only[Gx] at h0;obtain⟨cs',hc,_⟩:=iK.1 h0;obtain⟨_,im,wg⟩:=World.cells?_some hc;have h1:=wg 0 (by rw[hk];exact gg);have h2:cs'[0]?=U (cs'[0]'(by rw[im,hk];exact gg)):=bN _;rw[h2] at h1;obtain⟨b,o,s⟩:=a;refine⟨b,o,?_⟩;simp only[World.cell?] at h1;cases s with
    | none=>rfl
    | some s =>
     split at h1
     .simp[Addr.add] at h1
     .simp at h1
  rcases ha with rfl | ⟨b,o,rfl⟩
  .refine⟨[],?_,by simp[Value.oneCell'],by simp[hB.slice]⟩;simp only[cZ] at hl;subst hl;simp only[RL,R,eQ,gM];exact⟨U a,cap,rfl,by simp,by simp,trivial⟩
  .obtain⟨l,h1,h2,h3⟩:=Ww (B:=B) (BA:=BA) (sp:=sp) (enc:=enc) (P:=P) (W:=W) (n:=n) ea sz hB hk hlen (l8 n (JX n)) elems 0 (λj hj=>by
    have:=TB j (by omega)
    rw[hk] at this;rw[j7];exact this)
   refine⟨l,?_,by simp[Value.oneCell'],?_⟩
   .simp only[RL,R,aD,gM];exact⟨U ⟨b,o,ah⟩,cap,by rw[h1,hl],by omega,.inr ⟨b,o,rfl,by simpa using h2⟩,trivial⟩
   .rw[hB.slice];omega
end
variable{H:Type}{P:Program}{W:World}{args:Array Value}{before:List MemPlace}{f:Func}{s:ChangeSpec}{tb:TypeId}
def apy{enc:TypeId × Value->H}{ds:List (DataW H)}
 (hl:laidOutB P=aa) (hm:mapsRowed P=aa) (hz:((bG P.types.size).all λt=>match P.underlying t with | some (.slice e)=>decide (0<P.cellsOf e) | _=>aa)=aa)
 (bI:f.resultTypes=#[tb]) (C':P.underlying tb=U .bool) (E9:∀t∈f.params.toList,t<P.types.size) (Dc:s.vars=[]) (xG:(s.fn H ds).results=[.lit (.bool aa)]/\(s.fn H ds).args=ds/\(s.fn H ds).vars=[])
 (hW:DataW.Whole enc P f.params.toList s.vars aq W args.toList ds [] before) {W' : World} (hos:W'.os=W.os) (akm:W'.output=W.output) (ajZ:∀a,W'.frozen? a=W.frozen? a) (jB:∀b,b<W.heap.size->W'.heap[b]?=W.heap[b]?) :
 s.post enc P f aq aa aq aq W args (.bool aa) W' := by
 have EL := hW;obtain⟨p,q,hA,hV,rfl,LV,xN⟩:=hW;rw[Dc] at hV;obtain⟨_,rfl⟩:=trodVars_none hV;have aj':W.keptBut W' (λ_=>False):=by
  refine⟨hos,akm,λi hi=>?_⟩;rw[jB i hi];cases W.heap[i]? with
  | none=>rfl
  | some ob=>cases ob<;>simp
 simp only[eM] at EL;have lB:s.fn H (ds++[])=s.fn H ds:=by rw[eM]
 refine post_of_same (pa:=p) (pv:=[]) EL (λb I7 hd=>?_) (λI7 hs=>?_) (λI7 hs=>?_) (by simp) (World.keptBut_mono (λ_ h=>h.elim) aj') ?_ (ok_one bI rfl (okWide_bool_mk C' _))
 .rw[lB,xG.1,bI];exact trodAll_cons_mk (shut_bool C' _) trodAll_mk0
 .rw[lB,xG.2.1];have an:=DataW.TrodAll.lt hA;have key:∀(ts:List TypeId) (vs:List Value) (ds:List (DataW H)) (ps:List MemPlace),(∀t∈ts,t<P.types.size)->DataW.TrodAll enc P W 0 (λ_=>aa) aa ts vs ds ps->(∀x∈ps,x.block<W.heap.size)->(∀x∈ps,I7 x.block=aa)->DataW.TrodAll enc P W' 0 I7 aa ts vs ds ps:=by
   intro ts;induction ts with
   | nil=>intro vs ds ps _ h _ _;cases vs<;>cases ds<;>first | exact h | exact h.elim
   | cons t ts ih =>
    intro vs ds ps hT h an hs;cases vs with
    | nil=>exact h.elim
    | cons v vs =>
     cases ds with
     | nil=>exact h.elim
     | cons d ds =>
      obtain⟨p,q,⟨n,h1⟩,h2,rfl⟩:=h;refine⟨p,q,⟨n,?_⟩,ih vs ds q (λt ht=>hT t (by simp[ht])) h2 (λx hx=>an x (by simp[hx])) (λx hx=>hs x (by simp[hx])),rfl⟩;refine DataW.trod_stays (kids_rows hl hm) (λ{t e} ht he=>slices_full_of P hz t e ht he) (by simp) (hT t (by simp)) h1 (λx hx=>?_) (λx hx=>hs x (by simp[hx]));have hb:=an x (by simp[hx]);cases x with
      | cell b off=>exact Cq (jB b hb)
      | map b=>exact jB b hb
  exact key _ _ _ _ E9 hA (λx hx=>an x hx) (λx hx=>hs x (by simpa using hx))
 .rw[lB,xG.2.2,Dc];rfl
 .exact ajZ
def apx{enc:TypeId × Value->H}{ds:List (DataW H)}
 (hl:laidOutB P=aa) (hm:mapsRowed P=aa) (hz:((bG P.types.size).all λt=>match P.underlying t with | some (.slice e)=>decide (0<P.cellsOf e) | _=>aa)=aa)
 (bI:f.resultTypes=#[tb]) (C':P.underlying tb=U .bool) (E9:∀t∈f.params.toList,t<P.types.size) (Dc:s.vars=[]) (xG:(s.fn H ds).results=[.lit (.bool aa)]/\(s.fn H ds).args=ds/\(s.fn H ds).vars=[])
 (hW:DataW.Whole enc P f.params.toList s.vars aq W args.toList ds [] before) {E' : Env} (bw:Fr (su W) E') :
 s.post enc P f aq aa aq aq W args (.bool aa) E'.w :=
 apy hl hm hz bI C' E9 Dc xG hW bw.os bw.output bw.hH λb hb=>(bw.same b hb (.inl rfl)).1
section
variable {P:Program} {W:World} {r:Reach} {b:Nat} {t:TypeId} {v:Value} {E:Env}
def atk{x:V}(ht:P.underlying t=U .string)(hv:Value.okWide P W r b t v)(h:RL E [x] v.cells.toList):R E x v:=by
 obtain⟨a,rfl⟩:=okWide_string ht hv;simpa [Value.cells,RL] using h
def X5{fs:Array Field}{xs:List V}(ht:P.underlying t=U (.struct fs))(hv:Value.okWide P W r b t v)(h:RL E xs v.cells.toList):R E (.agg xs) v:=by
 obtain⟨cs,rfl,_⟩:=okWide_struct ht hv;simp only[R];exact⟨cs,rfl,by simpa [Value.cells] using h⟩
end
def rY(s:List UInt8):Value:=.string ⟨s.toArray⟩
section
variable {H:Type} {enc:TypeId × Value->H} {P:Program} {W:World}
def VO(ps:List (List UInt8 × List UInt8)):DataW H:=.agg (ps.map λp=>.agg [.lit (.string p.1),.lit (.string p.2)])
variable{Y:Type}
def UW{l:List Y}(h:l.length=2):∃a b,l=[a,b]:=by
 match l,h with
 | [a,b],_=>exact⟨a,b,rfl⟩
def X3{s:ByteArray}{l:List UInt8}(h:s.data.toList=l):Value.string s=rY l:=by subst h;simp[rY]
def chunks{Y:Type}{k:Nat}(f:Nat->List Y):∀(n:Nat) (cs:List Y),cs.length=n*k->(∀i,i<n->(cs.drop (i*k)).take k=f i)->cs=((bG n).map f).flatten
 | 0,cs,hl,_=>by simp at hl;simp[hl]
 | n + 1, cs, hl, h => by
  rw[GG] at hl;have h1:=chunks (k:=k) f n (cs.take (n*k)) (by rw[iu];omega) λi hi=>by
   have:i*k+k<=n*k:=by rw[<-GG];exact sd _ hi
   rw[JM,List.take_take,xc (by omega)];exact h i (by omega)
  have h2:=h n (by omega);rw[An (by rw[Qd];omega)] at h2;rw[ga,jf,vD,<-h1];simp only[dz,eQ,mX,P',eM];rw[<-h2,pA]
variable{cs:List Value}{e:TypeId}{fuel:Nat}{sp:Nat->Bool}
def abe{base:Nat}{held:Bool}{tf:TypeId}{fs:Array Field}{x:DataW H × List MemPlace}{a b:List UInt8}
 (he:P.underlying e=U (.struct fs)) (hs:fs.size=2) (LP:(fs[0]?).map (λf=>(f.type,f.offset))=U (tf,0)) (rA:(fs[1]?).map (λf=>(f.type,f.offset))=U (tf,1))
 (H0:P.underlying tf=U .string) (CU:P.cellsOf tf=1) (uS:P.cellsOf e=2)
 (h:DataW.trod enc P W base sp held fuel e cs=U x) (hx:x.1 = .agg [.lit (.string a),.lit (.string b)]):cs=[rY a,rY b]:=by
 obtain⟨xs,m,rfl,rfl,hl,xT,hf⟩:=DataW.trod_struct he h;rw[uS] at hl;rw[hs] at xT;obtain⟨u,v,rfl⟩:=UW hl;obtain⟨x0,x1,rfl⟩:=UW xT;obtain⟨f0,g0,g1⟩:=dB.1 LP;obtain⟨f1,g2,g3⟩:=dB.1 rA;simp only[pB] at g1 g3;have h0:=hf 0 f0 g0;have h1:=hf 1 f1 g2;rw[g1.1,g1.2,CU] at h0;rw[g3.1,g3.2,CU] at h1;obtain⟨s0,p0,q0,_⟩:=DataW.trod_string H0 h0;obtain⟨s1,p1,q1,_⟩:=DataW.trod_string H0 h1;simp only[JN,D9,vI,Ql,iJ,gM] at p0 p1;subst p0 p1 q0 q1;simp only[dz,eQ,DataW.agg.injEq,iJ,DataW.lit.injEq,Lit.string.injEq,gM] at hx;rw[X3 hx.1,X3 hx.2]
variable{n:Nat}{t:TypeId}
def abf{base:Nat}{held:Bool}{tf:TypeId}{fs:Array Field}{ps:List (List UInt8 × List UInt8)}{p:List MemPlace}
 (ht:P.underlying t=U (.array n e)) (he:P.underlying e=U (.struct fs)) (hs:fs.size=2) (LP:(fs[0]?).map (λf=>(f.type,f.offset))=U (tf,0)) (rA:(fs[1]?).map (λf=>(f.type,f.offset))=U (tf,1))
 (H0:P.underlying tf=U .string) (ajS:P.cellsOf tf=1) (uS:P.cellsOf e=2) (CU:P.cellsOf t=n*2)
 (h:DataW.trod enc P W base sp held fuel t cs=U (VO ps,p)):cs=(ps.flatMap λp=>[p.1,p.2]).map rY:=by
 obtain⟨xs,m,rfl,hx,hl,xT,hi⟩:=DataW.trod_array ht h;rw[CU] at hl;have qM:xs.map (·.1)=ps.map λp=>(.agg [.lit (.string p.1),.lit (.string p.2)]:DataW H):=by
  have:=jR Prod.fst hx
  simpa [VO] using this.symm
 have me:ps.length=n:=by
  have:=jR List.length qM
  simp at this;omega
 have hc:=chunks (λi=>match ps[i]? with | some p=>[rY p.1,rY p.2] | none=>[]) n cs hl (λi eP=>by
  have h1:=hi i eP;rw[uS] at h1;have T_:xs[i]?=U xs[i]:=by simp[xT,eP]
  have C8:ps[i]?=U ps[i]:=by simp[me,eP]
  rw[T_] at h1;have h2:=jR (·[i]?) qM;simp only[vF,T_,C8,uz,bg] at h2;rw[C8];exact abe he hs LP rA H0 ajS uS h1 h2)
 rw[hc,<-me];clear hc hi xT hl hx qM h me;have key:∀qs:List (List UInt8 × List UInt8),((bG qs.length).map λi=>match qs[i]? with | some p=>[rY p.1,rY p.2] | none=>[])=qs.map λp=>[rY p.1,rY p.2]:=λqs=>by
  apply P9;intro i
  by_cases hi:i<qs.length
  .simp[hi]
  .simp[hi]
 rw[key,List.map_flatMap,List.flatMap_def];rfl
end
def Bt:V->Value
 | .aH s=>rY s
 | .int k n=>.int k n
 | _=>.bool aq
def isLit:V->Bool
 | .aH _=>aa
 | .int _ _=>aa
 | _=>aq
def amd{E:Env}{x:V}(h:isLit x=aa)(v:Value):R E x v↔v=Bt x:=by
 cases x<;>simp[isLit] at h<;>simp[R,Bt,rY]
def FJ(B:Nat->Option (List V)):ab:=⟨λ_=>ah,λ_=>ah,B⟩
def JV(W:World)(B:Nat->Option (List V)):Prop:=∀b cs,B b=U cs->(∃e,W.heap[b]?=U (.cells (cs.map Bt).toArray e (0,0)))/\∀x∈cs,isLit x=aa
def UZ{E:Env}:∀{cs:List V},(∀x∈cs,isLit x=aa)->RL E cs (cs.map Bt)
 | [],_=>by simp[RL]
 | x :: cs, h => by
  simp only[dz,RL];exact⟨(amd (h x (by simp)) _).2 rfl,UZ λy hy=>h y (by simp[hy])⟩
variable{B:Nat->Option (List V)}
def amN(h:JV W B):(su W).ok (FJ B):=by
 refine⟨λ_ _ h=>by simp[FJ] at h,λ_ _ h=>by simp[FJ] at h,λ_ _=>rfl,⟨0,λ_ _=>rfl⟩,λb cs hb=>?_⟩;obtain⟨⟨e,he⟩,hl⟩:=h b cs hb;refine Ce (vs:=cs.map Bt) (UZ hl) (λv hv=>?_) (λj v hj=>?_) λ_ _=>trivial
 .obtain⟨x,hx,rfl⟩:=qv.1 hv
  have:=hl x hx
  cases x<;>simp[isLit] at this<;>rfl
 .show W.cell? _=_;simp only[World.cell?,he,j7];simpa using hj
def alz{enc:TypeId × Value->H}{n:FuncId}{vs:List V}{ds:List (DataW H)}
 (hP:cF P n vs (FJ B) λv σ' => v = .bool aa/\σ' = FJ B) (hg:JV W B) (hR:RL (su W) vs args.toList)
 (hl:laidOutB P=aa) (hm:mapsRowed P=aa) (hz:((bG P.types.size).all λt=>match P.underlying t with | some (.slice e)=>decide (0<P.cellsOf e) | _=>aa)=aa)
 (bI:f.resultTypes=#[tb]) (C':P.underlying tb=U .bool) (E9:∀t∈f.params.toList,t<P.types.size) (Dc:s.vars=[]) (xG:(s.fn H ds).results=[.lit (.bool aa)]/\(s.fn H ds).args=ds/\(s.fn H ds).vars=[])
 (hW:DataW.Whole enc P f.params.toList s.vars aq W args.toList ds [] before) :
 Calls P n args W λe W' => ∃v,e = .returned v/\s.post enc P f aq aa aq aq W args v W' := by
 refine(hP.2 (su W) args (λ_=>rfl) (amN hg) hR).mono ?_;rintro e w' ⟨v,x,E',σ',rfl,rfl,_,_,Tm,bw,rfl,_⟩;simp only[R] at Tm;subst Tm;exact⟨_,rfl,apx hl hm hz bI C' E9 Dc xG hW bw⟩
section
variable {H:Type} {enc:TypeId × Value->H} {P:Program} {W:World}
variable{t:TypeId}
def UA{name:String}{d:DataW Unit}{rest:List (String × DataW Unit)}{g:Nat}(h:laidMet P ((name,d)::rest) W)(hg:P.globalNamed name=U g)(ht:(P.globals[g]?).map (·.type)=U t){vs:List Value}
 (hc:∀(cs:List Value) (fuel:Nat) (p:List MemPlace),DataW.trod (λ_=>()) P W 0 (λ_=>aa) aq fuel t cs=U (d,p)->cs=vs) (hv:vs≠[]):∃e,W.heap[g]?=U (.cells vs.toArray e (0,0)):=by
 obtain⟨ps,⟨g',t',cs,fuel,p,q,tI,C_,ia,hd,_,E_⟩,_,hb⟩:=h;obtain rfl:g' = g:=vM (tI.symm.trans hg);obtain rfl:t' = t:=vM (C_.symm.trans ht);have b9:=hc _ _ _ hd;have zb : cs=vs.toArray:=by rw[<-b9]
 obtain⟨⟨c,e,uS⟩,_⟩:=hb g' 0 (by
  rw[E_];refine List.mem_append_left _ (List.mem_append_left _ ?_);rw[zb];cases vs with
  | nil=>exact absurd rfl hv
  | cons a l=>simp[MemPlace.row])
 refine⟨e,?_⟩;rw[uS];simp only[World.var?,hg,xe,uS,bg] at ia;rw[ia,zb]
end
section
variable {E:Env}
def Qs:∀{l m:List V} {cs ds:List Value},RL E l cs->RL E m ds->RL E (l++m) (cs++ds)
 | [],_,[],_,_,h=>h
 | [],_,_::_,_,h,_=>by simp[RL] at h
 | _::_,_,[],_,h,_=>by simp[RL] at h
 | x :: l, m, c :: cs, ds, h, h2 => by
  simp only[RL,jN] at h ⊢;exact⟨h.1,Qs h.2 h2⟩
def Ph:Value->bu
 | .int .u64 z=>BitVec.ofInt 64 z
 | _=>0#64
def Qu:∀(cs:List Value),(∀v∈cs,∃z:Int,v = .int .u64 z/\0<=z/\z<18446744073709551616)->RL E (gq (cs.map Ph)) cs
 | [],_=>by simp[gq,RL]
 | v :: cs, h => by
  obtain⟨z,rfl,h0,h1⟩:=h v (by simp);have ih:=Qu cs λv hv=>h v (by simp[hv])
  simp only[gq,dz,RL] at ih ⊢;refine⟨?_,ih⟩;simp only[R,Ph,Value.int.injEq,mA];rw[BitVec.toNat_ofInt];omega
end
section
variable {H:Type} (enc:TypeId × Value->H) (P:Program) (W:World) (B:DataW H->Nat)
def lR(N:Nat)(t:TypeId)(F:List V->Nat->Prop):Prop :=
 ∀n,n<N->∀cs x,DataW.trod enc P W 0 (λ_=>aa) aa n t cs=U x->∃l,RL (su W) l cs/\(∀v∈cs,v.oneCell' = aa)/\F l (B x.1)
def yC(N:Nat):List Field->Nat->(List V->Nat->Prop)->Prop
 | [],_,F=>F [] 0
 | f::r,o,F=>f.offset=o/\∃G,lR enc P W B N f.type G/\∀l b,G l b->yC N r (o+P.cellsOf f.type) λl' b' => F (l++l') (b+b')
end
section
variable {H:Type} {enc:TypeId × Value->H} {P:Program} {W:World} {B:DataW H->Nat} {BA:List (DataW H)->Nat} {N:Nat} {t:TypeId}
variable{F:List V->Nat->Prop}
def lR.mono{M:Nat}(h:lR enc P W B N t F)(hM:M<=N):lR enc P W B M t F:=λn hn=>h n (uw hn hM)
variable{G:List V->Nat->Prop}
def lR.to(h:lR enc P W B N t F)(hg:∀l b,F l b->G l b):lR enc P W B N t G:=λn hn cs x hx =>
 let ⟨l,h1,h2,h3⟩:=h n hn cs x hx
 ⟨l,h1,h2,hg _ _ h3⟩
def as1{k:IntKind}(ht:P.underlying t=U (.int k))(hB:qt B BA):lR enc P W B N t λl b=>∃i:Int,l=[.int k i]/\b=1/\(Lit.int k i).wf=true:=λn _ cs x h =>
 let ⟨i,h1,h2,h3,h4⟩:=aqG ht hB h
 ⟨_,h1,h2,i,rfl,h3,h4⟩
def as0(ht:P.underlying t=U .bool)(hB:qt B BA):lR enc P W B N t λl b=>∃i:Bool,l=[.bool i]/\b=1:=λn _ cs x h =>
 let ⟨i,h1,h2,h3⟩:=aqF ht hB h
 ⟨_,h1,h2,i,rfl,h3⟩
def as3(ht:P.underlying t=U .string)(hB:qt B BA):lR enc P W B N t λl b=>∃s:List UInt8,l=[.aH s]/\b=s.length+1:=λn _ cs x h =>
 let ⟨s,h1,h2,h3⟩:=aqI ht hB h
 ⟨_,h1,h2,s,rfl,h3.symm⟩
variable{e:TypeId}{n:Nat}
def as6(ht:P.underlying t=U (.array n e))(he:P.underlying e=U (.int .u64))(uS:P.cellsOf e=1)(CU:P.cellsOf t=n):lR enc P W B N t λl _=>∃w:List bu,w.length=n/\l=gq w:=by
 intro q _ cs x h;obtain⟨xs,m,rfl,rfl,hl,hx,hf⟩:=DataW.trod_array ht h;rw[CU] at hl;have all:∀v∈cs,∃z:Int,v = .int .u64 z/\0<=z/\z<18446744073709551616:=by
  intro v hv;obtain⟨i,hi,rfl⟩:=GB.1 hv;have h1:=hf i (by omega);rw[uS,qw,bN (show i<xs.length by omega),kM hi,vI,Ql] at h1;obtain⟨z,e1,_,hw⟩:=DataW.trod_int he h1;simp[Lit.wf,IntKind.min,IntKind.max,IntKind.signed,IntKind.bits] at hw;exact⟨z,by simpa using e1,by omega,by omega⟩
 refine⟨_,Qu cs all,λv hv=>?_,cs.map Ph,by simp[hl],rfl⟩;obtain⟨z,rfl,_⟩:=all v hv;rfl
variable{k:Nat}{Y:Type}
def as2(ea:Y->List V)(sz:Y->Nat)(hB:qt B BA)(ht:P.underlying t=U (.slice e))(hk:P.cellsOf e=k)(gg:0<k)(hlen:∀y,(ea y).length=k)
 (l8:lR enc P W B N e λl b=>∃y,l=ea y/\sz y<=b):lR enc P W B (N+1) t λl b=>∃ys:List Y,l=[.sl .no k (ys.map ea)]/\(ys.map sz).sum+1<=b:=by
 intro n hn cs x h;obtain⟨ys,h1,h2,h3⟩:=aqH ea sz hB ht hk gg hlen (λm hm cs x h=>by
  obtain⟨l,k1,k2,y,rfl,k3⟩:=l8 m (by omega) cs x h;exact⟨y,k1,k2,k3⟩) h
 exact⟨_,h1,h2,ys,rfl,h3⟩
def Ss(hB:qt B BA){m:Nat}(hm:m<N){cs:List Value}:∀(fs:List Field) (o:Nat) (F:List V->Nat->Prop) (xs:List (DataW H × List MemPlace)),yC enc P W B N fs o F->xs.length=fs.length ->
 (∀(i:Nat) (f:Field),fs[i]?=U f->DataW.trod enc P W 0 (λ_=>aa) aa m f.type ((cs.drop f.offset).take (P.cellsOf f.type))=xs[i]?)->cs.length=o+(fs.map λf=>P.cellsOf f.type).sum ->
 ∃l,RL (su W) l (cs.drop o)/\(∀v∈cs.drop o,v.oneCell' = aa)/\F l (BA (xs.map (·.1)))
 | [], o, F, xs, h, hx, _, hl => by
  obtain rfl:=sb (by simpa using hx);simp only[eQ,uv,vJ] at hl;refine⟨[],?_,?_,?_⟩
  .rw[Gu (by omega)];simp[RL]
  .rw[Gu (by omega)];simp
  .rw[eQ,hB.no];exact h
 | f :: fs, o, F, xs, h, hx, hf, hl => by
  obtain⟨h1,G,h2,h3⟩:=h;cases xs with
  | nil=>simp at hx
  | cons x xs =>
   have h0:=hf 0 f rfl;rw[Gx,h1] at h0;obtain⟨l,k1,k2,k3⟩:=h2 m hm _ x h0;simp only[dz,rh] at hl;obtain⟨l',g1,g2,g3⟩:=Ss hB hm fs (o+P.cellsOf f.type) _ xs (h3 l _ k3) (by simpa using hx) (λi f' hi=>by simpa using hf (i+1) f' (by simpa using hi)) (by omega);have e:(cs.drop o).take (P.cellsOf f.type)++cs.drop (o+P.cellsOf f.type)=cs.drop o:=by rw[<-w_,pA]
   refine⟨l++l',?_,λv hv=>?_,?_⟩
   .rw[<-e];exact Qs k1 g1
   .rw[<-e] at hv
    rcases jv.1 hv with hv | hv
    .exact k2 v hv
    .exact g2 v hv
   .rw[dz,hB.cons];exact g3
def as4(hB:qt B BA){fs:Array Field}(ht:P.underlying t=U (.struct fs))(h:yC enc P W B N fs.toList 0 F)(hc:P.cellsOf t=(fs.toList.map λf=>P.cellsOf f.type).sum):
 lR enc P W B (N+1) t λl b=>∃b',F l b' /\ b=b' + 1:=by
 intro n hn cs x hx;obtain⟨xs,m,rfl,rfl,hl,hlen,hf⟩:=DataW.trod_struct ht hx;obtain⟨l,h1,h2,h3⟩:=Ss hB (show m<N by omega) (cs:=cs) fs.toList 0 F xs h (by simpa using hlen) (λi f hi=>hf i f (by simpa using hi)) (by omega);exact⟨l,h1,h2,_,h3,hB.agg _⟩
def AN{o:Nat}(h:F [] 0):yC enc P W B N [] o F:=h
def nX{f:Field}{r:List Field}{o:Nat}(h1:f.offset=o)(h2:lR enc P W B N f.type G)(h3:∀l b,G l b->yC enc P W B N r (o+P.cellsOf f.type) λl' b' => F (l++l') (b+b')):yC enc P W B N (f::r) o F:=⟨h1,G,h2,h3⟩
def as5(hB:qt B BA){fs:List Field}(ht:P.underlying t=U (.struct fs.toArray))(hc:P.cellsOf t=(fs.map λf=>P.cellsOf f.type).sum)(h:yC enc P W B N fs 0 λl b=>F l (b+1)):lR enc P W B (N+1) t F :=
 (as4 hB ht (F:=λl b=>F l (b+1)) (by simpa using h) (by simpa using hc)).to λl b ⟨b',h1,h2⟩=>h2▸h1
def BT(hB:qt B BA){fs:List Field}(ht:P.underlying t=U (.struct fs.toArray))(hc:P.cellsOf t=(fs.map λf=>P.cellsOf f.type).sum)(h:yC enc P W B N fs 0 λl b=>F l (b+1)):lR enc P W B N t F :=
 (as5 hB ht hc h).mono (Nat.le_succ N)
def Jc(ea:Y->List V)(sz:Y->Nat)(hB:qt B BA)(ht:P.underlying t=U (.slice e))(hk:P.cellsOf e=k)(gg:0<k)(hlen:∀y,(ea y).length=k)
 (l8:lR enc P W B N e λl b=>∃y,l=ea y/\sz y<=b):lR enc P W B N t λl b=>∃ys:List Y,l=[.sl .no k (ys.map ea)]/\(ys.map sz).sum+1<=b :=
 (as2 ea sz hB ht hk gg hlen l8).mono (Nat.le_succ N)
end
end Go.Am
namespace Go.Proofs.Tryz
open Go.Am Go.ChangeShapes Go.WideShapes Go.ChangeAt Go.RowKit
open Go.Proofs.YtkeidlpchmepkaaGreatDoor
def rl(H:Type):qt (H:=H) Rows.uptoBulk Rows.uptoBulkAll :=
 ⟨λ_=>by simp only[Rows.uptoBulk],λ_ _=>by simp only[Rows.uptoBulk],λ_=>by simp only[Rows.uptoBulk],by simp only[Rows.uptoBulk],λ_ _=>by simp only[Rows.uptoBulk],λ_=>by simp only[Rows.uptoBulk],by simp only[Rows.uptoBulkAll],λ_ _=>by simp only[Rows.uptoBulkAll]⟩
def laid:laidOutB prog=true:=by kernel_rfl
def arj:mapsRowed prog=true:=by kernel_rfl
def aiY:((bG prog.types.size).all λt=>match prog.underlying t with | some (.slice e)=>decide (0<prog.cellsOf e) | _=>aa)=true:=by kernel_rfl
def own:ownKnob prog.godebug=none:=by kernel_rfl
def SQ:Nat->Option (List V):=λb=>if b=0 then U il else if b=1 then U yo else ah
variable{W:World}
def ajl(h:laidMetH prog Rows.judgeRoomRow.laid W):JV W SQ:=by
 have h0:laidMet prog Rows.judgeRoomRow.laid W:=h;have h1:=laidMet.tail h0;obtain⟨e0,k0⟩:=UA (g:=0) (t:=155) (vs:=il.map Bt) h0 (by kernel_rfl) (by kernel_rfl) (λcs fuel p hd=>(abf (ps:=iO) underlying155 underlying88 (by kernel_rfl) (by kernel_rfl) (by kernel_rfl) underlying9 (by kernel_rfl) (by kernel_rfl) (by kernel_rfl) hd).trans rfl) (by simp[il,iO]);obtain⟨e1,k1⟩:=UA (g:=1) (t:=277) (vs:=yo.map Bt) h1 (by kernel_rfl) (by kernel_rfl) (λcs fuel p hd=>(Lib.cells_of_tab (zs:=Jj) underlying277 underlying5 (by kernel_rfl) (by kernel_rfl) hd).trans rfl) (by simp[yo,Jj]);intro b cs hb;simp only[SQ] at hb;split at hb
 .rename_i hq;subst hq;obtain rfl:=vM hb;exact⟨⟨e0,k0⟩,by decide⟩
 split at hb
 .rename_i hq;subst hq;obtain rfl:=vM hb;exact⟨⟨e1,k1⟩,by decide⟩
 simp at hb
def Ns:DataW Unit->List Value
 | .lit (.int k n)=>[.int k n]
 | .lit (.string s)=>[rY s]
 | _=>[]
def alA:DataW Unit->List Value
 | .agg ds=>ds.flatMap Ns
 | d=>Ns d
def alB:DataW Unit->List Value
 | .agg ds=>ds.flatMap alA
 | d=>Ns d
def alC(h:Array Obj)(x:Nat × DataW Unit):Array Obj:=h.modify x.1 fun
 | .cells _ t frozen=>.cells (alB x.2).toArray t frozen
 | o=>o
noncomputable def Nq (os:Os):World :=
 {World.holding prog os ⟨#[],#[],[]⟩ with heap:=[(0,Rows.laid_clearance_command_forms),(1,Rows.laid_math_bits_deBruijn64tab)].foldl alC (World.holding prog os ⟨#[],#[],[]⟩).heap}
set_option maxRecDepth 100000
section
variable {H:Type} {enc:TypeId × Value->H} {W:World} {N:Nat}
abbrev TL(enc:TypeId × Value->H)(W:World)(N:Nat)(t:TypeId)(F:List V->Nat->Prop):Prop:=lR enc prog W (Rows.uptoBulk (H:=H)) N t F
def BK:TL enc W N 3 λl b=>∃y:Int,l=[.int .i64 y]/\1<=b:=(as1 underlying3 (rl H)).to λ_ _ ⟨y,h,k,_⟩=>⟨y,h,by omega⟩
def aqh:TL enc W N 4 λl b=>∃y:Bool,l=[.bool y]/\1<=b:=(as0 underlying4 (rl H)).to λ_ _ ⟨y,h,k⟩=>⟨y,h,by omega⟩
def IN:TL enc W N 9 λl b=>∃y:List UInt8,l=[.aH y]/\y.length+1<=b:=(as3 underlying9 (rl H)).to λ_ _ ⟨y,h,k⟩=>⟨y,h,by omega⟩
def aqo:TL enc W N 90 λl b=>∃ys:List (List UInt8),l=[.sl .no 1 (dh ys)]/\(ys.map λs=>s.length+1).sum+1<=b :=
 Jc (λs:List UInt8=>[V.aH s]) (λs=>s.length+1) (rl H) underlying90 (show prog.cellsOf 9=1 by kernel_rfl) (by decide) (λ_=>rfl) (IN.to λ_ _ ⟨y,h,k⟩=>⟨y,h,k⟩)
def aqr:TL enc W N 100 λl b=>∃y:Rl,l=y.enc/\0<=b:=by
 refine BT (rl H) underlying100 (by kernel_rfl) ?_;refine nX (by kernel_rfl) BK ?_;rintro _ b0 ⟨y0,rfl,h0⟩;refine nX (by kernel_rfl) (as6 underlying98 underlying40 (by kernel_rfl) (by kernel_rfl)) ?_;rintro _ b1 ⟨y1,h1,rfl⟩;exact AN ⟨⟨y0,y1,h1⟩,by rw[eM];rfl,ux _⟩
def aqj:TL enc W N 102 λl b=>∃y:bn,l=y.enc/\0<=b:=by
 refine BT (rl H) underlying102 (by kernel_rfl) ?_;refine nX (by kernel_rfl) BK ?_;rintro _ b0 ⟨y0,rfl,h0⟩;refine nX (by kernel_rfl) aqo ?_;rintro _ b1 ⟨y1,rfl,h1⟩;refine nX (by kernel_rfl) aqr ?_;rintro _ b2 ⟨y2,rfl,h2⟩;exact AN ⟨⟨y0,y1,y2⟩,by simp[bn.enc],by exact ux _⟩
def aqk:TL enc W N 65 λl b=>∃ys:List (bn),l=[.sl .no 67 (ys.map bn.enc)]/\(ys.map λ_=>0).sum+1<=b :=
 (Jc bn.enc (λ_=>0) (rl H) underlying65 (show prog.cellsOf 102=67 by kernel_rfl) (by decide) (λ_=>bn.dj) aqj)
def aqw:TL enc W N 67 λl b=>∃y:bJ,l=y.enc/\0<=b:=by
 refine BT (rl H) underlying67 (by kernel_rfl) ?_;refine nX (by kernel_rfl) aqh ?_;rintro _ b0 ⟨y0,rfl,h0⟩;refine nX (by kernel_rfl) aqk ?_;rintro _ b1 ⟨y1,rfl,h1⟩;exact AN ⟨⟨y0,y1⟩,by rfl,by exact ux _⟩
def aqm:TL enc W N 69 λl b=>∃y:fy,l=y.enc/\0<=b:=by
 refine BT (rl H) underlying69 (by kernel_rfl) ?_;refine nX (by kernel_rfl) IN ?_;rintro _ b0 ⟨y0,rfl,h0⟩;refine nX (by kernel_rfl) aqw ?_;rintro _ b1 ⟨y1,rfl,h1⟩;exact AN ⟨⟨y0,y1⟩,by rfl,by exact ux _⟩
def aqy:TL enc W N 72 λl b=>∃y:eX,l=y.enc/\0<=b:=by
 refine BT (rl H) underlying72 (by kernel_rfl) ?_;refine nX (by kernel_rfl) IN ?_;rintro _ b0 ⟨y0,rfl,h0⟩;refine nX (by kernel_rfl) BK ?_;rintro _ b1 ⟨y1,rfl,h1⟩;refine nX (by kernel_rfl) BK ?_;rintro _ b2 ⟨y2,rfl,h2⟩;exact AN ⟨⟨y0,y1,y2⟩,by rfl,by exact ux _⟩
def aqn:TL enc W N 22 λl b=>∃ys:List (fy),l=[.sl .no 3 (ys.map fy.enc)]/\(ys.map λ_=>0).sum+1<=b :=
 (Jc fy.enc (λ_=>0) (rl H) underlying22 (show prog.cellsOf 69=3 by kernel_rfl) (by decide) (λ_=>rfl) aqm)
def aqz:TL enc W N 23 λl b=>∃ys:List (eX),l=[.sl .no 3 (ys.map eX.enc)]/\(ys.map λ_=>0).sum+1<=b :=
 (Jc eX.enc (λ_=>0) (rl H) underlying23 (show prog.cellsOf 72=3 by kernel_rfl) (by decide) (λ_=>rfl) aqy)
def aqu:TL enc W N 25 λl b=>∃y:aG,l=y.enc/\0<=b:=by
 refine BT (rl H) underlying25 (by kernel_rfl) ?_;refine nX (by kernel_rfl) aqn ?_;rintro _ b0 ⟨y0,rfl,h0⟩;refine nX (by kernel_rfl) aqz ?_;rintro _ b1 ⟨y1,rfl,h1⟩;exact AN ⟨⟨y0,y1⟩,by rfl,by exact ux _⟩
def aqs:TL enc W N 27 λl b=>∃y:Rm,l=y.enc/\0<=b:=by
 refine BT (rl H) underlying27 (by kernel_rfl) ?_;refine nX (by kernel_rfl) BK ?_;rintro _ b0 ⟨y0,rfl,h0⟩;refine nX (by kernel_rfl) BK ?_;rintro _ b1 ⟨y1,rfl,h1⟩;refine nX (by kernel_rfl) BK ?_;rintro _ b2 ⟨y2,rfl,h2⟩;exact AN ⟨⟨y0,y1,y2⟩,by rfl,by exact ux _⟩
end
def ahy:aR prog 28 (sq [rg 0 [oZ 2 [0,0]],rg 0 [oZ 3 [0,0]],sq [rg 4 [oi 0],bl 0 (sq [sq [rg 6 [om 4,om 0,nL,nb .lss 6],cx 9 0],.block 1 (sq [rg 12 [om 0,om 4,nA 2 12,nl 2,oZ 5 [0,0],o2 2 5],rg 16 [fo 0 5,nB .neq 0,nm,og 19 (of 0 3),og 19 (no),og 19 (nB .eql 0),og 19 (nm),oh 23 (of 0 5),oh 23 (no),oh 23 (of 0 3),oh 23 (no),oh 23 (nb .lss 25),og 19 (oq (.pick (.s 23) (.c (.bool aa)) (.s 28))),og 19 (nm),oh 30 (of 0 5),oh 30 (no),oh 30 (of 0 3),oh 30 (no),oh 30 (nb .eql 32),oh 30 (nm),og 36 (of 1 5),og 36 (no),og 36 (of 1 3),og 36 (no),og 36 (nb .lss 38),oh 30 (oy 36 41),og 19 (oq (.pick (.s 30) (.c (.bool aa)) (.s 42))),oy 19 43],ci 44 (rg 45 [ol 2 5,o2 2 3])]),rg 10 [ic 4]])],rg 46 [ol 2 3,o2 2 2],.ret]) [.cell 2 aa 2] 47:=aS func28
def aii:aR prog 74 (sq [rg 4 [ox 2 2 0,oi 0],sq [rg 5 [oi 0],bl 0 (sq [sq [rg 6 [nm,fo 0 2,nL,nb .lss 6],cx 10 0],.block 1 (sq [rg 13 [fo 0 2,om 5,nA 3 14,nF 0,om 1,nE .eql 18],cr 20 21 [om 5,o1 4]]),rg 11 [ic 5]])],rg 4 [oi (-1)],.ret]) [.tmp 4] 22:=aS func74
def aim:aR prog 78 (sq [rg 10 [ox 5 2 0,oz 7],rg 12 [ol 2 5,om 1,oC 79 [12,13],o1 11],sq [rg 15 [om 11,nB .lss 0,gA,ol 2 5,om 1,oC 74 [18,19],nB .lss 0,gZ],cr 22 23 [om 2,oG [0,0] [(0,1,.c (.int .i64 3)),(1,1,.s 23)],n1 2,o1 10]],sq [rg 26 [om 11,nB .lss 0,gB,fo 1 5,om 11,nA 3 30,nF 1,om 3,nb .neq 34,gZ,nm,oh 38 (om 4),oh 38 (nB .geq 0),oh 38 (nm),og 41 (of 1 5),og 41 (no),og 41 (om 11),og 41 (nA 3 43),og 41 (nf 2),og 41 (no),og 41 (om 4),og 41 (nb .neq 47),oh 38 (oy 41 49),oq (.pick (.s 38) (.c (.bool aa)) (.s 50))],cr 51 52 [om 2,oG [0,0] [(0,1,.c (.int .i64 4)),(1,1,.s 52)],n1 2,o1 10]],rg 10 [oz 7],.ret]) [.tmp 10] 55:=aS func78
def Bq(s:aG)(t:List UInt8)(Z:ab)(h2:s.bt.length<=100000):aT 74 [.agg s.enc,.aH t] Z (.int .i64 (bY (fu s.bt t))):=by
 refine aii.aP ?_;simp only[aO,am,aX,Nat.reduceAdd,Int.reduceNeg,aG.ak];have eV:∀i (hi:i<s.bt.length),Dr s.bt t i=decide (s.bt[i].name=t):=λi hi=>by simp only[Dr,bN hi]
 refine ct (s.bt.length) (λi (x:Unit)=>⟨[.any,.aH t,.ptr (.au 0) 0,.any,.any,.int .i64 (i:Nat)]++aj 16 .any,[s.enc],Z⟩) (λi x=>(∀k,k<i->Dr s.bt t k=aq)) λF hF JF aW=>⟨?_,?_,?_⟩
 .exact en aW (()) (by intro k h;omega)
 .rintro i x hi hJ;simp only[hF,aj,am,ca hi,Int.reduceNeg,aG.ak,aD];refine ix (u7 hi) ?_;simp only[am,Int.reduceNeg,aG.ak]
  by_cases h:s.bt[i].name=t
  .have e:fu s.bt t=U i:=AL hi hJ (by rw[eV i hi];exact aB h);simp only[am,aK,Int.reduceNeg,aB h];refine aC ?_;simp[V.erase,e,bY]
  .simp only[am,aK,Int.reduceNeg,az h,bF hi];exact nx aW (()) hi (ji hJ (by rw[eV i hi];exact az h))
 .rintro x hJ;have e:fu s.bt t=none:=AM hJ;simp only[hF,aj,am,aK,cy,aK,Int.reduceNeg,aG.ak,aD];refine aC ?_;simp[V.erase,e,bY]
def IU(l:List aM)(Z:ab)(hl:l.length<=268000000):aT 28 [.sl .no 2 (l.map aM.enc)] Z (.agg (fS l).enc):=by
 refine ahy.aP ?_;simp only[aO,am,aX,Nat.reduceAdd];refine ct (l.length) (λi (x:Unit)=>⟨[.sl .no 2 (l.map aM.enc),.any,.ptr (.au 0) 0,.ptr (.au 1) 0,.int .i64 (i:Nat)]++aj 42 .any,[aM.zero.enc,(fS (l.take i)).enc],Z⟩) (λi x=>(True)) λF hF JF aW=>⟨?_,?_,?_⟩
 .refine en aW (()) (trivial) ?_ ?_ ?_
  all_goals simp[hF,aj,am,bd,fS,aM.zero,aM.enc]
 .rintro i x hi -;have hT:=UR hi;simp only[hF,aj,am,ca hi,aD];refine ix (Sv hi) ?_;simp only[am,Nat.reduceAdd,aM.ak];generalize fS (l.take i)=o at hT;generalize l[i]=f at hT
  by_cases h0:f.cls=0
  .rw[jl,aI h0] at hT;simp only[am,aK,aB h0,bF hi];refine db (()) hi ?_ ?_ ?_ ?_ ?_ ?_
   .exact cI (aW _ _) (trivial)
   all_goals simp[hF,aj,am,bd,bK,cp,V.lo,hT,aM.bP]
  rw[jl,aw h0] at hT;simp only[am,aM.ak,az h0];have yes:o7 o f=aa->fS (l.take (i+1))=f:=λh=>by rw[hT,h,aI rfl]
  have no:o7 o f=aq->fS (l.take (i+1))=o:=λh=>by rw[hT,h];rfl
  by_cases h1:o.cls=0
  .have e:=yes (by simp[o7,h1]);simp only[am,aK,aM.ak,aB h1,bF hi];refine db (()) hi ?_ ?_ ?_ ?_ ?_ ?_
   .exact cI (aW _ _) (trivial)
   all_goals simp[hF,aj,am,bd,bK,cp,V.lo,e,aM.bP]
  simp only[am,aM.ak,az h1]
  by_cases h2:f.cls<o.cls
  .have e:=yes (by simp[o7,h2]);simp only[am,aK,aM.ak,aB h2,bF hi];refine db (()) hi ?_ ?_ ?_ ?_ ?_ ?_
   .exact cI (aW _ _) (trivial)
   all_goals simp[hF,aj,am,bd,bK,cp,V.lo,e,aM.bP]
  simp only[am,aM.ak,az h2]
  by_cases h3:f.cls=o.cls
  case neg =>
   have e:=no (by simp[o7,h1,h2,h3]);simp only[am,aK,az h3,bF hi];refine db (()) hi ?_ ?_ ?_ ?_ ?_ ?_
   .exact cI (aW _ _) (trivial)
   all_goals simp[hF,aj,am,bd,bK,cp,V.lo,e,aM.bP]
  simp only[am,aM.ak,aB h3]
  by_cases h4:f.au<o.au
  .have e:=yes (by simp[o7,h3,h4]);simp only[am,aK,aM.ak,aB h4,bF hi];refine db (()) hi ?_ ?_ ?_ ?_ ?_ ?_
   .exact cI (aW _ _) (trivial)
   all_goals simp[hF,aj,am,bd,bK,cp,V.lo,e,aM.bP]
  .have e:=no (by simp[o7,h1,h2,h4]);simp only[am,aK,az h4,bF hi];refine db (()) hi ?_ ?_ ?_ ?_ ?_ ?_
   .exact cI (aW _ _) (trivial)
   all_goals simp[hF,aj,am,bd,bK,cp,V.lo,e,aM.bP]
 .rintro x -;simp only[hF,aj,am,aK,cy,aK,aM.ak,aD,df];refine aC ?_;simp[V.erase,aM.dy]
def F4(s:aG)(t:List UInt8)(p kind lat:Int)(Z:ab)(hs:s.ok):aT 78 [.agg s.enc,.aH t,.int .i64 p,.int .i64 kind,.int .i64 lat] Z (.sl .no 2 ((fE s lat t p kind).map aM.enc)):=by
 refine aim.aP ?_;simp only[aO,am,aX,Nat.reduceAdd,aG.ak];refine cl (yp s t Z hs.2.1) ?_;cases hv:iw s.vars t with
 | none =>
  simp only[am,bL,Int.reduceNeg,Int.reduceLT,aG.ak,bY];refine cl (Bq s t Z hs.1) ?_;have e:fE s lat t p kind=if (fu s.bt t).isNone then [⟨3,p⟩] else [⟨4,p⟩]:=by rw[fE,hv]
  cases hL:fu s.bt t with
  | none =>
   simp only[am,Nat.reduceAdd,bL,Int.reduceNeg,Int.reduceLT,bY];exact aN rfl (ab.bc _) ⟨by rw[e,hL];rfl,rfl⟩
  | some k =>
   simp only[am,Nat.reduceAdd,bL,Int.reduceNeg,Int.reduceLT,bY,az (show ¬((k:Nat):Int)<0 by omega)];exact aN rfl (ab.bc _) ⟨by rw[e,hL];rfl,rfl⟩
 | some v =>
  have an:=KQ hv;have e:fE s lat t p kind=if s.vars[v].kind≠kind\/(0<=lat/\s.vars[v].lat≠lat) then [⟨4,p⟩] else []:=by
   rw[fE,hv];simp only[bN an]
  simp only[am,aG.ak,bY,az (show ¬((v:Nat):Int)<0 by omega)];refine ix (um an) ?_
  by_cases hk:s.vars[v].kind=kind
  case neg =>
   simp only[am,Nat.reduceAdd,aG.ak,az hk];exact aN rfl (ab.bc _) ⟨by rw[e,aI (.inl hk)];rfl,rfl⟩
  simp only[am,aG.ak,aB hk]
  by_cases h0:0<=lat
  case neg =>
   simp only[am,az h0];exact aN rfl (ab.bc _) ⟨by rw[e,aw (λh=>h.elim (λh=>h hk) (λh=>h0 h.1))];rfl,rfl⟩
  simp only[am,aG.ak,aB h0];refine ix (um an) ?_
  by_cases hl:s.vars[v].lat=lat
  .simp only[am,aG.ak,aB hl];exact aN rfl (ab.bc _) ⟨by rw[e,aw (λh=>h.elim (λh=>h hk) (λh=>h.2 hl))];rfl,rfl⟩
  .simp only[am,Nat.reduceAdd,aG.ak,az hl];exact aN rfl (ab.bc _) ⟨by rw[e,aI (.inr ⟨h0,hl⟩)];rfl,rfl⟩
def aih:aR prog 73 (sq [rg 4 [ox 2 2 0,oz 2],rg 5 [ol 2 2,om 1,oC 74 [5,6],nB .geq 0,gB,ol 2 2,om 1,oC 79 [10,11],nB .geq 0,gZ,o1 4],.ret]) [.tmp 4] 15:=aS func73
def aik:aR prog 76 (sq [rg 0 [ox 1 17 0,oR 2 kG],rg 8 [fo 4 1,oC 137 [9],o1 3],rg 11 [om 3,nL,oY kG [(0,1,.s 12)],oR 4 kG,o2 65 4],sq [rg 5 [oi 0],bl 0 (sq [sq [rg 14 [om 5,fo 5 1,nL,nb .lss 14],cx 18 0],.block 1 (sq [rg 21 [om 3,fo 5 1,om 5,nA 4 23,oQ 2 2 25 0,nF 0,oC 138 [21,28],o1 6],rg 30 [om 3,fo 5 1,om 5,nA 4 32,oQ 2 2 34 1,nF 0,oC 138 [30,37],o1 7],rg 39 [om 6,nB .geq 0,gA,om 7,nB .geq 0,gZ,gA,om 6,nB .lss 64,gZ,gA,om 7,nB .lss 64,gZ],ci 52 (rg 53 [om 6,om 6,of 1 4,oP 64 1 55 54,no,om 7,oq (.pG .u64 (.s 58)),oq (.dV .shl (.c (.int .u64 1)) (.s 59)),nb .or 57,of 1 4,oP 64 1 62 53,os 1 63 61])]),rg 19 [ic 5]])],rg 64 [ol 65 4,oC 142 [64],o2 65 2],.ret]) [.cell 2 aa 65] 66:=aS func76
def afb:aR prog 137 (sq [rg 2 [oz 6],rg 3 [oz 6],sq [rg 4 [oi 0],bl 0 (sq [sq [rg 5 [nm,om 0,nL,nb .lss 5],cx 8 0],.block 1 (rg 11 [om 3,om 0,om 4,nA 2 12,nF 0,n1 1,na 1 11,o1 3]),rg 9 [ic 4]])],rg 19 [om 3,o1 2],.ret]) [.tmp 2] 20:=aS func137
def NB(s:aG)(t:List UInt8)(Z:ab)(h1:s.bt.length<=100000)(h2:s.vars.length<=100000):aT 73 [.agg s.enc,.aH t] Z (.bool (fJ s t)):=by
 have e:∀o:Option Nat,decide (0<=bY o)=o.isSome:=λo=>by cases o<;>simp[bY]
 refine aih.aP ?_;simp only[aO,am,aX,Nat.reduceAdd,aG.ak];refine cl (Bq s t Z h1) ?_;simp only[am,e];cases hl:(fu s.bt t).isSome with
 | true =>
  simp only[am];refine aC ?_;simp[V.erase,fJ,hl]
 | false =>
  simp only[am,aG.ak];refine cl (yp s t Z h2) ?_;simp only[am,e];refine aC ?_;simp[V.erase,fJ,hl]
def Pc(l:List aF)(Z:ab)(hl:l.length<=100000):aT 137 [.sl .no 2 (l.map aF.enc)] Z (.sl .no 1 (dh (cf l))):=by
 refine afb.aP ?_;simp only[aO,am,aX,Nat.reduceAdd];refine ct (l.length) (λi (D:Nat)=>⟨[.sl .no 2 (l.map aF.enc),.any,.any,.sl (.tk D) 1 (dh (cf (l.take i))),.int .i64 (i:Nat)]++aj 15 .any,[],Z.ba D i⟩) (λi D=>(Z.aY D=ah)) λF hF JF aW=>⟨?_,?_,?_⟩
 .refine AG 0 λD a_=>⟨D,cI (aW _ _) a_,?_,?_,?_⟩
  all_goals simp[hF,aj,jG,cf,dh]
 .rintro i D hi a_;have hlen:(dh (cf (l.take i))).length=i:=by rw[iH,r8,iu];omega
  have hs:dh (cf (l.take (i+1)))=dh (cf (l.take i))++[[.aH l[i].ar]]:=by rw[jg hi];simp only[cf,dh,jf,dz,eQ]
  simp only[hF,aj,am,ca hi,aD];refine ix (tg hi) ?_;simp only[am,td];refine fe (by rw[hlen];simp[aJ];omega) (by rw[hlen];exact eR) ?_;rw[hlen];simp only[am,aK,eJ,bF hi,fx];refine db (D) hi ?_ ?_ ?_ ?_ ?_ ?_
  .exact cI (aW _ _) (a_)
  all_goals simp[hF,aj,am,bd,bK,cp,V.lo,hs]
 .rintro D a_;simp only[hF,aj,am,aK,cy,aK,aD,df];refine aN rfl (gV a_) ⟨rfl,rfl⟩
def asj{b:Nat}:ib .u64 1 ((b:Nat):Int) .shl=U (.int .u64 ((kl b).toNat:Nat)):=Jq (a:=1#64) (m:=b)
def Ow(c:aL)(Z:ab)(hn:c.al.length<=100000)(hp:c.a8.length<=100000):aT 76 [.agg c.enc] Z (.agg (sX c).enc):=by
 have hw:(cf c.al).length<=100000:=by rw[r8];exact hn
 have jW:((cf c.al).length:Int)=(c.al.length:Nat):=by rw[r8]
 have an:∀{t:List UInt8} {k:Nat},dt (cf c.al) t=U k->k<c.al.length:=λh=>by have:=(y3 h).1;rwa [r8] at this
 have h0:nY c 0=Rl.zero.ui (c.al.length:Nat):=by
  rw[nY,Ql,nH];simp[Rl.of,Rl.ui,Rl.zero];decide
 refine aik.aP ?_;simp only[aO,am,aX,Nat.reduceAdd,Rl.ak,cE,bM];refine cl (Pc c.al Z hn) ?_;simp only[am,Nat.reduceAdd,Rl.ak,iH,jW];rw[<-h0];refine ct (c.a8.length) (λi (x:Unit)=>⟨[.any,.ptr (.au 0) 0,.ptr (.au 1) 0,.sl .no 1 (dh (cf c.al)),.ptr (.au 2) 0,.int .i64 (i:Nat)]++aj 60 .any,[c.enc,Rl.zero.enc,(nY c i).enc],Z⟩) (λi x=>(True)) λF hF JF aW=>⟨?_,?_,?_⟩
 .exact en aW (()) (trivial)
 .rintro i x hi -;have TS:=λa b=>@ajd c i a b hi
  have jB:=aje hi;simp only[hF,aj,am,ca hi,aD,bM];refine ix (zJ hi) ?_;simp only[am,cG,dR];refine rI ?_;simp only[am,Int.reduceToNat,Nat.reduceMul];refine cl (yd (cf c.al) c.a8[i].1.ar Z hw) ?_;simp only[am,bM];refine ix (zJ hi) ?_;simp only[am,cG,dR];refine rI ?_;simp only[am,Int.reduceToNat,Nat.reduceMul];refine cl (yd (cf c.al) c.a8[i].2.ar Z hw) ?_;simp only[am];generalize nY c i=r at TS jB;generalize hA:bY (dt (cf c.al) c.a8[i].1.ar)=A;generalize hB:bY (dt (cf c.al) c.a8[i].2.ar)=B;cases rA:dt (cf c.al) c.a8[i].1.ar with
  | none =>
   have e:nY c (i+1)=r:=jB λa b h=>by rw[rA] at h;simp at h
   rw[rA] at hA;obtain rfl:A = -1:=hA.symm;simp only[am,c9,aK,Int.reduceNeg,Int.reduceLE,az (show ¬(0:Int)<=-1 by decide),bF hi];refine db (()) hi ?_ ?_ ?_ ?_ ?_ ?_
   .exact cI (aW _ _) (trivial)
   all_goals simp[hF,aj,am,bd,bK,cp,V.lo,e,aL.enc,aL.cz,Rl.bP]
  | some a =>
   rw[rA] at hA;obtain rfl:A=(a:Nat):=hA.symm;cases l9:dt (cf c.al) c.a8[i].2.ar with
   | none =>
    have e:nY c (i+1)=r:=jB λa b _ h=>by rw[l9] at h;simp at h
    rw[l9] at hB;obtain rfl:B = -1:=hB.symm;simp only[am,c9,aK,Int.reduceNeg,Int.reduceLE,az (show ¬(0:Int)<=-1 by decide),aB (show(0:Int)<=((a:Nat):Int) by omega),bF hi];refine db (()) hi ?_ ?_ ?_ ?_ ?_ ?_
    .exact cI (aW _ _) (trivial)
    all_goals simp[hF,aj,am,bd,bK,cp,V.lo,e,aL.enc,aL.cz,Rl.bP]
   | some b =>
    rw[l9] at hB;obtain rfl:B=(b:Nat):=hB.symm
    by_cases ha:a<64
    .by_cases hb:b<64
     .have e:=TS a b rA l9 ha hb (an rA) (an l9);simp only[am,cG,aB (show(0:Int)<=((a:Nat):Int) by omega),aB (show(0:Int)<=((b:Nat):Int) by omega),aB (show((a:Nat):Int)<64 by omega),aB (show((b:Nat):Int)<64 by omega)];refine i_ ?_;simp only[YB,Rl.wZ ha,show IntKind.u64.wrap ((b:Nat):Int)=(b:Nat) by simp[IntKind.wrap,IntKind.signed,IntKind.bits];omega,asj];refine i_ ?_;simp only[yy,Rl.wY ha,Rl.w7 ha,bF hi];refine db (()) hi ?_ ?_ ?_ ?_ ?_ ?_
      .exact cI (aW _ _) (trivial)
      all_goals simp[hF,aj,am,bd,bK,cp,V.lo,e,aL.enc,aL.cz,Rl.bP]
     .have e:nY c (i+1)=r:=jB λx y h h' => by rw[rA] at h;rw[l9] at h';simp only[bg] at h h';omega
      simp only[am,aK,aB (show(0:Int)<=((a:Nat):Int) by omega),aB (show(0:Int)<=((b:Nat):Int) by omega),aB (show((a:Nat):Int)<64 by omega),az (show ¬((b:Nat):Int)<64 by omega),bF hi];refine db (()) hi ?_ ?_ ?_ ?_ ?_ ?_
      .exact cI (aW _ _) (trivial)
      all_goals simp[hF,aj,am,bd,bK,cp,V.lo,e,aL.enc,aL.cz,Rl.bP]
    .have e:nY c (i+1)=r:=jB λx y h h' => by rw[rA] at h;simp only[bg] at h;omega
     simp only[am,aK,aB (show(0:Int)<=((a:Nat):Int) by omega),aB (show(0:Int)<=((b:Nat):Int) by omega),az (show ¬((a:Nat):Int)<64 by omega),bF hi];refine db (()) hi ?_ ?_ ?_ ?_ ?_ ?_
     .exact cI (aW _ _) (trivial)
     all_goals simp[hF,aj,am,bd,bK,cp,V.lo,e,aL.enc,aL.cz,Rl.bP]
 .rintro x -;simp only[hF,aj,am,aK,cy,aK,Rl.ak,aD,bM];refine cl (Wv _ _) ?_;rw[ajc];simp only[am,Rl.ak];exact aN (v:=.agg (sX c).enc) Rl.dL (ab.bc _) ⟨by simp only[V.erase,Rl.dy],rfl⟩
def ail:aR prog 77 (sq [rg 0 [ox 2 2 0,ox 3 17 1,oZ 4 [2,72]],rg 9 [fo 4 3,oC 137 [10],oY rp [(1,1,.s 11)],oR 5 rp,o2 67 5],sq [rg 13 [fo 0 3],.block 0 (sq [rg 17 [oB .eql 14 1,o1 16],cd 16 (rg 18 [of 0 5,od ah (.store 1 (.s 18) (.c (.int .i64 1)))]) (sq [rg 20 [oB .eql 14 2,o1 19],cd 19 (rg 21 [of 0 5,od ah (.store 1 (.s 21) (.c (.int .i64 2)))]) (sq [rg 23 [oB .eql 14 4,o1 22],cd 22 (sq [rg 24 [of 0 5,od ah (.store 1 (.s 24) (.c (.int .i64 3)))],rg 25 [ol 17 3,oC 76 [25],of 2 5,os 65 27 26]]) (sq [rg 29 [oB .eql 14 5,o1 28],cd 28 (sq [rg 30 [of 0 5,od ah (.store 1 (.s 30) (.c (.int .i64 4)))],rg 31 [ol 17 3,oC 76 [31],of 2 5,os 65 33 32]]) (sq [rg 35 [oB .eql 14 3,o1 34],cd 34 (sq [rg 36 [oG [2,72] [(0,1,.c (.bool aa))],oZ 6 [2,72],o2 2 6],sq [rg 7 [oi 0],bl 1 (sq [sq [rg 37 [om 7,fo 4 3,nL,nb .lss 37],cx 41 1],.block 2 (sq [dg 44 [ol 2 2,fo 4 3,om 7,nA 2 46,nF 0,oC 74 [44,50],o1 8],rg 52 [om 8,nB .geq 0],ci 53 (dg 54 [fo 1 6,fo 0 2,om 8,nA 3 57,nf 1,nF 1,na 67 55,of 1 6,os 1 64 63])]),rg 42 [ic 7]])],rg 65 [ol 2 6,o2 2 4],.ret]) (sq [rg 15 [oW [2,72] [],o2 2 4],.ret])])])])])])],rg 66 [ol 67 5,n1 67,oW [2,72] [(1,1,67)],o2 2 4],.ret]) [.cell 4 aa 2] 69:=aS func77
theorem aiZ:cB 1 (rp.drop 1)=true:=rfl
def ai0{l:List (List UInt8)}:setAt rp 1 [.sl .no 1 (dh l)]=(⟨0,l,.zero⟩:bn).enc:=by
 rw[bn.enc,show rp = .int .i64 0::.sl .a9 1 []::Rl.zero.enc by rw[<-Rl.yc];rfl,jZ,mr,qa,mP]
theorem amJ{l:fy}:bX aq 1 (l.enc.drop 2)=U (.sl .no 67 (l.shape.bB.map bn.enc)):=rfl
section
variable {f:bn}
theorem ad_:cB 1 f.enc=true:=rfl
def aeb{k:Int}:over f.enc [.int .i64 k]=(⟨k,f.al,f.rel⟩:bn).enc:=by rw[bn.enc,qa,mP];rfl
def aea:cB 65 (f.enc.drop 2)=true:=Rl.gT
def aed{r:Rl}:setAt f.enc 2 r.enc=(⟨f.kind,f.al,r⟩:bn).enc:=by rw[bn.enc,jZ,jZ,mr,Rl.gx];rfl
def AJ:=af @aiZ <| af @ai0 <| af @ad_ <| af @aeb <| af @aea <| af @aed @bn.YH
end
def VA(k:Int)(l:List (List UInt8))(r:Rl):bJ:=⟨aq,[⟨k,l,r⟩]⟩
def asi(s:aG)(c:aL)(Z:ab)(hs:s.x9)(hn:c.al.length<=100000)(hp:c.a8.length<=100000):aT 77 [.agg s.enc,.agg c.enc] Z (.agg (uj s c).enc):=by
 have fin:∀(t:List V) (lo:List (List V)) (k:Int) (r:Rl),uj s c=VA k (cf c.al) r->jx (λv σ' => v = .agg (uj s c).enc/\σ' = Z) ⟨t,lo,Z⟩ (.agg [.bool aq,.sl .a9 67 [(⟨k,cf c.al,r⟩:bn).enc]]):=λt lo k r h=>by
  refine aN (by simp[V.cM,bS]) (ab.bc _) ⟨?_,rfl⟩;rw[h,VA];simp only[V.erase,aZ];rfl
 refine ail.aP ?_;simp only[aO,am,aX,Nat.reduceAdd,aG.ak,cE,bM];refine cl (Pc c.al Z hn) ?_;simp only[am,Nat.reduceAdd,bn.ak,b8,AJ]
 by_cases h1:c.op=1
 .simp only[am,Nat.reduceAdd,bn.ak,aB h1,AJ];exact fin _ _ _ _ (by rw[uj,aI h1];rfl)
 by_cases h2:c.op=2
 .simp only[am,Nat.reduceAdd,bn.ak,az h1,aB h2,AJ];exact fin _ _ _ _ (by rw[uj,aw h1,aI h2];rfl)
 by_cases h4:c.op=4
 .simp only[am,cE,az h1,az h2,aB h4,AJ];refine cl (Ow c Z hn hp) ?_;simp only[am,Nat.reduceAdd,Rl.ak,bn.ak,AJ];exact fin _ _ _ _ (by rw[uj,aw h1,aw h2,aI h4];rfl)
 by_cases h5:c.op=5
 .simp only[am,cE,az h1,az h2,az h4,aB h5,AJ];refine cl (Ow c Z hn hp) ?_;simp only[am,Nat.reduceAdd,Rl.ak,bn.ak,AJ];exact fin _ _ _ _ (by rw[uj,aw h1,aw h2,aw h4,aI h5];rfl)
 by_cases h3:c.op=3
 case neg =>
  simp only[am,Nat.reduceAdd,az h1,az h2,az h4,az h5,az h3];exact aN rfl (ab.bc _) ⟨by rw[uj,aw h1,aw h2,aw h4,aw h5,aw h3];rfl,rfl⟩
 have es:uj s c=sW s c:=by rw[uj,aw h1,aw h2,aw h4,aw h5,aI h3]
 simp only[am,Nat.reduceAdd,az h1,az h2,az h4,az h5,aB h3];rw[es];clear fin;obtain⟨Q,hQ⟩:∃Q:Nat->List bn,∀i,Q i=((c.al.take i).flatMap (o6 s)).flatMap bJ.bB:=⟨_,λ_=>rfl⟩;have uP:Q 0=[]:=by rw[hQ];rfl
 have wc:Q c.al.length=(sW s c).bB:=by rw[hQ,df];rfl
 have uQ:∀i,(Q i).length<=10000000:=λi=>by
  rw[hQ];have h1:=KT (f:=o6 s) (λ_=>UE) (l:=c.al.take i);have h2:=KL (N:=100) (l:=(c.al.take i).flatMap (o6 s)) λx hx=>by
   obtain⟨w,_,hx⟩:=GA.1 hx;obtain⟨l,hl,rfl⟩:=UF hx;exact hs.2 l hl
  rw[iu] at h1;omega
 refine ct (c.al.length) (λi (D:Nat)=>⟨[.any,.any,.ptr (.au 0) 0,.ptr (.au 1) 0,.ptr (.au 2) 0,.any,.ptr (.au 4) 0,.int .i64 (i:Nat)]++aj 61 .any,[s.enc,c.enc,[.bool aq,.sl .a9 67 []],(⟨0,cf c.al,.zero⟩:bn).enc,[.bool aa,.sl (.tk D) 67 (qB (Q i))]],Z.ba D (Q i).length⟩) (λi D=>(Z.aY D=ah)) λF hF JF aW=>⟨?_,?_,?_⟩
 .refine Hc 0 λD a_=>⟨D,cI (aW _ _) a_,?_,?_,?_⟩
  all_goals simp[hF,aj,jG,Il,uP,qB]
 .rintro i D hi a_;have qC:Q (i+1)=Q i++(o6 s c.al[i]).flatMap bJ.bB:=by rw[hQ,hQ,jg hi,py,py];simp
  have L8:=uQ i;simp only[hF,aj,am,ca hi,aG.ak,aD,bM];refine ix (tg hi) ?_;simp only[am,aG.ak,td];refine bA.intro (Bq s c.al[i].ar _ hs.1.1) ?_;simp only[am];generalize hA:bY (fu s.bt c.al[i].ar)=A;cases hf:fu s.bt c.al[i].ar with
  | none =>
   rw[hf] at hA;obtain rfl:A = -1:=hA.symm;have e:Q (i+1)=Q i:=by rw[qC,UG hf];simp
   simp only[am,c9,aK,Int.reduceNeg,Int.reduceLE,az (show ¬(0:Int)<=-1 by decide),bF hi];refine db (D) hi ?_ ?_ ?_ ?_ ?_ ?_
   .exact cI (aW _ _) (a_)
   all_goals simp[hF,aj,am,bd,bK,cp,V.lo,e,aG.bP,aL.enc,aL.cz,bn.bP]
  | some k =>
   rw[hf] at hA;obtain rfl:A=(k:Nat):=hA.symm;have hk:=(y3 hf).1;have e:Q (i+1)=Q i++s.bt[k].shape.bB:=by rw[qC,UH hf hk];simp
   have hlen:(qB (Q i)).length=(Q i).length:=Se;simp only[am,aG.ak,aB (show(0:Int)<=((k:Nat):Int) by omega)];have e2:(Q (i+1)).length=(Q i).length+s.bt[k].shape.bB.length:=by rw[e,bW]
   have e3:qB (Q i)++s.bt[k].shape.bB.map bn.enc=qB (Q (i+1)):=by rw[e];simp[qB]
   have gf:=uQ (i+1);refine ix (u7 hk) ?_;simp only[am,Nat.reduceAdd,amJ];refine vS (by rw[hlen,aD];simp only[aJ];omega) (by rw[hlen];exact eR) ?_;rw[hlen];simp only[am,aD,aK,aD,eJ,bF hi];rw[e3,<-e2];refine db (D) hi ?_ ?_ ?_ ?_ ?_ ?_
   .exact cI (aW _ _) (a_)
   all_goals simp[hF,aj,am,bd,bK,cp,V.lo,aG.bP,aL.enc,aL.cz,bn.bP]
 .rintro D a_;simp only[hF,aj,am,aK,cy,Nat.reduceAdd,aK,reduceCtorEq,aD,bM,wc];refine aN rfl (gV a_) ⟨rfl,rfl⟩
def aif:aR prog 72 (sq [rg 4 [ox 2 2 0,ox 3 17 1,oz 7],rg 5 [oz 7],rg 12 [fo 4 3,oC 137 [13],o1 6],rg 15 [fo 0 3,nB .eql 6,gB,fo 0 3,nB .eql 7,gZ,o1 7],sq [rg 8 [oi 0],bl 0 (sq [sq [rg 23 [om 8,om 6,nL,nb .lss 23],cx 26 0],.block 1 (sq [rg 29 [fo 4 3,om 8,nA 2 30,nF 1,o1 9],rg 35 [fo 0 3,nB .eql 3],cd 37 (sq [dg 38 [ol 2 2,om 6,om 8,nA 1 39,no,oC 73 [38,42],nn],cd 44 (rg 45 [om 5,om 9,oG [0,0] [(0,1,.c (.int .i64 3)),(1,1,.s 46)],n1 2,na 2 45,o1 5]) (sq [dg 50 [ol 2 2,om 6,om 8,nA 1 51,no,oC 74 [50,54],nB .lss 0],ci 56 (rg 57 [om 5,om 9,oG [0,0] [(0,1,.c (.int .i64 4)),(1,1,.s 58)],n1 2,na 2 57,o1 5])])]) (sq [dg 62 [om 6,om 6,om 8,nA 1 63,no,oC 138 [62,66],om 8,nb .lss 67,nm,oh 70 (om 7),oh 70 (nm),og 72 (ol 2 2),og 72 (om 6),og 72 (om 8),og 72 (nA 1 74),og 72 (no),og 72 (oC 73 [73,77]),oh 70 (oy 72 78),oq (.pick (.s 70) (.c (.bool aa)) (.s 79))],ci 80 (rg 81 [om 5,om 9,oG [0,0] [(0,1,.c (.int .i64 3)),(1,1,.s 82)],n1 2,na 2 81,o1 5])])]),rg 27 [ic 8]])],sq [rg 10 [oi 0],bl 2 (sq [sq [rg 86 [om 10,fo 5 3,nL,nb .lss 86],cx 90 2],.block 3 (sq [rg 11 [oi 0],bl 4 (sq [sq [rg 93 [om 11,nB .lss 2],cx 94 4],.block 5 (sq [rg 97 [om 6,fo 5 3,om 10,om 11,oA 4 99 100,oP 2 2 102 101,nF 0,oC 138 [97,105],nB .lss 0],ci 107 (rg 108 [om 5,fo 5 3,om 10,om 11,oA 4 110 111,oP 2 2 113 112,nF 1,oG [0,0] [(0,1,.c (.int .i64 3)),(1,1,.s 116)],n1 2,na 2 108,o1 5])]),rg 95 [ic 11]])]),rg 91 [ic 10]])],rg 120 [om 5,o1 4],.ret]) [.tmp 4] 121:=aS func72
def Jv{l:List aF}{j:Nat}(h:j<l.length):(dh (cf l))[((j:Nat):Int).toNat]?=U [.aH l[j].ar]:=by simp[dh,cf,h]
def N5{o:Option Nat}:decide (bY o<0)=o.isNone:=by
 cases o with
 | none=>rfl
 | some k=>exact az (by simp only[bY];omega)
def Jp:IntKind.i64.wrap (0+1)=1/\IntKind.i64.wrap (1+1)=2:=by decide
def am5(s:aG)(c:aL)(Z:ab)(h1:s.bt.length<=100000)(h2:s.vars.length<=100000)(hn:c.al.length<=100000)(hp:c.a8.length<=100000) :
 cF prog 72 [.agg s.enc,.agg c.enc] Z λv σ' => ∃D,Z.aY D=ah/\v = .sl (.tk D) 2 ((qg s c c.al.length++qc c).map aM.enc)/\σ' = Z.ba D (qg s c c.al.length++qc c).length:=by
 have iP:aJ=268435456:=rfl;have hw:(cf c.al).length<=100000:=by rw[r8];exact hn
 refine aif.aP ?_;simp only[aO,am,aX,Nat.reduceAdd,aG.ak,cE,bM];refine cl (Pc c.al Z hn) ?_;simp only[am,b8];have mg:(decide (c.op=6)=aa/\dZ c.op=aa)\/(decide (c.op=6)=aq/\dZ c.op=decide (c.op=7)):=by
  rw[dZ];cases decide (c.op=6)<;>simp
 rcases mg with ⟨k,kv⟩ | ⟨k,kv⟩
 case' inl=>simp only[am,k]
 case' inr=>simp only[am,b8,k]
 all_goals
  refine ct (c.al.length) (λi (D:Nat)=>⟨[.any,.any,.ptr (.au 0) 0,.ptr (.au 1) 0,.any,.sl (.tk D) 2 ((qg s c i).map aM.enc),.sl .no 1 (dh (cf c.al)),.bool (dZ c.op),.int .i64 (i:Nat)]++aj 112 .any,[s.enc,c.enc],Z.ba D (qg s c i).length⟩) (λi D=>(Z.aY D=ah)) λF hF JF aW=>⟨?_,?_,?_⟩
  .refine AG 0 λD a_=>⟨D,cI (aW _ _) a_,?_,?_,?_⟩
   all_goals simp[hF,aj,jG,qg,kv]
  .clear kv k;rintro i D hi a_;have hL:=@WH s c i;have hlen:=@IW s c i;have hg:c.al.getD i ⟨[],0⟩=c.al[i]:=by simp[gy,hi]
   have hR:yf s c i=if c.op=3 then(if fJ s c.al[i].ar=aq then [⟨3,c.al[i].pos⟩] else if kZ s c.al[i].ar=aq then [⟨4,c.al[i].pos⟩] else [])
    else if decide (bY (dt (cf c.al) c.al[i].ar)<(i:Nat))||(dZ c.op&&fJ s c.al[i].ar) then [⟨3,c.al[i].pos⟩] else []:=by rw[yf];simp only[hg]
   simp only[hF,aj,am,ca hi,iH,r8,bM];refine ix (tg hi) ?_;simp only[am,r6,b8]
   by_cases h3:c.op=3
   .rw[aI h3] at hR;simp only[am,aG.ak,aB h3];refine ix (Jv hi) ?_;simp only[am,aG.ak];refine bA.intro (NB s c.al[i].ar _ h1 h2) ?_;simp only[am];cases hv:fJ s c.al[i].ar with
    | false =>
     rw[hv,aI rfl] at hR;simp only[am,Nat.reduceAdd];refine fe (by simp only[aD,da,cZ];omega) (by rw[aD];exact eR) ?_;rw[aD];simp only[am,aK,eJ,bF hi,fx];refine db (D) hi ?_ ?_ ?_ ?_ ?_ ?_
     .exact cI (aW _ _) (a_)
     all_goals simp[hF,aj,am,bd,bK,cp,V.lo,hL,hR,aM.enc,aG.bP,aL.enc,aL.cz]
    | true =>
     rw[hv,aw (by simp)] at hR;simp only[am,aG.ak];refine ix (Jv hi) ?_;simp only[am,aG.ak];refine bA.intro (Bq s c.al[i].ar _ h1) ?_;simp only[am];have hq:decide (bY (fu s.bt c.al[i].ar)<0) = !kZ s c.al[i].ar:=by
      rw[kZ];cases fu s.bt c.al[i].ar with
      | none=>rfl
      | some k=>exact az (by simp only[bY];omega)
     rw[hq];cases hl:kZ s c.al[i].ar with
     | false =>
      rw[hl,aI rfl] at hR;simp only[am,Nat.reduceAdd];refine fe (by simp only[aD,da,cZ];omega) (by rw[aD];exact eR) ?_;rw[aD];simp only[am,aK,eJ,bF hi,fx];refine db (D) hi ?_ ?_ ?_ ?_ ?_ ?_
      .exact cI (aW _ _) (a_)
      all_goals simp[hF,aj,am,bd,bK,cp,V.lo,hL,hR,aM.enc,aG.bP,aL.enc,aL.cz]
     | true =>
      rw[hl,aw (by simp)] at hR;simp only[am,aK];simp only[bF hi];refine db (D) hi ?_ ?_ ?_ ?_ ?_ ?_
      .exact cI (aW _ _) (a_)
      all_goals simp[hF,aj,am,bd,bK,cp,V.lo,hL,hR,aG.bP,aL.enc,aL.cz]
   .rw[aw h3] at hR;simp only[am,az h3];refine ix (Jv hi) ?_;simp only[am];refine bA.intro (yd (cf c.al) c.al[i].ar _ hw) ?_;simp only[am];cases hd:decide (bY (dt (cf c.al) c.al[i].ar)<(i:Nat)) with
    | true =>
     rw[hd,PZ,aI rfl] at hR;simp only[am,Nat.reduceAdd];refine fe (by simp only[aD,da,cZ];omega) (by rw[aD];exact eR) ?_;rw[aD];simp only[am,aK,eJ,bF hi,fx];refine db (D) hi ?_ ?_ ?_ ?_ ?_ ?_
     .exact cI (aW _ _) (a_)
     all_goals simp[hF,aj,am,bd,bK,cp,V.lo,hL,hR,aM.enc,aG.bP,aL.enc,aL.cz]
    | false =>
     rw[hd,ur] at hR;cases hv:dZ c.op with
     | false =>
      rw[hv,yB,aw (by simp)] at hR;simp only[am,aK];simp only[bF hi];refine db (D) hi ?_ ?_ ?_ ?_ ?_ ?_
      .exact cI (aW _ _) (a_)
      all_goals simp[hF,aj,am,bd,bK,cp,V.lo,hL,hR,hv,aG.bP,aL.enc,aL.cz]
     | true =>
      rw[hv,gJ] at hR;simp only[am,aG.ak];refine ix (Jv hi) ?_;simp only[am,aG.ak];refine bA.intro (NB s c.al[i].ar _ h1 h2) ?_;simp only[am];cases hl:fJ s c.al[i].ar with
      | false =>
       rw[hl,aw (by simp)] at hR;simp only[am,aK];simp only[bF hi];refine db (D) hi ?_ ?_ ?_ ?_ ?_ ?_
       .exact cI (aW _ _) (a_)
       all_goals simp[hF,aj,am,bd,bK,cp,V.lo,hL,hR,hv,aG.bP,aL.enc,aL.cz]
      | true =>
       rw[hl,aI rfl] at hR;simp only[am,Nat.reduceAdd];refine fe (by simp only[aD,da,cZ];omega) (by rw[aD];exact eR) ?_;rw[aD];simp only[am,aK,eJ,bF hi,fx];refine db (D) hi ?_ ?_ ?_ ?_ ?_ ?_
       .exact cI (aW _ _) (a_)
       all_goals simp[hF,aj,am,bd,bK,cp,V.lo,hL,hR,hv,aM.enc,aG.bP,aL.enc,aL.cz]
  .clear kv k;rintro D a_;have hlen:=@IW s c c.al.length;have hz:qc c=ph c c.a8.length 0:=by rw[OG,df];rfl
   simp only[hF,aj,am,aK,cy,aK,iH,r8];generalize qg s c c.al.length=L at hlen;have l0:=λj k=>@aro c j k
   have r1:=λ{j} h=>@arq c j h
   have r2:=λ{j} h=>@ars c j h
   have r3:=λ{j} h=>@arp c j h
   have r0:ph c 0 0=[]:=by rw[OG];rfl
   rw[hz];obtain⟨Q,hQ⟩:∃Q:Nat->Nat->List aM,∀j k,Q j k=L++ph c j k:=⟨_,λ_ _=>rfl⟩;have q0:L=Q 0 0:=by rw[hQ,r0,eM]
   have q1:∀{j},(h:j<c.a8.length)->Q j 1=Q j 0++o_ c c.a8[j].1:=λ{j} h=>by rw[hQ,hQ,r1 h,fP]
   have q2:∀{j},(h:j<c.a8.length)->Q j 2=Q j 1++o_ c c.a8[j].2:=λ{j} h=>by rw[hQ,hQ,r2 h,fP]
   have q3:∀{j},(h:j<c.a8.length)->Q (j+1) 0=Q j 2:=λ{j} h=>by rw[hQ,hQ,r3 h]
   have ql:∀j k,(Q j k).length<=400000:=λj k=>by have:=l0 j k;rw[hQ,bW];omega
   have qn:Q c.a8.length 0=L++ph c c.a8.length 0:=hQ _ _;rw[<-qn,q0];clear qn hQ r0 r1 r2 r3 l0 hz;refine ct (c.a8.length) (λj (x:Unit)=>⟨[.any,.any,.ptr (.au 0) 0,.ptr (.au 1) 0,.any,.sl (.tk D) 2 ((Q j 0).map aM.enc),.sl .no 1 (dh (cf c.al)),.any,.any,.any,.int .i64 (j:Nat)]++aj 110 .any,[s.enc,c.enc],Z.ba D (Q j 0).length⟩) (λj x=>(True)) λF2 bT mE cX=>⟨?_,?_,?_⟩
   .refine en cX (()) (trivial) ?_ ?_ ?_
    all_goals simp[bT,aj,am,bd]
   .rintro j x hj -;have q1:=q1 hj;have q2:=q2 hj;have q3:=q3 hj;simp only[bT,aj,am,ca hj,aD,bM];refine ct (2) (λk (y:Unit)=>⟨[.any,.any,.ptr (.au 0) 0,.ptr (.au 1) 0,.any,.sl (.tk D) 2 ((Q j k).map aM.enc),.sl .no 1 (dh (cf c.al)),.any,.any,.any,.int .i64 (j:Nat),.int .i64 (k:Nat)]++aj 109 .any,[s.enc,c.enc],Z.ba D (Q j k).length⟩) (λk y=>(True)) λF3 kp P4 sE=>⟨?_,?_,?_⟩
    .refine en sE (()) (trivial) ?_ ?_ ?_
     all_goals simp[kp,aj,am,bd]
    .rintro k y hk -
     rcases(show k=0\/k=1 by omega) with rfl | rfl
     .have L8:=ql j 0;have hR:o_ c c.a8[j].1=de (dt (cf c.al) c.a8[j].1.ar).isNone 3 c.a8[j].1.pos:=rfl;have hq:=N5 (o:=dt (cf c.al) c.a8[j].1.ar);simp only[kp,aj,am,bL,Int.reduceLT,bM,show((0:Nat):Int)=0 from rfl];refine ix (zJ hj) ?_;simp only[am,cG];refine rI ?_;simp only[am,Int.reduceToNat,Nat.reduceMul,dR];refine cl (yd (cf c.al) c.a8[j].1.ar _ hw) ?_;simp only[am,hq];cases hd:(dt (cf c.al) c.a8[j].1.ar).isNone with
      | true =>
       rw[hd] at hR;simp only[am,bM];refine ix (zJ hj) ?_;simp only[am,cG];refine rI ?_;simp only[am,Nat.reduceAdd,Int.reduceToNat,Nat.reduceMul,dR];refine fe (by simp only[aD,da,cZ];omega) (by rw[aD];exact eR) ?_;rw[aD];simp only[am,aK,eJ,fx,Jp];refine db (()) hk ?_ ?_ ?_ ?_ ?_ ?_
       .exact cI (sE _ _) (trivial)
       all_goals simp[kp,aj,am,bd,bK,cp,V.lo,q1,hR,de,aM.enc,aG.bP,aL.enc,aL.cz]
      | false =>
       rw[hd] at hR;simp only[am,aK,Jp];refine db (()) hk ?_ ?_ ?_ ?_ ?_ ?_
       .exact cI (sE _ _) (trivial)
       all_goals simp[kp,aj,am,bd,bK,cp,V.lo,q1,hR,de,aG.bP,aL.enc,aL.cz]
     .have L8:=ql j 1;have hR:o_ c c.a8[j].2=de (dt (cf c.al) c.a8[j].2.ar).isNone 3 c.a8[j].2.pos:=rfl;have hq:=N5 (o:=dt (cf c.al) c.a8[j].2.ar);simp only[kp,aj,am,bL,Int.reduceLT,bM,show((1:Nat):Int)=1 from rfl];refine ix (zJ hj) ?_;simp only[am,cG];refine rI ?_;simp only[am,Int.reduceToNat,Nat.reduceMul,dR];refine cl (yd (cf c.al) c.a8[j].2.ar _ hw) ?_;simp only[am,hq];cases hd:(dt (cf c.al) c.a8[j].2.ar).isNone with
      | true =>
       rw[hd] at hR;simp only[am,bM];refine ix (zJ hj) ?_;simp only[am,cG];refine rI ?_;simp only[am,Nat.reduceAdd,Int.reduceToNat,Nat.reduceMul,dR];refine fe (by simp only[aD,da,cZ];omega) (by rw[aD];exact eR) ?_;rw[aD];simp only[am,aK,eJ,fx,Jp];refine db (()) hk ?_ ?_ ?_ ?_ ?_ ?_
       .exact cI (sE _ _) (trivial)
       all_goals simp[kp,aj,am,bd,bK,cp,V.lo,q2,hR,de,aM.enc,aG.bP,aL.enc,aL.cz]
      | false =>
       rw[hd] at hR;simp only[am,aK,Jp];refine db (()) hk ?_ ?_ ?_ ?_ ?_ ?_
       .exact cI (sE _ _) (trivial)
       all_goals simp[kp,aj,am,bd,bK,cp,V.lo,q2,hR,de,aG.bP,aL.enc,aL.cz]
    .rintro y -;simp only[kp,aj,am,aK,Nat.reduceEqDiff,c9,aK,Int.reduceLT,show((2:Nat):Int)=2 from rfl,az (show ¬(2:Int)<2 by decide),bF hj];rw[<-q3];refine db (()) hj ?_ ?_ ?_ ?_ ?_ ?_
     .exact cI (cX _ _) (trivial)
     all_goals simp[bT,aj,am,bd,bK,cp,V.lo,aG.bP,aL.enc,aL.cz]
   .rintro x -;simp only[bT,aj,am,aK,cy,aK,aD,bM];exact aqR rfl (ab.bc _) ⟨D,a_,rfl,rfl⟩
def aip:aR prog 81 (sq [rg 6 [ox 3 2 0,ox 4 5 1,oz 7],rg 7 [oz 7],sq [rg 11 [fo 0 4,nB .eql 1],cr 13 14 [ol 2 3,fo 2 4,fo 1 4,om 2,oc 78 [.s 14,.s 16,.s 18,.c (.int .i64 1),.s 19],o1 6]],sq [rg 21 [fo 0 4,nB .eql 7],ci 23 (sq [sq [rg 24 [fo 4 4,nL,nB .gtr 0,gA,om 2,nB .geq 0,gZ],ci 31 (sq [dA 33 [8,9] [fo 0 3,om 2,nA 3 34,nf 1,nl 2,fo 4 4,nI 5 0,nl 5,oC 143 [38,42],o1 32,oe 32 0,oe 32 1,oN,oN,oX 8 8 44,oX 9 2 45],rg 46 [om 7,ol 2 9,n1 2,na 2 46,o1 7]])],rg 50 [om 7,o1 6],.ret])],sq [rg 10 [oi 0],bl 0 (sq [sq [rg 51 [om 10,fo 4 4,nL,nb .lss 51],cx 55 0],.block 1 (dg 58 [om 7,ol 2 3,fo 4 4,om 10,nA 5 61,nl 5,om 2,oC 81 [59,64,65],na 2 58,o1 7]),rg 56 [ic 10]])],rg 68 [om 7,o1 6],.ret]) [.tmp 6] 69:=aS func81
def aex(o:Option Int):mG o=(CJ o).enc:=by cases o<;>rfl
mutual
def Ib{s:aG}{lat:Int}:∀n:Nd,(ja s lat n).length<=n.cJ
 | .mk k p t ws ks => by
  have h1:=@rZ s lat t p 1;have h2:=Uy (s:=s) (lat:=lat) ks;rw[ja,Nd.cJ];split
  .omega
  .split
   .split<;>simp<;>omega
   .omega
def Uy{s:aG}{lat:Int}:∀l:List Nd,(u6 s lat l).length<=gn l
 | []=>by simp[u6]
 | n :: ns => by
  have:=Ib (s:=s) (lat:=lat) n;have:=Uy (s:=s) (lat:=lat) ns
  rw[u6,bW,gn];omega
end
def IT(s:aG)(lat:Int)(hs:s.ok)(iY:lat<s.bt.length):∀(k:Nat) (n:Nd) (Z:ab),n.wt<=k->n.wt<=aJ->n.cJ<=100000 ->
 aT 81 [.agg s.enc,.agg n.enc,.int .i64 lat] Z (.sl .no 2 ((ja s lat n).map aM.enc))
 | 0,n,Z,hk,_,_=>absurd hk (by cases n;simp[Nd.wt];try omega)
 | k + 1, n, Z, hk, hw, hc => by
  refine aip.aP ?_;simp only[aO,yw,Nat.reduceAdd]
  by_cases h1:n.kind=1
  .simp only[am,aG.ak,Nd.fl,aB h1];refine cl (F4 s n.ar n.pos 1 lat Z hs) ?_;simp only[am];exact aN rfl (ab.bc _) ⟨by rw[Fv,aI h1];rfl,rfl⟩
  simp only[am,Nd.fl,az h1]
  by_cases h7:n.kind=7
  .simp only[am,aD,Nd.fl,aD,aB h7];have e7:ja s lat n=if 0<n.ae.length/\0<=lat then [CJ (uK s lat n)] else []:=by rw[Fv,aw h1,aI h7]
   by_cases h0:0<n.ae.length
   case neg =>
    simp only[am,az (show ¬(0:Int)<n.ae.length by omega)];exact aN rfl (ab.bc _) ⟨by rw[e7,aw (λh=>h0 h.1)];rfl,rfl⟩
   simp only[am,aB (show(0:Int)<n.ae.length by omega)]
   by_cases hl:0<=lat
   case neg =>
    simp only[am,az hl];exact aN rfl (ab.bc _) ⟨by rw[e7,aw (λh=>hl h.2)];rfl,rfl⟩
   obtain⟨m,rfl⟩:=vB hl;have an:m<s.bt.length:=by omega
   have hm:n.ae[0]∈n.ae:=dq _;have qI:=lx hm;have qJ:=gw hm;simp only[am,Nat.reduceAdd,bL,Nat.reduceLT,aG.ak,aB hl];refine ix (u7 an) ?_;simp only[am,aG.ak,Nd.fl];refine mh (n:=0) (by omega) (fN (j:=0) (bN h0)) ?_;simp only[am,bJ.ak,Nd.ak];refine bA.intro (Ox s.bt[m].shape n.ae[0] Z (hs.2.2 _ (dq an)) (λm hm=>by obtain⟨a,b,c⟩:=DC (n:=n.ae[0]) (by omega) m hm;exact⟨by omega,by omega,λq hq=>by have:=c q hq;omega⟩) (by omega)) ?_;have ef:uK s (m:Nat) n=(gz s.bt[m].shape n.ae[0]).2:=by rw[uK,gK,DL an,jS h0]
   rw[aex,<-ef];simp only[am,Nat.reduceAdd,aM.ak,bp.ak];refine Ch (by simp[aJ]) λD a_=>?_
   simp only[am];exact aN rfl (gV a_) ⟨by rw[e7,aI ⟨h0,hl⟩];rfl,rfl⟩
  simp only[am,az h7];have wq:=vX n;have ek:ja s lat n=n.ae.flatMap (ja s lat):=by rw[Fv,aw h1,aw h7]
  have uW:=Ib (s:=s) (lat:=lat) n;obtain⟨Q,hQ⟩:∃Q:Nat->List aM,∀i,Q i=(n.ae.take i).flatMap (ja s lat):=⟨_,λ_=>rfl⟩;have uP:Q 0=[]:=by rw[hQ];rfl
  have wc:Q n.ae.length=ja s lat n:=by rw[hQ,df,ek]
  have qC:∀{i:Nat} (hi:i<n.ae.length),Q (i+1)=Q i++ja s lat n.ae[i]:=λ{i} hi=>by
   rw[hQ,hQ,jg hi,py];simp
  have hQm:∀i,i<=n.ae.length->(Q i).length<=(ja s lat n).length:=λi hi=>by
   rw[ek,hQ,<-pA i n.ae,py,bW,pA];omega
  refine ct (n.ae.length) (λi (D:Nat)=>⟨[.any,.any,.int .i64 lat,.ptr (.au 0) 0,.ptr (.au 1) 0,.any,.any,.sl (.tk D) 2 ((Q i).map aM.enc),.any,.any,.int .i64 (i:Nat)]++aj 58 .any,[s.enc,n.enc],Z.ba D (Q i).length⟩) (λi D=>(Z.aY D=ah)) λF hF JF aW=>⟨?_,?_,?_⟩
  .refine AG 0 λD a_=>⟨D,cI (aW _ _) a_,?_,?_,?_⟩
   all_goals simp[hF,aj,jG,uP]
  .rintro i D hi a_;have hm:n.ae[i]∈n.ae:=dq _;have qI:=lx hm;have qJ:=gw hm;have h3:=hQm (i+1) hi;rw[qC hi,bW] at h3;simp only[hF,aj,am,ca hi,aG.ak,Nd.fl,aD];refine ix (fN (bN hi)) ?_;simp only[am,aG.ak,Nd.ak];refine bA.intro (IT s lat hs iY k n.ae[i] _ (by omega) (by omega) (by omega)) ?_;simp only[am];refine vS (by simp[aJ];omega) (by rw[aD];exact eR) ?_;simp only[am,aD,aK,aD,eJ,bF hi];refine db (D) hi ?_ ?_ ?_ ?_ ?_ ?_
   .exact cI (aW _ _) (a_)
   all_goals simp[hF,aj,am,bd,bK,cp,V.lo,qC hi,aG.bP,Nd.bP]
  .rintro D a_;simp only[hF,aj,am,aK,cy,aK,Nd.fl,aD];rw[<-wc];exact aN rfl (gV a_) ⟨rfl,rfl⟩
def aio:aR prog 80 (sq [rg 8 [ox 4 2 0,ox 5 5 1,oz 7],rg 9 [oz 7],sq [rg 16 [fo 0 5,nB .eql 1],cr 18 19 [ol 2 4,fo 2 5,fo 1 5,om 2,oc 78 [.s 19,.s 21,.s 23,.c (.int .i64 2),.s 24],o1 8]],sq [rg 26 [fo 0 5,nB .neq 10],cr 28 8 [oz 7]],sq [rg 10 [oi 0],bl 0 (sq [sq [rg 29 [om 10,fo 4 5,nL,nb .lss 29],cx 33 0],.block 1 (sq [rg 36 [fo 4 5,om 10,nA 5 37,nl 5,oZ 11 [0,0,1,7,10],o2 5 11],sq [rg 12 [oi 0],bl 2 (sq [sq [rg 41 [om 12,om 10,nb .lss 41],cx 43 2],.block 3 (sq [dg 46 [fo 4 5,om 12,nA 5 47,nF 2,fo 2 11,nE .eql 51],ci 54 (rg 55 [om 9,fo 1 11,oG [0,0] [(0,1,.c (.int .i64 4)),(1,1,.s 57)],n1 2,na 2 55,o1 9])]),rg 44 [ic 12]])],rg 13 [oi 0],bl 4 (sq [sq [rg 61 [om 13,fo 4 11,nL,nb .lss 61],cx 65 4],.block 5 (sq [rg 68 [fo 4 11,om 13,nA 5 69,nl 5,oZ 14 [0,0,1,7,10],o2 5 14],rg 73 [fo 0 14,nB .eql 1,gB,fo 0 14,nB .eql 7,gZ],ci 80 (rg 81 [om 9,ol 2 4,ol 5 14,om 2,oC 81 [82,83,84],na 2 81,o1 9])]),rg 66 [ic 13]])]),rg 34 [ic 10]])],sq [rg 15 [oi 0],bl 6 (sq [sq [rg 87 [om 15,fo 3 5,nL,nb .lss 87],cx 91 6],.block 7 (dg 94 [om 9,ol 2 4,fo 3 5,om 15,nA 2 97,nF 0,fo 3 5,om 15,nA 2 103,nF 1,om 2,oc 78 [.s 95,.s 101,.s 107,.c (.int .i64 2),.s 108],na 2 94,o1 9]),rg 92 [ic 15]])],sq [rg 111 [fo 4 5,nL,nB .gtr 16],ci 114 (rg 115 [om 9,om 3,oG [0,0] [(0,1,.c (.int .i64 7)),(1,1,.s 116)],n1 2,na 2 115,o1 9])],rg 120 [om 9,o1 8],.ret]) [.tmp 8] 121:=aS func80
def Kd{s:aG}{lat:Int}{n:Nd}:(m_ s lat n).length<=1:=by
 unfold m_;split
 .rw[Fv];split
  .exact rZ
  .split
   .split<;>simp
   .rename_i h _ _;omega
 .simp
def KC{ks:List Nd}{i k:Nat}:(qA ks i k).length<=k:=by
 have:=v7 (f:=λj=>if (ks.getD j gS).ar=(ks.getD i gS).ar then [(⟨4,(ks.getD i gS).pos⟩:aM)] else []) (m:=1) (l:=List.range k) λ_ _=>by split<;>simp
 simpa [qA] using this
def Sq{s:aG}{lat:Int}{ks:List Nd}{i:Nat}:mF s lat ks (i+1)=mF s lat ks i++Hg s lat ks i:=by
 simp[mF,ga]
def KZ{s:aG}{lat:Int}{ks:List Nd}(h:∀k∈ks,k.ae.length<=8000)(h2:ks.length<=8000):∀{m:Nat},m<=ks.length->(mF s lat ks m).length<=m*16000
 | 0,_=>by simp[mF]
 | m + 1, hm => by
  have ih:=KZ (s:=s) (lat:=lat) h h2 (m:=m) (by omega);have h3:=@KC ks m m;have h4:=v7 (f:=m_ s lat) (m:=1) (l:=(ks.getD m gS).ae) λ_ _=>Kd
  have h5:=h _ (dq (show m<ks.length by omega));rw[jS (show m<ks.length by omega)] at h4;rw[Sq,Hg,bW,bW,jS (show m<ks.length by omega)];omega
def WV(s:aG)(lat p:Int)(n:Nd)(Z:ab)(hs:s.ok)(iY:lat<s.bt.length)(hc:Aq n)(hw:n.wt<=aJ) :
 aT 80 [.agg s.enc,.agg n.enc,.int .i64 lat,.int .i64 p] Z (.sl .no 2 ((sY s lat p n).map aM.enc)):=by
 refine aio.aP ?_;simp only[aO,yw,Nat.reduceAdd]
 by_cases h1:n.kind=1
 .simp only[am,aG.ak,Nd.fl,aB h1];refine cl (F4 s n.ar n.pos 2 lat Z hs) ?_;simp only[am];exact aN rfl (ab.bc _) ⟨by rw[sY,aI h1];rfl,rfl⟩
 simp only[am,Nd.fl,az h1]
 by_cases ec:n.kind=10
 case neg =>
  simp only[am,az ec];exact aN rfl (ab.bc _) ⟨by rw[sY,aw h1,aw ec];rfl,rfl⟩
 simp only[am,aB ec];have A':sY s lat p n=mF s lat n.ae n.ae.length++mw s lat n.al++(if 16<n.ae.length then [⟨7,p⟩] else []):=by rw[sY,aw h1,aI ec]
 have wq:=hc.k;have uW:=hc.ns;have ey:=hc.kk;have Tw:=hc.c;have l_:∀{i:Nat},i<=n.ae.length->(mF s lat n.ae i).length<=i*16000:=λ{i} hi=>KZ ey (by omega) hi
 refine ct (n.ae.length) (λi (D:Nat)=>⟨[.any,.any,.int .i64 lat,.int .i64 p,.ptr (.au 0) 0,.ptr (.au 1) 0,.any,.any,.any,.sl (.tk D) 2 ((mF s lat n.ae i).map aM.enc),.int .i64 (i:Nat)]++aj 110 .any,[s.enc,n.enc],Z.ba D (mF s lat n.ae i).length⟩) (λi D=>(Z.aY D=ah)) λF hF JF aW=>⟨?_,?_,?_⟩
 .refine AG 0 λD a_=>⟨D,cI (aW _ _) a_,?_,?_,?_⟩
  all_goals simp[hF,aj,jG,mF]
 .rintro i D hi a_;have hm:n.ae[i]∈n.ae:=dq _;have qI:=lx hm;have qJ:=gw hm;have qF:=ey _ hm;have hL:=l_ (Ec hi);have zg:n.ae.getD i gS=n.ae[i]:=jS hi;simp only[hF,aj,am,ca hi,Nd.fl,aD];refine ix (fN (bN hi)) ?_;simp only[am,Nat.reduceAdd,Nd.ak];refine ct (i) (λj (y:Unit)=>⟨[.any,.any,.int .i64 lat,.int .i64 p,.ptr (.au 0) 0,.ptr (.au 1) 0,.any,.any,.any,.sl (.tk D) 2 ((mF s lat n.ae i++qA n.ae i j).map aM.enc),.int .i64 (i:Nat),.ptr (.au 2) 0,.int .i64 (j:Nat)]++aj 108 .any,[s.enc,n.enc,n.ae[i].enc],Z.ba D (mF s lat n.ae i++qA n.ae i j).length⟩) (λj y=>(True)) λF2 bT mE cX=>⟨?_,?_,?_⟩
  .refine en cX (()) (trivial) ?_ ?_ ?_
   all_goals simp[bT,aj,am,bd,qA]
  .rintro j y hj -;have hD:=@KC n.ae i j;have ed:qA n.ae i (j+1)=qA n.ae i j++if n.ae[j].ar=n.ae[i].ar then [⟨4,n.ae[i].pos⟩] else []:=by
    rw[qA,qA,ga,py,jS hi];simp[show j<n.ae.length by omega]
   simp only[bT,aj,am,ca hj,Nd.fl];refine ix (fN (bN (show j<n.ae.length by omega))) ?_;simp only[am,Nd.fl]
   by_cases he:n.ae[j].ar=n.ae[i].ar
   .rw[aI he] at ed;simp only[am,Nat.reduceAdd,Nd.fl,aB he];refine fe (by simp[aJ];omega) (by rw[aD];exact eR) ?_;simp only[am,aD,aK,aD,eJ,bF hj];refine db (()) hj ?_ ?_ ?_ ?_ ?_ ?_
    .exact cI (cX _ _) (trivial)
    all_goals simp[bT,aj,am,bd,bK,cp,V.lo,ed,fP,yH,aM.enc,aG.bP,Nd.bP]
   .rw[aw he,eM] at ed;simp only[am,aK,az he,bF hj];refine db (()) hj ?_ ?_ ?_ ?_ ?_ ?_
    .exact cI (cX _ _) (trivial)
    all_goals simp[bT,aj,am,bd,bK,cp,V.lo,ed,aG.bP,Nd.bP]
  .rintro y -;have hD:=@KC n.ae i i;simp only[bT,aj,am,aK,cy,Nat.reduceEqDiff,aK,reduceCtorEq];refine ct (n.ae[i].ae.length) (λj (y:Unit)=>⟨[.any,.any,.int .i64 lat,.int .i64 p,.ptr (.au 0) 0,.ptr (.au 1) 0,.any,.any,.any,.sl (.tk D) 2 ((mF s lat n.ae i++qA n.ae i i++(n.ae[i].ae.take j).flatMap (m_ s lat)).map aM.enc),.int .i64 (i:Nat),.ptr (.au 2) 0,.any,.int .i64 (j:Nat)]++aj 107 .any,[s.enc,n.enc,n.ae[i].enc],Z.ba D (mF s lat n.ae i++qA n.ae i i++(n.ae[i].ae.take j).flatMap (m_ s lat)).length⟩) (λj y=>(True)) λF3 kp P4 sE=>⟨?_,?_,?_⟩
   .refine en sE (()) (trivial) ?_ ?_ ?_
    all_goals simp[kp,aj,am,bd]
   .rintro j y hk -;have sK:n.ae[i].ae[j]∈n.ae[i].ae:=dq _;have L_:=lx sK;have Ma:=gw sK;have Hw:((n.ae[i].ae.take j).flatMap (m_ s lat)).length<=8000:=by
     have:=v7 (f:=m_ s lat) (m:=1) (l:=n.ae[i].ae.take j) λ_ _=>Kd
     rw[qw,iu] at this;omega
    have hA:=@Kd s lat n.ae[i].ae[j];have ft:=Ey (f:=m_ s lat) hk;simp only[kp,aj,am,ca hk,Nd.fl,aD];refine ix (fN (bN hk)) ?_;simp only[am,Nat.reduceAdd,Nd.ak,Nd.fl];have TJ:=λZ=>IT s lat hs iY _ n.ae[i].ae[j] Z (b7 _) (by omega) (by omega)
    by_cases rq : n.ae[i].ae[j].kind=1
    .have ea:m_ s lat n.ae[i].ae[j]=ja s lat n.ae[i].ae[j]:=by rw[m_,aI (.inl rq)]
     rw[ea] at hA ft;simp only[am,aG.ak,Nd.ak,aB rq];refine cl (TJ _) ?_;simp only[am];refine fe (by simp only[bW,aD,aJ] at *;omega) (by rw[aD];exact eR) ?_;simp only[am,aD,aK,aD,eJ,bF hk];refine db (()) hk ?_ ?_ ?_ ?_ ?_ ?_
     .exact cI (sE _ _) (trivial)
     all_goals simp[kp,aj,am,bd,bK,cp,V.lo,ft,fP,yH,aG.bP,Nd.bP]
    simp only[am,Nd.fl,az rq]
    by_cases Ht : n.ae[i].ae[j].kind=7
    .have ea:m_ s lat n.ae[i].ae[j]=ja s lat n.ae[i].ae[j]:=by rw[m_,aI (.inr Ht)]
     rw[ea] at hA ft;simp only[am,aG.ak,Nd.ak,aB Ht];refine cl (TJ _) ?_;simp only[am];refine fe (by simp only[bW,aD,aJ] at *;omega) (by rw[aD];exact eR) ?_;simp only[am,aD,aK,aD,eJ,bF hk];refine db (()) hk ?_ ?_ ?_ ?_ ?_ ?_
     .exact cI (sE _ _) (trivial)
     all_goals simp[kp,aj,am,bd,bK,cp,V.lo,ft,fP,yH,aG.bP,Nd.bP]
    .have ea:m_ s lat n.ae[i].ae[j]=[]:=by rw[m_,aw (λh=>h.elim rq Ht)]
     rw[ea,eM] at ft;simp only[am,aK,az Ht,bF hk];refine db (()) hk ?_ ?_ ?_ ?_ ?_ ?_
     .exact cI (sE _ _) (trivial)
     all_goals simp[kp,aj,am,bd,bK,cp,V.lo,ft,aG.bP,Nd.bP]
   .rintro y -;have ef:mF s lat n.ae (i+1)=mF s lat n.ae i++qA n.ae i i++n.ae[i].ae.flatMap (m_ s lat):=by rw[Sq,Hg,zg,fP]
    simp only[kp,aj,am,aK,cy,Nat.reduceEqDiff,aK,reduceCtorEq,Nd.fl,aD,df,bF hi];refine db (D) hi ?_ ?_ ?_ ?_ ?_ ?_
    .exact cI (aW _ _) (a_)
    all_goals simp[hF,aj,am,bd,bK,cp,V.lo,ef,aG.bP,Nd.bP]
 .rintro D a_;simp only[hF,aj,am,aK,cy,aK,Nd.fl,aD];have hL:=l_ (b7 n.ae.length);refine ct (n.al.length) (λj (y:Unit)=>⟨[.any,.any,.int .i64 lat,.int .i64 p,.ptr (.au 0) 0,.ptr (.au 1) 0,.any,.any,.any,.sl (.tk D) 2 ((mF s lat n.ae n.ae.length++mw s lat (n.al.take j)).map aM.enc),.any,.any,.any,.any,.any,.int .i64 (j:Nat)]++aj 105 .any,[s.enc,n.enc],Z.ba D (mF s lat n.ae n.ae.length++mw s lat (n.al.take j)).length⟩) (λj y=>(True)) λF2 bT mE cX=>⟨?_,?_,?_⟩
  .refine en cX (()) (trivial) ?_ ?_ ?_
   all_goals simp[bT,aj,am,bd,mw]
  .rintro j y hj -;have hT:(mw s lat (n.al.take j)).length<=40000:=by
    have:=v7 (f:=λw:aF=>fE s lat w.ar w.pos 2) (m:=1) (l:=n.al.take j) λ_ _=>rZ
    rw[qw,iu] at this;rw[mw];omega
   have hA:=@rZ s lat n.al[j].ar n.al[j].pos 2;have ft:mw s lat (n.al.take (j+1))=mw s lat (n.al.take j)++fE s lat n.al[j].ar n.al[j].pos 2:=Ey (f:=λw:aF=>fE s lat w.ar w.pos 2) hj;simp only[bT,aj,am,ca hj,aG.ak,Nd.fl,aD];refine ix (tg hj) ?_;simp only[am,td,Nd.fl];refine ix (tg hj) ?_;simp only[am,r6,aG.ak];refine bA.intro (F4 s n.al[j].ar n.al[j].pos 2 lat _ hs) ?_;simp only[am];refine vS (by simp only[bW,aD,aJ] at *;omega) (by rw[aD];exact eR) ?_;simp only[am,aD,aK,aD,eJ,bF hj];refine db (()) hj ?_ ?_ ?_ ?_ ?_ ?_
   .exact cI (cX _ _) (trivial)
   all_goals simp[bT,aj,am,bd,bK,cp,V.lo,ft,fP,yH,aG.bP,Nd.bP]
  .rintro y -;have hT:(mw s lat n.al).length<=40000:=by
    have:=v7 (f:=λw:aF=>fE s lat w.ar w.pos 2) (m:=1) (l:=n.al) λ_ _=>rZ
    rw[qw] at this;rw[mw];omega
   simp only[bT,aj,am,aK,cy,aK,Nd.fl,aD,df]
   by_cases uO:16<n.ae.length
   .simp only[am,Nat.reduceAdd,aB (show(16:Int)<n.ae.length by omega)];refine fe (by simp only[bW,aD,fx,aJ] at *;omega) (by rw[aD];exact eR) ?_;simp only[am,aD,aD,eJ];rw[aI uO] at A';exact aN rfl (gV a_) ⟨by simp only[A',jf];rfl,rfl⟩
   .simp only[am,az (show ¬(16:Int)<n.ae.length by omega)];rw[aw uO,eM] at A';exact aN rfl (gV a_) ⟨by rw[A'];rfl,rfl⟩
variable{k n:Nat}{Z:ab}
def S1{dJ:ab}{D:Nat}(h:dJ.sub Z)(a_:Z.aY D=ah)(e:n=k):Gr dJ (Z.ba D n) (.tk D) k:=by
 have h0:dJ.aY D=none:=by
  cases hq:dJ.aY D with
  | none=>rfl
  | some m=>rw[h.2.1 D m hq] at a_;simp at a_
 exact⟨⟨λb cs hb=>h.1 b cs hb,λt m hm=>by
  have:=h.2.1 t m hm
  rw[zR];exact this;rintro rfl;rw[a_] at this;simp at this,h.2.2⟩,.inr ⟨D,rfl,by rw[<-e];exact eR,h0⟩⟩
def ahc:aR prog 26 (sq [rg 0 [ox 2 2 0,ox 3 17 1,oZ 4 [0,0]],sq [rg 7 [fo 0 3,nB .eql 10],cr 9 10 [ol 2 2,of 2 3,nF 0,of 2 3,nF 1,oc 78 [.s 10,.s 13,.s 16,.c (.int .i64 2),.c (.int .i64 (-1))],oC 28 [17],o2 2 4]],sq [rg 19 [fo 0 3,nB .eql 15],cr 21 22 [ol 2 2,of 2 3,nF 0,of 2 3,nF 1,oc 78 [.s 22,.s 25,.s 28,.c (.int .i64 1),.c (.int .i64 (-1))],oC 28 [29],o2 2 4]],sq [rg 31 [fo 0 3,nB .neq 8,gA,fo 0 3,nB .neq 9,gZ],cr 38 39 [oW [0,0] [],o2 2 4]],rg 5 [oz 7],rg 40 [ol 2 2,of 2 3,nF 0,oC 74 [40,43],o1 6],sq [rg 45 [om 6,nB .lss 0,gA,ol 2 2,of 2 3,nF 0,oC 79 [48,51],nB .lss 0,gZ],cd 54 (rg 55 [om 5,of 2 3,nF 1,oG [0,0] [(0,1,.c (.int .i64 3)),(1,1,.s 58)],n1 2,na 2 55,o1 5]) (sq [rg 62 [om 6,nB .lss 0],ci 63 (rg 64 [om 5,of 2 3,nF 1,oG [0,0] [(0,1,.c (.int .i64 4)),(1,1,.s 67)],n1 2,na 2 64,o1 5])])],sq [rg 71 [fo 0 3,nB .eql 9],ci 73 (sq [rg 74 [om 5,ol 2 2,of 7 3,nl 5,om 6,fo 1 3,oC 80 [75,77,78,80],na 2 74,o1 5],rg 83 [om 5,ol 2 2,of 12 3,nl 5,om 6,fo 1 3,oC 80 [84,86,87,89],na 2 83,o1 5],rg 92 [om 5,oC 28 [92],o2 2 4],.ret])],rg 94 [om 5,ol 2 2,of 7 3,nl 5,om 6,oC 81 [95,97,98],na 2 94,o1 5],rg 101 [om 5,ol 2 2,of 12 3,nl 5,om 6,oC 81 [102,104,105],na 2 101,o1 5],sq [rg 108 [of 12 3,nF 0,nB .eql 8,gB,of 12 3,nF 0,nB .eql 9,gZ],ci 117 (rg 118 [om 5,of 12 3,nF 1,oG [0,0] [(0,1,.c (.int .i64 6)),(1,1,.s 121)],n1 2,na 2 118,o1 5])],rg 125 [om 5,oC 28 [125],o2 2 4],.ret]) [.cell 4 aa 2] 127:=aS func26
def WL{s:aG}{lat p:Int}{n:Nd}(hc:Aq n):(sY s lat p n).length<=128050000:=by
 have ey:=hc.kk;have wq:=hc.k;have uW:=hc.ns;unfold sY;split
 .have:=@rZ s lat n.ar n.pos 2;omega
 .split
  .have h1:=KZ (s:=s) (lat:=lat) ey (by omega) (b7 _);have h2:=@I_ s lat n.al;rw[bW,bW];split
   .rw[fx];omega
   .rw[cZ];omega
  .exact ux _
def IV{tk:Tk}{L:List (List V)}(l:List aM)(Z:ab)(e:L=l.map aM.enc)(hl:l.length<=268000000):aT 28 [.sl tk 2 L] Z (.agg (fS l).enc):=by
 subst e;exact cF.cY (as' := [.sl .no 2 (l.map aM.enc)]) (IU l Z hl) ⟨dr.no,trivial⟩ br.rfl
def WC(s:aG)(c:aL)(hs:s.ok)(hl:Aq c.left)(hr:Aq c.right)(jW:c.left.wt<=aJ)(oH:c.right.wt<=aJ):
 aT 26 [.agg s.enc,.agg c.enc] Z (.agg (iN s c).enc):=by
 refine ahc.aP ?_;simp only[aO,am,aX,Nat.reduceAdd,Int.reduceNeg,cE,b8,aG.ak]
 by_cases ec:c.op=10
 .simp only[am,Nat.reduceAdd,Int.reduceNeg,bM,lU,aG.ak,aB ec];refine cl (F4 s c.name.ar c.name.pos 2 (-1) Z hs) ?_;simp only[am,Int.reduceNeg];refine cl (IU _ Z (vK rZ (by decide))) ?_;simp only[am,Int.reduceNeg,aM.ak];exact aN rfl (ab.bc _) ⟨by rw[<-Ev,xq,aI ec];rfl,rfl⟩
 simp only[am,Int.reduceNeg,b8,az ec]
 by_cases sB:c.op=15
 .simp only[am,Nat.reduceAdd,Int.reduceNeg,bM,lU,aG.ak,aB sB];refine cl (F4 s c.name.ar c.name.pos 1 (-1) Z hs) ?_;simp only[am,Int.reduceNeg];refine cl (IU _ Z (vK rZ (by decide))) ?_;simp only[am,Int.reduceNeg,aM.ak];exact aN rfl (ab.bc _) ⟨by rw[<-Ev,xq,aw ec,aI sB];rfl,rfl⟩
 simp only[am,Int.reduceNeg,b8,az sB];have an:cN s c<s.bt.length:=by
  rw[cN];cases h:fu s.bt c.name.ar with
  | none=>simp only[bY];omega
  | some k=>have:=(y3 h).1;simp only[bY];omega
 have zero:c.op≠8->c.op≠9->xq s c=[]:=λh h' => by rw[xq,aw ec,aw sB,aw h,aw h']
 by_cases EJ:c.op=8\/c.op=9
 case neg =>
  have n8:¬c.op=8:=λh=>EJ (.inl h)
  have n9:¬c.op=9:=λh=>EJ (.inr h)
  simp only[am,Nat.reduceAdd,b8,az n8,az n9];exact aN rfl (ab.bc _) ⟨by rw[<-Ev,zero n8 n9];rfl,rfl⟩
 by_cases h9:c.op=9
 case' pos =>
  have h8:¬c.op=8:=by omega
  simp only[am,b8,bM,aG.ak,az h8,aB h9]
 case' neg =>
  have h8:c.op=8:=by omega
  simp only[am,bM,aG.ak,aB h8]
 all_goals
  refine cl (Bq s c.name.ar Z hs.1) ?_;have eI:bY (fu s.bt c.name.ar)=cN s c:=rfl;rw[eI];have LH:(cN s c<0/\iw s.vars c.name.ar=ah/\fc s c.name=[⟨3,c.name.pos⟩])\/(cN s c<0/\(∃v,iw s.vars c.name.ar=U v)/\fc s c.name=[⟨4,c.name.pos⟩])\/(¬cN s c<0/\fc s c.name=[]):=by
   rw[cN,fc];cases fu s.bt c.name.ar with
   | none=>cases iw s.vars c.name.ar<;>simp[bY]
   | some k=>right;right;simp[bY]
  rcases LH with ⟨hn,hv,eL⟩ | ⟨hn,⟨v,hv⟩,eL⟩ | ⟨hn,eL⟩
  case' inl =>
   simp only[am,bM,aG.ak,aB hn];refine cl (yp s c.name.ar Z hs.2.1) ?_;rw[hv];simp only[am,Nat.reduceAdd,bL,Int.reduceNeg,Int.reduceLT,lU,bY];refine Ch (by simp[aJ]) λD a_=>?_
   simp only[am,Int.reduceNeg,b8];have hG:Gr Z (Z.ba D 1) (.tk D) (fc s c.name).length:=S1 (ab.bc _) a_ (by rw[eL];rfl);have e5:V.sl (.tk D) 2 [[.int .i64 3,.int .i64 c.name.pos]]=V.sl (.tk D) 2 ((fc s c.name).map aM.enc):=by rw[eL];rfl
   rw[e5]
  case' inr.inl =>
   simp only[am,bM,aG.ak,aB hn];refine cl (yp s c.name.ar Z hs.2.1) ?_;rw[hv];simp only[am,Nat.reduceAdd,lU,bY,az (show ¬((v:Nat):Int)<0 by omega),aB hn];refine Ch (by simp[aJ]) λD a_=>?_
   simp only[am,b8];have hG:Gr Z (Z.ba D 1) (.tk D) (fc s c.name).length:=S1 (ab.bc _) a_ (by rw[eL];rfl);have e5:V.sl (.tk D) 2 [[.int .i64 4,.int .i64 c.name.pos]]=V.sl (.tk D) 2 ((fc s c.name).map aM.enc):=by rw[eL];rfl
   rw[e5]
  case' inr.inr =>
   simp only[am,b8,az hn];have hG:Gr Z Z .a9 (fc s c.name).length:=by rw[eL];exact Gr.nil
   have e5:V.sl .a9 2 []=V.sl .a9 2 ((fc s c.name).map aM.enc):=by rw[eL];rfl
   rw[e5]
 all_goals
  have q3:=@UD s c.name
 iterate 3
  have A7:=hl.c;have hrc:=hr.c;have q1:=Ib (s:=s) (lat:=cN s c) c.left;have q2:=Ib (s:=s) (lat:=cN s c) c.right;simp only[am,Int.reduceNeg,bM,aG.ak,Nd.ak,az h9];refine cl (IT s _ hs an _ c.left _ (b7 _) jW hl.c) ?_;simp only[am,Int.reduceNeg];refine Gr.app (by simpa using hG) (by simp[aJ];omega) λtk1 bR Le _ _=>?_
  simp only[am,Int.reduceNeg,bM,aG.ak,Nd.ak];refine cl (IT s _ hs an _ c.right _ (b7 _) oH hr.c) ?_;simp only[am,Int.reduceNeg];refine Gr.app Le (by simp[aJ];omega) λtk2 gX Hu _ _=>?_
  simp only[am,Int.reduceNeg,lU];have fin:∀{t:List V} {l:List (List V)} {σ' : ab} {D'':List aM},Z.sub σ' -> fc s c.name++ja s (cN s c) c.left++ja s (cN s c) c.right++tz c.right=D''->jx (λv σ' => v = .agg (iN s c).enc/\σ' = Z) ⟨t,l,σ'⟩ (.agg (fS D'').enc):=λh e =>
   aN rfl h ⟨by rw[<-Ev,xq,aw ec,aw sB,aI h8,e];rfl,rfl⟩
  by_cases k8:c.right.kind=8
  case' pos =>
   have eD:tz c.right=[⟨6,c.right.pos⟩]:=by rw[tz,aI (.inl k8)]
   simp only[am,Nat.reduceAdd,Int.reduceNeg,lU,aB k8]
  case' neg =>
   by_cases k9:c.right.kind=9
   case' pos =>
    have eD:tz c.right=[⟨6,c.right.pos⟩]:=by rw[tz,aI (.inr k9)]
    simp only[am,Nat.reduceAdd,Int.reduceNeg,lU,az k8,aB k9]
   case' neg =>
    simp only[am,Int.reduceNeg,lU,az k8,az k9];refine cl (IV (fc s c.name++ja s (cN s c) c.left++ja s (cN s c) c.right) _ (by simp) (by simp;omega)) ?_;simp only[am,Int.reduceNeg,aM.ak];exact fin Hu.sub (by rw[tz,aw (by omega),eM])
  iterate 2
   refine Gr.app Hu (by simp[aJ];omega) λtk3 Ae Lf _ _=>?_
   simp only[am,Int.reduceNeg];refine cl (IV (fc s c.name++ja s (cN s c) c.left++ja s (cN s c) c.right++[⟨6,c.right.pos⟩]) _ (by simp[aM.enc]) (by simp;omega)) ?_;simp only[am,Int.reduceNeg,aM.ak];exact fin Lf.sub (by rw[eD])
 all_goals
  have q1:=WL (s:=s) (lat:=cN s c) (p:=c.pos) hl;have q2:=WL (s:=s) (lat:=cN s c) (p:=c.pos) hr;simp only[am,Int.reduceNeg,b8,bM,aG.ak,Nd.ak,aB h9];refine cl (WV s _ c.pos c.left _ hs an hl jW) ?_;simp only[am,Int.reduceNeg];refine Gr.app (by simpa using hG) (by simp[aJ];omega) λtk1 bR Le _ _=>?_
  simp only[am,Int.reduceNeg,b8,bM,aG.ak,Nd.ak];refine cl (WV s _ c.pos c.right _ hs an hr oH) ?_;simp only[am,Int.reduceNeg];refine Gr.app Le (by simp[aJ];omega) λtk2 gX Hu _ _=>?_
  simp only[am,Int.reduceNeg];refine cl (IV (fc s c.name++sY s (cN s c) c.pos c.left++sY s (cN s c) c.pos c.right) _ (by simp) (by simp;omega)) ?_;simp only[am,Int.reduceNeg,aM.ak];exact aN rfl Hu.sub ⟨by rw[<-Ev,xq,aw ec,aw sB,aw h8,aI h9];rfl,rfl⟩
def ag3:aR prog 25 (sq [rg 0 [ox 2 2 0,ox 3 17 1,oZ 4 [0,0]],sq [rg 9 [fo 0 3,nB .lss 1,gB,fo 0 3,nB .gtr 7,gZ],cr 16 17 [oW [0,0] [],o2 2 4]],rg 18 [ol 2 2,ol 17 3,oC 72 [18,19],o1 5],rg 21 [fo 4 3,nL,o1 6],rg 24 [fo 0 3,nB .eql 6,gB,fo 0 3,nB .eql 7,gZ,o1 7],sq [rg 32 [om 7,ol 2 2,of 2 3,nF 0,oC 73 [33,36],oq (.tt aa (.s 32) (.s 37))],cd 38 (rg 39 [om 5,of 2 3,nF 1,oG [0,0] [(0,1,.c (.int .i64 3)),(1,1,.s 42)],n1 2,na 2 39,o1 5]) (sq [rg 46 [om 7,gA,ol 2 2,of 2 3,nF 0,oC 74 [48,51],nB .lss 0,gZ],ci 54 (rg 55 [om 5,of 2 3,nF 1,oG [0,0] [(0,1,.c (.int .i64 4)),(1,1,.s 58)],n1 2,na 2 55,o1 5])])],sq [.kK (rg 62 [fo 0 3,nB .eql 5,gA,om 6,nB .leq 64,gZ,gA,ol 17 3,oC 76 [70],oC 75 [71],nn,gZ]),ci 74 (rg 75 [om 5,fo 6 3,oG [0,0] [(0,1,.c (.int .i64 5)),(1,1,.s 77)],n1 2,na 2 75,o1 5])],.kK (rg 8 [oi 64]),sq [rg 81 [fo 0 3,nB .eql 4],ci 83 (rg 8 [oi 8])],sq [rg 84 [fo 0 3,nB .eql 3],ci 86 (sq [rg 8 [oi 8],rg 87 [ol 2 2,ol 17 3,oC 77 [87,88],ow 1 89,nL,o1 6]])],sq [.kK (rg 92 [om 7,nn,nm,og 94 (om 6),og 94 (om 8),og 94 (nb .gtr 95),og 94 (nm),oh 98 (of 0 2),oh 98 (no),oh 98 (nL),oh 98 (nB .geq 16),og 94 (oq (.pick (.s 98) (.c (.bool aa)) (.s 102))),oy 94 103,nm,oh 105 (om 7),oh 105 (nm),og 107 (of 1 2),og 107 (no),og 107 (nL),og 107 (om 6),og 107 (nb .add 110),og 107 (nB .gtr 64),oh 105 (oy 107 113),oq (.pick (.s 105) (.c (.bool aa)) (.s 114))]),ci 115 (rg 116 [om 5,fo 1 3,oG [0,0] [(0,1,.c (.int .i64 7)),(1,1,.s 118)],n1 2,na 2 116,o1 5])],.kK (rg 122 [om 5,oC 28 [122],o2 2 4]),.ret]) [.cell 4 aa 2] 124:=aS func25 ⟨[],[10,12,18,20]⟩
def apD{c:aL}:(qc c).length<=2*c.a8.length:=IG
def ava:=af @am <| af @bL <| af @c9 @aG.ak
def arw(s:aG)(c:aL)(hs:s.x9)(hn:c.al.length<=100000)(hp:c.a8.length<=100000):
 aT 25 [.agg s.enc,.agg c.enc] Z (.agg (lq s c).enc):=by
 have iP:aJ=268435456:=rfl;have hrn:=@IW s c c.al.length;have me:=@apD c;have z:∀(t:List V) (lo:List (List V)),(mj c.op||dZ c.op)=aq->jx (λv σ' => v = .agg (lq s c).enc/\σ' = Z) ⟨t,lo,Z⟩ (.agg [.int .i64 0,.int .i64 0]):=λt lo h =>
  aN rfl (ab.bc _) ⟨by rw[lq,h];rfl,rfl⟩
 refine ag3.aP ?_;simp only[aO,am,aX,Nat.reduceAdd,aG.ak,cE,b8]
 by_cases h1:c.op<1
 .simp only[am,Nat.reduceAdd,aB h1];exact z _ _ (by simp only[mj,dZ,w9,B3,uH];omega)
 simp only[am,b8,az h1]
 by_cases h7:7<c.op
 .simp only[am,Nat.reduceAdd,aB h7];exact z _ _ (by simp only[mj,dZ,w9,B3,uH];omega)
 simp only[am,aG.ak,cE,az h7];clear z;have hlv:(mj c.op||dZ c.op)=true:=by simp only[mj,dZ,mU,b_,eb];omega
 rw[<-arv hlv];refine(am5 s c Z hs.1.1 hs.1.2.1 hn hp).mono ?_;rintro v σ' ⟨D,a_,rfl,rfl⟩;have mg:(decide (c.op=6)=aa/\dZ c.op=aa)\/(decide (c.op=6)=aq/\decide (c.op=7)=aa/\dZ c.op=aa)\/(decide (c.op=6)=aq/\decide (c.op=7)=aq/\dZ c.op=aq):=by
  rw[dZ];cases decide (c.op=6)<;>cases decide (c.op=7)<;>simp
 generalize Tc:qg s c c.al.length++qc c=L0;have A6:L0.length<=300000:=by rw[<-Tc,bW];omega
 have xJ:(pg s c).length<=1:=by
  unfold pg
  repeat' split
  all_goals simp
 have hq:decide (bY (fu s.bt c.name.ar)<0) = !kZ s c.name.ar:=by rw[N5,kZ];cases fu s.bt c.name.ar<;>rfl
 apply jn
 .intro J
  rcases mg with ⟨k,kv⟩ | ⟨k,k2,kv⟩ | ⟨k,k2,kv⟩
  case' inl=>simp only[am,aD,aG.ak,aD,b8,bM,k]
  case' inr.inl=>simp only[am,aD,aG.ak,aD,b8,bM,k,k2]
  case' inr.inr=>simp only[am,aD,aG.ak,aD,b8,bM,k,k2]
  all_goals
   have hd:=@pg.eq_1 s c;rw[kv] at hd;refine cl (NB s c.name.ar _ hs.1.1 hs.1.2.1) ?_;cases hv:fJ s c.name.ar
   all_goals
    rw[hv] at hd;simp only[ava,Nat.reduceAdd,reduceCtorEq,bM,lU]
  .refine a7.cY (t' := [.any,.any,.ptr (.au 0) 0,.ptr (.au 1) 0,.ptr (.au 2) 0,.sl (.tk D) 2 ((L0++pg s c).map aM.enc),.int .i64 (c.al.length:Nat),.bool (dZ c.op)]++aj 116 .any) (l' := [s.enc,c.enc,[.int .i64 0,.int .i64 0]]) (σ' := Z.ba D (L0++pg s c).length) ?_ ?_ ?_ J.o
   all_goals simp[aj,am,kv,hd,bd]
  .refine fe (by simp only[aD,da,cZ];omega) (by rw[aD];exact eR) ?_;rw[aD];simp only[am,eJ,fx];refine a7.cY (t' := [.any,.any,.ptr (.au 0) 0,.ptr (.au 1) 0,.ptr (.au 2) 0,.sl (.tk D) 2 ((L0++pg s c).map aM.enc),.int .i64 (c.al.length:Nat),.bool (dZ c.op)]++aj 116 .any) (l' := [s.enc,c.enc,[.int .i64 0,.int .i64 0]]) (σ' := Z.ba D (L0++pg s c).length) ?_ ?_ ?_ J.o
   all_goals simp[aj,am,kv,hd,aM.enc,bd]
  iterate 2
   .refine fe (by simp only[aD,da,cZ];omega) (by rw[aD];exact eR) ?_;rw[aD];simp only[am,eJ,fx];refine a7.cY (t' := [.any,.any,.ptr (.au 0) 0,.ptr (.au 1) 0,.ptr (.au 2) 0,.sl (.tk D) 2 ((L0++pg s c).map aM.enc),.int .i64 (c.al.length:Nat),.bool (dZ c.op)]++aj 116 .any) (l' := [s.enc,c.enc,[.int .i64 0,.int .i64 0]]) (σ' := Z.ba D (L0++pg s c).length) ?_ ?_ ?_ J.o
    all_goals simp[aj,am,kv,hd,aM.enc,bd]
   .refine cl (Bq s c.name.ar _ hs.1.1) ?_;simp only[am,hq];cases hl:kZ s c.name.ar
    all_goals
     rw[hl] at hd;simp only[am,Nat.reduceAdd,lU]
    .refine fe (by simp only[aD,da,cZ];omega) (by rw[aD];exact eR) ?_;rw[aD];simp only[am,eJ,fx];refine a7.cY (t' := [.any,.any,.ptr (.au 0) 0,.ptr (.au 1) 0,.ptr (.au 2) 0,.sl (.tk D) 2 ((L0++pg s c).map aM.enc),.int .i64 (c.al.length:Nat),.bool (dZ c.op)]++aj 116 .any) (l' := [s.enc,c.enc,[.int .i64 0,.int .i64 0]]) (σ' := Z.ba D (L0++pg s c).length) ?_ ?_ ?_ J.o
     all_goals simp[aj,am,kv,hd,aM.enc,bd]
    .refine a7.cY (t' := [.any,.any,.ptr (.au 0) 0,.ptr (.au 1) 0,.ptr (.au 2) 0,.sl (.tk D) 2 ((L0++pg s c).map aM.enc),.int .i64 (c.al.length:Nat),.bool (dZ c.op)]++aj 116 .any) (l' := [s.enc,c.enc,[.int .i64 0,.int .i64 0]]) (σ' := Z.ba D (L0++pg s c).length) ?_ ?_ ?_ J.o
     all_goals simp[aj,am,kv,hd,bd]
 clear mg;generalize Td:L0++pg s c=L1;have xJ:L1.length<=300001:=by rw[<-Td,bW];omega
 apply jn
 .intro J;have hd:=@lj.eq_1 c
  by_cases h5:c.op=5
  case neg =>
   rw[aw λh=>h5 h.1] at hd;simp only[am,b8,aj,az h5];refine a7.cY (t' := [.any,.any,.ptr (.au 0) 0,.ptr (.au 1) 0,.ptr (.au 2) 0,.sl (.tk D) 2 ((L1++lj c).map aM.enc),.int .i64 (c.al.length:Nat),.bool (dZ c.op)]++aj 116 .any) (l' := [s.enc,c.enc,[.int .i64 0,.int .i64 0]]) (σ' := Z.ba D (L1++lj c).length) ?_ ?_ ?_ J.o
   all_goals simp[aj,am,hd,bd]
  by_cases xB:c.al.length<=64
  case neg =>
   rw[aw λh=>xB h.2] at hd;simp only[am,b8,aj,aB h5,az (show ¬((c.al.length:Nat):Int)<=64 by omega)];refine a7.cY (t' := [.any,.any,.ptr (.au 0) 0,.ptr (.au 1) 0,.ptr (.au 2) 0,.sl (.tk D) 2 ((L1++lj c).map aM.enc),.int .i64 (c.al.length:Nat),.bool (dZ c.op)]++aj 116 .any) (l' := [s.enc,c.enc,[.int .i64 0,.int .i64 0]]) (σ' := Z.ba D (L1++lj c).length) ?_ ?_ ?_ J.o
   all_goals simp[aj,am,hd,bd]
  rw[aI ⟨h5,xB⟩] at hd;simp only[am,cE,b8,aj,aB h5,aB (show((c.al.length:Nat):Int)<=64 by omega)];refine cl (Ow c _ hn hp) ?_;simp only[am,Rl.ak];refine cl (WG (sX c) _) ?_;simp only[am];cases hl:ky (sX c)
  all_goals
   rw[hl] at hd;simp only[am,Nat.reduceAdd,bM]
  .refine fe (by simp only[aD,da,cZ];omega) (by rw[aD];exact eR) ?_;rw[aD];simp only[am,eJ,fx];refine a7.cY (t' := [.any,.any,.ptr (.au 0) 0,.ptr (.au 1) 0,.ptr (.au 2) 0,.sl (.tk D) 2 ((L1++lj c).map aM.enc),.int .i64 (c.al.length:Nat),.bool (dZ c.op)]++aj 116 .any) (l' := [s.enc,c.enc,[.int .i64 0,.int .i64 0]]) (σ' := Z.ba D (L1++lj c).length) ?_ ?_ ?_ J.o
   all_goals simp[aj,am,hd,de,aM.enc,bd]
  .refine a7.cY (t' := [.any,.any,.ptr (.au 0) 0,.ptr (.au 1) 0,.ptr (.au 2) 0,.sl (.tk D) 2 ((L1++lj c).map aM.enc),.int .i64 (c.al.length:Nat),.bool (dZ c.op)]++aj 116 .any) (l' := [s.enc,c.enc,[.int .i64 0,.int .i64 0]]) (σ' := Z.ba D (L1++lj c).length) ?_ ?_ ?_ J.o
   all_goals simp[aj,am,hd,de,bd]
 have gf:=@VG c;generalize Hw:L1++lj c=L2;have gf:L2.length<=300002:=by rw[<-Hw,bW];omega
 obtain⟨N,hN⟩:∃N:Nat,N=if c.op=3 then(sW s c).bB.length else c.al.length:=⟨_,rfl⟩
 obtain⟨M,hM⟩:∃M:Int,M=if c.op=3 then 8 else if c.op=4 then 8 else 64:=⟨_,rfl⟩
 have es:c.op=3->uj s c=sW s c:=λh=>by simp[uj,h]
 apply jn
 .intro J
  by_cases h4:c.op=4
  case pos =>
   have e3:¬c.op=3:=by omega
   rw[aw e3] at hN;rw[aw e3,aI h4] at hM;simp only[am,b8,aj,aB h4,az e3];refine a7.cY (t' := [.any,.any,.ptr (.au 0) 0,.ptr (.au 1) 0,.ptr (.au 2) 0,.sl (.tk D) 2 ((L2).map aM.enc),.int .i64 (N:Nat),.bool (dZ c.op),.int .i64 M]++aj 115 .any) (l' := [s.enc,c.enc,[.int .i64 0,.int .i64 0]]) (σ' := Z.ba D (L2).length) ?_ ?_ ?_ J.o
   all_goals simp[aj,am,hM,hN,bd]
  rw[aw h4] at hM
  by_cases h3:c.op=3
  .have es:=es h3;rw[aI h3] at hM hN;simp only[am,aG.ak,cE,b8,aj,az h4,aB h3];refine cl (asi s c _ hs hn hp) ?_;rw[es];simp only[am,aD,bJ.ak,aD];refine a7.cY (t' := [.any,.any,.ptr (.au 0) 0,.ptr (.au 1) 0,.ptr (.au 2) 0,.sl (.tk D) 2 ((L2).map aM.enc),.int .i64 (N:Nat),.bool (dZ c.op),.int .i64 M]++aj 115 .any) (l' := [s.enc,c.enc,[.int .i64 0,.int .i64 0]]) (σ' := Z.ba D (L2).length) ?_ ?_ ?_ J.o
   all_goals simp[aj,am,hM,hN,bd]
  .rw[aw h3] at hM hN;simp only[am,b8,aj,az h4,az h3];refine a7.cY (t' := [.any,.any,.ptr (.au 0) 0,.ptr (.au 1) 0,.ptr (.au 2) 0,.sl (.tk D) 2 ((L2).map aM.enc),.int .i64 (N:Nat),.bool (dZ c.op),.int .i64 M]++aj 115 .any) (l' := [s.enc,c.enc,[.int .i64 0,.int .i64 0]]) (σ' := Z.ba D (L2).length) ?_ ?_ ?_ J.o
   all_goals simp[aj,am,hM,hN,bd]
 clear es;have hB:=@qf.eq_1 s c;rw[<-hM,<-hN] at hB;have hv6:dZ c.op=aa->c.al.length=N:=λh=>by
  rw[hN,aw];intro h3;rw[h3] at h;simp[dZ] at h
 have oD:=hs.1.2.1;apply jn
 .intro J;cases hv:dZ c.op with
  | true =>
   have HR := hv6 hv;rw[hv,HR] at hB;simp only[Bool.not_true,yB,gJ,ur] at hB;have hw:IntKind.i64.wrap ((s.vars.length:Nat)+(N:Nat))=(s.vars.length:Nat)+(N:Nat):=wrap_i64 (by omega) (by omega);simp only[am,aD,aG.ak,aD,aj,hw];cases hd:decide ((64:Int)<(s.vars.length:Nat)+(N:Nat))
   all_goals
    rw[hd] at hB;simp only[am,Nat.reduceAdd,b8]
   .refine a7.cY (t' := [.any,.any,.ptr (.au 0) 0,.ptr (.au 1) 0,.ptr (.au 2) 0,.sl (.tk D) 2 ((L2++de (qf s c) 7 c.pos).map aM.enc)]++aj 118 .any) (l' := [s.enc,c.enc,[.int .i64 0,.int .i64 0]]) (σ' := Z.ba D (L2++de (qf s c) 7 c.pos).length) ?_ ?_ ?_ J.o
    all_goals simp[aj,am,hB,de,bd]
   .refine fe (by simp only[aD,da,cZ];omega) (by rw[aD];exact eR) ?_;rw[aD];simp only[am,eJ,fx];refine a7.cY (t' := [.any,.any,.ptr (.au 0) 0,.ptr (.au 1) 0,.ptr (.au 2) 0,.sl (.tk D) 2 ((L2++de (qf s c) 7 c.pos).map aM.enc)]++aj 118 .any) (l' := [s.enc,c.enc,[.int .i64 0,.int .i64 0]]) (σ' := Z.ba D (L2++de (qf s c) 7 c.pos).length) ?_ ?_ ?_ J.o
    all_goals simp[aj,am,hB,de,aM.enc,bd]
  | false =>
   rw[hv] at hB;simp only[Bool.not_false,yB,gJ,JD] at hB;simp only[am,aj];cases hd:decide (M<((N:Nat):Int))
   all_goals
    rw[hd] at hB;simp only[am,Nat.reduceAdd,aD,aG.ak,aD,b8]
   .rw[ur] at hB;cases AW:decide ((16:Int)<=(s.bt.length:Nat))
    all_goals
     rw[AW] at hB;simp only[am,Nat.reduceAdd,b8]
    .refine a7.cY (t' := [.any,.any,.ptr (.au 0) 0,.ptr (.au 1) 0,.ptr (.au 2) 0,.sl (.tk D) 2 ((L2++de (qf s c) 7 c.pos).map aM.enc)]++aj 118 .any) (l' := [s.enc,c.enc,[.int .i64 0,.int .i64 0]]) (σ' := Z.ba D (L2++de (qf s c) 7 c.pos).length) ?_ ?_ ?_ J.o
     all_goals simp[aj,am,hB,de,bd]
    .refine fe (by simp only[aD,da,cZ];omega) (by rw[aD];exact eR) ?_;rw[aD];simp only[am,eJ,fx];refine a7.cY (t' := [.any,.any,.ptr (.au 0) 0,.ptr (.au 1) 0,.ptr (.au 2) 0,.sl (.tk D) 2 ((L2++de (qf s c) 7 c.pos).map aM.enc)]++aj 118 .any) (l' := [s.enc,c.enc,[.int .i64 0,.int .i64 0]]) (σ' := Z.ba D (L2++de (qf s c) 7 c.pos).length) ?_ ?_ ?_ J.o
     all_goals simp[aj,am,hB,de,aM.enc,bd]
   .rw[PZ] at hB;refine fe (by simp only[aD,da,cZ];omega) (by rw[aD];exact eR) ?_;rw[aD];simp only[am,eJ,fx];refine a7.cY (t' := [.any,.any,.ptr (.au 0) 0,.ptr (.au 1) 0,.ptr (.au 2) 0,.sl (.tk D) 2 ((L2++de (qf s c) 7 c.pos).map aM.enc)]++aj 118 .any) (l' := [s.enc,c.enc,[.int .i64 0,.int .i64 0]]) (σ' := Z.ba D (L2++de (qf s c) 7 c.pos).length) ?_ ?_ ?_ J.o
    all_goals simp[aj,am,hB,de,aM.enc,bd]
 have tL:=@pn (qf s c) 7 c.pos;have rB:L2++de (qf s c) 7 c.pos=F1 s c:=by rw[<-Hw,<-Td,<-Tc,F1]
 rw[rB];simp only[am,aj];refine cl (IV (F1 s c) _ rfl (by rw[<-rB,bW];omega)) ?_;simp only[am,aM.ak];exact aN rfl (gV a_) ⟨rfl,rfl⟩
def aiq:aR prog 82 (sq [rg 2 [oz 1],rg 3 [oz 1],sq [rg 4 [oi 0],bl 0 (sq [sq [rg 5 [nm,om 0,nL,nb .lss 5],cx 8 0],.block 1 (sq [sq [rg 11 [om 4,nB .gtr 0],ci 12 (rg 13 [om 3,oq (.cat (.s 13) (.c (.aH [44]))),o1 3])],rg 15 [om 3,om 0,om 4,nA 2 16,nF 0,oq (.cat (.s 15) (.s 20)),o1 3]]),rg 9 [ic 4]])],rg 22 [om 3,o1 2],.ret]) [.tmp 2] 23:=aS func82
def afk:aR prog 145 (sq [rg 2 [oz 2],sq [rg 3 [oi 0],bl 0 (sq [sq [rg 4 [nm,om 0,nL,nb .lss 4],cx 7 0],.block 1 (sq [rg 10 [om 0,om 3,nA 2 10,nF 0,oC 127 [14],nn],cr 16 2 [oz 2]]),rg 8 [ic 3]])],rg 2 [oq (.mv (.c (.bool aa)))],.ret]) [.tmp 2] 17:=aS func145
def afl:aR prog 146 (sq [rg 4 [oz 2],rg 7 [om 0,oC 70 [7],o1 5],sq [rg 6 [oi 0],bl 0 (sq [sq [rg 9 [om 6,om 5,nT,nb .lss 9],cx 12 0],.block 1 (sq [rg 15 [om 5,om 6,nS 15,om 1,nb .eql 17],cr 19 4 [oq (.mv (.c (.bool aa)))]]),rg 13 [ic 6]])],rg 4 [oz 2],.ret]) [.tmp 4] 20:=aS func146
def afo:aR prog 149 (sq [rg 2 [ox 1 5 0,oz 2],rg 3 [ol 5 1,oW [0,0,1,7,10] [],oC 88 [3,4],o1 2],.ret]) [.tmp 2] 6:=aS func149
def MI(w:List aF)(Z:ab)(i:Nat):St :=
 ⟨[.sl .no 2 (w.map aF.enc),.any,.any,.aH (cC ((w.map aF.ar).take i)),.int .i64 (i:Nat)]++aj 18 .any,[],Z⟩
def Yg(w:List aF)(Z:ab)(hw:eK w<=aJ):aT 82 [.sl .no 2 (w.map aF.enc)] Z (.aH (kg w)):=by
 have hl:=(DE w).2;have hs:=(DE w).1;simp only[aJ] at hw;refine aiq.aP ?_;simp only[aO,am,aX,Nat.reduceAdd];refine dP (λp:{i:Nat // i<=w.length}=>MI w Z p.1) (λp=>w.length - p.1) ?_ ?_
 .refine a7.enter ⟨0,by simp⟩ ?_ bV.rfl br.rfl;simp[MI,aj,am,cC]
 rintro⟨i,hi⟩;simp only[MI,aj,am,aD];refine cO ?_ ?_
 .intro an;have an:i<w.length:=by simpa using an
  have dp:=H8 (L:=w.map aF.ar) (i:=i) (by simpa using an);have hle:=H9 (w.map aF.ar) (i+1);have wi:IntKind.i64.wrap ((i:Int)+1)=(i:Int)+1:=wrap_i64 (by omega) (by omega);rw[Ca] at dp;rw[dp] at hle;simp only[bW] at hle;simp only[am]
  by_cases h0:0<i
  case' pos =>
   rw[aI h0] at dp hle;simp only[da,cZ] at hle;simp only[am,aB (show(0:Int)<i by omega)];refine⟨by simp[aJ];omega,?_⟩
  case' neg =>
   rw[aw h0] at dp hle;simp only[cZ,eM] at hle dp;simp only[am,az (show ¬(0:Int)<i by omega)]
  all_goals
   refine ix (mB (bN an)) ?_;simp only[am,aF.enc];refine⟨by simp[aJ];omega,?_⟩;simp only[wi];exact a7.again ⟨i+1,an⟩ (by simp;omega) (by simp[am,dp]) bV.rfl br.rfl
 intro an;have an:i=w.length:=by simp at an;omega
 subst an;rw[show(w.map aF.ar).take w.length=w.map aF.ar by rw[<-aD (f:=aF.ar),df]];simp only[am];refine aC ?_;simp[V.erase,kg]
def gu(op:Int)(k:UInt8):Bool:=(dc op).2.any (· == k)
def CS(op:Int)(k:UInt8):gu op k=decide (0<fj op k):=by
 unfold gu fj;generalize (dc op).2=ks;induction ks with
 | nil=>simp
 | cons x xs ih =>
  rw[P6,ih,List.count_cons]
  by_cases h:x=k
  .simp[h]
  .simp[h]
def M7(op:Int)(k:UInt8)(ks:List UInt8)(Z:ab)(i:Nat):St :=
 ⟨[.any,.int .u8 (k.toNat:Nat),.any,.any,.any,.aH ks,.int .i64 (i:Nat)]++aj 13 .any,[],Z⟩
def y_(op:Int)(k:UInt8)(Z:ab):aT 146 [.int .i64 op,.int .u8 (k.toNat:Nat)] Z (.bool (gu op k)):=by
 have kT:=EE op;refine afl.aP ?_;simp only[aO,am,aX,Nat.reduceAdd];refine cl (Nv op Z) ?_;simp only[am];have hh:gu op k=(dc op).2.any (· == k):=rfl;generalize (dc op).2=ks at kT hh ⊢;refine dP (λp:{i:Nat // i<=ks.length/\(ks.take i).any (· == k)=aq}=>M7 op k ks Z p.1) (λp=>ks.length - p.1) ?_ ?_
 .refine a7.enter ⟨0,by simp,by simp⟩ ?_ bV.rfl br.rfl;simp[M7,aj,am]
 rintro⟨i,hi,ha⟩;simp only[M7,aj,am];refine cO ?_ ?_
 .intro an;have an:i<ks.length:=by simpa using an
  have ey:((ks[i].toNat:Nat):Int)=(k.toNat:Nat)↔ks[i]=k:=by
   constructor
   .intro h;exact Eg.1 (by omega)
   .intro h;rw[h]
  simp only[am];refine pX (s7 an) ?_;simp only[am]
  by_cases he:ks[i]=k
  .simp only[am,aB (ey.2 he)]
   have:ks.any (· == k)=true:=uu.2 ⟨ks[i],dq an,by simp[he]⟩
   refine aC ?_;simp[V.erase,hh,this]
  .simp only[am,az (λh=>he (ey.1 h))];rw[wrap_i64];refine a7.again ⟨i+1,an,?_⟩ (by simp;omega) (by simp[am]) bV.rfl br.rfl;rw[List.take_add_one,bN an,List.any_append,ha];simp[he]
 intro an;have an:i=ks.length:=by simp at an;omega
 subst an;rw[df] at ha;simp only[am];refine aC ?_;simp[V.erase,hh,ha]
def MH(l:List aF)(D:Tk)(Z:ab)(i:Nat):St :=
 ⟨[.sl D 2 (l.map aF.enc),.any,.any,.int .i64 (i:Nat)]++aj 13 .any,[],Z⟩
def XY{D:Tk}(l:List aF)(Z:ab)(hb:l.length<=aJ):aT 145 [.sl D 2 (l.map aF.enc)] Z (.bool (je l)):=by
 simp only[aJ] at hb;refine afk.aP ?_;simp only[aO,am,aX,Nat.reduceAdd];refine dP (λp:{i:Nat // i<=l.length/\(l.take i).all (λw=>dO w.ar)=aa}=>MH l D Z p.1) (λp=>l.length - p.1) ?_ ?_
 .refine a7.enter ⟨0,by simp,by simp⟩ ?_ bV.rfl br.rfl;simp[MH,aj,am]
 .rintro⟨i,hi,ha⟩;simp only[MH,aj,am,aD];refine cO ?_ ?_
  .intro an;have an:i<l.length:=by simpa using an
   simp only[am];refine ix (mB (bN an)) ?_;simp only[am,aF.enc];refine cl (wP l[i].ar Z) ?_;cases hg:dO l[i].ar
   .simp only[am];refine aN rfl (ab.bc _) ⟨?_,rfl⟩;rw[show je l=aq from xl (f:=λ(w:aF)=>dO w.ar) an hg];rfl
   .simp only[am];rw[wrap_i64];exact a7.again ⟨i+1,an,by rw[yv an,ha,hg];rfl⟩ (by simp;omega) (by simp[am]) bV.rfl br.rfl
  .intro an;have an:i=l.length:=by simp at an;omega
   subst an;rw[df] at ha;simp only[am];refine aC ?_;simp[V.erase,je,ha]
def YE(n:Nd)(Z:ab)(hw:n.wt<=aJ):aT 149 [.agg n.enc] Z (.bool (n.mo .zero)):=by
 have h:aT 88 [.agg n.enc,.agg [.int .i64 0,.int .i64 0,.aH [],.sl .a9 2 [],.sl .a9 5 []]] Z (.bool (n.mo .zero)):=by
  refine cF.cY (I3 _ n .zero Z (b7 _) hw) ?_ br.rfl;simp only[c_,dr.rfl,gM,mA];rw[<-YF];exact dr.erase (v:=.agg [.int .i64 0,.int .i64 0,.aH [],.sl .a9 2 [],.sl .a9 5 []])
 refine afo.aP ?_;simp only[aO,am,aX,Nat.reduceAdd,Nd.ak];refine cl (h) ?_;simp only[am];exact rt
def ais:aR prog 84 (sq [rg 2 [ox 1 17 0,oz 2],sq [rg 6 [fo 0 1,nB .lss 0,gB,fo 0 1,nB .gtr 15,gZ,gB,fo 4 1,oC 145 [16],nn,gZ],cr 19 2 [oz 2]],sq [rg 3 [oi 0],bl 0 (sq [sq [rg 20 [om 3,fo 5 1,nL,nb .lss 20],cx 24 0],.block 1 (sq [dg 27 [fo 5 1,om 3,nA 4 28,oQ 2 2 30 0,nl 2,fo 5 1,om 3,nA 4 34,oQ 2 2 36 1,nl 2,oq (.km 2 [(.s 32),(.s 38)]),oC 145 [39],nn],cr 41 2 [oz 2]]),rg 25 [ic 3]])],dg 42 [fo 0 1,oc 146 [.s 43,.c (.int .u8 102)],of 0 1,mM [0],no,oc 146 [.s 46,.c (.int .u8 119)],ot 4 44,o1 5],sq [dg 48 [fo 0 1,oc 146 [.s 49,.c (.int .u8 110)],of 2 1,nf 0,mM [0],no,oC 127 [53],oq (.tt aa (.s 50) (.s 54)),nm,oh 56 (of 0 1),oh 56 (no),oh 56 (oc 146 [.s 58,.c (.int .u8 110)]),oh 56 (nn),oh 56 (nm),og 61 (of 2 1),og 61 (nf 0),og 61 (no),og 61 (oq (.kQ .neq (.s 64) (.c (.aH [])))),oh 56 (oy 61 65),oq (.pick (.s 56) (.c (.bool aa)) (.s 66)),nm,oh 68 (om 4),oh 68 (nm),og 70 (of 4 1),og 70 (no),og 70 (nL),og 70 (nB .neq 1),oh 68 (oy 70 74),oq (.pick (.s 68) (.c (.bool aa)) (.s 75)),nm,oh 77 (om 5),oh 77 (nm),og 79 (of 4 1),og 79 (no),og 79 (nL),og 79 (nB .eql 0),oh 77 (oy 79 83),oq (.pick (.s 77) (.c (.bool aa)) (.s 84)),nm,oh 86 (om 4),oh 86 (nn),oh 86 (nm),og 89 (om 5),og 89 (nn),oh 86 (oy 89 91),oh 86 (nm),og 93 (of 4 1),og 93 (no),og 93 (nL),og 93 (nB .gtr 0),oh 86 (oy 93 97),oq (.pick (.s 86) (.c (.bool aa)) (.s 98)),nm,oh 100 (of 0 1),oh 100 (no),oh 100 (oc 146 [.s 102,.c (.int .u8 112)]),oh 100 (nn),oh 100 (nm),og 105 (of 5 1),og 105 (no),og 105 (nL),og 105 (nB .gtr 0),oh 100 (oy 105 109),oq (.pick (.s 100) (.c (.bool aa)) (.s 110))],cr 111 2 [oz 2]],sq [rg 112 [fo 0 1,oc 146 [.s 113,.c (.int .u8 116)]],cr 114 115 [of 7 1,nl 5,oC 147 [116],gA,of 12 1,nl 5,oC 147 [120],gZ,o1 2]],sq [rg 123 [fo 0 1,oc 146 [.s 124,.c (.int .u8 114)]],cr 125 126 [of 7 1,nl 5,oC 148 [127],gA,of 12 1,nl 5,oC 148 [131],gZ,o1 2]],rg 134 [of 7 1,nl 5,oC 149 [135],gA,of 12 1,nl 5,oC 149 [139],gZ,o1 2],.ret]) [.tmp 2] 142:=aS func84
def sm(c:aL):Bool :=
 (gu c.op 110 != dO c.name.ar)||(!gu c.op 110&&!decide (c.name.ar=[]))||(gu c.op 102&&!decide (c.al.length=1))||(gu c.op 119&&decide (c.al.length=0)) ||
  (!gu c.op 102&&!gu c.op 119&&decide (0<c.al.length))||(!gu c.op 112&&decide (0<c.a8.length))
def wW(c:aL):Bool:=if gu c.op 116=aa then c.left.ff&&c.right.ff else if gu c.op 114=aa then c.left.kH&&c.right.kH else c.left.mo .zero&&c.right.mo .zero
def zO(c:aL):Bool:=decide (0<=c.op/\c.op<=15)&&je c.al&&c.a8.all nJ&&!sm c&&wW c
def aqY(c:aL):zO c=c.qe:=by
 unfold zO aL.qe
 by_cases ho:0<=c.op/\c.op<=15
 case neg=>simp[ho]
 have ajJ:¬(0<fj c.op 119/\0<fj c.op 102):=by
  have key:∀n<16,¬(0<fj ((n:Nat):Int) 119/\0<fj ((n:Nat):Int) 102):=by decide +kernel
  have:=key c.op.toNat (by omega)
  rwa [show((c.op.toNat:Nat):Int)=c.op by omega] at this
 have hn:(!(gu c.op 110 != dO c.name.ar)&&!(!gu c.op 110&&!decide (c.name.ar=[])))=c.zE:=by
  unfold aL.zE;rw[CS]
  by_cases h:fj c.op 110=0
  .rw[aI h,h]
   by_cases he:c.name.ar=[]
   .simp[he,show dO []=aq by decide]
   .simp[he]
  .rw[aw h,aB (show 0<fj c.op 110 by omega)];simp
 have C6:(je c.al&&!(gu c.op 102&&!decide (c.al.length=1))&&!(gu c.op 119&&decide (c.al.length=0))&&!(!gu c.op 102&&!gu c.op 119&&decide (0<c.al.length)))=c.ub:=by
  have he:ua (c.al.map aF.ar)=je c.al:=by simp only[ua,List.all_map];rfl
  unfold aL.ub;rw[CS,CS,he]
  by_cases h1:0<fj c.op 119
  .have h2:¬0<fj c.op 102:=λh=>ajJ ⟨h1,h⟩
   rw[aI h1,aB h1,az h2]
   by_cases h3:c.al.length=0
   .simp[h3]
   .simp[h3,show 0<c.al.length by omega]
  .rw[aw h1,az h1]
   by_cases h2:0<fj c.op 102
   .rw[aI h2,aB h2];simp[Bool.and_comm]
   .rw[aw h2,az h2]
    by_cases h3:c.al.length=0
    .have:c.al=[]:=vG.1 h3
     simp[this,je]
    .simp[h3,show 0<c.al.length by omega]
 have hp:(c.a8.all nJ&&!(!gu c.op 112&&decide (0<c.a8.length)))=c.wL:=by
  unfold aL.wL;rw[CS]
  by_cases h:fj c.op 112=0
  .rw[aI h,h]
   by_cases h3:c.a8.length=0
   .have:c.a8=[]:=vG.1 h3
    simp[this]
   .simp[h3,show 0<c.a8.length by omega]
  .rw[aw h,aB (show 0<fj c.op 112 by omega)];simp
 have ht:wW c=c.rX:=by
  unfold wW aL.rX;rw[CS,CS];simp only[eb]
 rw[<-hn,<-C6,<-hp,ht];unfold sm;generalize c.rX=t;generalize c.a8.all nJ=p;generalize je c.al=w;generalize (gu c.op 110 != dO c.name.ar)=b1;generalize (!gu c.op 110&&!decide (c.name.ar=[]))=b2;generalize (gu c.op 102&&!decide (c.al.length=1))=b3;generalize (gu c.op 119&&decide (c.al.length=0))=b4;generalize (!gu c.op 102&&!gu c.op 119&&decide (0<c.al.length))=b5;generalize (!gu c.op 112&&decide (0<c.a8.length))=b6;simp only[ho,and_self,bL,gJ];cases t<;>cases p<;>cases w<;>cases b1<;>cases b2<;>cases b3<;>cases b4<;>cases b5<;>cases b6<;>rfl
def Fm(c:aL)(Z:ab)(i:Nat):St :=
 ⟨[.any,.ptr (.au 0) 0,.any,.int .i64 (i:Nat)]++aj 138 .any,[c.enc],Z⟩
def aqW(c:aL)(Z:ab)(hn:c.al.length+1<=aJ)(hp:c.a8.length+1<=aJ)(hl:c.left.wt<=aJ)(hr:c.right.wt<=aJ):aT 84 [.agg c.enc] Z (.bool c.qe):=by
 simp only[aJ] at hn hp;rw[<-aqY];refine ais.aP ?_;simp only[aO,am,aX,Nat.reduceAdd,cE,b8]
 by_cases k1:c.op<0
 .simp only[am,aB k1];refine aC ?_;simp[V.erase,zO,show ¬(0<=c.op/\c.op<=15) by omega]
 simp only[am,b8,az k1]
 by_cases k2:15<c.op
 .simp only[am,aB k2];refine aC ?_;simp[V.erase,zO,show ¬(0<=c.op/\c.op<=15) by omega]
 have k3:0<=c.op/\c.op<=15:=by omega
 simp only[am,bM,az k2];refine cl (XY c.al Z (by simp only[aJ];omega)) ?_;simp only[am];cases q1:je c.al
 .simp only[am];refine aC ?_;simp[V.erase,zO,q1]
 simp only[am];refine dP (λp:{i:Nat // i<=c.a8.length/\(c.a8.take i).all nJ=aa}=>Fm c Z p.1) (λp=>c.a8.length - p.1) ?_ ?_
 .refine a7.enter ⟨0,by simp,by simp⟩ ?_ bV.rfl br.rfl;simp[Fm,aj,am]
 rintro⟨i,hi,ha⟩;simp only[Fm,aj,am,bM,aD]
 by_cases an:i<c.a8.length
 .simp only[am,bM,aB (show(i:Int)<c.a8.length by omega)];refine ix (uh (bN an)) ?_;simp only[am,cG];refine rI ?_;simp only[am,Int.reduceToNat,Nat.reduceMul,bM,dR];refine ix (uh (bN an)) ?_;simp only[am,cG];refine rI ?_;simp only[am,Nat.reduceAdd,Int.reduceToNat,Nat.reduceMul,dR];refine bA.intro (XY (D:=.a9) [c.a8[i].1,c.a8[i].2] Z (by simp[aJ])) ?_;have kU:je [c.a8[i].1,c.a8[i].2]=nJ c.a8[i]:=by simp[je,nJ]
  simp only[am,kU];cases q:nJ c.a8[i]
  .simp only[am]
   have:c.a8.all nJ=false:=xl (f:=nJ) an q
   refine aC ?_;simp[V.erase,zO,this]
  .simp only[am];rw[wrap_i64];exact a7.again (I:=λp:{i:Nat // i<=c.a8.length/\(c.a8.take i).all nJ=aa}=>Fm c Z p.1) (μ:=λp=>c.a8.length - p.1) ⟨i+1,an,by rw[yv an,ha,q];rfl⟩ (by simp;omega) (by simp[aj,am,Fm]) bV.rfl br.rfl
 .have an:i=c.a8.length:=by omega
  subst an;rw[df] at ha;simp only[am,b8,az (show ¬(c.a8.length:Int)<c.a8.length by omega)];have hq:zO c=(!sm c&&wW c):=by simp[zO,k3,q1,ha]
  rw[hq];refine bA.intro (y_ c.op 102 Z) ?_;simp only[am,b8];refine bA.intro (y_ c.op 119 Z) ?_;simp only[am,b8];refine bA.intro (y_ c.op 110 Z) ?_;simp only[am,bM];refine bA.intro (wP c.name.ar Z) ?_;simp only[am]
  by_cases e1:gu c.op 110=dO c.name.ar
  case' neg =>
   simp only[am,bM,az e1];refine aC ?_;simp[V.erase,sm,e1]
  case' pos =>
   simp only[am,b8,aB e1];refine bA.intro (y_ c.op 110 Z) ?_;simp only[am];cases ap6:gu c.op 110
   case' false =>
    simp only[am,bM]
    by_cases e2:c.name.ar=[]
    case' neg =>
     simp only[am,bM,az e2];refine aC ?_;simp[V.erase,sm,ap6,e2]
    case' pos =>
     simp only[am,aB e2]
   case' true =>
    simp only[am]
  all_goals
   cases Wi:gu c.op 102
   case' true =>
    simp only[am,aD,bM,aD]
    by_cases e3:c.al.length=1
    case' neg =>
     simp only[am,bM,az (show ¬(c.al.length:Int)=1 by omega)];refine aC ?_;simp[V.erase,sm,Wi,e3]
    case' pos =>
     simp only[am,aB (show(c.al.length:Int)=1 by omega)]
   case' false =>
    simp only[am]
  all_goals
   cases Wj:gu c.op 119
   case' true =>
    simp only[am,aD,bM,aD]
    by_cases e4:c.al.length=0
    case' pos =>
     simp only[am,bM,aB (show(c.al.length:Int)=0 by omega)];refine aC ?_;simp[V.erase,sm,Wj,e4]
    case' neg =>
     simp only[am,b8,az (show ¬(c.al.length:Int)=0 by omega)]
   case' false =>
    simp only[am,aD,b8,bM,aD]
  all_goals
   have RM : (gu c.op 110 != dO c.name.ar)=false:=by simp[e1]
   clear e1
   first
    | refine bA.intro (y_ c.op 112 Z) ?_
    | by_cases e5 : 0 < c.al.length
      case' pos =>
       simp only[am,bM,aB (show(0:Int)<c.al.length by omega)];have hb:sm c=true:=by simp[sm,Wi,Wj,e5]
       refine aC ?_;simp[V.erase,hb]
      case' neg =>
       simp only[am,b8,az (show ¬(0:Int)<c.al.length by omega)];refine bA.intro (y_ c.op 112 Z) ?_
  all_goals
   simp only[am];cases ap7:gu c.op 112
   case' false =>
    simp only[am,aD,bM,aD]
    by_cases e6:0<c.a8.length
    case' pos =>
     simp only[am,aB (show(0:Int)<c.a8.length by omega)];have hb:sm c=true:=by simp[sm,ap7,e6]
     refine aC ?_;simp[V.erase,hb]
    case' neg =>
     simp only[am,b8,az (show ¬(0:Int)<c.a8.length by omega)]
   case' true =>
    simp only[am,b8,bM]
  all_goals
   have hb:sm c=false:=by unfold sm;rw[RM];clear RM;simp[*]
   refine cl (y_ c.op 116 Z) ?_;simp only[am];cases DF:gu c.op 116
   case' true =>
    simp only[am,Nd.ak,bM];refine cl (Fw _ c.left Z (b7 _) hl) ?_;simp only[am];cases z1:c.left.ff
    case' true =>
     simp only[am,Nd.ak,bM];refine cl (Fw _ c.right Z (b7 _) hr) ?_;simp only[am];refine aC ?_;simp[V.erase,hb,wW,DF,z1]
    case' false =>
     simp only[am];refine aC ?_;simp[V.erase,hb,wW,DF,z1]
   case' false =>
    simp only[am,b8];refine cl (y_ c.op 114 Z) ?_;simp only[am];cases II:gu c.op 114
    case' true =>
     simp only[am,Nd.ak,bM];refine cl (WI c.left Z hl) ?_;simp only[am];cases z1:c.left.kH
     case' true =>
      simp only[am,Nd.ak,bM];refine cl (WI c.right Z hr) ?_;simp only[am];refine aC ?_;simp[V.erase,hb,wW,DF,II,z1]
     case' false =>
      simp only[am];refine aC ?_;simp[V.erase,hb,wW,DF,II,z1]
    case' false =>
     simp only[am,Nd.ak,bM];refine cl (YE c.left Z hl) ?_;simp only[am];cases z1:c.left.mo .zero
     case' true =>
      simp only[am,Nd.ak,bM];refine cl (YE c.right Z hr) ?_;simp only[am];refine aC ?_;simp[V.erase,hb,wW,DF,II,z1]
     case' false =>
      simp only[am];refine aC ?_;simp[V.erase,hb,wW,DF,II,z1]
def aiu:aR prog 86 (sq [rg 0 [ox 3 2 0,ox 5 5 2,oR 6 As],sq [rg 9 [fo 0 5,nB .eql 1],cr 11 12 [ol 2 3,fo 2 5,oC 79 [12,14],oY As [(0,1,.s 15)],o2 9 6]],dA 18 [7,8] [fo 0 3,om 1,nA 3 19,nf 1,nl 2,fo 4 5,nI 5 0,nl 5,oC 143 [23,27],o1 17,oe 17 0,oe 17 1,oN,oN,oX 7 8 29,oX 8 2 30],rg 31 [ol 8 7,oY As [(0,1,.c (.int .i64 (-1))),(1,8,.s 31)],o2 9 6],.ret]) [.cell 6 aa 9] 33:=aS func86
def aiv:aR prog 87 (sq [rg 0 [ox 3 2 0,ox 5 5 2,oZ 6 [15,0]],rg 9 [oG [15,0] [(1,1,.c (.int .i64 (-1)))],oZ 7 [15,0],o2 2 7],sq [rg 10 [fo 0 5,nB .eql 1],ci 12 (sq [rg 13 [ol 2 3,fo 2 5,oC 79 [13,15],of 1 7,os 1 17 16],rg 18 [ol 2 7,o2 2 6],.ret])],sq [rg 8 [oi 0],bl 0 (sq [sq [rg 19 [om 8,fo 4 5,nL,nb .lss 19],cx 23 0],.block 1 (dg 26 [of 0 7,mM [1],no,of 4 5,mM [1],no,om 8,nA 5 29,nf 2,mM [1],no,ol 2 3,om 1,fo 4 5,om 8,nA 5 37,nF 4,nI 5 0,nl 5,oC 86 [34,35,43],oY KX [(0,1,.s 33),(1,9,.s 44)],n1 10,na 10 27,of 0 7,os 1 48 47]),rg 24 [ic 8]])],sq [rg 49 [fo 3 5,nL,nB .gtr 0],ci 52 (dg 53 [ol 2 3,fo 3 5,nI 2 0,nF 0,oC 79 [53,58],of 1 7,os 1 60 59])],rg 61 [ol 2 7,o2 2 6],.ret]) [.cell 6 aa 2] 62:=aS func87
def Ws(s:aG)(lat:Nat)(n:Nd)(hs:s.ok)(iY:lat<s.bt.length)(hk:n.kind=1\/0<n.ae.length)(hc:n.cJ<=100000)(hw:n.wt<=aJ):
 aT 86 [.agg s.enc,.int .i64 (lat:Nat),.agg n.enc] Z (.agg (rj s lat n).enc):=by
 refine aiu.aP ?_;simp only[aO,yw,Nat.reduceAdd,Int.reduceNeg,bO.ak]
 by_cases h1:n.kind=1
 .simp only[am,Int.reduceNeg,aG.ak,Nd.fl,aB h1];refine cl (yp s n.ar Z hs.2.1) ?_;simp only[am,Int.reduceNeg,bO.ak];exact aN (v:=.agg (bO.mk (bY (iw s.vars n.ar)) .zero).enc) bO.dL (ab.bc _) ⟨by rw[rj,aI h1];simp only[V.erase,bO.dy],rfl⟩
 have hk:0<n.ae.length:=hk.resolve_left h1;have hm:n.ae[0]∈n.ae:=dq _;have qI:=lx hm;have qJ:=gw hm;simp only[am,Nat.reduceAdd,bL,Int.reduceNeg,Nat.reduceLT,aG.ak,az h1];refine ix (u7 iY) ?_;simp only[am,Int.reduceNeg,aG.ak,Nd.fl];refine mh (n:=0) (by omega) (fN (j:=0) (bN hk)) ?_;simp only[am,Int.reduceNeg,bJ.ak,Nd.ak];refine bA.intro (Ox s.bt[lat].shape n.ae[0] Z (hs.2.2 _ (dq iY)) (λm hm=>by obtain⟨a,b,c⟩:=DC (n:=n.ae[0]) (by omega) m hm;exact⟨by omega,by omega,λq hq=>by have:=c q hq;omega⟩) (by omega)) ?_;have ee:rj s lat n=⟨-1,(gz s.bt[lat].shape n.ae[0]).1⟩:=by rw[rj,aw h1,DL iY,jS hk]
 generalize gz s.bt[lat].shape n.ae[0]=g at ee;obtain⟨e,o⟩:=g;cases o with
 | none =>
  simp only[am,Nat.reduceAdd,Int.reduceNeg,bp.ak,bO.ak,show mG ah=[.int .i64 0,.int .i64 0] from rfl];exact aN (v:=.agg (bO.mk (-1) e).enc) bO.dL (ab.bc _) ⟨by rw[ee];simp only[V.erase,bO.dy],rfl⟩
 | some q =>
  simp only[am,Nat.reduceAdd,Int.reduceNeg,bp.ak,bO.ak,show mG (U q)=[.int .i64 4,.int .i64 q] from rfl];exact aN (v:=.agg (bO.mk (-1) e).enc) bO.dL (ab.bc _) ⟨by rw[ee];simp only[V.erase,bO.dy],rfl⟩
def WW(s:aG)(lat:Nat)(n:Nd)(hs:s.ok)(iY:lat<s.bt.length)(hk:∀k∈n.ae,KW k)(EY:n.al.length<=1)(hc:n.cJ<=100000)(hw:n.wt<=aJ):
 aT 87 [.agg s.enc,.int .i64 (lat:Nat),.agg n.enc] Z (.agg (mn s lat n).enc):=by
 refine aiv.aP ?_;simp only[aO,yw,Nat.reduceAdd,Int.reduceNeg,ck.ak]
 by_cases h1:n.kind=1
 .simp only[am,Int.reduceNeg,aG.ak,Nd.fl,aB h1];refine cl (yp s n.ar Z hs.2.1) ?_;simp only[am,Nat.reduceAdd,Int.reduceNeg];exact aN rfl (ab.bc _) ⟨by rw[mn,aI h1];rfl,rfl⟩
 simp only[am,Int.reduceNeg,az h1];have wq:=vX n;obtain⟨Q,hQ⟩:∃Q:Nat->List (List V),∀i,Q i=((n.ae.take i).map (xx s lat)).map ck.enc:=⟨_,λ_=>rfl⟩;have uP:Q 0=[]:=by rw[hQ];rfl
 have wc:Q n.ae.length=(n.ae.map (xx s lat)).map ck.enc:=by rw[hQ,df]
 have uQ:∀{i:Nat},i<=n.ae.length->(Q i).length=i:=λ{i} hi=>by rw[hQ];simp;omega
 have qC:∀{i:Nat} (hi:i<n.ae.length) (h1:0<n.ae[i].ae.length),Q (i+1)=Q i++[(ck.mk n.ae[i].ar (rj s lat n.ae[i].ae[0])).enc]:=λ{i} hi h1=>by
  rw[hQ,hQ,jg hi,jf,jf,Cc,Cc,xx,jS h1]
 refine ct (n.ae.length) (λi (D:Nat)=>⟨[.any,.int .i64 (lat:Nat),.any,.ptr (.au 0) 0,.any,.ptr (.au 1) 0,.ptr (.au 2) 0,.ptr (.au 3) 0,.int .i64 (i:Nat)]++aj 53 .any,[s.enc,n.enc,[.sl .a9 10 [],.int .i64 0],[.sl (.tk D) 10 (Q i),.int .i64 (-1)]],Z.ba D i⟩) (λi D=>(Z.aY D=ah)) λF hF JF aW=>⟨?_,?_,?_⟩
 .refine Hc 0 λD a_=>⟨D,cI (aW _ _) a_,?_,?_,?_⟩
  all_goals simp[hF,aj,jG,Il,uP]
 .rintro i D hi a_;have hm:n.ae[i]∈n.ae:=dq _;have qI:=lx hm;have qJ:=gw hm;obtain⟨qE,qF⟩:=hk _ hm;have sK:n.ae[i].ae[0]∈n.ae[i].ae:=dq _;have L_:=lx sK;have Ma:=gw sK;have hlen:=uQ (Ec hi);simp only[hF,aj,am,ca hi,Int.reduceNeg,Nd.fl,aD];refine ix (fN (bN hi)) ?_;simp only[am,Int.reduceNeg,aG.ak,Nd.fl];refine ix (fN (bN hi)) ?_;simp only[am,Int.reduceNeg,Nd.fl];refine mh (n:=0) (by omega) (fN (j:=0) (bN qE)) ?_;simp only[am,Int.reduceNeg,aG.ak,Nd.ak];refine bA.intro (Ws s lat n.ae[i].ae[0] hs iY (qF _ sK) (by omega) (by omega)) ?_;simp only[am,Int.reduceNeg,bO.ak,ck.ak];refine vS (by rw[hlen];simp[aJ];omega) (by rw[hlen];exact eR) ?_;rw[hlen];simp only[am,aK,Int.reduceNeg,Nd.fl,eJ,bF hi,fx];refine db (D) hi ?_ ?_ ?_ ?_ ?_ ?_
  .exact cI (aW _ _) (a_)
  all_goals simp[hF,aj,am,bd,bK,cp,V.lo,qC hi qE,aG.bP,Nd.bP]
 .rintro D a_;have hlen:=uQ (b7 _);have uW:=Cv n;have e:mn s lat n=⟨n.ae.map (xx s lat),DR s n.al⟩:=by rw[mn,aw h1]
  simp only[hF,aj,am,aK,cy,aK,Int.reduceNeg,Nd.fl,aD]
  by_cases xM:0<n.al.length
  .simp only[am,Int.reduceNeg,aG.ak,Nd.fl,aB (show(0:Int)<((n.al.length:Nat):Int) by omega)];refine mh (n:=0) (by omega) (tg (l:=n.al) (j:=0) xM) ?_;simp only[am,Int.reduceNeg,td,aG.ak];refine bA.intro (yp s n.al[0].ar _ hs.2.1) ?_;simp only[am,Nat.reduceAdd,Int.reduceNeg,wc];have et:=XT (s:=s) xM;rw[An (by omega)] at et;refine aN rfl (gV a_) ⟨by rw[e,et];rfl,rfl⟩
  .simp only[am,Nat.reduceAdd,Int.reduceNeg,az (show ¬(0:Int)<((n.al.length:Nat):Int) by omega),wc];have et:n.al=[]:=sb (by omega);refine aN rfl (gV a_) ⟨by rw[e,et];rfl,rfl⟩
def ahD:aR prog 29 (sq [rg 5 [ox 2 2 0,ox 3 17 1,oR 4 iL,oz 2],sq [rg 9 [fo 0 3,nB .lss 8,gB,fo 0 3,nB .gtr 10,gZ,gB,ol 17 3,oC 84 [18],nn,gZ,gB,ol 2 2,ol 17 3,oC 26 [23,24],ow 0 25,nB .neq 0,gZ],cr 28 29 [oY iL [],o2 18 4,oU 5 2]],dA 30 [6] [of 0 3,mM [1],no,ol 2 2,of 2 3,nF 0,oC 74 [32,35],oY iL [(0,1,.s 31),(1,1,.s 36)],oN,oX 6 18 37],sq [rg 38 [fo 0 3,nB .eql 8],ci 40 (sq [rg 42 [ol 2 2,fo 1 6,of 7 3,nl 5,oC 85 [42,44,46],o1 41,oe 41 0,oe 41 1,ot 7 48,o1 8],rg 50 [om 7,of 2 6,os 1 51 50],rg 52 [ol 2 2,fo 1 6,of 12 3,nl 5,oC 86 [52,54,56],of 3 6,os 9 58 57]])],sq [rg 59 [fo 0 3,nB .eql 9],ci 61 (sq [rg 62 [ol 2 2,fo 1 6,of 7 3,nl 5,oC 87 [62,64,66],of 12 6,os 2 68 67],rg 69 [ol 2 2,fo 1 6,of 12 3,nl 5,oC 87 [69,71,73],of 14 6,os 2 75 74]])],sq [rg 76 [fo 0 3,nB .eql 10],ci 78 (sq [rg 79 [ol 2 2,of 2 3,nF 0,oC 79 [79,82],of 16 6,os 1 84 83],rg 85 [fo 1 2,fo 16 6,nA 3 86,nF 2,of 1 6,os 1 92 91],rg 93 [fo 4 3,nI 2 0,nF 0,of 17 6,os 1 98 97]])],rg 99 [ol 18 6,o2 18 4,oV 5 (.bool aa)],.ret]) [.cell 4 aa 18,.tmp 5] 100:=aS func29
def aqC(s:aG)(c:aL)(hs:s.ok)(hn:c.al.length+1<=aJ)(hp:c.a8.length+1<=aJ)(hl:Aq c.left)(hr:Aq c.right)(jW:c.left.wt<=aJ)(oH:c.right.wt<=aJ):
 aT 29 [.agg s.enc,.agg c.enc] Z (ri s c):=by
 have A7:=hl.c;have hrc:=hr.c;have no:∀(t:List V) (lo:List (List V)),jD s c=aq->jx (λv σ' => v=ri s c/\σ' = Z) ⟨t,lo,Z⟩ (.bz [.agg (cP 0 0 (.sl .a9 10 []) .zero (.sl .a9 10 []) 0 (.sl .a9 10 []) 0 0 []),.bool aq]):=λt lo h=>by
  refine aN (by simp only[V.cM,bS,sa];exact Ck rfl rfl rfl) (ab.bc _) ⟨?_,rfl⟩;rw[ri,h];simp only[V.erase,aZ,Cj];rfl
 have yes:∀(t:List V) (lo:List (List V)) (op lat:Int) (cd:V) (to:bO) (fa:V) (ta:Int) (fb:V) (tb v:Int) (f:List UInt8),jD s c=aa->cd.cM=aa->fa.cM=aa->fb.cM=aa->cP op lat cd.erase to fa.erase ta fb.erase tb v f=(mZ s c).enc->jx (λv σ' => v=ri s c/\σ' = Z) ⟨t,lo,Z⟩ (.bz [.agg (cP op lat cd to fa ta fb tb v f),.bool aa]):=λt lo op lat cd to fa ta fb tb v f h n1 n2 n3 hx=>by
  refine aN (by simp only[V.cM,bS,sa];exact Ck n1 n2 n3) (ab.bc _) ⟨?_,rfl⟩;rw[ri,h];simp only[V.erase,aZ,Cj,hx];rfl
 refine ahD.aP ?_;simp only[aO,am,aX,Nat.reduceAdd,aG.ak,iL,cE,b8]
 by_cases o1:c.op<8
 .simp only[am,fA,aB o1];exact no _ _ (by simp[jD];omega)
 simp only[am,b8,az o1]
 by_cases o2:10<c.op
 .simp only[am,fA,aB o2];exact no _ _ (by simp[jD];omega)
 simp only[am,cE,az o2];refine cl (aqW c _ hn hp jW oH) ?_;cases hq:c.qe with
 | false =>
  simp only[am,fA];exact no _ _ (by simp[jD,hq])
 | true =>
  simp only[am,aG.ak,cE];refine cl (WC s c hs hl hr jW oH) ?_;simp only[am,aM.ak]
  by_cases hf:(iN s c).cls=0
  case neg =>
   simp only[am,fA,az hf];exact no _ _ (by simp[jD,hf])
  have hA:jD s c=true:=by simp only[jD,hq,hf,bL,sa,b_,eb];omega
  have hF:=Uj.1 hA;simp only[am,Nat.reduceAdd,bL,Nat.reduceLT,aG.ak,b8,bM,aB hf];refine bA.intro (Bq s c.name.ar Z hs.1) ?_;simp only[am,Nat.reduceAdd,fA,b8,vT (op:=c.op) (lat:=bY (fu s.bt c.name.ar)) (c:=.sl .a9 10 []) (to:=.zero) (fa:=.sl .a9 10 []) (ta:=0) (fb:=.sl .a9 10 []) (tb:=0) (v:=0) (f:=[]) rfl rfl rfl]
  by_cases h8:c.op=8
  .simp only[am,aG.ak,fA,Nd.ak,bM,aB h8];obtain⟨k,hk,an⟩:=hF.cN (.inl h8);have iX : bY (fu s.bt c.name.ar)=(k:Nat):=hk;rw[iX];refine cl (aqE s k hs _ c.left _ (b7 _) jW (by omega)) ?_;simp only[am,aG.ak,fA,Nd.ak,bM,uF];refine cl (Ws s k c.right hs an ?_ (by omega) oH) ?_
   .rcases hF.right h8 with h | h
    .exact .inl h
    .exact .inr (by rw[Fx (hF.labels h8).2 h];omega)
   simp only[am,bO.ak,fA,b8,az (show ¬c.op=9 by omega),az (show ¬c.op=10 by omega),vT (op:=c.op) (lat:=k) (c:=.sl .no 10 (((lW s k c.left).getD []).map bH.enc)) (to:=rj s k c.right) (fa:=.sl .a9 10 []) (ta:=0) (fb:=.sl .a9 10 []) (tb:=0) (v:=0) (f:=[]) rfl rfl rfl];refine yes _ _ _ _ _ _ _ _ _ _ _ _ hA rfl rfl rfl ?_;rw[mZ,aI h8,hk,h8];rfl
  simp only[am,b8,az h8]
  by_cases h9:c.op=9
  .simp only[am,aG.ak,fA,Nd.ak,bM,aB h9];obtain⟨k,hk,an⟩:=hF.cN (.inr h9);have iX : bY (fu s.bt c.name.ar)=(k:Nat):=hk;rw[iX];obtain⟨q1,q2⟩:=hF.rows h9;refine cl (WW s k c.left hs an (IY q1) (IZ q1) (by omega) jW) ?_;simp only[am,aG.ak,fi.ak,fA,Nd.ak,bM];refine cl (WW s k c.right hs an (IY q2) (IZ q2) (by omega) oH) ?_;simp only[am,fi.ak,fA,b8,az (show ¬c.op=10 by omega),vT (op:=c.op) (lat:=k) (c:=.sl .a9 10 []) (to:=.zero) (fa:=.sl .no 10 ((mn s k c.left).fs.map ck.enc)) (ta:=(mn s k c.left).tail) (fb:=.sl .no 10 ((mn s k c.right).fs.map ck.enc)) (tb:=(mn s k c.right).tail) (v:=0) (f:=[]) rfl rfl rfl];refine yes _ _ _ _ _ _ _ _ _ _ _ _ hA rfl rfl rfl ?_;rw[mZ,aw h8,aI h9,hk,h9];rfl
  have ec:c.op=10:=by omega
  simp only[am,aG.ak,b8,bM,az h9,aB ec];obtain⟨v,hv,Be,uY⟩:=hF.var ec;obtain⟨w,hw,_⟩:=hF.one ec;refine cl (yp s c.name.ar Z hs.2.1) ?_;rw[Be];simp only[am,Int.reduceNeg,aG.ak,fA,bY];refine ix (um hv) ?_;simp only[am,Int.reduceNeg,aG.ak,fA,bM];have Bf:0<c.al.length:=by rw[hw];simp
  refine mh (n:=0) (by omega) (tg (l:=c.al) (j:=0) Bf) ?_;simp only[am,Int.reduceNeg,td,fA,vT (op:=c.op) (lat:=s.vars[v].lat) (c:=.sl .a9 10 []) (to:=.zero) (fa:=.sl .a9 10 []) (ta:=0) (fb:=.sl .a9 10 []) (tb:=0) (v:=v) (f:=c.al[0].ar) rfl rfl rfl];refine yes _ _ _ _ _ _ _ _ _ _ _ _ hA rfl rfl rfl ?_;rw[mZ,aw h8,aw h9,Be,Pn,bN hv,jS Bf,ec];rfl
def ahn:aR prog 27 (sq [rg 2 [ox 1 17 0,oz 1],rg 9 [fo 0 1,oC 69 [10],o1 3],rg 12 [fo 0 1,oC 70 [13],o1 4],rg 5 [oq (.mv (.c (.bool aa)))],sq [rg 6 [oi 0],bl 0 (sq [sq [rg 15 [om 6,om 4,nT,nb .lss 15],cx 18 0],.block 1 (sq [rg 21 [om 3,oq (.cat (.s 21) (.c (.aH [32]))),o1 3],rg 23 [om 4,om 6,nS 23],.block 2 (sq [rg 36 [ou .eql 25 110,o1 35],cd 35 (rg 37 [om 3,of 2 1,nF 0,oq (.cat (.s 37) (.s 40)),o1 3]) (sq [rg 43 [ou .eql 25 102,o1 42],cd 42 (rg 44 [om 3,fo 4 1,oC 82 [46],oq (.cat (.s 44) (.s 47)),o1 3]) (sq [rg 50 [ou .eql 25 119,o1 49],cd 49 (rg 51 [om 3,oq (.cat (.s 51) (.c (.aH [123]))),fo 4 1,oC 82 [54],oq (.cat (.s 52) (.s 55)),oq (.cat (.s 56) (.c (.aH [125]))),o1 3]) (sq [rg 59 [ou .eql 25 112,o1 58],cd 58 (sq [rg 60 [om 3,oq (.cat (.s 60) (.c (.aH [123]))),o1 3],sq [rg 7 [oi 0],bl 3 (sq [sq [rg 62 [om 7,fo 5 1,nL,nb .lss 62],cx 66 3],.block 4 (sq [sq [rg 69 [om 7,nB .gtr 0],ci 70 (rg 71 [om 3,oq (.cat (.s 71) (.c (.aH [44]))),o1 3])],dg 73 [om 3,fo 5 1,om 7,nA 4 75,oQ 2 2 77 0,nF 0,oq (.cat (.s 73) (.s 80)),oq (.cat (.s 81) (.c (.aH [60]))),fo 5 1,om 7,nA 4 84,oQ 2 2 86 1,nF 0,oq (.cat (.s 82) (.s 89)),o1 3]]),rg 67 [ic 7]])],rg 91 [om 3,oq (.cat (.s 91) (.c (.aH [125]))),o1 3]]) (sq [rg 26 [of 12 1,nl 5,oZ 8 [0,0,1,7,10],o2 5 8],sq [rg 28 [om 5],ci 28 (rg 29 [of 7 1,nl 5,o2 5 8])],rg 5 [oz 2],rg 31 [om 3,ol 5 8,oC 83 [32],oq (.cat (.s 31) (.s 33)),o1 3]])])])])])]),rg 19 [ic 6]])],rg 93 [om 3,o1 2],.ret]) [.tmp 2] 94:=aS func27
def BD(ks:List UInt8):Bool:=decide ((ks.filter isTerm).length=0)
def yi(c:aL)(ks:List UInt8)(Z:ab)(i:Nat):St :=
 ⟨[.any,.ptr (.au 0) 0,.any,.aH (ig [32] (iD c (ks.take i)).1),.aH ks,.bool (BD (ks.take i)),.int .i64 (i:Nat)]++aj 87 .any,[c.enc],Z⟩
def F_(c:aL)(ks s0:List UInt8)(b:Bool)(Z:ab)(i k:Nat):St :=
 ⟨[.any,.ptr (.au 0) 0,.any,.aH (s0++cC ((c.a8.map kz).take k)),.aH ks,.bool b,.int .i64 (i:Nat),.int .i64 (k:Nat)]++aj 86 .any,[c.enc],Z⟩
def aps(c:aL)(ks:List UInt8)(k:UInt8):ig [32] (iD c (ks++[k])).1=ig [32] (iD c ks).1++[32]++pe k c ((iD c ks).2.headD .zero):=by
 rw[Oe,BQ,Up,aI (by rw[(DD c ks).2.2.1];omega)]
def ano(ks:List UInt8)(k:UInt8):BD (ks++[k])=(BD ks&&!isTerm k):=by
 unfold BD;rw[B8,bW];cases h:isTerm k
 .simp[h]
 .simp[h]
def ana{n m:Nd}:over n.enc m.enc=m.enc:=by rw[Nd.cS,Nd.cS];rfl
theorem aaG{c:aL}:bK n c.enc=true:=rfl
def ary(c:aL)(Z:ab)(hw:16*c.wt+128<=aJ):aT 27 [.agg c.enc] Z (.aH (q_ c)):=by
 have HE:c.wt=c.name.ar.length+eK c.al+jY c.a8+c.left.wt+c.right.wt:=rfl;have EY:=DE c.al;have E6:=Oh c.a8;have iP:aJ=268435456:=rfl;refine ahn.aP ?_;simp only[aO,am,aX,Nat.reduceAdd,cE,b8];refine cl (Qz c.op Z) ?_;simp only[am,b8];refine cl (Nv c.op Z) ?_;simp only[am];have AZ:=SH c.op;have wA:q_ c=ig [32] (iD c (dc c.op).2).1:=rfl;have kT:=EE c.op;have h00:ig [32] (iD c []).1=(dc c.op).1:=by simp[iD,ig]
 have hb:∀ks:List UInt8,ks.length<=3->(ig [32] (iD c ks).1).length<=4*(c.wt+9):=λks hk=>by
  obtain⟨o1,_,o3,_⟩:=DD c ks;have sJ:=Uo _ o1;rw[o3] at sJ
  have:(ks.length+1)*(c.wt+8+1)<=4*(c.wt+8+1):=sd _ (by omega)
  omega
 generalize fp:(dc c.op).2=ks at AZ wA kT ⊢;refine dP (λp:{i:Nat // i<=ks.length}=>yi c ks Z p.1) (λp=>ks.length - p.1) ?_ ?_
 .refine a7.enter ⟨0,by simp⟩ ?_ bV.rfl br.rfl;simp[yi,aj,am,h00,BD]
 rintro⟨i,hi⟩;simp only[yi,aj,am];refine cO ?_ ?_
 .intro an;have an:i<ks.length:=by simpa using an
  have qG:ks.take (i+1)=ks.take i++[ks[i]]:=by rw[jg an]
  have Mh:=aps c (ks.take i) ks[i];have C6:=ano (ks.take i) ks[i];rw[<-qG] at Mh C6;have eE:=hb (ks.take (i+1)) (by rw[iu];omega);rw[Mh] at eE;simp only[bW,fx] at eE;have wi:IntKind.i64.wrap ((i:Int)+1)=((i+1:Nat):Int):=by rw[wrap_i64];simp
  obtain⟨o1,o2,o3,o4⟩:=DD c (ks.take i);have ht:=AZ i an ks[i] (bN an);have ey:∀n:UInt8,((ks[i].toNat:Nat):Int)=(n.toNat:Nat)↔ks[i]=n:=λn=>by
   constructor
   .intro h;exact Eg.1 (by omega)
   .intro h;rw[h]
  have tB:((ks[i].toNat:Nat):Int)=110↔ks[i]=110:=ey 110;have tA:((ks[i].toNat:Nat):Int)=102↔ks[i]=102:=ey 102;have uJ:((ks[i].toNat:Nat):Int)=119↔ks[i]=119:=ey 119;have uI:((ks[i].toNat:Nat):Int)=112↔ks[i]=112:=ey 112;have again:∀(st:List V) (ls:List (List V)),c_ st (yi c ks Z (i+1)).t->bV (ls.take 1) [c.enc]->a7 ⟨st,ls,Z⟩ λaU => ∃j:{i:Nat // i<=ks.length},aU = yi c ks Z j.1/\ks.length - j.1<ks.length - i:=λst ls h1 h2 =>
   a7.lT (I:=λp:{i:Nat // i<=ks.length}=>yi c ks Z p.1) (μ:=λp=>ks.length - p.1) ⟨i+1,an⟩ (by simp;omega) h1 h2 br.rfl (by simp[yi,aj,bK,V.lo]) (by simp[yi,cp,aaG])
  simp only[yi,Mh,C6] at again;generalize ig [32] (iD c (ks.take i)).1=out at again eE ⊢;generalize xS:(iD c (ks.take i)).2=ts at again eE o2 o4;generalize hnt:BD (ks.take i)=nt at again ⊢;simp only[am];refine⟨by simp[aJ];omega,?_⟩;refine pX (s7 an) ?_;simp only[am]
  by_cases k1:ks[i]=110
  .have hp:pe ks[i] c (ts.headD .zero)=c.name.ar:=by rw[k1];rfl
   have hq:isTerm ks[i]=false:=by rw[k1];rfl
   rw[hp] at eE again;rw[hq] at again;simp only[am,bM,aB (tB.2 k1)];refine⟨by simp[aJ];omega,?_⟩;simp only[wi];refine again _ _ ?_ ?_
   .simp[am,aj]
   .simp[am]
  simp only[am,az (λh=>k1 (tB.1 h))]
  by_cases k2:ks[i]=102
  .have hp:pe ks[i] c (ts.headD .zero)=kg c.al:=by rw[k2];rfl
   have hq:isTerm ks[i]=false:=by rw[k2];rfl
   rw[hp] at eE again;rw[hq] at again;simp only[am,bM,aB (tA.2 k2)];refine cl (Yg c.al Z (by omega)) ?_;simp only[am];refine⟨by simp[aJ];omega,?_⟩;simp only[wi];refine again _ _ ?_ ?_
   .simp[am,aj]
   .simp[am]
  simp only[am,az (λh=>k2 (tA.1 h))]
  by_cases k3:ks[i]=119
  .have hp:pe ks[i] c (ts.headD .zero)=[123]++kg c.al++[125]:=by rw[k3];rfl
   have hq:isTerm ks[i]=false:=by rw[k3];rfl
   rw[hp] at eE again;rw[hq] at again;simp only[bW,fx] at eE;simp only[am,bM,aB (uJ.2 k3)];refine⟨by simp[aJ];omega,?_⟩;refine cl (Yg c.al Z (by omega)) ?_;simp only[am];refine⟨by simp[aJ];omega,?_⟩;refine⟨by simp[aJ];omega,?_⟩;simp only[wi];refine again _ _ ?_ ?_
   .simp[am,aj]
   .simp[am]
  simp only[am,az (λh=>k3 (uJ.1 h))]
  by_cases k4:ks[i]=112
  .have hp:pe ks[i] c (ts.headD .zero)=[123]++cC (c.a8.map kz)++[125]:=by rw[k4];rfl
   have hq:isTerm ks[i]=false:=by rw[k4];rfl
   rw[hp] at eE again;rw[hq] at again;simp only[bW,fx] at eE;simp only[am,aB (uI.2 k4)];refine⟨by simp[aJ];omega,?_⟩;refine dP (λp:{k:Nat // k<=c.a8.length}=>F_ c ks (out++[32]++[123]) nt Z i p.1) (λp=>c.a8.length - p.1) ?_ ?_
   .refine a7.enter ⟨0,by simp⟩ ?_ bV.rfl br.rfl;simp[F_,aj,am,cC]
   rintro⟨k,hk⟩;simp only[F_,aj,am,bM,aD];refine cO ?_ ?_
   .intro gf;have gf:k<c.a8.length:=by simpa using gf
    have dp:=H8 (L:=c.a8.map kz) (i:=k) (by simpa using gf);have hle:=H9 (c.a8.map kz) (k+1);have wk:IntKind.i64.wrap ((k:Int)+1)=((k+1:Nat):Int):=by rw[wrap_i64];simp
    rw[Ca] at dp;rw[dp] at hle;simp only[bW,kz,fx] at hle;simp only[am]
    by_cases h0:0<k
    case' pos =>
     rw[aI h0] at dp hle;simp only[da,cZ] at hle;simp only[am,bM,aB (show(0:Int)<k by omega)];refine⟨by simp[aJ];omega,?_⟩
    case' neg =>
     rw[aw h0] at dp hle;simp only[cZ,eM] at hle dp;simp only[am,bM,az (show ¬(0:Int)<k by omega)]
    all_goals
     refine ix (uh (bN gf)) ?_;simp only[am,cG];refine rI ?_;simp only[am,Int.reduceToNat,Nat.reduceMul,bM,dR];refine⟨by simp[aJ];omega,?_⟩;refine⟨by simp[aJ];omega,?_⟩;refine ix (uh (bN gf)) ?_;simp only[am,cG];refine rI ?_;simp only[am,Int.reduceToNat,Nat.reduceMul,dR];refine⟨by simp[aJ];omega,?_⟩;simp only[wk];exact a7.again (I:=λp:{k:Nat // k<=c.a8.length}=>F_ c ks (out++[32]++[123]) nt Z i p.1) (μ:=λp=>c.a8.length - p.1) ⟨k+1,gf⟩ (by simp;omega) (by simp[am,aj,dp,kz,F_]) bV.rfl br.rfl
   intro gf;have gf:k=c.a8.length:=by simp at gf;omega
   subst gf;rw[show(c.a8.map kz).take c.a8.length=c.a8.map kz by rw[<-aD (f:=kz),df]];simp only[am,Nat.reduceEqDiff];refine⟨by simp[aJ];omega,?_⟩;simp only[wi];refine again _ _ ?_ ?_
   .simp[am,aj]
   .simp[am]
  simp only[am,Nd.ak,bM,az (λh=>k4 (uI.1 h))];have hq:isTerm ks[i]=true:=by simp[isTerm,k1,k2,k3,k4]
  have Mv:=ht hq;have hp:pe ks[i] c (ts.headD .zero)=(if nt=aa then c.left else c.right).dS:=by
   rw[o4,<-hnt];unfold BD
   match (List.filter isTerm (List.take i ks)).length,Mv with
   | 0,_=>simp[pe,k1,k2,k3,k4]
   | 1,_=>simp[pe,k1,k2,k3,k4]
  rw[hp] at eE again;rw[hq] at again;cases nt
  .simp only[am,Nd.ak];refine cl (XW _ c.right Z (b7 _) (by omega)) ?_;simp only[am];simp only[dm,ch] at eE again;refine⟨by simp[aJ];omega,?_⟩;simp only[wi];refine again _ _ ?_ ?_
   .simp[am,aj]
   .simp[am]
  .simp only[am,Nd.ak,bM,ana];refine cl (XW _ c.left Z (b7 _) (by omega)) ?_;simp only[am];simp only[cH] at eE again;refine⟨by simp[aJ];omega,?_⟩;simp only[wi];refine again _ _ ?_ ?_
   .simp[am,aj]
   .simp[am]
 .intro an;have an:i=ks.length:=by simp at an;omega
  subst an;rw[df,<-wA];simp only[am];exact rt
def aez:aR prog 10 (sq [rg 0 [ox 5 2 0,oZ 10 [0,0,1,0,7,9,0,0,0,1,7,10,0,0,1,7,10],oR 11 iL,oZ 12 [0,0]],rg 22 [om 4,oC 24 [22],o1 21,oe 21 0,oe 21 1,oZ 13 [0,0,1,0,7,9,0,0,0,1,7,10,0,0,1,7,10],oZ 14 [0,0],os 17 13 24,o2 2 14],sq [rg 26 [fo 0 14,nB .neq 0],ci 28 (sq [dg 29 [oW [0,0,1,0,7,9,0,0,0,1,7,10,0,0,1,7,10] [],oY iL [],mM [1,2],ol 2 14,os 17 10 29,os 18 11 30,o2 2 12],.ret])],dg 32 [ol 2 5,ol 17 13,oC 25 [32,33],mM [0],ol 2 5,mM [0],ol 17 13,oC 26 [35,36],oq (.km 2 [(.s 34),(.s 37)]),o1 15],rg 39 [ol 17 13,oC 27 [39],nT,o1 16],rg 42 [fo 0 13,oC 14 [43],nm,og 45 (om 16),og 45 (nB .gtr 1024),og 45 (nm),oh 48 (om 1),oh 48 (om 16),oh 48 (oq (.dV .sub (.c (.int .i64 16384)) (.s 50))),oh 48 (nB .sub 1),oh 48 (nb .gtr 49),og 45 (oq (.pick (.s 48) (.c (.bool aa)) (.s 53))),oy 45 54,o1 17],.kK (rg 56 [om 17,nm,oh 57 (of 0 13),oh 57 (no),oh 57 (nB .geq 8),oh 57 (nm),og 61 (of 0 13),og 61 (no),og 61 (nB .leq 10),oh 57 (oy 61 64),oh 57 (nm),og 66 (om 2),og 66 (nB .geq 64),oh 57 (oy 66 68),oq (.pick (.s 57) (.c (.bool aa)) (.s 69)),o1 17]),.kK (rg 71 [om 17,nm,oh 72 (of 0 13),oh 72 (no),oh 72 (nB .eql 11),oh 72 (nm),og 76 (om 3),og 76 (nB .geq 16),oh 72 (oy 76 78),oq (.pick (.s 72) (.c (.bool aa)) (.s 79)),o1 17]),sq [.kK (rg 81 [om 17]),ci 81 (rg 82 [om 15,fo 1 13,oG [0,0] [(0,1,.c (.int .i64 7)),(1,1,.s 84)],n1 2,na 2 82,o1 15])],sq [rg 88 [fo 0 13,nB .eql 12,gA,om 3,nB .leq 1,gZ],ci 94 (rg 95 [om 15,fo 1 13,oG [0,0] [(0,1,.c (.int .i64 8)),(1,1,.s 97)],n1 2,na 2 95,o1 15])],.kK (rg 101 [om 15,oC 28 [101],oZ 18 [0,0],o2 2 18]),sq [rg 103 [fo 0 18,nB .neq 0],ci 105 (sq [dg 106 [oW [0,0,1,0,7,9,0,0,0,1,7,10,0,0,1,7,10] [],oY iL [],mM [1,2],ol 2 18,os 17 10 106,os 18 11 107,o2 2 12],.ret])],rg 110 [ol 2 5,ol 17 13,oC 29 [110,111],o1 109,oe 109 0,oe 109 1,oR 19 iL,os 18 19 113,o1 20],dg 115 [ol 17 13,mM [1],ol 18 19,oW [0,0] [],os 17 10 115,os 18 11 116,o2 2 12],.ret]) [.cell 10 aa 17,.cell 11 aa 18,.cell 12 aa 2] 118:=aS func10 ⟨[],[7,8,9,13]⟩
def afe:aR prog 14 (sq [rg 2 [oz 2],rg 3 [om 0,nB .geq 1,gA,om 0,nB .leq 10,gZ,o1 2],.ret]) [.tmp 2] 9:=aS func14
def WX(op:Int)(Z:ab):aT 14 [.int .i64 op] Z (.bool (uk op)):=by
 refine afe.aP ?_;simp only[aO,am,aX,Nat.reduceAdd]
 by_cases h:1<=op
 .simp only[am,aB h];refine aC ?_;simp[V.erase,uk,h]
 .simp only[am,az h];refine aC ?_;simp[V.erase,uk,h]
def al8(s:aG)(r:Rm)(c:aL):(k_ r c=aa/\c.op≠12/\jq s r c=[lq s c,iN s c]++[⟨7,c.pos⟩])\/(k_ r c=aq/\c.op=12/\r.lA<=1/\jq s r c=[lq s c,iN s c]++[⟨8,c.pos⟩]) \/
 (k_ r c=aq/\c.op=12/\¬r.lA<=1/\jq s r c=[lq s c,iN s c])\/(k_ r c=aq/\c.op≠12/\jq s r c=[lq s c,iN s c]):=by
 cases hl:k_ r c with
 | true =>
  have hp:=UU hl;exact .inl ⟨rfl,hp,by simp[jq,hl,de,hp]⟩
 | false =>
  by_cases uN:c.op=12
  .by_cases hf:r.lA<=1
   .exact .inr (.inl ⟨rfl,uN,hf,by simp[jq,hl,de,uN,hf]⟩)
   .exact .inr (.inr (.inl ⟨rfl,uN,hf,by simp[jq,hl,de,hf]⟩))
  .exact .inr (.inr (.inr ⟨rfl,uN,by simp[jq,hl,de,uN]⟩))
def auS:IntKind.i64.wrap (IntKind.i64.wrap (16384 - (n:Int)) - 1)=IntKind.i64.wrap (16383 - n):=by
 simp[IntKind.wrap,IntKind.signed,IntKind.bits];omega
def aq1(s:aG)(r:Rm)(t:List UInt8)(hs:s.x9)(ht:t.length<=1500):
 aT 10 [.agg s.enc,.int .i64 r.bytes,.int .i64 r.uC,.int .i64 r.lA,.aH t] Z (wE (lG s r t)):=by
 have iP:aJ=268435456:=rfl;have cc:=N1 (t:=t) (by omega);have xE:=Wz t;have hm:=NA t;have bZ:=@Nx s r t;have eG:=@Ny s r t;have jC:=@Nz s r t;have cR:=ab5 t Z (by omega) (by omega);rw[<-aqK] at cR;refine aez.aP ?_;simp only[aO,am,aX,Nat.reduceAdd,aG.ak,iL];refine cl cR ?_;generalize ij t=R at cc xE bZ eG jC;generalize lG s r t=X at bZ eG jC;obtain⟨c,k,a⟩:=R;simp only at cc xE bZ eG jC;obtain⟨Y'',hY⟩:∃Y'':ju,Y''=(if jD s c=aa then mZ s c else .zero):=⟨_,rfl⟩;rw[<-hY] at jC;obtain⟨A,hA⟩:∃A:List V,A=Y''.enc:=⟨_,rfl⟩;have aE:=GS Y'';rw[<-hA] at aE;obtain⟨a1,a2,a3,a4,a5⟩:=aE;have a6:aZ A=Y''.enc:=by rw[hA];exact ju.dy
 have hT:ri s c = .bz [.agg A,.bool (jD s c)]:=by rw[ri,hA,hY]
 have aQ:∀(t:List V) (lo:List (List V)) (f:aM),X=(.zero,.zero,f)->jx (λv σ' => v=wE X/\σ' = Z) ⟨t,lo,Z⟩ (.bz [.agg fZ,.agg (cP 0 0 (.sl .a9 10 []) .zero (.sl .a9 10 []) 0 (.sl .a9 10 []) 0 0 []),.agg f.enc]):=λt lo f h=>by
  refine aN (by simp only[V.cM,bS,QM];rfl) (ab.bc _) ⟨?_,rfl⟩;rw[h,wE];simp only[V.erase,aZ,QL];rfl
 simp only[am,Nat.reduceAdd,cE,ED]
 by_cases hk:k=0
 case neg =>
  simp only[am,Nat.reduceAdd,fA,Ci,az hk,Ci];exact aQ _ _ ⟨k,a⟩ (bZ hk)
 simp only[am,aG.ak,cE,aB hk];have h2:=xE.l;have h3:=xE.r;have HE:16*c.wt+128<=aJ:=by
  have h1:=xE.ns;have h4:=xE.nm;have h5:=xE.pt
  have:c.wt=c.name.ar.length+eK c.al+jY c.a8+c.left.wt+c.right.wt:=rfl
  omega
 refine bA.intro (arw s c hs cc.n cc.p) ?_;simp only[am,aG.ak,cE];refine bA.intro (WC s c hs.1 (IX (by omega)) (IX (by omega)) cc.wl cc.wr) ?_;simp only[am,aM.ak,aG.ak,cE];refine cl (ary c Z HE) ?_;simp only[am,b8];refine cl (WX c.op Z) ?_;generalize dT:[s.enc,_,_,_,_,_]=lo;have xK:lo[4]?=U c.enc:=by rw[<-dT];rfl
 obtain⟨B1,S8⟩:∃B1,B1=(uk c.op&&(decide (1024<((q_ c).length:Int))||decide (IntKind.i64.wrap (16383 - (q_ c).length)<r.bytes))):=⟨_,rfl⟩;obtain⟨B2,S9⟩:∃B2,B2=(B1||(xn c.op&&decide (64<=r.uC))):=⟨_,rfl⟩;have hB3:k_ r c=(B2||(decide (c.op=11)&&decide (16<=r.lA))):=by rw[S9,S8,k_]
 apply jn
 .intro J;have hb:=S8;cases hs:uk c.op
  all_goals
   rw[hs] at hb;simp only[am]
  .refine a7.cY (t' := [.any,.int .i64 r.bytes,.int .i64 r.uC,.int .i64 r.lA,.any,.ptr (.au 0) 0,.any,.any,.any,.any,.ptr (.au 1) 0,.ptr (.au 2) 0,.ptr (.au 3) 0,.ptr (.au 4) 0,.any,.sl .a9 2 [(lq s c).enc,(iN s c).enc],.any,.bool B1]++aj 100 .any) (l' := lo) (σ' := Z) ?_ ?_ ?_ J.o
   all_goals simp[aj,am,hb,bd]
  cases h1:decide (1024<((q_ c).length:Int))
  all_goals
   rw[h1] at hb;simp only[am,auS];refine a7.cY (t' := [.any,.int .i64 r.bytes,.int .i64 r.uC,.int .i64 r.lA,.any,.ptr (.au 0) 0,.any,.any,.any,.any,.ptr (.au 1) 0,.ptr (.au 2) 0,.ptr (.au 3) 0,.ptr (.au 4) 0,.any,.sl .a9 2 [(lq s c).enc,(iN s c).enc],.any,.bool B1]++aj 100 .any) (l' := lo) (σ' := Z) ?_ ?_ ?_ J.o
   all_goals simp[aj,am,hb,bd]
 apply jn
 .intro J;have hb:=S9;simp only[am,aj];cases eE:B1
  all_goals
   rw[eE] at hb;simp only[am,b8,xK]
  case' false =>
   by_cases h8:8<=c.op
   case' neg =>
    simp only[am,az h8];rw[xn,az h8] at hb
   case' pos =>
    rw[xn,aB h8] at hb
    by_cases ec:c.op<=10
    case' neg =>
     rw[az ec] at hb;simp only[am,b8,xK,aB h8,az ec]
    case' pos =>
     rw[aB ec] at hb;simp only[am,b8,xK,aB h8,aB ec]
  all_goals
   refine a7.cY (t' := [.any,.int .i64 r.bytes,.int .i64 r.uC,.int .i64 r.lA,.any,.ptr (.au 0) 0,.any,.any,.any,.any,.ptr (.au 1) 0,.ptr (.au 2) 0,.ptr (.au 3) 0,.ptr (.au 4) 0,.any,.sl .a9 2 [(lq s c).enc,(iN s c).enc],.any,.bool B2]++aj 100 .any) (l' := lo) (σ' := Z) ?_ ?_ ?_ J.o
   all_goals simp[aj,am,hb,bd]
 apply jn
 .intro J;have hb:=hB3;simp only[am,aj];cases eE:B2
  all_goals
   rw[eE] at hb;simp only[am,b8,xK]
  case' false =>
   by_cases Hr:c.op=11
   case' neg =>
    simp only[am,az Hr];rw[az Hr] at hb
   case' pos =>
    rw[aB Hr] at hb;simp only[am,aB Hr]
  all_goals
   refine a7.cY (t' := [.any,.int .i64 r.bytes,.int .i64 r.uC,.int .i64 r.lA,.any,.ptr (.au 0) 0,.any,.any,.any,.any,.ptr (.au 1) 0,.ptr (.au 2) 0,.ptr (.au 3) 0,.ptr (.au 4) 0,.any,.sl .a9 2 [(lq s c).enc,(iN s c).enc],.any,.bool (k_ r c)]++aj 100 .any) (l' := lo) (σ' := Z) ?_ ?_ ?_ J.o
   all_goals simp[aj,am,hb,bd]
 apply jn
 .intro J;simp only[am,aj]
  rcases al8 s r c with ⟨e1,e2,e3⟩ | ⟨e1,e2,e4,e3⟩ | ⟨e1,e2,e4,e3⟩ | ⟨e1,e2,e3⟩
  case' inl =>
   simp only[am,Nat.reduceAdd,b8,xK,e1];refine Ej (by simp[aJ]) ?_;simp only[am,b8,xK,az e2]
  case' inr.inl =>
   simp only[am,Nat.reduceAdd,b8,xK,e1,aB e2,aB e4];refine Ej (by simp[aJ]) ?_;simp only[am]
  case' inr.inr.inl =>
   simp only[am,b8,xK,e1,aB e2,az e4]
  case' inr.inr.inr =>
   simp only[am,b8,xK,e1,az e2]
  all_goals
   refine a7.cY (t' := [.any,.int .i64 r.bytes,.int .i64 r.uC,.int .i64 r.lA,.any,.ptr (.au 0) 0,.any,.any,.any,.any,.ptr (.au 1) 0,.ptr (.au 2) 0,.ptr (.au 3) 0,.ptr (.au 4) 0,.any,.sl .no 2 ((jq s r c).map aM.enc)]++aj 102 .any) (l' := lo) (σ' := Z) ?_ ?_ ?_ J.o
   all_goals simp[aj,am,e3,bd,aM.enc]
 subst dT;simp only[am,aj];have tL:(jq s r c).length<=4:=by
  have q1:=@pn (k_ r c) 7 c.pos;have q2:=@pn (decide (c.op=12)&&decide (r.lA<=1)) 8 c.pos;simp only[jq,bW,da,cZ];omega
 have n1:=cc.n;have n2:=cc.p;refine cl (IU (jq s r c) Z (by omega)) ?_;have cA:=aqC s c (Z:=Z) hs.1 (by omega) (by omega) (IX (by omega)) (IX (by omega)) cc.wl cc.wr;rw[hT] at cA;generalize fS (jq s r c)=f at eG jC;simp only[am,Nat.reduceAdd,aM.ak]
 by_cases hf:f.cls=0
 .simp only[am,aG.ak,cE,aB hf];refine cl cA ?_;simp only[am,Nat.reduceAdd,cE,fA,a1,a2,a3,a5];refine aN (by simp only[V.cM,bS,a4];rfl) (ab.bc _) ⟨?_,rfl⟩;rw[jC hk hf,wE];simp only[V.erase,aZ,a6];rfl
 .simp only[am,Nat.reduceAdd,aM.ak,fA,Ci,az hf,Ci];exact aQ _ _ f (eG hk hf)
def aeV:aR prog 12 (sq [rg 4 [ox 2 18 0,ox 3 18 1,oz 2],rg 5 [fo 0 2,fo 0 3,nb .eql 6,gA,fo 1 2,fo 1 3,nb .eql 12,gZ,gA,fo 2 2,fo 2 3,oC 33 [19,21],gZ,gA,of 3 2,nl 9,of 3 3,nl 9,oq (.kn aq [1,1,1,1,1,1,1,1,1] (.s 26) (.s 28)),gZ,gA,of 12 2,nl 2,of 12 3,nl 2,oC 34 [33,35],gZ,gA,of 14 2,nl 2,of 14 3,nl 2,oC 34 [40,42],gZ,gA,fo 16 2,fo 16 3,nb .eql 47,gZ,gA,fo 17 2,fo 17 3,nE .eql 54,gZ,o1 4],.ret]) [.tmp 4] 59:=aS func12
def ahI:aR prog 34 (sq [rg 4 [ox 2 2 0,ox 3 2 1,oz 2],sq [rg 6 [fo 1 2,fo 1 3,nb .neq 7,gB,fo 0 2,nL,fo 0 3,nL,nb .neq 14,gZ],cr 19 4 [oz 2]],sq [rg 5 [oi 0],bl 0 (sq [sq [rg 20 [om 5,fo 0 2,nL,nb .lss 20],cx 24 0],.block 1 (sq [dg 27 [fo 0 2,om 5,nA 10 28,nl 10,fo 0 3,om 5,nA 10 33,nl 10,oq (.kn aa [2,1,1,1,1,1,1,1,1,1] (.s 31) (.s 36))],cr 37 4 [oz 2]]),rg 25 [ic 5]])],rg 4 [oq (.mv (.c (.bool aa)))],.ret]) [.tmp 4] 38:=aS func34
def Sr{l:List ck}{j:Nat}(h:j<l.length):(l.map ck.enc)[((j:Nat):Int).toNat]?=U l[j].enc:=by simp[h]
def WD(t:fi)(Z:ab)(hl:t.fs.length<=100000):aT 34 [.agg t.enc,.agg t.enc] Z (.bool aa):=by
 refine ahI.aP ?_;simp only[aO,am,aX,Nat.reduceAdd,bL,fi.ak,aD];refine ct (t.fs.length) (λi (x:Unit)=>⟨[.any,.any,.ptr (.au 0) 0,.ptr (.au 1) 0,.any,.int .i64 (i:Nat)]++aj 32 .any,[t.enc,t.enc],Z⟩) (λi x=>(True)) λF hF JF aW=>⟨?_,?_,?_⟩
 .exact en aW (()) (trivial)
 .rintro i x hi -;simp only[hF,aj,am,ca hi,fi.ak,aD];refine ix (Sr hi) ?_;simp only[am,ck.ak,fi.ak];refine ix (Sr hi) ?_;simp only[am,bL,aK,ck.ak,bF hi];exact nx aW (()) hi (trivial)
 .rintro x -;simp only[hF,aj,am,aK,cy,aK,fi.ak,aD];exact rt
def abD(s:aG)(c:aL)(hl:c.left.cJ<=100000):(mZ s c).code.length<=100000:=by
 rw[mZ];split
 .have:=abF s (cN s c) c.left;simp only;omega
 .split<;>simp
def WY{s:aG}{lat:Nat}{n:Nd}(h:n.cJ<=100000):(mn s lat n).fs.length<=100000:=by
 have:=vX n
 rw[mn];split
 .simp
 .simp only[aD];omega
def aev(s:aG)(c:aL)(hl:c.left.cJ<=100000)(hr:c.right.cJ<=100000):(mZ s c).a.fs.length<=100000/\(mZ s c).b.fs.length<=100000:=by
 rw[mZ];split
 .simp[fi.zero]
 .split
  .exact⟨WY hl,WY hr⟩
  .simp[fi.zero]
def aqD(x:ju)(Z:ab)(hc:x.code.length<=100000)(ha:x.a.fs.length<=100000)(hb:x.b.fs.length<=100000):aT 12 [.agg x.enc,.agg x.enc] Z (.bool aa):=by
 obtain⟨op,lat,code,to,a,b,v,field⟩:=x;show cF prog 12 [.agg (cP op lat (.sl .no 10 (code.map bH.enc)) to (.sl .no 10 (a.fs.map ck.enc)) a.tail (.sl .no 10 (b.fs.map ck.enc)) b.tail v field),.agg (cP op lat (.sl .no 10 (code.map bH.enc)) to (.sl .no 10 (a.fs.map ck.enc)) a.tail (.sl .no 10 (b.fs.map ck.enc)) b.tail v field)] Z _;refine aeV.aP ?_;simp only[aO,am,aX,Nat.reduceAdd];simp only[am,bL,fA];refine cl (arY code code Z hc hc) ?_;simp only[am,bL,bO.ak,fA];refine cl (WD a Z ha) ?_;simp only[am,fA];refine cl (WD b Z hb) ?_;simp only[am,bL,fA];exact rt
def fn3:aR prog 3 (sq [rg 6 [ox 3 2 0,ox 4 3 1,oz 2],sq [rg 13 [ol 2 3,oC 7 [13],gB,om 2,nT,nB .gtr 1500,gZ],cr 19 20 [oC 8 [],o1 6]],rg 22 [ol 2 3,ol 3 4,om 2,oC 9 [22,23,24],o1 21,oe 21 0,oe 21 1,oe 21 2,oZ 7 [0,0,1,0,7,9,0,0,0,1,7,10,0,0,1,7,10],oR 8 iL,oZ 9 [0,0],os 17 7 26,os 18 8 27,o2 2 9],rg 30 [ol 2 3,fo 0 4,fo 1 4,fo 2 4,om 2,oC 10 [30,32,34,36,37],o1 29,oe 29 0,oe 29 1,oe 29 2,oZ 10 [0,0,1,0,7,9,0,0,0,1,7,10,0,0,1,7,10],oR 11 iL,oZ 12 [0,0],os 17 10 39,os 18 11 40,o2 2 12],dg 42 [ol 17 7,ol 17 10,oC 11 [42,43],gA,ol 18 8,ol 18 11,oC 12 [46,47],gZ,gA,ol 2 9,ol 2 12,oq (.kn aq [1,1] (.s 51) (.s 52)),gZ,gA,fo 2 4,oC 13 [57],of 2 4,mM [2],no,oC 14 [60],oq (.tt aq (.s 58) (.s 61)),gZ,gA,oC 8 [],gZ,o1 6],.ret]) [.tmp 6] 67:=aS func3
def al5(s:aG)(r:Rm){t:List UInt8}(ht:t.length<=3000):D6 (lG s r t).1/\(lG s r t).2.1.code.length<=100000/\(lG s r t).2.1.a.fs.length<=100000/\(lG s r t).2.1.b.fs.length<=100000:=by
 have iP:aJ=268435456:=rfl;have cc:=N1 ht;have z:D6 .zero/\ju.zero.code.length<=100000/\ju.zero.a.fs.length<=100000/\ju.zero.b.fs.length<=100000 :=
  ⟨⟨by simp[aL.zero],by simp[aL.zero],by simp[aL.zero,Nd.zero,Nd.wt,eK,fq];omega,by simp[aL.zero,Nd.zero,Nd.wt,eK,fq];omega⟩,by simp[ju.zero],by simp[ju.zero,fi.zero],by simp[ju.zero,fi.zero]⟩
 by_cases hr:(ij t).2.1=0
 .by_cases hf:(fS (jq s r (ij t).1)).cls=0
  .rw[Nz hr hf];have n1:=cc.n;have n2:=cc.p;refine⟨(⟨by omega,by omega,cc.wl,cc.wr⟩:D6 (ij t).1),?_⟩;simp only;split
   .exact⟨abD s _ cc.l,aev s _ cc.l cc.r⟩
   .exact z.2
  .rw[Ny hr hf];exact z
 .rw[Nx hr];exact z
def al4(s:aG)(r:Rm)(t:List UInt8)(hg:TZ Z)(mJ:Z.cQ 0=U il):
 aT 3 [.agg s.enc,.agg r.enc,.aH t] Z (.bool aa):=by
 have J7:=Zd hg mJ;have c1:=λh1 h2=>Na s r t (Z:=Z) h1 hg mJ h2
 have c2:=λh1 h2=>aq1 s r t (Z:=Z) h1 h2
 have hl:=λh=>al5 s r (t:=t) h
 refine fn3.aP ?_;simp only[aO,am,aX,Nat.reduceAdd,aG.ak,Rm.ak,iL];refine cl (aaa s Z) ?_;cases hb:Au s with
 | true =>
  simp only[am];refine cl J7 ?_;simp only[am];exact rt
 | false =>
  have hs:=aad hb
  by_cases o1:1500<t.length
  .simp only[am,aB (show(1500:Int)<t.length by omega)];refine cl J7 ?_;simp only[am];exact rt
  simp only[am,aG.ak,Rm.ak,az (show ¬(1500:Int)<t.length by omega)];obtain⟨h1,h2,h3,h4⟩:=hl (by omega);generalize lG s r t=X at c1 c2 h1 h2 h3 h4;obtain⟨c,x,f⟩:=X;simp only[wE] at c1 c2 h1 h2 h3 h4;have c3:=aqD x Z h2 h3 h4;obtain⟨a1,a2,a3,a4,a5⟩:=GS x;generalize x.enc=A at c1 c2 c3 a1 a2 a3 a4 a5;refine cl (c1 hs (by omega)) ?_;simp only[am,Nat.reduceAdd,aM.ak,aG.ak,Rm.ak,cE,fA,a1,a3,a5];refine cl (c2 hs (by omega)) ?_;simp only[am,Nat.reduceAdd,aM.ak,cE,fA,a1,a3,a5];refine bA.intro (atF h1 Z) ?_;simp only[am,a2,a4];refine bA.intro (c3) ?_;simp only[am,bL,aM.ak,Rm.ak];refine bA.intro (XO r.lA Z) ?_;simp only[am,Rm.ak];refine bA.intro (WX r.lA Z) ?_;simp only[am,bL];refine bA.intro (J7) ?_;simp only[am,Rm.ak];exact rt
end Go.Proofs.Tryz
