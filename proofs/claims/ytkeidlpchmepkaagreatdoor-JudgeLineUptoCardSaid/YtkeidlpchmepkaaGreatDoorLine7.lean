/-
  Part 7 of the proof of JudgeLineUptoCardSaid: a logic over the model, the forms of the functions that the law reaches, and what they compute.
-/
import Derived.Test.YtkeidlpchmepkaaGreatDoorProg
import Derived.Test.YtkeidlpchmepkaaGreatDoorLine6
set_option linter.unusedVariables false
set_option linter.unusedSimpArgs false
set_option linter.defProp false
set_option linter.unusedSectionVars false
set_option maxRecDepth 4000
set_option maxHeartbeats 4000000
open Option renaming some->U,none->ah
open Bool renaming true->aa,false->aq
open List renaming replicate->aj,range->bG,getD->gy,zipWith->lQ
open Eq renaming mpr->cI
open Ne renaming symm->fL
namespace Go.Proofs.Tryz
open Go.Am
def Sy:aR prog 187 (sq [rg 0 [oZ 6 [0,0,1,7,10,0,2,0]],sq [rg 12 [om 0,om 1,oc 183 [.s 12,.s 13,.c (.int .u8 97)]],ci 14 (sq [dg 15 [om 0,om 1,nA 5 15,nf 0,nF 2,om 0,om 1,nA 5 21,nf 0,nF 1,oG [0,0,1,7,10] [(0,1,.c (.int .i64 2)),(1,1,.s 20),(2,1,.s 26)],om 1,nB .add 1,oW [0,0,1,7,10,0,2,0] [(0,5,27),(5,1,29)],o2 8 6],.ret])],rg 7 [oi 0,oi 0],sq [rg 31 [om 0,om 1,oc 183 [.s 31,.s 32,.c (.int .u8 123)]],cd 33 (rg 7 [oi 6,oi 3]) (sq [rg 34 [om 0,om 1,oc 183 [.s 34,.s 35,.c (.int .u8 40)]],cd 36 (rg 7 [oi 1,oi 4]) (sq [rg 37 [om 0,om 1,oc 183 [.s 37,.s 38,.c (.int .u8 91)]],cd 39 (rg 7 [oi 2,oi 5]) (sq [rg 40 [om 0,om 1,om 2,oC 184 [40,41,42],o2 8 6],.ret])])])],rg 45 [om 7,om 0,om 1,nA 5 46,nl 5,om 8,nB .neq 4,oC 185 [45,49,51],o1 44,oe 44 0,oe 44 1,oZ 10 [0,0,1,7,10,0,2,0],ot 9 53,o2 8 10],sq [rg 55 [fo 6 10],cr 56 57 [ol 8 10,o2 8 6]],rg 58 [om 8,om 0,om 1,nA 5 59,nf 0,nF 2,om 9,oW [0,0,1,7,10] [(0,1,58),(1,1,64),(4,1,65)],oZ 11 [0,0,1,7,10],o2 5 11],sq [rg 67 [om 8,nB .eql 3],ci 68 (sq [rg 69 [om 9,oC 186 [69],of 3 11,os 1 71 70],rg 72 [of 4 11,od ah (.store 1 (.s 72) (.c (.sl .a9 5 [])))]])],rg 73 [ol 5 11,om 1,nB .add 1,oW [0,0,1,7,10,0,2,0] [(0,5,73),(5,1,75)],o2 8 6],.ret]) [.cell 6 aa 8] 77:=aS func187
def agN:aR prog 234 (sq [rg 0 [oZ 6 [0,0,1,7,10,0,2,0]],sq [rg 7 [oi 0],bl 0 (sq [sq [rg 11 [om 7,nB .lss 3],cx 12 0],.block 1 (sq [rg 15 [oq (.km 1 [(.c (.int .u8 97)),(.c (.int .u8 58)),(.c (.int .u8 123))]),o1 8],rg 16 [om 0,om 1,om 7,nb .add 17,om 8,om 7,nA 1 20,no,oC 183 [16,19,23],nn],cr 25 26 [om 0,om 1,om 7,nb .add 27,om 2,oC 184 [26,29,30],o2 8 6]]),rg 13 [ic 7]])],rg 33 [om 0,om 1,nB .add 2,nA 5 33,nl 5,oc 185 [.c (.int .i64 6),.s 37,.c (.bool aa)],o1 32,oe 32 0,oe 32 1,oZ 10 [0,0,1,7,10,0,2,0],ot 9 39,o2 8 10],sq [rg 41 [fo 6 10],cr 42 43 [ol 8 10,o2 8 6]],dg 44 [om 0,om 1,nA 5 44,nf 0,nf 2,mM [1],no,om 0,om 1,nA 5 50,nf 0,nf 1,mM [1],no,om 9,oC 186 [56],oG [0,0,1,7,10] [(0,1,.c (.int .i64 6)),(1,1,.s 49),(2,1,.s 55),(3,1,.s 57)],om 1,nB .add 3,oW [0,0,1,7,10,0,2,0] [(0,5,58),(5,1,60)],o2 8 6],.ret]) [.cell 6 aa 8] 62:=aS func234
variable{j:Nat}{l:List aA}
def tc{t:aA}(h:l[j]?=U t):bU l (j:Nat)=t/\fD l (j:Nat)=t.tok:=by simp[bU,fD,h]
def Bm{t:aA}(h:l[j]?=U t):bE t.ae+1<=bE l:=by
 have hl:=(fw.1 h).1;have h1:=NM hl;have h3:l[j]=t:=by rw[bN hl] at h;simpa using h
 rw[h3] at h1;exact h1
def P0(n:Nat)(l:List aA):Prop:=∀(a fin:Int) (Z:ab),aT 187 [.sl .no 5 (cm l),.int .i64 a,.int .i64 fin] Z (.agg (g_ n l a fin).enc)
def JH(n:Nat)(l:List aA):Prop:=∀(a fin:Int) (Z:ab),aT 135 [.sl .no 5 (cm l),.int .i64 a,.int .i64 fin] Z (.agg (fM n l a fin).enc)
variable{n:Nat}
def aop(h:P0 n l)(a fin:Int)(Z:ab):aT 189 [.int .i64 1,.sl .no 5 (cm l),.int .i64 a,.int .i64 fin] Z (.agg (g_ n l a fin).enc):=by
 refine CK.aP ?_;simp only[aO,am,aX,Nat.reduceAdd,bL];refine cl (h a fin Z) ?_;simp only[am,Nat.reduceAdd,bD.enc];refine aC ?_;simp[V.erase,aZ]
def Jw:=af @am <| af @aX <| af @bL @c9
def aou(h:JH n l)(a fin:Int)(Z:ab):aT 189 [.int .i64 3,.sl .no 5 (cm l),.int .i64 a,.int .i64 fin] Z (.agg (fM n l a fin).enc):=by
 refine CK.aP ?_;simp only[aO,Jw,Nat.reduceAdd,Int.reduceEq];refine cl (h a fin Z) ?_;simp only[am,Nat.reduceAdd,bD.enc];refine aC ?_;simp[V.erase,aZ]
def aow(h:JH n l)(a fin:Int)(Z:ab):aT 189 [.int .i64 5,.sl .no 5 (cm l),.int .i64 a,.int .i64 fin] Z (.agg (ng n l a fin).enc):=by
 refine CK.aP ?_;simp only[aO,Jw,Nat.reduceAdd,Int.reduceEq];refine cl (gP l a 43 Z) ?_;cases pM:bf l a 43
 .simp only[am];refine cl (gP l a 38 Z) ?_;cases nZ:bf l a 38
  .simp only[am];refine cl (h a fin Z) ?_;simp only[am,Nat.reduceAdd,bD.enc];refine aC ?_;simp[V.erase,aZ,ng,pM,nZ]
  .simp only[am];refine cl (lM l a fin Z) ?_;simp only[am,Nat.reduceAdd,bD.enc];refine aC ?_;simp[V.erase,aZ,ng,pM,nZ]
 .simp only[am];refine cl (lM l a fin Z) ?_;simp only[am,Nat.reduceAdd,bD.enc];refine aC ?_;simp[V.erase,aZ,ng,pM]
def alq:List (List V):=[[.int .u8 97],[.int .u8 58],[.int .u8 123]]
def u2(k:Nat):Int:=if k=0 then 97 else if k=1 then 58 else 123
def M9(l:List aA)(a fin:Int)(Z:ab)(k:Nat):St :=
 ⟨[.sl .no 5 (cm l),.int .i64 a,.int .i64 fin,.any,.any,.any,.ptr (.au 0) 0,.int .i64 (k:Nat)]++aj 54 .any,[Dw],Z⟩
def arF(l:List aA)(a fin:Int)(Z:ab)(hm:bE l+1<=aJ)(ha : -1000<=a)(y8:a<=aJ):aT 234 [.sl .no 5 (cm l),.int .i64 a,.int .i64 fin] Z (.agg (qk l a fin).enc):=by
 have hlen:=gj l;simp only[aJ] at hm y8;have wk:∀k:Nat,k<=3->IntKind.i64.wrap (a+(k:Int))=a+(k:Int):=λk hk=>wrap_i64 (by omega) (by omega)
 refine agN.aP ?_;simp only[aO,am,aX,Nat.reduceAdd];refine dP (λp:{k:Nat // k<=3/\∀j,j<k->bf l (a+(j:Nat)) (u2 j)=aa}=>M9 l a fin Z p.1) (λp=>3 - p.1) ?_ ?_
 .refine a7.enter ⟨0,by simp,by simp⟩ ?_ bV.rfl br.rfl;simp[M9,aj,am]
 .rintro⟨k,hk,cT⟩;simp only[M9,aj,am,Dw]
  by_cases an:k<3
  .simp only[am,aB (show(k:Int)<3 by omega)];rw[show([[V.int .u8 97],[V.int .u8 58],[V.int .u8 123]]:List (List V))=alq from rfl];refine ka (c:=[.int .u8 (u2 k)]) (by match k,an with | 0,_=>rfl | 1,_=>rfl | 2,_=>rfl) ?_;simp only[am,wk k hk];refine cl (gP l (a+(k:Nat)) (u2 k) Z) ?_;cases hc:bf l (a+(k:Nat)) (u2 k)
   .simp only[am,wk k hk];refine cl (lM l (a+(k:Nat)) fin Z) ?_;simp only[am,Nat.reduceAdd,bD.enc];refine aN rfl (ab.bc _) ⟨?_,rfl⟩;have bI:qk l a fin=dG l (a+(k:Nat)) fin:=by
     unfold qk
     match k,an with
     | 0,_=>rw[aI (by simpa [u2] using hc)];simp
     | 1, _ =>
      have h0:=cT 0 (by omega);rw[aw (by simpa [u2] using h0),aI (by simpa [u2] using hc)];rfl
     | 2, _ =>
      have h0:=cT 0 (by omega);have h1:=cT 1 (by omega);rw[aw (by simpa [u2] using h0),aw (by simpa [u2] using h1),aI (by simpa [u2] using hc)];rfl
    rw[bI];simp[V.erase,aZ]
   .have wi:IntKind.i64.wrap ((k:Int)+1)=((k+1:Nat):Int):=by rw[wrap_i64];simp
    simp only[am,wi];refine a7.again ⟨k+1,by omega,λj hj=>?_⟩ (by simp;omega) (by simp[am]) (by simp[am]) br.rfl
    by_cases e:j=k
    .subst e;exact hc
    .exact cT j (by omega)
  .obtain rfl:k=3:=by omega
   have h0:bf l a 97=true:=by simpa [u2] using cT 0 (by omega)
   have h1:bf l (a+1) 58=true:=cT 1 (by omega);have h2:bf l (a+2) 123=true:=cT 2 (by omega);obtain⟨j,t0,rfl,qD,_,A6⟩:=iB h0;obtain⟨j2,t,A4,hj,_,hl⟩:=iB h2;obtain rfl:j2=j+2:=by omega
   have w2:IntKind.i64.wrap ((j:Int)+2)=((j+2:Nat):Int):=by rw[wrap_i64];simp
   have w3:IntKind.i64.wrap ((j:Int)+3)=(j:Int)+3:=wrap_i64 (by omega) (by omega);have hk:=Bm hj;obtain⟨_,gv⟩:=tc qD;have ht:bU l ((j:Int)+2)=t:=(tc hj).1;have bI:qk l (j:Nat) fin=if (wholeAt nameAt t aa).2.aQ=aa then(wholeAt nameAt t aa).2 else ⟨.mk 6 t0.tok.pos t0.tok.ar (jK (wholeAt nameAt t aa).1) [],(j:Int)+3,aq,0⟩:=by simp[qk,h0,h1,h2,ht,gv]
   simp only[am,c9,show(((3:Nat):Int)<3)=False by simp,w2];refine ix (gC hj) ?_;simp only[am,aA.ak];refine cl (Pw t aa Z (by have:=gj t.ae;simp only[aJ];omega)) ?_;have jW:=Px (one:=nameAt) t aa;have kT:=gj t.ae;generalize wholeAt nameAt t aa=R at bI jW ⊢;simp only[am,Nat.reduceAdd,bD.enc];cases bZ:R.2.aQ
   .simp only[am];refine ix (gC qD) ?_;simp only[am,aA.fl];refine ix (gC qD) ?_;simp only[am,aA.fl];refine bA.intro (Dt R.1 Z (by simp only[aJ];omega)) ?_;simp only[am,Nat.reduceAdd,w3,aA.fl];refine aC ?_;simp[V.erase,aZ,bI,bZ,Nd.kind,Nd.pos,Nd.ar,Nd.al,Nd.ae]
   .simp only[am,Nat.reduceAdd];refine aC ?_;simp[V.erase,aZ,bI,bZ]
def aot(hm:bE l+1<=aJ)(a:Nat)(ha:a<=aJ)(fin:Int)(Z:ab):aT 189 [.int .i64 2,.sl .no 5 (cm l),.int .i64 (a:Nat),.int .i64 fin] Z (.agg (qk l a fin).enc):=by
 refine CK.aP ?_;simp only[aO,Jw,Nat.reduceAdd,Int.reduceEq];refine cl (arF l a fin Z hm (by omega) (by omega)) ?_;simp only[am,Nat.reduceAdd,bD.enc];refine aC ?_;simp[V.erase,aZ]
def abJ:∀(n:Nat) (l:List aA),bE l<=n->bE l+1<=aJ->P0 n l:=by
 intro n;induction n with
 | zero =>
  intro l hn hm a fin Z;obtain rfl:l=[]:=by cases l with | nil=>rfl | cons t ts=>simp only[bE] at hn;omega
  have hk:∀k,bf [] a k=false:=λk=>by simp[bf]
  refine Sy.aP ?_;simp only[aO,am,aX,Nat.reduceAdd];refine cl (gP [] a 97 Z) ?_;simp only[am,hk];refine cl (gP [] a 123 Z) ?_;simp only[am,hk];refine cl (gP [] a 40 Z) ?_;simp only[am,hk];refine cl (gP [] a 91 Z) ?_;simp only[am,hk];refine cl (lM [] a fin Z) ?_;simp only[am,Nat.reduceAdd,bD.enc];refine aC ?_;simp[V.erase,aZ,g_,qO,hk]
 | succ n ih =>
  intro l hn hm a fin Z;have hlen:=gj l;refine Sy.aP ?_;simp only[aO,am,aX,Nat.reduceAdd];refine cl (gP l a 97 Z) ?_;cases di:bf l a 97
  .simp only[am];refine cl (gP l a 123 Z) ?_;cases AR:bf l a 123
   .simp only[am];refine cl (gP l a 40 Z) ?_;cases sC:bf l a 40
    .simp only[am];refine cl (gP l a 91 Z) ?_;cases tE:bf l a 91
     .simp only[am];refine cl (lM l a fin Z) ?_;simp only[am,Nat.reduceAdd,bD.enc];refine aC ?_;simp[V.erase,aZ,g_,di,AR,sC,tE]
     .obtain⟨j,t,rfl,hj,_,hl⟩:=iB tE;have hk:=Bm hj;have kT:=gj t.ae;obtain⟨ht,gv⟩:=tc hj;have w1:IntKind.i64.wrap ((j:Int)+1)=(j:Int)+1:=by simp only[aJ] at hm;exact wrap_i64 (by omega) (by omega)
      have bI:g_ (n+1) l (j:Nat) fin=iA (wholeAt qk t aa) (λks=>.mk 5 t.tok.pos [] [] ks) ((j:Int)+1):=by simp[g_,di,AR,sC,tE,ht,gv]
      simp only[am];refine ix (gC hj) ?_;simp only[am,c9,aA.ak,Int.reduceEq];refine cl (Pv 2 qk QB t aa Z (by omega) (λa ha Z=>aot (by omega) a (by omega) t.fin Z)) ?_;generalize wholeAt qk t aa=R at bI ⊢;simp only[am,Nat.reduceAdd,bD.enc];cases bZ:R.2.aQ
      .simp only[am];refine ix (gC hj) ?_;simp only[am,Nat.reduceAdd,c9,Int.reduceEq,aA.fl];simp only[w1];refine aC ?_;simp[V.erase,aZ,bI,iA,bZ,Nd.kind,Nd.pos,Nd.ar,Nd.al,Nd.ae]
      .simp only[am,Nat.reduceAdd];refine aC ?_;simp[V.erase,aZ,bI,iA,bZ]
    .obtain⟨j,t,rfl,hj,_,hl⟩:=iB sC;have hk:=Bm hj;obtain⟨ht,gv⟩:=tc hj;have w1:IntKind.i64.wrap ((j:Int)+1)=(j:Int)+1:=by simp only[aJ] at hm;exact wrap_i64 (by omega) (by omega)
     have bI:g_ (n+1) l (j:Nat) fin=iA (wholeAt (g_ n) t aq) (λks=>.mk 4 t.tok.pos [] [] ks) ((j:Int)+1):=by simp[g_,di,AR,sC,ht,gv]
     simp only[am];refine ix (gC hj) ?_;simp only[am,bL,aA.ak];refine cl (Pv 1 (g_ n) (J6 n) t aq Z (by have:=gj t.ae;omega) (λa _ Z=>aop (ih t.ae (by omega) (by omega)) a t.fin Z)) ?_;generalize wholeAt (g_ n) t aq=R at bI ⊢;simp only[am,Nat.reduceAdd,bD.enc];cases bZ:R.2.aQ
     .simp only[am];refine ix (gC hj) ?_;simp only[am,Nat.reduceAdd,c9,Int.reduceEq,aA.fl];simp only[w1];refine aC ?_;simp[V.erase,aZ,bI,iA,bZ,Nd.kind,Nd.pos,Nd.ar,Nd.al,Nd.ae]
     .simp only[am,Nat.reduceAdd];refine aC ?_;simp[V.erase,aZ,bI,iA,bZ]
   .obtain⟨j,t,rfl,hj,_,hl⟩:=iB AR;have hk:=Bm hj;have kT:=gj t.ae;obtain⟨ht,gv⟩:=tc hj;have w1:IntKind.i64.wrap ((j:Int)+1)=(j:Int)+1:=by simp only[aJ] at hm;exact wrap_i64 (by omega) (by omega)
    have bI:g_ (n+1) l (j:Nat) fin=iA (wholeAt nameAt t aa) (λks=>.mk 3 t.tok.pos [] (jK ks) []) ((j:Int)+1):=by simp[g_,di,AR,ht,gv]
    simp only[am];refine ix (gC hj) ?_;simp only[am,c9,aA.ak,Int.reduceEq];refine cl (Pw t aa Z (by omega)) ?_;have jW:=Px (one:=nameAt) t aa;generalize wholeAt nameAt t aa=R at bI jW ⊢;simp only[am,Nat.reduceAdd,bD.enc];cases bZ:R.2.aQ
    .simp only[am];refine ix (gC hj) ?_;simp only[am,Nat.reduceAdd,bL,aA.fl];refine cl (Dt R.1 Z (by omega)) ?_;simp only[am,Nat.reduceAdd,w1];refine aC ?_;simp[V.erase,aZ,bI,iA,bZ,Nd.kind,Nd.pos,Nd.ar,Nd.al,Nd.ae]
    .simp only[am,Nat.reduceAdd];refine aC ?_;simp[V.erase,aZ,bI,iA,bZ]
  .obtain⟨j,t,rfl,hj,_,hl⟩:=iB di;obtain⟨ht,gv⟩:=tc hj;have w1:IntKind.i64.wrap ((j:Int)+1)=(j:Int)+1:=by simp only[aJ] at hm;exact wrap_i64 (by omega) (by omega)
   simp only[am];refine ix (gC hj) ?_;simp only[am,aA.fl];refine ix (gC hj) ?_;simp only[am,Nat.reduceAdd,aA.fl,w1];refine aC ?_;simp[V.erase,aZ,g_,qO,di,gv,bD.enc,Nd.kind,Nd.pos,Nd.ar,Nd.al,Nd.ae]
def Sw:aR prog 135 (sq [rg 0 [oZ 6 [0,0,1,7,10,0,2,0]],sq [rg 11 [om 0,om 1,oc 183 [.s 11,.s 12,.c (.int .u8 97)]],ci 13 (sq [dg 14 [om 0,om 1,nA 5 14,nf 0,nF 2,om 0,om 1,nA 5 20,nf 0,nF 1,oG [0,0,1,7,10] [(0,1,.c (.int .i64 1)),(1,1,.s 19),(2,1,.s 25)],om 1,nB .add 1,oW [0,0,1,7,10,0,2,0] [(0,5,26),(5,1,28)],o2 8 6],.ret])],sq [rg 30 [om 0,om 1,oc 183 [.s 30,.s 31,.c (.int .u8 35)]],ci 32 (sq [rg 33 [om 0,om 1,nB .add 1,om 2,oC 187 [33,35,36],oZ 7 [0,0,1,7,10,0,2,0],o2 8 7],sq [rg 38 [fo 6 7,nn],ci 40 (dg 41 [om 0,om 1,nA 5 41,nf 0,nF 2,of 0 7,nl 5,n1 5,oG [0,0,1,7,10] [(0,1,.c (.int .i64 7)),(1,1,.s 46),(4,1,.s 49)],of 0 7,os 5 51 50])],rg 52 [ol 8 7,o2 8 6],.ret])],sq [rg 53 [om 0,om 1,oc 183 [.s 53,.s 54,.c (.int .u8 43)],nn,gA,om 0,om 1,oc 183 [.s 58,.s 59,.c (.int .u8 38)],nn,gZ],cr 62 63 [om 0,om 1,om 2,oC 184 [63,64,65],o2 8 6]],sq [rg 67 [om 0,om 1,nB .add 1,oc 183 [.s 67,.s 69,.c (.int .u8 40)],nn],cr 71 72 [om 0,om 1,nB .add 1,om 2,oC 184 [72,74,75],o2 8 6]],rg 78 [om 0,om 1,nB .add 1,nA 5 78,nl 5,oc 185 [.c (.int .i64 3),.s 82,.c (.bool aq)],o1 77,oe 77 0,oe 77 1,oZ 9 [0,0,1,7,10,0,2,0],ot 8 84,o2 8 9],sq [rg 86 [fo 6 9],cr 87 88 [ol 8 9,o2 8 6]],rg 10 [oi 8],sq [rg 89 [om 0,om 1,oc 183 [.s 89,.s 90,.c (.int .u8 38)]],ci 91 (rg 10 [oi 9])],rg 92 [om 10,om 0,om 1,nA 5 93,nf 0,nF 2,om 8,oW [0,0,1,7,10] [(0,1,92),(1,1,98),(4,1,99)],om 1,nB .add 2,oW [0,0,1,7,10,0,2,0] [(0,5,100),(5,1,102)],o2 8 6],.ret]) [.cell 6 aa 8] 104:=aS func135
def afa:aR prog 136 (sq [rg 0 [oZ 6 [0,0,1,7,10,0,2,0]],sq [rg 13 [om 0,om 1,oc 183 [.s 13,.s 14,.c (.int .u8 97)]],cr 15 16 [om 0,om 1,om 2,oC 135 [16,17,18],o2 8 6]],sq [rg 20 [om 0,om 1,oc 183 [.s 20,.s 21,.c (.int .u8 91)],nn],cr 23 24 [om 0,om 1,om 2,oC 184 [24,25,26],o2 8 6]],rg 28 [om 0,om 1,nA 5 28,nl 5,oZ 7 [3,1,0,10,0],o2 5 7],rg 32 [of 0 7,nF 2,oG [0,0,1,7,10] [(0,1,.c (.int .i64 10)),(1,1,.s 34)],oZ 8 [0,0,1,7,10],o2 5 8],rg 9 [oi 0],sq [rg 36 [fo 3 7,nL,nB .gtr 0,gA,fo 3 7,oc 183 [.s 42,.c (.int .i64 0),.c (.int .u8 124)],nn,gZ],ci 45 (sq [rg 47 [fo 3 7,fo 4 7,oc 188 [.c (.int .i64 4),.s 48,.c (.int .i64 0),.s 50],o1 46,oe 46 0,oe 46 1,oZ 11 [0,0,1,7,10,0,2,0],ot 10 52,o2 8 11],sq [rg 54 [fo 6 11],cr 55 56 [ol 8 11,o2 8 6]],rg 57 [om 10,of 4 8,os 1 58 57],rg 59 [fo 5 11,o1 9]])],sq [rg 61 [fo 3 7,om 9,oc 183 [.s 62,.s 63,.c (.int .u8 124)]],ci 64 (sq [rg 65 [fo 3 7,om 9,nB .add 1,fo 4 7,oc 189 [.c (.int .i64 6),.s 66,.s 68,.s 70],oZ 12 [0,0,1,7,10,0,2,0],o2 8 12],sq [rg 72 [fo 6 12],cr 73 74 [ol 8 12,o2 8 6]],rg 75 [of 0 12,nl 5,n1 5,oC 186 [77],of 3 8,os 1 79 78],rg 80 [fo 5 12,o1 9]])],sq [rg 82 [om 9,fo 3 7,nL,nb .lss 82],cr 86 87 [fo 3 7,om 9,fo 4 7,oC 184 [88,89,91],o2 8 6]],rg 93 [ol 5 8,om 1,nB .add 1,oW [0,0,1,7,10,0,2,0] [(0,5,93),(5,1,95)],o2 8 6],.ret]) [.cell 6 aa 8] 97:=aS func136
def agO:aR prog 235 (sq [rg 0 [oZ 6 [0,0,1,7,10,0,2,0]],sq [rg 8 [om 0,om 1,oc 183 [.s 8,.s 9,.c (.int .u8 97)],nn],cr 11 12 [om 0,om 1,om 2,oC 184 [12,13,14],o2 8 6]],sq [rg 16 [om 0,om 1,nB .add 1,oc 183 [.s 16,.s 18,.c (.int .u8 61)],nn],cr 20 21 [om 0,om 1,nB .add 1,om 2,oC 184 [21,23,24],o2 8 6]],rg 26 [om 0,om 1,nB .add 2,om 2,oc 189 [.c (.int .i64 5),.s 26,.s 28,.s 29],oZ 7 [0,0,1,7,10,0,2,0],o2 8 7],sq [rg 31 [fo 6 7,nn],ci 33 (dg 34 [om 0,om 1,nA 5 34,nf 0,nF 2,om 0,om 1,nA 5 40,nf 0,nF 1,of 0 7,nl 5,n1 5,oG [0,0,1,7,10] [(0,1,.c (.int .i64 11)),(1,1,.s 39),(2,1,.s 45),(4,1,.s 48)],of 0 7,os 5 50 49])],rg 51 [ol 8 7,o2 8 6],.ret]) [.cell 6 aa 8] 52:=aS func235
def Nm:∀(n:Nat) (l:List aA),bE l<=n->bE l+1<=aJ->JH n l:=by
 intro n;induction n with
 | zero =>
  intro l hn hm a fin Z;obtain rfl:l=[]:=by cases l with | nil=>rfl | cons t ts=>simp only[bE] at hn;omega
  have hk:∀a k,bf [] a k=false:=λa k=>by simp[bf]
  refine Sw.aP ?_;simp only[aO,am,aX,Nat.reduceAdd];refine cl (gP [] a 97 Z) ?_;simp only[am,hk];refine cl (gP [] a 35 Z) ?_;simp only[am,hk];refine cl (gP [] a 43 Z) ?_;simp only[am,hk];refine cl (gP [] a 38 Z) ?_;simp only[am,hk];refine cl (lM [] a fin Z) ?_;simp only[am,Nat.reduceAdd,bD.enc];refine aC ?_;simp[V.erase,aZ,fM,qO,hk]
 | succ n ih =>
  intro l hn hm a fin Z;have hlen:=gj l;have w1:∀j:Nat,j<=l.length->IntKind.i64.wrap ((j:Int)+1)=((j+1:Nat):Int):=λj hj=>by simp only[aJ] at hm;rw[wrap_i64];simp
  have w2:∀j:Nat,j<=l.length->IntKind.i64.wrap ((j:Int)+2)=((j+2:Nat):Int):=λj hj=>by simp only[aJ] at hm;rw[wrap_i64];simp
  refine Sw.aP ?_;simp only[aO,am,aX,Nat.reduceAdd];refine cl (gP l a 97 Z) ?_;cases di:bf l a 97
  .simp only[am];refine cl (gP l a 35 Z) ?_;cases nr:bf l a 35
   .simp only[am];refine cl (gP l a 43 Z) ?_;cases pM:bf l a 43
    case' true =>
     obtain⟨j,t0,rfl,qD,_,A6⟩:=iB pM;have nZ:bf l (j:Nat) 38=false:=by
      cases hq:bf l (j:Nat) 38 with
      | false=>rfl
      | true =>
       obtain⟨j',t',e,gF,iX,_⟩:=iB hq;obtain rfl:j' = j:=by omega
       rw[qD] at gF;simp only[bg] at gF;subst gF;omega
     simp only[am,w1 j (by omega)]
    case' false =>
     simp only[am];refine cl (gP l a 38 Z) ?_;cases nZ:bf l a 38
     .simp only[am];refine cl (lM l a fin Z) ?_;simp only[am,Nat.reduceAdd,bD.enc];refine aC ?_;simp[V.erase,aZ,fM,di,nr,pM,nZ]
     obtain⟨j,t0,rfl,qD,_,A6⟩:=iB nZ;simp only[am,w1 j (by omega)]
    all_goals
     obtain⟨_,gv⟩:=tc qD;refine cl (gP l ((j+1:Nat):Int) 40 Z) ?_;cases sC:bf l ((j+1:Nat):Int) 40
     .simp only[am,w1 j (by omega)];refine cl (lM l ((j+1:Nat):Int) fin Z) ?_;simp only[am,Nat.reduceAdd,bD.enc];have Lc : bf l ((j:Int)+1) 40=false:=sC;have e:((j+1:Nat):Int)=(j:Int)+1:=rfl;refine aC ?_;simp[V.erase,aZ,fM,di,nr,pM,nZ,Lc,e]
     .obtain⟨j2,t,A4,hj,_,hl⟩:=iB sC;obtain rfl:j2=j+1:=by omega
      have hk:=Bm hj;have kT:=gj t.ae;have ht:bU l ((j:Int)+1)=t:=(tc hj).1;have Lc : bf l ((j:Int)+1) 40=true:=sC;have bI:fM (n+1) l (j:Nat) fin=iA (wholeAt (fM n) t aq) (λks=>.mk (if bf l (j:Nat) 38=aa then 9 else 8) t0.tok.pos [] [] ks) ((j:Int)+2):=by simp[fM,di,nr,pM,nZ,Lc,ht,gv]
      simp only[am,w1 j (by omega)];refine ix (gC hj) ?_;simp only[am,aA.ak];refine cl (Pv 3 (fM n) (Eh n) t aq Z (by omega) (λa _ Z=>aou (ih t.ae (by omega) (by omega)) a t.fin Z)) ?_;generalize wholeAt (fM n) t aq=R at bI ⊢;simp only[am,Nat.reduceAdd,bD.enc];cases bZ:R.2.aQ
      .simp only[am];refine cl (gP l (j:Nat) 38 Z) ?_;simp only[am,nZ];refine ix (gC qD) ?_;simp only[am,Nat.reduceAdd,aA.fl,w2 j (by omega)];refine aC ?_;simp[V.erase,aZ,bI,iA,bZ,Nd.kind,Nd.pos,Nd.ar,Nd.al,Nd.ae,nZ]
      .simp only[am,Nat.reduceAdd];refine aC ?_;simp[V.erase,aZ,bI,iA,bZ]
   .obtain⟨j,t0,rfl,qD,_,A6⟩:=iB nr;obtain⟨_,gv⟩:=tc qD;have bI:fM (n+1) l (j:Nat) fin=(g_ (n+1) l ((j:Int)+1) fin).put λm=>.mk 7 t0.tok.pos [] [] [m]:=by simp[fM,di,nr,gv]
    simp only[am,w1 j (by omega)];refine cl (abJ (n+1) l hn hm ((j+1:Nat):Int) fin Z) ?_;have e:g_ (n+1) l ((j:Int)+1) fin=g_ (n+1) l ((j+1:Nat):Int) fin:=rfl;rw[e] at bI;generalize g_ (n+1) l ((j+1:Nat):Int) fin=g at bI ⊢;simp only[am,Nat.reduceAdd,bD.enc];cases bZ:g.aQ
    .simp only[am];refine ix (gC qD) ?_;simp only[am,Nat.reduceAdd,aA.fl];refine aC ?_;simp[V.erase,aZ,bI,bD.put,bZ,Nd.kind,Nd.pos,Nd.ar,Nd.al,Nd.ae,Nd.cS]
    .simp only[am,Nat.reduceAdd];refine aC ?_;simp[V.erase,aZ,bI,bD.put,bZ]
  .obtain⟨j,t,rfl,hj,_,hl⟩:=iB di;obtain⟨ht,gv⟩:=tc hj;simp only[am];refine ix (gC hj) ?_;simp only[am,aA.fl];refine ix (gC hj) ?_;simp only[am,Nat.reduceAdd,aA.fl,w1 j (by omega)];refine aC ?_;simp[V.erase,aZ,fM,qO,di,gv,bD.enc,Nd.kind,Nd.pos,Nd.ar,Nd.al,Nd.ae]
def ael(n:Nat)(l:List aA)(hn:bE l<=n)(hm:bE l+1<=aJ)(a fin:Int)(Z:ab):aT 235 [.sl .no 5 (cm l),.int .i64 a,.int .i64 fin] Z (.agg (pI n l a fin).enc):=by
 have hlen:=gj l;have w1:∀j:Nat,j<=l.length->IntKind.i64.wrap ((j:Int)+1)=((j+1:Nat):Int):=λj hj=>by simp only[aJ] at hm;rw[wrap_i64];simp
 have w2:∀j:Nat,j<=l.length->IntKind.i64.wrap ((j:Int)+2)=((j+2:Nat):Int):=λj hj=>by simp only[aJ] at hm;rw[wrap_i64];simp
 refine agO.aP ?_;simp only[aO,am,aX,Nat.reduceAdd];refine cl (gP l a 97 Z) ?_;cases di:bf l a 97
 .simp only[am];refine cl (lM l a fin Z) ?_;simp only[am,Nat.reduceAdd,bD.enc];refine aC ?_;simp[V.erase,aZ,pI,di]
 .obtain⟨j,t0,rfl,qD,_,A6⟩:=iB di;obtain⟨_,gv⟩:=tc qD;simp only[am,w1 j (by omega)];refine cl (gP l ((j+1:Nat):Int) 61 Z) ?_;cases S7:bf l ((j+1:Nat):Int) 61
  .have Ld : bf l ((j:Int)+1) 61=false:=S7;have e:((j+1:Nat):Int)=(j:Int)+1:=rfl;simp only[am,w1 j (by omega)];refine cl (lM l ((j+1:Nat):Int) fin Z) ?_;simp only[am,Nat.reduceAdd,bD.enc];refine aC ?_;simp[V.erase,aZ,pI,di,Ld,e]
  .have Ld : bf l ((j:Int)+1) 61=true:=S7;have bI:pI n l (j:Nat) fin=(ng n l ((j+2:Nat):Int) fin).put λm=>.mk 11 t0.tok.pos t0.tok.ar [] [m]:=by
    have e:((j+2:Nat):Int)=(j:Int)+2:=rfl;simp[pI,di,Ld,gv,e]
   simp only[am,w2 j (by omega)];refine cl (aow (Nm n l hn hm) ((j+2:Nat):Int) fin Z) ?_;generalize ng n l ((j+2:Nat):Int) fin=g at bI ⊢;simp only[am,Nat.reduceAdd,bD.enc];cases bZ:g.aQ
   .simp only[am];refine ix (gC qD) ?_;simp only[am,aA.fl];refine ix (gC qD) ?_;simp only[am,Nat.reduceAdd,aA.fl];refine aC ?_;simp[V.erase,aZ,bI,bD.put,bZ,Nd.kind,Nd.pos,Nd.ar,Nd.al,Nd.ae,Nd.cS]
   .simp only[am,Nat.reduceAdd];refine aC ?_;simp[V.erase,aZ,bI,bD.put,bZ]
def aov(hn:bE l<=n)(hm:bE l+1<=aJ)(a fin:Int)(Z:ab):aT 189 [.int .i64 4,.sl .no 5 (cm l),.int .i64 a,.int .i64 fin] Z (.agg (pI n l a fin).enc):=by
 refine CK.aP ?_;simp only[aO,Jw,Nat.reduceAdd,Int.reduceEq];refine cl (ael n l hn hm a fin Z) ?_;simp only[am,Nat.reduceAdd,bD.enc];refine aC ?_;simp[V.erase,aZ]
def arf(n:Nat)(l:List aA)(hn:bE l<=n)(hm:bE l+1<=aJ)(a fin:Int)(Z:ab):aT 136 [.sl .no 5 (cm l),.int .i64 a,.int .i64 fin] Z (.agg (iG n l a fin).enc):=by
 have hlen:=gj l;have w1:∀j:Nat,j<=l.length->IntKind.i64.wrap ((j:Int)+1)=((j+1:Nat):Int):=λj hj=>by simp only[aJ] at hm;rw[wrap_i64];simp
 refine afa.aP ?_;simp only[aO,am,aX,Nat.reduceAdd];refine cl (gP l a 97 Z) ?_;cases di:bf l a 97
 case' true =>
  simp only[am];refine cl (Nm n l hn hm a fin Z) ?_;simp only[am,Nat.reduceAdd,bD.enc];refine aC ?_;simp[V.erase,aZ,iG,di]
 simp only[am];refine cl (gP l a 91 Z) ?_;cases tE:bf l a 91
 .simp only[am];refine cl (lM l a fin Z) ?_;simp only[am,Nat.reduceAdd,bD.enc];refine aC ?_;simp[V.erase,aZ,iG,di,tE]
 obtain⟨j,t,rfl,hj,_,hl⟩:=iB tE;obtain⟨ht,gv⟩:=tc hj;have hk:=Bm hj;have kT:=gj t.ae;have bI:iG n l (j:Nat) fin=if 0<t.ae.length/\bf t.ae 0 124=aq then(if (qj n l (j:Nat)).2.aQ=aa then(qj n l (j:Nat)).2 else jr l (j:Nat) (qj n l (j:Nat)).1 (qj n l (j:Nat)).2.next) else jr l (j:Nat) [] 0:=by simp[iG,di,tE,ht]
 simp only[am];refine ix (gC hj) ?_;simp only[am,Nat.reduceAdd,dK,aA.ak,aA.fl,aA.fl]
 by_cases gg:0<t.ae.length
 .simp only[am,aA.fl,aB (show(0:Int)<t.ae.length by omega)];refine cl (gP t.ae 0 124 Z) ?_;cases h0:bf t.ae 0 124
  .rw[aI ⟨gg,h0⟩] at bI;simp only[am,aA.fl];refine cl (XB 4 (pI n) (QA n) t.ae t.fin Z (by omega) (λa _ Z=>aov (by omega) (by omega) a t.fin Z)) ?_;have hrs:qj n l (j:Nat)=dE (λi=>pI n t.ae i t.fin) t.ae (t.ae.length+1) 0 []:=by unfold qj;rw[ht]
   rw[hrs] at bI;generalize dE (λi=>pI n t.ae i t.fin) t.ae (t.ae.length+1) 0 []=R at bI ⊢;simp only[am,Nat.reduceAdd,bD.enc];cases LC:R.2.aQ
   .rw[LC] at bI;simp only[dm,ch] at bI;simp only[am,aA.fl];have bI:iG n l (j:Nat) fin=jr l (j:Nat) R.1 R.2.next:=bI;refine cl (gP t.ae R.2.next 124 Z) ?_;cases nq:bf t.ae R.2.next 124
    .simp only[am,dK,aA.fl]
     by_cases dD:(R.2.next:Int)<t.ae.length
     .simp only[am,aA.fl,aB dD];refine cl (lM t.ae R.2.next t.fin Z) ?_;simp only[am,Nat.reduceAdd,bD.enc];unfold jr at bI;rw[ht,aw (by simp[nq])] at bI;unfold kc at bI;rw[ht,aI dD] at bI;refine aC ?_;simp[V.erase,aZ,bI]
     .simp only[am,Nat.reduceAdd,az dD,w1 j (by omega)];unfold jr at bI;rw[ht,aw (by simp[nq])] at bI;unfold kc at bI;rw[ht,aw dD] at bI;refine aC ?_;simp[V.erase,aZ,bI,gv,Nd.kind,Nd.pos,Nd.ar,Nd.al,Nd.ae]
    .obtain⟨b,tb,hb,HN,_,zk⟩:=iB nq;have w2:IntKind.i64.wrap ((R.2.next:Int)+1)=((b+1:Nat):Int):=by simp only[aJ] at hm;rw[hb,wrap_i64];simp
     have e2:nameAt t.ae ((R.2.next:Int)+1) t.fin=nameAt t.ae ((b+1:Nat):Int) t.fin:=by rw[hb];rfl
     simp only[am,aA.fl,w2];refine cl (Ir t.ae ((b+1:Nat):Int) t.fin Z (by omega)) ?_;have bI:iG n l (j:Nat) fin=if (nameAt t.ae ((b+1:Nat):Int) t.fin).aQ=aa then nameAt t.ae ((b+1:Nat):Int) t.fin else kc l (j:Nat) R.1 (jK [(nameAt t.ae ((b+1:Nat):Int) t.fin).node]) (nameAt t.ae ((b+1:Nat):Int) t.fin).next:=by rw[bI];simp only[jr,ht,nq,cH,e2]
     generalize nameAt t.ae ((b+1:Nat):Int) t.fin=g at bI ⊢;simp only[am,Nat.reduceAdd,bD.enc];cases bZ:g.aQ
     .rw[bZ] at bI;simp only[dm,ch] at bI;simp only[am,Nat.reduceAdd];refine((Dt [g.node] Z (by simp[aJ])).cY (by simp[am,Nd.cS]) br.rfl).mono ?_;rintro v Z ⟨rfl,rfl⟩;simp only[am,dK,aA.fl]
      by_cases dD:g.next<t.ae.length
      .simp only[am,aA.fl,aB dD];refine cl (lM t.ae g.next t.fin Z) ?_;simp only[am,Nat.reduceAdd,bD.enc];refine aC ?_;simp[V.erase,aZ,bI,kc,ht,dD]
      .simp only[am,Nat.reduceAdd,az dD,w1 j (by omega)];refine aC ?_;simp[V.erase,aZ,bI,kc,ht,dD,gv,Nd.kind,Nd.pos,Nd.ar,Nd.al,Nd.ae]
     .rw[bZ] at bI;simp only[am,Nat.reduceAdd];refine aC ?_;simp[V.erase,aZ,bI,bZ]
   .rw[LC] at bI;simp only[am,Nat.reduceAdd];refine aC ?_;simp[V.erase,aZ,bI,LC]
  .rw[aw (by simp[h0])] at bI;simp only[am,aA.fl];have bI:iG n l (j:Nat) fin=jr l (j:Nat) [] 0:=bI;refine cl (gP t.ae 0 124 Z) ?_;cases nq:bf t.ae 0 124
   .simp only[am,dK,aA.fl]
    by_cases dD:(0:Int)<t.ae.length
    .simp only[am,aA.fl,aB dD];refine cl (lM t.ae 0 t.fin Z) ?_;simp only[am,Nat.reduceAdd,bD.enc];unfold jr at bI;rw[ht,aw (by simp[nq])] at bI;unfold kc at bI;rw[ht,aI dD] at bI;refine aC ?_;simp[V.erase,aZ,bI]
    .simp only[am,Nat.reduceAdd,az dD,w1 j (by omega)];unfold jr at bI;rw[ht,aw (by simp[nq])] at bI;unfold kc at bI;rw[ht,aw dD] at bI;refine aC ?_;simp[V.erase,aZ,bI,gv,bD.enc,Nd.kind,Nd.pos,Nd.ar,Nd.al,Nd.ae]
   .obtain⟨b,tb,hb,HN,_,zk⟩:=iB nq;have w2:IntKind.i64.wrap ((0:Int)+1)=((b+1:Nat):Int):=by simp only[aJ] at hm;rw[hb,wrap_i64];simp
    have e2:nameAt t.ae ((0:Int)+1) t.fin=nameAt t.ae ((b+1:Nat):Int) t.fin:=by rw[hb];rfl
    simp only[am,aA.fl,w2];refine cl (Ir t.ae ((b+1:Nat):Int) t.fin Z (by omega)) ?_;have bI:iG n l (j:Nat) fin=if (nameAt t.ae ((b+1:Nat):Int) t.fin).aQ=aa then nameAt t.ae ((b+1:Nat):Int) t.fin else kc l (j:Nat) [] (jK [(nameAt t.ae ((b+1:Nat):Int) t.fin).node]) (nameAt t.ae ((b+1:Nat):Int) t.fin).next:=by rw[bI];simp only[jr,ht,nq,cH,e2]
    generalize nameAt t.ae ((b+1:Nat):Int) t.fin=g at bI ⊢;simp only[am,Nat.reduceAdd,bD.enc];cases bZ:g.aQ
    .rw[bZ] at bI;simp only[dm,ch] at bI;simp only[am,Nat.reduceAdd];refine((Dt [g.node] Z (by simp[aJ])).cY (by simp[am,Nd.cS]) br.rfl).mono ?_;rintro v Z ⟨rfl,rfl⟩;simp only[am,dK,aA.fl]
     by_cases dD:g.next<t.ae.length
     .simp only[am,aA.fl,aB dD];refine cl (lM t.ae g.next t.fin Z) ?_;simp only[am,Nat.reduceAdd,bD.enc];refine aC ?_;simp[V.erase,aZ,bI,kc,ht,dD]
     .simp only[am,Nat.reduceAdd,az dD,w1 j (by omega)];refine aC ?_;simp[V.erase,aZ,bI,kc,ht,dD,gv,Nd.kind,Nd.pos,Nd.ar,Nd.al,Nd.ae]
    .rw[bZ] at bI;simp only[am,Nat.reduceAdd];refine aC ?_;simp[V.erase,aZ,bI,bZ]
 .rw[aw (λh=>gg h.1)] at bI;simp only[am,aA.fl,az (show ¬(0:Int)<t.ae.length by omega)];have bI:iG n l (j:Nat) fin=jr l (j:Nat) [] 0:=bI;refine cl (gP t.ae 0 124 Z) ?_;cases nq:bf t.ae 0 124
  .simp only[am,dK,aA.fl]
   by_cases dD:(0:Int)<t.ae.length
   .simp only[am,aA.fl,aB dD];refine cl (lM t.ae 0 t.fin Z) ?_;simp only[am,Nat.reduceAdd,bD.enc];unfold jr at bI;rw[ht,aw (by simp[nq])] at bI;unfold kc at bI;rw[ht,aI dD] at bI;refine aC ?_;simp[V.erase,aZ,bI]
   .simp only[am,Nat.reduceAdd,az dD,w1 j (by omega)];unfold jr at bI;rw[ht,aw (by simp[nq])] at bI;unfold kc at bI;rw[ht,aw dD] at bI;refine aC ?_;simp[V.erase,aZ,bI,gv,bD.enc,Nd.kind,Nd.pos,Nd.ar,Nd.al,Nd.ae]
  .obtain⟨b,tb,hb,HN,_,zk⟩:=iB nq;have w2:IntKind.i64.wrap ((0:Int)+1)=((b+1:Nat):Int):=by simp only[aJ] at hm;rw[hb,wrap_i64];simp
   have e2:nameAt t.ae ((0:Int)+1) t.fin=nameAt t.ae ((b+1:Nat):Int) t.fin:=by rw[hb];rfl
   simp only[am,aA.fl,w2];refine cl (Ir t.ae ((b+1:Nat):Int) t.fin Z (by omega)) ?_;have bI:iG n l (j:Nat) fin=if (nameAt t.ae ((b+1:Nat):Int) t.fin).aQ=aa then nameAt t.ae ((b+1:Nat):Int) t.fin else kc l (j:Nat) [] (jK [(nameAt t.ae ((b+1:Nat):Int) t.fin).node]) (nameAt t.ae ((b+1:Nat):Int) t.fin).next:=by rw[bI];simp only[jr,ht,nq,cH,e2]
   generalize nameAt t.ae ((b+1:Nat):Int) t.fin=g at bI ⊢;simp only[am,Nat.reduceAdd,bD.enc];cases bZ:g.aQ
   .rw[bZ] at bI;simp only[dm,ch] at bI;simp only[am,Nat.reduceAdd];refine((Dt [g.node] Z (by simp[aJ])).cY (by simp[am,Nd.cS]) br.rfl).mono ?_;rintro v Z ⟨rfl,rfl⟩;simp only[am,dK,aA.fl]
    by_cases dD:g.next<t.ae.length
    .simp only[am,aA.fl,aB dD];refine cl (lM t.ae g.next t.fin Z) ?_;simp only[am,Nat.reduceAdd,bD.enc];refine aC ?_;simp[V.erase,aZ,bI,kc,ht,dD]
    .simp only[am,Nat.reduceAdd,az dD,w1 j (by omega)];refine aC ?_;simp[V.erase,aZ,bI,kc,ht,dD,gv,Nd.kind,Nd.pos,Nd.ar,Nd.al,Nd.ae]
   .rw[bZ] at bI;simp only[am,Nat.reduceAdd];refine aC ?_;simp[V.erase,aZ,bI,bZ]
def aic:aR prog 69 (sq [rg 2 [oz 1],rg 4 [oq (.km 1 [(.c (.aH [])),(.c (.aH [99,104,97,105,110])),(.c (.aH [112,111,119,101,114])),(.c (.aH [112,114,111,100,117,99,116])),(.c (.aH [103,114,105,100])),(.c (.aH [116,97,98,108,101])),(.c (.aH [108,97,98,101,108])),(.c (.aH [114,111,119])),(.c (.aH [108,101,113])),(.c (.aH [114,111,119,101,113])),(.c (.aH [108,97,99,107,115])),(.c (.aH [112,117,115,104])),(.c (.aH [112,111,112])),(.c (.aH [99,104,101,99,107])),(.c (.aH [99,111,114,101])),(.c (.aH [119,104,121]))]),o1 3],sq [rg 5 [om 0,nB .lss 0,gB,om 0,om 3,nL,nb .geq 8,gZ],cr 12 2 [oz 1]],rg 13 [om 3,om 0,nA 1 13,no,o1 2],.ret]) [.tmp 2] 17:=aS func69
def aid:aR prog 70 (sq [rg 2 [oz 1],rg 4 [oq (.km 1 [(.c (.aH [])),(.c (.aH [110,119])),(.c (.aH [110,119])),(.c (.aH [110,119])),(.c (.aH [110,119,112])),(.c (.aH [110,119,112])),(.c (.aH [110,119])),(.c (.aH [110,119])),(.c (.aH [110,116,116])),(.c (.aH [110,114,114])),(.c (.aH [110,102])),(.c (.aH [])),(.c (.aH [])),(.c (.aH [])),(.c (.aH [])),(.c (.aH [110]))]),o1 3],sq [rg 5 [om 0,nB .lss 0,gB,om 0,om 3,nL,nb .geq 8,gZ],cr 12 2 [oz 1]],rg 13 [om 3,om 0,nA 1 13,no,o1 2],.ret]) [.tmp 2] 17:=aS func70
def ae8:aR prog 131 (sq [rg 4 [oz 2],rg 5 [om 1,om 0,nL,nb .lss 5,gA,om 0,om 1,nA 5 10,nf 0,nF 0,nu .eql 97,gZ,o1 4],.ret]) [.tmp 4] 18:=aS func131
def ae9:aR prog 132 (sq [rg 6 [oi 0],sq [rg 7 [om 1,om 0,nL,nb .lss 7],cr 10 11 [om 0,om 1,nA 5 11,nf 0,nF 2,o1 6]],rg 17 [om 2,o1 6],.ret]) [.tmp 6] 18:=aS func132
def aiI{op:Int}(h0:0<=op)(h1:op<16):(iO.map λp=>[V.aH p.1])[op.toNat]?=U [V.aH (dc op).1]:=by
 have hl:op.toNat<iO.length:=by simp[iO];omega
 rw[vF,bN hl];simp only[dc,aI (show 0<=op/\op<16 from⟨h0,h1⟩),gy,bN hl,uz,xf]
def aiJ{op:Int}(h0:0<=op)(h1:op<16):(iO.map λp=>[V.aH p.2])[op.toNat]?=U [V.aH (dc op).2]:=by
 have hl:op.toNat<iO.length:=by simp[iO];omega
 rw[vF,bN hl];simp only[dc,aI (show 0<=op/\op<16 from⟨h0,h1⟩),gy,bN hl,uz,xf]
def Qz(op:Int)(Z:ab):aT 69 [.int .i64 op] Z (.aH (dc op).1):=by
 refine aic.aP ?_;simp only[aO,am,aX,Nat.reduceAdd]
 by_cases h0:op<0
 .simp only[am,aB h0];refine aC ?_;simp[V.erase,dc,show ¬(0<=op/\op<16) by omega]
 .simp only[am,Nat.reduceAdd,az h0]
  by_cases h1:16<=op
  .simp only[am,aB (show((16:Nat):Int)<=op from h1)];refine aC ?_;simp[V.erase,dc,show ¬(0<=op/\op<16) by omega]
  .simp only[am,az (show ¬((16:Nat):Int)<=op from h1)];refine ka (aiI (by omega) (by omega)) ?_;simp only[am];exact rt
def Nv(op:Int)(Z:ab):aT 70 [.int .i64 op] Z (.aH (dc op).2):=by
 refine aid.aP ?_;simp only[aO,am,aX,Nat.reduceAdd]
 by_cases h0:op<0
 .simp only[am,aB h0];refine aC ?_;simp[V.erase,dc,show ¬(0<=op/\op<16) by omega]
 .simp only[am,Nat.reduceAdd,az h0]
  by_cases h1:16<=op
  .simp only[am,aB (show((16:Nat):Int)<=op from h1)];refine aC ?_;simp[V.erase,dc,show ¬(0<=op/\op<16) by omega]
  .simp only[am,az (show ¬((16:Nat):Int)<=op from h1)];refine ka (aiJ (by omega) (by omega)) ?_;simp only[am];exact rt
def am2(l:List aA)(a:Nat)(Z:ab):aT 131 [.sl .no 5 (cm l),.int .i64 (a:Nat)] Z (.bool (bf l (a:Nat) 97)):=by
 refine ae8.aP ?_;simp only[aO,am,aX,Nat.reduceAdd]
 by_cases h:a<l.length
 .simp only[am,dK,aB (show(a:Int)<l.length by omega)];refine ix (gC (bN h)) ?_;simp only[am,aA.fl];refine aC ?_;simp[V.erase,bf,h]
 .simp only[am,dK,az (show ¬(a:Int)<l.length by omega)];refine aC ?_;simp[V.erase,bf,tm (show l.length<=a by omega)]
def Dq(l:List aA)(a:Nat)(fin:Int)(Z:ab):aT 132 [.sl .no 5 (cm l),.int .i64 (a:Nat),.int .i64 fin] Z (.int .i64 (jI l (a:Nat) fin)):=by
 refine ae9.aP ?_;simp only[aO,am,aX,Nat.reduceAdd]
 by_cases h:a<l.length
 .simp only[am,dK,aB (show(a:Int)<l.length by omega)];refine ix (gC (bN h)) ?_;simp only[am,aA.fl];refine aC ?_;simp[V.erase,jI,h]
 .simp only[am,dK,az (show ¬(a:Int)<l.length by omega)];refine aC ?_;simp[V.erase,jI,tm (show l.length<=a by omega)]
def ae':aR prog 134 (sq [rg 2 [ox 1 5 0,oz 9,oi 0],rg 4 [oz 9],rg 5 [oi 0],bl 0 (sq [sq [rg 10 [om 5,fo 3 1,nL,nb .lss 10,gB,om 5,nB .gtr 0,gZ],cx 18 0],.block 1 (sq [sq [rg 6 [oi 0],bl 2 (sq [sq [rg 19 [om 6,nB .lss 3],cx 20 2],.block 3 (sq [rg 23 [oq (.km 1 [(.c (.int .u8 97)),(.c (.int .u8 60)),(.c (.int .u8 97))]),o1 7],dg 24 [om 5,om 6,nb .add 24,fo 3 1,nL,nb .geq 26,gB,fo 3 1,om 5,om 6,nb .add 34,nA 5 33,nf 0,nF 0,om 7,om 6,nA 1 41,no,nb .neq 40,gZ],cr 46 47 [fo 3 1,om 5,om 6,nb .add 49,fo 4 1,oC 132 [48,51,53],oU 2 9,o1 3]]),rg 21 [ic 6]])],dA 55 [8,9] [fo 3 1,om 5,nA 5 56,nf 0,nl 3,of 3 1,mM [1],no,om 5,nB .add 2,nA 5 62,nf 0,mM [1],nl 3,oN,oN,oX 8 3 60,oX 9 3 67],rg 68 [om 4,fo 1 8,fo 2 8,oW [1,0] [(0,1,70),(1,1,72)],fo 1 9,fo 2 9,oW [1,0] [(0,1,75),(1,1,77)],oW [1,0,1,0] [(0,2,73),(2,2,78)],n1 4,na 4 68,o1 4],rg 82 [om 5,nB .add 3,o1 5],sq [rg 84 [om 5,fo 3 1,nL,nb .eql 84],cr 88 2 [ot 89 4,om 89,oi (-1)]],sq [rg 90 [fo 3 1,om 5,nA 5 91,nf 0,nF 0,nu .neq 44],cr 97 98 [fo 3 1,om 5,fo 4 1,oC 132 [99,100,102],oU 2 9,o1 3]],rg 104 [ic 5]])]),rg 2 [oz 9,oi (-1)],.ret]) [.tmp 2,.tmp 3] 106:=aS func134
variable{k:Int}
def M'(h:j<l.length):bf l (j:Nat) k=decide (l[j].tok.kind=k):=by simp[bf,h]
def Uk(h:¬j<l.length):bf l (j:Nat) k=false:=by simp only[bf,gK];rw[tm (by omega)];simp
def X1{t:aA}:takeN 3 t.enc=U [.int .u8 t.tok.kind,.aH t.tok.ar,.int .i64 t.tok.pos]:=by rw[cS];rfl
def zz(k:Nat):Int:=if k=1 then 60 else 97
def ark:List (List V):=[[.int .u8 97],[.int .u8 60],[.int .u8 97]]
def xW(t:aA)(Z:ab)(a D:Nat)(acc:List (aF × aF)):St :=
 ⟨[.any,.ptr (.au 0) 0,.any,.any,.sl (.tk D) 4 (acc.map dR),.int .i64 (a:Nat)]++aj 100 .any,[t.enc],Z.ba D acc.length⟩
def M8(t:aA)(Z:ab)(a D:Nat)(acc:List (aF × aF))(k:Nat):St :=
 ⟨[.any,.ptr (.au 0) 0,.any,.any,.sl (.tk D) 4 (acc.map dR),.int .i64 (a:Nat),.int .i64 (k:Nat)]++aj 99 .any,[t.enc],Z.ba D acc.length⟩
abbrev PF(t:aA)(Z:ab)(R:List (aF × aF) × Int):={p:Nat × Nat × List (aF × aF) × Nat // Z.aY p.2.2.2=ah/\uf t.ae t.fin p.1 p.2.1 p.2.2.1=R/\p.2.2.1.length<=p.2.1/\p.2.1<=t.ae.length/\t.ae.length+1<=p.2.1+p.1}
def ao2(t:aA)(Z:ab)(hm:t.ae.length+8<=aJ):aT 134 [.agg t.enc] Z (.bz [.sl .no 4 ((wM t).1.map dR),.int .i64 (wM t).2]):=by
 simp only[aJ] at hm;refine ae'.aP ?_;simp only[aO,am,aX,Nat.reduceAdd,aA.ak]
 by_cases xI:t.ae.length=0
 .have hR:wM t=([],-1):=by unfold wM;rw[aI xI]
  rw[hR];refine dP (λ_:Unit=>⟨[.any,.ptr (.au 0) 0,.any,.any,.any,.int .i64 0]++aj 100 .any,[t.enc],Z⟩) (λ_=>0) ?_ ?_
  .refine a7.enter () ?_ (by simp[am]) br.rfl;simp[aj,am]
  .rintro _;simp only[aj];simp only[am,dK,c9,aA.fl,Int.reduceLT,xI,show(((0:Nat):Int))=0 from rfl];exact rt
 .generalize hR:uf t.ae t.fin (t.ae.length+1) 0 []=R;have hR0:wM t=R:=by unfold wM;rw[aw xI,hR]
  rw[hR0];refine dP (λp:PF t Z R=>xW t Z p.1.2.1 p.1.2.2.2 p.1.2.2.1) (λp=>p.1.1) ?_ ?_
  .refine a7.s_ 0 λD a_=>⟨⟨(t.ae.length+1,0,[],D),a_,hR,by simp,by simp,by simp⟩,?_,rfl,rfl⟩
   simp[xW,aj,jG]
  .rintro⟨⟨n,a,acc,D⟩,a_,hR,h1,h2,h3⟩;simp only at a_ hR h1 h2 h3;obtain⟨m,rfl⟩:∃m,n=m+1:=⟨n - 1,by omega⟩;simp only[xW,aj];simp only[am,dK,aA.fl];have hw:∀k:Nat,k<=3->IntKind.i64.wrap ((a:Int)+(k:Int))=((a+k:Nat):Int):=λk hk=>by rw[wrap_i64];simp
   by_cases ha:a<t.ae.length
   case' pos =>
    simp only[am,aB (show(a:Int)<t.ae.length by omega)]
   case' neg =>
    simp only[am,az (show ¬(a:Int)<t.ae.length by omega),aB (show(0:Int)<a by omega)]
   all_goals
    refine dP (λp:{k:Nat // k<=3/\∀j,j<k->bf t.ae ((a+j:Nat):Int) (zz j)=aa}=>M8 t Z a D acc p.1) (λp=>3 - p.1) ?_ ?_
    .refine a7.enter ⟨0,by simp,by simp⟩ ?_ bV.rfl br.rfl;simp[M8,aj,am]
    .rintro⟨k,hk,cT⟩;simp only[M8,aj]
     by_cases an:k<3
     .simp only[am,dK,aA.fl,aB (show(k:Int)<3 by omega),hw k hk];have wk:IntKind.i64.wrap ((k:Int)+1)=((k+1:Nat):Int):=by rw[wrap_i64];simp
      have bI:bf t.ae ((a+k:Nat):Int) (zz k)=aq->R=([],jI t.ae ((a+k:Nat):Int) t.fin):=λhf=>by
       rw[<-hR];simp only[uf]
       match k,an with
       | 0, _ =>
        have hf:bf t.ae (a:Nat) 97=false:=hf;rw[aI hf];rfl
       | 1, _ =>
        have q0:bf t.ae (a:Nat) 97=true:=cT 0 (by omega);have hf:bf t.ae ((a+1:Nat):Int) 60=false:=hf;rw[aw (by rw[q0];decide),aI hf]
       | 2, _ =>
        have q0:bf t.ae (a:Nat) 97=true:=cT 0 (by omega);have q1:bf t.ae ((a+1:Nat):Int) 60=true:=cT 1 (by omega);have hf:bf t.ae ((a+2:Nat):Int) 97=false:=hf;rw[aw (by rw[q0];decide),aw (by rw[q1];decide),aI hf]
      by_cases eP:a+k<t.ae.length
      .simp only[am,aA.fl,az (show ¬(t.ae.length:Int)<=((a+k:Nat):Int) by omega),hw k hk];refine ka (gC (bN eP)) ?_;simp only[am,aA.fl];rw[show([[V.int .u8 97],[V.int .u8 60],[V.int .u8 97]]:List (List V))=ark from rfl];refine ka (c:=[.int .u8 (zz k)]) (by match k,an with | 0,_=>rfl | 1,_=>rfl | 2,_=>rfl) ?_;have C0:bf t.ae ((a+k:Nat):Int) (zz k)=decide (t.ae[a+k].tok.kind=zz k):=M' eP
       by_cases ey:t.ae[a+k].tok.kind=zz k
       .simp only[am,aB ey,wk];refine a7.again ⟨k+1,by omega,λj hj=>?_⟩ (by simp;omega) (by simp[am]) (by simp[am]) br.rfl
        by_cases e:j=k
        .subst e;rw[C0];exact aB ey
        .exact cT j (by omega)
       .have hf:bf t.ae ((a+k:Nat):Int) (zz k)=false:=by rw[C0];exact az ey
        simp only[am,aA.fl,az ey,hw k hk];refine(Dq t.ae (a+k) t.fin _).mono ?_;rintro v σ' ⟨rfl,rfl⟩;simp only[am];refine aN rfl (gV a_) ⟨?_,rfl⟩;simp[V.erase,aZ,bI hf]
      .have hf:bf t.ae ((a+k:Nat):Int) (zz k)=false:=Uk eP;simp only[am,aA.fl,aB (show(t.ae.length:Int)<=((a+k:Nat):Int) by omega),hw k hk];refine(Dq t.ae (a+k) t.fin _).mono ?_;rintro v σ' ⟨rfl,rfl⟩;simp only[am];refine aN rfl (gV a_) ⟨?_,rfl⟩;simp[V.erase,aZ,bI hf]
     .obtain rfl:k=3:=by omega
      have q0:bf t.ae (a:Nat) 97=true:=cT 0 (by omega);have q1:bf t.ae ((a+1:Nat):Int) 60=true:=cT 1 (by omega);have q2:bf t.ae ((a+2:Nat):Int) 97=true:=cT 2 (by omega);have gf:=(o5 q2).2;have Tr:a<t.ae.length:=by omega
      have y8:a+2<t.ae.length:=by omega
      simp only[uf,q0,q1,q2,qq,ch] at hR;have w2:IntKind.i64.wrap ((a:Int)+2)=((a+2:Nat):Int):=hw 2 (by omega);have w3:IntKind.i64.wrap ((a:Int)+3)=((a+3:Nat):Int):=hw 3 (by omega);have w4:IntKind.i64.wrap (((a+3:Nat):Int)+1)=((a+4:Nat):Int):=by rw[wrap_i64];omega
      simp only[am,Nat.reduceAdd,Nat.reduceEqDiff,bL,c9,aA.fl,Nat.reduceLT,show(((3:Nat):Int)<3)=False by simp];refine ka (gC (bN Tr)) ?_;simp only[am,aA.fl,X1,w2];refine ka (gC (bN y8)) ?_;simp only[am,Nat.reduceAdd,aA.fl,X1];refine fe (by rw[aD];simp[aJ];omega) (by rw[aD,eR]) ?_;have Lt:acc.map dR++[[V.aH t.ae[a].tok.ar,V.int .i64 t.ae[a].tok.pos,V.aH t.ae[a+2].tok.ar,V.int .i64 t.ae[a+2].tok.pos]]=(acc++[(pr t.ae (a:Nat),pr t.ae ((a+2:Nat):Int))]).map dR:=by simp[dR,pr,fD,Tr];rw[show((a:Int)+2).toNat=a+2 by omega];simp[y8]
      rw[Lt];generalize hac:acc++[(pr t.ae (a:Nat),pr t.ae ((a+2:Nat):Int))]=pC at hR ⊢;have hle:pC.length=acc.length+1:=by rw[<-hac];simp
      simp only[am,dK,aD,aA.fl,eJ,w3]
      by_cases dD:a+3=t.ae.length
      .rw[aI dD] at hR;simp only[am,aB (show((a+3:Nat):Int)=(t.ae.length:Nat) by omega)];refine aN rfl (gV a_) ⟨?_,rfl⟩;simp[V.erase,aZ,<-hR]
      .rw[aw dD] at hR;have Ts:a+3<t.ae.length:=by omega
       simp only[am,aA.fl,az (show ¬((a+3:Nat):Int)=(t.ae.length:Nat) by omega)];refine ka (gC (bN Ts)) ?_;simp only[am,aA.fl];have l6:=M' (k:=44) Ts
       by_cases hk:t.ae[a+3].tok.kind=44
       .rw[aw (by rw[l6,aB hk];decide)] at hR;simp only[am,aB hk,w4];refine a7.lT (I:=λp:PF t Z R=>xW t Z p.1.2.1 p.1.2.2.2 p.1.2.2.1) (μ:=λp=>p.1.1) ⟨(m,a+4,pC,D),a_,hR,by simp only;omega,by simp only;omega,by simp only;omega⟩ (by simp) (by simp[xW,aj,am]) (by simp[xW,am]) ?_ (by simp[xW,aj,bK,V.lo]) (by simp[xW,cp,aA.bP]);simp only[xW,hle];exact br.rfl
       .rw[aI (by rw[l6];exact az hk)] at hR;simp only[am,aA.fl,az hk];refine(Dq t.ae (a+3) t.fin _).mono ?_;rintro v σ' ⟨rfl,rfl⟩;simp only[am];refine aN rfl (gV a_) ⟨?_,rfl⟩;simp[V.erase,aZ,<-hR]
def aie:aR prog 71 (sq [rg 11 [ox 5 17 0,oZ 10 [0,0,1,0,7,9,0,0,0,1,7,10,0,0,1,7,10],oi 0,oi 0],sq [rg 19 [om 1,nu .eql 110,gB,om 1,nu .eql 102,gZ],ci 24 (sq [sq [rg 25 [om 2,om 3,oC 131 [25,26],nn],ci 28 (sq [dg 29 [mM [1],ol 17 5,om 3,om 2,om 3,om 4,oC 132 [31,32,33],os 17 10 29,ot 11 30,o1 12],.ret])],dg 35 [om 2,om 3,nA 5 35,nf 0,nf 1,mM [1],no,om 2,om 3,nA 5 41,nf 0,nf 2,mM [1],no,oW [1,0] [(0,1,40),(1,1,46)],oZ 13 [1,0],o2 2 13],sq [rg 48 [om 1,nu .eql 102],cd 49 (rg 50 [ol 2 13,n1 2,of 4 5,os 1 52 51]) (rg 53 [ol 2 13,of 2 5,os 2 54 53])],rg 55 [ol 17 5,om 3,nB .add 1,os 17 10 55,o1 11,oj 12 (-1)],.ret])],sq [rg 58 [om 1,nu .eql 119],ci 59 (sq [rg 61 [om 2,om 3,om 4,oC 133 [61,62,63],o1 60,oe 60 0,oe 60 1,oZ 15 [0,0,1,7,10,0,2,0],ot 14 65,o2 8 15],sq [rg 67 [fo 6 15],ci 68 (sq [dg 69 [ol 17 5,om 3,of 7 15,mM [1],no,os 17 10 69,ot 11 70,o1 12],.ret])],rg 73 [om 14,of 4 5,os 1 74 73],rg 75 [ol 17 5,om 3,nB .add 1,os 17 10 75,o1 11,oj 12 (-1)],.ret])],sq [rg 78 [om 1,nu .eql 112],ci 79 (sq [sq [rg 80 [om 3,om 2,nL,nb .geq 80,gB,om 2,om 3,nA 5 85,nf 0,nF 0,nu .neq 123,gZ],ci 92 (sq [dg 93 [mM [1],ol 17 5,om 3,om 2,om 3,om 4,oC 132 [95,96,97],os 17 10 93,ot 11 94,o1 12],.ret])],rg 100 [om 2,om 3,nA 5 100,nl 5,oC 134 [103],o1 99,oe 99 0,oe 99 1,ot 16 105,o1 17],rg 107 [om 16,of 5 5,os 1 108 107],rg 109 [om 2,om 3,nA 5 109,nf 0,nF 2,of 6 5,os 1 115 114],rg 116 [ol 17 5,om 3,nB .add 1,om 17,os 17 10 116,ot 11 118,o1 12],.ret])],rg 120 [om 2,om 3,om 4,oC 135 [120,121,122],oZ 18 [0,0,1,7,10,0,2,0],o2 8 18],sq [rg 124 [om 1,nu .eql 114],ci 125 (rg 126 [om 2,om 3,om 4,oC 136 [126,127,128],o2 8 18])],sq [rg 130 [fo 6 18],ci 131 (sq [dg 132 [ol 17 5,om 3,of 7 18,mM [1],no,os 17 10 132,ot 11 133,o1 12],.ret])],sq [rg 136 [of 7 5,nF 0,nB .eql 0],cd 139 (rg 140 [of 0 18,nl 5,of 7 5,os 5 142 141]) (rg 143 [of 0 18,nl 5,of 12 5,os 5 145 144])],dg 146 [ol 17 5,of 5 18,mM [1],no,os 17 10 146,o1 11,oj 12 (-1)],.ret]) [.cell 10 aa 17,.tmp 11,.tmp 12] 149:=aS func71
section
variable {c:aL}
theorem aaE:c.enc.length=17:=rfl
theorem aaL:c8 c.enc=true:=rfl
theorem aaK:bS c.enc=true:=rfl
theorem aaq:aZ c.enc=c.enc:=rfl
theorem aaW:takeN 17 c.enc=U c.enc:=rfl
theorem aaM{z0 z1 z2 z3 z4 z5 z6 z7 z8 z9 PI PJ PK PL PM PN PO:V}:over [z0,z1,z2,z3,z4,z5,z6,z7,z8,z9,PI,PJ,PK,PL,PM,PN,PO] c.enc=c.enc:=rfl
theorem aaF:bX aq 1 (c.enc.drop 7)=U (.int .i64 c.left.kind):=rfl
variable{w:aF}
theorem aaO:setAt c.enc 2 w.enc=({c with name:=w}:aL).enc:=rfl
theorem aas:cB 2 (c.enc.drop 2)=true:=rfl
theorem aaP{ws:List aF}:setAt c.enc 4 [.sl .no 2 (ws.map aF.enc)]=({c with al:=ws}:aL).enc:=rfl
theorem aat:cB 1 (c.enc.drop 4)=true:=rfl
variable{ps:List (aF × aF)}
theorem aaQ:setAt c.enc 5 [.sl .no 4 (ps.map dR)]=({c with a8:=ps}:aL).enc:=rfl
theorem aau:cB 1 (c.enc.drop 5)=true:=rfl
theorem aaR{n:Int}:setAt c.enc 6 [.int .i64 n]=({c with rQ:=n}:aL).enc:=rfl
theorem aav:cB 1 (c.enc.drop 6)=true:=rfl
def aaN{n:Nd}:setAt c.enc 7 n.enc=({c with left:=n}:aL).enc:=by rw[Nd.cS];rfl
theorem aar:cB 5 (c.enc.drop 7)=true:=rfl
def aaS{n:Nd}:setAt c.enc 12 n.enc=({c with right:=n}:aL).enc:=by rw[Nd.cS];rfl
theorem aaw:cB 5 (c.enc.drop 12)=true:=rfl
def cE:=af @aaE <| af @aaL <| af @aaK <| af @aaq <| af @aaW <| af @aaM <| af @aaF <| af @aaO <| af @aas <| af @aaP <| af @aat <| af @aaQ <| af @aau <| af @aaR <| af @aav <| af @aaN <| af @aar <| af @aaS @aaw
end
def ao8(k:UInt8)(c:aL)(l:List aA)(a:Nat)(fin:Int)(Z:ab)(hm:bE l+8<=aJ) :
 aT 71 [.agg c.enc,.int .u8 (k.toNat:Nat),.sl .no 5 (cm l),.int .i64 (a:Nat),.int .i64 fin] Z (.bz [.agg (jX k c l a fin).1.enc,.int .i64 (jX k c l a fin).2.1,.int .i64 (jX k c l a fin).2.2]):=by
 have hlen:=gj l;have ey:∀n:UInt8,((k.toNat:Nat):Int)=(n.toNat:Nat)↔k=n:=λn=>by
  constructor
  .intro h;exact Eg.1 (by omega)
  .rintro rfl;rfl
 have tB:((k.toNat:Nat):Int)=110↔k=110:=ey 110;have tA:((k.toNat:Nat):Int)=102↔k=102:=ey 102;have uJ:((k.toNat:Nat):Int)=119↔k=119:=ey 119;have uI:((k.toNat:Nat):Int)=112↔k=112:=ey 112;have Eu:((k.toNat:Nat):Int)=114↔k=114:=ey 114;have w1:∀j:Nat,j<l.length->IntKind.i64.wrap ((j:Int)+1)=(j:Int)+1:=λj hj=>by simp only[aJ] at hm;exact wrap_i64 (by omega) (by omega)
 generalize hR:jX k c l a fin=R;unfold jX at hR;refine aie.aP ?_;simp only[aO,am,aX,Nat.reduceAdd,cE]
 by_cases EZ:k=110\/k=102
 .rw[aI EZ] at hR
  by_cases k1:k=110
  case' pos=>simp only[am,aB (tB.2 k1)]
  case' neg=>simp only[am,az (λh=>k1 (tB.1 h)),aB (tA.2 (EZ.resolve_left k1))]
  all_goals
   refine cl (am2 l a Z) ?_;cases di:bf l (a:Nat) 97
   .rw[aw (by simp[di])] at hR;simp only[am,cE];refine bA.intro (Dq l a fin Z) ?_;simp only[am,cE];refine aC ?_;simp[V.erase,aZ,<-hR,cE]
   .rw[aI di] at hR;obtain⟨j,t,e,hj,_,hl⟩:=iB di;obtain rfl:j=a:=by omega
    obtain⟨_,gv⟩:=tc hj;have hwa:pr l (j:Nat)=⟨t.tok.ar,t.tok.pos⟩:=by unfold pr;rw[gv]
    simp only[am];refine ix (gC hj) ?_;simp only[am,aA.fl];refine ix (gC hj) ?_;simp only[am,Nat.reduceAdd,aA.fl];rw[show [V.aH t.tok.ar,V.int .i64 t.tok.pos]=(pr l (j:Nat)).enc by rw[hwa];rfl];generalize pr l (j:Nat)=w at hR ⊢
    by_cases k2:k=102
    .rw[aI k2] at hR;simp only[am,Nat.reduceAdd,aF.ak,aB (tA.2 k2),aL.enc,aL.cz,w1 j hl];refine aC ?_;simp[V.erase,aZ,<-hR]
    .rw[aw k2] at hR;simp only[am,aF.ak,cE,az (λh=>k2 (tA.1 h)),w1 j hl];refine aN rfl (ab.bc _) ⟨?_,rfl⟩;rw[<-hR];rfl
 rw[aw EZ] at hR;simp only[am,az (λh=>EZ (.inl (tB.1 h))),az (λh=>EZ (.inr (tA.1 h)))]
 by_cases k3:k=119
 .rw[aI k3] at hR;simp only[am,aB (uJ.2 k3)];refine cl (Y' l a fin Z (by omega)) ?_;have fk:(lK l (a:Nat) fin).2.aQ=aq->a<l.length:=λhb=>by
   unfold lK at hb;split at hb
   .rename_i hk;have:=o5 hk;omega
   .simp[dG] at hb
  generalize lK l (a:Nat) fin=g at hR fk ⊢;simp only[am,Nat.reduceAdd,bD.enc];cases bZ:g.2.aQ
  .rw[aw (by simp[bZ])] at hR;simp only[am,cE,w1 a (fk bZ)];refine aN rfl (ab.bc _) ⟨?_,rfl⟩;rw[<-hR];rfl
  .rw[aI bZ] at hR;simp only[am,cE];refine aN rfl (ab.bc _) ⟨?_,rfl⟩;rw[<-hR];rfl
 rw[aw k3] at hR;simp only[am,az (λh=>k3 (uJ.1 h))]
 by_cases k4:k=112
 .rw[aI k4] at hR;simp only[am,dK,aB (uI.2 k4)]
  by_cases eP:a<l.length
  .have C0:=M' (l:=l) (k:=123) eP;have ht:bU l (a:Nat)=l[a]:=by simp[bU,eP]
   simp only[am,az (show ¬(l.length:Int)<=(a:Nat) by omega)];refine ix (gC (bN eP)) ?_;simp only[am,aA.fl]
   by_cases hk:l[a].tok.kind=123
   .rw[aI (by rw[C0];exact aB hk),ht] at hR;have TH:=Bm (bN eP)
    have:=gj l[a].ae
    simp only[am,aB hk];refine ix (gC (bN eP)) ?_;simp only[am,aA.ak];refine cl (ao2 l[a] Z (by omega)) ?_;simp only[am,cE];refine ix (gC (bN eP)) ?_;simp only[am,aA.fl,cE,w1 a eP];refine aN rfl (ab.bc _) ⟨?_,rfl⟩;rw[<-hR];rfl
   .rw[aw (by rw[C0];simp[hk])] at hR;simp only[am,cE,az hk];refine bA.intro (Dq l a fin Z) ?_;simp only[am,cE];refine aC ?_;simp[V.erase,aZ,<-hR,cE]
  .rw[aw (by rw[Uk eP];simp)] at hR;simp only[am,cE,aB (show(l.length:Int)<=(a:Nat) by omega)];refine bA.intro (Dq l a fin Z) ?_;simp only[am,cE];refine aC ?_;simp[V.erase,aZ,<-hR,cE]
 rw[aw k4] at hR;simp only[am,az (λh=>k4 (uI.1 h))];refine cl (Nm (bE l) l (b7 _) (by omega) a fin Z) ?_;simp only[am,Nat.reduceAdd,bD.enc]
 by_cases k5:k=114
 case' pos =>
  simp only[k5,cH] at hR;generalize fM (bE l) l (a:Nat) fin=g0;simp only[am,aB (Eu.2 k5)];refine cl (arf (bE l) l (b7 _) (by omega) a fin Z) ?_;generalize iG (bE l) l (a:Nat) fin=g at hR ⊢;simp only[am,Nat.reduceAdd,bD.enc]
 case' neg =>
  simp only[k5,ch] at hR;generalize fM (bE l) l (a:Nat) fin=g at hR ⊢;simp only[am,az (λh=>k5 (Eu.1 h))]
 all_goals
  cases bZ:g.aQ
  .rw[aw (by simp[bZ])] at hR;have Ms:setAt c.enc 7 [V.int .i64 g.node.kind,.int .i64 g.node.pos,.aH g.node.ar,.sl .no 2 (g.node.al.map aF.enc),.sl .no 5 (g.node.ae.map Nd.enc)]=({c with left:=g.node}:aL).enc:=rfl;have hsr:setAt c.enc 12 [V.int .i64 g.node.kind,.int .i64 g.node.pos,.aH g.node.ar,.sl .no 2 (g.node.al.map aF.enc),.sl .no 5 (g.node.ae.map Nd.enc)]=({c with right:=g.node}:aL).enc:=rfl;simp only[am,cE]
   by_cases A8:c.left.kind=0
   .rw[aI A8] at hR;simp only[am,Nat.reduceAdd,cE,aB A8,Ms];refine aN rfl (ab.bc _) ⟨?_,rfl⟩;rw[<-hR];rfl
   .rw[aw A8] at hR;simp only[am,Nat.reduceAdd,cE,az A8,hsr];refine aN rfl (ab.bc _) ⟨?_,rfl⟩;rw[<-hR];rfl
  .rw[aI bZ] at hR;simp only[am,cE];refine aN rfl (ab.bc _) ⟨?_,rfl⟩;rw[<-hR];rfl
def aiC:aR prog 95 (sq [rg 3 [oi 0],bl 0 (sq [sq [rg 4 [om 0,oo 1,nT,nb .lss 4,gA,oo 1,om 0,nS 9,oC 96 [11],gZ],cx 13 0],.block 1 (rg 14 [ic 0])]),rg 16 [om 0,o1 3],.ret]) [.tmp 3] 17:=aS func95
def aiD:aR prog 96 (sq [rg 2 [oz 2],rg 3 [om 0,nu .geq 97,gA,om 0,nu .leq 122,gZ,nm,oh 9 (om 0),oh 9 (nu .geq 48),oh 9 (nm),og 12 (om 0),og 12 (nu .leq 57),oh 9 (oy 12 14),oq (.pick (.s 9) (.c (.bool aa)) (.s 15)),gB,om 0,nu .eql 95,gZ,o1 2],.ret]) [.tmp 2] 21:=aS func96
def aiE:aR prog 97 (sq [rg 4 [oz 2],rg 5 [om 0,om 1,nS 5,nu .eql 45,gA,om 1,nB .add 1,om 0,nT,nb .lss 11,gZ,gA,om 0,om 1,nB .add 1,nS 17,nu .eql 45,gZ,o1 4],.ret]) [.tmp 4] 23:=aS func97
def aiF:aR prog 98 (sq [rg 2 [oz 2],sq [rg 3 [om 0],.block 0 (sq [sq [rg 5 [ou .eql 3 35,o1 4],cd 4 .skip (sq [rg 6 [ou .eql 3 43,o1 4],cd 4 .skip (sq [rg 7 [ou .eql 3 38,o1 4],cd 4 .skip (sq [rg 8 [ou .eql 3 40,o1 4],cd 4 .skip (sq [rg 9 [ou .eql 3 41,o1 4],cd 4 .skip (sq [rg 10 [ou .eql 3 123,o1 4],cd 4 .skip (sq [rg 11 [ou .eql 3 125,o1 4],cd 4 .skip (sq [rg 12 [ou .eql 3 91,o1 4],cd 4 .skip (sq [rg 13 [ou .eql 3 93,o1 4],cd 4 .skip (sq [rg 14 [ou .eql 3 44,o1 4],cd 4 .skip (sq [rg 15 [ou .eql 3 58,o1 4],cd 4 .skip (sq [rg 16 [ou .eql 3 61,o1 4],cd 4 .skip (sq [rg 17 [ou .eql 3 124,o1 4],cd 4 .skip (rg 18 [ou .eql 3 60,o1 4])])])])])])])])])])])])])],cr 4 2 [oq (.mv (.c (.bool aa)))]])],rg 2 [oz 2],.ret]) [.tmp 2] 19:=aS func98
def asr{c:Int}(h:rW c=aa):sA c=aq/\c≠45/\c≠32/\c≠9:=by
 simp only[rW,vr,P6,List.any_nil,mU,eb,dm,or_false] at h
 rcases h with h | h | h | h | h | h | h | h | h | h | h | h | h | h<;>subst h<;>exact⟨by decide,by decide,by decide,by decide⟩
def alX{p:Nat}{c:UInt8}{r:List UInt8}{acc:List Tok}:gQ (n+1) p (c::r) acc =
 if c.toNat=32\/c.toNat=9 then gQ n (p+1) r acc
 else if c.toNat=45/\(r.head?.map UInt8.toNat)=U 45 then(acc,ah)
 else if rW (c.toNat:Nat)=aa then gQ n (p+1) r (acc++[⟨(c.toNat:Nat),[c],p⟩])
 else if dO (eH (c::r))=aa then gQ n (p+(eH (c::r)).length) ((c::r).drop (eH (c::r)).length) (acc++[⟨97,eH (c::r),p⟩])
 else([],U p):=by
 simp only[gQ]
 by_cases hb:c.toNat=32\/c.toNat=9
 .have h1:iy c=false:=by
   simp only[iy]
   rcases hb with h | h<;>rw[h]<;>decide
  have h2:rW (c.toNat:Nat)=false:=by rcases hb with h | h<;>rw[h]<;>decide
  have h3:¬c.toNat=45:=by omega
  simp[hb,h2,h3,W3 h1]
 .rw[aw hb];split
  .rfl
  .cases hs:rW (c.toNat:Nat)
   .by_cases hn:dO (eH (c::r))=aa
    .have:0<(eH (c::r)).length:=by
      cases hq:eH (c::r) with
      | nil=>rw[hq] at hn;simp[dO] at hn
      | cons _ _=>simp
     simp[hn,this]
    .simp[hn]
   .have h1:iy c=false:=(asr hs).1;simp[W3 h1]
def ajp(c:Int)(Z:ab):aT 96 [.int .u8 c] Z (.bool (sA c)):=by
 refine aiD.aP ?_;simp only[aO,am,aX,Nat.reduceAdd]
 repeat' (first
  | (refine fR (λh=>?_) (λh=>?_)<;>simp only[am,h])
  | (refine cO (λh=>?_) (λh=>?_)<;>simp only[mT,h,Nat.reduceAdd,Nat.reduceEqDiff,aD])
  | (refine fT (λh=>?_) (λh=>?_)<;>simp only[mT,h,Nat.reduceAdd,Nat.reduceEqDiff,aD])
 )
 all_goals refine aC ?_
 all_goals simp_all [V.erase,sA,t_]
 all_goals (try omega)
def asp(c:Int)(Z:ab):aT 98 [.int .u8 c] Z (.bool (rW c)):=by
 refine aiF.aP ?_;simp only[aO,am,aX,Nat.reduceAdd]
 repeat' (first
  | (refine fR (λh=>?_) (λh=>?_)<;>simp only[mT,h,Nat.reduceAdd,Nat.reduceEqDiff,aD])
  | (refine cO (λh=>?_) (λh=>?_)<;>simp only[am,h])
  | (refine fT (λh=>?_) (λh=>?_)<;>simp only[mT,h,Nat.reduceAdd,Nat.reduceEqDiff,aD])
 )
 all_goals refine aC ?_
 all_goals simp_all [V.erase,rW,vr]
 all_goals (try omega)
def abE(s:List UInt8)(a:Nat)(Z:ab)(ha:a<s.length)(hb:s.length<=aJ):cF prog 97 [.aH s,.int .i64 (a:Nat)] Z λv σ' => v = .bool (decide (s[a].toNat=45/\(s.drop (a+1)).head?.map UInt8.toNat=U 45))/\σ' = Z:=by
 simp only[aJ] at hb;have w1:IntKind.i64.wrap ((a:Int)+1)=((a+1:Nat):Int):=by rw[wrap_i64];simp
 have hh:(s.drop (a+1)).head?.map UInt8.toNat=if h:a+1<s.length then U s[a+1].toNat else none:=by
  by_cases h:a+1<s.length
  .rw[yS h,drop_cons h];rfl
  .rw[dif_neg h,JL (by omega)];rfl
 rw[hh];refine aiE.aP ?_;simp only[aO,am,aX,Nat.reduceAdd];refine pX (s7 ha) ?_;simp only[am]
 by_cases wa:s[a].toNat=45
 .simp only[am,aB (show((s[a].toNat:Nat):Int)=45 by omega),w1]
  by_cases hl:a+1<s.length
  .simp only[am,aB (show((a+1:Nat):Int)<s.length by omega),w1];refine pX (s7 hl) ?_;simp only[am];refine aC ?_;simp[V.erase,wa,hl];omega
  .simp only[am,az (show ¬((a+1:Nat):Int)<s.length by omega)];refine aC ?_;simp[V.erase,hl]
 .simp only[am,az (show ¬((s[a].toNat:Nat):Int)=45 by omega)];refine aC ?_;simp[V.erase,wa]
def MV(s:List UInt8)(Z:ab)(p a n:Nat):St:=⟨[.int .i64 ((a+n:Nat):Int),.ptr (.out p) 0]++aj 15 .any,[],Z⟩
variable{s:List UInt8}{Z:ab}
def adt{p a:Nat}(hp:Z.box p=U [.aH s])(ha:a<=s.length)(hb:s.length<=aJ):aT 95 [.int .i64 (a:Nat),.ptr (.out p) 0] Z (.int .i64 ((a+(eH (s.drop a)).length:Nat):Int)):=by
 simp only[aJ] at hb;refine aiC.aP ?_;simp only[aO,am,aX,Nat.reduceAdd];refine dP (λq:{n:Nat // a+n<=s.length/\((s.drop a).take n).all iy=aa}=>MV s Z p a q.1) (λq=>s.length - q.1) ?_ ?_
 .refine a7.enter ⟨0,by simpa using ha,by simp⟩ ?_ bV.rfl br.rfl;simp[MV,aj,am]
 .rintro⟨n,hn,cT⟩;simp only[MV,aj,am,hp];have w1:IntKind.i64.wrap (((a+n:Nat):Int)+1)=((a+(n+1):Nat):Int):=by rw[wrap_i64];omega
  by_cases an:a+n<s.length
  .simp only[am,aB (show((a+n:Nat):Int)<s.length by omega),hp];refine pX (s7 an) ?_;simp only[am];refine cl (ajp s[a+n].toNat Z) ?_;cases hg:sA (s[a+n].toNat:Nat)
   .simp only[am];refine aN rfl (ab.bc _) ⟨?_,rfl⟩;simp[V.erase,I0 cT hn (λ_=>hg)]
   .simp only[am,w1];refine a7.again ⟨n+1,by omega,?_⟩ (by simp;omega) (by simp[am]) bV.rfl br.rfl;have hd:n<(s.drop a).length:=by simp;omega
    rw[Ei hd,cT];simp only[gJ,List.getElem_drop];exact hg
  .simp only[am,az (show ¬((a+n:Nat):Int)<s.length by omega)];refine aN rfl (ab.bc _) ⟨?_,rfl⟩;simp[V.erase,I0 cT hn (λh=>absurd h an)]
def ahQ:aR prog 44 (sq [rg 2 [od (U 1) (.gY 1 (.s 0)),oz 8,oM [0,0]],.scope (sq [rg 9 [oq (.kb (.func 95) [] [(.s 1)]),o1 4],rg 5 [oz 8],rg 6 [oi 0],.skip,bl 0 (sq [sq [rg 10 [om 6,oo 1,nT,nb .lss 10],cx 13 0],.block 1 (sq [rg 14 [oo 1,om 6,nS 14,o1 7],.block 2 (sq [rg 18 [om 7,nu .eql 32,gB,om 7,nu .eql 9,gZ,o1 17],cd 17 (sq [rg 24 [ic 6],(.exit 1)]) (sq [rg 27 [oo 1,om 6,oC 97 [27,28],o1 26],cd 26 (.exit 0) (sq [rg 31 [om 7,oC 98 [31],o1 30],ci 30 (sq [rg 33 [om 5,om 7,oo 1,om 6,om 6,nB .add 1,oK 35 36 38,om 6,oW [3,1,0] [(0,1,34),(1,1,39),(2,1,40)],n1 3,na 3 33,o1 5],rg 44 [ic 6],(.exit 1)])])])]),rg 46 [om 4,om 6,oq (.iV (.s 46) [(.s 47)]),o1 8],sq [rg 49 [oo 1,om 6,om 8,oK 49 50 51,oC 99 [52],nn],cr 54 55 [om 6,oG [0,0] [(0,1,.c (.int .i64 1)),(1,1,.s 55)],oU 2 8,o2 2 3]],rg 57 [om 5,oo 1,om 6,om 8,oK 58 59 60,om 6,oG [3,1,0] [(0,1,.c (.int .u8 97)),(1,1,.s 61),(2,1,.s 62)],n1 3,na 3 57,o1 5],rg 66 [om 8,o1 6]])]),rg 67 [om 5,oW [0,0] [],ot 2 67,o2 2 3],.ret])]) [.tmp 2,.cell 3 aa 2] 69:=aS func44 ⟨[1],[]⟩
abbrev JI(s:List UInt8)(Z:ab)(p:Nat)(R:List Tok × Option Int):={q:Nat × Nat × Nat × List Tok // (Z.set p [.aH s]).aY q.2.2.1=ah/\gQ q.1 q.2.1 (s.drop q.2.1) q.2.2.2=R/\q.2.2.2.length<=q.2.1/\q.2.1<=s.length/\s.length<=q.2.1+q.1}
def xU(s:List UInt8)(Z:ab)(p a D:Nat)(acc:List Tok):St :=
 ⟨[.aH s,.ptr (.out p) 0,.any,.ptr (.au 0) 0,.fn (.func 95) [] [.ptr (.out p) 0],.sl (.tk D) 3 (acc.map Tok.enc),.int .i64 (a:Nat)]++aj 62 .any,[[.int .i64 0,.int .i64 0]],(Z.set p [.aH s]).ba D acc.length⟩
def alY(s:List UInt8)(Z:ab)(hb:s.length+1<=aJ):aT 44 [.aH s] Z (.bz [.sl .no 3 ((fI s).1.map Tok.enc),vU (fI s).2]):=by
 simp only[aJ] at hb;generalize hR:fI s=R;refine ahQ.aP ?_;simp only[aO,am,aX,Nat.reduceAdd];refine kx λp hp=>?_
 simp only[am,cG];have pN:∀D m,((Z.set p [.aH s]).ba D m).box p=U [.aH s]:=λD m=>by simp[ab.ba,ab.set]
 have qL:∀D m,(Z.set p [.aH s]).aY D=ah->Z.sub ((Z.set p [.aH s]).ba D m):=λD m h=>ab.DQ (iS hp) (gV h)
 refine dP (λq:JI s Z p R=>xU s Z p q.1.2.1 q.1.2.2.1 q.1.2.2.2) (λq=>s.length - q.1.2.1) ?_ ?_
 .refine a7.s_ 0 λD a_=>⟨⟨(s.length,0,D,[]),a_,hR,by simp,by simp,by simp⟩,?_,rfl,rfl⟩
  simp[xU,aj,jG]
 .rintro⟨⟨n,a,D,acc⟩,a_,hR,h1,h2,h3⟩;simp only at a_ hR h1 h2 h3;simp only[xU,aj,am];refine cO ?_ ?_
  .intro an;have an:a<s.length:=by simpa using an
   obtain⟨m,rfl⟩:∃m,n=m+1:=⟨n - 1,by omega⟩;rw[drop_cons an] at hR;rw[alX,<-drop_cons an] at hR;have dx:=W1 (s:=s) (a:=a);have w1:IntKind.i64.wrap ((a:Int)+1)=((a+1:Nat):Int):=by rw[wrap_i64];simp
   have again:∀(b:Nat) (pC : List Tok) (t:List V) (l:List (List V)),gQ m b (s.drop b) pC = R->pC.length<=b->a<b->b<=s.length ->
    c_ t (xU s Z p b D pC).t->l=[[.int .i64 0,.int .i64 0]] ->
    a7 ⟨t,l,(Z.set p [.aH s]).ba D pC.length⟩ λaU => ∃j:JI s Z p R,aU = xU s Z p j.1.2.1 j.1.2.2.1 j.1.2.2.2/\s.length - j.1.2.1<s.length - a:=λb pC t l e1 e2 e3 e4 e5 e6=>by
    refine a7.again (μ:=λq:JI s Z p R=>s.length - q.1.2.1) (I:=λq=>xU s Z p q.1.2.1 q.1.2.2.1 q.1.2.2.2) ⟨(m,b,D,pC),a_,e1,e2,e4,by simp only;omega⟩ (by simp;omega) e5 (by rw[e6];exact bV.rfl) br.rfl
   simp only[am];refine pX (s7 an) ?_;simp only[am]
   by_cases nw:s[a].toNat=32\/s[a].toNat=9
   .rw[aI nw] at hR
    by_cases h32:s[a].toNat=32
    case' pos=>simp only[am,cG,Nat.reduceAdd,Nat.reduceEqDiff,aB (show((s[a].toNat:Nat):Int)=32 by omega),w1]
    case' neg=>simp only[am,cG,Nat.reduceAdd,Nat.reduceEqDiff,az (show ¬((s[a].toNat:Nat):Int)=32 by omega),aB (show((s[a].toNat:Nat):Int)=9 by omega),w1]
    all_goals exact again (a+1) acc _ _ hR (by omega) (by omega) (by omega) (by simp[xU,aj,am]) rfl
   .rw[aw nw] at hR;simp only[am,az (show ¬((s[a].toNat:Nat):Int)=32 by omega),az (show ¬((s[a].toNat:Nat):Int)=9 by omega)];refine(abE s a _ an (by simp only[aJ];omega)).mono ?_;rintro v σ' ⟨rfl,rfl⟩
    by_cases rz:s[a].toNat=45/\(s.drop (a+1)).head?.map UInt8.toNat=U 45
    .rw[aI rz] at hR;simp only[am,cG,Nat.reduceAdd,Nat.reduceEqDiff,aB rz];refine aN rfl (qL D _ a_) ⟨?_,rfl⟩;simp[V.erase,aZ,<-hR,vU,fB]
    .rw[aw rz] at hR;simp only[am,az rz];refine(asp (s[a].toNat:Nat) _).mono ?_;rintro v σ' ⟨rfl,rfl⟩;cases Fe:rW (s[a].toNat:Nat)
     .rw[aw (by simp[Fe])] at hR;simp only[am];refine(adt (s:=s) (pN D _) (by omega) (by simp only[aJ];omega)).mono ?_;rintro v σ' ⟨rfl,rfl⟩;simp only[am,cG];refine DM (by omega) (by omega) ?_;rw[Kx];simp only[am];refine(vb (eH (s.drop a)) _).mono ?_;rintro v σ' ⟨rfl,rfl⟩;cases C5:dO (eH (s.drop a))
      .rw[aw (by simp[C5])] at hR;simp only[am,cG,Nat.reduceAdd];refine aN rfl (qL D _ a_) ⟨?_,rfl⟩;simp[V.erase,aZ,<-hR,vU,fB]
      .rw[aI C5] at hR;have hN:0<(eH (s.drop a)).length:=by
        cases hq:eH (s.drop a) with
        | nil=>rw[hq] at C5;simp[dO] at C5
        | cons _ _=>simp
       simp only[am,cG];refine DM (by omega) (by omega) ?_;rw[Kx];simp only[am,Nat.reduceAdd];refine fe (by simp[aJ];omega) (by rw[aD,eR]) ?_;simp only[am,aD,eJ];have e:acc.length+1=(acc++[(⟨97,eH (s.drop a),a⟩:Tok)]).length:=by simp
       rw[e];rw[w_] at hR;exact again (a+(eH (s.drop a)).length) _ _ _ hR (by simp;omega) (by omega) (by omega) (by simp[xU,aj,am,Tok.enc]) rfl
     .rw[aI Fe] at hR;simp only[am,cG,w1];refine DM (by omega) (by omega) ?_;rw[RC an];simp only[am,Nat.reduceAdd];refine fe (by simp[aJ];omega) (by rw[aD,eR]) ?_;simp only[am,cG,Nat.reduceAdd,Nat.reduceEqDiff,aD,eJ,w1];have e:acc.length+1=(acc++[(⟨(s[a].toNat:Nat),[s[a]],a⟩:Tok)]).length:=by simp
      rw[e];exact again (a+1) _ _ _ hR (by simp;omega) (by omega) (by omega) (by simp[xU,aj,am,Tok.enc]) rfl
  .intro an;have an:a=s.length:=by simp at an;omega
   subst an;rw[yE] at hR;have n5 : (acc,ah)=R:=by cases n<;>simpa [gQ] using hR
   simp only[am,cG,Nat.reduceAdd];refine aN rfl (qL D _ a_) ⟨?_,rfl⟩;simp[V.erase,aZ,<-n5,vU,fB]
def ahR:aR prog 45 (sq [rg 2 [oz 10,oM [0,0]],rg 4 [oz 9],rg 5 [oz 10],sq [rg 11 [om 0,nL,oi 0],lp 12 0 (sq [rg 15 [oA 3 11 13,nl 3,oZ 7 [3,1,0],o2 3 7],rg 17 [om 4,nL,o1 8],.block 2 (sq [rg 27 [fo 0 7,oC 100 [28],nu .neq 0,o1 26],cd 26 (sq [sq [rg 31 [om 8,nB .geq 24],cr 32 33 [ol 3 7,oC 101 [33],oe 34 0,oe 34 1,ot 2 35,o2 2 3]],rg 37 [om 4,ol 3 7,om 5,oW [3,1,0,10] [(0,3,38),(3,1,39)],nO (.mi 4),na 4 37,o1 4],rg 5 [oz 10]]) (sq [rg 44 [fo 0 7,oC 102 [45],o1 43],cd 43 (sq [sq [dg 47 [om 8,nB .eql 0,gB,om 4,om 8,nB .sub 1,nA 4 50,nf 0,nF 0,oC 100 [56],of 0 7,mM [0],no,nb .neq 57,gZ],cr 61 62 [ol 3 7,oC 101 [62],oe 63 0,oe 63 1,ot 2 64,o2 2 3]],rg 66 [om 4,om 8,nB .sub 1,nA 4 66,nl 4,oZ 9 [3,1,0,10],o2 4 9],rg 71 [om 4,om 8,nB .sub 1,om 8,nB .sub 1,oq (.mu 4 (.s 71) ah (U (.s 73)) (U (.s 75))),o1 4],rg 77 [fo 3 9,of 0 9,nl 3,om 5,fo 2 7,oW [3,1,0,10,0] [(0,3,80),(3,1,81),(4,1,83)],n1 5,na 5 78,o1 5]]) (rg 19 [om 5,ol 3 7,fo 2 7,oW [3,1,0,10,0] [(0,3,20),(4,1,22)],n1 5,na 5 19,o1 5])])])]) 87],sq [rg 88 [om 4,nL,o1 10],rg 90 [om 10,nB .gtr 0],cr 91 92 [om 4,om 10,nB .sub 1,nA 4 92,nf 0,nl 3,oC 101 [97],oe 98 0,oe 98 1,ot 2 99,o2 2 3]],rg 101 [om 5,oW [0,0] [],ot 2 101,o2 2 3],.ret]) [.tmp 2,.cell 3 aa 2] 103:=aS func45 ⟨[41],[]⟩
def aeA:aR prog 100 (sq [rg 2 [oz 3],rg 3 [oz 3],sq [rg 4 [om 0],.block 0 (sq [.block 2 (sq [.block 1 (sq [sq [sq [sq [rg 6 [ou .eql 4 123,o1 5],cd 5 .skip (rg 7 [ou .eql 4 91,o1 5])],ci 5 (.exit 1)],rg 9 [ou .eql 4 40,o1 8],ci 8 (.exit 2)],(.exit 0)]),rg 10 [om 3,nu .add 1,o1 3]]),sq [rg 12 [om 0,nu .add 1,om 3,nb .add 13,o1 2],.ret],(.exit 0)])],rg 2 [oz 3],.ret]) [.tmp 2] 16:=aS func100
def aeB:aR prog 101 (sq [rg 2 [ox 1 3 0,oz 10,oM [0,0]],dg 4 [fo 2 1,oG [0,0] [(0,1,.c (.int .i64 2)),(1,1,.s 5)],oU 2 10,o2 2 3],.ret]) [.tmp 2,.cell 3 aa 2] 7:=aS func101
def aeC:aR prog 102 (sq [rg 2 [oz 2],rg 3 [om 0,nu .eql 41,gB,om 0,nu .eql 125,gZ,gB,om 0,nu .eql 93,gZ,o1 2],.ret]) [.tmp 2] 13:=aS func102
def Rc(c:Int)(Z:ab):aT 100 [.int .u8 c] Z (.int .u8 (closing c)):=by
 refine aeA.aP ?_;simp only[aO,am,aX,Nat.reduceAdd]
 by_cases h1:c=123
 .subst h1;simp only[am,Nat.reduceEqDiff,bL];refine aC ?_;simp[V.erase];rfl
 .simp only[am,az h1]
  by_cases h2:c=91
  .subst h2;simp only[am,Nat.reduceEqDiff,bL];refine aC ?_;simp[V.erase];rfl
  .simp only[am,az h2]
   by_cases h3:c=40
   .subst h3;simp only[am,Nat.reduceEqDiff,bL];refine aC ?_;simp[V.erase];rfl
   .simp only[am,Nat.reduceEqDiff,az h3];refine aC ?_;simp[V.erase,closing,h1,h2,h3]
def abz(c:Int)(Z:ab):aT 102 [.int .u8 c] Z (.bool (lv c)):=by
 refine aeC.aP ?_;simp only[aO,am,aX,Nat.reduceAdd]
 repeat' (first
  | (refine fR (λh=>?_) (λh=>?_)<;>simp only[am,h])
  | (refine cO (λh=>?_) (λh=>?_)<;>simp only[mT,h,Nat.reduceAdd,Nat.reduceEqDiff,aD])
  | (refine fT (λh=>?_) (λh=>?_)<;>simp only[mT,h,Nat.reduceAdd,Nat.reduceEqDiff,aD])
 )
 all_goals refine aC ?_
 all_goals simp_all [V.erase,lv]
 all_goals (try omega)
def GX(t:Tok)(Z:ab):aT 101 [.agg t.enc] Z (.bz [.sl .no 5 [],jm (U t.pos)]):=by
 refine aeB.aP ?_;simp only[aO,am,aX,Tok.enc,am];refine aC ?_;simp[V.erase,aZ,jm,dn,fB]
structure iT where
 tok:Tok
 tk:Tk
 ahead:List aA
def iT.enc(x:iT):List V:=[.int .u8 x.tok.kind,.aH x.tok.ar,.int .i64 x.tok.pos,.sl x.tk 5 (cm x.ahead)]
def iT.pair(x:iT):Tok × List aA:=(x.tok,x.ahead)
def iT.tn(x:iT):Tk × Nat:=(x.tk,(cm x.ahead).length)
structure Cf where
 i:Nat
 Jb:Tk
 op:List iT
 DT:Tk
 row:List aA
 D:ab
def u1(l:List Tok)(q:Cf):St :=
 ⟨[.sl .no 3 (l.map Tok.enc),.any,.any,.ptr (.au 0) 0,.sl q.Jb 4 (q.op.map iT.enc),.sl q.DT 5 (cm q.row)]++aj 5 .any++[.sl .no 3 (l.map Tok.enc),.int .i64 l.length,.int .i64 (q.i:Nat)]++aj 89 .any,[[.int .i64 0,.int .i64 0]],q.D⟩
def GO(l:List Tok)(Z:ab)(R:List aA × Option Int)(q:Cf):Prop :=
 q.i<=l.length/\gW (l.drop q.i) (q.op.map iT.pair) q.row=R/\jO Z q.D ((q.Jb,(q.op.map iT.enc).length)::(q.DT,(cm q.row).length)::q.op.map iT.tn)/\q.op.length<=q.i/\q.row.length<=q.i/\∀x∈q.op,x.ahead.length+1<=q.i
def XA{Y:Type}(l:List Y):l=[]\/∃ys x,l=ys++[x]:=by
 rcases P7 l with h | ⟨ys,x,h⟩
 .exact .inl h
 .exact .inr ⟨ys,x,by rw[h];simp⟩
def as8(l:List Tok)(Z:ab)(hb:l.length+1<=aJ):aT 45 [.sl .no 3 (l.map Tok.enc)] Z (.bz [.sl .no 5 (cm (gW l [] []).1),jm (gW l [] []).2]):=by
 simp only[aJ] at hb;generalize hR:gW l [] []=R;refine ahR.aP ?_;simp only[aO,am,aX,Nat.reduceAdd];refine dP (λq:{q:Cf // GO l Z R q}=>u1 l q.1) (λq=>l.length - q.1.i) ?_ ?_
 .refine a7.enter ⟨⟨0,.a9,[],.a9,[],Z⟩,by simp,hR,jO.init (by simp),by simp,by simp,by simp⟩ ?_ bV.rfl br.rfl;simp[u1,aj,am,cm]
 .rintro⟨⟨i,Jb,op,DT,row,D⟩,h1,hR,hT,eE,ep,sF⟩;simp only at h1 hR hT eE ep sF;simp only[u1,aj,am];refine cO ?_ ?_
  .intro an;have an:i<l.length:=by simpa using an
   rw[kM an] at hR;have akt:iI l i=l[i]:=by simp[iI,an]
   rw[<-akt] at hR;generalize ht:iI l i=t at hR;have wi:IntKind.i64.wrap ((i:Int)+1)=((i+1:Nat):Int):=by rw[wrap_i64];simp
   have again:∀(q:Cf) (t:List V) (m:List (List V)),GO l Z R q->q.i=i+1->c_ t (u1 l q).t->bV (m.take 1) [[.int .i64 0,.int .i64 0]] ->
    a7 ⟨t,m,q.D⟩ λaU => ∃j:{q:Cf // GO l Z R q},aU = u1 l j.1/\l.length - j.1.i<l.length - i:=λq t m hq hi ht hm=>by
    refine a7.lT (I:=λq:{q:Cf // GO l Z R q}=>u1 l q.1) (μ:=λq=>l.length - q.1.i) ⟨q,hq⟩ (by simp only;omega) ht hm br.rfl (by simp[u1,aj,bK,V.lo]) (by simp[u1,cp,bK,V.lo])
   simp only[am];refine ix (wV an) ?_;rw[ht];simp only[am,Nat.reduceAdd,aD,Tok.enc];refine(Rc t.kind _).mono ?_;rintro v σ' ⟨rfl,rfl⟩;simp only[gW] at hR
   by_cases hc:closing t.kind=0
   .rw[aw (by simp[hc])] at hR;simp only[am,aB hc];refine(abz t.kind _).mono ?_;rintro v σ' ⟨rfl,rfl⟩;cases gN:lv t.kind
    .rw[gN] at hR;simp only[dm,ch] at hR;simp only[am,Nat.reduceAdd];refine Kb (hT.perm (List.Perm.swap _ _ _)) (by rw[dK];simp[aJ];omega) λO tV=>?_
     simp only[dK,aD,da,cZ,j7] at tV;simp only[am,dK,wi];have e:cm row++[[V.int .u8 t.kind,.aH t.ar,.int .i64 t.pos,.sl .no 5 [],.int .i64 t.pos]]=cm (row++[.mk t [] t.pos]):=by simp[nW,aA.enc,cm]
     rw[e];refine again ⟨i+1,Jb,op,.tk O,row++[.mk t [] t.pos],σ'.ba O (row.length+1)⟩ _ _ ⟨an,hR,?_,by simp only;omega,by simp;omega,λx hx=>by have:=sF x hx;simp only;omega⟩ rfl (by simp[u1,aj,am]) (by simp[am]);refine jO.perm ?_ (List.Perm.swap _ _ _);simpa [dK] using tV
    .rw[gN] at hR;simp only[cH] at hR
     rcases XA op with rfl | ⟨ys,x,rfl⟩
     .simp only[eQ,JT] at hR;simp only[am,eQ,cZ,show decide (((0:Nat):Int)=0)=aa from rfl];refine(GX t _).mono ?_;rintro v σ' ⟨rfl,rfl⟩;simp only[am,Nat.reduceAdd,jm];refine aN rfl hT.1 ⟨?_,rfl⟩;simp[V.erase,aZ,<-hR,dn,fB,cm]
     .have bh:¬(((ys++[x]).length:Nat):Int)=0:=by simp;omega
      have wn:IntKind.i64.wrap ((((ys++[x]).length:Nat):Int) - 1)=(ys.length:Nat):=by rw[wrap_i64 (by simp<;>omega) (by simp at eE ⊢<;>omega)];simp
      have dp:((ys++[x]).map iT.enc)[((ys.length:Nat):Int).toNat]?=U x.enc:=by simp
      simp only[jf,dz,eQ,Gz,JK,iT.pair] at hR;simp only[am,az bh,wn];refine ix (dp) ?_;simp only[am,iT.enc];refine bA.intro (Rc x.tok.kind _) ?_;simp only[am]
      by_cases hk:closing x.tok.kind=t.kind
      .rw[aI hk] at hR;simp only[am,aB hk,wn];refine ix (dp) ?_;simp only[am,cG,Nat.reduceAdd,iT.enc,wn];refine asu (by simp) ?_;have hT2:jO Z σ' ((x.tk,(cm x.ahead).length)::ys.map iT.tn):=by
        refine(hT.tail.tail).perm ?_;simp only[jf,dz,eQ,iT.tn];exact YX _ _
       have hx3:=sF x (by simp);simp only[bW,da,cZ] at eE;simp only[am,Nat.reduceAdd];refine Kb hT2 (by rw[dK];simp[aJ];omega) λO tV=>?_
       simp only[dK,da,cZ,j7] at tV;simp only[am,dK,wi];have e:cm x.ahead++[[V.int .u8 x.tok.kind,.aH x.tok.ar,.int .i64 x.tok.pos,.sl .no 5 (cm row),.int .i64 t.pos]]=cm (x.ahead++[.mk x.tok row t.pos]):=by simp[nW,aA.enc]
       have e2:((ys++[x]).map iT.enc).take ys.length=ys.map iT.enc:=by simp
       rw[e,e2];refine again ⟨i+1,.a9,ys,.tk O,x.ahead++[.mk x.tok row t.pos],σ'.ba O (x.ahead.length+1)⟩ _ _ ⟨an,hR,?_,by simp only;omega,by simp;omega,λy hy=>by have:=sF y (by simp[hy]);simp only;omega⟩ rfl (by simp[u1,aj,am]) (by simp[am]);refine jO.a9 ?_;simpa [dK] using tV
      .rw[aw hk] at hR;simp only[am,az hk];refine(GX t _).mono ?_;rintro v σ' ⟨rfl,rfl⟩;simp only[am,Nat.reduceAdd,jm];refine aN rfl hT.1 ⟨?_,rfl⟩;simp[V.erase,aZ,<-hR,dn,fB,cm]
   .rw[aI hc] at hR;simp only[am,az hc];rw[aD] at hR
    by_cases rr:24<=op.length
    .rw[aI rr] at hR;simp only[am,aB (show(24:Int)<=op.length by omega)];refine(GX t _).mono ?_;rintro v σ' ⟨rfl,rfl⟩;simp only[am,Nat.reduceAdd,jm];refine aN rfl hT.1 ⟨?_,rfl⟩;simp[V.erase,aZ,<-hR,dn,fB,cm]
    .rw[aw rr] at hR;simp only[am,jj,Nat.reduceAdd,az (show ¬(24:Int)<=op.length by omega),aoW];refine Kb hT (by simp[aJ];omega) λO tV=>?_
     simp only[aD,da,cZ,j7] at tV;simp only[am,aD,wi];have e:op.map iT.enc++[[V.int .u8 t.kind,.aH t.ar,.int .i64 t.pos,.sl DT 5 (cm row)]]=(op++[(⟨t,DT,row⟩:iT)]).map iT.enc:=by simp[iT.enc]
     rw[e];refine again ⟨i+1,.tk O,op++[⟨t,DT,row⟩],.a9,[],σ'.ba O (op.length+1)⟩ _ _ ⟨an,by simpa [iT.pair] using hR,?_,by simp;omega,by simp,λx hx=>?_⟩ rfl (by simp[u1,aj,am,cm]) (by simp[am])
     .simp only[aD,bW,da,cZ,j7,jf,dz,eQ,iT.tn];refine jO.perm (jO.a9 (n:=(cm []).length) tV) ?_;refine(List.Perm.swap _ _ _).trans (List.Perm.cons _ (List.Perm.cons _ ?_));exact(YX _ _).symm
     .rcases jv.1 hx with hx | hx
      .have:=sF x hx;simp only;omega
      .simp at hx;subst hx;simp only;omega
  .intro an;have an:i=l.length:=by simp at an;omega
   subst an;rw[yE] at hR;simp only[gW] at hR;simp only[am,aD];refine cO ?_ ?_
   .intro h0
    rcases XA op with rfl | ⟨ys,x,rfl⟩
    .simp at h0
    have wn:IntKind.i64.wrap ((((ys++[x]).length:Nat):Int) - 1)=(ys.length:Nat):=by rw[wrap_i64 (by simp<;>omega) (by simp at eE ⊢<;>omega)];simp
    have dp:((ys++[x]).map iT.enc)[((ys.length:Nat):Int).toNat]?=U x.enc:=by simp
    simp only[jf,dz,eQ,Gz,iT.pair] at hR;simp only[am,wn];refine ix (dp) ?_;simp only[am,iT.enc];refine(GX x.tok _).mono ?_;rintro v σ' ⟨rfl,rfl⟩;simp only[am,Nat.reduceAdd,jm];refine aN rfl hT.1 ⟨?_,rfl⟩;simp[V.erase,aZ,<-hR,dn,fB,cm]
   .intro h0;have h0:op=[]:=by
     cases op with
     | nil=>rfl
     | cons x xs=>simp at h0<;>omega
    subst h0;simp only[eQ,JT] at hR;simp only[am,Nat.reduceAdd];refine aN rfl hT.1 ⟨?_,rfl⟩;simp[V.erase,aZ,<-hR,jm,dn,fB]
def ahS:aR prog 46 (sq [rg 0 [oZ 2 [1,0]],rg 4 [om 0,oc 103 [.s 4,.c (.int .u8 97)],oZ 3 [3,1,0,10,0],o2 5 3],rg 6 [of 0 3,nF 1,of 0 3,nF 2,oW [1,0] [(0,1,8),(1,1,11)],o2 2 2],.ret]) [.cell 2 aa 2] 13:=aS func46
def ahU:aR prog 49 (sq [sq [rg 2 [mk 0,nf 3,nF 0,nB .neq 0],ci 7 .ret],rg 8 [om 0,mk 0,nF 2,oG [0,0] [(0,1,.c (.int .i64 2)),(1,1,.s 12)],ok 8,nf 3,os 2 15 13],dg 16 [mk 0,nF 1,mk 0,nF 0,nL,nb .lss 19],ci 25 (dg 26 [om 0,mk 0,nF 0,mk 0,nF 1,nA 5 30,nf 0,nF 2,ok 26,nf 3,nf 1,os 1 41 38])]) [] 42:=aS func49
def aeD:aR prog 103 (sq [rg 0 [oZ 4 [3,1,0,10,0]],sq [dg 5 [mk 0,nf 3,nF 0,nB .neq 0,gB,mk 0,nF 1,mk 0,nF 0,nL,nb .geq 15,gZ,gB,mk 0,nF 0,mk 0,nF 1,nA 5 27,nf 0,nF 0,om 1,nb .neq 35,gZ],ci 38 (sq [rg 39 [om 0,oC 49 [39]],rg 41 [oW [3,1,0,10,0] [],o2 5 4],.ret])],rg 42 [mk 0,nF 1,nB .add 1,ok 42,nf 1,os 1 48 46],dg 49 [mk 0,nF 0,mk 0,nF 1,nB .sub 1,nA 5 52,nl 5,o2 5 4],.ret]) [.cell 4 aa 5] 60:=aS func103
def aeG:aR prog 106 (sq [rg 0 [ox 5 5 1,ox 7 2 3],sq [rg 8 [nF 0,nB .neq 0],cr 10 11 [om 0,ol 2 7,ok 11,nf 3,os 2 14 12]],rg 15 [om 0,om 2,ok 15,nf 1,os 1 18 16],sq [rg 19 [mk 0,nf 5,nf 7,nF 0,nB .eql 0],cr 25 26 [om 0,ol 5 5,ok 26,nf 5,nf 7,os 5 30 27]],rg 31 [om 0,ol 5 5,ok 31,nf 5,nf 12,os 5 35 32]]) [] 36:=aS func106
variable{cs:List V}{r:Nat}{rd:ag}
def Q5(h:Z.box r=U (rd.enc++cs))(h0:0<=rd.at_):d_ 49 [.ptr (.out r) 0] Z (.bz []) (Z.set r (rd.fail.enc++cs)):=by
 refine ahU.aP ?_;simp only[aO,am,aX,am,h,ag.enc];cases hb:rd.aQ with
 | some b =>
  simp only[am,Nat.reduceAdd,c9,Int.reduceEq,dn];refine aN rfl (ab.bc _) ⟨rfl,?_⟩;rw[ag.fail,hb];exact(ab.zS h).symm
 | none =>
  simp only[am,Nat.reduceAdd,dK,bL,dn,h,ag.enc]
  by_cases h1:rd.at_<rd.l.length
  .obtain⟨j,hj⟩:=vB h0;have gF : j<rd.l.length:=by omega
   simp only[am,bL,h1,bL];refine mh h0 (c:=rd.l[j].enc) (by simp[nW,hj,gF]) ?_;simp only[am,Nat.reduceAdd,cS];refine aN rfl (ab.bc _) ⟨rfl,?_⟩;simp[ag.fail,ag.spot,hb,hj,gF,fB]
  .simp only[am,c9,h1,c9];refine aN rfl (ab.bc _) ⟨rfl,?_⟩
   have:rd.l[rd.at_.toNat]?=none:=tm (by omega)
   simp[ag.fail,ag.spot,hb,this,fB]
def G_(h:Z.box r=U (rd.enc++cs))(h0:0<=rd.at_)(hb:rd.l.length<=aJ):d_ 103 [.ptr (.out r) 0,.int .u8 k] Z (.agg (rd.take k).1.enc) (Z.set r ((rd.take k).2.enc++cs)):=by
 refine aeD.aP ?_;simp only[aO,am,aX,am,h,ag.enc];have eG:rd.cD k=aq->d_ 49 [.ptr (.out r) 0] Z (.bz []) (Z.set r (rd.fail.enc++cs)):=λ_=>Q5 h h0
 cases bZ:rd.aQ with
 | some b =>
  have hs:rd.cD k=false:=by simp[ag.cD,ag.ok,bZ]
  simp only[am,Nat.reduceAdd,c9,Int.reduceEq,dn];refine(eG hs).mono ?_;rintro v σ' ⟨rfl,rfl⟩;simp only[am,Nat.reduceAdd];refine aN rfl (ab.bc _) ⟨?_,?_⟩
  .simp[ag.take,hs,V.erase,aZ,aA.zero,aA.enc,cm]
  .simp[ag.take,hs,ag.enc,dn]
 | none =>
  simp only[am,Nat.reduceAdd,dK,bL,dn,h,ag.enc]
  by_cases h1:rd.at_<rd.l.length
  .obtain⟨j,hj⟩:=vB h0;have gF : j<rd.l.length:=by omega
   simp only[am,az (show ¬(rd.l.length:Int)<=rd.at_ by omega),h,ag.enc];refine mh h0 (c:=rd.l[j].enc) (by simp[nW,hj,gF]) ?_;simp only[am,cS]
   by_cases hk:rd.l[j].tok.kind=k
   .have hs:rd.cD k=true:=by simp[ag.cD,ag.ok,bZ,bf,hj,gF,hk]
    have w1:IntKind.i64.wrap (rd.at_+1)=rd.at_+1:=by simp only[aJ] at hb;exact wrap_i64 (by omega) (by omega)
    have w2:IntKind.i64.wrap (rd.at_+1 - 1)=rd.at_:=by rw[show rd.at_+1 - 1=rd.at_ by omega];simp only[aJ] at hb;exact wrap_i64 (by omega) (by omega)
    simp only[am,aB hk,h,ag.enc,w1,w2];refine mh h0 (c:=rd.l[j].enc) (by simp[nW,hj,gF]) ?_;simp only[am,aA.ak];refine aN aA.dL (ab.bc _) ⟨?_,?_⟩
    .simp[ag.take,hs,V.erase,hj,gF,gy,aA.ak];exact cS _
    .simp[ag.take,hs,dn]
   .have hs:rd.cD k=false:=by simp[ag.cD,ag.ok,bZ,bf,hj,gF,hk]
    simp only[am,az hk];refine(eG hs).mono ?_;rintro v σ' ⟨rfl,rfl⟩;simp only[am,Nat.reduceAdd];refine aN rfl (ab.bc _) ⟨?_,?_⟩
    .simp[ag.take,hs,V.erase,aZ,aA.zero,cm,aA.tok,aA.ae,aA.fin]
    .simp[ag.take,hs,ag.enc,dn]
  .have hs:rd.cD k=false:=by
    have:rd.l[rd.at_.toNat]?=none:=tm (by omega)
    simp[ag.cD,ag.ok,bZ,bf,this]
   simp only[am,aB (show(rd.l.length:Int)<=rd.at_ by omega)];refine(eG hs).mono ?_;rintro v σ' ⟨rfl,rfl⟩;simp only[am,Nat.reduceAdd];refine aN rfl (ab.bc _) ⟨?_,?_⟩
   .simp[ag.take,hs,V.erase,aZ,aA.zero,aA.enc,cm]
   .simp[ag.take,hs,ag.enc,dn]
def Es(h:Z.box r=U (rd.enc++cs))(h0:0<=rd.at_)(hb:rd.l.length<=aJ):d_ 46 [.ptr (.out r) 0] Z (.agg rd.word.1.enc) (Z.set r (rd.word.2.enc++cs)):=by
 refine ahS.aP ?_;simp only[aO,am,aX,Nat.reduceAdd];refine(G_ h h0 hb).mono ?_;rintro v σ' ⟨rfl,rfl⟩;simp only[am,Nat.reduceAdd,aA.ak,aA.fl];refine aN rfl (ab.bc _) ⟨?_,?_⟩
 .simp[ag.word,V.erase,aZ,aF.enc]
 .simp[ag.word]
variable{c:aL}{pc:V}
def Rj{g:Nd × Int × Option Int}(h:Z.box r=U (rd.enc++c.cz pc))(hb:rd.aQ=ah):d_ 106 [.ptr (.out r) 0,.agg g.1.enc,.int .i64 g.2.1,jm g.2.2] Z (.bz []) (Z.set r ((o9 rd c g).1.enc++(o9 rd c g).2.cz pc)):=by
 refine aeG.aP ?_;simp only[aO,am,aX,Nat.reduceAdd,Nd.ak];simp only[am,Nat.reduceAdd,jm,ag.enc,aL.cz];cases hg:g.2.2 with
 | some a =>
  simp only[am,Nat.reduceAdd,c9,Int.reduceEq,dn,h,ag.enc,aL.cz];refine aN rfl (ab.bc _) ⟨rfl,?_⟩;simp[o9,hg]
 | none =>
  simp only[am,Nat.reduceAdd,bL,dn,h,ag.enc,aL.cz]
  by_cases hk:c.left.kind=0
  .simp only[am,Nat.reduceAdd,aB hk,Nd.cS];refine aN rfl (ab.bc _) ⟨rfl,?_⟩;simp[o9,hg,hk]
  .simp only[am,Nat.reduceAdd,az hk,Nd.cS];refine aN rfl (ab.bc _) ⟨rfl,?_⟩;simp[o9,hg,hk]
def ahJ:aR prog 35 (sq [rg 0 [oZ 2 [1,1]],sq [rg 3 [om 0,nB .lss 0,gB,om 0,nB .geq 16,gZ],cr 8 9 [oW [1,1] [],o2 2 2]],rg 10 [om 0,oq (.sO 16 2 (.c (.ptr (.kS 0) 0)) (.s 10)),nl 2,o2 2 2],.ret]) [.cell 2 aa 2] 13:=aS func35
def ahT:aR prog 47 (sq [rg 2 [oi 0],sq [rg 4 [oi 0],bl 0 (sq [rg 5 [nB .lss 16],cx 5 0,.block 1 (sq [rg 6 [om 4,o1 3],rg 7 [om 3,nB .gtr 0,gA,om 3,oq (.sO 16 2 (.c (.ptr (.kS 0) 0)) (.s 10)),nF 0,om 0,nE .eql 13,gZ],cr 16 17 [om 3,o1 2]]),rg 18 [oB .add 4 1,o1 4]])],rg 2 [oi 0],.ret]) [.tmp 2] 19:=aS func47
def SG{i:Nat}(h:i<16):il.drop (i*2)=[V.aH (iO.getD i ([],[])).1,.aH (iO.getD i ([],[])).2]++((iO.map λp=>[V.aH p.1,V.aH p.2]).drop (i+1)).flatten:=by
 unfold il;rw[KV (k:=2) (by intro r hr;simp only[qv] at hr;obtain⟨p,_,rfl⟩:=hr;rfl),kM (by simpa [iO] using h)]
 have:i<iO.length:=by simpa [iO] using h
 simp[gy,this]
def N0(op:Int)(hg:Z.cQ 0=U il):aT 35 [.int .i64 op] Z (.agg [.aH (dc op).1,.aH (dc op).2]):=by
 refine ahJ.aP ?_;simp only[aO,am,aX,Nat.reduceAdd]
 by_cases h0:op<0
 .simp only[am,Nat.reduceAdd,aB h0];refine aN rfl (ab.bc _) ⟨?_,rfl⟩
  have:¬(0<=op/\op<16):=by omega
  simp[V.erase,aZ,dc,this]
 .simp only[am,az h0]
  by_cases h1:16<=op
  .simp only[am,Nat.reduceAdd,aB h1];refine aN rfl (ab.bc _) ⟨?_,rfl⟩
   have:¬(0<=op/\op<16):=by omega
   simp[V.erase,aZ,dc,this]
  .simp only[am,cG,az h1];refine i_ ?_;simp only[am,Nat.reduceAdd,hg,SG (show op.toNat<16 by omega)];refine aN rfl (ab.bc _) ⟨?_,rfl⟩
   have:0<=op/\op<16:=by omega
   simp[V.erase,aZ,dc,this]
def zr(w:List UInt8)(Z:ab)(i:Nat):St:=⟨[.aH w,.any,.any,.any,.int .i64 (i:Nat)]++aj 14 .any,[],Z⟩
def amZ(w:List UInt8)(hg:Z.cQ 0=U il):aT 47 [.aH w] Z (.int .i64 (rO w)):=by
 generalize hR:rO w=R;unfold rO at hR;refine ahT.aP ?_;simp only[aO,am,aX,Nat.reduceAdd];refine dP (λp:{p:Nat × Nat // vd w p.1 p.2=R/\p.2+p.1=16}=>zr w Z p.1.2) (λp=>p.1.1) ?_ ?_
 .refine a7.enter ⟨(16,0),hR,rfl⟩ ?_ bV.rfl br.rfl;simp[zr,aj,am]
 .rintro⟨⟨n,i⟩,hR,hs⟩;simp only at hR hs;simp only[zr,aj,am]
  by_cases an:i<16
  .obtain⟨m,rfl⟩:∃m,n=m+1:=⟨n - 1,by omega⟩;simp only[vd] at hR;have wi:IntKind.i64.wrap ((i:Int)+1)=((i+1:Nat):Int):=by rw[wrap_i64];simp
   have hf:dc (i:Nat)=iO.getD i ([],[]):=by simp only[dc];rw[aI (by omega)];simp
   have again:∀(t:List V),vd w m (i+1)=R->c_ t (zr w Z (i+1)).t->a7 ⟨t,[],Z⟩ λaU => ∃j:{p:Nat × Nat // vd w p.1 p.2=R/\p.2+p.1=16},aU = zr w Z j.1.2/\j.1.1<m+1:=λt h ht =>
    a7.again (I:=λp:{p:Nat × Nat // vd w p.1 p.2=R/\p.2+p.1=16}=>zr w Z p.1.2) (μ:=λp=>p.1.1) ⟨(m,i+1),h,by simp only;omega⟩ (by simp) ht bV.rfl br.rfl
   simp only[am,aB (show(i:Int)<16 by omega)]
   by_cases h0:0<i
   .simp only[am,cG,aB (show(0:Int)<i by omega)];refine i_ ?_;simp only[am,hg,SG an,gK]
    by_cases hw:(iO.getD i ([],[])).1=w
    .rw[aI ⟨h0,by rw[hf];exact hw⟩] at hR;simp only[am,aB hw];refine aC ?_;simp[V.erase,hR]
    .rw[aw (by rw[hf];exact λh=>hw h.2)] at hR;simp only[am,az hw,wi];exact again _ hR (by simp[zr,aj,am])
   .rw[aw (by simp[h0])] at hR;simp only[am,az (show ¬(0:Int)<i by omega),wi];exact again _ hR (by simp[zr,aj,am])
  .obtain rfl:n=0:=by omega
   simp only[vd] at hR;simp only[am,az (show ¬(i:Int)<16 by omega)];refine aC ?_;simp[V.erase,hR]
def aeF:aR prog 105 (sq [rg 6 [om 0,oc 103 [.s 6,.c (.int .u8 123)],oZ 2 [3,1,0,10,0],o2 5 2],rg 8 [om 0,of 0 2,nF 2,ok 8,nf 5,nf 6,os 1 14 11],sq [rg 15 [mk 0,nf 3,nF 0,nB .neq 0,gB,fo 3 2,nL,nB .eql 0,gZ],ci 26 .ret],rg 27 [fo 3 2,fo 4 2,oW [10,0,0,0,0,0,0,1,0,7,9,0,0,0,1,7,10,0,0,1,7,10] [(0,1,28),(2,1,30)],oq (.gY 22 (.s 31)),o1 3],bl 0 (sq [sq [rg 33 [mk 3,nf 3,nF 0,nB .eql 0],cx 38 0],.block 1 (sq [rg 39 [om 3,oC 46 [39],oZ 4 [1,0],o2 2 4],rg 41 [om 3,oc 103 [.s 41,.c (.int .u8 60)]],rg 43 [om 3,oC 46 [43],oZ 5 [1,0],o2 2 5],dg 45 [om 0,mk 0,nf 5,nF 5,ol 2 4,ol 2 5,oW [1,0,1,0] [(0,2,51),(2,2,52)],n1 4,na 4 50,ok 45,nf 5,nf 5,os 1 58 55],sq [dg 59 [mk 3,nF 1,mk 3,nF 0,nL,nb .eql 62],ci 68 (.exit 0)],rg 69 [om 3,oc 103 [.s 69,.c (.int .u8 44)]]])]),.kK (rg 71 [mk 3,nf 3,nF 0,nB .neq 0]),ci 76 (rg 77 [om 0,mk 3,nf 3,nl 2,ok 77,nf 3,os 2 83 81])]) [] 84:=aS func105 ⟨[32],[11]⟩
def asU{r:ag}:((r.take k).1.ae.length:Int)<=bE r.l:=by
 have:=(r.wU k).1
 have:=gj (r.take k).1.ae
 omega
def Yd(r:ag):lN r r.word.2:=y6 r
def fZ:List V:=[.int .i64 0,.int .i64 0,.aH [],.int .i64 0,.sl .a9 2 [],.sl .a9 4 [],.int .i64 0,.int .i64 0,.int .i64 0,.aH [],.sl .a9 2 [],.sl .a9 5 [],.int .i64 0,.int .i64 0,.aH [],.sl .a9 2 [],.sl .a9 5 []]
def aon{σ':ab}(h:Z=σ'):br Z σ' := h▸br.rfl
structure GH where
 n:Nat
 i:ag
 acc:List (aF × aF)
 D:Nat
def qV(Z:ab)(r q D:Nat)(i rd:ag)(c:aL)(acc:List (aF × aF)):ab:=((Z.set q (i.enc++fZ)).set r (rd.enc++c.cz (.sl (.tk D) 4 (acc.map dR)))).ba D acc.length
section
variable {Z:ab} {r q D:Nat} {i i' rd:ag} {c:aL} {acc:List (aF × aF)}
def DA(h:q≠r):(qV Z r q D i rd c acc).box q=U (i.enc++fZ):=by simp[qV,ab.ba,ab.set,h]
def VM:(qV Z r q D i rd c acc).box r=U (rd.enc++c.cz (.sl (.tk D) 4 (acc.map dR))):=by simp[qV,ab.ba,ab.set]
def ao1:(qV Z r q D i rd c acc).aY D=U acc.length:=by simp[qV,ab.ba]
def Iz(h:q≠r):(qV Z r q D i rd c acc).set q (i'.enc++fZ)=qV Z r q D i' rd c acc:=by
 have:((Z.set q (i.enc++fZ)).set r (rd.enc++c.cz (.sl (.tk D) 4 (acc.map dR)))).set q (i'.enc++fZ)=(Z.set q (i'.enc++fZ)).set r (rd.enc++c.cz (.sl (.tk D) 4 (acc.map dR))):=by rw[ab.set_comm (fL h),ab.set_set]
 show(((Z.set q (i.enc++fZ)).set r (rd.enc++c.cz (.sl (.tk D) 4 (acc.map dR)))).set q (i'.enc++fZ)).ba D acc.length=_;rw[this];rfl
theorem abZ:bX aq 1 ((rd.enc++c.cz pc).drop 10)=U pc:=rfl
theorem ab4{x:V}:setAt (rd.enc++c.cz pc) 10 [x]=rd.enc++c.cz x:=rfl
theorem abX:cB 1 ((rd.enc++c.cz pc).drop 10)=true:=rfl
theorem abY:bX aq 1 (rd.enc++cs)=U (.sl .no 5 (cm rd.l)):=rfl
theorem abP:bX aq 1 ((rd.enc++cs).drop 1)=U (.int .i64 rd.at_):=rfl
theorem abS:bX aq 1 ((rd.enc++cs).drop 2)=U (.int .i64 rd.fin):=rfl
theorem abQ:bX aq 1 ((rd.enc++cs).drop 3)=U (.int .i64 (dn rd.aQ)):=rfl
theorem abR:takeN 2 ((rd.enc++cs).drop 3)=U [.int .i64 (dn rd.aQ),.int .i64 (fB rd.aQ)]:=rfl
theorem abU:cB 2 ((rd.enc++cs).drop 3)=true:=rfl
variable{b:Option Int}
def ab1:setAt (rd.enc++cs) 3 [.int .i64 (dn b),.int .i64 (fB b)]=({rd with aQ:=b}:ag).enc++cs:=by cases cs<;>rfl
def lX:=af @abZ <| af @ab4 <| af @abX <| af @abY <| af @abP <| af @abS <| af @abQ <| af @abR <| af @abU @ab1
variable{p:aF × aF}
def ao0(hn:n=acc.length+1):((qV Z r q D i rd c acc).ba D n).set r (rd.enc++c.cz (.sl (.tk D) 4 (acc.map dR++[dR p])))=qV Z r q D i rd c (acc++[p]):=by
 subst hn;unfold qV;rw[bW,da,cZ,jf,dz,eQ];show((((Z.set q (i.enc++fZ)).set r (rd.enc++c.cz (.sl (.tk D) 4 (acc.map dR)))).set r (rd.enc++c.cz (.sl (.tk D) 4 (acc.map dR++[dR p])))).ba D acc.length).ba D (acc.length+1)=_;rw[ab.set_set,eJ]
end
def ab.O7{σ':ab}{X:List V}(h:Z.sub σ'):(Z.set r X).sub (σ'.set r X):=by
 refine⟨λb cs hb=>?_,h.2⟩;simp only[ab.set] at hb ⊢
 by_cases e:b=r
 .rw[aI e] at hb ⊢;exact hb
 .rw[aw e] at hb ⊢;exact h.1 b cs hb
def yL(r q:Nat):List V:=[.ptr (.out r) 0,.any,.any,.ptr (.out q) 0]++aj 80 .any
variable{acc:List (aF × aF)}
def VS{q D:Nat}{i:ag}{t:List V}{l:List (List V)}{K:St->Prop}(a_:Z.aY D=ah)(ht:c_ t (yL r q))
 (hK:K ⟨yL r q,[],(Z.set q (i.enc++fZ)).set r (rd.enc++c.cz (.sl .no 4 (acc.map dR)))⟩):a7 ⟨t,l,qV Z r q D i rd c acc⟩ K:=by
 refine a7.Cz (l' := []) ht (by simp[bV]) ?_ (by simp[yL,aj,bK,V.lo]) rfl hK;refine⟨λb cs' hb=>?_,λO m hm=>?_,λ_ _ h=>h⟩
 .simp only[qV,ab.ba,ab.set] at hb ⊢;split at hb
  .rename_i h;subst h;simp only[bg] at hb;subst hb;exact⟨_,by rw[aI rfl],by simp[ag.enc,aL.cz,am]⟩
  .rename_i h;exact⟨cs',by rw[aw h];exact hb,c_.rfl⟩
 .have hm:Z.aY O=U m:=hm;have bh:O≠D:=by rintro rfl;rw[a_] at hm;simp at hm
  simp only[qV,ab.ba,ab.set,aw bh];exact hm
def DB{i:ag}(h:i.aQ≠ah):ag.kA n i acc=(i,acc):=by
 cases n<;>simp[ag.kA,h]
variable{ps:List (aF × aF)}
def Od(h:ps≠[]):rR ps = .sl .no 4 (ps.map dR):=by cases ps with | nil=>exact absurd rfl h | cons _ _=>rfl
def xX(Z:ab)(r q:Nat)(rd:ag)(c:aL)(p:GH):St :=
 ⟨[.ptr (.out r) 0,.any,.any,.ptr (.out q) 0]++aj 80 .any,[],qV Z r q p.D p.i rd c p.acc⟩
def Qq(t:aA)(Z:ab)(R:ag × List (aF × aF))(p:GH):Prop :=
 ag.kA p.n p.i p.acc=R/\p.i.l=t.ae/\0<=p.i.at_/\p.i.at_<=p.i.l.length/\(p.i.aQ=ah->(t.ae.length:Int)+1<=p.i.at_+p.n)/\(p.acc.length:Int)<=p.i.at_+1/\(p.i.aQ=ah->(p.acc.length:Int)<=p.i.at_)/\Z.aY p.D=ah/\(p.i.aQ=ah\/p.acc≠[])
def ao6(h:Z.box r=U (rd.enc++c.cz (.sl .a9 4 [])))(hc:c.a8=[])(h0:0<=rd.at_)(hm:bE rd.l+1<=aJ):
 d_ 105 [.ptr (.out r) 0] Z (.bz []) (Z.set r ((ug rd c).1.enc++(ug rd c).2.cz (rR (ug rd c).2.a8))):=by
 have hlen:=gj rd.l;refine aeF.aP ?_;simp only[aO,am,aX,Nat.reduceAdd];refine(G_ h h0 (by omega)).mono ?_;rintro v σ' ⟨rfl,rfl⟩;have fp:=asU (r:=rd) (k:=123);have HT:ug rd c=if (rd.take 123).2.aQ≠ah\/(rd.take 123).1.ae.length=0 then((rd.take 123).2,{c with rQ:=(rd.take 123).1.tok.pos})
  else((rd.take 123).2.yO ((rd.take 123).1.inner.kA ((rd.take 123).1.ae.length+1) []).1.aQ,{c with rQ:=(rd.take 123).1.tok.pos,a8:=((rd.take 123).1.inner.kA ((rd.take 123).1.ae.length+1) []).2}):=rfl
 rw[HT];generalize (rd.take 123).1=t at fp ⊢;generalize (rd.take 123).2=r1;simp only[am,Nat.reduceAdd,aA.ak,aA.fl,ag.enc,aL.cz];cases hb:r1.aQ with
 | some b =>
  simp only[am,c9,Int.reduceEq,dn];refine aN rfl (ab.bc _) ⟨rfl,?_⟩;simp[hc,rR,hb]
 | none =>
  simp only[am,dK,bL,dn,aA.fl]
  by_cases hk:t.ae.length=0
  .simp only[am,aB (show(t.ae.length:Int)=0 by omega)];refine aN rfl (ab.bc _) ⟨rfl,?_⟩;simp[hc,rR,hb,hk]
  .simp only[am,Nat.reduceAdd,az (show ¬(t.ae.length:Int)=0 by omega),aA.fl];refine kx λq hq=>?_
   have kV:q≠r:=by rintro rfl;simp[ab.set] at hq
   have Mk:Z.box q=none:=by simpa [ab.set,kV] using hq
   generalize hR:ag.kA (t.ae.length+1) t.inner []=R;rw[aw (by simp[hk])];have eP:t.inner=(⟨t.ae,0,t.fin,ah⟩:ag):=rfl;generalize HB:({c with rQ:=t.tok.pos}:aL)=c1;have e1:∀A B,(Z.set r A).set q B=(Z.set q B).set r A:=λA B=>ab.set_comm (fL kV)
   rw[e1];refine dP (λp:{p:GH // Qq t Z R p}=>xX Z r q r1 c1 p.1) (λp=>p.1.n) ?_ ?_
   .refine(a7.Cz (t' := (xX Z r q r1 c1 ⟨0,t.inner,[],0⟩).t) (l' := []) (σ' := (Z.set q (t.inner.enc++fZ)).set r (r1.enc++c1.cz (.sl .a9 4 []))) ?_ trivial ?_ (by simp[xX,aj,bK,V.lo]) rfl rfl).bind ?_
    .simp[xX,aj,am]
    .refine aon ?_;simp[ag.enc,aL.cz,fZ,<-HB,eP,hb,dn,fB];rfl
    .rintro _ rfl;refine a7.tok 0 λD a_=>⟨_,[],(Z.set q (t.inner.enc++fZ)).set r (r1.enc++c1.cz (.sl (.tk D) 4 [])),fm.rfl,rfl,by simp,?_,⟨⟨t.ae.length+1,t.inner,[],D⟩,?_⟩,?_⟩
     .have:=se.set (Z:=(Z.set q (t.inner.enc++fZ)).set r (r1.enc++c1.cz (.sl .a9 4 []))) (b:=r) (D:=D) (n:=0) (cs' := r1.enc++c1.cz (.sl (.tk D) 4 [])) (ab.eY _ _ _) (by simp[ag.enc,aL.cz,jG])
      rwa [ab.set_set] at this
     .exact⟨hR,rfl,by simp[eP],by simp[eP],λ_=>by simp[eP],by simp[eP],λ_=>by simp[eP],a_,.inl rfl⟩
     .rfl
   .rintro⟨⟨n,i,acc,D⟩,hR,hl,CZ,sH,hn,ha1,y8,a_,bh⟩;simp only at hR hl CZ sH hn ha1 y8 a_ bh;simp only[xX,aj,am,DA kV,lX];have im : i.l.length=t.ae.length:=by rw[hl]
    have zk:i.l.length<=aJ:=by rw[hl];omega
    cases bZ:i.aQ with
    | some b =>
     simp only[am,c9,Int.reduceEq,dn];rw[DB (by simp[bZ])] at hR;have Lt:acc≠[]:=by rcases bh with h | h;rw[bZ] at h;simp at h;exact h
     refine VS a_ (by simp[yL,aj,am]) ?_;have xD:∀B,((Z.set q (i.enc++fZ)).set r B).box q=U (i.enc++fZ):=λB=>by simp[ab.set,kV]
     have we:∀A B,((Z.set q A).set r B).box r=U B:=λA B=>by simp[ab.set]
     simp only[yL,aj,am,xD,lX,bZ,dn];simp only[am,Nat.reduceAdd,c9,Int.reduceEq,xD,lX,bZ,dn];refine aN rfl (ab.O7 (iS Mk)) ⟨rfl,?_⟩;simp[<-hR,ag.yO,bZ,Od Lt,<-HB,ag.enc,aL.cz,dn,fB];rfl
    | none =>
     have y8:=y8 bZ;have hn:=hn bZ;obtain⟨m,rfl⟩:∃m,n=m+1:=⟨n - 1,by omega⟩;simp only[ag.kA,bZ,rN,BE,ch] at hR;simp only[am,bL,dn];refine(Es (DA kV) CZ zk).mono ?_;rintro v σ' ⟨rfl,rfl⟩;rw[Iz kV];obtain⟨g1,g2⟩:=Yd i;have g2:=g2 CZ sH;have e1:i.word.2.l.length=i.l.length:=by rw[g1]
     generalize i.word.2=i1 at *;generalize i.word.1=lo at *;simp only[am,aF.ak];refine(G_ (DA kV) (by omega) (by rw[g1];exact zk)).mono ?_;rintro v σ' ⟨rfl,rfl⟩;rw[Iz kV];obtain⟨g3,g4⟩:=uM i1 60;have g4:=g4 (by omega) (by omega);have e2:(i1.take 60).2.l.length=i1.l.length:=by rw[g3]
     generalize (i1.take 60).2=i2 at *;simp only[am];refine(Es (DA kV) (by omega) (by rw[g3,g1];exact zk)).mono ?_;rintro v σ' ⟨rfl,rfl⟩;rw[Iz kV];obtain⟨g5,g6⟩:=Yd i2;have g6:=g6 (by omega) (by omega);have e3:i2.word.2.l.length=i2.l.length:=by rw[g5]
     generalize i2.word.2=i3 at *;generalize i2.word.1=hi at *;simp only[am,Nat.reduceAdd,VM,lX,aF.enc];refine vS (by simp[aJ] at hm ⊢;omega) (by rw[aD];exact ao1) ?_;simp only[am,Nat.reduceAdd,aD,VM,lX];rw[show [V.aH lo.ar,V.int .i64 lo.pos,.aH hi.ar,.int .i64 hi.pos]=dR (lo,hi) from rfl,ao0 rfl];simp only[am,dK,DA kV,lX];have uW:acc++[(lo,hi)]≠[]:=by simp
     by_cases dD:i3.at_=i.l.length
     .rw[aI dD] at hR;simp only[am,Nat.reduceEqDiff,aB (show i3.at_=(i3.l.length:Int) by omega)];refine VS a_ (by simp[yL,aj,am]) ?_;have xD:∀B,((Z.set q (i3.enc++fZ)).set r B).box q=U (i3.enc++fZ):=λB=>by simp[ab.set,kV]
      have we:∀A B,((Z.set q A).set r B).box r=U B:=λA B=>by simp[ab.set]
      cases sF:i3.aQ with
      | none =>
       simp only[yL,aj,am,xD,lX,sF,dn];simp only[am,bL];refine aN rfl (ab.O7 (iS Mk)) ⟨rfl,?_⟩;simp[<-hR,ag.yO,sF,Od uW,<-HB,hb,ag.enc,aL.cz,dn,fB]
      | some b =>
       simp only[yL,aj,am,xD,lX,sF,dn];simp only[am,Nat.reduceAdd,c9,Int.reduceEq,xD,lX,sF,dn];refine aN rfl (ab.O7 (iS Mk)) ⟨rfl,?_⟩;simp[<-hR,ag.yO,sF,Od uW,<-HB,ag.enc,aL.cz,dn,fB];rfl
     .rw[aw dD] at hR;simp only[am,az (show ¬i3.at_=(i3.l.length:Int) by omega)];refine(G_ (DA kV) (by omega) (by omega)).mono ?_;rintro v σ' ⟨rfl,rfl⟩;rw[Iz kV];obtain⟨g7,g8⟩:=uM i3 44;have g8:=g8 (by omega) (by omega);have e4:(i3.take 44).2.l.length=i3.l.length:=by rw[g7]
      generalize (i3.take 44).2=i4 at *;simp only[am];refine a7.lT (I:=λp:{p:GH // Qq t Z R p}=>xX Z r q r1 c1 p.1) (μ:=λp=>p.1.n) ⟨⟨m,i4,acc++[(lo,hi)],D⟩,hR,by rw[<-hl,g7,g5,g3,g1],by simp only;omega,by simp only;omega,λxC=>?_,?_,λxC=>?_,a_,.inr uW⟩ (by simp) (by simp[xX,aj,am]) (by simp[bV,xX]) br.rfl (by simp[xX,aj,bK,V.lo]) rfl
      .have:=g8.2.2 xC;simp only;omega
      .simp;omega
      .have:=g8.2.2 xC;simp;omega
def SB:aR prog 48 (sq [sq [rg 6 [mk 0,nf 3,nF 0,nB .neq 0],ci 11 .ret],rg 12 [om 1],.block 0 (sq [rg 14 [oq (.dV .eql (.s 12) (.c (.int .i32 110))),o1 13],cd 13 (rg 15 [om 0,om 0,oC 46 [16],ok 15,nf 5,nf 2,os 2 20 17]) (sq [rg 22 [oq (.dV .eql (.s 12) (.c (.int .i32 102))),o1 21],cd 21 (rg 23 [om 0,om 0,oC 46 [24],n1 2,ok 23,nf 5,nf 4,os 1 29 26]) (sq [rg 31 [oq (.dV .eql (.s 12) (.c (.int .i32 119))),o1 30],cd 30 (sq [dA 33 [5] [mk 0,nF 0,mk 0,nF 1,mk 0,nF 2,oC 104 [36,40,44],o1 32,oe 32 0,oe 32 1,oN,ot 4 46,oX 5 2 47],dg 48 [om 0,om 0,om 4,mM [1],ol 2 5,ok 48,nf 5,nf 4,os 1 54 50,ok 49,nf 3,os 2 56 51],rg 57 [mk 0,nF 1,nB .add 1,ok 57,nf 1,os 1 63 61]]) (sq [rg 65 [oq (.dV .eql (.s 12) (.c (.int .i32 112))),o1 64],cd 64 (rg 66 [om 0,oC 105 [66]]) (sq [rg 69 [oq (.dV .eql (.s 12) (.c (.int .i32 116))),o1 68],cd 68 (dg 70 [om 0,mk 0,nF 0,mk 0,nF 1,mk 0,nF 2,oC 107 [74,78,82],oe 83 0,oe 83 1,oe 83 2,oC 106 [70,84,85,86]]) (sq [rg 89 [oq (.dV .eql (.s 12) (.c (.int .i32 114))),o1 88],ci 88 (dg 90 [om 0,mk 0,nF 0,mk 0,nF 1,mk 0,nF 2,oC 108 [94,98,102],oe 103 0,oe 103 1,oe 103 2,oC 106 [90,104,105,106]])])])])])])])]) [] 108:=aS func48
variable{b:Option Int}
theorem Sf:(jm b).cM=true:=rfl
section
variable {rd:ag} {c:aL} {pc:V} {cs:List V}
variable{w:aF}
theorem ab2:setAt (rd.enc++c.cz pc) 7 w.enc=rd.enc++({c with name:=w}:aL).cz pc:=rfl
theorem abV:cB 2 ((rd.enc++c.cz pc).drop 7)=true:=rfl
theorem ab3{ws:List aF}:setAt (rd.enc++c.cz pc) 9 [.sl .no 2 (ws.map aF.enc)]=rd.enc++({c with al:=ws}:aL).cz pc:=rfl
theorem abW:cB 1 ((rd.enc++c.cz pc).drop 9)=true:=rfl
def ab0{n:Int}:setAt (rd.enc++cs) 1 [.int .i64 n]=({rd with at_:=n}:ag).enc++cs:=by cases cs<;>rfl
theorem abT:cB 1 ((rd.enc++cs).drop 1)=true:=rfl
def Kv:=af @ab2 <| af @abV <| af @ab3 <| af @abW <| af @ab0 @abT
end
def ao7(h:Z.box r=U (rd.enc++c.cz pc))(hb:rd.aQ=ah)(h0:0<=rd.at_)(hlen:rd.l.length<=aJ):
 d_ 48 [.ptr (.out r) 0,.int .i32 102] Z (.bz []) (Z.set r (rd.word.2.enc++({c with al:=[rd.word.1]}:aL).cz pc)):=by
 refine cF.le (S:=Z.set r (setAt (rd.word.2.enc++c.cz pc) 9 [.sl .a9 2 [rd.word.1.enc]])) ?_ (br.set ?_)
 .refine SB.aP ?_;simp only[aO,am,aX,Nat.reduceAdd];simp only[am,bL,c9,Int.reduceEq,h,lX,hb,dn];refine(Es h h0 hlen).mono ?_;rintro v σ' ⟨rfl,rfl⟩;simp only[am,Nat.reduceAdd,aF.ak,Kv];refine aN rfl (ab.bc _) ⟨rfl,rfl⟩
 .show c_ ([V.sl .no 5 (cm rd.word.2.l),.int .i64 rd.word.2.at_,.int .i64 rd.word.2.fin,.int .i64 (dn rd.word.2.aQ),.int .i64 (fB rd.word.2.aQ)]++_) ([V.sl .no 5 (cm rd.word.2.l),.int .i64 rd.word.2.at_,.int .i64 rd.word.2.fin,.int .i64 (dn rd.word.2.aQ),.int .i64 (fB rd.word.2.aQ)]++_);simp[am,aL.cz]
def ao'{x:ag × aL}{k:UInt8}(h:Z.box r=U (x.1.enc++x.2.cz pc))(hp:k=112->pc = .sl .a9 4 []/\x.2.a8=[])(h0:0<=x.1.at_)(hm:bE x.1.l+1<=aJ)(ha:x.1.at_<=aJ):
 d_ 48 [.ptr (.out r) 0,.int .i32 (k.toNat:Nat)] Z (.bz []) (Z.set r ((iC k x).1.enc++(iC k x).2.cz (if k=112/\x.1.aQ=ah then rR (iC k x).2.a8 else pc))):=by
 obtain⟨rd,c⟩:=x;simp only at h hp h0 hm ha;have hlen:=gj rd.l;have ey:∀n:UInt8,((k.toNat:Nat):Int)=(n.toNat:Nat)↔k=n:=λn=>by
  constructor
  .intro h;exact Eg.1 (by omega)
  .rintro rfl;rfl
 by_cases k2:k=102/\rd.aQ=ah
 .obtain⟨k2,hb⟩:=k2;subst k2
  have:=ao7 h hb h0 (by omega)
  simpa [iC,hb] using this
 refine SB.aP ?_;simp only[aO,am,aX,Nat.reduceAdd];simp only[am,h,lX];cases hb:rd.aQ with
 | some b =>
  simp only[am,c9,Int.reduceEq,dn];refine aN rfl (ab.bc _) ⟨rfl,?_⟩;rw[show iC k (rd,c)=(rd,c) by simp[iC,hb],aw (by simp)];exact(ab.zS h).symm
 | none =>
  have k2:¬k=102:=λh=>k2 ⟨h,hb⟩
  simp only[am,bL,dn];have n7:iC k (rd,c)=if k=110 then(rd.word.2,{c with name:=rd.word.1})
   else if k=119 then({rd with aQ:=(pw rd.l rd.at_ rd.fin).2,at_:=rd.at_+1},{c with al:=(pw rd.l rd.at_ rd.fin).1})
   else if k=112 then ug rd c
   else if k=116 then o9 rd c (iR (ag.label (bE rd.l)) rd.l rd.at_ rd.fin)
   else if k=114 then o9 rd c (iR (ag.row (bE rd.l)) rd.l rd.at_ rd.fin)
   else(rd,c):=by simp[iC,hb,k2]
  have tB:((k.toNat:Nat):Int)=110↔k=110:=ey 110;have tA:((k.toNat:Nat):Int)=102↔k=102:=ey 102;have uJ:((k.toNat:Nat):Int)=119↔k=119:=ey 119;have uI:((k.toNat:Nat):Int)=112↔k=112:=ey 112;have RN:((k.toNat:Nat):Int)=116↔k=116:=ey 116;have Eu:((k.toNat:Nat):Int)=114↔k=114:=ey 114
  by_cases k1:k=110
  .rw[aI k1] at n7;simp only[am,aB (tB.2 k1)];refine(Es h h0 (by omega)).mono ?_;rintro v σ' ⟨rfl,rfl⟩;simp only[am,Nat.reduceAdd,aF.ak,Kv];refine aN rfl (ab.bc _) ⟨rfl,?_⟩;rw[n7,aw (by simp[k1])]
  rw[aw k1] at n7;simp only[am,az (λh=>k1 (tB.1 h))];simp only[am,az (λh=>k2 (tA.1 h))]
  by_cases k3:k=119
  .rw[aI k3] at n7;simp only[am,Nat.reduceAdd,bL,Nat.reduceLT,aB (uJ.2 k3),h,lX];refine bA.intro (Y_ hm) ?_;rw[n7,aw (by simp[k3])];generalize pw rd.l rd.at_ rd.fin=o;have w1:IntKind.i64.wrap (rd.at_+1)=rd.at_+1:=by simp only[aJ] at ha;exact wrap_i64 (by omega) (by omega)
   simp only[am,Nat.reduceAdd,jm,h,lX,Kv,w1];exact aN rfl (ab.bc _) ⟨rfl,rfl⟩
  rw[aw k3] at n7;simp only[am,az (λh=>k3 (uJ.1 h))]
  by_cases k4:k=112
  .rw[aI k4] at n7;obtain⟨rfl,hc⟩:=hp k4;simp only[am,aB (uI.2 k4)];refine(ao6 h hc h0 hm).mono ?_;rintro v σ' ⟨rfl,rfl⟩;simp only[am];refine aN rfl (ab.bc _) ⟨rfl,?_⟩;rw[n7,aI k4]
  rw[aw k4] at n7;simp only[am,az (λh=>k4 (uI.1 h))]
  by_cases k5:k=116
  .rw[aI k5] at n7;simp only[am,aB (RN.2 k5),h,lX];refine bA.intro (YP (b7 _) hm) ?_;rw[n7,aw (by simp[k4])];generalize iR (ag.label (bE rd.l)) rd.l rd.at_ rd.fin=g;simp only[am,Nd.ak,Sf];refine bA.intro (Rj h hb) ?_;simp only[am];refine aN rfl (ab.bc _) ⟨rfl,rfl⟩
  rw[aw k5] at n7;simp only[am,az (λh=>k5 (RN.1 h))]
  by_cases k6:k=114
  .rw[aI k6] at n7;simp only[am,aB (Eu.2 k6),h,lX];refine bA.intro (Y7 (b7 _) hm) ?_;rw[n7,aw (by simp[k4])];generalize iR (ag.row (bE rd.l)) rd.l rd.at_ rd.fin=g;simp only[am,Nd.ak,Sf];refine bA.intro (Rj h hb) ?_;simp only[am];refine aN rfl (ab.bc _) ⟨rfl,rfl⟩
  rw[aw k6] at n7;simp only[am,az (λh=>k6 (Eu.1 h))];refine aN rfl (ab.bc _) ⟨rfl,?_⟩;rw[n7,aw (by simp[k4])];exact(ab.zS h).symm
def afV:aR prog 18 (sq [rg 0 [oZ 2 [0,0,1,0,7,9,0,0,0,1,7,10,0,0,1,7,10],oZ 3 [0,0]],rg 12 [om 0,oC 44 [12],o1 11,oe 11 0,oe 11 1,oZ 5 [0,0],ot 4 14,o2 2 5],sq [rg 16 [fo 0 5,nB .neq 0],ci 18 (sq [dg 19 [oW [0,0,1,0,7,9,0,0,0,1,7,10,0,0,1,7,10] [],mM [1],ol 2 5,os 17 2 19,o2 2 3],.ret])],rg 22 [om 4,oC 45 [22],o1 21,oe 21 0,oe 21 1,ot 6 24,o2 2 5],sq [rg 26 [fo 0 5,nB .neq 0,gB,om 6,nL,nB .eql 0,gZ],ci 33 (sq [dg 34 [oW [0,0,1,0,7,9,0,0,0,1,7,10,0,0,1,7,10] [],mM [1],ol 2 5,os 17 2 34,o2 2 3],.ret])],rg 36 [om 6,om 0,nT,oW [10,0,0,0,0,0,0,1,0,7,9,0,0,0,1,7,10,0,0,1,7,10] [(0,1,36),(2,1,38)],oq (.gY 22 (.s 39)),o1 7],rg 41 [om 7,oC 46 [41],oZ 8 [1,0],o2 2 8],dg 43 [om 7,fo 0 8,oC 47 [45],of 1 8,mM [0],no,oW [0,0,1,0,7,9,0,0,0,1,7,10,0,0,1,7,10] [(0,1,46),(1,1,48)],ok 43,nf 5,os 17 51 49],sq [rg 52 [mk 7,nf 5,nF 0,nB .eql 0],ci 57 (sq [dg 58 [oW [0,0,1,0,7,9,0,0,0,1,7,10,0,0,1,7,10] [],om 6,nI 5 0,nf 0,nf 2,mM [1],no,oG [0,0] [(0,1,.c (.int .i64 2)),(1,1,.s 63)],os 17 2 58,o2 2 3],.ret])],.DG (rS 65 [mk 7,nf 5,nF 0,oC 35 [69],ow 1 70]) (.s 71) 72 73 74 0 1 (sq [rg 75 [oe 73 2,o1 10],rg 76 [om 7,om 10,oC 48 [76,77]]]),sq [rg 79 [mk 7,nf 3,nF 0,nB .eql 0,gA,mk 7,nF 1,om 6,nL,nb .lss 89,gZ],ci 93 (rg 94 [om 7,oC 49 [94]])],sq [rg 96 [mk 7,nf 3,nF 0,nB .neq 0],ci 101 (sq [dg 102 [oW [0,0,1,0,7,9,0,0,0,1,7,10,0,0,1,7,10] [],mk 7,nf 3,mM [1],nl 2,os 17 2 102,o2 2 3],.ret])],rg 107 [mk 7,nf 5,nl 17,oW [0,0] [],os 17 2 110,o2 2 3],.ret]) [.cell 2 aa 17,.cell 3 aa 2] 112:=aS func18 ⟨[40],[]⟩
def ED(f:Int × Int):V:=.agg [.int .i64 f.1,.int .i64 f.2]
def Ar(s:List UInt8)(L:List aA)(b r:Nat):List V:=[.aH s,.any,.ptr (.au 0) 0,.ptr (.au 1) 0,.any,.any,.sl .no 5 (cm L),.ptr (.out r) 0]++aj 64 .any++[.raw (.pointer (U ⟨b,0,ah⟩))]++aj 39 .any
def apg:(rR ps).erase = .sl .no 4 (ps.map dR):=by cases ps<;>rfl
theorem abO:takeN 17 ((rd.enc++c.cz pc).drop 5)=U (c.cz pc):=rfl
theorem aa5:(c.cz pc).length=17:=rfl
def aa7:c8 (c.cz (rR ps))=true:=by cases ps<;>rfl
theorem aa8{z0 z1 z2 z3 z4 z5 z6 z7 z8 z9 PI PJ PK PL PM PN PO:V}:over [z0,z1,z2,z3,z4,z5,z6,z7,z8,z9,PI,PJ,PK,PL,PM,PN,PO] (c.cz pc)=c.cz pc:=rfl
theorem aa9:takeN 17 (c.cz pc)=U (c.cz pc):=rfl
def aa6:bS (c.cz (rR ps))=true:=by cases ps<;>rfl
def aa4:aZ (c.cz (rR c.a8))=c.enc:=by simp only[aL.enc,aL.cz,aZ,apg];rfl
def ce:=af @aa5 <| af @aa7 <| af @aa8 @aa9
def vC:List (List V):=[fZ,[.int .i64 0,.int .i64 0]]
def ab6(s:List UInt8)(hg:Z.cQ 0=U il)(hb:s.length+1<=aJ)(hm:bE (gW (fI s).1 [] []).1+8<=aJ):
 aT 18 [.aH s] Z (.bz [.agg (ij s).1.enc,ED (ij s).2]):=by
 have TK:=Nw s;refine afV.aP ?_;simp only[aO,am,aX,Nat.reduceAdd];refine cl (alY s Z hb) ?_;generalize hR:ij s=R;unfold ij at hR;simp only[am,Nat.reduceAdd,vU];cases hl:(fI s).2 with
 | some a =>
  rw[hl] at hR;simp only[am,Nat.reduceAdd,c9,Int.reduceEq];refine aN rfl (ab.bc _) ⟨?_,rfl⟩;rw[<-hR];rfl
 | none =>
  rw[hl] at hR;simp only[am,bL];refine cl (as8 (fI s).1 Z (by omega)) ?_;simp only[am,Nat.reduceAdd,jm];simp only at hR;cases ht:(gW (fI s).1 [] []).2 with
  | some a =>
   rw[ht] at hR;simp only[am,Nat.reduceAdd,c9,Int.reduceEq,dn];refine aN rfl (ab.bc _) ⟨?_,rfl⟩;rw[<-hR];rfl
  | none =>
   rw[ht] at hR;simp only at hR;simp only[am,dK,bL,dn];generalize (gW (fI s).1 [] []).1=l at hm hR ⊢;have hlen:=gj l;cases l with
   | nil =>
    simp only[am,Nat.reduceAdd,bL,cZ,show(((0:Nat):Int)=0)=True by simp];refine aN rfl (ab.bc _) ⟨?_,rfl⟩;rw[<-hR];rfl
   | cons t ts =>
    generalize hL:t::ts=L at *;have bh:¬(L.length:Int)=0:=by rw[<-hL];simp;omega
    simp only[am,Nat.reduceAdd,az bh];refine kx λr hr=>?_
    have tI : ∀X,(Z.set r X).cQ 0=U il:=λX=>hg
    have cL : ∀X,(Z.set r X).box r=U X:=λX=>ab.eY _ _ _
    simp only[am];change cF prog 46 [.ptr (.out r) 0] (Z.set r ((⟨L,0,s.length,ah⟩:ag).enc++fZ)) _;have HD:Ct L s.length=if rO (⟨L,0,s.length,ah⟩:ag).word.1.ar=0 then(.zero,2,t.tok.pos)
     else AF (lJ (dc (rO (⟨L,0,s.length,ah⟩:ag).word.1.ar)).2 ((⟨L,0,s.length,ah⟩:ag).word.2,{aL.zero with op:=rO (⟨L,0,s.length,ah⟩:ag).word.1.ar,pos:=(⟨L,0,s.length,ah⟩:ag).word.1.pos})):=by rw[<-hL];rfl
    rw[HD] at hR;refine(Es (cL _) (by simp) (show L.length<=aJ by omega)).mono ?_;rintro v _ ⟨rfl,rfl⟩;have hI:∀c,kj L s.length ((⟨L,0,s.length,ah⟩:ag).word.2,c):=λc=>kj.goes (x:=(⟨L,0,s.length,ah⟩,c)) ⟨rfl,rfl,by simp,by simp;omega,by simp⟩ rfl (y6 _) (Ga _ 97)
    generalize (⟨L,0,s.length,ah⟩:ag).word.2=r1 at hI hR ⊢;generalize (⟨L,0,s.length,ah⟩:ag).word.1=w at hR ⊢;simp only[am,Nat.reduceAdd,aF.enc];refine bA.intro (amZ w.ar (tI _)) ?_;have e5:∀X:List V,X.length=17->setAt (r1.enc++fZ) 5 X=r1.enc++X:=λX hX=>by
     match X,hX with
     | [_,_,_,_,_,_,_,_,_,_,_,_,_,_,_,_,_],_=>rfl
    have AS:cB 17 fZ=true:=rfl;have d5:∀X:List V,(r1.enc++X).drop 5=X:=λX=>rfl
    generalize rO w.ar=op at hR ⊢;simp only[am,Nat.reduceAdd,e5,AS,d5]
    by_cases uX:op=0
    .rw[aI uX] at hR;simp only[am,aB uX];refine ka (c:=t.enc) (by rw[<-hL];simp[nW]) ?_;simp only[am,Nat.reduceAdd,aA.fl];refine aN rfl (iS hr) ⟨?_,rfl⟩;rw[<-hR];rfl
    .rw[aw uX] at hR;simp only[am,az uX];refine Po ?_;simp only[am,d5];refine(N0 op (tI _)).mono ?_;rintro v σ' ⟨rfl,rfl⟩;simp only[am];generalize fp:(dc op).2=ks at hR ⊢;generalize Fi:((r1,{aL.zero with op:=op,pos:=w.pos}):ag × aL)=x0 at hR;have Tb:kj L s.length x0:=by rw[<-Fi];exact hI _
     refine⟨ks,rfl,by rw[<-fp];exact K0 op,λb i aU => aU = ⟨Ar s L b r,vC,Z.set r ((lJ (ks.take i) x0).1.enc++(lJ (ks.take i) x0).2.cz (rR (lJ (ks.take i) x0).2.a8))⟩,?_,?_,?_,?_⟩
     .intro b;simp only[];refine a7.Cz (l' := vC) ?_ ?_ ?_ (by simp[Ar,vC,aj,bK,V.lo]) (by simp[vC,fZ,cp,bK,V.lo]) rfl
      .simp[Ar,aj,am]
      .simp[vC,fZ,am]
      .rw[<-Fi];exact br.set (by simp[ag.enc,aL.cz,aL.zero,Nd.zero,Nd.kind,Nd.pos,Nd.ar,Nd.al,Nd.ae,lJ,rR,am])
     .rintro b i _ rfl;exact⟨rfl,by simp[Ar],by simp[Ar]⟩
     .rintro b i c _ hc rfl;simp only[Ar,aj,am];have Hv:=Ob (ks.take i) Tb;have pW:lJ (ks.take (i+1)) x0=iC c (lJ (ks.take i) x0):=by rw[Aa hc,VZ]
      have TT:c=112->(lJ (ks.take i) x0).2.a8=[]:=λh=>by
       rw[VY (ks.take i) (by rw[<-fp];exact aiL op i (by rw[fp,hc,h])),<-Fi];rfl
      rw[pW];generalize lJ (ks.take i) x0=x at Hv TT ⊢;have hle:=Hv.le;refine(ao' (k:=c) (cL _) (λh=>by rw[TT h];exact⟨rfl,rfl⟩) Hv.ge (by rw[Hv.hl];omega) (by omega)).mono ?_;rintro v _ ⟨rfl,rfl⟩;have Mg:(if c=112/\x.1.aQ=ah then rR (iC c x).2.a8 else rR x.2.a8)=rR (iC c x).2.a8:=by
       by_cases h:c=112/\x.1.aQ=ah
       .rw[aI h]
       .rw[aw h,VU]
        by_cases h1:c=112
        .exact .inr λh2=>h ⟨h1,h2⟩
        .exact .inl h1
      rw[Mg];simp only[am,cG];exact a7.Cz (l' := vC) (by simp[am]) (by simp[vC,fZ,am]) br.rfl (by simp[vC,bK,V.lo]) (by simp[vC,fZ,cp,bK,V.lo]) rfl
     .rintro b _ rfl;simp only[Ar,vC,aj,am];rw[df];have Lh:=Ob ks Tb;generalize lJ ks x0=x at Lh hR ⊢;obtain⟨rd,c⟩:=x;have h1:=Lh.hl;have h2:=Lh.ge;simp only at h1 h2;unfold AF at hR;simp only[h1] at hR;simp only[am,lX];cases bZ:rd.aQ with
      | some a =>
       simp only[bZ] at hR;simp only[am,Nat.reduceAdd,c9,Int.reduceEq,dn,lX,bZ,fZ];refine aN rfl (iS hr) ⟨?_,rfl⟩;have hR:(aL.zero,(2:Int),a)=R:=by simpa [bZ] using hR
       rw[<-hR];rfl
      | none =>
       simp only[bZ,mA] at hR;simp only[am,dK,bL,dn,lX]
       by_cases dD:rd.at_<L.length
       .rw[aI dD] at hR;simp only[am,aB dD];refine(Q5 (cL _) h2).mono ?_;rintro v _ ⟨rfl,rfl⟩;obtain⟨a,ha⟩:∃a,rd.fail.aQ=U a:=by
         have:=ag.KM rd
         cases hq:rd.fail.aQ with
         | none=>exact absurd hq this
         | some a=>exact⟨a,rfl⟩
        rw[ha] at hR;simp only[am,Nat.reduceAdd,c9,Int.reduceEq,lX,ha,dn,fZ];refine aN rfl (iS hr) ⟨?_,rfl⟩;rw[<-hR];rfl
       .rw[aw dD,bZ] at hR;simp only[am,Nat.reduceAdd,bL,az dD,lX,bZ,dn,fZ,abO,ce];refine aN ?_ (iS hr) ⟨?_,rfl⟩
        .simp[V.cM,bS,aa6]
        rw[<-hR];simp[V.erase,aZ,aa4,ED]
def agT:aR prog 24 (sq [rg 0 [oZ 2 [0,0,1,0,7,9,0,0,0,1,7,10,0,0,1,7,10],oZ 3 [0,0]],rg 17 [om 0,oC 67 [17],o1 16,oe 16 0,oe 16 1,oZ 5 [0,0],ot 4 19,o2 2 5],sq [rg 21 [fo 0 5,nB .neq 0],ci 23 (sq [dg 24 [oW [0,0,1,0,7,9,0,0,0,1,7,10,0,0,1,7,10] [],mM [1],ol 2 5,os 17 2 24,o2 2 3],.ret])],rg 27 [om 4,oC 68 [27],o1 26,oe 26 0,oe 26 1,oZ 7 [0,0],ot 6 29,o2 2 7],sq [rg 31 [fo 0 7,nB .neq 0,gB,om 6,nL,nB .eql 0,gZ],ci 38 (sq [dg 39 [oW [0,0,1,0,7,9,0,0,0,1,7,10,0,0,1,7,10] [],mM [1],ol 2 7,os 17 2 39,o2 2 3],.ret])],rg 41 [om 6,nI 5 0,nf 0,nF 2,oW [0,0,1,0,7,9,0,0,0,1,7,10,0,0,1,7,10] [(1,1,45)],oZ 8 [0,0,1,0,7,9,0,0,0,1,7,10,0,0,1,7,10],o2 17 8],sq [rg 9 [oi 1],bl 0 (sq [sq [rg 47 [om 9,nB .leq 15],cx 48 0],.block 1 (sq [dg 51 [om 6,nI 5 0,nf 0,nF 0,nu .eql 97,gA,om 6,nI 5 0,nf 0,nf 1,mM [1],no,om 9,oC 69 [63],nE .eql 62,gZ],ci 66 (rg 67 [om 9,of 0 8,os 1 68 67])]),rg 49 [ic 9]])],sq [rg 69 [fo 0 8,nB .eql 0],ci 71 (sq [dg 72 [oW [0,0,1,0,7,9,0,0,0,1,7,10,0,0,1,7,10] [],of 1 8,mM [1],no,oG [0,0] [(0,1,.c (.int .i64 2)),(1,1,.s 74)],os 17 2 72,o2 2 3],.ret])],rg 10 [oi 1],rg 76 [fo 0 8,oC 70 [77],o1 11],sq [rg 12 [oi 0],bl 2 (sq [sq [rg 79 [om 12,om 11,nT,nb .lss 79],cx 82 2],.block 3 (sq [dA 86 [13] [ol 17 8,om 11,om 12,nS 87,om 6,om 10,om 0,nT,oC 71 [86,89,90,91,93],o1 85,oe 85 0,oe 85 1,oe 85 2,oN,oX 13 17 95,ot 14 96,o1 15],sq [rg 98 [om 15,nB .geq 0],cr 99 100 [oW [0,0,1,0,7,9,0,0,0,1,7,10,0,0,1,7,10] [],om 15,oG [0,0] [(0,1,.c (.int .i64 2)),(1,1,.s 101)],os 17 2 100,o2 2 3]],rg 103 [ol 17 13,o2 17 8],rg 104 [om 14,o1 10]]),rg 83 [ic 12]])],sq [rg 105 [om 10,om 6,nL,nb .lss 105],ci 108 (sq [dg 109 [oW [0,0,1,0,7,9,0,0,0,1,7,10,0,0,1,7,10] [],om 6,om 10,nA 5 110,nf 0,nf 2,mM [1],no,oG [0,0] [(0,1,.c (.int .i64 2)),(1,1,.s 115)],os 17 2 109,o2 2 3],.ret])],rg 117 [ol 17 8,oW [0,0] [],os 17 2 117,o2 2 3],.ret]) [.cell 2 aa 17,.cell 3 aa 2] 119:=aS func24
section
variable {c:aL}
theorem aoU{c d:aL}:over c.enc d.enc=d.enc:=rfl
theorem aaH:bX aq 1 c.enc=U (.int .i64 c.op):=rfl
theorem aaI:bX aq 1 (c.enc.drop 0)=U (.int .i64 c.op):=rfl
theorem aaJ:bX aq 1 (c.enc.drop 1)=U (.int .i64 c.pos):=rfl
def b8:=af @aaH <| af @aaI @aaJ
end
def LR(c:aL):List (List V):=[fZ,[.int .i64 0,.int .i64 0],[.any,.any],[.any,.any],c.enc]
def rJ(s:List UInt8)(L:List aA)(t:aA)(op:Nat)(r:Int)(Z:ab):St :=
 ⟨[.aH s,.any,.ptr (.au 0) 0,.ptr (.au 1) 0,.any,.any,.sl .no 5 (cm L),.any,.ptr (.au 4) 0,.int .i64 (op:Nat)]++aj 109 .any,LR {aL.zero with op:=r,pos:=t.tok.pos},Z⟩
abbrev JY(t:aA)(O'':Int):={p:Nat × Nat × Int // (if t.tok.kind=97 then lf t.tok.ar p.1 p.2.1 p.2.2 else p.2.2)=O''/\p.2.1+p.1=16}
def EE(op:Int):(dc op).2.length<=3:=by
 unfold dc;split
 .rename_i h1;have an:op.toNat<16:=by omega
  generalize op.toNat=n at an ⊢;have key:∀n<16,(iO.getD n ([],[])).2.length<=3:=by decide
  exact key n an
 .simp
def xV(s:List UInt8)(L:List aA)(ks:List UInt8)(a:Nat)(c:aL)(i:Nat)(Z:ab):St :=
 ⟨[.aH s,.any,.ptr (.au 0) 0,.ptr (.au 1) 0,.any,.any,.sl .no 5 (cm L),.any,.ptr (.au 4) 0,.any,.int .i64 (a:Nat),.aH ks,.int .i64 (i:Nat)]++aj 106 .any,LR c,Z⟩
abbrev Qp(L:List aA)(fin:Int)(ks:List UInt8)(X:aL × Int × Int):={p:Nat × Nat × aL // qW L fin (ks.drop p.1) p.2.2 p.2.1=X/\p.1<=ks.length}
def ab5(s:List UInt8)(Z:ab)(hb:s.length+1<=aJ)(hm:bE (jt (fI s).1).1+8<=aJ) :
 aT 24 [.aH s] Z (.bz [.agg (DH s).1.enc,ED (DH s).2]):=by
 have TK:=Nw s;refine agT.aP ?_;simp only[aO,am,aX,Nat.reduceAdd];refine cl (al0 s Z hb) ?_;generalize hR:DH s=R;unfold DH at hR;simp only[am,Nat.reduceAdd,vU];cases hl:(fI s).2 with
 | some a =>
  rw[hl] at hR;simp only[am,Nat.reduceAdd,c9,Int.reduceEq];refine aN rfl (ab.bc _) ⟨?_,rfl⟩;rw[<-hR];rfl
 | none =>
  rw[hl] at hR;simp only[am,bL];refine cl (ata (fI s).1 Z (by omega)) ?_;simp only[am,Nat.reduceAdd,jm];simp only at hR;cases ht:(jt (fI s).1).2 with
  | some a =>
   rw[ht] at hR;simp only[am,Nat.reduceAdd,c9,Int.reduceEq,dn];refine aN rfl (ab.bc _) ⟨?_,rfl⟩;rw[<-hR];rfl
  | none =>
   rw[ht] at hR;simp only at hR;simp only[am,dK,bL,dn];generalize (jt (fI s).1).1=l at hm hR ⊢;have hlen:=gj l;cases l with
   | nil =>
    simp only[am,Nat.reduceAdd,bL,cZ,show(((0:Nat):Int)=0)=True by simp];refine aN rfl (ab.bc _) ⟨?_,rfl⟩;rw[<-hR];rfl
   | cons t ts =>
    generalize hL:t::ts=L at *;have bh:¬(L.length:Int)=0:=by rw[<-hL];simp;omega
    simp only[am,az bh];refine ka (c:=t.enc) (by rw[<-hL];simp[nW]) ?_;simp only[am,Nat.reduceAdd,aA.fl];have HD:G4 L s.length=if (if t.tok.kind=97 then lf t.tok.ar 15 1 0 else 0)=0 then(.zero,2,t.tok.pos)
     else(if 0<=(qW L s.length (dc (if t.tok.kind=97 then lf t.tok.ar 15 1 0 else 0)).2 {aL.zero with op:=(if t.tok.kind=97 then lf t.tok.ar 15 1 0 else 0),pos:=t.tok.pos} 1).2.2 then(.zero,2,(qW L s.length (dc (if t.tok.kind=97 then lf t.tok.ar 15 1 0 else 0)).2 {aL.zero with op:=(if t.tok.kind=97 then lf t.tok.ar 15 1 0 else 0),pos:=t.tok.pos} 1).2.2)
      else if (qW L s.length (dc (if t.tok.kind=97 then lf t.tok.ar 15 1 0 else 0)).2 {aL.zero with op:=(if t.tok.kind=97 then lf t.tok.ar 15 1 0 else 0),pos:=t.tok.pos} 1).2.1<L.length then(.zero,2,jI L (qW L s.length (dc (if t.tok.kind=97 then lf t.tok.ar 15 1 0 else 0)).2 {aL.zero with op:=(if t.tok.kind=97 then lf t.tok.ar 15 1 0 else 0),pos:=t.tok.pos} 1).2.1 s.length)
      else((qW L s.length (dc (if t.tok.kind=97 then lf t.tok.ar 15 1 0 else 0)).2 {aL.zero with op:=(if t.tok.kind=97 then lf t.tok.ar 15 1 0 else 0),pos:=t.tok.pos} 1).1,0,0)):=by rw[<-hL];rfl
    rw[HD] at hR;clear HD;generalize hO:(if t.tok.kind=97 then lf t.tok.ar 15 1 0 else 0)=O'' at hR;have T5:(cm L)[0]?=U t.enc:=by rw[<-hL];simp[nW]
    refine dP (λp:JY t O''=>rJ s L t p.1.2.1 p.1.2.2 Z) (λp=>p.1.1) ?_ ?_
    .refine a7.enter ⟨(15,1,0),hO,rfl⟩ ?_ ?_ br.rfl
     .simp[rJ,aj,am]
     .simp[rJ,LR,aL.enc,aL.cz,aL.zero,Nd.zero,Nd.kind,Nd.pos,Nd.ar,Nd.al,Nd.ae,fZ,am]
    .rintro⟨⟨n,op,r⟩,hO,hs⟩;simp only at hO hs;simp only[rJ,LR,aj,am];have wi:IntKind.i64.wrap ((op:Int)+1)=((op+1:Nat):Int):=by rw[wrap_i64];simp
     by_cases uX:op<=15
     .obtain⟨m,rfl⟩:∃m,n=m+1:=⟨n - 1,by omega⟩;have again:∀(t1:List V) (l1:List (List V)) (r:Int),(if t.tok.kind=97 then lf t.tok.ar m (op+1) r else r)=O''->c_ t1 (rJ s L t (op+1) r Z).t->bV l1 (rJ s L t (op+1) r Z).au->a7 ⟨t1,l1,Z⟩ λaU => ∃j:JY t O'',aU = rJ s L t j.1.2.1 j.1.2.2 Z/\j.1.1<m+1:=λt1 l1 r h ht hl =>
       a7.again (I:=λp:JY t O''=>rJ s L t p.1.2.1 p.1.2.2 Z) (μ:=λp=>p.1.1) ⟨(m,op+1,r),h,by simp only;omega⟩ (by simp) ht hl br.rfl
      simp only[am,aB (show(op:Int)<=15 by omega)];refine ka (c:=t.enc) T5 ?_;simp only[am,aA.fl]
      by_cases di:t.tok.kind=97
      .simp only[di,cH,lf] at hO;simp only[am,aB di];refine ka (c:=t.enc) T5 ?_;simp only[am,aA.fl];refine bA.intro (Qz op Z) ?_;simp only[am,aA.fl]
       by_cases hw:t.tok.ar=(dc op).1
       .rw[aI hw] at hO;simp only[am,aB hw];exact again _ _ op (by rw[aI di];exact hO) (by simp[rJ,aj,am,wi]) (by simp[rJ,LR,aL.enc,aL.cz,am])
       .rw[aw hw] at hO;simp only[am,az hw,wi];exact again _ _ r (by rw[aI di];exact hO) (by simp[rJ,aj,am]) (by simp[rJ,LR,aL.enc,aL.cz,am])
      .rw[aw di] at hO;simp only[am,az di,wi];exact again _ _ r (by rw[aw di];exact hO) (by simp[rJ,aj,am]) (by simp[rJ,LR,aL.enc,aL.cz,am])
     .obtain rfl:n=0:=by omega
      have hO:r=O'':=by simpa [lf] using hO
      subst hO;simp only[am,b8,az (show ¬(op:Int)<=15 by omega)]
      by_cases HW:r=0
      .rw[aI HW] at hR;simp only[am,Nat.reduceAdd,b8,aB HW,fZ];refine aN rfl (ab.bc _) ⟨?_,rfl⟩;rw[<-hR];rfl
      .rw[aw HW] at hR;simp only[am,b8,az HW];refine cl (Nv r Z) ?_;generalize fp:(dc r).2=ks at hR;have kT:ks.length<=3:=by rw[<-fp];exact EE r
       generalize hX:qW L s.length ks {aL.zero with op:=r,pos:=t.tok.pos} 1=X at hR;refine dP (λp:Qp L s.length ks X=>xV s L ks p.1.2.1 p.1.2.2 p.1.1 Z) (λp=>ks.length - p.1.1) ?_ ?_
       .refine a7.enter ⟨(0,1,{aL.zero with op:=r,pos:=t.tok.pos}),hX,by simp⟩ ?_ ?_ br.rfl
        .simp[xV,aj,am]
        .simp[xV,LR,am]
       .rintro⟨⟨i,a,c⟩,hX,hi⟩;simp only at hX hi;simp only[xV,LR,aj,am];have wi:IntKind.i64.wrap ((i:Int)+1)=((i+1:Nat):Int):=by rw[wrap_i64];simp
        by_cases an:i<ks.length
        .simp only[am,Nat.reduceAdd,bL,Nat.reduceLT,cE,aB (show(i:Int)<ks.length by omega)];refine pX (c:=ks[i]) (by simp) ?_;simp only[am,cE];refine bA.intro (ao8 ks[i] c L a s.length Z hm) ?_;obtain⟨a',y7,_⟩:=VV ks[i] c L a s.length;rw[kM an] at hX;simp only[qW] at hX;rw[y7] at hX;rw[y7];generalize jX ks[i] c L (a:Nat) s.length=Y'' at hX y7 ⊢;simp only[am,Nat.reduceAdd,cE]
         by_cases bZ:0<=Y''.2.2
         .rw[aI bZ] at hX;simp only[am,Nat.reduceAdd,aB bZ,fZ];rw[<-hX,aI bZ] at hR;refine aN rfl (ab.bc _) ⟨?_,rfl⟩;rw[<-hR];rfl
         .rw[aw bZ] at hX;simp only[am,cE,az bZ];exact a7.lT (I:=λp:Qp L s.length ks X=>xV s L ks p.1.2.1 p.1.2.2 p.1.1 Z) (μ:=λp=>ks.length - p.1.1) ⟨(i+1,a',Y''.1),hX,by simp only;omega⟩ (by simp only;omega) (by simp[xV,aj,am,wi]) (by simp[xV,LR,am,aoU]) br.rfl (by simp[xV,LR,aj,bK,V.lo]) (by simp[xV,LR,fZ,aL.enc,aL.cz,cp,bK,V.lo])
        .obtain rfl:i=ks.length:=by omega
         rw[yE] at hX;simp only[qW] at hX;rw[<-hX] at hR;simp only[am,dK,az (show ¬(ks.length:Int)<ks.length by omega),fZ];have EY:¬(0:Int)<=-1:=by decide
         simp only[aw EY] at hR
         by_cases dD:a<L.length
         .rw[aI (by omega)] at hR;simp only[am,aB (show(a:Int)<L.length by omega)];refine ka (gC (bN dD)) ?_;simp only[am,Nat.reduceAdd,aA.fl];refine aN rfl (ab.bc _) ⟨?_,rfl⟩;rw[<-hR];simp[jI,dD];rfl
         .rw[aw (by omega)] at hR;simp only[am,Nat.reduceAdd,cE,az (show ¬(a:Int)<L.length by omega)];refine aN rfl (ab.bc _) ⟨?_,rfl⟩;rw[<-hR];rfl
def ahF:aR prog 31 (sq [rg 4 [oz 2],sq [rg 6 [om 0,nL,om 1,nL,nb .neq 7],cr 10 4 [oz 2]],sq [rg 5 [oi 0],bl 0 (sq [sq [rg 11 [om 5,om 0,nL,nb .lss 11],cx 14 0],.block 1 (sq [dg 17 [om 0,om 5,nA 2 17,nl 2,om 1,om 5,nA 2 21,nl 2,oq (.kn aa [2,1] (.s 20) (.s 24))],cr 25 4 [oz 2]]),rg 15 [ic 5]])],rg 4 [oq (.mv (.c (.bool aa)))],.ret]) [.tmp 4] 26:=aS func31
def ahG:aR prog 32 (sq [rg 4 [ox 2 5 0,ox 3 5 1,oz 2],sq [rg 7 [fo 1 2,fo 1 3,nb .neq 8,gB,ol 5 2,ol 5 3,oC 88 [13,14],nn,gZ],cr 17 4 [oz 2]],sq [rg 5 [oi 0],bl 0 (sq [sq [rg 18 [om 5,fo 3 2,nL,nb .lss 18],cx 22 0],.block 1 (sq [dg 25 [fo 3 2,om 5,nA 2 26,nl 2,fo 3 3,om 5,nA 2 31,nl 2,oq (.kn aa [2,1] (.s 29) (.s 34))],cr 35 4 [oz 2]]),rg 23 [ic 5]])],sq [rg 6 [oi 0],bl 2 (sq [sq [rg 36 [om 6,fo 4 2,nL,nb .lss 36],cx 40 2],.block 3 (sq [dg 43 [fo 4 2,om 6,nA 5 44,nl 5,fo 4 3,om 6,nA 5 49,nl 5,oC 32 [47,52],nn],cr 54 4 [oz 2]]),rg 41 [ic 6]])],rg 4 [oq (.mv (.c (.bool aa)))],.ret]) [.tmp 4] 55:=aS func32
def MP(l:List aF)(i:Nat)(Z:ab):St :=
 ⟨[.sl .no 2 (l.map aF.enc),.sl .no 2 (l.map aF.enc),.any,.any,.any,.int .i64 (i:Nat)]++aj 20 .any,[],Z⟩
def auk(l:List aF)(Z:ab)(hb:l.length<=aJ):aT 31 [.sl .no 2 (l.map aF.enc),.sl .no 2 (l.map aF.enc)] Z (.bool aa):=by
 simp only[aJ] at hb;refine ahF.aP ?_;simp only[aO,am,aX,Nat.reduceAdd,bL];refine dP (λp:{i:Nat // i<=l.length}=>MP l p.1 Z) (λp=>l.length - p.1) ?_ ?_
 .refine a7.enter ⟨0,by simp⟩ ?_ bV.rfl br.rfl;simp[MP,aj,am]
 .rintro⟨i,hi⟩;simp only[MP,aj,am,aD];refine cO ?_ ?_
  .intro an;have an:i<l.length:=by simpa using an
   have hn:l[i]?=U l[i]:=by simp[an]
   simp only[am];refine ix (mB hn) ?_;simp only[am,aF.enc];refine ix (mB hn) ?_;simp only[am,bL,aF.enc];rw[wrap_i64];exact a7.again ⟨i+1,an⟩ (by simp;omega) (by simp[am]) bV.rfl br.rfl
  .intro an;simp only[am];exact rt
def MR(n:Nd)(Z:ab)(i:Nat):St :=
 ⟨[.any,.any,.ptr (.au 0) 0,.ptr (.au 1) 0]++[.any,.int .i64 (i:Nat)]++aj 49 .any,[n.enc,n.enc],Z⟩
def MQ(n:Nd)(Z:ab)(i:Nat):St :=
 ⟨[.any,.any,.ptr (.au 0) 0,.ptr (.au 1) 0]++[.any,.any,.int .i64 (i:Nat)]++aj 48 .any,[n.enc,n.enc],Z⟩
def au':=af @am <| af @aX <| af @bL <| af @Nd.ak @Nd.fl
def X7:∀(k:Nat) (n:Nd) (Z:ab),n.wt<=k->n.wt<=aJ->aT 32 [.agg n.enc,.agg n.enc] Z (.bool aa):=by
 intro k;induction k with
 | zero=>intro n Z h _;cases n;simp only[Nd.wt] at h;omega
 | succ k oJ =>
  intro n Z hk hw;have hn:=uo n;have iP:n.wt<2^62:=by simp only[aJ] at hw;omega
  refine ahG.aP ?_;simp only[aO,au',Nat.reduceAdd];refine cl (I3 _ n n _ (b7 _) hw) ?_;simp only[am,Nd.I4];refine dP (λp:{i:Nat // i<=n.al.length}=>MR n Z p.1) (λp=>n.al.length - p.1) ?_ ?_
  .refine a7.enter ⟨0,by simp⟩ ?_ bV.rfl br.rfl;simp[MR,aj,am]
  rintro⟨i,hi⟩;simp only[MR,aj,am,Nd.fl,aD];refine cO ?_ ?_
  .intro an;have an:i<n.al.length:=by simpa using an
   simp only[am,Nd.fl];refine ix (mB (bN an)) ?_;simp only[am,aF.ak,Nd.fl];refine ix (mB (bN an)) ?_;simp only[am,bL,aF.enc];rw[wrap_i64];exact a7.again ⟨i+1,an⟩ (by simp;omega) (by simp[am]) bV.rfl br.rfl
  intro an;have an:i=n.al.length:=by simp at an;omega
  subst an;simp only[am];refine dP (λp:{i:Nat // i<=n.ae.length}=>MQ n Z p.1) (λp=>n.ae.length - p.1) ?_ ?_
  .refine a7.enter ⟨0,by simp⟩ ?_ bV.rfl br.rfl;simp[MQ,aj,am]
  rintro⟨i,hi⟩;simp only[MQ,aj,am,Nd.fl,aD];refine cO ?_ ?_
  .intro an;have an:i<n.ae.length:=by simpa using an
   have qG:=gw (n:=n) (dq an);simp only[am,Nd.fl];refine ix (fN (bN an)) ?_;simp only[am,Nd.ak,Nd.fl];refine ix (fN (bN an)) ?_;simp only[am,Nd.ak];refine bA.intro (oJ n.ae[i] _ (by omega) (by omega)) ?_;simp only[am];rw[wrap_i64];exact a7.again ⟨i+1,an⟩ (by simp;omega) (by simp[am]) bV.rfl br.rfl
  intro an;simp only[am];exact rt
def aeK:aR prog 11 (sq [rg 4 [ox 2 17 0,ox 3 17 1,oz 2],sq [rg 6 [ol 17 2,ol 17 3,oC 30 [6,7],nn,gB,fo 1 2,fo 1 3,nb .neq 12,gZ,gB,of 2 2,nl 2,of 2 3,nl 2,oq (.kn aa [2,1] (.s 19) (.s 21)),gZ,gB,fo 6 2,fo 6 3,nb .neq 26,gZ,gB,fo 4 2,fo 4 3,oC 31 [33,35],nn,gZ],cr 38 4 [oz 2]],sq [rg 5 [oi 0],bl 0 (sq [sq [rg 39 [om 5,fo 5 2,nL,nb .lss 39],cx 43 0],.block 1 (sq [dg 46 [fo 5 2,om 5,nA 4 47,nl 4,fo 5 3,om 5,nA 4 52,nl 4,oq (.kn aa [2,1,2,1] (.s 50) (.s 55))],cr 56 4 [oz 2]]),rg 44 [ic 5]])],rg 57 [of 7 2,nl 5,of 7 3,nl 5,oC 32 [58,60],gA,of 12 2,nl 5,of 12 3,nl 5,oC 32 [64,66],gZ,o1 4],.ret]) [.tmp 4] 69:=aS func11
def ahE:aR prog 30 (sq [rg 4 [ox 2 17 0,ox 3 17 1,oz 2],sq [rg 7 [fo 0 2,fo 0 3,nb .neq 8,gB,of 2 2,nF 0,of 2 3,nF 0,nE .neq 15,gZ,gB,fo 4 2,nL,fo 4 3,nL,nb .neq 24,gZ,gB,fo 5 2,nL,fo 5 3,nL,nb .neq 33,gZ],cr 38 4 [oz 2]],sq [rg 5 [oi 0],bl 0 (sq [sq [rg 39 [om 5,fo 4 2,nL,nb .lss 39],cx 43 0],.block 1 (sq [dg 46 [fo 4 2,om 5,nA 2 47,nF 0,fo 4 3,om 5,nA 2 53,nF 0,nE .neq 51],cr 58 4 [oz 2]]),rg 44 [ic 5]])],sq [rg 6 [oi 0],bl 2 (sq [sq [rg 59 [om 6,fo 5 2,nL,nb .lss 59],cx 63 2],.block 3 (sq [dg 66 [fo 5 2,om 6,nA 4 67,oQ 2 2 69 0,nF 0,fo 5 3,om 6,nA 4 74,oQ 2 2 76 0,nF 0,nE .neq 72,gB,fo 5 2,om 6,nA 4 83,oQ 2 2 85 1,nF 0,fo 5 3,om 6,nA 4 90,oQ 2 2 92 1,nF 0,nE .neq 88,gZ],cr 97 4 [oz 2]]),rg 64 [ic 6]])],rg 98 [of 7 2,nl 5,of 7 3,nl 5,oC 88 [99,101],gA,of 12 2,nl 5,of 12 3,nl 5,oC 88 [105,107],gZ,o1 4],.ret]) [.tmp 4] 110:=aS func30
section
variable {c:aL}
theorem aaz:bX aq 1 (c.enc.drop 2)=U (.aH c.name.ar):=rfl
theorem aaU:takeN 2 (c.enc.drop 2)=U [.aH c.name.ar,.int .i64 c.name.pos]:=rfl
theorem aaB:bX aq 1 (c.enc.drop 4)=U (.sl .no 2 (c.al.map aF.enc)):=rfl
theorem aaC:bX aq 1 (c.enc.drop 5)=U (.sl .no 4 (c.a8.map dR)):=rfl
theorem aaD:bX aq 1 (c.enc.drop 6)=U (.int .i64 c.rQ):=rfl
def aaV:takeN 5 (c.enc.drop 7)=U c.left.enc:=by rw[Nd.cS];rfl
def aaT:takeN 5 (c.enc.drop 12)=U c.right.enc:=by rw[Nd.cS];rfl
def bM:=af @aaz <| af @aaU <| af @aaB <| af @aaC <| af @aaD <| af @aaV @aaT
end
variable{p:aF × aF}
theorem aph:takeN 4 (dR p)=U (dR p):=rfl
def uh{l:List (aF × aF)}(h:l[j]?=U p):(l.map dR)[(j:Int).toNat]?=U (dR p):=by simp[h]
structure D6(c:aL):Prop where
 ns:c.al.length<=aJ
 ps:c.a8.length<=aJ
 l:c.left.wt<=aJ
 r:c.right.wt<=aJ
def MO(c:aL)(Z:ab)(i:Nat):St :=
 ⟨[.any,.any,.ptr (.au 0) 0,.ptr (.au 1) 0]++[.any,.int .i64 (i:Nat)]++aj 104 .any,[c.enc,c.enc],Z⟩
def MN(c:aL)(Z:ab)(i:Nat):St :=
 ⟨[.any,.any,.ptr (.au 0) 0,.ptr (.au 1) 0]++[.any,.any,.int .i64 (i:Nat)]++aj 103 .any,[c.enc,c.enc],Z⟩
def arV(h:D6 c)(Z:ab):aT 30 [.agg c.enc,.agg c.enc] Z (.bool aa):=by
 have h1:=h.ns;have h2:=h.ps;simp only[aJ] at h1 h2;refine ahE.aP ?_;simp only[aO,am,aX,Nat.reduceAdd,bL,cE,b8,bM,aD];refine dP (λp:{i:Nat // i<=c.al.length}=>MO c Z p.1) (λp=>c.al.length - p.1) ?_ ?_
 .refine a7.enter ⟨0,by simp⟩ ?_ bV.rfl br.rfl;simp[MO,aj,am]
 rintro⟨i,hi⟩;simp only[MO,aj,am,bM,aD];refine cO ?_ ?_
 .intro an;have an:i<c.al.length:=by simpa using an
  simp only[am,bM];refine ix (mB (bN an)) ?_;simp only[am,bM,aF.enc];refine ix (mB (bN an)) ?_;simp only[am,bL,aF.enc];rw[wrap_i64];exact a7.again ⟨i+1,an⟩ (by simp;omega) (by simp[am]) bV.rfl br.rfl
 intro an;have an:i=c.al.length:=by simp at an;omega
 subst an;simp only[am];refine dP (λp:{i:Nat // i<=c.a8.length}=>MN c Z p.1) (λp=>c.a8.length - p.1) ?_ ?_
 .refine a7.enter ⟨0,by simp⟩ ?_ bV.rfl br.rfl;simp[MN,aj,am]
 rintro⟨i,hi⟩;simp only[MN,aj,am,bM,aD];refine cO ?_ ?_
 .intro an;have an:i<c.a8.length:=by simpa using an
  have CZ:(0:Int)<=0:=by decide
  simp only[am,bM];refine ix (uh (bN an)) ?_;simp only[am,cG];refine rI ?_;simp only[am,Int.reduceToNat,Nat.reduceMul,bM,dR];refine ix (uh (bN an)) ?_;simp only[am,cG];refine rI ?_;simp only[am,bL,Int.reduceToNat,Nat.reduceMul,bM,dR];refine ix (uh (bN an)) ?_;simp only[am,cG];refine rI ?_;simp only[am,Int.reduceToNat,Nat.reduceMul,bM,dR];refine ix (uh (bN an)) ?_;simp only[am,cG];refine rI ?_;simp only[am,bL,Int.reduceToNat,Nat.reduceMul,dR];rw[wrap_i64];exact a7.again ⟨i+1,an⟩ (by simp;omega) (by simp[am]) bV.rfl br.rfl
 intro an;simp only[am,Nd.ak,bM];refine cl (I3 _ c.left c.left _ (b7 _) h.l) ?_;simp only[am,Nd.ak,bM,Nd.I4];refine cl (I3 _ c.right c.right _ (b7 _) h.r) ?_;simp only[am,Nd.I4];exact rt
def M6(c:aL)(Z:ab)(i:Nat):St :=
 ⟨[.any,.any,.ptr (.au 0) 0,.ptr (.au 1) 0]++[.any,.int .i64 (i:Nat)]++aj 63 .any,[c.enc,c.enc],Z⟩
def atF(h:D6 c)(Z:ab):aT 11 [.agg c.enc,.agg c.enc] Z (.bool aa):=by
 have h1:=h.ns;have h2:=h.ps;simp only[aJ] at h1 h2;refine aeK.aP ?_;simp only[aO,am,aX,Nat.reduceAdd,cE];refine cl (arV h Z) ?_;simp only[am,bL,b8,bM];refine cl (auk c.al Z (by simp only[aJ];omega)) ?_;simp only[am];refine dP (λp:{i:Nat // i<=c.a8.length}=>M6 c Z p.1) (λp=>c.a8.length - p.1) ?_ ?_
 .refine a7.enter ⟨0,by simp⟩ ?_ bV.rfl br.rfl;simp[M6,aj,am]
 rintro⟨i,hi⟩;simp only[M6,aj,am,bM,aD];refine cO ?_ ?_
 .intro an;have an:i<c.a8.length:=by simpa using an
  simp only[am,bM];refine ix (uh (bN an)) ?_;simp only[am,bM,aph];refine ix (uh (bN an)) ?_;simp only[am,bL,dR];rw[wrap_i64];exact a7.again ⟨i+1,an⟩ (by simp;omega) (by simp[am]) bV.rfl br.rfl
 intro an;simp only[am,Nd.ak,bM];refine cl (X7 _ c.left _ (b7 _) h.l) ?_;simp only[am,Nd.ak,bM];refine cl (X7 _ c.right _ (b7 _) h.r) ?_;simp only[am];exact rt
def aga:aR prog 20 (sq [rg 0 [ox 2 2 0,ox 3 17 1,oZ 4 [0,0]],rg 6 [ol 2 2,fo 1 3,oG [7,8,8,0,0] [(1,2,.s 6),(3,1,.c (.int .i64 (-1))),(4,1,.s 8)],oq (.gY 5 (.s 9)),o1 5],sq [.kK (rg 11 [fo 0 3]),.block 0 (sq [rg 14 [oB .eql 12 10,o1 13],cd 13 (rg 15 [om 5,of 2 3,nF 0,of 2 3,nF 1,oc 56 [.s 15,.s 18,.s 21,.c (.int .i64 2)]]) (sq [rg 24 [oB .eql 12 15,o1 23],cd 23 (rg 25 [om 5,of 2 3,nF 0,of 2 3,nF 1,oc 56 [.s 25,.s 28,.s 31,.c (.int .i64 1)]]) (sq [rg 34 [oB .eql 12 8,o1 33],cd 33 (sq [rg 35 [om 5,of 2 3,nl 2,oC 57 [35,37]],rg 39 [om 5,of 7 3,nl 5,oC 58 [39,41]],rg 43 [om 5,of 12 3,nl 5,oC 58 [43,45]],dg 47 [mk 5,nf 0,of 12 3,nF 0,nB .eql 8,gB,of 12 3,nF 0,nB .eql 9,gZ,of 12 3,nF 1,oc 59 [.s 49,.s 59,.c (.int .i64 6),.s 62]]]) (sq [rg 65 [oB .eql 12 9,o1 64],ci 64 (sq [rg 66 [om 5,of 2 3,nl 2,oC 57 [66,68]],rg 70 [om 5,of 7 3,nl 5,oC 60 [70,72]],rg 74 [om 5,of 12 3,nl 5,oC 60 [74,76]]])])])])])],rg 78 [mk 5,nf 0,nF 0,oC 22 [82],o2 2 4],.ret]) [.cell 4 aa 2] 84:=aS func20 ⟨[10],[2]⟩
def agx:aR prog 22 (sq [rg 0 [oZ 2 [0,0]],rg 0 [oZ 3 [0,0]],sq [rg 6 [om 0,nL,oi 0],lp 7 0 (sq [rg 10 [oA 2 6 8,nl 2,oZ 5 [0,0],o2 2 5],sq [rg 12 [fo 0 5,nB .eql 0],ci 14 (.exit 1)],rg 15 [fo 0 3,nB .eql 0,gB,fo 0 5,fo 0 3,nb .lss 20,gZ,nm,oh 25 (of 0 5),oh 25 (no),oh 25 (of 0 3),oh 25 (no),oh 25 (nb .eql 27),oh 25 (nm),og 31 (of 1 5),og 31 (no),og 31 (of 1 3),og 31 (no),og 31 (nb .lss 33),oh 25 (oy 31 36),oq (.pick (.s 25) (.c (.bool aa)) (.s 37))],ci 38 (rg 39 [ol 2 5,o2 2 3])]) 40],rg 41 [ol 2 3,o2 2 2],.ret]) [.cell 2 aa 2] 42:=aS func22
section
variable {c:aL}
theorem aaA:bX aq 1 (c.enc.drop 3)=U (.int .i64 c.name.pos):=rfl
theorem aax:bX aq 1 (c.enc.drop 12)=U (.int .i64 c.right.kind):=rfl
theorem aay:bX aq 1 (c.enc.drop 13)=U (.int .i64 c.right.pos):=rfl
def lU:=af @aaA <| af @aax @aay
end
def Sv{l:List aM}(h:j<l.length):(l.map aM.enc)[((j:Nat):Int).toNat]?=U l[j].enc:=by simp[h]
def zA(l:List aM)(Z:ab)(hl:l.length<=100000000):aT 22 [.sl .no 2 (l.map aM.enc)] Z (.agg (fS l).enc):=by
 refine agx.aP ?_;simp only[aO,am,aX,Nat.reduceAdd,aD];refine ct (l.length) (λi (x:Unit)=>⟨[.any,.any,.ptr (.au 0) 0,.ptr (.au 1) 0,.any,.any,.sl .no 2 (l.map aM.enc),.int .i64 (l.length:Nat),.int .i64 (i:Nat)]++aj 33 .any,[aM.zero.enc,(fS (l.take i)).enc],Z⟩) (λi x=>(True)) λF hF JF aW=>⟨?_,?_,?_⟩
 .refine en aW (()) (trivial) ?_ ?_ ?_
  all_goals simp[hF,aj,am,bd,fS,aM.zero,aM.enc]
 .rintro i x hi -;have hT:=UR hi;simp only[hF,aj,am,ca hi];refine ix (Sv hi) ?_;simp only[am,Nat.reduceAdd,aM.ak];generalize fS (l.take i)=o at hT;generalize l[i]=f at hT
  by_cases h0:f.cls=0
  .rw[jl,aI h0] at hT;simp only[am,aK,reduceCtorEq,aM.ak,aB h0,bF hi];refine db (()) hi ?_ ?_ ?_ ?_ ?_ ?_
   .exact cI (aW _ _) (trivial)
   all_goals simp[hF,aj,am,bd,bK,cp,V.lo,hT,aM.bP]
  rw[jl,aw h0] at hT;simp only[am,aM.ak,az h0];have yes:o7 o f=aa->fS (l.take (i+1))=f:=λh=>by rw[hT,h,aI rfl]
  have no:o7 o f=aq->fS (l.take (i+1))=o:=λh=>by rw[hT,h];rfl
  by_cases h1:o.cls=0
  .have e:=yes (by simp[o7,h1]);simp only[am,aK,aM.ak,aB h1,bF hi];refine db (()) hi ?_ ?_ ?_ ?_ ?_ ?_
   .exact cI (aW _ _) (trivial)
   all_goals simp[hF,aj,am,bd,bK,cp,V.lo,e,aM.bP]
  simp only[am,aM.ak,az h1]
  by_cases h2:f.cls<o.cls
  .have e:=yes (by simp[o7,h2]);simp only[am,aK,aM.ak,aB h2,bF hi];refine db (()) hi ?_ ?_ ?_ ?_ ?_ ?_
   .exact cI (aW _ _) (trivial)
   all_goals simp[hF,aj,am,bd,bK,cp,V.lo,e,aM.bP]
  simp only[am,aM.ak,az h2]
  by_cases h3:f.cls=o.cls
  case neg =>
   have e:=no (by simp[o7,h1,h2,h3]);simp only[am,aK,az h3,bF hi];refine db (()) hi ?_ ?_ ?_ ?_ ?_ ?_
   .exact cI (aW _ _) (trivial)
   all_goals simp[hF,aj,am,bd,bK,cp,V.lo,e,aM.bP]
  simp only[am,aM.ak,aB h3]
  by_cases h4:f.au<o.au
  .have e:=yes (by simp[o7,h3,h4]);simp only[am,aK,aM.ak,aB h4,bF hi];refine db (()) hi ?_ ?_ ?_ ?_ ?_ ?_
   .exact cI (aW _ _) (trivial)
   all_goals simp[hF,aj,am,bd,bK,cp,V.lo,e,aM.bP]
  .have e:=no (by simp[o7,h1,h2,h4]);simp only[am,aK,az h4,bF hi];refine db (()) hi ?_ ?_ ?_ ?_ ?_ ?_
   .exact cI (aW _ _) (trivial)
   all_goals simp[hF,aj,am,bd,bK,cp,V.lo,e,aM.bP]
 .rintro x -;simp only[hF,aj,am,aK,cy,aK,aM.ak,df];refine aC ?_;simp[V.erase,aM.dy]
def Sm(s:aG)(c:aL)(hs:s.ok)(hg:TZ Z)(hl:c.left.cJ<=100000)(hr:c.right.cJ<=100000)(jW:c.left.wt<=aJ)(oH:c.right.wt<=aJ):
 aT 20 [.agg s.enc,.agg c.enc] Z (.agg (iN s c).enc):=by
 refine aga.aP ?_;simp only[aO,am,aX,Nat.reduceAdd,Int.reduceNeg,j6,aG.ak,cE,b8];intro b hb;simp only[am,Int.reduceNeg];refine a7.tok 0 λD a_=>⟨_,_,(Z.set b _).set b (pq D [] s (-1) c.pos),fm.rfl,rfl,λi c' hc=>⟨c',hc,fm.rfl⟩,se.set ke (by simp[pq,jG]),?_⟩
 have a_:Z.aY D=none:=a_;rw[ab.set_set,show(Z.set b (pq D [] s (-1) c.pos)).ba D 0=dk Z b D [] s (-1) c.pos from rfl];have fin:∀(L:List aM) (t:List V) (lo:List (List V)) (lat:Int),fS L=iN s c->jx (λv σ' => v = .agg (iN s c).enc/\σ' = Z) ⟨t,lo,dk Z b D L s lat c.pos⟩ (.agg (fS L).enc):=λL t lo lat h=>by
  rw[h];exact aN rfl (auR hb a_) ⟨rfl,rfl⟩
 have hv:∀{t:List UInt8} {y k lat:Int},(fE s lat t y k).length<=1:=rZ;have avn:=@UD s c.name;have e1:bY (fu s.bt c.name.ar)=cN s c:=rfl;have an:cN s c<s.bt.length:=by
  rw[cN];cases h:fu s.bt c.name.ar with
  | none=>simp only[bY];omega
  | some k=>have:=(y3 h).1;simp only[bY];omega
 simp only[am,Int.reduceNeg,b8]
 by_cases ec:c.op=10
 .simp only[am,Nat.reduceAdd,Int.reduceNeg,bM,lU,aB ec];refine cl (F' Z b D [] s (-1) c.pos c.name.pos 2 c.name.ar (by simp) hs) ?_;simp only[am,Int.reduceNeg,j6,kN];have hlen:=@rZ s (-1) c.name.ar c.name.pos 2;refine cl (cF.cY (as' := [.sl .no 2 ((fE s (-1) c.name.ar c.name.pos 2).map aM.enc)]) (zA (fE s (-1) c.name.ar c.name.pos 2) _ (by omega)) ⟨dr.no,trivial⟩ br.rfl) ?_;simp only[am,Int.reduceNeg,aM.ak];exact fin _ _ _ _ (by rw[iN,tx];rw[aI ec])
 simp only[am,Int.reduceNeg,az ec]
 by_cases sB:c.op=15
 .simp only[am,Nat.reduceAdd,Int.reduceNeg,bM,lU,aB sB];refine cl (F' Z b D [] s (-1) c.pos c.name.pos 1 c.name.ar (by simp) hs) ?_;simp only[am,Int.reduceNeg,j6,kN];have hlen:=@rZ s (-1) c.name.ar c.name.pos 1;refine cl (cF.cY (as' := [.sl .no 2 ((fE s (-1) c.name.ar c.name.pos 1).map aM.enc)]) (zA (fE s (-1) c.name.ar c.name.pos 1) _ (by omega)) ⟨dr.no,trivial⟩ br.rfl) ?_;simp only[am,Int.reduceNeg,aM.ak];exact fin _ _ _ _ (by rw[iN,tx];rw[aw ec,aI sB])
 simp only[am,Int.reduceNeg,az sB]
 by_cases h8:c.op=8
 .simp only[am,Int.reduceNeg,bM,aB h8];have l1:=@Nk s (cN s c) c.left;have l2:=@Nk s (cN s c) c.right;refine cl (Xy Z b D [] s (-1) c.pos c.name (by simp) hs) ?_;rw[e1,kN];simp only[am,Int.reduceNeg,Nd.ak,bM];refine cl (Xx Z b D (fc s c.name) s (cN s c) c.pos c.left hs hg hb an (by omega) (by omega) jW) ?_;simp only[am,Int.reduceNeg,Nd.ak,bM];refine cl (Xx Z b D (fc s c.name++fX s (cN s c) c.left) s (cN s c) c.pos c.right hs hg hb an (by simp only[bW];omega) (by omega) oH) ?_;simp only[am,Int.reduceNeg,lU];have hlen:(fc s c.name++fX s (cN s c) c.left++fX s (cN s c) c.right).length<=200001:=by simp only[bW];omega
  have done:∀(d:List aM) (t:List V) (lo:List (List V)),d=tz c.right->jx (λv σ' => v = .agg (iN s c).enc/\σ' = Z) ⟨t,lo,dk Z b D ((fc s c.name++fX s (cN s c) c.left++fX s (cN s c) c.right)++d) s (cN s c) c.pos⟩ (.agg (fS ((fc s c.name++fX s (cN s c) c.left++fX s (cN s c) c.right)++d)).enc):=λd t lo hd=>fin _ _ _ _ (by rw[iN,tx,aw ec,aw sB,aI h8,hd])
  by_cases k8:c.right.kind=8\/c.right.kind=9
  .have mg:(decide (c.right.kind=8)=aa)\/(decide (c.right.kind=8)=aq/\decide (c.right.kind=9)=aa):=by
    by_cases h:c.right.kind=8
    .exact .inl (aB h)
    .exact .inr ⟨az h,aB (by simpa [h] using k8)⟩
   rcases mg with q1 | ⟨q1,q2⟩
   case' inl=>simp only[am,Nat.reduceAdd,Int.reduceNeg,lU,q1]
   case' inr=>simp only[am,Nat.reduceAdd,Int.reduceNeg,lU,q1,q2]
   all_goals
    refine bA.intro (Gb Z b D (fc s c.name++fX s (cN s c) c.left++fX s (cN s c) c.right) s (cN s c) c.pos 6 c.right.pos (by omega)) ?_;simp only[am,Int.reduceNeg,j6];refine cl (cF.cY (as' := [.sl .no 2 (((fc s c.name++fX s (cN s c) c.left++fX s (cN s c) c.right)++[(⟨6,c.right.pos⟩:aM)]).map aM.enc)]) (zA ((fc s c.name++fX s (cN s c) c.left++fX s (cN s c) c.right)++[(⟨6,c.right.pos⟩:aM)]) _ (by simp only[bW,fx];omega)) ⟨dr.no,trivial⟩ br.rfl) ?_;simp only[am,Int.reduceNeg,aM.ak];exact done _ _ _ (by rw[tz,aI k8])
  .simp only[am,Nat.reduceAdd,Int.reduceNeg,lU,az (λh=>k8 (.inl h)),az (λh=>k8 (.inr h))];refine bA.intro (BR Z b D (fc s c.name++fX s (cN s c) c.left++fX s (cN s c) c.right) s (cN s c) c.pos 6 c.right.pos (by omega)) ?_;simp only[am,Int.reduceNeg,j6];refine cl (cF.cY (as' := [.sl .no 2 ((fc s c.name++fX s (cN s c) c.left++fX s (cN s c) c.right).map aM.enc)]) (zA (fc s c.name++fX s (cN s c) c.left++fX s (cN s c) c.right) _ (by omega)) ⟨dr.no,trivial⟩ br.rfl) ?_;simp only[am,Int.reduceNeg,aM.ak]
   have:=done [] ?_ ?_ (by rw[tz,aw k8])
   .rw[eM] at this;exact this
 simp only[am,Int.reduceNeg,az h8]
 by_cases h9:c.op=9
 .simp only[am,Int.reduceNeg,bM,aB h9];refine cl (Xy Z b D [] s (-1) c.pos c.name (by simp) hs) ?_;rw[e1,kN];simp only[am,Int.reduceNeg,Nd.ak,bM];refine cl (XH Z b D (fc s c.name) s (cN s c) c.pos c.left hs hg hb an (by omega) hl jW) ?_;simp only[am,Int.reduceNeg,Nd.ak,bM];have r1:=@WJ s (cN s c) c.pos c.left;have r2:=@WJ s (cN s c) c.pos c.right;refine cl (XH Z b D (fc s c.name++qh s (cN s c) c.pos c.left) s (cN s c) c.pos c.right hs hg hb an (by simp only[bW];omega) hr oH) ?_;simp only[am,Int.reduceNeg,j6];refine cl (cF.cY (as' := [.sl .no 2 ((fc s c.name++qh s (cN s c) c.pos c.left++qh s (cN s c) c.pos c.right).map aM.enc)]) (zA (fc s c.name++qh s (cN s c) c.pos c.left++qh s (cN s c) c.pos c.right) _ (by simp only[bW];omega)) ⟨dr.no,trivial⟩ br.rfl) ?_;simp only[am,Int.reduceNeg,aM.ak];exact fin _ _ _ _ (by rw[iN,tx];rw[aw ec,aw sB,aw h8,aI h9])
 simp only[am,Int.reduceNeg,j6,az h9];refine cl (cF.cY (as' := [.sl .no 2 (([]:List aM).map aM.enc)]) (zA ([]:List aM) _ (by simp)) ⟨dr.no,trivial⟩ br.rfl) ?_;simp only[am,Int.reduceNeg,aM.ak];exact fin _ _ _ _ (by rw[iN,tx];rw[aw ec,aw sB,aw h8,aw h9])
def ahK:aR prog 36 (sq [rg 4 [oz 1],rg 5 [oz 6],sq [rg 7 [om 0,nL,oi 0],lp 8 0 (sq [rg 11 [om 9,o1 6],sq [rg 12 [om 6,nB .gtr 0],ci 13 (rg 14 [om 5,om 1,oq (.nV (.s 14) (.s 15)),o1 5])],rg 17 [om 5,om 0,om 6,nA 1 18,no,oq (.nV (.s 17) (.s 21)),o1 5]]) 23],rg 24 [om 5,oq (.vY (.s 24)),o1 4],.ret]) [.tmp 4] 26:=aS func36
def ahL:aR prog 37 (sq [rg 2 [oz 6],rg 3 [oz 6],sq [rg 6 [om 0,nL,oi 0],lp 7 0 (sq [rg 10 [oA 2 6 8,nl 2,oZ 5 [1,0],o2 2 5],rg 12 [om 3,fo 0 5,n1 1,na 1 12,o1 3]]) 17],rg 18 [om 3,o1 2],.ret]) [.tmp 2] 19:=aS func37
def ahM:aR prog 38 (sq [rg 2 [oz 1],rg 3 [om 0,oc 36 [.s 3,.c (.aH [44])],oq (.cat (.c (.aH [123])) (.s 4)),oq (.cat (.s 5) (.c (.aH [125]))),o1 2],.ret]) [.tmp 2] 7:=aS func38
def ahN:aR prog 39 (sq [rg 2 [oz 6],rg 3 [oz 6],sq [rg 6 [om 0,nL,oi 0],lp 7 0 (sq [rg 10 [oA 4 6 8,nl 4,oZ 5 [1,0,1,0],o2 4 5],rg 12 [om 3,oQ 2 2 5 0,nF 0,oq (.cat (.s 15) (.c (.aH [60]))),oQ 2 2 5 1,nF 0,oq (.cat (.s 16) (.s 19)),n1 1,na 1 12,o1 3]]) 23],rg 24 [om 3,o1 2],.ret]) [.tmp 2] 25:=aS func39
def lY(l:List (List UInt8)):List (List V):=l.map λs=>[V.aH s]
def xu{l:List (List UInt8)}:(lY l).length=l.length:=aD ..
def RS{l:List (List UInt8)}(h:l[j]?=U s):(lY l)[(j:Int).toNat]?=U [.aH s]:=by simp[lY,h]
def Fp(l:List (List UInt8))(sep:List UInt8)(Z:ab)(i D:Nat):St :=
 ⟨[.sl .no 1 (lY l),.aH sep,.any,.any,.any,.sl (.tk D) 1 (dW (ig sep (l.take i))),.any,.any,.int .i64 l.length,.int .i64 (i:Nat)]++aj 16 .any,[],Z.ba D (ig sep (l.take i)).length⟩
def NP(l:List (List UInt8))(sep:List UInt8)(Z:ab)(hl:l.length<=aJ)(hb:(ig sep l).length<=aJ) :
 aT 36 [.sl .no 1 (lY l),.aH sep] Z (.aH (ig sep l)):=by
 refine ahK.aP ?_;simp only[aO,am,aX,Nat.reduceAdd,xu];refine dP (λp:{p:Nat × Nat // Z.aY p.2=ah/\p.1<=l.length}=>Fp l sep Z p.1.1 p.1.2) (λp=>l.length - p.1.1) ?_ ?_
 .refine a7.s_ 0 λD a_=>⟨⟨(0,D),a_,by simp⟩,?_,rfl,rfl⟩
  simp[Fp,aj,jG,ig,dW]
 .rintro⟨⟨i,D⟩,a_,hi⟩;simp only at a_ hi;simp only[Fp,aj,am];have wi:IntKind.i64.wrap ((i:Int)+1)=((i+1:Nat):Int):=by simp only[aJ] at hl;rw[wrap_i64];simp
  by_cases an:i<l.length
  .have hs:=ak3 (sep:=sep) an;have hm:=ak2 (sep:=sep) (l:=l) (i:=i+1);rw[hs] at hm;simp only[bW] at hm;simp only[am,aB (show(i:Int)<l.length by omega)]
   by_cases h0:0<i
   case' pos =>
    rw[aI h0] at hs hm;simp only[am,cG,aB (show(0:Int)<i by omega)];refine⟨_,rfl,?_⟩;refine fe (by rw[pH,pH];omega) (by rw[pH,eR]) ?_;simp only[am,eJ];rw[<-KG,pH,pH,<-bW]
   case' neg =>
    rw[aw h0,eM] at hs;rw[aw h0] at hm;simp only[am,az (show ¬(0:Int)<i by omega)]
   all_goals
    refine ix (RS (bN an)) ?_;simp only[am,cG];refine⟨_,rfl,?_⟩;refine fe (by rw[pH,pH];simp at hm ⊢;omega) (by rw[pH,eR]) ?_;simp only[am,eJ,wi];rw[<-KG,pH,pH,<-bW,<-hs];exact a7.again (I:=λp:{p:Nat × Nat // Z.aY p.2=ah/\p.1<=l.length}=>Fp l sep Z p.1.1 p.1.2) (μ:=λp=>l.length - p.1.1) ⟨(i+1,D),a_,an⟩ (by simp;omega) (by simp[Fp,am,aj]) bV.rfl br.rfl
  .have an:i=l.length:=by omega
   subst an;simp only[am,cG,az (show ¬(l.length:Int)<l.length by omega),df];refine⟨_,_,rfl,?_⟩;refine aN rfl (gV a_) ⟨?_,rfl⟩;simp[V.erase]
def zt(l:List aF)(Z:ab)(i D:Nat)(au:List (List V)):St :=
 ⟨[.any,.any,.any,.sl (.tk D) 1 (lY ((l.take i).map aF.ar)),.any,.any,.sl .no 2 (l.map aF.enc),.int .i64 l.length,.int .i64 (i:Nat)]++aj 10 .any,au,Z.ba D i⟩
def AE{l:List (List UInt8)}:lY l++[[.aH s]]=lY (l++[s]):=by simp[lY]
def Ja(l:List aF)(Z:ab)(hl:l.length+1<=aJ):aT 37 [.sl .no 2 (l.map aF.enc)] Z (.sl .no 1 (lY (l.map aF.ar))):=by
 refine ahL.aP ?_;simp only[aO,am,aX,Nat.reduceAdd];refine dP (λp:{p:Nat × Nat // Z.aY p.2=ah/\p.1<=l.length}=>zt l Z p.1.1 p.1.2 []) (λp=>l.length - p.1.1) ?_ ?_
 .refine a7.s_ 0 λD a_=>⟨⟨(0,D),a_,by simp⟩,?_,rfl,rfl⟩
  simp[zt,aj,jG,lY]
 .rintro⟨⟨i,D⟩,a_,hi⟩;simp only at a_ hi;simp only[zt,aj,am];have wi:IntKind.i64.wrap ((i:Int)+1)=((i+1:Nat):Int):=by simp only[aJ] at hl;rw[wrap_i64];simp
  by_cases an:i<l.length
  .have xR:((l.take i).map aF.ar).length=i:=by simp;omega
   have pW:(l.take i).map aF.ar++[l[i].ar]=(l.take (i+1)).map aF.ar:=by rw[jg an,jf,Cc]
   simp only[am,aB (show(i:Int)<l.length by omega)];refine ix (mB (bN an)) ?_;simp only[am,Nat.reduceAdd,aF.enc];refine fe (by rw[xu,xR];simp;omega) (by rw[xu,xR,eR]) ?_;simp only[am,xu,eJ,wi,xR];rw[AE,pW];exact a7.lT (I:=λp:{p:Nat × Nat // Z.aY p.2=ah/\p.1<=l.length}=>zt l Z p.1.1 p.1.2 []) (μ:=λp=>l.length - p.1.1) ⟨(i+1,D),a_,an⟩ (by simp;omega) (by simp[zt,am,aj]) (by simp[zt,am]) br.rfl (by simp[zt,aj,bK,V.lo]) (by simp[zt,cp])
  .have an:i=l.length:=by omega
   subst an;simp only[am,az (show ¬(l.length:Int)<l.length by omega),df];refine aN rfl (gV a_) ⟨?_,rfl⟩;simp[V.erase]
def zu(l:List (aF × aF))(Z:ab)(i D:Nat)(au:List (List V)):St :=
 ⟨[.any,.any,.any,.sl (.tk D) 1 (lY ((l.take i).map kz)),.any,.any,.sl .no 4 (l.map dR),.int .i64 l.length,.int .i64 (i:Nat)]++aj 16 .any,au,Z.ba D i⟩
def ao5(l:List (aF × aF))(Z:ab)(hl:l.length+1<=aJ)(hp:jY l<=aJ):aT 39 [.sl .no 4 (l.map dR)] Z (.sl .no 1 (lY (l.map kz))):=by
 refine ahN.aP ?_;simp only[aO,am,aX,Nat.reduceAdd];refine dP (λp:{p:Nat × Nat // Z.aY p.2=ah/\p.1<=l.length}=>zu l Z p.1.1 p.1.2 []) (λp=>l.length - p.1.1) ?_ ?_
 .refine a7.s_ 0 λD a_=>⟨⟨(0,D),a_,by simp⟩,?_,rfl,rfl⟩
  simp[zu,aj,jG,lY]
 .rintro⟨⟨i,D⟩,a_,hi⟩;simp only at a_ hi;simp only[zu,aj,am];have wi:IntKind.i64.wrap ((i:Int)+1)=((i+1:Nat):Int):=by simp only[aJ] at hl;rw[wrap_i64];simp
  by_cases an:i<l.length
  .have xR:((l.take i).map kz).length=i:=by simp;omega
   have pW:(l.take i).map kz++[kz l[i]]=(l.take (i+1)).map kz:=by rw[jg an,jf,Cc]
   simp only[am,aB (show(i:Int)<l.length by omega)];refine ix (uh (bN an)) ?_;simp only[am,cG,Nat.reduceAdd,dR];have me:=apG an;refine i_ ?_;simp only[am,cG,Int.reduceToNat,Nat.reduceMul];refine⟨by simp;omega,?_⟩;refine i_ ?_;simp only[am,Int.reduceToNat,Nat.reduceMul];refine⟨by simp;omega,?_⟩;refine fe (by rw[xu,xR];simp;omega) (by rw[xu,xR,eR]) ?_;simp only[am,xu,eJ,wi,xR];rw[show l[i].1.ar++[60]++l[i].2.ar=kz l[i] from rfl,AE,pW];exact a7.lT (I:=λp:{p:Nat × Nat // Z.aY p.2=ah/\p.1<=l.length}=>zu l Z p.1.1 p.1.2 []) (μ:=λp=>l.length - p.1.1) ⟨(i+1,D),a_,an⟩ (by simp;omega) (by simp[zu,am,aj]) (by simp[zu,am]) br.rfl (by simp[zu,aj,bK,V.lo]) (by simp[zu,cp])
  .have an:i=l.length:=by omega
   subst an;simp only[am,az (show ¬(l.length:Int)<l.length by omega),df];refine aN rfl (gV a_) ⟨?_,rfl⟩;simp[V.erase]
def Q0(l:List (List UInt8))(Z:ab)(hl:l.length<=aJ)(hb:(cC l).length+2<=aJ):aT 38 [.sl .no 1 (lY l)] Z (.aH (Ay l)):=by
 refine ahM.aP ?_;simp only[aO,am,aX,Nat.reduceAdd];refine cl (NP l [44] Z hl (by rw[H_];omega)) ?_;simp only[am,H_];refine⟨by simp;omega,by simp;omega,?_⟩;refine aC ?_;simp[V.erase,Ay]
def afp:aR prog 15 (sq [rg 2 [ox 1 17 0,oz 1],rg 8 [fo 0 1,oC 35 [9],oZ 3 [1,1],o2 2 3],rg 11 [fo 0 3,n1 1,o1 4],rg 14 [of 7 1,nl 5,of 12 1,nl 5,oq (.km 5 [(.s 15),(.s 17)]),o1 5],.DG (rS 19 [fo 1 3]) (.s 20) 21 22 23 0 1 (sq [rg 24 [oe 22 2,o1 7],rg 25 [om 7],.block 2 (sq [rg 36 [oq (.dV .eql (.s 25) (.c (.int .i32 110))),o1 35],cd 35 (rg 37 [om 4,of 2 1,nF 0,n1 1,na 1 37,o1 4]) (sq [rg 44 [oq (.dV .eql (.s 25) (.c (.int .i32 102))),o1 43],cd 43 (rg 45 [om 4,fo 4 1,oC 37 [47],oc 36 [.s 48,.c (.aH [44])],n1 1,na 1 45,o1 4]) (sq [rg 53 [oq (.dV .eql (.s 25) (.c (.int .i32 119))),o1 52],cd 52 (rg 54 [om 4,fo 4 1,oC 37 [56],oC 38 [57],n1 1,na 1 54,o1 4]) (sq [rg 62 [oq (.dV .eql (.s 25) (.c (.int .i32 112))),o1 61],cd 61 (rg 63 [om 4,fo 5 1,oC 39 [65],oC 38 [66],n1 1,na 1 63,o1 4]) (sq [rg 26 [om 4,om 5,nI 5 0,nl 5,oC 40 [29],n1 1,na 1 26,o1 4],rg 33 [om 5,oq (.mu 5 (.s 33) (U (.c (.int .i64 1))) ah ah),o1 5]])])])])])]),rg 70 [om 4,oc 36 [.s 70,.c (.aH [32])],o1 2],.ret]) [.tmp 2] 72:=aS func15
def BP(c:aL)(Z:ab)(ks:List UInt8)(b i D:Nat):St :=
 ⟨[.any,.ptr (.au 0) 0,.any,.any,.sl (.tk D) 1 (lY (iD c (ks.take i)).1),.sl .no 5 ((iD c (ks.take i)).2.map Nd.enc)]++aj 15 .any++[.raw (.pointer (U ⟨b,0,ah⟩))]++aj 50 .any,[c.enc,[.aH (dc c.op).1,.aH ks]],Z.ba D (i+1)⟩
def ab8(c:aL)(hg:Z.cQ 0=U il)(hw:16*c.wt+64<=aJ):aT 15 [.agg c.enc] Z (.aH (q_ c)):=by
 have HE:c.wt=c.name.ar.length+eK c.al+jY c.a8+c.left.wt+c.right.wt:=rfl;have EY:=DE c.al;have E6:=Oh c.a8;refine afp.aP ?_;simp only[aO,am,aX,Nat.reduceAdd,cE,b8];refine cl (N0 c.op hg) ?_;simp only[am,Nat.reduceAdd,Nd.ak,bM];refine Po ?_;simp only[am];have AZ:=SH c.op;have wA:q_ c=ig [32] (iD c (dc c.op).2).1:=rfl;have kT:=EE c.op;generalize fp:(dc c.op).2=ks at AZ wA kT;refine⟨ks,rfl,by rw[<-fp];exact K0 c.op,λb i aU => ∃D:{D:Nat // Z.aY D=ah},aU = BP c Z ks b i D.1,?_,?_,?_,?_⟩
 .intro b;refine a7.s_ 1 λD a_=>⟨⟨D,a_⟩,?_,?_,rfl⟩
  .simp[BP,aj,jG,lY,iD];exact⟨jP.tok rfl,jP.le dr.no⟩
  .simp[BP]
 .rintro b i _ ⟨D,rfl⟩;exact⟨rfl,by simp[BP],by simp[BP]⟩
 .rintro b i k _ hk ⟨⟨D,a_⟩,rfl⟩;have hi:i<ks.length:=(fw.1 hk).1;have qG:ks.take (i+1)=ks.take i++[k]:=by rw[Aa hk]
  obtain⟨o1,o2,o3,o4⟩:=DD c (ks.take i);have pW:=Oe c (ks.take i) k;rw[<-qG] at pW;have n6:(lY (iD c (ks.take i)).1).length=i+1:=by rw[xu,o3,iu];omega
  have ey:∀n:UInt8,((k.toNat:Nat):Int)=(n.toNat:Nat)↔k=n:=λn=>by
   constructor
   .intro h;exact Eg.1 (by omega)
   .rintro rfl;rfl
  have tB:((k.toNat:Nat):Int)=110↔k=110:=ey 110;have tA:((k.toNat:Nat):Int)=102↔k=102:=ey 102;have uJ:((k.toNat:Nat):Int)=119↔k=119:=ey 119;have uI:((k.toNat:Nat):Int)=112↔k=112:=ey 112;have ht:=AZ i hi k hk;simp only[BP,aj,am];generalize hX:iD c (ks.take i)=X at *;obtain⟨rows,ts⟩:=X;simp only at o1 o2 o3 o4 n6;simp only;rw[pW];simp only[BQ];have zk:rows.length+1<=aJ:=by
   have:(List.take i ks).length<=3:=by rw[iu];omega
   simp only[aJ];omega
  by_cases k1:k=110
  .have hp:pe k c (ts.headD .zero)=c.name.ar:=by subst k1;rfl
   have hq:isTerm k=false:=by subst k1;rfl
   simp only[am,bM,aB (tB.2 k1),hp,hq];refine fe (by rw[n6];simp only[fx,aJ] at *;omega) (by rw[n6,eR]) ?_;simp only[am,cG,eJ,n6];rw[AE];exact a7.cY (by simp[am]) (by simp[am]) br.rfl ⟨⟨D,a_⟩,rfl⟩
  simp only[am,az (λh=>k1 (tB.1 h))]
  by_cases k2:k=102
  .have hp:pe k c (ts.headD .zero)=cC (c.al.map aF.ar):=by subst k2;rfl
   have hq:isTerm k=false:=by subst k2;rfl
   simp only[am,bM,aB (tA.2 k2),hp,hq];refine cl (Ja c.al _ (by omega)) ?_;simp only[am];refine cl (NP (c.al.map aF.ar) [44] _ (by rw[aD];omega) (by rw[H_];omega)) ?_;simp only[am,H_];refine fe (by rw[n6];simp only[fx,aJ] at *;omega) (by rw[n6,eR]) ?_;simp only[am,cG,eJ,n6];rw[AE];exact a7.cY (by simp[am]) (by simp[am]) br.rfl ⟨⟨D,a_⟩,rfl⟩
  simp only[am,az (λh=>k2 (tA.1 h))]
  by_cases k3:k=119
  .have hp:pe k c (ts.headD .zero)=Ay (c.al.map aF.ar):=by subst k3;rfl
   have hq:isTerm k=false:=by subst k3;rfl
   simp only[am,bM,aB (uJ.2 k3),hp,hq];refine cl (Ja c.al _ (by omega)) ?_;simp only[am];refine cl (Q0 (c.al.map aF.ar) _ (by rw[aD];omega) (by omega)) ?_;simp only[am];refine fe (by rw[n6];simp only[fx,aJ] at *;omega) (by rw[n6,eR]) ?_;simp only[am,cG,eJ,n6];rw[AE];exact a7.cY (by simp[am]) (by simp[am]) br.rfl ⟨⟨D,a_⟩,rfl⟩
  simp only[am,az (λh=>k3 (uJ.1 h))]
  by_cases k4:k=112
  .have hp:pe k c (ts.headD .zero)=Ay (c.a8.map kz):=by subst k4;rfl
   have hq:isTerm k=false:=by subst k4;rfl
   simp only[am,bM,aB (uI.2 k4),hp,hq];refine cl (ao5 c.a8 _ (by omega) (by omega)) ?_;simp only[am];refine cl (Q0 (c.a8.map kz) _ (by rw[aD];omega) (by omega)) ?_;simp only[am];refine fe (by rw[n6];simp only[fx,aJ] at *;omega) (by rw[n6,eR]) ?_;simp only[am,cG,eJ,n6];rw[AE];exact a7.cY (by simp[am]) (by simp[am]) br.rfl ⟨⟨D,a_⟩,rfl⟩
  simp only[am,az (λh=>k4 (uI.1 h))];have hq:isTerm k=true:=by simp[isTerm,k1,k2,k3,k4]
  have Mv:=ht hq;obtain⟨n,ns,xS⟩:∃n ns,ts=n::ns:=by
   rw[o4]
   match (List.filter isTerm (List.take i ks)).length,Mv with
   | 0,_=>exact⟨_,_,rfl⟩
   | 1,_=>exact⟨_,_,rfl⟩
  have hnw:n.wt<=c.wt:=o2 n (by rw[xS];simp);have hp:pe k c (ts.headD .zero)=n.dS:=by rw[xS];simp[pe,k1,k2,k3,k4]
  have sN:ts.map Nd.enc=n.enc::ns.map Nd.enc:=by rw[xS];rfl
  have xR:ts.tail=ns:=by rw[xS];rfl
  simp only[am,hp,hq,xR,sN];refine ka (c:=n.enc) (by simp) ?_;simp only[am,Nd.ak];refine cl (asY _ n _ (b7 _) (by omega)) ?_;simp only[am];refine fe (by rw[n6];simp only[fx,aJ] at *;omega) (by rw[n6,eR]) ?_;simp only[am,cG,eJ,n6];refine ast (a:=1) (by simp) ?_;simp only[am,cG];rw[AE];exact a7.cY (by simp[am]) (by simp[am]) br.rfl ⟨⟨D,a_⟩,rfl⟩
 .rintro b _ ⟨⟨D,a_⟩,rfl⟩;simp only[BP,aj,am];rw[df];obtain⟨o1,o2,o3,o4⟩:=DD c ks;have sJ:=Uo _ o1;rw[o3] at sJ;have HN:(ig [32] (iD c ks).1).length<=aJ:=by
   have:(ks.length+1)*(c.wt+8+1)<=4*(c.wt+8+1):=sd _ (by omega)
   omega
  refine(cF.cY (NP (iD c ks).1 [32] (Z.ba D (ks.length+1)) (by rw[o3];simp only[aJ];omega) HN) ?_ br.rfl).mono ?_
  .simp[am]
  rintro v _ ⟨rfl,rfl⟩;simp only[am];refine aN rfl (gV a_) ⟨?_,rfl⟩;rw[wA];rfl
def aeM:aR prog 111 (sq [rg 2 [oz 6],rg 3 [oz 6],sq [rg 6 [om 0,nL,oi 0],lp 7 0 (sq [rg 10 [oA 2 6 8,nl 2,oZ 5 [1,0],o2 2 5],rg 12 [om 3,fo 0 5,n1 1,na 1 12,o1 3]]) 17],rg 18 [om 3,o1 2],.ret]) [.tmp 2] 19:=aS func111
def aeQ:aR prog 115 (sq [rg 0 [ox 1 17 0,oR 2 kG],rg 7 [fo 4 1,oC 111 [8],o1 3],rg 4 [oz 7],sq [rg 10 [fo 5 1,nL,oi 0],lp 12 0 (sq [rg 15 [oA 4 11 13,nl 4,oZ 6 [1,0,1,0],o2 4 6],dg 17 [om 4,om 3,oQ 2 2 6 0,nF 0,oC 112 [18,21],om 3,oQ 2 2 6 1,nf 0,mM [0],no,oC 112 [23,26],oW [0,0] [(0,1,22),(1,1,27)],n1 2,na 2 17,o1 4]]) 31],rg 32 [om 3,nL,om 4,oC 165 [33,34],oC 164 [35],o2 65 2],.ret]) [.cell 2 aa 65] 37:=aS func115
def afF:aR prog 165 (sq [rg 0 [oR 4 kG],rg 8 [om 0,oC 222 [8],oR 5 kG,o2 65 5],sq [rg 10 [om 1,nL,oi 0],lp 11 0 (sq [rg 14 [oA 2 10 12,nl 2,oZ 7 [0,0],o2 2 7],rg 16 [ol 65 5,fo 0 7,oC 223 [16,18],gA,ol 65 5,fo 1 7,oC 223 [21,23],gZ],ci 25 (dg 26 [of 0 7,mM [1],no,fo 0 7,of 1 5,oP 64 1 30 29,no,fo 1 7,oC 220 [32,34],of 1 5,oP 64 1 36 27,os 1 37 35])]) 38],rg 39 [ol 65 5,o2 65 4],.ret]) [.cell 4 aa 65] 40:=aS func165
def agB:aR prog 223 (sq [rg 4 [ox 2 65 0,oz 2],rg 5 [om 1,nB .geq 0,gA,om 1,ol 65 2,oC 213 [9],nb .lss 8,gZ,o1 4],.ret]) [.tmp 4] 13:=aS func223
def zL(p:Int × Int):List V:=[.int .i64 p.1,.int .i64 p.2]
def WE(r:Rl)(i:Int)(Z:ab):aT 223 [.agg r.enc,.int .i64 i] Z (.bool (decide (0<=i)&&decide (i<(bm r:Nat)))):=by
 refine agB.aP ?_;simp only[aO,am,aX,Nat.reduceAdd,Rl.ak]
 by_cases h:0<=i
 .simp only[am,Rl.ak,aB h];refine cl (BH r Z) ?_;simp only[am];refine aC ?_;simp[V.erase]
 .simp only[am,az h];refine aC ?_;simp[V.erase]
def apE{l:List (Int × Int)}(h:j<l.length):(l.map zL)[((j:Nat):Int).toNat]?=U (zL l[j]):=by simp[h]
def aq6(n:Int)(l:List (Int × Int))(Z:ab)(hl:l.length<=100000):aT 165 [.int .i64 n,.sl .no 2 (l.map zL)] Z (.agg (nH n l).enc):=by
 refine afF.aP ?_;simp only[aO,am,aX,Nat.reduceAdd,Rl.ak];refine cl (Vl n Z) ?_;simp only[am,aD,Rl.ak,aD];refine ct (l.length) (λi (x:Unit)=>⟨[.any,.any,.any,.any,.ptr (.au 0) 0,.ptr (.au 1) 0,.any,.any,.any,.any,.sl .no 2 (l.map zL),.int .i64 (l.length:Nat),.int .i64 (i:Nat)]++aj 27 .any,[Rl.zero.enc,(nH n (l.take i)).enc],Z⟩) (λi x=>(True)) λF hF JF aW=>⟨?_,?_,?_⟩
 .refine en aW (()) (trivial) ?_ ?_ ?_
  all_goals simp[hF,aj,am,bd,nH]
 .rintro i x hi -;have hT:=Vw (n:=n) hi;generalize hr:nH n (l.take i)=r at hT;have hp:=@jc r;obtain⟨p,E6⟩:∃p,l[i]=p:=⟨_,rfl⟩;rw[E6] at hT;simp only[hF,aj,am,ca hi];refine ix (apE hi) ?_;rw[E6,hr];obtain⟨a,b⟩:=p;simp only[am,Nat.reduceAdd,Rl.ak,zL];refine cl (WE r a Z) ?_
  by_cases ha:0<=a/\a<(bm r:Nat)
  .simp only[am,Rl.ak,aB ha.1,aB ha.2];refine cl (WE r b Z) ?_
   by_cases hb:0<=b/\b<(bm r:Nat)
   .obtain⟨k,rfl⟩:∃k:Nat,a=k:=⟨a.toNat,by omega⟩;have hk:k<64:=by omega
    have e:nH n (l.take (i+1))=r.put k (j5 (r.get k) b):=by rw[hT,ud,aI ⟨ha,hb⟩];rfl
    simp only[am,cG,aB hb.1,aB hb.2];refine i_ ?_;simp only[am,gK,qw,Rl.wZ hk];refine bA.intro (FM (r.get k) b Z) ?_;simp only[am,cG];refine i_ ?_;simp only[yy,Rl.wY hk,Rl.w7 hk,bF hi];refine db (()) hi ?_ ?_ ?_ ?_ ?_ ?_
    .exact cI (aW _ _) (trivial)
    all_goals simp[hF,aj,am,bd,bK,cp,V.lo,e,Rl.bP]
   .have e:nH n (l.take (i+1))=r:=by rw[hT,ud,aw λh=>hb h.2]
    have cn : (decide (0<=b)&&decide (b<(bm r:Nat)))=false:=by rw[<-yA];exact az hb
    simp only[am,aK,cn,bF hi];refine db (()) hi ?_ ?_ ?_ ?_ ?_ ?_
    .exact cI (aW _ _) (trivial)
    all_goals simp[hF,aj,am,bd,bK,cp,V.lo,e,Rl.bP]
  .have e:nH n (l.take (i+1))=r:=by rw[hT,ud,aw λh=>ha h.1]
   have y7 : (decide (0<=a)&&decide (a<(bm r:Nat)))=false:=by rw[<-yA];exact az ha
   simp only[am,aK,y7,bF hi];refine db (()) hi ?_ ?_ ?_ ?_ ?_ ?_
   .exact cI (aW _ _) (trivial)
   all_goals simp[hF,aj,am,bd,bK,cp,V.lo,e,Rl.bP]
 .rintro x -;simp only[hF,aj,am,aK,cy,aK,Rl.ak,df];exact aN (v:=.agg (nH n l).enc) Rl.dL (ab.bc _) ⟨by simp only[V.erase,Rl.dy],rfl⟩
def O6(l:List aF)(Z:ab)(hl:l.length<=100000):aT 111 [.sl .no 2 (l.map aF.enc)] Z (.sl .no 1 (dh (cf l))):=by
 refine aeM.aP ?_;simp only[aO,am,aX,Nat.reduceAdd,aD];refine ct (l.length) (λi (D:Nat)=>⟨[.any,.any,.any,.sl (.tk D) 1 (dh (cf (l.take i))),.any,.any,.sl .no 2 (l.map aF.enc),.int .i64 (l.length:Nat),.int .i64 (i:Nat)]++aj 10 .any,[],Z.ba D i⟩) (λi D=>(Z.aY D=ah)) λF hF JF aW=>⟨?_,?_,?_⟩
 .refine AG 0 λD a_=>⟨D,cI (aW _ _) a_,?_,?_,?_⟩
  all_goals simp[hF,aj,jG,cf,dh]
 .rintro i D hi a_;have hlen:(dh (cf (l.take i))).length=i:=by rw[iH,r8,iu];omega
  have hs:dh (cf (l.take (i+1)))=dh (cf (l.take i))++[[.aH l[i].ar]]:=by rw[jg hi];simp only[cf,dh,jf,dz,eQ]
  simp only[hF,aj,am,ca hi];refine ix (tg hi) ?_;simp only[am,aF.ak,td];refine fe (by rw[hlen];simp[aJ];omega) (by rw[hlen];exact eR) ?_;rw[hlen];simp only[am,aK,eJ,bF hi,fx];refine db (D) hi ?_ ?_ ?_ ?_ ?_ ?_
  .exact cI (aW _ _) (a_)
  all_goals simp[hF,aj,am,bd,bK,cp,V.lo,hs]
 .rintro D a_;simp only[hF,aj,am,aK,cy,aK,df];refine aN rfl (gV a_) ⟨rfl,rfl⟩
def wO(P:aF × aF->Int × Int)(l:List (aF × aF)):List (List V):=(l.map P).map zL
def apA{P:aF × aF->Int × Int}{l:List (aF × aF)}:(wO P l).length=l.length:=by simp[wO]
def zJ{l:List (aF × aF)}(h:j<l.length):(l.map dR)[((j:Nat):Int).toNat]?=U (dR l[j]):=by simp[h]
def aqM(c:aL)(Z:ab)(hn:c.al.length<=100000)(hp:c.a8.length<=100000):aT 115 [.agg c.enc] Z (.agg (sX c).enc):=by
 refine aeQ.aP ?_;simp only[aO,am,aX,Nat.reduceAdd,Rl.ak];simp only[am,cE,bM];refine cl (O6 c.al Z hn) ?_;simp only[am,aD,aD,bM];have hw:(cf c.al).length<=100000:=by rw[r8];exact hn
 generalize hP:BG (cf c.al)=P;refine ct (c.a8.length) (λi (D:Nat)=>⟨[.any,.ptr (.au 0) 0,.ptr (.au 1) 0,.sl .no 1 (dh (cf c.al)),.sl (.tk D) 2 (wO P (c.a8.take i)),.any,.any,.any,.any,.any,.any,.sl .no 4 (c.a8.map dR),.int .i64 (c.a8.length:Nat),.int .i64 (i:Nat)]++aj 23 .any,[c.enc,Rl.zero.enc],Z.ba D i⟩) (λi D=>(Z.aY D=ah)) λF hF JF aW=>⟨?_,?_,?_⟩
 .refine AG 0 λD a_=>⟨D,cI (aW _ _) a_,?_,?_,?_⟩
  all_goals simp[hF,aj,jG,wO]
 .rintro i D hi a_;have hlen:(wO P (c.a8.take i)).length=i:=by rw[apA,iu];omega
  have hs:wO P (c.a8.take (i+1))=wO P (c.a8.take i)++[zL (P c.a8[i])]:=by rw[jg hi];simp only[wO,jf,dz,eQ]
  simp only[hF,aj,am,ca hi];refine ix (zJ hi) ?_;simp only[am,cG,Nat.reduceAdd,dR];refine i_ ?_;simp only[am,Int.reduceToNat,Nat.reduceMul];refine bA.intro (xw (cf c.al) c.a8[i].1.ar (Z.ba D i) hw) ?_;simp only[am,cG];refine i_ ?_;simp only[am,Int.reduceToNat,Nat.reduceMul];refine bA.intro (xw (cf c.al) c.a8[i].2.ar (Z.ba D i) hw) ?_;simp only[am,Nat.reduceAdd];refine vS (by rw[hlen];simp[aJ];omega) (by rw[hlen];exact eR) ?_;rw[hlen];have he:[V.int .i64 (bY (dt (cf c.al) c.a8[i].1.ar)),.int .i64 (bY (dt (cf c.al) c.a8[i].2.ar))]=zL (P c.a8[i]):=by rw[<-hP];rfl
  rw[he];simp only[am,aK,eJ,bF hi,fx];refine db (D) hi ?_ ?_ ?_ ?_ ?_ ?_
  .exact cI (aW _ _) (a_)
  all_goals simp[hF,aj,am,bd,bK,cp,V.lo,hs,aL.enc,aL.cz,Rl.bP]
 .rintro D a_;simp only[hF,aj,am,aK,cy,aK,iH,df];rw[r8];refine cl (cF.cY (as' := [.int .i64 (c.al.length:Nat),.sl .no 2 (wO P c.a8)]) (show cF prog 165 [.int .i64 (c.al.length:Nat),.sl .no 2 (wO P c.a8)] _ _ from aq6 (c.al.length:Nat) (c.a8.map P) _ (by simpa using hp)) ⟨dr.rfl,dr.no,trivial⟩ br.rfl) ?_;simp only[am,Rl.ak];refine cl (Rh _ _) ?_;simp only[am,Rl.ak];subst hP;exact aN (v:=.agg (sX c).enc) Rl.dL (gV a_) ⟨by simp only[V.erase,Rl.dy],rfl⟩
def aeR:aR prog 116 (sq [rg 0 [ox 2 2 0,ox 3 17 1,oZ 4 [2,72]],rg 5 [oz 7],sq [rg 10 [fo 4 3,nL,oi 0],lp 12 0 (sq [rg 15 [oA 2 11 13,nl 2,oZ 7 [1,0],o2 2 7],rg 18 [ol 2 2,fo 0 7,oC 63 [18,20],o1 17,oe 17 0,oe 17 1,ot 8 22,o1 9],rg 24 [om 8,nB .geq 0],ci 25 (rg 26 [om 5,fo 0 2,om 8,nA 3 28,nf 1,nl 2,n1 2,na 2 26,o1 5])]) 35],rg 36 [om 5,oC 166 [36],o2 2 4],.ret]) [.cell 4 aa 2] 38:=aS func116
def afG:aR prog 166 (sq [rg 0 [oZ 2 [2,72]],rg 8 [oG [2,72] [(0,1,.c (.bool aa))],oZ 3 [2,72],o2 2 3],sq [rg 9 [om 0,nL,oi 0],lp 10 0 (sq [rg 13 [oA 2 9 11,nl 2,oZ 5 [2,72],o2 2 5],rg 15 [fo 1 5,nL,oi 0],lp 17 2 (sq [rg 20 [oA 67 16 18,nl 67,oR 7 rp,o2 67 7],dg 22 [of 1 3,mM [1],no,ol 67 7,oC 224 [24],n1 67,na 67 23,of 1 3,os 1 28 27]]) 29]) 30],rg 31 [ol 2 3,o2 2 2],.ret]) [.cell 2 aa 2] 32:=aS func166
def agC:aR prog 224 (sq [rg 0 [ox 1 67 0,oR 2 rp],rg 3 [oq (.km 1 []),fo 1 1,na 1 3,of 1 1,os 1 7 6],rg 8 [ol 67 1,o2 67 2],.ret]) [.cell 2 aa 67] 9:=aS func224
theorem ad'{f:bn}:cB 1 (f.enc.drop 1)=true:=rfl
def aec{f:bn}:setAt f.enc 1 [.sl .no 1 (dh f.al)]=f.enc:=by rw[bn.enc,jZ,mr,qa,mP]
def abo(f:bn)(Z:ab)(hf:f.al.length<=100000):aT 224 [.agg f.enc] Z (.agg f.enc):=by
 refine agC.aP ?_;simp only[aO,am,aX,Nat.reduceAdd,bn.ak];refine Ej (by simp[iH,aJ];omega) ?_;simp only[am,bn.ak,ad',kN,aec];exact aN (v:=.agg f.enc) bn.dL (ab.bc _) ⟨by simp only[V.erase,bn.dy],rfl⟩
def asl{l:List bJ}(h:j<l.length):(l.map bJ.enc)[((j:Nat):Int).toNat]?=U l[j].enc:=by simp[h]
def aee{l:List bn}(h:j<l.length):(l.map bn.enc)[((j:Nat):Int).toNat]?=U l[j].enc:=by simp[h]
def qB(l:List bn):List (List V):=l.map bn.enc
def Se{l:List bn}:(qB l).length=l.length:=by simp[qB]
def ad9{l:List bn}{f:bn}:qB (l++[f])=qB l++[f.enc]:=by simp[qB]
def apC(l:List bJ)(Z:ab)(hl:l.length<=100000)(hs:∀s∈l,s.bB.length<=100000/\∀f∈s.bB,f.al.length<=100000)(hb:(l.flatMap bJ.bB).length<=100000000) :
 aT 166 [.sl .no 2 (l.map bJ.enc)] Z (.agg (IF l).enc):=by
 have hT:∀{i:Nat} (hi:i<l.length),(l.take (i+1)).flatMap bJ.bB=(l.take i).flatMap bJ.bB++l[i].bB:=λ{i} hi=>by rw[jg hi,py];simp
 have hL:∀{i:Nat} (hi:i<l.length),((l.take i).flatMap bJ.bB).length+l[i].bB.length<=100000000:=λ{i} hi=>by
  have h1:(l.take (i+1)++l.drop (i+1)).flatMap bJ.bB=l.flatMap bJ.bB:=by rw[pA]
  rw[<-h1,py,hT hi] at hb;simp only[bW] at hb;omega
 refine afG.aP ?_;simp only[aO,am,aX,Nat.reduceAdd,aD];obtain⟨Q,hQ⟩:∃Q:Nat->List bn,∀i,Q i=(l.take i).flatMap bJ.bB:=⟨_,λ_=>rfl⟩;have uP:Q 0=[]:=by rw[hQ];rfl
 have wc:Q l.length=(IF l).bB:=by rw[hQ,df];rfl
 refine ct (l.length) (λi (D:Nat)=>⟨[.any,.any,.ptr (.au 0) 0,.ptr (.au 1) 0,.any,.any,.any,.any,.any,.sl .no 2 (l.map bJ.enc),.int .i64 (l.length:Nat),.int .i64 (i:Nat)]++aj 20 .any,[[.bool aq,.sl .a9 67 []],[.bool aa,.sl (.tk D) 67 (qB (Q i))]],Z.ba D (Q i).length⟩) (λi D=>(Z.aY D=ah)) λF hF JF aW=>⟨?_,?_,?_⟩
 .refine Hc 0 λD a_=>⟨D,cI (aW _ _) a_,?_,?_,?_⟩
  all_goals simp[hF,aj,jG,Il,uP,qB]
 .rintro i D hi a_;have hsi:=hs _ (dq hi);have Tf:=hL hi;rw[<-hQ] at Tf;have qC:Q (i+1)=Q i++l[i].bB:=by rw[hQ,hQ,hT hi]
  simp only[hF,aj,am,ca hi];refine ix (asl hi) ?_;simp only[am,Nat.reduceAdd,aD,bJ.ak,aD];generalize Q i=q at Tf qC;obtain⟨W,hW⟩:∃W:Nat->List bn,∀j,W j=q++l[i].bB.take j:=⟨_,λ_=>rfl⟩;have hW0:q=W 0:=by rw[hW];simp
  have hWn:W l[i].bB.length=Q (i+1):=by rw[hW,df,qC]
  rw[hW0];refine ct (l[i].bB.length) (λj (x:Unit)=>⟨[.any,.any,.ptr (.au 0) 0,.ptr (.au 1) 0,.any,.any,.any,.any,.any,.sl .no 2 (l.map bJ.enc),.int .i64 (l.length:Nat),.int .i64 (i:Nat),.any,.any,.any,.any,.sl .no 67 (l[i].bB.map bn.enc),.int .i64 (l[i].bB.length:Nat),.int .i64 (j:Nat)]++aj 13 .any,[[.bool aq,.sl .a9 67 []],[.bool aa,.sl (.tk D) 67 (qB (W j))],l[i].enc],Z.ba D (W j).length⟩) (λj x=>(True)) λF2 bT mE cX=>⟨?_,?_,?_⟩
  .refine en cX (()) (trivial) ?_ ?_ ?_
   all_goals simp[bT,aj,am,bd]
  .rintro j x hj -;have Tp:W (j+1)=W j++[l[i].bB[j]]:=by rw[hW,hW,jg hj,fP]
   have hWl:(W j).length+1<=100000000:=by rw[hW];simp only[bW,iu];omega
   have hlen:(qB (W j)).length=(W j).length:=Se;have ajC:(W (j+1)).length=(W j).length+1:=by rw[Tp];simp
   simp only[bT,aj,am,ca hj];refine ix (aee hj) ?_;simp only[am,Nat.reduceAdd,bn.ak];refine bA.intro (abo l[i].bB[j] (Z.ba D (W j).length) (hsi.2 _ (dq hj))) ?_;simp only[am,bn.ak];refine vS (by rw[hlen];simp[aJ];omega) (by rw[hlen];exact eR) ?_;rw[hlen];simp only[am,aK,eJ,bF hj,fx];rw[<-ad9,<-Tp,<-ajC];refine db (()) hj ?_ ?_ ?_ ?_ ?_ ?_
   .exact cI (cX _ _) (trivial)
   all_goals simp[bT,aj,am,bd,bK,cp,V.lo,bJ.bP]
  .rintro x -;simp only[bT,aj,am,aK,cy,Nat.reduceAdd,Nat.reduceEqDiff,aK,reduceCtorEq,bF hi,hWn];refine db (D) hi ?_ ?_ ?_ ?_ ?_ ?_
   .exact cI (aW _ _) (a_)
   all_goals simp[hF,aj,am,bd,bK,cp,V.lo]
 .rintro D a_;simp only[hF,aj,am,aK,cy,Nat.reduceAdd,aK,wc];refine aN rfl (gV a_) ⟨rfl,rfl⟩
variable{w:aF}
def UE{s:aG}:(o6 s w).length<=1:=by
 unfold o6;split
 .split<;>simp
 .simp
def zU(l:List bJ):List (List V):=l.map bJ.enc
def ash{l:List bJ}{s:bJ}:zU (l++[s])=zU l++[s.enc]:=by simp[zU]
def KT{f:aF->List bJ}(h:∀w,(f w).length<=1):∀{l:List aF},(l.flatMap f).length<=l.length
 | []=>by simp
 | w::ws=>by have:=KT h (l:=ws);have:=h w;simp only[xa,bW,da];omega
def KL{N:Nat}:∀{l:List bJ},(∀s∈l,s.bB.length<=N)->(l.flatMap bJ.bB).length<=l.length*N
 | [],_=>by simp
 | s :: ss, h => by
  have h1:=KL (N:=N) (l:=ss) λx hx=>h x (by simp[hx])
  have h2:=h s (by simp);simp only[xa,bW,da,GG];omega
def UF{s:aG}{x:bJ}(h:x∈o6 s w):∃l∈s.bt,x=l.shape:=by
 unfold o6 at h;split at h
 .split at h
  .rename_i y hy;exact⟨y,tq hy,by simpa using h⟩
  .simp at h
 .simp at h
def UH{s:aG}{k:Nat}(h:fu s.bt w.ar=U k)(hk:k<s.bt.length):o6 s w=[s.bt[k].shape]:=by
 simp only[o6,h,bN hk]
def UG{s:aG}(h:fu s.bt w.ar=ah):o6 s w=[]:=by simp only[o6,h]
def apB(s:aG)(c:aL)(Z:ab)(hs:s.x9)(hn:c.al.length<=100000):aT 116 [.agg s.enc,.agg c.enc] Z (.agg (sW s c).enc):=by
 refine aeR.aP ?_;simp only[aO,am,aX,Nat.reduceAdd,aG.ak];simp only[am,aD,aD,cE,bM];obtain⟨Q,hQ⟩:∃Q:Nat->List bJ,∀i,Q i=(c.al.take i).flatMap (o6 s):=⟨_,λ_=>rfl⟩;have uP:Q 0=[]:=by rw[hQ];rfl
 have uQ:∀i,(Q i).length<=100000:=λi=>by
  rw[hQ]
  have:=KT (f:=o6 s) (λ_=>UE) (l:=c.al.take i)
  rw[iu] at this;omega
 refine ct (c.al.length) (λi (D:Nat)=>⟨[.any,.any,.ptr (.au 0) 0,.ptr (.au 1) 0,.ptr (.au 2) 0,.sl (.tk D) 2 (zU (Q i)),.any,.any,.any,.any,.any,.sl .no 2 (c.al.map aF.enc),.int .i64 (c.al.length:Nat),.int .i64 (i:Nat)]++aj 24 .any,[s.enc,c.enc,[.bool aq,.sl .a9 67 []]],Z.ba D (Q i).length⟩) (λi D=>(Z.aY D=ah)) λF hF JF aW=>⟨?_,?_,?_⟩
 .refine AG 0 λD a_=>⟨D,cI (aW _ _) a_,?_,?_,?_⟩
  all_goals simp[hF,aj,jG,uP,zU]
 .rintro i D hi a_;have qC:Q (i+1)=Q i++o6 s c.al[i]:=by rw[hQ,hQ,jg hi,py];simp
  have L8:=uQ i;simp only[hF,aj,am,ca hi];refine ix (tg hi) ?_;simp only[am,Nat.reduceAdd,aG.ak,aF.ak,td];refine cl (yg s c.al[i].ar _ hs.1.1 hs.1.2.1) ?_;cases hf:fu s.bt c.al[i].ar with
  | none =>
   have e:Q (i+1)=Q i:=by rw[qC,UG hf,eM]
   simp only[am,c9,aK,Int.reduceNeg,Int.reduceLE,bY,bF hi];refine db (D) hi ?_ ?_ ?_ ?_ ?_ ?_
   .exact cI (aW _ _) (a_)
   all_goals simp[hF,aj,am,bd,bK,cp,V.lo,e,aG.bP,aL.enc,aL.cz]
  | some k =>
   have hk:=(y3 hf).1;have e:Q (i+1)=Q i++[s.bt[k].shape]:=by rw[qC,UH hf hk]
   have hlen:(zU (Q i)).length=(Q i).length:=by simp[zU]
   have e2:(Q (i+1)).length=(Q i).length+1:=by rw[e];simp
   simp only[am,Int.reduceNeg,aG.ak,bY,aB (show(0:Int)<=((k:Nat):Int) by omega)];refine ix (u7 hk) ?_;simp only[am,Int.reduceNeg,aG.ak,bJ.ak];refine fe (by rw[hlen];simp[aJ];omega) (by rw[hlen];exact eR) ?_;rw[hlen];simp only[am,aK,Int.reduceNeg,eJ,bF hi,fx];rw[<-ash,<-e,<-e2];refine db (D) hi ?_ ?_ ?_ ?_ ?_ ?_
   .exact cI (aW _ _) (a_)
   all_goals simp[hF,aj,am,bd,bK,cp,V.lo,aG.bP,aL.enc,aL.cz]
 .rintro D a_;have hq:=uQ c.al.length;have e:Q c.al.length=c.al.flatMap (o6 s):=by rw[hQ,df]
  have hm:∀x∈Q c.al.length,∃l∈s.bt,x=l.shape:=λx hx=>by
   rw[e] at hx;obtain⟨w,_,hx⟩:=GA.1 hx;exact UF hx
  have tM:=KL (N:=100) (l:=Q c.al.length) λx hx=>by obtain⟨l,hl,rfl⟩:=hm x hx;exact hs.2 l hl
  have Mg:sW s c=IF (Q c.al.length):=by rw[sW,e]
  simp only[hF,aj,am,aK,cy,aK];refine cl (cF.cY (as' := [.sl .no 2 (zU (Q c.al.length))]) (apC (Q c.al.length) _ (by omega) (λx hx=>by obtain⟨l,hl,rfl⟩:=hm x hx;exact hs.1.2.2 l hl) (by omega)) ⟨dr.no,trivial⟩ br.rfl) ?_;simp only[am,bJ.ak];refine aN rfl (gV a_) ⟨by rw[Mg];rfl,rfl⟩
def ahV:aR prog 50 (sq [rg 2 [oz 2],rg 3 [om 0,nB .geq 1,gA,om 0,nB .leq 5,gZ,o1 2],.ret]) [.tmp 2] 9:=aS func50
def ahW:aR prog 51 (sq [rg 2 [oz 2],rg 3 [om 0,nB .eql 6,gB,om 0,nB .eql 7,gZ,o1 2],.ret]) [.tmp 2] 9:=aS func51
def ahX:aR prog 52 (sq [rg 6 [om 0,mk 0,nf 2,nf 2,nF 0,oC 109 [6,12],o1 5,oe 5 0,oe 5 1,ot 2 14,o1 3],rg 16 [mk 0,nf 2,nf 2,nF 1,o1 4],sq [rg 22 [mk 0,nf 2,nF 0,oC 50 [26]],cr 27 28 [om 0,om 3,om 4,oc 110 [.s 28,.s 29,.c (.int .i64 3),.s 30]]],rg 32 [om 0,om 3,nn,om 4,oc 110 [.s 32,.s 34,.c (.int .i64 3),.s 35]],rg 37 [om 0,om 3,gA,om 2,nn,gZ,om 4,oc 110 [.s 37,.s 42,.c (.int .i64 4),.s 43]]]) [] 45:=aS func52
def ahY:aR prog 53 (sq [rg 8 [mk 0,nf 2,nF 4,oC 111 [12],o1 2],rg 14 [mk 0,nf 2,nF 4,nL,oi 0],lp 19 0 (sq [rg 22 [om 20,oA 2 18 20,nl 2,oZ 4 [1,0],ot 3 22,o2 2 4],rg 26 [om 0,fo 0 4,oC 109 [26,28],o1 25,oe 25 0,oe 25 1,ot 5 30,o1 6],sq [rg 32 [mk 0,nf 2,nF 0,nB .eql 3],ci 37 (sq [rg 38 [om 0,om 6,nn,fo 1 4,oc 110 [.s 38,.s 40,.c (.int .i64 3),.s 42]],rg 44 [om 0,om 6,gA,om 5,nn,gZ,fo 1 4,oc 110 [.s 44,.s 49,.c (.int .i64 4),.s 51]],(.exit 1)])],dg 53 [om 2,om 3,oq (.mu 1 (.s 53) ah (U (.s 54)) ah),fo 0 4,oC 112 [55,57],nB .geq 0,o1 7],dg 60 [om 0,om 7,nm,oh 62 (om 0),oh 62 (nk),oh 62 (nf 2),oh 62 (nf 0),oh 62 (no),oh 62 (oC 51 [67]),oh 62 (nm),og 69 (om 6),oh 62 (oy 69 70),oq (.pick (.s 62) (.c (.bool aa)) (.s 71)),of 1 4,mM [0],no,oc 110 [.s 60,.s 72,.c (.int .i64 3),.s 74]]]) 76]) [] 77:=aS func53
def aeJ:aR prog 109 (sq [rg 4 [oz 2,oz 2],rg 9 [mk 0,nf 0,nl 2,om 1,oC 63 [12,13],o1 8,oe 8 0,oe 8 1,ot 6 15,o1 7],rg 17 [om 6,nB .geq 0,om 6,nB .geq 0,gB,om 7,nB .geq 0,gZ,ot 4 18,o1 5],.ret]) [.tmp 4,.tmp 5] 25:=aS func109
def aeL:aR prog 110 (sq [rg 8 [om 1],ci 8 (rg 9 [om 0,mk 0,nF 19,om 2,om 3,oW [0,0] [(0,1,14),(1,1,15)],n1 2,na 2 13,ok 9,nf 19,os 1 20 18])]) [] 21:=aS func110
def rK(Z:ab)(b D:Nat)(l:List aM)(s:aG)(c:aL)(x y:Int)(is:Bool)(hl:l.length<=100000000) :
 d_ 110 [.ptr (.out b) 0,.bool is,.int .i64 x,.int .i64 y] (e_ Z b D l s c) (.bz []) (e_ Z b D (l++de is x y) s c):=by
 refine aeL.aP ?_;simp only[aO,am,aX,Nat.reduceAdd];cases is with
 | false =>
  simp only[am];exact aN rfl (ab.bc _) ⟨rfl,by simp[de]⟩
 | true =>
  simp only[am,Nat.reduceAdd,jE];refine fe (by simp[aJ];omega) (by rw[aD];exact Us) ?_;simp only[am,aD,aD,jE,fx,ak6];exact aN rfl (ab.bc _) ⟨rfl,by simp[de]⟩
variable{o:Option Nat}
def N6:decide (0<=bY o)=o.isSome:=by cases o<;>simp[bY]
def aoH:decide (bY o<0)=o.isNone:=by cases o with
 | none=>rfl
 | some k=>exact az (by simp only[bY];omega)
def Ul(Z:ab)(b D:Nat)(l:List aM)(s:aG)(c:aL)(t:List UInt8)(hs:s.ok) :
 d_ 109 [.ptr (.out b) 0,.aH t] (e_ Z b D l s c) (.bz [.bool (kZ s t),.bool (fJ s t)]) (e_ Z b D l s c):=by
 refine aeJ.aP ?_;simp only[aO,am,aX,Nat.reduceAdd,aG.ak,jE];refine cl (yg s t _ hs.1 hs.2.1) ?_;simp only[am,N6];cases hL:(fu s.bt t).isSome with
 | true =>
  simp only[am];refine aC ?_;simp[V.erase,aZ,kZ,fJ,hL]
 | false =>
  simp only[am,N6];refine aC ?_;simp[V.erase,aZ,kZ,fJ,hL]
def UC(op:Int)(Z:ab):aT 50 [.int .i64 op] Z (.bool (mj op)):=by
 refine ahV.aP ?_;simp only[aO,am,aX,Nat.reduceAdd]
 by_cases h:1<=op
 .simp only[am,aB h];refine aC ?_;simp[V.erase,mj,h]
 .simp only[am,az h];refine aC ?_;simp[V.erase,mj,h]
def Pk(op:Int)(Z:ab):aT 51 [.int .i64 op] Z (.bool (dZ op)):=by
 refine ahW.aP ?_;simp only[aO,am,aX,Nat.reduceAdd]
 by_cases h:op=6
 .simp only[am,aB h];refine aC ?_;simp[V.erase,dZ,h]
 .simp only[am,az h];refine aC ?_;simp[V.erase,dZ,h]
def akV(Z:ab)(b D:Nat)(l:List aM)(s:aG)(c:aL)(hs:s.ok)(hl:l.length<=90000000) :
 d_ 52 [.ptr (.out b) 0] (e_ Z b D l s c) (.bz []) (e_ Z b D (l++tH s c) s c):=by
 refine ahX.aP ?_;simp only[aO,am,aX,Nat.reduceAdd,jE];refine cl (Ul Z b D l s c c.name.ar hs) ?_;simp only[am,Nat.reduceAdd,jE];refine cl (UC c.op _) ?_;cases h5:mj c.op with
 | true =>
  simp only[am];refine cl (rK Z b D l s c 3 c.name.pos (fJ s c.name.ar) (by omega)) ?_;simp only[am];exact aN rfl (ab.bc _) ⟨rfl,by rw[tH,aI h5]⟩
 | false =>
  have e:tH s c=de (!fJ s c.name.ar) 3 c.name.pos++de (fJ s c.name.ar&&!kZ s c.name.ar) 4 c.name.pos:=by rw[tH,h5];rfl
  have hlen:=@pn (!fJ s c.name.ar) 3 c.name.pos;simp only[am];refine cl (rK Z b D l s c 3 c.name.pos (!fJ s c.name.ar) (by omega)) ?_;cases hv:fJ s c.name.ar with
  | true =>
   rw[hv] at hlen e;simp only[am];refine cl (rK Z b D (l++de (!aa) 3 c.name.pos) s c 4 c.name.pos (!kZ s c.name.ar) (by rw[bW];omega)) ?_;simp only[am];exact aN rfl (ab.bc _) ⟨rfl,by rw[e,fP,gJ];rfl⟩
  | false =>
   rw[hv] at hlen e;simp only[am];refine cl (rK Z b D (l++de (!aq) 3 c.name.pos) s c 4 c.name.pos aq (by rw[bW];omega)) ?_;simp only[am];exact aN rfl (ab.bc _) ⟨rfl,by rw[e,fP,yB];rfl⟩
def akX(Z:ab)(b D:Nat)(l:List aM)(s:aG)(c:aL)(hs:s.ok)(hl:l.length<=80000000)(hn:c.al.length<=100000) :
 d_ 53 [.ptr (.out b) 0] (e_ Z b D l s c) (.bz []) (e_ Z b D (l++lI s c c.al.length) s c):=by
 refine ahY.aP ?_;simp only[aO,am,aX,Nat.reduceAdd,jE];refine cl (O6 c.al _ (by omega)) ?_;simp only[am,Nat.reduceAdd,aD,aD,jE];have hw:(cf c.al).length=c.al.length:=r8;refine ct (c.al.length) (λi (x:Unit)=>⟨[.ptr (.out b) 0,.any,.sl .no 1 (dh (cf c.al)),.any,.any,.any,.any,.any,.any,.any,.any,.any,.any,.any,.any,.any,.any,.any,.sl .no 2 (c.al.map aF.enc),.int .i64 (c.al.length:Nat),.int .i64 (i:Nat)]++aj 56 .any,[],e_ Z b D (l++lI s c i) s c⟩) (λi x=>(True)) λF hF JF aW=>⟨?_,?_,?_⟩
 .refine en aW (()) (trivial) ?_ ?_ ?_
  all_goals simp[hF,aj,am,bd,lI]
 .rintro i x hi -;have hN:=@NU s c i;have hS:=@Vq s c i;have hg:c.al.getD i ⟨[],0⟩=c.al[i]:=by simp[gy,hi]
  simp only[hF,aj,am,ca hi];refine ix (tg hi) ?_;simp only[am,aF.ak,td];refine cl (Ul Z b D (l++lI s c i) s c c.al[i].ar hs) ?_;simp only[am,jE]
  by_cases h3:c.op=3
  .have e:va s c i=de (!fJ s c.al[i].ar) 3 c.al[i].pos++de (fJ s c.al[i].ar&&!kZ s c.al[i].ar) 4 c.al[i].pos:=by rw[va];simp only[hg];rw[aI h3]
   have hlen:=@pn (!fJ s c.al[i].ar) 3 c.al[i].pos;simp only[am,r6,aB h3];refine cl (rK Z b D (l++lI s c i) s c 3 c.al[i].pos (!fJ s c.al[i].ar) (by rw[bW];omega)) ?_;cases hv:fJ s c.al[i].ar with
   | true =>
    rw[hv] at hlen e;simp only[am,r6];refine cl (rK Z b D (l++lI s c i++de (!aa) 3 c.al[i].pos) s c 4 c.al[i].pos (!kZ s c.al[i].ar) (by simp only[bW];omega)) ?_;simp only[am,aK,reduceCtorEq,bF hi];rw[gJ] at e;refine db (()) hi ?_ ?_ ?_ ?_ ?_ ?_
    .exact cI (aW _ _) (trivial)
    all_goals simp[hF,aj,am,bd,bK,cp,V.lo,hS,e]
   | false =>
    rw[hv] at hlen e;simp only[am,r6];refine cl (rK Z b D (l++lI s c i++de (!aq) 3 c.al[i].pos) s c 4 c.al[i].pos aq (by simp only[bW];omega)) ?_;simp only[am,aK,reduceCtorEq,bF hi];rw[yB] at e;refine db (()) hi ?_ ?_ ?_ ?_ ?_ ?_
    .exact cI (aW _ _) (trivial)
    all_goals simp[hF,aj,am,bd,bK,cp,V.lo,hS,e]
  .have e:va s c i=de ((dt ((cf c.al).take i) c.al[i].ar).isSome||(dZ c.op&&fJ s c.al[i].ar)) 3 c.al[i].pos:=by rw[va];simp only[hg];rw[aw h3]
   simp only[am,cG,az h3];refine Xz (b:=i) (by rw[iH];omega) ?_;rw[Xe];simp only[am,td];refine bA.intro (xw ((cf c.al).take i) c.al[i].ar _ (by rw[iu];omega)) ?_;simp only[am,N6];cases hf:(dt ((cf c.al).take i) c.al[i].ar).isSome with
   | true =>
    rw[hf] at e;simp only[am,r6];refine bA.intro (rK Z b D (l++lI s c i) s c 3 c.al[i].pos aa (by rw[bW];omega)) ?_;simp only[am,aK,r6,bF hi];rw[PZ] at e;refine db (()) hi ?_ ?_ ?_ ?_ ?_ ?_
    .exact cI (aW _ _) (trivial)
    all_goals simp[hF,aj,am,bd,bK,cp,V.lo,hS,e]
   | false =>
    rw[hf,ur] at e;simp only[am,jE];refine bA.intro (Pk c.op _) ?_;cases hv:dZ c.op with
    | true =>
     rw[hv,gJ] at e;simp only[am,r6];refine bA.intro (rK Z b D (l++lI s c i) s c 3 c.al[i].pos (fJ s c.al[i].ar) (by rw[bW];omega)) ?_;simp only[am,aK,r6,bF hi];refine db (()) hi ?_ ?_ ?_ ?_ ?_ ?_
     .exact cI (aW _ _) (trivial)
     all_goals simp[hF,aj,am,bd,bK,cp,V.lo,hS,e]
    | false =>
     rw[hv,yB] at e;simp only[am,r6];refine bA.intro (rK Z b D (l++lI s c i) s c 3 c.al[i].pos aq (by rw[bW];omega)) ?_;simp only[am,aK,r6,bF hi];refine db (()) hi ?_ ?_ ?_ ?_ ?_ ?_
     .exact cI (aW _ _) (trivial)
     all_goals simp[hF,aj,am,bd,bK,cp,V.lo,hS,e]
 .rintro x -;simp only[hF,aj,am,aK,cy,aK];exact aN rfl (ab.bc _) ⟨rfl,rfl⟩
def af2:aR prog 19 (sq [rg 0 [ox 2 2 0,ox 3 17 1,oZ 4 [0,0]],sq [rg 6 [fo 0 3,oC 50 [7],nn,gA,fo 0 3,oC 51 [12],nn,gZ],cr 15 16 [oW [0,0] [],o2 2 4]],rg 17 [ol 2 2,ol 17 3,oW [8,8,0,0,1,0,7,9,0,0,0,1,7,10,0,0,1,7,10,7] [(0,2,17),(2,17,18)],oq (.gY 20 (.s 19)),o1 5],.kK (rg 21 [om 5,oC 52 [21]]),rg 23 [om 5,oC 53 [23]],rg 25 [om 5,oC 54 [25]],rg 27 [om 5,oC 55 [27]],rg 29 [mk 5,nF 19,oC 22 [32],o2 2 4],.ret]) [.cell 4 aa 2] 34:=aS func19 ⟨[20],[4]⟩
def ahZ:aR prog 54 (sq [rg 0 [od (U 1) (.gY 1 (.s 0))],rg 6 [oo 1,nk,nf 2,nF 4,oC 111 [10],od (U 2) (.qy [(.sl .a9 1 [])]),o2 1 2],rg 12 [oq (.kb (.func 113) [] [(.s 1),(.s 2)]),o1 3],sq [rg 13 [oo 1,nk,nf 2,nF 5,nL,oi 0],lp 18 0 (sq [rg 21 [oA 4 17 19,nl 4,oZ 5 [1,0,1,0],o2 4 5],rg 23 [om 3,oQ 2 2 5 0,nl 2,oq (.iV (.s 23) [(.s 25)])],rg 27 [om 3,oQ 2 2 5 1,nl 2,oq (.iV (.s 27) [(.s 29)])]]) 31],rg 32 [oo 1,nk,nf 2,nF 0,nB .eql 5,gA,oo 2,nL,nB .leq 64,gZ],ci 42 (dg 43 [mM [1,2],oo 1,oo 1,nk,nf 2,nl 17,oC 115 [47],oC 114 [48],nn,mM [0,1],oo 1,nk,nf 2,nf 6,mM [0,1],no,oc 110 [.s 43,.s 50,.c (.int .i64 5),.s 55]])]) [] 57:=aS func54 ⟨[1,2],[]⟩
def ah0:aR prog 55 (sq [rg 4 [mk 0,nf 2,nF 4,nL,o1 2,oj 3 64],sq [rg 10 [mk 0,nf 2,nF 0],.block 0 (sq [sq [rg 16 [oB .eql 14 6,o1 15],cd 15 .skip (rg 17 [oB .eql 14 7,o1 15])],cd 15 (sq [dg 18 [om 0,om 2,mk 0,nf 0,nF 1,nL,oq (.dV .sub (.c (.int .i64 64)) (.s 25)),nb .gtr 19,mk 0,nf 2,nF 1,oc 110 [.s 18,.s 27,.c (.int .i64 7),.s 32]],.ret]) (sq [rg 35 [oB .eql 14 4,o1 34],cd 34 (rg 3 [oi 8]) (sq [rg 37 [oB .eql 14 3,o1 36],ci 36 (dg 38 [mk 0,nf 0,nl 2,mk 0,nf 2,nl 17,oC 116 [41,45],ow 1 46,nL,o1 2,oj 3 8])])])])],dg 49 [om 0,om 2,om 3,nb .gtr 50,gB,mk 0,nf 0,nF 0,nL,nB .geq 16,gZ,mk 0,nf 2,nF 1,oc 110 [.s 49,.s 61,.c (.int .i64 7),.s 66]]]) [] 68:=aS func55
def aeO:aR prog 113 (sq [rg 0 [ox 3 2 0],dg 4 [mM [1],oo 1,oo 2,fo 0 3,oC 112 [5,7],nB .lss 0,of 1 3,mM [0],no,oc 110 [.s 4,.s 9,.c (.int .i64 3),.s 11]]]) [] 13:=aS func113
def Um(Z:ab)(b D b1 b2:Nat)(l:List aM)(s:aG)(c:aL)(w:aF)(n1:b1≠b)(n2:b2≠b)(h1:Z.box b1=U [.ptr (.out b) 0])(h2:Z.box b2=U [.sl .no 1 (dh (cf c.al))])(hl:l.length<=90000000)(hn:c.al.length<=100000) :
 d_ 113 [.agg w.enc,.ptr (.out b1) 0,.ptr (.out b2) 0] (e_ Z b D l s c) (.bz []) (e_ Z b D (l++o_ c w) s c):=by
 have e1:(e_ Z b D l s c).box b1=U [.ptr (.out b) 0]:=by rw[xY n1];exact h1
 have e2:(e_ Z b D l s c).box b2=U [.sl .no 1 (dh (cf c.al))]:=by rw[xY n2];exact h2
 refine aeO.aP ?_;simp only[aO,am,aX,Nat.reduceAdd,aF.ak];simp only[am,td,e1,e2];refine bA.intro (xw (cf c.al) w.ar _ (by rw[r8];omega)) ?_;simp only[am,r6,aoH];refine bA.intro (rK Z b D l s c 3 w.pos (dt (cf c.al) w.ar).isNone (by omega)) ?_;simp only[am,r6,e1];exact aN rfl (ab.bc _) ⟨rfl,rfl⟩
def apF{i:Nat}(hi:i<c.a8.length):(c.a8.take (i+1)).flatMap (rT c)=(c.a8.take i).flatMap (rT c)++(o_ c c.a8[i].1++o_ c c.a8[i].2):=by rw[jg hi,py];simp[rT]
def ak5(Z:ab)(b D:Nat)(l:List aM)(s:aG)(c:aL)(hg:TZ Z)(hl:l.length<=80000000)(hn:c.al.length<=100000)(hp:c.a8.length<=100000) :
 d_ 54 [.ptr (.out b) 0] (e_ Z b D l s c) (.bz []) (e_ Z b D (l++qc c++lj c) s c):=by
 have fresh:∀{x:Nat} {dJ:ab},(e_ dJ b D l s c).box x=ah->x≠b:=λ{x dJ} h=>by rintro rfl;rw[Nc] at h;simp at h
 refine ahZ.aP ?_;simp only[aO,am,aX,Nat.reduceAdd];intro b1 eE;have n1:=fresh eE;rw[xY n1] at eE;simp only[am,Nat.reduceAdd];rw[Ur n1];have e1:(e_ (Z.set b1 [.ptr (.out b) 0]) b D l s c).box b1=U [.ptr (.out b) 0]:=by rw[xY n1,ke]
 simp only[am,jE];refine cl (O6 c.al _ (by omega)) ?_;simp only[am];intro b2 ep;have n2:=fresh ep;rw[xY n2] at ep;have NQ:b1≠b2:=by rintro rfl;rw[ke] at ep;simp at ep
 rw[vq NQ.symm] at ep;simp only[am];rw[Ur n2];have f1:((Z.set b1 [.ptr (.out b) 0]).set b2 [.sl .no 1 (dh (cf c.al))]).box b1=U [.ptr (.out b) 0]:=by rw[vq NQ,ke]
 have f2:((Z.set b1 [.ptr (.out b) 0]).set b2 [.sl .no 1 (dh (cf c.al))]).box b2=U [.sl .no 1 (dh (cf c.al))]:=ke;have qL:∀{L:List aM},(e_ Z b D L s c).sub (e_ ((Z.set b1 [.ptr (.out b) 0]).set b2 [.sl .no 1 (dh (cf c.al))]) b D L s c):=λ{L}=>ab.DQ (Uq n1 eE) (Uq n2 (by rw[vq NQ.symm];exact ep))
 generalize wD:(Z.set b1 [V.ptr (Pl.out b) 0]).set b2 [V.sl .no 1 (dh (cf c.al))]=gX at f1 f2 qL;have A0:TZ gX:=by rw[<-wD];exact hg
 have g1:∀{L:List aM},(e_ gX b D L s c).box b1=U [.ptr (.out b) 0]:=λ{L}=>by rw[xY n1];exact f1
 have g2:∀{L:List aM},(e_ gX b D L s c).box b2=U [.sl .no 1 (dh (cf c.al))]:=λ{L}=>by rw[xY n2];exact f2
 simp only[am,Nat.reduceAdd,aD,aD,jE,g1];have hP:=λ(i:Nat)=>@IG c (c.a8.take i)
 refine ct (c.a8.length) (λi (x:Unit)=>⟨[.any,.ptr (.out b1) 0,.ptr (.out b2) 0,.fn (.func 113) [] [.ptr (.out b1) 0,.ptr (.out b2) 0],.any,.any,.any,.any,.any,.any,.any,.any,.any,.any,.any,.any,.any,.sl .no 4 (c.a8.map dR),.int .i64 (c.a8.length:Nat),.int .i64 (i:Nat)]++aj 37 .any,[],e_ gX b D (l++(c.a8.take i).flatMap (rT c)) s c⟩) (λi x=>(True)) λF hF JF aW=>⟨?_,?_,?_⟩
 .exact en aW (()) (trivial)
 .rintro i x hi -;have hPi:=hP i;rw[iu] at hPi;have hS:=apF hi;have rG:(o_ c c.a8[i].1).length<=1:=pn;simp only[hF,aj,am,ca hi];refine ix (zJ hi) ?_;simp only[am,cG,Nat.reduceAdd,dR];refine i_ ?_;simp only[am,Int.reduceToNat,Nat.reduceMul];refine cl (Um gX b D b1 b2 (l++(c.a8.take i).flatMap (rT c)) s c c.a8[i].1 n1 n2 f1 f2 (by rw[bW];omega) hn) ?_;simp only[am,cG];refine i_ ?_;simp only[am,Int.reduceToNat,Nat.reduceMul];refine cl (Um gX b D b1 b2 (l++(c.a8.take i).flatMap (rT c)++o_ c c.a8[i].1) s c c.a8[i].2 n1 n2 f1 f2 (by simp only[bW];omega) hn) ?_;simp only[am,aK,bF hi];refine db (()) hi ?_ ?_ ?_ ?_ ?_ ?_
  .exact cI (aW _ _) (trivial)
  all_goals simp[hF,aj,am,bd,bK,cp,V.lo,hS]
 .rintro x -;have Ti:=hP c.a8.length;rw[iu] at Ti;have hw:((cf c.al).length:Int)=(c.al.length:Nat):=by rw[r8]
  have TQ:(l++qc c).length<=90000000:=by rw[bW,qc];rw[df] at Ti;omega
  simp only[hF,aj,am,aK,cy,aK,jE,df,g1];have no:lj c=[]->e_ Z b D (l++qc c++lj c) s c=e_ Z b D (l++qc c) s c:=λh=>by rw[h,eM]
  by_cases h5:c.op=5
  case neg =>
   simp only[am,az h5];exact aN rfl qL ⟨rfl,(no (by rw[lj,aw λh=>h5 h.1])).symm⟩
  simp only[am,iH,aB h5,g2,hw]
  by_cases xB:c.al.length<=64
  case neg =>
   simp only[am,az (show ¬((c.al.length:Nat):Int)<=64 by omega)];exact aN rfl qL ⟨rfl,(no (by rw[lj,aw λh=>xB h.2])).symm⟩
  have e:lj c=de (!ky (sX c)) 5 c.rQ:=by rw[lj,aI ⟨h5,xB⟩]
  simp only[am,jE,aB (show((c.al.length:Nat):Int)<=64 by omega),g1,cE];refine bA.intro (aqM c _ (by omega) (by omega)) ?_;simp only[am,Rl.ak];refine bA.intro (UI (sX c) A0) ?_;simp only[am,Nat.reduceAdd,jE,g1];refine bA.intro (rK gX b D (l++qc c) s c 5 c.rQ (!ky (sX c)) (by omega)) ?_;simp only[am,jE,g1];rw[<-e];exact aN rfl qL ⟨rfl,rfl⟩
def akW(Z:ab)(b D:Nat)(l:List aM)(s:aG)(c:aL)(hs:s.x9)(hl:l.length<=90000000)(hn:c.al.length<=100000) :
 d_ 55 [.ptr (.out b) 0] (e_ Z b D l s c) (.bz []) (e_ Z b D (l++qP s c) s c):=by
 have h1:=hs.1.1;have h2:=hs.1.2.1;have X8:IntKind.i64.wrap (64 - (s.vars.length:Int))=64 - (s.vars.length:Nat):=wrap_i64 (by omega) (by omega);refine ah0.aP ?_;simp only[aO,am,aX,Nat.reduceAdd,aD,jE];have mg:(c.op=6\/c.op=7)->(decide (c.op=6)=aa)\/(decide (c.op=6)=aq/\decide (c.op=7)=aa):=λh=>by
  by_cases k:c.op=6
  .exact .inl (aB k)
  .exact .inr ⟨az k,aB (h.resolve_left k)⟩
 by_cases EI:c.op=6\/c.op=7
 .have e:qP s c=de (decide ((64:Int) - (s.vars.length:Nat)<(c.al.length:Nat))) 7 c.pos:=by rw[qP,aI EI]
  rcases mg EI with k | ⟨k,k2⟩
  case' inl=>simp only[am,Nat.reduceAdd,aD,aD,jE,k,X8]
  case' inr=>simp only[am,Nat.reduceAdd,aD,aD,jE,k,k2,X8]
  all_goals
   refine bA.intro (rK Z b D l s c 7 c.pos (decide ((64:Int) - (s.vars.length:Nat)<(c.al.length:Nat))) (by omega)) ?_;simp only[am];exact aN rfl (ab.bc _) ⟨rfl,by rw[e]⟩
 have e0:qP s c=de (decide ((if c.op=3 then(8:Int) else if c.op=4 then 8 else 64)<((if c.op=3 then(sW s c).bB.length else c.al.length):Nat))||decide (16<=s.bt.length)) 7 c.pos:=by rw[qP,aw EI]
 have KD:decide ((16:Int)<=(s.bt.length:Nat))=decide (16<=s.bt.length):=rn.2 (by omega);simp only[am,az (λh=>EI (.inl h)),az (λh=>EI (.inr h))];have fin:∀(n:Nat) (m:Int),qP s c=de (decide (m<(n:Nat))||decide (16<=s.bt.length)) 7 c.pos->∀B:Bool,B=(decide (m<(n:Nat))||decide (16<=s.bt.length)) ->
  d_ 110 [.ptr (.out b) 0,.bool B,.int .i64 7,.int .i64 c.pos] (e_ Z b D l s c) (.bz []) (e_ Z b D (l++qP s c) s c):=λn m e B hB=>by
  rw[e,hB];exact rK Z b D l s c 7 c.pos _ (by omega)
 by_cases h4:c.op=4
 .have e:qP s c=de (decide ((8:Int)<(c.al.length:Nat))||decide (16<=s.bt.length)) 7 c.pos:=by rw[e0,aw (by omega),aI h4,aw (by omega)]
  simp only[am,aB h4];cases hb:decide ((8:Int)<(c.al.length:Nat)) with
  | true =>
   simp only[am,Nat.reduceAdd,jE];refine bA.intro (fin _ _ e aa (by rw[hb];rfl)) ?_;simp only[am];exact aN rfl (ab.bc _) ⟨rfl,rfl⟩
  | false =>
   simp only[am,Nat.reduceAdd,aD,aD,jE,KD];refine bA.intro (fin _ _ e (decide (16<=s.bt.length)) (by rw[hb];rfl)) ?_;simp only[am];exact aN rfl (ab.bc _) ⟨rfl,rfl⟩
 simp only[am,az h4]
 by_cases h3:c.op=3
 .have e:qP s c=de (decide ((8:Int)<((sW s c).bB.length:Nat))||decide (16<=s.bt.length)) 7 c.pos:=by rw[e0,aI h3,aI h3]
  simp only[am,aG.ak,jE,aB h3,cE];refine bA.intro (apB s c _ hs hn) ?_;simp only[am,aD,bJ.ak,aD];cases hb:decide ((8:Int)<((sW s c).bB.length:Nat)) with
  | true =>
   simp only[am,Nat.reduceAdd,jE];refine bA.intro (fin _ _ e aa (by rw[hb];rfl)) ?_;simp only[am];exact aN rfl (ab.bc _) ⟨rfl,rfl⟩
  | false =>
   simp only[am,Nat.reduceAdd,aD,aD,jE,KD];refine bA.intro (fin _ _ e (decide (16<=s.bt.length)) (by rw[hb];rfl)) ?_;simp only[am];exact aN rfl (ab.bc _) ⟨rfl,rfl⟩
 .have e:qP s c=de (decide ((64:Int)<(c.al.length:Nat))||decide (16<=s.bt.length)) 7 c.pos:=by rw[e0,aw h3,aw h4,aw h3]
  simp only[am,az h3];cases hb:decide ((64:Int)<(c.al.length:Nat)) with
  | true =>
   simp only[am,Nat.reduceAdd,jE];refine bA.intro (fin _ _ e aa (by rw[hb];rfl)) ?_;simp only[am];exact aN rfl (ab.bc _) ⟨rfl,rfl⟩
  | false =>
   simp only[am,Nat.reduceAdd,aD,aD,jE,KD];refine bA.intro (fin _ _ e (decide (16<=s.bt.length)) (by rw[hb];rfl)) ?_;simp only[am];exact aN rfl (ab.bc _) ⟨rfl,rfl⟩
def ar1(s:aG)(c:aL)(hs:s.x9)(hg:TZ Z)(hn:c.al.length<=100000)(hp:c.a8.length<=100000):
 aT 19 [.agg s.enc,.agg c.enc] Z (.agg (lq s c).enc):=by
 refine af2.aP ?_;simp only[aO,am,aX,Nat.reduceAdd,aG.ak];simp only[am,cE,b8];refine cl (UC c.op _) ?_;have mg:(mj c.op=aa)\/(mj c.op=aq/\dZ c.op=aq)\/(mj c.op=aq/\dZ c.op=aa):=by
  cases mj c.op<;>cases dZ c.op<;>simp
 rcases mg with h5 | ⟨h5,h6⟩ | ⟨h5,h6⟩
 case' inl=>simp only[am,aG.ak,h5,cE,Ut]
 case' inr.inl =>
  simp only[am,h5,b8];refine cl (Pk c.op _) ?_;simp only[am,Nat.reduceAdd,h6];exact aN rfl (ab.bc _) ⟨by rw[lq,h5,h6];rfl,rfl⟩
 case' inr.inr =>
  simp only[am,h5,b8];refine cl (Pk c.op _) ?_;simp only[am,aG.ak,h6,cE,Ut]
 all_goals
  have e:fS (DK s c)=lq s c:=by rw[lq,h5];first | rfl | rw[h6];rfl
  intro b hb;have hb:Z.box b=none:=hb;simp only[am];refine a7.tok 0 λD a_=>⟨_,_,(Z.set b _).set b (ku D [] s c),fm.rfl,rfl,λi c' hc=>⟨c',hc,fm.rfl⟩,se.set ke (by simp[jz,ku,jG]),?_⟩
  have a_:Z.aY D=none:=a_;rw[ab.set_set,show(Z.set b (ku D [] s c)).ba D 0=e_ Z b D [] s c from rfl];have l1:=@ajV s c;have l2:=@NU s c c.al.length;have l3:=@IG c c.a8;have l4:=@VG c;have l5:=@al2 s c;simp only[am];refine cl (akV Z b D [] s c hs.1 (by simp)) ?_;simp only[am,kN];refine cl (akX Z b D (tH s c) s c hs.1 (by omega) hn) ?_;simp only[am];refine cl (ak5 Z b D (tH s c++lI s c c.al.length) s c hg (by rw[bW];omega) hn hp) ?_;simp only[am];refine cl (akW Z b D (tH s c++lI s c c.al.length++qc c++lj c) s c hs (by simp only[bW,qc];omega) hn) ?_;simp only[am,jE];refine cl (cF.cY (as' := [.sl .no 2 ((DK s c).map aM.enc)]) (zA (DK s c) _ (by simp only[DK,bW,qc];omega)) ⟨dr.no,trivial⟩ br.rfl) ?_;simp only[am,aM.ak];exact aN rfl (ak7 hb a_) ⟨by rw[e];rfl,rfl⟩
def aeU:aR prog 119 (sq [rg 2 [ox 1 17 0,oz 2],sq [rg 3 [fo 0 1,oc 167 [.s 4,.c (.int .i32 110)],nB .eql 0],cr 6 7 [of 2 1,nF 0,oq (.kQ .eql (.s 9) (.c (.aH []))),o1 2]],rg 11 [of 2 1,nF 0,oC 99 [13],o1 2],.ret]) [.tmp 2] 15:=aS func119
def aeW:aR prog 120 (sq [rg 2 [ox 1 17 0,oz 2],.block 0 (sq [rg 4 [fo 0 1,oc 167 [.s 5,.c (.int .i32 119)],nB .gtr 0,o1 3],cd 3 (sq [rg 8 [fo 4 1,nL,nB .gtr 0,gA,fo 4 1,oC 37 [14],oC 168 [15],gZ,o1 2],.ret]) (sq [rg 19 [fo 0 1,oc 167 [.s 20,.c (.int .i32 102)],nB .gtr 0,o1 18],cr 18 23 [fo 4 1,nL,nB .eql 1,gA,fo 4 1,oC 37 [29],oC 168 [30],gZ,o1 2]])]),rg 33 [fo 4 1,nL,nB .eql 0,o1 2],.ret]) [.tmp 2] 37:=aS func120
def afH:aR prog 167 (sq [rg 4 [oi 0],rg 5 [oi 0],.DG (rS 8 [om 0,oC 35 [8],ow 1 9]) (.s 10) 11 12 13 0 1 (sq [rg 14 [oe 12 2,o1 7],rg 15 [om 7,om 1,nb .eql 15],ci 17 (rg 18 [ic 5])]),rg 20 [om 5,o1 4],.ret]) [.tmp 4] 21:=aS func167
def afI:aR prog 168 (sq [rg 2 [oz 2],sq [rg 5 [om 0,nL,oi 0],lp 6 0 (sq [rg 9 [oA 1 5 7,no,o1 4],rg 11 [om 4,oC 99 [11],nn],cr 13 2 [oz 2]]) 14],rg 2 [oq (.mv (.c (.bool aa)))],.ret]) [.tmp 2] 15:=aS func168
def BO(ks:List UInt8)(k:UInt8)(Z:ab)(b i:Nat):St :=
 ⟨[.any,.int .i32 (k.toNat:Nat),.any,.any,.any,.int .i64 ((ks.take i).count k:Nat)]++aj 5 .any++[.raw (.pointer (U ⟨b,0,ah⟩))]++aj 9 .any,[],Z⟩
def Dp(op:Int)(k:UInt8)(hg:Z.cQ 0=U il):aT 167 [.int .i64 op,.int .i32 (k.toNat:Nat)] Z (.int .i64 (fj op k:Nat)):=by
 refine afH.aP ?_;simp only[aO,am,aX,Nat.reduceAdd];refine Po ?_;simp only[am];refine cl (N0 op hg) ?_;simp only[am];have kT:=EE op;have Tx:fj op k=(dc op).2.count k:=rfl;generalize fp:(dc op).2=ks at kT Tx;refine⟨ks,rfl,by rw[<-fp];exact K0 op,λb i aU => aU = BO ks k Z b i,?_,?_,?_,?_⟩
 .intro b;refine a7.cY (t' := (BO ks k Z b 0).t) ?_ bV.rfl br.rfl rfl;simp[BO,aj,am]
 .rintro b i _ rfl;exact⟨rfl,by simp[BO],by simp[BO]⟩
 .rintro b i c _ hc rfl;have hi:i<ks.length:=(fw.1 hc).1;have pW:(ks.take (i+1)).count k=(ks.take i).count k+(if c=k then 1 else 0):=by
   rw[Aa hc,List.count_append,List.count_singleton];simp
  have hle:(ks.take i).count k<=3:=vK List.count_le_length (by rw[iu];omega);have ey:((c.toNat:Nat):Int)=(k.toNat:Nat)↔c=k:=by
   constructor
   .intro h;exact Eg.1 (by omega)
   .rintro rfl;rfl
  simp only[BO,aj,am]
  by_cases e:c=k
  .rw[aI e] at pW;simp only[am,cG,aB (ey.2 e)];rw[wrap_i64];exact a7.cY (by simp[am,pW]) bV.rfl br.rfl rfl
  .rw[aw e] at pW;simp only[am,cG,az (λh=>e (ey.1 h))];exact a7.cY (by simp[am,pW]) bV.rfl br.rfl rfl
 .rintro b _ rfl;simp only[BO,aj,am];rw[df];refine aC ?_;simp[V.erase,Tx]
def Fq(l:List (List UInt8))(Z:ab)(i:Nat):St :=
 ⟨[.any,.any,.any,.any,.any,.sl .no 1 (lY l),.int .i64 l.length,.int .i64 (i:Nat)]++aj 7 .any,[],Z⟩
def Ri(l:List (List UInt8))(Z:ab)(hl:l.length<=aJ):aT 168 [.sl .no 1 (lY l)] Z (.bool (ua l)):=by
 simp only[aJ] at hl;refine afI.aP ?_;simp only[aO,am,aX,Nat.reduceAdd,xu];refine dP (λp:{i:Nat // i<=l.length/\ua (l.take i)=aa}=>Fq l Z p.1) (λp=>l.length - p.1) ?_ ?_
 .refine a7.enter ⟨0,by simp,by simp[ua]⟩ ?_ bV.rfl br.rfl;simp[Fq,aj,am]
 rintro⟨i,hi,ha⟩;simp only[Fq,aj,am]
 by_cases an:i<l.length
 .simp only[am,aB (show(i:Int)<l.length by omega)];refine ix (RS (bN an)) ?_;simp only[am];refine cl (vb l[i] Z) ?_;cases hr:dO l[i]
  .simp only[am]
   have:ua l=false:=by
    rw[ua,Gt];exact⟨l[i],dq an,by simp[hr]⟩
   refine aC ?_;simp[V.erase,this]
  .simp only[am];rw[wrap_i64];refine a7.again (I:=λp:{i:Nat // i<=l.length/\ua (l.take i)=aa}=>Fq l Z p.1) (μ:=λp=>l.length - p.1) ⟨i+1,an,?_⟩ (by simp;omega) (by simp[Fq,am,aj]) bV.rfl br.rfl;simp only[ua,jg an,JJ,b_] at ha ⊢;exact⟨ha,by simp[hr]⟩
 .have:i=l.length:=by omega
  subst this;rw[df] at ha;simp only[am,az (show ¬(l.length:Int)<l.length by omega)];refine aC ?_;simp[V.erase,ha]
def am4(c:aL)(hg:Z.cQ 0=U il):aT 119 [.agg c.enc] Z (.bool c.zE):=by
 refine aeU.aP ?_;simp only[aO,am,aX,Nat.reduceAdd,cE,b8];have h:=λ(Z:ab) (hg:Z.cQ 0=U il)=>Dp c.op 110 hg
 refine cl (h Z hg) ?_;simp only[am]
 by_cases h0:fj c.op 110=0
 .simp only[am,bM,aB (show((fj c.op 110:Nat):Int)=0 by omega)];refine aC ?_;simp[V.erase,aL.zE,h0]
 .simp only[am,bM,az (show ¬((fj c.op 110:Nat):Int)=0 by omega)];refine cl (vb c.name.ar Z) ?_;simp only[am];refine aC ?_;simp[V.erase,aL.zE,h0]
def am_(c:aL)(hg:Z.cQ 0=U il)(hn:c.al.length+1<=aJ):aT 120 [.agg c.enc] Z (.bool c.ub):=by
 have rG:(c.al.map aF.ar).length<=aJ:=by rw[aD];omega
 have h:=λ(Z:ab) (hg:Z.cQ 0=U il)=>Dp c.op 119 hg
 have h' := λ(Z:ab) (hg:Z.cQ 0=U il)=>Dp c.op 102 hg
 refine aeW.aP ?_;simp only[aO,am,aX,Nat.reduceAdd,cE,b8];refine cl (h Z hg) ?_;simp only[am]
 by_cases h0:0<fj c.op 119
 .simp only[am,aD,bM,aB (show(0:Int)<((fj c.op 119:Nat):Int) by omega),aD]
  by_cases h1:0<c.al.length
  .simp only[am,bM,aB (show(0:Int)<((c.al.length:Nat):Int) by omega)];refine cl (Ja c.al Z hn) ?_;simp only[am];refine cl (Ri (c.al.map aF.ar) Z rG) ?_;simp only[am];refine aC ?_;simp[V.erase,aL.ub,h0,h1]
  .simp only[am,az (show ¬(0:Int)<((c.al.length:Nat):Int) by omega)];refine aC ?_;simp[V.erase,aL.ub,h0,h1]
 .simp only[am,b8,az (show ¬(0:Int)<((fj c.op 119:Nat):Int) by omega)];refine cl (h' Z hg) ?_;simp only[am]
  by_cases h2:0<fj c.op 102
  .simp only[am,aD,bM,aB (show(0:Int)<((fj c.op 102:Nat):Int) by omega),aD]
   by_cases h1:c.al.length=1
   .simp only[am,bM,aB (show((c.al.length:Nat):Int)=1 by omega)];refine cl (Ja c.al Z hn) ?_;simp only[am];refine cl (Ri (c.al.map aF.ar) Z rG) ?_;simp only[am];refine aC ?_;simp[V.erase,aL.ub,h0,h1,h2]
   .simp only[am,az (show ¬((c.al.length:Nat):Int)=1 by omega)];refine aC ?_;simp[V.erase,aL.ub,h0,h1,h2]
  .simp only[am,aD,bM,az (show ¬(0:Int)<((fj c.op 102:Nat):Int) by omega),aD];have he:decide (((c.al.length:Nat):Int)=0)=decide (c.al.length=0):=by simp
   refine aC ?_;simp[V.erase,aL.ub,h0,h2]
def ah7:aR prog 62 (sq [rg 2 [ox 1 17 0,oz 2],sq [rg 3 [fo 0 1,nB .lss 0,gB,fo 0 1,nB .gtr 15,gZ],cr 10 2 [oz 2]],rg 11 [ol 17 1,oC 119 [11],gA,ol 17 1,oC 120 [14],gZ,gA,ol 17 1,oC 121 [18],gZ,gA,ol 17 1,oC 122 [22],gZ,o1 2],.ret]) [.tmp 2] 25:=aS func62
def aeX:aR prog 121 (sq [rg 2 [ox 1 17 0,oz 2],sq [rg 5 [fo 0 1,oc 167 [.s 6,.c (.int .i32 112)],nB .eql 0],cr 8 9 [fo 5 1,nL,nB .eql 0,o1 2]],sq [rg 13 [fo 5 1,nL,oi 0],lp 15 0 (sq [rg 18 [oA 4 14 16,nl 4,oZ 4 [1,0,1,0],o2 4 4],rg 20 [oQ 2 2 4 0,nF 0,oC 99 [22],nn,gB,oQ 2 2 4 1,nF 0,oC 99 [28],nn,gZ],cr 31 2 [oz 2]]) 32],rg 2 [oq (.mv (.c (.bool aa)))],.ret]) [.tmp 2] 33:=aS func121
def aeY:aR prog 122 (sq [rg 2 [ox 1 17 0,oz 2],sq [rg 3 [fo 0 1,oc 167 [.s 4,.c (.int .i32 116)],nB .gtr 0],cr 6 7 [of 7 1,nl 5,oC 123 [8],gA,of 12 1,nl 5,oC 123 [12],gZ,o1 2]],sq [rg 15 [fo 0 1,oc 167 [.s 16,.c (.int .i32 114)],nB .gtr 0],cr 18 19 [of 7 1,nl 5,oC 169 [20],gA,of 12 1,nl 5,oC 169 [24],gZ,o1 2]],rg 27 [of 7 1,nl 5,oW [0,0,1,7,10] [],oC 43 [28,29],gA,of 12 1,nl 5,oW [0,0,1,7,10] [],oC 43 [33,34],gZ,o1 2],.ret]) [.tmp 2] 37:=aS func122
def zw(c:aL)(Z:ab)(i:Nat):St :=
 ⟨[.any,.ptr (.au 0) 0]++aj 12 .any++[.sl .no 4 (c.a8.map dR),.int .i64 c.a8.length,.int .i64 (i:Nat)]++aj 16 .any,[c.enc],Z⟩
def ao4(c:aL)(hg:Z.cQ 0=U il)(hn:c.a8.length+1<=aJ):aT 121 [.agg c.enc] Z (.bool c.wL):=by
 have h:=λ(Z:ab) (hg:Z.cQ 0=U il)=>Dp c.op 112 hg
 simp only[aJ] at hn;refine aeX.aP ?_;simp only[aO,am,aX,Nat.reduceAdd,cE,b8];refine cl (h Z hg) ?_;simp only[am]
 by_cases h0:fj c.op 112=0
 .simp only[am,aD,bM,aD,aB (show((fj c.op 112:Nat):Int)=0 by omega)];have he:decide (((c.a8.length:Nat):Int)=0)=decide (c.a8.length=0):=by simp
  refine aC ?_;simp[V.erase,aL.wL,h0]
 simp only[am,aD,bM,aD,az (show ¬((fj c.op 112:Nat):Int)=0 by omega)];have hq:c.wL=c.a8.all nJ:=by unfold aL.wL;rw[aw h0]
 refine dP (λp:{i:Nat // i<=c.a8.length/\(c.a8.take i).all nJ=aa}=>zw c Z p.1) (λp=>c.a8.length - p.1) ?_ ?_
 .refine a7.enter ⟨0,by simp,by simp⟩ ?_ bV.rfl br.rfl;simp[zw,aj,am]
 rintro⟨i,hi,ha⟩;simp only[zw,aj,am]
 by_cases an:i<c.a8.length
 .simp only[am,aB (show(i:Int)<c.a8.length by omega)];refine ix (uh (bN an)) ?_;simp only[am,cG,Nat.reduceAdd,dR];refine i_ ?_;simp only[am,Int.reduceToNat,Nat.reduceMul];refine cl (vb c.a8[i].1.ar Z) ?_;have eG:nJ c.a8[i]=aq->c.wL=false:=λhf=>by
   rw[hq,Gt];exact⟨c.a8[i],dq an,by simp[hf]⟩
  cases hr:dO c.a8[i].1.ar
  .simp only[am];refine aC ?_;simp[V.erase,eG (by simp[nJ,hr])]
  .simp only[am,cG];refine i_ ?_;simp only[am,Int.reduceToNat,Nat.reduceMul];refine cl (vb c.a8[i].2.ar Z) ?_;cases TV:dO c.a8[i].2.ar
   .simp only[am];refine aC ?_;simp[V.erase,eG (by simp[nJ,TV])]
   .simp only[am];rw[wrap_i64];refine a7.lT (I:=λp:{i:Nat // i<=c.a8.length/\(c.a8.take i).all nJ=aa}=>zw c Z p.1) (μ:=λp=>c.a8.length - p.1) ⟨i+1,an,?_⟩ (by simp;omega) (by simp[zw,am,aj]) (by simp[zw,am]) br.rfl (by simp[zw,aj,bK,V.lo]) (by simp[zw,aL.enc,aL.cz,cp,bK,V.lo]);rw[jg an,JJ,ha];simp[nJ,hr,TV]
 .have:i=c.a8.length:=by omega
  subst this;rw[df] at ha;simp only[am,az (show ¬(c.a8.length:Int)<c.a8.length by omega)];refine aC ?_;simp[V.erase,hq,ha]
def YF:[V.int .i64 0,.int .i64 0,.aH [],.sl .a9 2 [],.sl .a9 5 []].map V.erase=Nd.zero.enc:=by rw[Nd.cS];rfl
def Xi(n:Nd)(Z:ab)(hw:n.wt<=aJ):aT 43 [.agg n.enc,.agg [.int .i64 0,.int .i64 0,.aH [],.sl .a9 2 [],.sl .a9 5 []]] Z (.bool (n.mo .zero)):=by
 refine cF.cY (arW _ n .zero Z (b7 _) hw) ?_ br.rfl;simp only[c_,dr.rfl,gM,mA];rw[<-YF];exact dr.erase (v:=.agg [.int .i64 0,.int .i64 0,.aH [],.sl .a9 2 [],.sl .a9 5 []])
def asX(c:aL)(hg:Z.cQ 0=U il)(hl:c.left.wt<=aJ)(hr:c.right.wt<=aJ):aT 122 [.agg c.enc] Z (.bool c.rX):=by
 have h:=λ(Z:ab) (hg:Z.cQ 0=U il)=>Dp c.op 116 hg
 have h' := λ(Z:ab) (hg:Z.cQ 0=U il)=>Dp c.op 114 hg
 refine aeY.aP ?_;simp only[aO,am,aX,Nat.reduceAdd,cE,b8];refine cl (h Z hg) ?_;simp only[am]
 by_cases h0:0<fj c.op 116
 .simp only[am,Nd.ak,bM,aB (show(0:Int)<((fj c.op 116:Nat):Int) by omega)];refine cl (Fy _ c.left Z (b7 _) hl) ?_;cases hq:c.left.ff
  .simp only[am];refine aC ?_;simp[V.erase,aL.rX,h0,hq]
  .simp only[am,Nd.ak,bM];refine cl (Fy _ c.right Z (b7 _) hr) ?_;simp only[am];refine aC ?_;simp[V.erase,aL.rX,h0,hq]
 simp only[am,b8,az (show ¬(0:Int)<((fj c.op 116:Nat):Int) by omega)];refine cl (h' Z hg) ?_;simp only[am]
 by_cases h2:0<fj c.op 114
 .simp only[am,Nd.ak,bM,aB (show(0:Int)<((fj c.op 114:Nat):Int) by omega)];refine cl (WN c.left Z hl) ?_;cases hq:c.left.kH
  .simp only[am];refine aC ?_;simp[V.erase,aL.rX,h0,h2,hq]
  .simp only[am,Nd.ak,bM];refine cl (WN c.right Z hr) ?_;simp only[am];refine aC ?_;simp[V.erase,aL.rX,h0,h2,hq]
 simp only[am,Nd.ak,bM,az (show ¬(0:Int)<((fj c.op 114:Nat):Int) by omega)];refine cl (Xi c.left Z hl) ?_;cases hq:c.left.mo .zero
 .simp only[am];refine aC ?_;simp[V.erase,aL.rX,h0,h2,hq]
 .simp only[am,Nd.ak,bM];refine cl (Xi c.right Z hr) ?_;simp only[am];refine aC ?_;simp[V.erase,aL.rX,h0,h2,hq]
def abC(c:aL)(hg:Z.cQ 0=U il)(hn:c.al.length+1<=aJ)(hp:c.a8.length+1<=aJ)(hl:c.left.wt<=aJ)(hr:c.right.wt<=aJ):aT 62 [.agg c.enc] Z (.bool c.qe):=by
 have h1:=λ(Z:ab) (hg:Z.cQ 0=U il)=>am4 c hg
 have h2:=λ(Z:ab) (hg:Z.cQ 0=U il)=>am_ c hg hn
 have h3:=λ(Z:ab) (hg:Z.cQ 0=U il)=>ao4 c hg hp
 have h4:=λ(Z:ab) (hg:Z.cQ 0=U il)=>asX c hg hl hr
 refine ah7.aP ?_;simp only[aO,am,aX,Nat.reduceAdd,cE,b8]
 by_cases k1:c.op<0
 .simp only[am,aB k1];refine aC ?_;simp[V.erase,aL.qe,show ¬(0<=c.op/\c.op<=15) by omega]
 simp only[am,b8,az k1]
 by_cases k2:15<c.op
 .simp only[am,aB k2];refine aC ?_;simp[V.erase,aL.qe,show ¬(0<=c.op/\c.op<=15) by omega]
 have k3:0<=c.op/\c.op<=15:=by omega
 simp only[am,cE,az k2];refine cl (h1 Z hg) ?_;cases q1:c.zE
 .simp only[am];refine aC ?_;simp[V.erase,aL.qe,q1]
 simp only[am,cE];refine cl (h2 Z hg) ?_;cases q2:c.ub
 .simp only[am];refine aC ?_;simp[V.erase,aL.qe,q1,q2]
 simp only[am,cE];refine cl (h3 Z hg) ?_;cases q3:c.wL
 .simp only[am];refine aC ?_;simp[V.erase,aL.qe,q1,q2,q3]
 simp only[am,cE];refine cl (h4 Z hg) ?_;simp only[am];refine aC ?_;simp[V.erase,aL.qe,q1,q2,q3,k3]
end Go.Proofs.Tryz
