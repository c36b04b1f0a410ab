/-
  Part 5 of the proof of StackTextUptoCardSaid: a logic over the model, the forms of the functions that the law reaches, and what they compute.
-/
import Derived.Test.YtnpggmhoandloaaGreatDoorText4
set_option linter.unusedVariables false
set_option linter.unusedSimpArgs false
set_option linter.defProp false
set_option linter.unusedSectionVars false
set_option maxRecDepth 4000
set_option maxHeartbeats 4000000
open Option renaming some->aa,none->aj
open Bool renaming true->ab,false->ar
open List renaming replicate->aq,range->bA,getD->fW,zipWith->mu
open Eq renaming mpr->ey
open Ne renaming symm->fJ
namespace Go.Am
def agA(n:Nat):Alike (ae.field (n+1)) (A' (n+1)):=λl a fin=>by
 have dr:∀(b:Int),∀r:ae,r.aM=aa b->∀m,(ae.atom m r).2.aM=aa b:=λb r hr m=>by
  have e:∀k,r.b_ k=false:=λk=>by simp[ae.b_,ae.ok,hr]
  have e2:r.take 97=(.zero,r):=by simp[ae.take,e,ae.fail,hr]
  simp[ae.atom,e,ae.leaf,ae.word,e2,hr]
 unfold A' ae.field;cases h:bL l a 97
 .left;simp only[ae.word,nY h,cM];refine⟨rfl,dr _ _ ?_ _⟩;simp[ae.take,ae.b_,ae.ok,ae.fail,eK]
 simp only[ae.word,nh h,rE,cF];cases h2:bL l (a+1) 61
 .left;simp only[nY h2,cM];exact⟨rfl,dr _ _ rfl _⟩
 simp only[nh h2,rE,cF];have e2:a+1+1=a+2:=by omega
 rw[e2];unfold cI.put
 rcases abR (n+1) l (a+2) fin with ⟨p1,p2⟩ | ⟨p1,p2⟩ | ⟨h0,_⟩
 .left;rw[aF p1];exact⟨p1,p2⟩
 .right;rw[p1,p2,w7 h];exact⟨rfl,rfl⟩
 .omega
variable{a:Int}{l:List aC}
def Yd{fin:Int}{ks:List Nd}{nx:Int}{X:(ae × List Nd) × List aA}(r1:ae)(hr:r1=⟨(bU l a).ak,nx,(bU l a).fin,aj⟩)
 (hX:X=if r1.b_ 124=ab then(((r1.take 124).2.word.2,ks),[(r1.take 124).2.word.1]) else((r1,ks),[])) :
 (sZ l a ks nx).aM=ab/\((⟨l,a+1,fin,aj⟩:ae).under X.1.1).aM=aa (sZ l a ks nx).pos \/
 (sZ l a ks nx).aM=ar/\((Nd.mk 10 (gh l a).pos [] X.2 X.1.2,(⟨l,a+1,fin,aj⟩:ae).under X.1.1):Nd × ae)=((sZ l a ks nx).node,⟨l,(sZ l a ks nx).next,fin,aj⟩):=by
 subst hr;unfold sZ;simp only[nU] at hX;cases Ma:bL (bU l a).ak nx 124
 .rw[Ma] at hX;simp only[dP,cF] at hX ⊢;subst hX;unfold yn
  by_cases hn:nx<(bU l a).ak.length
  .left;rw[aF hn];exact⟨rfl,by simp[ae.under,ae.close,ae.ok,hn,ae.fail,DJ,eK]⟩
  .right;rw[aB hn];exact⟨rfl,by simp[ae.under,ae.close,hn]⟩
 .rw[Ma] at hX;simp only[cM,nh Ma] at hX ⊢;cases gX:bL (bU l a).ak (nx+1) 97
  .left;have e:nameAt (bU l a).ak (nx+1) (bU l a).fin=eK (bU l a).ak (nx+1) (bU l a).fin:=WD gX;rw[e];simp only[eK,cM];subst hX;exact⟨trivial,by simp[ae.word,nY gX,ae.under,ae.close,ae.ok]⟩
  .rw[WE gX];simp only[dP,cF];have hw:(⟨(bU l a).ak,nx+1,(bU l a).fin,aj⟩:ae).word=(⟨(gh (bU l a).ak (nx+1)).au,(gh (bU l a).ak (nx+1)).pos⟩,⟨(bU l a).ak,nx+1+1,(bU l a).fin,aj⟩):=by
    simp[ae.word,nh gX,w7 gX]
   rw[hw] at hX;subst hX;unfold yn
   by_cases hn:nx+1+1<(bU l a).ak.length
   .left;rw[aF hn];exact⟨rfl,by simp[ae.under,ae.close,ae.ok,hn,ae.fail,DJ,eK]⟩
   .right;rw[aB hn];exact⟨rfl,by simp[ae.under,ae.close,hn,uf,Nd.au,Nd.pos]⟩
def atN(n:Nat):Alike (ae.row (n+1)) (mZ (n+1)):=λl a fin=>by
 unfold mZ;simp only[ae.row,nU];cases gX:bL l a 97
 case true =>
  simp only[sP gX (show(97:Int)≠91 by decide),dP,cF,cM]
  have:=Dm 1 l a fin
  simp only[jM,gX,cM];exact this
 simp only[dP,cF];cases H2:bL l a 91
 case false =>
  left;simp only[dP,cF,cM];exact⟨rfl,by simp[ae.leaf,ae.word,nY gX,eK]⟩
 simp only[rE,cF,cM,nh H2,w7 H2];have eX:(bU l a).inner=⟨(bU l a).ak,0,(bU l a).fin,aj⟩:=rfl
 by_cases iw:0<(bU l a).ak.length/\bL (bU l a).ak 0 124=ar
 .rw[aF iw];have hX:ae.rowOf (n+1) (bU l a)=if (eJ (cH (ae.field (n+1))) (bU l a).inner).1.b_ 124=ab then((((eJ (cH (ae.field (n+1))) (bU l a).inner).1.take 124).2.word.2,(eJ (cH (ae.field (n+1))) (bU l a).inner).2),[((eJ (cH (ae.field (n+1))) (bU l a).inner).1.take 124).2.word.1]) else(eJ (cH (ae.field (n+1))) (bU l a).inner,[]):=by
   unfold ae.rowOf ae.pe;rw[aB (by omega)]
   have:(bU l a).inner.b_ 124=false:=by rw[eX,nU];exact iw.2
   simp[this]
  have hs:(wS (n+1) l a).2.aM=ab/\(eJ (cH (ae.field (n+1))) (bU l a).inner).1.aM=aa (wS (n+1) l a).2.pos\/(wS (n+1) l a).2.aM=ar/\eJ (cH (ae.field (n+1))) (bU l a).inner=(⟨(bU l a).ak,(wS (n+1) l a).2.next,(bU l a).fin,aj⟩,(wS (n+1) l a).1) :=
   PJ (agA n) (aaW (n+1)) (bU l a).ak (bU l a).fin ((bU l a).ak.length+1) (bU l a).ak.length 0 [] (by omega) (by omega) (by omega)
  generalize eJ (cH (ae.field (n+1))) (bU l a).inner=G'' at hX hs;generalize wS (n+1) l a=S at hs ⊢
  rcases hs with ⟨p1,p2⟩ | ⟨p1,p2⟩
  .left;rw[aF p1];have kr:G''.1.b_ 124=false:=by simp[ae.b_,ae.ok,p2]
   rw[hX,kr];simp only[dP,cF];have hc:G''.1.close=G''.1:=by simp[ae.close,ae.ok,p2]
   exact⟨p1,by simp[ae.under,hc,p2]⟩
  .rw[p1];simp only[dP,cF];rw[p2] at hX;exact Yd _ rfl hX
 .rw[aB iw];refine Yd (ks:=[]) (nx:=0) (bU l a).inner eX ?_;unfold ae.rowOf ae.pe
  by_cases hk:(bU l a).ak.length=0
  .rw[aF hk]
   have:(bU l a).inner.b_ 124=false:=by rw[eX,nU];simp[kn.1 hk,bL]
   rw[this];simp
  .rw[aB hk];have h0:bL (bU l a).ak 0 124=true:=by
    cases hq:bL (bU l a).ak 0 124 with
    | true=>rfl
    | false=>exact absurd ⟨by omega,hq⟩ iw
   have:(bU l a).inner.b_ 124=true:=by rw[eX,nU];exact h0
   simp only[this,cM]
def X0{one:ae->Nd × ae}{g:List aC->Int->Int->cI}(H:Alike one g)(l:List aC)(a fin:Int):
 (g l a fin).aM=ab/\fO one l a fin=(.zero,0,aa (g l a fin).pos)\/(g l a fin).aM=ar/\fO one l a fin=((g l a fin).node,(g l a fin).next,aj):=by
 unfold fO
 rcases H l a fin with ⟨p1,p2⟩ | ⟨p1,p2⟩
 .left;rw[p2];exact⟨p1,rfl⟩
 .right;rw[p2];exact⟨p1,rfl⟩
def GC{fin:Int}(h:bL l a 97=ab):(⟨l,a,fin,aj⟩:ae).word=(Aw l a,⟨l,a+1,fin,aj⟩):=by
 simp[ae.word,nh h,w7 h,Aw]
def GB{fin:Int}(h:bL l a 97=ar):(⟨l,a,fin,aj⟩:ae).word=(⟨[],0⟩,⟨l,a,fin,aa (pO l a fin)⟩):=by
 simp[ae.word,nY h,aC.zero,aC.tok]
def JS{fin b k:Int}:(⟨l,a,fin,aa b⟩:ae).take k=(.zero,⟨l,a,fin,aa b⟩):=by
 simp[ae.take,ae.b_,ae.ok,ae.fail]
def ZX{fin b:Int}:(⟨l,a,fin,aa b⟩:ae).word=(⟨[],0⟩,⟨l,a,fin,aa b⟩):=by
 simp[ae.word,JS,aC.zero,aC.tok]
def zW{i:ae}{b:Int}(h:i.aM=aa b):∀n acc,(ae.gM n i acc).1.aM=aa b
 | 0,_=>h
 | n+1,_=>by simp[ae.gM,h]
section
variable {N:Int} (h0:0<=N)
include h0
theorem Xh{l:List aC}{fin:Int}(hl:mn N l)(hf:In N fin):∀(n a:Nat) (acc:List (aA × aA)),l.length<n+a->a<=l.length ->
 (wP l fin n a acc).2 = -1/\(ae.gM n ⟨l,a,fin,aj⟩ acc).1.aM=aj/\(ae.gM n ⟨l,a,fin,aj⟩ acc).2=(wP l fin n a acc).1 \/
 In N (wP l fin n a acc).2/\(ae.gM n ⟨l,a,fin,aj⟩ acc).1.aM=aa (wP l fin n a acc).2
 | 0,a,acc,hn,ha=>by omega
 | n + 1, a, acc, hn, ha => by
  simp only[ae.gM,wP,ne_eq,Jh,cF];cases U:bL l (a:Nat) 97
  .right;simp only[cM,GB U,JS,ZX];refine⟨uc h0 hl hf,?_⟩;split
   .rfl
   .exact zW rfl _ _
  simp only[GC U,rE,cF];cases h2:bL l ((a+1:Nat):Int) 60
  .right;have xG : bL l ((a:Int)+1) 60=false:=h2;simp only[cM,nY xG,ZX,JS];refine⟨uc h0 hl hf,?_⟩;split
   .rfl
   .exact zW rfl _ _
  have xG : bL l ((a:Int)+1) 60=true:=h2;simp only[nh xG,rE,cF];rw[show(a:Int)+1+1=((a+2:Nat):Int) by omega];cases h3:bL l ((a+2:Nat):Int) 97
  .right;simp only[cM,GB h3,JS];refine⟨uc h0 hl hf,?_⟩;split
   .rfl
   .exact zW rfl _ _
  have iu:=(rV h3).2;simp only[GC h3,rE,cF];rw[show((a+2:Nat):Int)+1=((a+3:Nat):Int) by omega]
  by_cases jm:a+3=l.length
  .left;rw[aF jm,aF (show((a+3:Nat):Int)=(l.length:Int) by omega)];exact⟨rfl,rfl,rfl⟩
  rw[aB jm,aB (show ¬((a+3:Nat):Int)=(l.length:Int) by omega)];cases h4:bL l ((a+3:Nat):Int) 44
  .right;simp only[cM,nY h4];exact⟨uc h0 hl hf,zW rfl _ _⟩
  simp only[nh h4,rE,cF];rw[show((a+3:Nat):Int)+1=((a+4:Nat):Int) by omega];exact Xh hl hf n (a+4) _ (by omega) (by omega)
def PA(l:List aC)(fin:Int)(P:ae × az)(R:az × Int × Int):Prop :=
 0<=R.2.2/\P.1.aM=aa R.2.2\/R.2.2<0/\P=(⟨l,R.2.1,fin,aj⟩,R.1)
def I2(ks:List UInt8):Prop:=∀k∈ks,k=110\/k=102\/k=119\/k=112\/k=116\/k=114
variable{k:UInt8}
theorem arH{fin:Int}(hl:mn N l)(hf:In N fin)(hm:0<bp l)(c:az)(a:Nat)(hk:k=110\/k=102\/k=119\/k=112\/k=116\/k=114)(hp:k=112->c.bw=[]):
 PA l fin (dC k (⟨l,a,fin,aj⟩,c)) (mX k c l a fin):=by
 have hs:∀b,In N (pO l b fin):=λb=>uc h0 hl hf
 rcases hk with rfl | rfl | rfl | rfl | rfl | rfl
 .simp only[dC,mX];cases h:bL l (a:Nat) 97
  .left;simp[GB h];exact(hs _).1
  .right;simp[GC h]
 .simp only[dC,mX];cases h:bL l (a:Nat) 97
  .left;simp[GB h];exact(hs _).1
  .right;simp[GC h]
 .have hi:=Z2 h0 (a:=(a:Nat)) hl hf
  rcases aw1 l (a:Nat) fin with ⟨p1,p2⟩ | ⟨p1,p2⟩
  .left;simp[dC,mX,p1,p2];exact hi.1
  .right;simp[dC,mX,p1,p2]
 .have hp:=hp rfl;cases h:bL l (a:Nat) 123
  .left;simp[dC,mX,qA,nY h,h];exact(hs _).1
  .obtain⟨hk,sG⟩:=JW h0 (a:=(a:Nat)) hl;have ha:=Xh h0 hk sG ((bU l (a:Nat)).ak.length+1) 0 [] (by omega) (by omega);have eX:(bU l (a:Nat)).inner=⟨(bU l (a:Nat)).ak,((0:Nat):Int),(bU l (a:Nat)).fin,aj⟩:=rfl
   by_cases hz:(bU l (a:Nat)).ak.length=0
   .right;simp only[dC,mX,qA,nh h,h,Dz];simp[hz,hp]
   .simp only[dC,mX,qA,nh h,h,Dz,eX];generalize ae.gM ((bU l (a:Nat)).ak.length+1) ⟨(bU l (a:Nat)).ak,((0:Nat):Int),(bU l (a:Nat)).fin,aj⟩ []=G'' at ha ⊢;generalize wP (bU l (a:Nat)).ak (bU l (a:Nat)).fin ((bU l (a:Nat)).ak.length+1) 0 []=F at ha ⊢
    rcases ha with ⟨p1,p2,p3⟩ | ⟨p1,p2⟩
    .right;simp[hz,p1,p2,p3,ae.vL]
    .left
     have:=p1.1
     simp[hz,p2,ae.vL];exact this
 .have hi:=FF h0 (bp l) l (a:Nat) fin hl hf;obtain⟨m,hm⟩:∃m,bp l=m+1:=⟨bp l - 1,by omega⟩;rw[hm] at hi;have e1:mX 116 c l (a:Nat) fin=if (jM (bp l) l (a:Nat) fin).aM=ab then(c,(a:Int),(jM (bp l) l (a:Nat) fin).pos) else(if c.left.kind=0 then {c with left:=(jM (bp l) l (a:Nat) fin).node} else {c with right:=(jM (bp l) l (a:Nat) fin).node},(jM (bp l) l (a:Nat) fin).next,-1):=rfl
  have e2:dC 116 (⟨l,a,fin,aj⟩,c)=jD ⟨l,a,fin,aj⟩ c (fO (ae.label (bp l)) l (a:Nat) fin):=rfl;rw[e1,e2,hm];have ha:=X0 (NV (m+1)) l (a:Nat) fin;generalize fO (ae.label (m+1)) l (a:Nat) fin=T at ha ⊢;generalize jM (m+1) l (a:Nat) fin=g at ha hi ⊢
  rcases ha with ⟨p1,p2⟩ | ⟨p1,p2⟩
  .left;rw[aF p1,p2];exact⟨hi.1,rfl⟩
  .right;rw[aB (by simp[p1]),p2];exact⟨show(-1:Int)<0 by decide,rfl⟩
 .have hi:=Yf h0 (bp l) l (a:Nat) fin hl hf;obtain⟨m,hm⟩:∃m,bp l=m+1:=⟨bp l - 1,by omega⟩;rw[hm] at hi;have e1:mX 114 c l (a:Nat) fin=if (mZ (bp l) l (a:Nat) fin).aM=ab then(c,(a:Int),(mZ (bp l) l (a:Nat) fin).pos) else(if c.left.kind=0 then {c with left:=(mZ (bp l) l (a:Nat) fin).node} else {c with right:=(mZ (bp l) l (a:Nat) fin).node},(mZ (bp l) l (a:Nat) fin).next,-1):=rfl
  have e2:dC 114 (⟨l,a,fin,aj⟩,c)=jD ⟨l,a,fin,aj⟩ c (fO (ae.row (bp l)) l (a:Nat) fin):=rfl;rw[e1,e2,hm];have ha:=X0 (atN m) l (a:Nat) fin;generalize fO (ae.row (m+1)) l (a:Nat) fin=T at ha ⊢;generalize mZ (m+1) l (a:Nat) fin=g at ha hi ⊢
  rcases ha with ⟨p1,p2⟩ | ⟨p1,p2⟩
  .left;rw[aF p1,p2];exact⟨hi.1,rfl⟩
  .right;rw[aB (by simp[p1]),p2];exact⟨show(-1:Int)<0 by decide,rfl⟩
theorem Jr{b:Int}:∀(ks:List UInt8) (x:ae × az),x.1.aM=aa b->(jc ks x).1.aM=aa b
 | [],_,h=>h
 | k :: ks, x, h => by
  simp only[jc];exact Jr ks _ (by simp[dC,h])
variable{c:az}
theorem arG{fin:Int}(hk:k≠112):(mX k c l a fin).1.bw=c.bw:=by
 unfold mX;split
 .split
  .split<;>rfl
  .rfl
 split
 .split<;>rfl
 generalize (if k=114 then mZ (bp l) l a fin else jM (bp l) l a fin)=g;simp only[];cases g.aM
 .simp only[dP,cF];split<;>rfl
 .rfl
theorem ON{l:List aC}{fin:Int}(hl:mn N l)(hf:In N fin)(hm:0<bp l):∀(ks:List UInt8) (c:az) (a:Nat),I2 ks->ks.count 112<=1->(112∈ks->c.bw=[]) ->
 PA l fin (jc ks (⟨l,a,fin,aj⟩,c)) (wQ l fin ks c a)
 | [],c,a,_,_,_=>.inr ⟨by simp[wQ],rfl⟩
 | k :: ks, c, a, hk, hc, hp => by
  have U:=arH h0 hl hf hm c a (hk k (by simp)) (λh=>hp (by simp[h]));obtain⟨a',H5,_⟩:=arF k c l a fin;have Iv:=arG h0 (k:=k) (c:=c) (l:=l) (a:=(a:Nat)) (fin:=fin);simp only[jc,wQ];generalize mX k c l (a:Nat) fin=R at U H5 Iv ⊢
  rcases U with ⟨p1,p2⟩ | ⟨p1,p2⟩
  .rw[aF p1];exact .inl ⟨p1,Jr h0 ks _ p2⟩
  .rw[aB (by omega),p2,H5]
   by_cases e:k=112
   .have hn:ks.count 112=0:=by rw[e] at hc;rw[QM] at hc;omega
    exact ON hl hf hm ks _ a' (λk h=>hk k (by simp[h])) (by omega) (λh=>absurd h (QN.1 hn))
   .refine ON hl hf hm ks _ a' (λk h=>hk k (by simp[h])) ?_ (λh=>?_)
    .rw[List.count_cons_of_ne e] at hc;exact hc
    .rw[Iv e];exact hp (by simp[h])
end
def WW{w:List UInt8}:∀n op,(∀k:Nat,op<=k->k<op+n->0<k->(cu k).1≠w)->pF w n op=0
 | 0,_,_=>rfl
 | n + 1, op, h => by
  simp only[pF];rw[aB (λ⟨x,y⟩=>h op (by omega) (by omega) x y)];exact WW n (op+1) λk a b c=>h k (by omega) (by omega) c
def W5{w:List UInt8}(r:Int):∀n op,(∀k:Nat,op<=k->k<op+n->(cu k).1≠w)->BX w n op r=r
 | 0,_,_=>rfl
 | n + 1, op, h => by
  simp only[BX];rw[aB (λe=>h op (by omega) (by omega) e.symm)];exact W5 r n (op+1) λk a b=>h k (by omega) (by omega)
def aqc(w:List UInt8):jt w=BX w 15 1 0:=by
 by_cases h:∃k:Nat,k<16/\0<k/\(cu k).1=w
 .obtain⟨k,U,h2,rfl⟩:=h;have key:∀k:Nat,k<16->0<k->pF (cu k).1 16 0=BX (cu k).1 15 1 0:=by decide +kernel
  exact key k U h2
 .have hn:∀k:Nat,k<16->0<k->(cu k).1≠w:=λk U h2 e=>h ⟨k,U,h2,e⟩
  unfold jt;rw[WW 16 0 (λk _ U h2=>hn k (by omega) h2),W5 0 15 1 (λk U h2=>hn k (by omega) (by omega))]
def HP(op:Int):I2 (cu op).2/\(cu op).2.count 112<=1:=by
 unfold cu I2;split
 .rename_i U;have aD:op.toNat<16:=by omega
  generalize op.toNat=n at aD ⊢;have key:∀n<16,(∀k∈(iZ.getD n ([],[])).2,k=110\/k=102\/k=119\/k=112\/k=116\/k=114)/\(iZ.getD n ([],[])).2.count 112<=1:=by decide +kernel
  exact key n aD
 .simp
def adP{N:Int}(h0:0<=N){fin:Int}(hl:mn N l)(hf:In N fin):uB l fin=vS l fin:=by
 cases l with
 | nil=>rfl
 | cons t ts =>
  have hm:0<bp (t::ts):=by have:=mW (t::ts);simp at this;omega
  have hk:bL (t::ts) ((0:Nat):Int) 97=decide (t.tok.kind=97):=by simp[bL]
  unfold uB vS;simp only
  by_cases gX:t.tok.kind=97
  .have qU:bL (t::ts) 0 97=true:=by have:=hk;simp only[gX,b9] at this;exact this
   have hw:(⟨t::ts,0,fin,aj⟩:ae).word=(⟨t.tok.au,t.tok.pos⟩,⟨t::ts,((1:Nat):Int),fin,aj⟩):=by
    rw[GC qU];rfl
   simp only[hw,aF gX,<-aqc];generalize jt t.tok.au=op
   by_cases hz:op=0
   .rw[aF hz,aF hz]
   .rw[aB hz,aB hz];obtain⟨f1,f2⟩:=HP op;have Fj:=ON h0 hl hf hm (cu op).2 {az.zero with op:=op,pos:=t.tok.pos} 1 f1 f2 (λ_=>rfl);rw[show((1:Nat):Int)=1 from rfl] at Fj ⊢;generalize wQ (t::ts) fin (cu op).2 {az.zero with op:=op,pos:=t.tok.pos} 1=R at Fj ⊢
    rcases Fj with ⟨p1,p2⟩ | ⟨p1,p2⟩
    .rw[aF p1];unfold xz;simp[p2]
    .rw[aB (by omega),p2];unfold xz
     by_cases jm:R.2.1<((t::ts).length:Int)
     .rw[aF jm];simp only[qF,aF jm,ae.fail,DJ]
     .rw[aB jm];simp only[qF,aB jm]
  .have qU:bL (t::ts) 0 97=false:=by have:=hk;simp only[gX,fL] at this;exact this
   rw[GB qU,aB gX]
   have:jt []=0:=by decide +kernel
   simp only[this,cM]
def atf(s:List UInt8):cG s=O8 s:=by
 unfold cG O8;rw[Cc];have h:=(Wb s).1;rw[adP (N:=s.length) (by omega) h ⟨by omega,by omega⟩]
 all_goals rcases(eG s).2 with _ | a<;>first | rfl | (cases (iT (eG s).1).2<;>rfl)
variable{c:az}
def OS(h:c.fp=ab)(U:1<=c.op):∀q∈mU (cu c.op).2 [c.left,c.right],AQ q.1 c q.2:=by
 simp only[az.fp,bg,bQ] at h;obtain⟨⟨⟨⟨h0,hn⟩,kr⟩,hp⟩,ht⟩:=h;obtain⟨hk,_,_⟩:=EF U h0.2;simp only[az.nP,az.kA,az.mi,az.kE,fm] at hn kr hp ht;have nm:∀l,qu (l.map aA.au)=ab->jf l=true:=λl h=>apA h
 simp only[FD,lq,GR,F1] at hk
 rcases hk with e | e | e | e | e | e | e
 all_goals simp[e] at hn kr hp ht
 all_goals simp[e,mU,isTerm,AQ]
 .exact⟨hn,kr.1,nm _ kr.2⟩
 .exact⟨hn,⟨kr.1,nm _ kr.2⟩,hp⟩
 .exact⟨hn,ht.1,ht.2⟩
 .exact⟨hn,ht.1,ht.2⟩
 .exact⟨hn,kr.1,nm _ kr.2⟩
 .exact hn
mutual
def Nd.Ab:∀(n m:Nd),n.c_ m=ab->m.c_ n=ab
 | .mk k p t ws ks, m, h => by
  rw[Nd.DG] at h;simp only[bg,bQ] at h;obtain⟨⟨⟨U,h2⟩,h3⟩,h4⟩:=h;refine vm U.symm h2.symm ?_ (YY ks m.ak h4);rw[Gb] at h3 ⊢;simp only[bQ] at h3 ⊢;exact h3.symm
def YY:∀(a b:List Nd),dT a b=ab->dT b a=ab
 | [],[],_=>by simp[dT]
 | [],_::_,h=>by simp[dT] at h
 | _::_,[],h=>by simp[dT] at h
 | n :: ns, m :: ms, h => by
  simp only[dT,bg] at h ⊢;exact⟨Nd.Ab n m h.1,YY ns ms h.2⟩
end
def YK:∀(a b:List (aA × aA)),ml a b=ab->ml b a=ab
 | [],[],_=>rfl
 | [],_::_,h=>by simp[ml] at h
 | _::_,[],h=>by simp[ml] at h
 | p :: ps, q :: qs, h => by
  simp only[ml,bg,bQ] at h ⊢;exact⟨⟨h.1.1.symm,h.1.2.symm⟩,YK ps qs h.2⟩
def az.Ab{a b:az}(h:a.c_ b=ab):b.c_ a=true:=by
 unfold az.c_ at h ⊢;rw[Gb] at h ⊢;simp only[bg,bQ] at h ⊢;obtain⟨⟨⟨⟨⟨U,h2⟩,h3⟩,h4⟩,h5⟩,h6⟩:=h;exact⟨⟨⟨⟨⟨U.symm,h2.symm⟩,h3.symm⟩,YK _ _ h4⟩,Nd.Ab _ _ h5⟩,Nd.Ab _ _ h6⟩
def VD{m n:Nd}(h:m.c_ n=ab):m.kind=n.kind:=by
 rw[Nd.DG] at h;simp only[bg,bQ] at h;exact h.1.1.1
def VF{n:Nd}(h:n.eP=ab):n.kind≠0:=by
 rcases FH h with ⟨h,_⟩ | ⟨h,_⟩ | ⟨h,_⟩<;>omega
def Yh{n:Nd}(h:n.jF=ab):n.kind≠0:=by
 rcases DF h with ⟨h,_⟩ | ⟨h,_⟩<;>omega
variable{p:Int}
def afC{d:az}(h:c.fp=ab)(U:1<=c.op)(he:GJ c (mU (cu c.op).2 [c.left,c.right]) {az.zero with op:=c.op,pos:=p} d):d.c_ c=true:=by
 simp only[az.fp,bg,bQ] at h;obtain⟨⟨⟨⟨h0,hn⟩,kr⟩,hp⟩,ht⟩:=h;obtain⟨hk,_,_⟩:=EF U h0.2;simp only[az.nP,az.kA,az.mi,az.kE,fm] at hn kr hp ht;simp only[FD,lq,GR,F1] at hk;have zl:∀n:Nd,n.c_ .zero=ab->Nd.zero.c_ n=true:=λn h=>Nd.Ab _ _ h
 have hz:(Nd.zero).kind=0:=rfl;have w0:c.an=[]->eH [] c.an=true:=λe=>by rw[e];rfl
 have p0:c.bw=[]->ml [] c.bw=true:=λe=>by rw[e];rfl
 rcases hk with e | e | e | e | e | e | e
 all_goals simp[e] at hn kr hp ht
 all_goals simp[e,mU,isTerm,GJ,GI] at he
 .obtain⟨c1,⟨w,a1,rfl⟩,ws,a2,rfl⟩:=he;simp[az.c_,a1,a2,az.zero,p0 hp,zl _ ht.1,zl _ ht.2]
 .obtain⟨c1,⟨w,a1,rfl⟩,c2,⟨ws,a2,rfl⟩,ps,a3,⟨a,rfl⟩⟩:=he;simp[az.c_,a1,a2,a3,az.zero,zl _ ht.1,zl _ ht.2]
 .obtain⟨c1,⟨w,a1,rfl⟩,c2,⟨m,a2,rfl⟩,m2,a3,rfl⟩:=he
  have:=VD a2
  have:=VF ht.1
  have hm:m.kind≠0:=by omega
  simp[az.c_,a1,a2,a3,az.zero,hz,hm,w0 kr,p0 hp]
 .obtain⟨c1,⟨w,a1,rfl⟩,c2,⟨m,a2,rfl⟩,m2,a3,rfl⟩:=he
  have:=VD a2
  have:=Yh ht.1
  have hm:m.kind≠0:=by omega
  simp[az.c_,a1,a2,a3,az.zero,hz,hm,w0 kr,p0 hp]
 .obtain⟨c1,⟨w,a1,rfl⟩,ws,a2,rfl⟩:=he;simp[az.c_,a1,a2,az.zero,p0 hp,zl _ ht.1,zl _ ht.2]
 .subst he;simp[az.c_,az.zero,hn,w0 kr,p0 hp,zl _ ht.1,zl _ ht.2]
 .obtain⟨w,a1,rfl⟩:=he;simp[az.c_,a1,az.zero,w0 kr,p0 hp,zl _ ht.1,zl _ ht.2]
variable{toks:List Tok}
def adN(h:c.fp=ab)(U:1<=c.op)(ht:toks.map Tok.sh=Gf c):
 ∃us:List aC,bG us=toks/\fK us/\∀fin:Int,∃d:az,uB us fin=(d,0,0)/\d.c_ c=true:=by
 have uK:c.op<=15:=by simp only[az.fp,bg,bQ] at h;exact h.1.1.1.1.2
 obtain⟨_,k2,k3⟩:=EF U uK;unfold Gf at ht;obtain⟨t1,t2,rfl,a1,a2⟩:=j5.1 ht;obtain⟨u1,n1,f1,w1,b1⟩:=yE ⟨(cu c.op).1,0⟩ t1 a1;obtain⟨u2,f2,w2,b2⟩:=Xo (mU (cu c.op).2 [c.left,c.right]) (OS h U) (by rw[N6];exact(HP c.op).2) t2 a2;refine⟨u1++u2,by rw[iY,f1,f2],by rw[kK];exact⟨w1,w2⟩,λfin=>?_⟩;obtain⟨y,q1,q2⟩:=b1 (bp u1) (bY _) [] u2 fin;have q1:(at_ [] (u1++u2) fin 0).word=(y,at_ u1 u2 fin 0):=q1;have q2:y.au=(cu c.op).1:=by simpa [qH] using q2
 obtain⟨d,e1,e2⟩:=b2 u1 fin {az.zero with op:=c.op,pos:=y.pos} (λ_=>rfl);rw[N6] at e1;refine⟨d,?_,afC h U e2⟩;have hq:(⟨u1++u2,0,fin,aj⟩:ae).word=(y,at_ u1 u2 fin 0):=q1;obtain⟨t,ts,hu⟩:∃t ts,u1++u2=t::ts:=by
  cases u1 with
  | nil=>exact absurd rfl n1
  | cons t r=>exact⟨t,r++u2,rfl⟩
 rw[hu] at hq ⊢;unfold uB;simp only[hq,q2,k3];rw[aB (by omega),e1];unfold xz;simp[at_]
def aq'(h:c.fp=ab)(h0:c.op=0):dO c=[]/\az.zero.c_ c=true:=by
 simp only[az.fp,bg,bQ] at h;obtain⟨⟨⟨⟨_,hn⟩,kr⟩,hp⟩,ht⟩:=h;have e:(cu c.op).2=[]:=by rw[h0];rfl
 have e1:(cu c.op).1=[]:=by rw[h0];rfl
 simp only[az.nP,az.kA,az.mi,az.kE,fm] at hn kr hp ht;simp[e] at hn kr hp ht;have zl:∀n:Nd,n.c_ .zero=ab->Nd.zero.c_ n=true:=λn h=>Nd.Ab _ _ h
 refine⟨by simp[dO,iB,e,e1,hC],?_⟩;simp[az.c_,az.zero,h0,hn,kr,hp,eH,ml,zl _ ht.1,zl _ ht.2]
def atg(h:c.fp=ab):(eG (dO c)).2=aj /\
 ((iT (eG (dO c)).1).2=aj->∃d,cG (dO c)=(d,0,0)/\c.c_ d=ab)/\(∀a,(iT (eG (dO c)).1).2=aa a->cG (dO c)=(.zero,2,a)):=by
 have h0:0<=c.op:=by simp only[az.fp,bg,bQ] at h;exact h.1.1.1.1.1
 have uK:c.op<=15:=by simp only[az.fp,bg,bQ] at h;exact h.1.1.1.1.2
 by_cases hz:c.op=0
 .obtain⟨e1,e2⟩:=aq' h hz;rw[e1];refine⟨rfl,λ_=>⟨.zero,rfl,az.Ab e2⟩,λa ha=>?_⟩
  have:(iT (eG []).1).2=none:=by decide +kernel
  rw[this] at ha;simp at ha
 .have U:1<=c.op:=by omega
  obtain⟨_,k2,_⟩:=EF U uK;obtain⟨l1,l2⟩:=ZF k2 (OS h U);obtain⟨us,f1,w1,b1⟩:=adN h U l2;refine⟨l1,λhd=>?_,λa ha=>?_⟩
  .have ht:(iT (eG (dO c)).1).1=us:=by rw[<-f1] at hd ⊢;exact ZK w1 hd
   obtain⟨d,e1,e2⟩:=b1 ((dO c).length:Nat);refine⟨d,?_,az.Ab e2⟩;unfold cG;rw[Cc,l1,hd,ht];exact e1
  .unfold cG;rw[Cc,l1,ha]
mutual
def Pw:∀(n m:Nd),n.c_ m=ab->n.cY=m.cY
 | .mk k p t ws ks, m, h => by
  rw[Nd.DG] at h;simp only[bg,bQ] at h;obtain⟨⟨⟨U,h2⟩,h3⟩,h4⟩:=h;rw[Gb] at h3;simp only[bQ] at h3;have h5:de (Nd.mk k p t ws ks).ak=de m.ak:=YT ks m.ak h4;have h6:fR (Nd.mk k p t ws ks).an=fR m.an:=by unfold fR;rw[h3]
  have h7:(Nd.mk k p t ws ks).an.length=m.an.length:=by have:=iH List.length h3;simpa using this
  rw[Nd.vq (.mk k p t ws ks),Nd.vq m,U,h2,h5,h6]
  first | rfl | rw[h7] | skip
def YT:∀(a b:List Nd),dT a b=ab->de a=de b
 | [],[],_=>rfl
 | [],_::_,h=>by simp[dT] at h
 | _::_,[],h=>by simp[dT] at h
 | n :: ns, m :: ms, h => by
  simp only[dT,bg] at h;simp only[de,Pw n m h.1,YT ns ms h.2]
end
def YL:∀(a b:List (aA × aA)),ml a b=ab->a.map h_=b.map h_
 | [],[],_=>rfl
 | [],_::_,h=>by simp[ml] at h
 | _::_,[],h=>by simp[ml] at h
 | p :: ps, q :: qs, h => by
  simp only[ml,bg,bQ] at h;simp only[cz,h_,h.1.1,h.1.2,YL ps qs h.2]
def Pv{a b:az}(h:a.c_ b=ab):dO a=dO b:=by
 unfold az.c_ at h;rw[Gb] at h;simp only[bg,bQ] at h;obtain⟨⟨⟨⟨⟨U,h2⟩,h3⟩,h4⟩,h5⟩,h6⟩:=h;have hp:=YL _ _ h4;have key:∀(ks:List UInt8) (ts us:List Nd),ts.map Nd.cY=us.map Nd.cY->(mU ks ts).map (λq=>jE q.1 a q.2)=(mU ks us).map (λq=>jE q.1 b q.2):=by
  intro ks;induction ks with
  | nil=>intros;rfl
  | cons k ks ih =>
   intro ts us qn;have hh:(ts.headD .zero).cY=(us.headD .zero).cY:=by
    cases ts with
    | nil => cases us with
     | nil=>rfl
     | cons=>simp at qn
    | cons => cases us with
     | nil=>simp at qn
     | cons=>simp at qn;exact qn.1
   have ht:(if isTerm k=ab then ts.tail else ts).map Nd.cY=(if isTerm k=ab then us.tail else us).map Nd.cY:=by
    split
    .rw[List.map_tail,List.map_tail,qn]
    .exact qn
   simp only[mU,cz,ih _ _ ht];congr 1;unfold jE;rw[h2,h3,hp,hh]
 rw[JT,JT,U,key _ [a.left,a.right] [b.left,b.right] (by simp[Pw _ _ h5,Pw _ _ h6])]
def Cx(t:Tok):Prop:=(t.kind=97/\cV t.au=ab)\/∃c:UInt8,t.kind=(c.toNat:Nat)/\t.au=[c]/\(nW (c.toNat:Nat)&&!fA c&&decide (c.toNat≠45))=ab
def au4(c:UInt8)(h:nW (c.toNat:Nat)=ab):(nW (c.toNat:Nat)&&!fA c&&decide (c.toNat≠45))=true:=by
 have key:∀n<256,nW ((UInt8.ofNat n).toNat:Nat)=ab->(nW ((UInt8.ofNat n).toNat:Nat)&&!fA (UInt8.ofNat n)&&decide ((UInt8.ofNat n).toNat≠45))=true:=by decide +kernel
 have:=key c.toNat c.toNat_lt
 rw[UInt8.ofNat_toNat] at this;exact this h
def I5:∀(n p:Nat) (r:List UInt8) (acc:List Tok),(∀t∈acc,Cx t)->∀t∈(fG n p r acc).1,Cx t
 | 0,_,r,acc,h=>by cases r<;>simpa [fG] using h
 | n+1,p,[],acc,h=>by simpa [fG] using h
 | n + 1, p, c :: r, acc, h => by
  simp only[fG];split
  .exact h
  .split
   .rename_i hr;refine I5 n _ _ _ λt ht=>?_
    rcases fi.1 ht with ht | ht
    .exact h t ht
    .rw[kH.1 ht];exact .inl ⟨rfl,hr.2⟩
   .split
    .rename_i hs;refine I5 n _ _ _ λt ht=>?_
     rcases fi.1 ht with ht | ht
     .exact h t ht
     .rw[kH.1 ht];exact .inr ⟨c,rfl,rfl,au4 c hs⟩
    .split
     .exact I5 n _ _ _ h
     .simp
def pn(l:List Tok):Nat:=(l.map λt=>t.au.length+1).sum
def J3(a b:List Tok):pn (a++b)=pn a+pn b:=by simp[pn]
def I6:∀(n p:Nat) (r:List UInt8) (acc:List Tok),pn (fG n p r acc).1<=pn acc+2*r.length
 | 0,_,r,acc=>by cases r<;>simp[fG]
 | n+1,p,[],acc=>by simp[fG]
 | n + 1, p, c :: r, acc => by
  simp only[fG];have hr:=Pm (c::r);simp only[dm] at hr ⊢;split
  .simp only;omega
  .split
   .rename_i U
    have:=I6 n (p+(fP (c::r)).length) ((c::r).drop (fP (c::r)).length) (acc++[⟨97,fP (c::r),p⟩])
    simp only[J3,KD,dm] at this;simp only[pn,cz,fe,py,tu] at this ⊢;omega
   .split
    .have:=I6 n (p+1) r (acc++[⟨(c.toNat:Nat),[c],p⟩])
     simp only[J3] at this;simp only[pn,cz,fe,py,tu,dm,dQ] at this ⊢;omega
    .split
     .have:=I6 n (p+1) r acc;omega
     .simp[pn]
def V7:∀(toks:List Tok) (k:Option Int),(∀t∈toks,Cx t)->nq (jI k toks) (toks.map Tok.sh)/\(k=aa 97->Stop (jI k toks))
 | [],k,_=>⟨lex_nil,λ_=>trivial⟩
 | t :: ts, k, h => by
  obtain⟨U,h2⟩:=V7 ts (aa t.kind) λx hx=>h x (by simp[hx])
  rcases h t (by simp) with ⟨hk,hn⟩ | ⟨c,hk,ht,hc⟩
  .have hl:nq (t.au++jI (aa t.kind) ts) ((t::ts).map Tok.sh):=by
    have:=V2 hn (h2 (by rw[hk])) U
    have e:t.sh=gg t.au:=by unfold Tok.sh gg;rw[hk]
    rw[cz,e];exact this
   by_cases MV:k=aa 97
   .have e:jI k (t::ts)=[32]++(t.au++jI (aa t.kind) ts):=by simp[jI,MV,hk]
    rw[e];exact⟨V5 hl,λ_=>show fA 32=ar by decide⟩
   .have e:jI k (t::ts)=t.au++jI (aa t.kind) ts:=by simp[jI,MV]
    rw[e];exact⟨hl,λh=>absurd h MV⟩
  .simp only[bg,tm,bQ] at hc;have gX:t.kind≠97:=λe=>by
    have h3:=hc.1.1;rw[<-hk,e] at h3;revert h3;decide
   have e:jI k (t::ts)=[c]++jI (aa t.kind) ts:=by simp[jI,gX,ht]
   rw[e];have es:t.sh=bS c:=by unfold Tok.sh bS;rw[hk,ht]
   rw[cz,es];exact⟨V4 hc.1.1 hc.1.2 hc.2 U,λ_=>hc.1.2⟩
def aoo{s:List UInt8}{a b:List Sh}(h:nq s a)(k:nq s b):a=b:=by
 obtain⟨x,e1,e2⟩:=h s.length 0 [] (bY _);obtain⟨y,f1,f2⟩:=k s.length 0 [] (bY _);rw[e1] at f1
 have:x=y:=by simpa using f1
 rw[<-e2,<-f2,this]
def Zh{T:List UInt8}{S:List Sh}(h:∀t∈toks,Cx t)(hL:kG T S)(ht:fC toks=T):toks.map Tok.sh=S:=by
 have U:nq (T++[]) (S++[]):=hL [] [] trivial lex_nil;rw[eD,eD,<-ht] at U;exact aoo (V7 toks aj h).1 U
def P0:∀(toks:List Tok) (k:Option Int),(jI k toks).length<=pn toks
 | [],k=>by simp[jI]
 | t :: ts, k => by
  have:=P0 ts (aa t.kind)
  simp only[jI,bM,pn,cz,py] at this ⊢;split<;>simp<;>omega
def avN(h:toks≠[]):(fC toks).length+1<=pn toks:=by
 cases toks with
 | nil=>exact absurd rfl h
 | cons t ts =>
  have:=P0 ts (aa t.kind)
  simp only[fC,jI,bM,pn,cz,py,reduceCtorEq,Ey,cF,dQ] at this ⊢;omega
def anB{l m:List Tok}(h:l.map Tok.kind=m.map Tok.kind)(i:Nat):fw l i=fw m i:=by
 have e:∀x:List Tok,fw x i=((x.map Tok.kind)[i]?).getD 0:=λx=>by
  unfold fw;rw[uo];cases x[i]?<;>rfl
 rw[e,e,h]
def Te{l m:List Tok}(h:l.map Tok.kind=m.map Tok.kind):∀n i o,qR l n i o=qR m n i o
 | 0,_,_=>rfl
 | n + 1, i, o => by
  have hk:fw l=fw m:=funext (anB h);have ih:qR l n=qR m n:=funext λi=>funext λo=>Te h n i o
  simp only[qR,hk,ih]
def avY{l m:List Tok}(h:l.map Tok.sh=m.map Tok.sh)(hn:(iT l).2=aj):(iT m).2=none:=by
 have hk:l.map Tok.kind=m.map Tok.kind:=by
  have:=iH (List.map Prod.fst) h
  simpa [Cr,tq,Tok.sh] using this
 have hl:l.length=m.length:=by simpa using iH List.length h
 unfold iT at hn ⊢;rw[Te hk,hl] at hn;split
 .rename_i h0;rw[aF h0] at hn;simp at hn
 .rfl
variable{r r':ae}{seg:List aC}
def Lz(h:jh r r' seg):0<=r.at_/\r'.at_=r.at_+(seg.length:Nat)/\r'.at_<=(r.l.length:Nat):=by
 obtain⟨pre,post,e1,e2,e3⟩:=h.ex;rw[e1,e2,e3];simp only[bM];refine⟨?_,?_,?_⟩<;>omega
def HA(h:jh r r' seg)(hg:fg r.l):fg r'.l:=by rw[h.l];exact hg
def anf(x y:List UInt8)(l:List (List UInt8)):bX (x::y::l)=x++[44]++bX (y::l):=by simp[bX]
def ae7{t:aC}{i:ae}(h:jh t.inner i seg)(he:i.at_=(t.ak.length:Nat)):seg=t.ak:=by
 obtain⟨pre,post,e1,e2,e3⟩:=h.ex;have e0:t.inner.at_=0:=rfl;have el:t.inner.l=t.ak:=rfl;rw[e0] at e2;have hp:pre=[]:=kn.1 (by omega);subst hp;rw[el] at e1;have hq:post=[]:=by
  rw[e3,e1] at he;simp only[gQ,bM] at he;exact kn.1 (by omega)
 subst hq;simpa using e1.symm
def Xf:∀(n:Nat) (i:ae) (acc:List (aA × aA)),fg i.l->i.at_<=(i.l.length:Nat)->(i.l.length:Int)<n+i.at_->(ae.gM n i acc).1.aM=aj ->
 ∃seg ps,jh i (ae.gM n i acc).1 seg/\(ae.gM n i acc).2=acc++ps/\ps≠[]/\fC (bG seg)=bX (ps.map h_)/\ps.all pG=ab/\(ae.gM n i acc).1.at_=(i.l.length:Nat)
 | 0,i,acc,_,U,h2,_=>by omega
 | n + 1, i, acc, hg, U, h2, hb => by
  have Il:i.aM=none:=by
   cases hq:i.aM with
   | none=>rfl
   | some b=>have:=zW hq (n+1) acc;rw[hb] at this;simp at this
  have one:∀(hc:((i.word.2.take 60).2.word).2.aM=aj),∃seg,jh i ((i.word.2.take 60).2.word).2 seg/\0<seg.length/\fC (bG seg)=h_ (i.word.1,((i.word.2.take 60).2.word).1)/\pG (i.word.1,((i.word.2.take 60).2.word).1)=true:=by
   intro hc;have l1:i.word.2.l=i.l:=i.fU 97;have l2:(i.word.2.take 60).2.l=i.l:=(ae.fU _ 60).trans l1;obtain⟨s3,SR,e32,e33,_⟩:=xa (i.word.2.take 60).2 (by rw[l2];exact hg) hc;obtain⟨c1,c2⟩:=pQ SR.b;obtain⟨s1,e11,e12,e13,_⟩:=xa i hg c1.b;have oH:=(c1.kp (by rw[l1];exact hg)).1;refine⟨s1++[(i.word.2.take 60).1]++s3,(e11.trans c1).trans SR,by simp only[bM,fI];omega,?_,?_⟩
   .rw[yy (by rw[c2];decide) (by rw[c2];rfl),e12,e32,r8 oH c2 (by decide)];rfl
   .simp[pG,e13,e33]
  simp only[ae.gM] at hb ⊢;rw[aB (by simp[Il])] at hb ⊢;split
  .rename_i jm;rw[aF jm] at hb;obtain⟨seg,e1,_,e2,e3⟩:=one hb;refine⟨seg,[(i.word.1,((i.word.2.take 60).2.word).1)],e1,rfl,by simp,?_,?_,jm⟩
   .rw[e2];simp[bX]
   .simp[e3]
  .rename_i jm;rw[aB jm] at hb;have hq:(((i.word.2.take 60).2.word).2.take 44).2.aM=none:=by
    cases hq:(((i.word.2.take 60).2.word).2.take 44).2.aM with
    | none=>rfl
    | some b=>have:=zW hq n (acc++[(i.word.1,((i.word.2.take 60).2.word).1)]);rw[hb] at this;simp at this
   obtain⟨c1,c2⟩:=pQ hq;obtain⟨seg,e1,e0,e2,e3⟩:=one c1.b;have et:=e1.trans c1;have oH:=(c1.kp (HA e1 hg)).1;obtain⟨a1,a2,a3⟩:=Lz et;have hl:(((i.word.2.take 60).2.word).2.take 44).2.l=i.l:=et.l;simp only[bM,fI] at a2;obtain⟨sg,ps,g1,g2,g3,g4,g5,g6⟩:=Xf n (((i.word.2.take 60).2.word).2.take 44).2 (acc++[(i.word.1,((i.word.2.take 60).2.word).1)]) (HA et hg) (by rw[hl];exact a3) (by rw[hl];omega) hb;refine⟨seg++[(((i.word.2.take 60).2.word).2.take 44).1]++sg,(i.word.1,((i.word.2.take 60).2.word).1)::ps,et.trans g1,?_,by simp,?_,?_,?_⟩
   .rw[g2];simp
   .rw[yy (by rw[c2];decide) (by rw[c2];rfl),e2,g4,r8 oH c2 (by decide)];obtain⟨p,qs,rfl⟩:∃p qs,ps=p::qs:=by
     cases ps with
     | nil=>exact absurd rfl g3
     | cons p qs=>exact⟨p,qs,rfl⟩
    simp only[cz,anf];rfl
   .rw[vB,e3,g5];rfl
   .rw[g6,hl]
def xc(k:UInt8)(seg:List aC)(c0 c1:az):Prop :=
 (k=110/\∃w:aA,cV w.au=ab/\fC (bG seg)=w.au/\c1={c0 with name:=w}) \/
 (k=102/\∃w:aA,cV w.au=ab/\fC (bG seg)=w.au/\c1={c0 with an:=[w]}) \/
 (k=119/\∃ws:List aA,0<ws.length/\jf ws=ab/\fC (bG seg)=[123]++fR ws++[125]/\c1={c0 with an:=ws}) \/
 (k=112/\∃(ps:List (aA × aA)) (a:Int),ps.all pG=ab/\fC (bG seg)=vP (ps.map h_)/\c1={c0 with bw:=ps,pd:=a}) \/
 (k=116/\∃m:Nd,m.eP=ab/\fC (bG seg)=m.cY/\c1=if c0.left.kind=0 then {c0 with left:=m} else {c0 with right:=m}) \/
 (k=114/\∃m:Nd,m.jF=ab/\fC (bG seg)=m.cY/\c1=if c0.left.kind=0 then {c0 with left:=m} else {c0 with right:=m})
def Y4(h:0<jH seg):seg≠[]:=λe=>by rw[e] at h;simp[jH,bp] at h
variable{Q:Nd->Prop}
def WT{fin:Int}{one:ae->Nd × ae}(hs:Sound one Nd.cY Q SN)(hg:fg l)(hb:(jD ⟨l,a,fin,aj⟩ c (fO one l a fin)).1.aM=aj):
 ∃seg m,seg≠[]/\jh ⟨l,a,fin,aj⟩ (jD ⟨l,a,fin,aj⟩ c (fO one l a fin)).1 seg/\Q m/\fC (bG seg)=m.cY/\(jD ⟨l,a,fin,aj⟩ c (fO one l a fin)).2=if c.left.kind=0 then {c with left:=m} else {c with right:=m}:=by
 unfold fO at hb ⊢;cases hq:(one ⟨l,a,fin,aj⟩).2.aM with
 | some b=>rw[hq] at hb;simp[jD] at hb
 | none =>
  obtain⟨seg,e1,e2,e3,e4⟩:=hs ⟨l,a,fin,aj⟩ hg hq;refine⟨seg,_,Y4 ?_,⟨e1.ex,rfl,rfl,rfl⟩,e3,e2,rfl⟩;simp only[SN] at e4;omega
variable{k:UInt8}{x:ae × az}
def arL(hk:k=110\/k=102\/k=119\/k=112\/k=116\/k=114)(hg:fg x.1.l)(hp:k=112->x.2.bw=[])(hb:(dC k x).1.aM=aj):
 ∃seg,seg≠[]/\jh x.1 (dC k x).1 seg/\xc k seg x.2 (dC k x).2:=by
 obtain⟨⟨l,a,fin,aM⟩,c⟩:=x;have Nt:aM=none:=by
  cases aM with
  | none=>rfl
  | some b=>simp[dC] at hb
 subst Nt;have sL:∀(h:(⟨l,a,fin,aj⟩:ae).word.2.aM=aj),∃seg,seg≠[]/\jh ⟨l,a,fin,aj⟩ (⟨l,a,fin,aj⟩:ae).word.2 seg/\fC (bG seg)=(⟨l,a,fin,aj⟩:ae).word.1.au/\cV (⟨l,a,fin,aj⟩:ae).word.1.au=true:=λh=>by
  obtain⟨seg,e1,e2,e3,e4⟩:=xa ⟨l,a,fin,aj⟩ hg h;exact⟨seg,Y4 (by simp only[SW] at e4;omega),e1,e2,e3⟩
 rcases hk with rfl | rfl | rfl | rfl | rfl | rfl
 .have e:dC 110 (⟨l,a,fin,aj⟩,c)=((⟨l,a,fin,aj⟩:ae).word.2,{c with name:=(⟨l,a,fin,aj⟩:ae).word.1}):=by simp[dC]
  rw[e] at hb ⊢;obtain⟨seg,U,h2,h3,h4⟩:=sL hb;exact⟨seg,U,h2,.inl ⟨rfl,_,h4,h3,rfl⟩⟩
 .have e:dC 102 (⟨l,a,fin,aj⟩,c)=((⟨l,a,fin,aj⟩:ae).word.2,{c with an:=[(⟨l,a,fin,aj⟩:ae).word.1]}):=by simp[dC]
  rw[e] at hb ⊢;obtain⟨seg,U,h2,h3,h4⟩:=sL hb;exact⟨seg,U,h2,.inr (.inl ⟨rfl,_,h4,h3,rfl⟩)⟩
 .have e:dC 119 (⟨l,a,fin,aj⟩,c)=(⟨l,a+1,fin,(jY l a fin).2⟩,{c with an:=(jY l a fin).1}):=by simp[dC]
  rw[e] at hb ⊢;have hw:((⟨l,a,fin,aj⟩:ae).words ar).2.aM=none:=by
   cases hq:((⟨l,a,fin,aj⟩:ae).words ar).2.aM with
   | none=>rfl
   | some b=>simp[jY,hq] at hb
  have ew:jY l a fin=(((⟨l,a,fin,aj⟩:ae).words ar).1.1,aj):=by simp[jY,hw]
  obtain⟨t,b1,b2,b3,b4,_,b6⟩:=La (one:=ae.word) xa (k:=123) (e:=false) (r:=⟨l,a,fin,aj⟩) hg hw;have mJ:=(b1.kp hg).1;rw[ew];refine⟨[t],by simp,?_,.inr (.inr (.inl ⟨rfl,_,b6 rfl,Pc b4,?_,rfl⟩))⟩
  .obtain⟨pre,post,e1,e2,e3⟩:=b1.ex;have e2:a=(pre.length:Nat):=e2;refine⟨⟨pre,post,e1,e2,?_⟩,rfl,rfl,rfl⟩;simp only[bM,fI];omega
  .rw[DN (by rw[b2];decide),b3,r8 mJ b2 (by decide),b2];rfl
 .have hp:=hp rfl;have e:dC 112 (⟨l,a,fin,aj⟩,c)=qA ⟨l,a,fin,aj⟩ c:=by simp[dC]
  rw[e] at hb ⊢;unfold qA at hb ⊢;simp only at hb ⊢ hp;split
  .rename_i hc;rw[aF hc] at hb;have hb:((⟨l,a,fin,aj⟩:ae).take 123).2.aM=none:=hb;obtain⟨t1,t2⟩:=pQ hb;have mJ:=(t1.kp hg).1;have nD:((⟨l,a,fin,aj⟩:ae).take 123).1.ak=[]:=by
    rcases hc with h | h
    .exact absurd hb h
    .exact kn.1 h
   refine⟨[((⟨l,a,fin,aj⟩:ae).take 123).1],by simp,t1,.inr (.inr (.inr (.inl ⟨rfl,[],((⟨l,a,fin,aj⟩:ae).take 123).1.tok.pos,rfl,?_,?_⟩)))⟩
   .rw[DN (by rw[t2];decide),nD,r8 mJ t2 (by decide),t2];rfl
   .cases c;simp only at hp;subst hp;rfl
  .rename_i hc;rw[aB hc] at hb;have U:((⟨l,a,fin,aj⟩:ae).take 123).2.aM=none:=by
    cases hq:((⟨l,a,fin,aj⟩:ae).take 123).2.aM with
    | none=>rfl
    | some b=>exact absurd (.inl (by rw[hq];simp)) hc
   obtain⟨t1,t2⟩:=pQ U;have mJ:=(t1.kp hg).1;have xQ:=((zd _).1 mJ).2.2;generalize ((⟨l,a,fin,aj⟩:ae).take 123).2=r1 at hb t1 U ⊢;generalize ((⟨l,a,fin,aj⟩:ae).take 123).1=t at hb t1 t2 mJ xQ ⊢;have hG:(ae.gM (t.ak.length+1) t.inner []).1.aM=none:=by
    cases hq:(ae.gM (t.ak.length+1) t.inner []).1.aM with
    | none=>rfl
    | some b=>rw[hq] at hb;simp[ae.vL] at hb
   have el:t.inner.l=t.ak:=rfl;have ea:t.inner.at_=0:=rfl;obtain⟨sg,ps,g1,g2,g3,g4,g5,g6⟩:=Xf (t.ak.length+1) t.inner [] xQ (by rw[ea];omega) (by rw[el,ea];omega) hG;have hs:=ae7 g1 g6;subst hs;refine⟨[t],by simp,?_,.inr (.inr (.inr (.inl ⟨rfl,ps,t.tok.pos,g5,?_,?_⟩)))⟩
   .rw[hG];exact t1
   .rw[DN (by rw[t2];decide),g4,r8 mJ t2 (by decide),t2];rfl
   .rw[g2];rfl
 .have e:dC 116 (⟨l,a,fin,aj⟩,c)=jD ⟨l,a,fin,aj⟩ c (fO (ae.label (bp l)) l a fin):=by simp[dC]
  rw[e] at hb ⊢;obtain⟨seg,m,U,h2,h3,h4,h5⟩:=WT (IW (bp l)) hg hb;exact⟨seg,U,h2,.inr (.inr (.inr (.inr (.inl ⟨rfl,m,h3,h4,h5⟩))))⟩
 .have e:dC 114 (⟨l,a,fin,aj⟩,c)=jD ⟨l,a,fin,aj⟩ c (fO (ae.row (bp l)) l a fin):=by simp[dC]
  rw[e] at hb ⊢;obtain⟨seg,m,U,h2,h3,h4,h5⟩:=WT (Yi (bp l)) hg hb;exact⟨seg,U,h2,.inr (.inr (.inr (.inr (.inr ⟨rfl,m,h3,h4,h5⟩))))⟩
def Kn:List UInt8->List aC->az->az->Prop
 | [],us,c0,c1=>us=[]/\c1=c0
 | k::ks,us,c0,c2=>∃a b c1,us=a++b/\a≠[]/\xc k a c0 c1/\Kn ks b c1 c2
variable{c0 c1:az}
def alo(hk:k≠112)(h:xc k seg c0 c1):c1.bw=c0.bw:=by
 rcases h with ⟨_,w,_,_,rfl⟩ | ⟨_,w,_,_,rfl⟩ | ⟨_,w,_,_,_,rfl⟩ | ⟨h,_⟩ | ⟨_,m,_,_,rfl⟩ | ⟨_,m,_,_,rfl⟩
 .rfl
 .rfl
 .rfl
 .exact absurd h hk
 .split<;>rfl
 .split<;>rfl
def Xq:∀(ks:List UInt8) (x:ae × az),I2 ks->ks.count 112<=1->(112∈ks->x.2.bw=[])->fg x.1.l->x.1.aM=aj->0<=x.1.at_->x.1.at_<=(x.1.l.length:Nat)->(jc ks x).1.aM=aj ->
 ∃us,jh x.1 (jc ks x).1 us/\Kn ks us x.2 (jc ks x).2
 | [], x, _, _, _, _, hb, h0, U, _ => by
  refine⟨[],⟨⟨x.1.l.take x.1.at_.toNat,x.1.l.drop x.1.at_.toNat,by simp,?_,?_⟩,rfl,hb,hb⟩,rfl,rfl⟩
  .rw[iN];omega
  .show x.1.at_=_;rw[eD,iN];omega
 | k :: ks, x, hk, hc, hp, hg, hb, h0, U, hn => by
  simp only[jc] at hn ⊢;have ek:(dC k x).1.aM=none:=by
   cases hq:(dC k x).1.aM with
   | none=>rfl
   | some b=>have:=Jr (N:=0) (Kr 0) ks _ hq;rw[hn] at this;simp at this
  obtain⟨sg,n1,e1,g1⟩:=arL (hk k (by simp)) hg (λe=>hp (by simp[e])) ek;obtain⟨a1,a2,a3⟩:=Lz e1;have MB:ks.count 112<=1:=by rw[List.count_cons] at hc;omega
  obtain⟨us,e2,g2⟩:=Xq ks (dC k x) (λk h=>hk k (by simp[h])) MB (λhm=>by
   by_cases e:k=112
   .exfalso
    rw[e,QM] at hc;exact QN.1 (show ks.count 112=0 by omega) hm
   .rw[alo e g1];exact hp (by simp[hm])) (HA e1 hg) ek (by omega) (by rw[e1.l];exact a3) hn
  exact⟨sg++us,e1.trans e2,sg,us,_,rfl,n1,g1,g2⟩
def CX(h:xc 110 seg c0 c1):∃w:aA,cV w.au=ab/\fC (bG seg)=w.au/\c1={c0 with name:=w}:=by
 rcases h with ⟨_,h⟩ | ⟨e,_⟩ | ⟨e,_⟩ | ⟨e,_⟩ | ⟨e,_⟩ | ⟨e,_⟩<;>first | exact h | exact absurd e (by decide)
def alm(h:xc 102 seg c0 c1):∃w:aA,cV w.au=ab/\fC (bG seg)=w.au/\c1={c0 with an:=[w]}:=by
 rcases h with ⟨e,_⟩ | ⟨_,h⟩ | ⟨e,_⟩ | ⟨e,_⟩ | ⟨e,_⟩ | ⟨e,_⟩<;>first | exact h | exact absurd e (by decide)
def T'(h:xc 119 seg c0 c1):∃ws:List aA,0<ws.length/\jf ws=ab/\fC (bG seg)=[123]++fR ws++[125]/\c1={c0 with an:=ws}:=by
 rcases h with ⟨e,_⟩ | ⟨e,_⟩ | ⟨_,h⟩ | ⟨e,_⟩ | ⟨e,_⟩ | ⟨e,_⟩<;>first | exact h | exact absurd e (by decide)
def aln(h:xc 112 seg c0 c1):∃(ps:List (aA × aA)) (a:Int),ps.all pG=ab/\fC (bG seg)=vP (ps.map h_)/\c1={c0 with bw:=ps,pd:=a}:=by
 rcases h with ⟨e,_⟩ | ⟨e,_⟩ | ⟨e,_⟩ | ⟨_,h⟩ | ⟨e,_⟩ | ⟨e,_⟩<;>first | exact h | exact absurd e (by decide)
def T_(h:xc 116 seg c0 c1):∃m:Nd,m.eP=ab/\fC (bG seg)=m.cY/\c1=if c0.left.kind=0 then {c0 with left:=m} else {c0 with right:=m}:=by
 rcases h with ⟨e,_⟩ | ⟨e,_⟩ | ⟨e,_⟩ | ⟨e,_⟩ | ⟨_,h⟩ | ⟨e,_⟩<;>first | exact h | exact absurd e (by decide)
def T9(h:xc 114 seg c0 c1):∃m:Nd,m.jF=ab/\fC (bG seg)=m.cY/\c1=if c0.left.kind=0 then {c0 with left:=m} else {c0 with right:=m}:=by
 rcases h with ⟨e,_⟩ | ⟨e,_⟩ | ⟨e,_⟩ | ⟨e,_⟩ | ⟨e,_⟩ | ⟨_,h⟩<;>first | exact h | exact absurd e (by decide)
def Ef(c:az):List (UInt8 × Nd)->List aC->Prop
 | [],us=>us=[]
 | q::qs,us=>∃a b,us=a++b/\a≠[]/\AQ q.1 c q.2/\fC (bG a)=jE q.1 c q.2/\Ef c qs b
def X7{ws:List aA}(h:jf ws=ab):qu (ws.map aA.au)=true:=by
 simp only[qu,List.all_map];exact h
def alp{op:Int}{us:List aC}(U:1<=op)(h2:op<=15)(h:Kn (cu op).2 us {az.zero with op:=op,pos:=p} c):c.op=op/\c.fp=ab/\Ef c (mU (cu op).2 [c.left,c.right]) us:=by
 obtain⟨hk,_,_⟩:=EF U h2;simp only[FD,lq,GR,F1] at hk;have hz:(Nd.zero).kind=0:=rfl;have zz:=Nd.YN Nd.zero;have h0:0<=op:=by omega
 rcases hk with e | e | e | e | e | e | e
 all_goals rw[e] at h
 .obtain⟨a,b,c1,rfl,na,ga,a2,b2,c2,rfl,nb,gb,rfl,rfl⟩:=h;obtain⟨w,w1,w2,rfl⟩:=CX ga;obtain⟨ws,v1,v2,v3,rfl⟩:=T' gb;refine⟨rfl,?_,?_⟩
  .simp[az.fp,az.nP,az.kA,az.mi,az.kE,fm,e,h0,h2,w1,v1,X7 v2,az.zero,zz]
  .rw[e];exact⟨a,_,rfl,na,.inl ⟨rfl,w1⟩,w2,a2,[],rfl,nb,.inr (.inr (.inl ⟨rfl,v1,v2⟩)),v3,rfl⟩
 .obtain⟨a,b,c1,rfl,na,ga,a2,b2,c2,rfl,nb,gb,a3,b3,c3,rfl,nc,gc,rfl,rfl⟩:=h;obtain⟨w,w1,w2,rfl⟩:=CX ga;obtain⟨ws,v1,v2,v3,rfl⟩:=T' gb;obtain⟨ps,pa,u1,u2,rfl⟩:=aln gc;refine⟨rfl,?_,?_⟩
  .simp only[eM] at u1;simp[az.fp,az.nP,az.kA,az.mi,az.kE,fm,e,h0,h2,w1,v1,X7 v2,az.zero,zz];intro x y hxy;exact u1 (x,y) hxy
  .rw[e];exact⟨a,_,rfl,na,.inl ⟨rfl,w1⟩,w2,a2,_,rfl,nb,.inr (.inr (.inl ⟨rfl,v1,v2⟩)),v3,a3,[],rfl,nc,.inr (.inr (.inr (.inl ⟨rfl,u1⟩))),u2,rfl⟩
 .obtain⟨a,b,c1,rfl,na,ga,a2,b2,c2,rfl,nb,gb,a3,b3,c3,rfl,nc,gc,rfl,rfl⟩:=h;obtain⟨w,w1,w2,rfl⟩:=CX ga;obtain⟨m,v1,v2,rfl⟩:=T_ gb;obtain⟨m2,u1,u2,rfl⟩:=T_ gc;have hm:=VF v1;rw[aF (show({az.zero with op:=op,pos:=p,name:=w}:az).left.kind=0 from rfl),aB hm];refine⟨rfl,?_,?_⟩
  .simp[az.fp,az.nP,az.kA,az.mi,az.kE,fm,e,h0,h2,w1,v1,u1,az.zero]
  .rw[e];exact⟨a,_,rfl,na,.inl ⟨rfl,w1⟩,w2,a2,_,rfl,nb,.inr (.inr (.inr (.inr (.inl ⟨rfl,v1⟩)))),v2,a3,[],rfl,nc,.inr (.inr (.inr (.inr (.inl ⟨rfl,u1⟩)))),u2,rfl⟩
 .obtain⟨a,b,c1,rfl,na,ga,a2,b2,c2,rfl,nb,gb,a3,b3,c3,rfl,nc,gc,rfl,rfl⟩:=h;obtain⟨w,w1,w2,rfl⟩:=CX ga;obtain⟨m,v1,v2,rfl⟩:=T9 gb;obtain⟨m2,u1,u2,rfl⟩:=T9 gc;have hm:=Yh v1;rw[aF (show({az.zero with op:=op,pos:=p,name:=w}:az).left.kind=0 from rfl),aB hm];refine⟨rfl,?_,?_⟩
  .simp[az.fp,az.nP,az.kA,az.mi,az.kE,fm,e,h0,h2,w1,v1,u1,az.zero]
  .rw[e];exact⟨a,_,rfl,na,.inl ⟨rfl,w1⟩,w2,a2,_,rfl,nb,.inr (.inr (.inr (.inr (.inr ⟨rfl,v1⟩)))),v2,a3,[],rfl,nc,.inr (.inr (.inr (.inr (.inr ⟨rfl,u1⟩)))),u2,rfl⟩
 .obtain⟨a,b,c1,rfl,na,ga,a2,b2,c2,rfl,nb,gb,rfl,rfl⟩:=h;obtain⟨w,w1,w2,rfl⟩:=CX ga;obtain⟨w',v1,v2,rfl⟩:=alm gb;refine⟨rfl,?_,?_⟩
  .simp[az.fp,az.nP,az.kA,az.mi,az.kE,fm,e,h0,h2,w1,v1,qu,az.zero,zz]
  .rw[e];exact⟨a,_,rfl,na,.inl ⟨rfl,w1⟩,w2,a2,[],rfl,nb,.inr (.inl ⟨rfl,rfl,Pc (by simp[v1])⟩),by rw[v2];simp[jE,bX],rfl⟩
 .obtain⟨rfl,rfl⟩:=h;refine⟨rfl,?_,by rw[e];rfl⟩;simp[az.fp,az.nP,az.kA,az.mi,az.kE,fm,e,h0,h2,az.zero,zz]
 .obtain⟨a,b,c1,rfl,na,ga,rfl,rfl⟩:=h;obtain⟨w,w1,w2,rfl⟩:=CX ga;refine⟨rfl,?_,?_⟩
  .simp[az.fp,az.nP,az.kA,az.mi,az.kE,fm,e,h0,h2,w1,az.zero,zz]
  .rw[e];exact⟨a,[],rfl,na,.inl ⟨rfl,w1⟩,w2,rfl⟩
def agR{a:List aC}(h:a≠[]):bG a≠[]:=by
 cases a with
 | nil=>exact absurd rfl h
 | cons t ts=>cases t;simp[bG,aC.flat]
def Y6{c:az}:∀(qs:List (UInt8 × Nd)) (us:List aC),Ef c qs us->(∀t∈bG us,Cx t)->(bG us).map Tok.sh=(qs.map λq=>B1 q.1 c q.2).flatten
 | [],us,h,_=>by have h:us=[]:=h;subst h;rfl
 | q :: qs, us, ⟨a, b, e, _, U, h2, h3⟩, ht => by
  subst e;rw[iY] at ht ⊢;rw[fX,cz,lV,Y6 qs b h3 λt h=>ht t (by simp[h]),Zh (λt h=>ht t (by simp[h])) (Xs U) h2]
def Y5{c:az}:∀(qs:List (UInt8 × Nd)) (us:List aC),Ef c qs us->((qs.map λq=>jE q.1 c q.2).flatMap λy=>[32]++y).length<=pn (bG us)
 | [],us,h=>by simp
 | q :: qs, us, ⟨a, b, e, h0, U, h2, h3⟩ => by
  subst e;have ih:=Y5 qs b h3;have h4:=avN (agR h0);rw[h2] at h4;rw[iY,J3,cz,qI,bM,bM];simp only[fI];omega
def WX{w:List UInt8}:∀(n op:Nat),pF w n op≠0->(cu (pF w n op)).1=w/\1<=pF w n op/\pF w n op<op+n
 | 0,op,h=>by simp[pF] at h
 | n + 1, op, h => by
  simp only[pF] at h ⊢;split
  .rename_i hc;exact⟨hc.2,by omega,by omega⟩
  .rename_i hc;rw[aB hc] at h;obtain⟨U,h2,h3⟩:=WX n (op+1) h;exact⟨U,h2,by omega⟩
def adM{fin:Int}(hg:fg l)(h:uB l fin=(c,0,0)):l=[]/\c = .zero \/
 ∃a b,l=a++b/\fC (bG a)=(cu c.op).1/\cV (cu c.op).1=ab/\c.fp=ab/\Ef c (mU (cu c.op).2 [c.left,c.right]) b:=by
 cases l with
 | nil=>left;simp only[uB] at h;exact⟨rfl,(iH Prod.fst h).symm⟩
 | cons t ts =>
  right;unfold uB at h;simp only at h
  by_cases hz:jt (⟨t::ts,0,fin,aj⟩:ae).word.1.au=0
  .rw[aF hz] at h;simp at h
  .rw[aB hz] at h;obtain⟨n1,n2,n3⟩:=WX 16 0 hz;have n1:(cu (jt (⟨t::ts,0,fin,aj⟩:ae).word.1.au)).1=(⟨t::ts,0,fin,aj⟩:ae).word.1.au:=n1;have n2:1<=jt (⟨t::ts,0,fin,aj⟩:ae).word.1.au:=n2;have n3:jt (⟨t::ts,0,fin,aj⟩:ae).word.1.au<=15:=by unfold jt;omega
   have UX:=λb hb=>Jr (N:=0) (Kr 0) (b:=b) (cu (jt (⟨t::ts,0,fin,aj⟩:ae).word.1.au)).2 ((⟨t::ts,0,fin,aj⟩:ae).word.2,{az.zero with op:=jt (⟨t::ts,0,fin,aj⟩:ae).word.1.au,pos:=(⟨t::ts,0,fin,aj⟩:ae).word.1.pos}) hb
   have UZ:=λxP hb h0 U hn=>Xq (cu (jt (⟨t::ts,0,fin,aj⟩:ae).word.1.au)).2 ((⟨t::ts,0,fin,aj⟩:ae).word.2,{az.zero with op:=jt (⟨t::ts,0,fin,aj⟩:ae).word.1.au,pos:=(⟨t::ts,0,fin,aj⟩:ae).word.1.pos}) (HP _).1 (HP _).2 (λ_=>rfl) xP hb h0 U hn
   have Bu:=xa (⟨t::ts,0,fin,aj⟩:ae) hg;have wq:=λus c=>alp (op:=jt (⟨t::ts,0,fin,aj⟩:ae).word.1.au) (p:=(⟨t::ts,0,fin,aj⟩:ae).word.1.pos) (us:=us) (c:=c) n2 n3
   generalize jc (cu (jt (⟨t::ts,0,fin,aj⟩:ae).word.1.au)).2 ((⟨t::ts,0,fin,aj⟩:ae).word.2,{az.zero with op:=jt (⟨t::ts,0,fin,aj⟩:ae).word.1.au,pos:=(⟨t::ts,0,fin,aj⟩:ae).word.1.pos})=x at h UX UZ;have Nt:x.1.aM=aj/\¬x.1.at_<x.1.l.length/\c=x.2:=by
    unfold xz at h
    by_cases hc:x.1.aM=aj/\x.1.at_<x.1.l.length
    .rw[aF hc] at h;cases hq:x.1.fail.aM with
     | none=>exact absurd hq x.1.HL
     | some b=>rw[hq] at h;simp at h
    .rw[aB hc] at h;cases hq:x.1.aM with
     | none =>
      rw[hq] at h;refine⟨rfl,λhl=>hc ⟨hq,hl⟩,(iH Prod.fst h).symm⟩
     | some b=>rw[hq] at h;simp at h
   obtain⟨Vf,Vg,rfl⟩:=Nt;have Ve:(⟨t::ts,0,fin,aj⟩:ae).word.2.aM=none:=by
    cases hq:(⟨t::ts,0,fin,aj⟩:ae).word.2.aM with
    | none=>rfl
    | some b=>have:=UX b hq;rw[Vf] at this;simp at this
   obtain⟨sg,e1,e2,e3,_⟩:=Bu Ve;obtain⟨a1,a2,a3⟩:=Lz e1;obtain⟨us,f1,f2⟩:=UZ (HA e1 hg) Ve (by simp only at a2 ⊢;omega) (by simp only;rw[e1.l];exact a3) Vf;obtain⟨g1,g2,g3⟩:=wq us x.2 f2;have et:=e1.trans f1;have dq:t::ts=sg++us:=by
    obtain⟨pre,post,q1,q2,q3⟩:=et.ex;have hp:pre=[]:=kn.1 (by simp only at q2;omega);subst hp;have q1:t::ts=[]++(sg++us)++post:=q1;have hl:x.1.l=t::ts:=et.l;have hq:post=[]:=by
     rw[hl,q1,q3] at Vg;simp only[gQ,bM] at Vg;exact kn.1 (by omega)
    rw[q1,hq];simp
   refine⟨sg,us,dq,?_,?_,g2,?_⟩
   .rw[g1,n1];exact e2
   .rw[g1,n1];exact e3
   .rw[g1];exact g3
def KV{s:List UInt8}(h:cG s=(c,0,0)):c.fp=ab/\(iT (eG (dO c)).1).2=aj/\(dO c).length<=2*s.length:=by
 unfold cG at h;cases hl:(eG s).2 with
 | some a=>rw[hl] at h;simp at h
 | none =>
  rw[hl] at h;simp only at h;cases ht:(gE (eG s).1 [] []).2 with
  | some a=>rw[ht] at h;simp at h
  | none =>
   rw[ht] at h;simp only at h;have ck:=Dn s.length 0 s [] (by simp);have amt:=I5 s.length 0 s [] (by simp);obtain⟨w1,w2⟩:=Gt (eG s).1 [] [] ck (by simp) (by simp[fK]) ht;simp only[yh,bG,gQ] at w2;have hg:fg (gE (eG s).1 [] []).1:=by rw[Cc];exact Wc s
   have c8:pn (eG s).1<=pn []+2*s.length:=I6 s.length 0 s [];rw[show pn []=0 from rfl,j6] at c8;rw[Cc] at ht
   rcases adM hg h with ⟨U,rfl⟩ | ⟨a,b,U,h2,h3,h4,h5⟩
   .refine⟨by decide +kernel,by decide +kernel,?_⟩
    have:dO az.zero=[]:=by decide +kernel
    rw[this];simp
   .rw[U,iY] at w2;have hL:∀t∈bG a++bG b,Cx t:=by rw[w2];exact amt
    have s1:(bG a).map Tok.sh=[gg (cu c.op).1]:=Zh (λt ht=>hL t (by simp[ht])) (yc h3) h2;have s2:=Y6 _ b h5 (λt ht=>hL t (by simp[ht]));have hs:(eG s).1.map Tok.sh=Gf c:=by rw[<-w2,fX,s1,s2];rfl
    have jA:1<=c.op:=by
     have h6:=h4;simp only[az.fp,bg,bQ] at h6;have h0:=h6.1.1.1.1.1
     by_cases hz:c.op=0
     .rw[hz] at h3;exact absurd h3 (by decide +kernel)
     .omega
    have uK:c.op<=15:=by simp only[az.fp,bg,bQ] at h4;exact h4.1.1.1.1.2
    obtain⟨l1,l2⟩:=ZF h3 (OS h4 jA);refine⟨h4,avY (hs.trans l2.symm) ht,?_⟩;have hb:=Y5 _ b h5;have ha:(cu c.op).1.length<=pn (bG a):=by rw[<-h2];exact P0 _ _
    rw[<-w2,J3] at c8;rw[JT,bM];omega
def adL{N:Int}(h0:0<=N){fin:Int}(hl:mn N l)(hf:In N fin):(vS l fin).2.1=0/\(vS l fin).2.2=0\/(vS l fin).1 = .zero/\(vS l fin).2.1=2/\In N (vS l fin).2.2:=by
 have hpr:∀(ks:List UInt8) (c:az) (a:Int),(wQ l fin ks c a).2.2<0\/In N (wQ l fin ks c a).2.2:=by
  intro ks;induction ks with
  | nil=>intro c a;left;simp[wQ]
  | cons k ks ih =>
   intro c a;simp only[wQ];split
   .rename_i rO;right;have qi:=uc h0 (a:=a) hl hf;have MR:=Z2 h0 (a:=a) hl hf;have MS:=arA h0 (a:=a) hl;have hi4:=FF h0 (bp l) l a fin hl hf;have hi5:=Yf h0 (bp l) l a fin hl hf;revert rO;unfold mX;split
    .split
     .intro h;simp at h
     .intro _;exact qi
    split
    .split
     .intro _;exact MR
     .intro h;simp at h
    split
    .split
     .simp only;intro h
      rcases MS with e | e
      .omega
      .exact e
     .intro _;exact qi
    .have UK:In N (if k=114 then mZ (bp l) l a fin else jM (bp l) l a fin).pos:=by
      split
      .exact hi5
      .exact hi4
     generalize (if k=114 then mZ (bp l) l a fin else jM (bp l) l a fin)=g at UK;simp only;split
     .intro _;exact UK
     .intro h;simp at h
   .exact ih _ _
 cases l with
 | nil=>exact .inl ⟨rfl,rfl⟩
 | cons t ts =>
  unfold vS;simp only;generalize (if t.tok.kind=97 then BX t.tok.au 15 1 0 else 0)=op;split
  .exact .inr ⟨rfl,rfl,(hl t (by simp)).pos⟩
  .split
   .rename_i rO;refine .inr ⟨rfl,rfl,?_⟩;exact(hpr _ _ _).resolve_left (Int.not_lt.mpr rO)
   .split
    .exact .inr ⟨rfl,rfl,uc h0 hl hf⟩
    .exact .inl ⟨rfl,rfl⟩
def ago(s:List UInt8):(∃c,cG s=(c,0,0))\/∃k a,cG s=(.zero,k,a)/\(k=1\/k=2)/\0<=a/\a<=(s.length:Nat):=by
 rw[atf];unfold O8;have hl:=V0 s;have ht:=Wb s;cases U:(eG s).2 with
 | some a=>exact .inr ⟨1,a,rfl,.inl rfl,hl.2 a U⟩
 | none =>
  simp only;cases h2:(iT (eG s).1).2 with
  | some a=>exact .inr ⟨2,a,rfl,.inr rfl,ht.2 a h2⟩
  | none =>
   simp only;have hc:=adL (N:=(s.length:Nat)) (by omega) ht.1 (fin:=(s.length:Nat)) ⟨by omega,by omega⟩;generalize vS (iT (eG s).1).1 (s.length:Nat)=R at hc ⊢;obtain⟨c,k,a⟩:=R;simp only at hc
   rcases hc with ⟨rfl,rfl⟩ | ⟨rfl,rfl,h⟩
   .exact .inl ⟨c,rfl⟩
   .exact .inr ⟨2,a,rfl,.inr rfl,h⟩
section
variable {Y:Int->Int} {s:aH} {c:az}
def LJ:(kQ s (c.mp Y)).cls=0↔(kQ s c).cls=0:=by rw[kQ,kQ,adK,VW]
def am3:kv s (c.mp Y)=kv s c:=by
 rw[kv,kv,atv,su.2 LJ];rfl
def abb(h:kv s c=ab):kN s (c.mp Y)=kN s c:=by
 have hF:=IK.1 h;have e:cZ s (c.mp Y)=cZ s c:=rfl;unfold kN;rw[e]
 by_cases h8:c.op=8
 .have Mc : (c.mp Y).op=8:=h8;rw[aF h8,aF Mc];obtain⟨q1,q2⟩:=hF.labels h8;have k2:c.right.kind=1\/0<c.right.ak.length:=by
   rcases hF.right h8 with k | k
   .exact .inl k
   .exact .inr (by rw[zK q2 k];omega)
  have e1:mC s (cZ s c) (c.mp Y).left=mC s (cZ s c) c.left:=by
   show mC s (cZ s c) (c.left.mp Y)=_;rw[mC,mC,IV,adU _ q1]
  have e2:pX s (cZ s c).toNat (c.mp Y).right=pX s (cZ s c).toNat c.right:=Rz k2;rw[e1,e2]
 .have Mc : ¬(c.mp Y).op=8:=h8;rw[aB h8,aB Mc]
  by_cases h9:c.op=9
  .have EK : (c.mp Y).op=9:=h9;rw[aF h9,aF EK];obtain⟨q1,q2⟩:=hF.rows h9;have e1:lS s (cZ s c).toNat (c.mp Y).left=lS s (cZ s c).toNat c.left:=Yo (JH q1);have e2:lS s (cZ s c).toNat (c.mp Y).right=lS s (cZ s c).toNat c.right:=Yo (JH q2);rw[e1,e2]
  .have EK : ¬(c.mp Y).op=9:=h9;rw[aB h9,aB EK];have fM:c.op=10:=by have:=hF.op;omega
   obtain⟨w,hw,_⟩:=hF.one fM;have e1:((c.mp Y).an.getD 0 ⟨[],0⟩).au=(c.an.getD 0 ⟨[],0⟩).au:=by simp only[az.mp,hw];rfl
   rw[e1];rfl
def xq(s:aH)(c:az):dG:=if kv s c then kN s c else .zero
def Rv:xq s (c.mp Y)=xq s c:=by
 unfold xq;rw[am3];split
 .rename_i h;exact abb h
 .rfl
def Pu:∀{a b:List aA},eH a b=ab->a.map (aA.mp λ_=>0)=b.map (aA.mp λ_=>0)
 | [],[],_=>rfl
 | [],_::_,h=>by simp[eH] at h
 | _::_,[],h=>by simp[eH] at h
 | w :: ws, u :: us, h => by
  simp only[eH,bg,bQ] at h;rw[cz,cz,Pu h.2,aA.mp,aA.mp,h.1]
mutual
def Ps:∀{n m:Nd},n.c_ m=ab->n.mp (λ_=>0)=m.mp λ_=>0
 | .mk k p t ws ks, .mk k' p' t' ws' ks', h => by
  rw[Nd.c_] at h;simp only[bg,Nd.kind,Nd.au,Nd.an,Nd.ak] at h;obtain⟨⟨⟨U,h2⟩,h3⟩,h4⟩:=h;have U:=Dv U;have h2:=Dv h2;rw[Nd.mp,Nd.mp,U,h2,Pu h3,YJ h4]
def YJ:∀{a b:List Nd},dT a b=ab->zQ (λ_=>0) a=zQ (λ_=>0) b
 | [],[],_=>rfl
 | [],_::_,h=>by simp[dT] at h
 | _::_,[],h=>by simp[dT] at h
 | n :: ns, m :: ms, h => by
  simp only[dT,bg] at h;rw[zQ,zQ,Ps h.1,YJ h.2]
end
def YM:∀{a b:List (aA × aA)},ml a b=ab->a.map (λp=>(p.1.mp λ_=>0,p.2.mp λ_=>0))=b.map λp=>(p.1.mp λ_=>0,p.2.mp λ_=>0)
 | [],[],_=>rfl
 | [],_::_,h=>by simp[ml] at h
 | _::_,[],h=>by simp[ml] at h
 | p :: ps, q :: qs, h => by
  simp only[ml,bg,bQ] at h;rw[cz,cz,YM h.2];simp only[aA.mp,h.1.1,h.1.2]
def Pr{c d:az}(h:c.c_ d=ab):c.mp (λ_=>0)=d.mp λ_=>0:=by
 simp only[az.c_,bg,bQ] at h;obtain⟨⟨⟨⟨⟨U,h2⟩,h3⟩,h4⟩,h5⟩,h6⟩:=h;simp only[az.mp,U,Ps h5,Ps h6,YM h4,Pu h3];simp only[aA.mp,h2]
def Px:(jT s (c.mp Y)).cls=0↔(jT s c).cls=0:=by
 have e:(c.mp Y).op=c.op:=rfl;rw[jT,jT,e];split
 .rw[aut,VW]
 .rfl
def LQ{r:Rm}:(hD (la s r c)).cls=0↔(jT s c).cls=0/\(kQ s c).cls=0/\k_ r c=ar/\¬(c.op=12/\r.fv<=1):=by
 rw[N4,la];simp only[fi,lq,GR,F1];constructor
 .intro h;refine⟨h _ (.inl (.inl (.inl rfl))),h _ (.inl (.inl (.inr rfl))),?_,λh2=>?_⟩
  .cases hl:k_ r c with
   | false=>rfl
   | true=>have:=h ⟨7,c.pos⟩ (.inl (.inr (by rw[ep,hl];simp)));simp at this
  .have:=h ⟨8,c.pos⟩ (.inr (by rw[ep,aK h2.1,aK h2.2];simp));simp at this
 .rintro⟨U,h2,h3,h4⟩ f (((rfl | rfl) | hf) | hf)
  .exact U
  .exact h2
  .rw[ep,h3] at hf;simp at hf
  .have:(decide (c.op=12)&&decide (r.fv<=1))=false:=by
    cases hb:(decide (c.op=12)&&decide (r.fv<=1)) with
    | false=>rfl
    | true=>simp only[bg,bQ] at hb;exact absurd hb h4
   rw[ep,this] at hf;simp at hf
def aou{r:Rm}{c d:az}(h:c.c_ d=ab):k_ r d=k_ r c:=by
 have ho:c.op=d.op:=by simp only[az.c_,bg,bQ] at h;exact h.1.1.1.1.1
 rw[k_,k_,<-Pv h,ho]
def agP{r:Rm}{c d:az}(h:c.c_ d=ab)(hf:(hD (la s r c)).cls=0):(hD (la s r d)).cls=0:=by
 have e:=Pr h;have ho:c.op=d.op:=by simp only[az.c_,bg,bQ] at h;exact h.1.1.1.1.1
 obtain⟨U,h2,h3,h4⟩:=LQ.1 hf;refine LQ.2 ⟨?_,?_,by rw[aou h];exact h3,by rw[<-ho];exact h4⟩
 .rw[<-Px (Y:=λ_=>0),<-e,Px];exact U
 .rw[<-LJ (Y:=λ_=>0),<-e,LJ];exact h2
def abc{c d:az}(h:c.c_ d=ab):xq s d=xq s c:=by
 rw[<-Rv (Y:=λ_=>0) (c:=d),<-Pr h,Rv]
variable{t:List UInt8}
def P3{r:Rm}(h:(iK s r t).2.2.cls=0):(cG t).2=(0,0)/\iK s r t=((cG t).1,xq s (cG t).1,.zero) /\
 ∃d,cG (dO (cG t).1)=(d,0,0)/\(cG t).1.c_ d=ab/\iK s r (dO (cG t).1)=(d,xq s (cG t).1,.zero):=by
 by_cases hr:(cG t).2.1=0
 case neg=>rw[N_ hr] at h;exact absurd h hr
 by_cases hf:(hD (la s r (cG t).1)).cls=0
 case neg=>rw[N' hr hf] at h;exact absurd h hf
 rcases ago t with ⟨c,hc⟩ | ⟨k,a,hc,hk,_⟩
 case inr=>rw[hc] at hr;simp only at hr;omega
 have hl:=I8 hr hf;rw[hc] at hf hl ⊢;obtain⟨a1,a2,_⟩:=KV hc;obtain⟨_,l2,_⟩:=atg a1;obtain⟨d,e1,e2⟩:=l2 a2;refine⟨rfl,hl,d,e1,e2,?_⟩;have h0:(cG (dO c)).2.1=0:=by rw[e1]
 have U:(hD (la s r (cG (dO c)).1)).cls=0:=by rw[e1];exact agP e2 hf
 rw[I8 h0 U,e1];show(d,xq s d,aY.zero)=_;rw[abc e2]
end
structure CB(B:Nat)(c:az):Prop where
 ns:e_ c.an<=B
 ps:c.bw.length<=B
 l:c.left.wt<=B
 r:c.right.wt<=B
 nm:c.name.au.length<=B
 pt:kg c.bw<=34*B
def SS(h:jh r r' seg):jH seg<=jH r.l:=by
 obtain⟨pre,post,e,_,_⟩:=h.ex;rw[e,yu,yu];omega
def Qk(hg:fg r.l)(hb:r.aM=aj):r.word.1.au.length<=16:=by
 cases h:(r.take 97).2.aM with
 | none=>exact P4 ((pQ h).1.kp hg).1
 | some b =>
  have:(r.take 97).1 = .zero:=by
   unfold ae.take at h ⊢;split
   .rename_i hs;rw[aF hs] at h;simp[hb] at h
   .rfl
  simp[ae.word,this,aC.zero,aC.tok]
def ZY(hg:fg r.l):r.word.1.au.length<=16:=by
 cases hb:r.aM with
 | none=>exact Qk hg hb
 | some a =>
  have:r.b_ 97=false:=by simp[ae.b_,ae.ok,hb]
  simp[ae.word,ae.take,this,aC.zero,aC.tok]
def XH{l:List (aA × aA)}{p:aA × aA}:kg (l++[p])=kg l+(p.1.au.length+p.2.au.length+2):=by simp[kg]
def Xg:∀(n:Nat) (i:ae) (acc:List (aA × aA)),fg i.l->kg (ae.gM n i acc).2<=kg acc+34*n
 | 0,_,_,_=>by simp[ae.gM]
 | n + 1, i, acc, hg => by
  have e1:(i.word.2.take 60).2.l=i.l:=by rw[ae.fU];exact ae.fU i 97
  have e2:((i.word.2.take 60).2.word).2.l=i.l:=by rw[<-e1];exact ae.fU _ 97
  have w1:=ZY hg;have w2:((i.word.2.take 60).2.word).1.au.length<=16:=ZY (by rw[e1];exact hg);simp only[ae.gM];split
  .simp only;omega
  .split
   .simp only[XH];omega
   .have:=Xg n (((i.word.2.take 60).2.word).2.take 44).2 (acc++[(i.word.1,((i.word.2.take 60).2.word).1)]) (by rw[ae.fU,e2];exact hg)
    simp only[XH] at this;omega
def avG{k:Int}(hg:fg r.l):fg (r.take k).1.ak:=by
 cases h:(r.take k).2.aM with
 | none=>exact((zd _).1 ((pQ h).1.kp hg).1).2.2
 | some b =>
  have:(r.take k).1.ak=[]:=by
   rcases r.vp k with ⟨_,_,hb,_⟩ | ⟨hs,_⟩
   .rw[h] at hb;simp at hb
   .simp[ae.take,hs,aC.zero,aC.ak]
  rw[this];trivial
def Xe:∀(n:Nat) (i:ae) (acc:List (aA × aA)),(ae.gM n i acc).2.length<=acc.length+n
 | 0,_,_=>by simp[ae.gM]
 | n + 1, i, acc => by
  simp only[ae.gM];split
  .simp only;omega
  .split
   .simp
   .have:=Xe n (((i.word.2.take 60).2.word).2.take 44).2 (acc++[(i.word.1,((i.word.2.take 60).2.word).1)])
    simp only[bM,dm,dQ] at this;omega
variable{B:Nat}
def WS(h:CB B c){g:Nd × Int × Option Int}(hg:g.1.wt<=B):CB B (jD r c g).2:=by
 unfold jD;cases g.2.2 with
 | some a=>exact h
 | none =>
  simp only;split
  .exact⟨h.ns,h.ps,hg,h.r,h.nm,h.pt⟩
  .exact⟨h.ns,h.ps,h.l,hg,h.nm,h.pt⟩
def X1{one:ae->Nd × ae}(hs:Sound one Nd.cY Q SN)(hg:fg l)(a fin:Int):(fO one l a fin).1.wt<=jH l+4:=by
 unfold fO;cases hb:(one ⟨l,a,fin,aj⟩).2.aM with
 | some b=>simp only[Kj];omega
 | none =>
  obtain⟨seg,e1,_,_,e4⟩:=hs ⟨l,a,fin,aj⟩ hg hb
  have:=SS e1
  simp only[SN] at e4 this ⊢;omega
def arK(hg:fg x.1.l)(hB:jH x.1.l+20<=B)(h:CB B x.2):CB B (dC k x).2:=by
 obtain⟨r,c⟩:=x;simp only at hg hB h;unfold dC;simp only;split
 .exact h
 rename_i hb;have hb:r.aM=none:=by simpa using hb
 split
 .exact⟨h.ns,h.ps,h.l,h.r,by have:=Qk hg hb;simp only;omega,h.pt⟩
 split
 .refine⟨?_,h.ps,h.l,h.r,h.nm,h.pt⟩
  have:=Qk hg hb
  simp[e_];omega
 split
 .refine⟨?_,h.ps,h.l,h.r,h.nm,h.pt⟩;show e_ (jY r.l r.at_ r.fin).1<=B;unfold jY;cases hw:((⟨r.l,r.at_,r.fin,aj⟩:ae).words ar).2.aM with
  | some b=>simp[e_]
  | none =>
   obtain⟨t,e1,_,_,_,e5⟩:=Ql (r:=⟨r.l,r.at_,r.fin,aj⟩) hg hw
   have:=SS e1
   simp only at this ⊢;omega
 split
 .unfold qA;simp only;split
  .exact⟨h.ns,h.ps,h.l,h.r,h.nm,h.pt⟩
  .have g1:=Xg ((r.take 123).1.ak.length+1) (r.take 123).1.inner [] (avG hg);have g2:=mW (r.take 123).1.ak;have g3:=(r.wX 123).1;refine⟨h.ns,?_,h.l,h.r,h.nm,by simp only[jH,kg,fe,tu] at hB g1 ⊢;omega⟩;have U:=Xe ((r.take 123).1.ak.length+1) (r.take 123).1.inner [];have h2:=mW (r.take 123).1.ak;have h3:=(r.wX 123).1;simp only[jH,dQ] at hB U ⊢;omega
 split
 .exact WS h (by have:=X1 (IW (bp r.l)) hg r.at_ r.fin;omega)
 split
 .exact WS h (by have:=X1 (Yi (bp r.l)) hg r.at_ r.fin;omega)
 .exact h
def Xp{B:Nat}{l:List aC}{fin:Int}(hg:fg l)(hB:jH l+20<=B):∀(ks:List UInt8) (x:ae × az),kJ l fin x->CB B x.2->CB B (jc ks x).2
 | [],_,_,h=>h
 | k::ks,x,hi,h=>Xp hg hB ks _ (Xj hi k) (arK (by rw[hi.hl];exact hg) (by rw[hi.hl];exact hB) h)
def D0(h:4<=B):CB B az.zero:=⟨by simp[az.zero,e_],by simp[az.zero],by simp only[az.zero,Kj];omega,by simp only[az.zero,Kj];omega,by simp[az.zero],by simp[az.zero,kg]⟩
def afI(h4:4<=B)(h:CB B x.2):CB B (xz x).1:=by
 unfold xz;split
 .exact D0 h4
 .exact h
def adO{fin:Int}(hg:fg l)(hB:jH l+20<=B):CB B (uB l fin).1:=by
 unfold uB;split
 .exact D0 (by omega)
 .rename_i t ts;simp only;split
  .exact D0 (by omega)
  .refine afI (by omega) (Xp hg hB _ _ (fin:=fin) ?_ ?_)
   .exact kJ.goes (x:=(⟨t::ts,0,fin,aj⟩,az.zero)) ⟨rfl,rfl,by simp,by simp only;omega,λ_=>by simp only;omega⟩ rfl (zc _) (Gq _ 97)
   .have h:=D0 (B:=B) (by omega);exact⟨h.ns,h.ps,h.l,h.r,h.nm,h.pt⟩
def X2(s:List UInt8):CB (26*s.length+20) (cG s).1:=by
 unfold cG;rw[Cc];split
 .exact D0 (by omega)
 .split
  .exact D0 (by omega)
  .refine adO (Wc s) ?_
   have:=Wd s
   simp only[jH];omega
def lr(s:aH)(c:az):aH :=
 if (jT s c).cls≠0 then s
 else if kx c.op then ⟨s.ba++[⟨c.name.au,jV s c⟩],s.vars⟩
 else if nj c.op then ⟨s.ba,s.vars++c.an.map λw=>⟨w.au,if c.op=7 then 2 else 1,cN (gV s.ba c.name.au)⟩⟩
 else s
structure Lv where
 fQ:aH
 fE:List dG
 lines:List (List UInt8)
 bytes:Int
structure fq where
 live:Lv
 fv:List Lv
def Lv.zero:Lv:=⟨⟨[],[]⟩,[],[],0⟩
def fq.zero:fq:=⟨.zero,[]⟩
def pj(l:Lv)(c:az)(a:dG):Lv :=
 if a.op≠0 then ⟨l.fQ,l.fE++[a],l.lines++[dO c],l.bytes+((dO c).length+1:Nat)⟩
 else ⟨lr l.fQ c,l.fE,l.lines++[dO c],l.bytes+((dO c).length+1:Nat)⟩
def qC(s:fq):Rm:=⟨s.live.bytes,(s.live.fE.length:Nat),((s.fv.length:Nat):Int)+1⟩
def qQ(s:fq)(x:az × dG × aY):fq :=
 if x.2.2.cls≠0 then s
 else if nX x.1.op then ⟨pj s.live x.1 x.2.1,s.fv⟩
 else if x.1.op=11 then ⟨s.live,s.fv++[s.live]⟩
 else if x.1.op=12 then(match s.fv.getLast? with | some l=>⟨l,s.fv.dropLast⟩ | none=>s)
 else s
def gJ(s:fq)(t:List UInt8):az × dG × aY:=iK s.live.fQ (qC s) t
def gw(s:fq)(t:List UInt8):fq:=qQ s (gJ s t)
def mg(l:List (List UInt8)):Nat:=(l.map λt=>t.length+1).sum
variable{t:List UInt8}
def ao3{l:List (List UInt8)}:mg (l++[t])=mg l+(t.length+1):=by simp[mg]
def Jc:∀{l:List (List UInt8)},l.length<=mg l
 | []=>by simp[mg]
 | t::l=>by have:=@Jc l;simp only[mg,cz,py,dm] at this ⊢;omega
structure Cu(x:dG):Prop where
 c:x.code.length<=100000
 a:x.a.fs.length<=100000
 b:x.b.fs.length<=100000
structure Lv.ok(l:Lv):Prop where
 s:l.fQ.wO
 n:l.fQ.ba.length<=16
 v:l.fQ.vars.length<=64
 m:l.fE.length<=64
 a:∀a∈l.fE,Cu a
 b:l.bytes=(mg l.lines:Nat)
 t:mg l.lines<=16384
structure fq.ok(s:fq):Prop where
 l:s.live.ok
 f:∀l∈s.fv,l.ok
 n:s.fv.length<=15
def ao':Lv.zero.ok:=⟨⟨⟨by simp[Lv.zero],by simp[Lv.zero],by simp[Lv.zero]⟩,by simp[Lv.zero]⟩,by simp[Lv.zero],by simp[Lv.zero],by simp[Lv.zero],by simp[Lv.zero],by simp[Lv.zero,mg],by simp[Lv.zero,mg]⟩
def PR:fq.zero.ok:=⟨ao',by simp[fq.zero],by simp[fq.zero]⟩
variable{s:aH}
def V8(h:(kx c.op||nj c.op)=ab)(hf:(jT s c).cls=0):∀f∈lI s c,f.cls=0:=λf hm=>by
 rw[jT,aF h] at hf;exact(I1 hf).2 f (by rw[r6];exact QY _ hm)
def V9(h:kx c.op=ab)(hf:(jT s c).cls=0):s.ba.length<16/\(c.op=3->(jQ s c).bC.length<=8):=by
 have hl:=V8 (by rw[h];rfl) hf;have wb:¬(c.op=6\/c.op=7):=λe=>by rcases e with e | e<;>simp[kx,e] at h
 rw[lI,aB wb] at hl;have hb:∀{b:Bool},(∀f∈ep b 7 c.pos,f.cls=0)->b=false:=λ{b} hh=>by
  cases b with
  | false=>rfl
  | true=>have:=hh ⟨7,c.pos⟩ (by simp[ep]);simp at this
 have:=hb hl
 simp only[ui,xw] at this;refine⟨by omega,λh3=>?_⟩;have U:=this.1;rw[aF h3,aF h3] at U;omega
def V_(h:nj c.op=ab)(hf:(jT s c).cls=0):s.vars.length+c.an.length<=64:=by
 have hl:=V8 (by rw[h];simp) hf;have wb:c.op=6\/c.op=7:=by simpa [nj] using h
 rw[lI,aF wb] at hl
 by_cases hq:(64:Int) - (s.vars.length:Nat)<(c.an.length:Nat)
 .have:=hl ⟨7,c.pos⟩ (by simp[ep,hq]);simp at this
 .omega
def VK{w:aA}{x:bz}(h:x∈mT s w):∃l∈s.ba,l.shape=x:=by
 unfold mT at h;split at h
 .rename_i k _;cases hk:s.ba[k]? with
  | none=>rw[hk] at h;simp at h
  | some y=>rw[hk] at h;simp at h;exact⟨y,rF hk,h.symm⟩
 .simp at h
def auW(hs:s.wO)(hn:c.an.length<=100000)(h3:c.op=3->(jQ s c).bC.length<=8):(jV s c).ok/\(jV s c).bC.length<=100:=by
 have one:∀(k:Int) (r:Rl),(⟨ar,[⟨k,c7 c.an,r⟩]⟩:bz).ok/\(⟨ar,[⟨k,c7 c.an,r⟩]⟩:bz).bC.length<=100:=λk r=>by
  refine⟨⟨by simp,λf hf=>?_⟩,by simp⟩;simp only[lq,GR,F1] at hf;subst hf;simp only[c7,aN];exact hn
 unfold jV;split
 .exact one _ _
 split
 .exact one _ _
 split
 .exact one _ _
 split
 .exact one _ _
 split
 .rename_i h
  have:=h3 h
  refine⟨⟨by omega,λf hf=>?_⟩,by omega⟩;simp only[jQ,zZ,tt] at hf;obtain⟨x,⟨w,_,hw⟩,hf⟩:=hf;obtain⟨l,hl,rfl⟩:=VK hw;exact(hs.1.2.2 l hl).2 f hf
 .exact⟨⟨by simp,by simp⟩,by simp⟩
def aaT(hs:s.wO)(U:s.ba.length<=16)(h2:s.vars.length<=64)(hn:c.an.length<=100000):(lr s c).wO/\(lr s c).ba.length<=16/\(lr s c).vars.length<=64:=by
 unfold lr;split
 .exact⟨hs,U,h2⟩
 rename_i hf;have hf:(jT s c).cls=0:=Classical.byContradiction hf;split
 .rename_i h;obtain⟨a1,a2⟩:=V9 h hf;have hp:=auW hs hn a2;have e:(s.ba++[(⟨c.name.au,jV s c⟩:dJ)]).length=s.ba.length+1:=by simp
  refine⟨⟨⟨by simp only;omega,hs.1.2.1,λl hl=>?_⟩,λl hl=>?_⟩,by simp only;omega,h2⟩
  .rcases fi.1 hl with hl | hl
   .exact hs.1.2.2 l hl
   .simp at hl;subst hl;exact hp.1
  .rcases fi.1 hl with hl | hl
   .exact hs.2 l hl
   .simp at hl;subst hl;exact hp.2
 split
 .rename_i h;have a1:=V_ h hf;refine⟨⟨⟨hs.1.1,by simp only[bM,aN];omega,hs.1.2.2⟩,hs.2⟩,U,by simp only[bM,aN];omega⟩
 .exact⟨hs,U,h2⟩
def Dp{r:Rm}(h:(iK s r t).2.2.cls=0):(iK s r t).1=(cG t).1/\(iK s r t).2.1=(if kv s (cG t).1 then kN s (cG t).1 else .zero)/\(iK s r t).2.2 = .zero /\
 (jT s (cG t).1).cls=0/\(kQ s (cG t).1).cls=0/\k_ r (cG t).1=ar/\¬((cG t).1.op=12/\r.fv<=1):=by
 by_cases hr:(cG t).2.1=0
 .by_cases hf:(hD (la s r (cG t).1)).cls=0
  .rw[I8 hr hf]
   have:=LQ.1 hf
   exact⟨rfl,rfl,rfl,this⟩
  .rw[N' hr hf] at h;exact absurd h hf
 .rw[N_ hr] at h;exact absurd h hr
def V'{r:Rm}(h:k_ r c=ar):(nX c.op=ab->(dO c).length<=1024/\r.bytes<=16383 - (dO c).length)/\(xp c.op=ab->r.fE<64)/\(c.op=11->r.fv<16):=by
 simp only[k_,ui,D4,xw] at h;obtain⟨⟨U,h2⟩,h3⟩:=h;refine⟨λhs=>?_,λhs=>?_,λhs=>?_⟩
 .rcases U with U | U
  .rw[hs] at U;simp at U
  .rw[wrap_i64 (by omega) (by omega)] at U;exact⟨by omega,by omega⟩
 .rcases h2 with h2 | h2
  .rw[hs] at h2;simp at h2
  .omega
 .rcases h3 with h3 | h3
  .exact absurd hs h3
  .omega
def avn{l:Lv}{x:dG}(hl:l.ok)(hn:c.an.length<=100000)(hx:Cu x)(ht:l.bytes<=16383 - (dO c).length)(hm:x.op≠0->l.fE.length<64):(pj l c x).ok:=by
 have hb:=hl.b;have e:mg (l.lines++[dO c])=mg l.lines+((dO c).length+1):=ao3;unfold pj;split
 .rename_i h
  have:=hm h
  refine⟨hl.s,hl.n,hl.v,by simp only[bM,fI];omega,λy hy=>?_,by simp only;rw[e];omega,by simp only;rw[e];omega⟩
  rcases fi.1 hy with hy | hy
  .exact hl.a y hy
  .simp at hy;subst hy;exact hx
 .obtain⟨a1,a2,a3⟩:=aaT hl.s hl.n hl.v hn;exact⟨a1,a2,a3,hl.m,hl.a,by simp only;rw[e];omega,by simp only;rw[e];omega⟩
def abA(h:(if kv s c then kN s c else dG.zero).op≠0):xp c.op=true:=by
 split at h
 .rename_i U
  have:=(IK.1 U).op
  simp[xp,this.1,this.2]
 .exact absurd rfl h
def aeZ{s:fq}(hs:s.ok)(hn:(cG t).1.an.length<=100000)(hx:Cu (gJ s t).2.1):(gw s t).ok:=by
 unfold gw qQ;split
 .exact hs
 rename_i h0;have h0:(iK s.live.fQ (qC s) t).2.2.cls=0:=Classical.byContradiction h0;obtain⟨e1,e2,_,_,_,h5,h6⟩:=Dp h0;obtain⟨m1,m2,m3⟩:=V' h5;have M6 := hs.n;split
 .rename_i h;have h:nX (iK s.live.fQ (qC s) t).1.op=true:=h;rw[e1] at h;refine⟨avn hs.l (by rw[gJ,e1];exact hn) hx (by rw[gJ,e1];exact(m1 h).2) (λho=>?_),hs.f,hs.n⟩;rw[gJ,e2] at ho
  have:=m2 (abA ho)
  simp only[qC] at this;omega
 split
 .rename_i h;have h:(iK s.live.fQ (qC s) t).1.op=11:=h;rw[e1] at h
  have:=m3 h
  simp only[qC] at this;refine⟨hs.l,λl hl=>?_,by simp only[bM,fI];omega⟩
  rcases fi.1 hl with hl | hl
  .exact hs.f l hl
  .simp at hl;subst hl;exact hs.l
 split
 .split
  .rename_i l hl;have hm:l∈s.fv:=List.mem_of_getLast? hl;exact⟨hs.f l hm,λy hy=>hs.f y (List.dropLast_subset _ hy),by simp only[List.length_dropLast];omega⟩
  .exact hs
 .exact hs
def vZ(l:Lv):List V:=[.sl .no 3 (l.fQ.ba.map dJ.enc),.sl .no 3 (l.fQ.vars.map db.enc),.sl .no 18 (l.fE.map dG.enc),.sl .no 1 (cD l.lines),.int .i64 l.bytes]
def kZ(k:Tk)(s:fq):List V:=[.sl .no 3 (s.live.fQ.ba.map dJ.enc),.sl .no 3 (s.live.fQ.vars.map db.enc),.sl .no 18 (s.live.fE.map dG.enc),.sl .no 1 (cD s.live.lines),.int .i64 s.live.bytes,.sl k 5 (s.fv.map vZ)]
def Rg(D:ah)(k:Tk)(n:Nat):Prop:=match k with | .no=>False | .aZ=>True | .tk t=>D.aR t=aa n
structure pz(D:ah)(b:Nat)(k:Tk)(s:fq):Prop where
 b:D.box b=aa (kZ k s)
 t:Rg D k s.fv.length
structure Kp(D σ' : ah)(b:Nat)(k k' : Tk):Prop where
 b:∀c,c≠b->σ'.box c=D.box c
 t:∀t n,k≠.tk t->D.aR t=aa n->σ'.aR t=aa n
 c:σ'.b8=D.b8
 f:∀t,k' = .tk t->k = .tk t\/D.aR t=aj
variable{b:Nat}{D:ah}
def Kp.rfl{k:Tk}:Kp D D b k k:=⟨λ_ _=>Eq.refl _,λ_ _ _ h=>h,Eq.refl _,λ_ h=>.inl h⟩
def Ay(k l:Tk):Prop:=∀t,k = .tk t->l≠.tk t
def Ay.symm{k l:Tk}(h:Ay k l):Ay l k:=λt e e' => h t e' e
def pz.other{σ':ah}{c:Nat}{k k' l:Tk}{s:fq}(h:pz D c l s)(hk:Kp D σ' b k k')(hn:c≠b)(ha:Ay k l):pz σ' c l s/\Ay k' l:=by
 refine⟨⟨(hk.b c hn).trans h.b,?_⟩,λt e e' => ?_⟩
 .have ht:=h.t;cases l with
  | no=>exact ht
  | aZ=>trivial
  | tk t=>exact hk.t t _ (λe=>ha t e rfl) ht
 .rcases hk.f t e with U | U
  .exact ha t U e'
  .have ht:=h.t;rw[e'] at ht;simp only[Rg] at ht;rw[U] at ht;simp at ht
def TO:List V:=[.sl .aZ 3 [],.sl .aZ 3 [],.sl .aZ 18 [],.sl .aZ 1 [],.int .i64 0,.sl .aZ 5 []]
section
variable {P:Program} {d:Option Nat} {r:List AO} {K:St->Prop} {x y:X} {st:St} {n:Bool} {H:V->Prop} {p:Pl} {o:Nat}
def Ot(n:Bool)(v w:V)(K:V->Prop):Prop:=match isNil v,w with | some g,.jr=>K (.bool (if n then !g else g)) | _,_=>False
theorem aqu:cg P (⟨d,.sy n x y,aj⟩::r) K st=Ot n (ev st x) (ev st y) (kL P d r K st):=rfl
def apK:Ot n .jr .jr H=H (.bool (!n)):=by cases n<;>rfl
def apL:Ot n (.ptr p o) .jr H=H (.bool n):=by cases n<;>rfl
end
def G':=af @aqu <| af @apK @apL
section
variable {x:dG}
def abg(op lat:Int)(c:V)(to:bO)(r:List V):(.int .i64 op::.int .i64 lat::c::(to.enc++r):List V).drop 12=r:=by
 obtain⟨tv,e⟩:=to;exact bn.Ho (P:=λe=>(.int .i64 op::.int .i64 lat::c::((bO.mk tv e).enc++r):List V).drop 12=r) (λ_ _ _ _ _ _ _ _ _=>rfl) e
def Rx(op lat:Int)(c:V)(to:bO)(r u:List V)(k:Nat):setAt (.int .i64 op::.int .i64 lat::c::(to.enc++r):List V) (12+k) u = .int .i64 op::.int .i64 lat::c::(to.enc++setAt r k u):=by
 obtain⟨tv,e⟩:=to;refine bn.Ho (P:=λe=>setAt (.int .i64 op::.int .i64 lat::c::((bO.mk tv e).enc++r):List V) (12+k) u = .int .i64 op::.int .i64 lat::c::((bO.mk tv e).enc++setAt r k u)) (λ_ _ _ _ _ _ _ _ _=>?_) e;rw[D'];rfl
theorem abW:cw 1 (x.enc.drop 2)=true:=rfl
theorem abZ:bP ar 1 (x.enc.drop 2)=aa (.sl .no 10 (x.code.map bu.enc)):=rfl
theorem ab6:setAt x.enc 2 [.sl .no 10 (x.code.map bu.enc)]=x.enc:=rfl
def K7:x.enc.drop 12=[.sl .no 10 (x.a.fs.map bV.enc),.int .i64 x.a.tail,.sl .no 10 (x.b.fs.map bV.enc),.int .i64 x.b.tail,.int .i64 x.v,.aG x.field]:=abg ..
def abU:cw 1 (x.enc.drop 12)=true:=by rw[K7];rfl
def abX:bP ar 1 (x.enc.drop 12)=aa (.sl .no 10 (x.a.fs.map bV.enc)):=by rw[K7];rfl
def ab4:setAt x.enc 12 [.sl .no 10 (x.a.fs.map bV.enc)]=x.enc:=Rx _ _ _ _ _ _ 0
def RG:x.enc.drop 14=[.sl .no 10 (x.b.fs.map bV.enc),.int .i64 x.b.tail,.int .i64 x.v,.aG x.field]:=by rw[show 14=12+2 from rfl,<-yL,K7];rfl
def abV:cw 1 (x.enc.drop 14)=true:=by rw[RG];rfl
def abY:bP ar 1 (x.enc.drop 14)=aa (.sl .no 10 (x.b.fs.map bV.enc)):=by rw[RG];rfl
def ab5:setAt x.enc 14 [.sl .no 10 (x.b.fs.map bV.enc)]=x.enc:=Rx _ _ _ _ _ _ 2
def ab1:x.enc.length=18:=uA
def RK:takeN 18 x.enc=aa x.enc:=K5
def ab3:cW x.enc=true:=AU rfl rfl rfl
def RJ:over (cO 0 0 (.sl .aZ 10 []) .zero (.sl .aZ 10 []) 0 (.sl .aZ 10 []) 0 0 []) x.enc=x.enc:=vb (by rw[uA];exact uA.symm)
def ab0:bP ab 18 x.enc=aa (.agg x.enc):=by rw[zM,RK];rfl
theorem ab7:cw 18 kP=true:=rfl
def ab8:over kP x.enc=x.enc:=RJ
def lu:=af @ab7 <| af @ab8 <| af @abW <| af @abZ <| af @ab6 <| af @abU <| af @abX <| af @ab4 <| af @abV <| af @abY <| af @ab5 <| af @ab1 <| af @RK <| af @ab3 <| af @RJ <| af @ab0 <| af @dG.dL @dG.dV
end
def r9(l:List (List UInt8)):List UInt8:=l.flatMap λt=>t++[10]
def P2:∀{l:List (List UInt8)},(r9 l).length=mg l
 | []=>rfl
 | t::l=>by have:=@P2 l;simp only[r9,mg,qI,bM,fI,cz,py] at this ⊢;omega
def avO{l:List (List UInt8)}:r9 (l++[t])=r9 l++t++[10]:=by simp[r9]
def ZH{l:List (List UInt8)}{i:Nat}(h:i<l.length):r9 (l.take (i+1))=r9 (l.take i)++l[i]++[10]:=by rw[iG h,avO]
def ao4{a b:List (List UInt8)}:mg (a++b)=mg a+mg b:=by simp[mg]
def ao5{l:List (List UInt8)}{i:Nat}:mg (l.take i)<=mg l:=by
 have h:=@ao4 (l.take i) (l.drop i);rw[rG] at h;omega
section
variable {s:aH} {Y:Int->Int}
def auU:jV s (c.mp Y)=jV s c:=by
 have e0:(c.mp Y).op=c.op:=rfl;have e1:c7 (c.mp Y).an=c7 c.an:=Ke;have e2:(c.mp Y).an.length=c.an.length:=by simp[az.mp]
 have e3:(c.mp Y).bw.map (BZ (c7 c.an))=c.bw.map (BZ (c7 c.an)):=by simp[az.mp,tq,BZ,aA.mp]
 have e4:lQ (c.mp Y)=lQ c:=by rw[lQ,lQ,e1,e2,e3]
 have e5:jQ s (c.mp Y)=jQ s c:=by
  have:(c.mp Y).an.flatMap (mT s)=c.an.flatMap (mT s):=by rw[az.mp,List.flatMap_map];rfl
  rw[jQ,jQ,this]
 rw[jV,jV,e0,e1,e4,e5]
def Rh:lr s (c.mp Y)=lr s c:=by
 have e0:(c.mp Y).op=c.op:=rfl;have e1:(c.mp Y).name.au=c.name.au:=rfl;have e2:∀k:Int,((c.mp Y).an.map λw=>(⟨w.au,k,cN (gV s.ba c.name.au)⟩:db))=c.an.map λw=>⟨w.au,k,cN (gV s.ba c.name.au)⟩:=λk=>by simp[az.mp,tq,aA.mp]
 simp only[lr,Ne,Px,e0,e1,auU,e2]
end
def aaQ{d:az}(h:c.c_ d=ab):lr s d=lr s c:=by
 rw[<-Rh (Y:=λ_=>0) (c:=d),<-Pr h,Rh]
def avo{l:Lv}{d:az}{x:dG}(h:c.c_ d=ab):pj l d x=pj l c x:=by
 rw[pj,pj,Pv h,aaQ h]
def aov{r q:Rm}(hb:q.bytes=r.bytes)(ha:q.fE=r.fE)(h:nX (cG t).1.op=ab):iK s q t=iK s r t:=by
 have U:(cG t).1.op≠11:=λe=>by rw[e] at h;simp[nX] at h
 have h2:(cG t).1.op≠12:=λe=>by rw[e] at h;simp[nX] at h
 have e:la s q (cG t).1=la s r (cG t).1:=by
  simp[la,k_,hb,ha,U,h2]
 rw[iK,iK,e]
inductive yH:Lv->Prop
 | zero:yH .zero
 | step {l:Lv} {r:Rm} {t:List UInt8}:yH l->r.bytes=l.bytes->r.fE=(l.fE.length:Nat)->(iK l.fQ r t).2.2.cls=0->nX (cG t).1.op=ab->yH (pj l (cG t).1 (iK l.fQ r t).2.1)
structure fq.built(s:fq):Prop where
 l:yH s.live
 f:∀l∈s.fv,yH l
def acz:fq.zero.built:=⟨.zero,by simp[fq.zero]⟩
def acw{s:fq}(hs:s.built):(gw s t).built:=by
 unfold gw qQ;split
 .exact hs
 rename_i h0;have h0:(iK s.live.fQ (qC s) t).2.2.cls=0:=Classical.byContradiction h0;obtain⟨e1,-⟩:=Dp h0;split
 .rename_i h;have h:nX (iK s.live.fQ (qC s) t).1.op=true:=h;rw[e1] at h;refine⟨?_,hs.f⟩;simp only[gJ];rw[e1];exact .step hs.l rfl rfl h0 h
 split
 .refine⟨hs.l,λl hl=>?_⟩
  rcases fi.1 hl with hl | hl
  .exact hs.f l hl
  .simp at hl;subst hl;exact hs.l
 split
 .split
  .rename_i l hl;exact⟨hs.f l (List.mem_of_getLast? hl),λy hy=>hs.f y (List.dropLast_subset _ hy)⟩
  .exact hs
 .exact hs
structure Qy(s:fq)(t:List UInt8):Prop where
 f:(gJ s t).2.2 = .zero
 o:nX (gJ s t).1.op=ab
 t:dO (gJ s t).1=t
def replay{l:Lv}(h:yH l):l.lines.foldl gw .zero=⟨l,[]⟩/\∀(i:Nat) (hi:i<l.lines.length),Qy ((l.lines.take i).foldl gw .zero) l.lines[i]:=by
 induction h with
 | zero=>exact⟨rfl,λi hi=>by simp[Lv.zero] at hi⟩
 | @step l r t hl hb ha h0 hs ih =>
  obtain⟨i1,i2⟩:=ih;obtain⟨a1,a2,d,a3,a4,a5⟩:=P3 h0;have el:(pj l (cG t).1 (iK l.fQ r t).2.1).lines=l.lines++[dO (cG t).1]:=by unfold pj;split<;>rfl
  have jA:(cG t).1.op=d.op:=by simp only[az.c_,bg,bQ] at a4;exact a4.1.1.1.1.1
  have hd:nX (cG (dO (cG t).1)).1.op=true:=by rw[a3];simp only;rw[<-jA];exact hs
  have e:gJ ⟨l,[]⟩ (dO (cG t).1)=(d,xq l.fQ (cG t).1,.zero):=by
   rw[gJ,aov (r:=r) (by rw[hb];rfl) (by rw[ha];rfl) hd,a5]
  have eE:nX d.op=true:=by rw[<-jA];exact hs
  have g:Qy ⟨l,[]⟩ (dO (cG t).1):=⟨by rw[e],by rw[e];exact eE,by rw[e];exact(Pv a4).symm⟩;have e2:gw ⟨l,[]⟩ (dO (cG t).1)=⟨pj l (cG t).1 (iK l.fQ r t).2.1,[]⟩:=by
   rw[gw,e,qQ,aB (by simp[aY.zero]),aF eE,a2];simp only;rw[avo a4]
  refine⟨by rw[el,yN,i1];exact e2,λi hi=>?_⟩;rw[el,bM,fI] at hi
  by_cases aD:i<l.lines.length
  .have:=i2 i aD
   simp only[el];rw[KJ (by omega),List.getElem_append_left aD];exact this
  .have he:i=l.lines.length:=by omega
   subst he;simp only[el];rw[KJ (by omega),dX,i1,List.getElem_append_right (by omega)];simpa using g
def Jx:List UInt8:=[112,111,112]
def ch.up{P:Program}{f:FuncId}{as:List V}{R S:V->ah->Prop}(h:ch P f as D R)(k:∀v σ',R v σ' -> ∃td,bW σ' td /\ S v td):ch P f as D S :=
 ⟨h.1,λE vs U h2 h3=>(h.2 E vs U h2 h3).mono λ_ _ ⟨v',x,E',σ',a,b,c,d,e,f,g⟩=>by
  obtain⟨td,o,r⟩:=k _ _ g;exact⟨v',x,E',td,a,b,c,d.eC o,e,f,r⟩⟩
def akS:da TO (kZ .aZ .zero):=⟨dp.no,dp.no,dp.no,dp.no,dp.rfl,dp.rfl,trivial⟩
def YZ:pz (D.set b (kZ .aZ .zero)) b .aZ .zero:=⟨iS,trivial⟩
def xk(D:ah)(k:Tk):Prop:=∀t,k = .tk t->D.aR t=aj
def Kp.sub{bF eT:ah}{k k' : Tk}(h:D.sub bF)(hb:D.box b=aj)(hk:xk D k)(h2:Kp bF eT b k k'):D.sub eT/\xk D k' := by
 refine⟨⟨λc cs hc=>?_,λt n ht=>?_,λc cs hc=>?_⟩,λt e=>?_⟩
 .rw[h2.b c (λe=>by rw[e,hb] at hc;simp at hc)];exact h.1 c cs hc
 .exact h2.t t n (λe=>by rw[hk t e] at ht;simp at ht) (h.2.1 t n ht)
 .rw[h2.c];exact h.2.2 c cs hc
 .rcases h2.f t e with e1 | e1
  .exact hk t e1
  .cases hq:D.aR t with
   | none=>rfl
   | some n=>rw[h.2.1 t n hq] at e1;simp at e1
def PS{cs:List V}(h:D.box b=aj):D.sub (D.set b cs) :=
 ⟨λc ds hc=>by rw[pf (λe=>by rw[e,h] at hc;simp at hc)];exact hc,λ_ _ h=>h,λ_ _ h=>h⟩
def v8:List (List UInt8):=[[99,104,97,105,110,32,107,32,123,97,44,98,125],[112,117,115,104],[108,97,98,101,108,32,107,32,32,123,120,125],[112,111,112]]
def p_(i:Nat):fq:=(v8.take i).foldl gw .zero
def af_{i:Nat}(h:i<v8.length):p_ (i+1)=gw (p_ i) v8[i]:=by rw[p_,iG h,yN];rfl
def af':∀i:Fin 4,(gJ (p_ i) (v8.getD i [])).2.2=⟨0,0⟩:=by decide +kernel
def S_:∀t∈v8,t.length<=3000:=by decide
def aga:(gJ (p_ 4) Jx).2.2=⟨8,0⟩:=by decide +kernel
def agc:r9 (p_ 4).live.lines=[99,104,97,105,110,32,107,32,123,97,44,98,125,10]:=by decide +kernel
def agb:(p_ 4).live.bytes=14/\(p_ 4).live.fE.length=0/\(p_ 4).fv.length=0:=by decide +kernel
def ke(s:aH)(v kind lat:Int):Bool:=if 0<=v then(match s.vars[v.toNat]? with | some x=>decide (x.kind=kind)&&decide (x.lat=lat) | none=>ar) else ar
def nN(s:aH)(lat:Nat)(a:bO):Bool:=if a.v<0 then sB (nV s lat) a.c else ke s a.v 1 lat
def mR(s:aH)(lat:Nat)(t:ec):Bool:=decide (t.fs.length<=16)&&(decide (t.tail<0)||ke s t.tail 2 lat)&&t.fs.all (λf=>cV f.name&&nN s lat f.a)&&(po (t.fs.map bV.name)).isNone
def nM(s:aH)(lat:Nat)(x:bu):Bool:=(decide (x.op≠1)||ke s x.n 1 lat)&&(decide (x.op≠2)||sB (nV s lat) x.c)
def NN(s:aH)(lat:Nat)(l:List bu):Bool:=l.all (nM s lat)&&ym l
def lW(s:aH)(a:dG):Bool :=
 if a.op=10 then ke s a.v 2 a.lat&&cV a.field
 else if a.op=9 then decide (0<=a.lat)&&decide (a.lat<s.ba.length)&&mR s a.lat.toNat a.a&&mR s a.lat.toNat a.b
 else if a.op=8 then decide (0<=a.lat)&&decide (a.lat<s.ba.length)&&NN s a.lat.toNat a.code&&nN s a.lat.toNat a.to
 else ar
section
variable {s:aH} {lat:Nat}
def IL{l:Int}{k:Int}(hl:0<=l)(h:iD s l t p k=[]):ke s (cN (jK s.vars t)) k l=true:=by
 obtain⟨v,hv,U,h2,h3⟩:=J9 h;rw[U];have e:s.vars[(cN (aa v)).toNat]?=aa s.vars[v]:=cK hv;unfold ke;rw[aF (show 0<=cN (aa v) by simp only[cN];omega),e];simp[h2,h3 hl]
def SV{n:Nd}(h:vV s lat n=[])(h0:0<n.ak.length):(gx (nV s lat) (n.ak.getD 0 jb)).2=none:=by
 rw[vV,aF ⟨h0,by omega⟩] at h;split at h
 .simp at h
 .rename_i e;simpa [vX] using e
def RC{n:Nd}(h:gR s lat n=[])(hk:n.kind=1\/n.kind=7/\0<n.ak.length):nN s lat (pX s lat n)=true:=by
 rcases hk with hk | ⟨hk,h0⟩
 .rw[gR,aF hk] at h;have e:=IL (by omega) h;obtain⟨v,hv,U,_⟩:=J9 h;rw[pX,aF hk,nN,U];rw[U] at e;exact(aB (by simp only[cN];omega)).trans e
 .rw[gR,aB (by omega),aF hk] at h;rw[pX,aB (by omega),nN];exact(aF (show(-1:Int)<0 by decide)).trans (Tp (SV h h0))
def aob{n:Nd}(h:gR s lat n=[])(hk:n.kind=1\/n.kind=7/\0<n.ak.length):∃i,lG s lat n=aa i/\nM s lat i=true:=by
 rcases hk with hk | ⟨hk,h0⟩
 .rw[gR,aF hk] at h;have e:=IL (by omega) h;obtain⟨v,hv,U,h2,h3⟩:=J9 h;refine⟨⟨1,v,.zero⟩,?_,?_⟩
  .rw[lG,aF hk,vt,U];simp only[cK hv,h2,h3 (by omega),and_self,cM]
  .rw[U] at e;simp only[nM,show ke s ((v:Nat):Int) 1 lat=ab from e];simp
 .rw[gR,aB (by omega),aF hk] at h;have e:=SV h h0;refine⟨⟨2,0,(gx (nV s lat) (n.ak.getD 0 jb)).1⟩,?_,?_⟩
  .rw[lG,aB (by omega),e]
  .simp only[nM,Tp e];simp
mutual
def Sr:∀n:Nd,n.eP=ab->ff s lat n=[]->∃l,lx s lat n=aa l/\l.all (nM s lat)=ab
 | .mk k p t ws ks, hq, h => by
  rw[BJ,GL] at h;obtain⟨U,h2⟩:=h;rw[Hs]
  by_cases hk:(Nd.mk k p t ws ks).kind=1\/(Nd.mk k p t ws ks).kind=7
  .have j_ : (Nd.mk k p t ws ks).kind=1\/(Nd.mk k p t ws ks).kind=7/\0<(Nd.mk k p t ws ks).ak.length:=by
    rcases hk with hk | hk
    .exact .inl hk
    .exact .inr ⟨hk,by rw[zK hq hk];omega⟩
   obtain⟨i,e1,e2⟩:=aob U j_;exact⟨[i],by rw[aF hk,e1];rfl,by simp[e2]⟩
  .rw[aB hk] at h2 ⊢;have nJ : ∀x∈ks,x.eP=true:=by
    rw[Nd.sR,aB (λe=>hk (.inl e)),aB (λe=>hk (.inr e))] at hq;split at hq
    .simp only[bg,eM] at hq;exact hq.2
    .simp at hq
   obtain⟨m,e1,e2⟩:=Ss ks nJ λx hx=>aat.1 h2 x hx
   refine⟨m++[lM (.mk k p t ws ks)],by rw[show(Nd.mk k p t ws ks).ak=ks from rfl,e1];rfl,?_⟩;rw[D5,e2]
   have:nM s lat (lM (.mk k p t ws ks))=true:=by
    simp only[nM,lM];split<;>simp
   simp[this]
def Ss:∀l:List Nd,(∀n∈l,n.eP=ab)->(∀n∈l,ff s lat n=[])->∃m,mB s lat l=aa m/\m.all (nM s lat)=ab
 | [],_,_=>⟨[],by rw[mB],rfl⟩
 | n :: ns, hq, h => by
  obtain⟨l,e1,e2⟩:=Sr n (hq n (by simp)) (h n (by simp));obtain⟨m,e3,e4⟩:=Ss ns (λx hx=>hq x (by simp[hx])) λx hx=>h x (by simp[hx])
  exact⟨l++m,by rw[mB,e1];simp only[e3];rfl,by rw[D5,e2,e4];rfl⟩
end
def apD{ks:List Nd}(h:∀i,i<ks.length->rL ks i=[]):(po (ks.map Nd.au)).isNone=true:=by
 rw[si,po,um];intro i hi;have hi:i<ks.length:=by simpa using hi
 have:=h i hi
 rw[rL] at this;split at this
 .simp at this
 rename_i hn;rw[<-QX];have e:(ks.map Nd.au).getD i []=(ks.getD i jb).au:=by simp[fW,cK hi]
 rw[e];exact hn
def Ye{n:Nd}(hq:n.jF=ab)(h:jS s lat p n=[]):mR s lat (lS s lat n)=true:=by
 rcases DF hq with ⟨hk,_,hn,hf⟩ | ⟨hk,_⟩
 .rw[jS,aB (by omega),aF hk,GL,GL] at h;obtain⟨⟨U,h2⟩,h3⟩:=h;have hl:n.ak.length<=16:=by
   by_cases hc:16<n.ak.length
   .rw[aF hc] at h3;simp at h3
   .omega
  have UJ:∀i,i<n.ak.length->rL n.ak i=[]/\(n.ak.getD i jb).ak.flatMap (gR s lat)=[]:=λi hi=>by
   have:=aat.1 U i (by simpa using hi)
   rwa [y9,GL] at this
  have dq:(n.ak.map (sC s lat)).all (λf=>cV f.name&&nN s lat f.a)=true:=by
   rw[eM];intro f j9;obtain⟨k,qU,rfl⟩:=px.1 j9;obtain⟨_,g1,_,c,g2,g3⟩:=EA (hf k qU);obtain⟨i,hi,rfl⟩:=uq.1 qU;have e:=(UJ i hi).2;rw[ny hi,g2] at e;have e:gR s lat c=[]:=by simpa using e
   have hq:=Eh g3;simp only[Nd.pY,bg,j1,bQ] at g3;have hA:=RC e (g3.1.imp id λhk=>⟨hk,by rw[zK hq hk];omega⟩);simp only[sC,g1,g2,iM];exact hA
  have htw:=apD λi hi=>(UJ i hi).1
  have ht:wV s n.an<0\/ke s (wV s n.an) 2 lat=true:=by
   rcases hn with hn | ⟨w,hn,_⟩
   .rw[hn];left;simp[wV]
   .right;rw[hn] at h2 ⊢;have h2:iD s lat w.au w.pos 2=[]:=by simpa [wW] using h2
    exact IL (by omega) h2
  rw[lS,aB (by omega)];simp only[mR,aN,dq,Cr,rC];have e:(bV.name∘sC s lat)=Nd.au:=by funext k;rfl
  rw[e,htw];simp only[rC,bg,j1,bQ];exact⟨hl,ht⟩
 .rw[jS,aF hk] at h;have e:=IL (by omega) h;rw[lS,aF hk];simp only[mR,e];simp[po]
def RA{l:Int}{n:Nd}:∀f∈gR s l n,f.cls≠0:=by
 intro f hf;unfold gR at hf;split at hf
 .exact J7 f hf
 split at hf
 .unfold vV at hf;split at hf
  .split at hf
   .rw[kH.1 hf];simp
   .simp at hf
  .simp at hf
 .simp at hf
mutual
def NT{l:Int}:∀n:Nd,∀f∈ff s l n,f.cls≠0
 | .mk k p t ws ks, f, hf => by
  rw[BJ] at hf
  rcases fi.1 hf with hf | hf
  .exact RA f hf
  .split at hf
   .simp at hf
   .obtain⟨x,hx,hf⟩:=tt.1 hf;exact VI ks x hx f hf
def VI{l:Int}:∀ns:List Nd,∀n∈ns,∀f∈ff s l n,f.cls≠0
 | [],_,h=>by simp at h
 | m :: ms, n, h => by
  rcases lq.1 h with e | h
  .rw[e];exact NT m
  .exact VI ms n h
end
def X'{l:Int}{n:Nd}:∀f∈jS s l p n,f.cls≠0:=by
 intro f hf;unfold jS at hf;split at hf
 .exact J7 f hf
 split at hf
 .rcases fi.1 hf with hf | hf
  .rcases fi.1 hf with hf | hf
   .obtain⟨i,_,hf⟩:=tt.1 hf
    rcases fi.1 hf with hf | hf
    .unfold rL at hf;split at hf
     .rw[kH.1 hf];simp
     .simp at hf
    .obtain⟨x,_,hf⟩:=tt.1 hf;exact RA f hf
   .obtain⟨x,_,hf⟩:=tt.1 hf;exact J7 f hf
  .split at hf
   .rw[kH.1 hf];simp
   .simp at hf
 .simp at hf
def pw.fits(h:pw s c):lW s (kN s c)=true:=by
 have jA:=h.op
 by_cases h8:c.op=8
 .obtain⟨k,hk,aD⟩:=h.cZ (.inl h8);obtain⟨q1,q2⟩:=h.labels h8;have e:pA s c=gy s c.name++ff s (Go.Am.cZ s c) c.left++ff s (Go.Am.cZ s c) c.right++xx c.right:=by rw[pA,aB (by omega),aB (by omega),aF h8]
  have hl:ff s (k:Nat) c.left=[]:=Dt (NT _) λf hf=>h.none f (by rw[e,hk];simp[hf])
  have hr:ff s (k:Nat) c.right=[]:=Dt (NT _) λf hf=>h.none f (by rw[e,hk];simp[hf])
  obtain⟨l,e1,e2⟩:=Sr c.left q1 hl;have hc:=atw q1 e1;have ha:gR s (k:Nat) c.right=[]:=by rw[BJ] at hr;exact(GL.1 hr).1
  have hA:=RC ha ((h.right h8).imp id λhk=>⟨hk,by rw[zK q2 hk];omega⟩);rw[kN,aF h8,hk];have ecr:mC s ((k:Nat):Int) c.left=aa l:=by rw[mC,aF ⟨by omega,by omega,q1⟩];exact e1
  rw[ecr];simp only[lW,yR,gi,NN,e2,hc,hA];simp[aD]
 .by_cases h9:c.op=9
  .obtain⟨k,hk,aD⟩:=h.cZ (.inr h9);obtain⟨q1,q2⟩:=h.rows h9;have e:pA s c=gy s c.name++jS s (Go.Am.cZ s c) c.pos c.left++jS s (Go.Am.cZ s c) c.pos c.right:=by rw[pA,aB (by omega),aB (by omega),aB h8,aF h9]
   have hl:jS s (k:Nat) c.pos c.left=[]:=Dt X' λf hf=>h.none f (by rw[e,hk];simp[hf])
   have hr:jS s (k:Nat) c.pos c.right=[]:=Dt X' λf hf=>h.none f (by rw[e,hk];simp[hf])
   rw[kN,aB h8,aF h9,hk];simp only[lW,gi,Ye q1 hl,Ye q2 hr];simp[aD]
  .have fM:c.op=10:=by omega
   obtain⟨v,hv,Df,rT⟩:=h.var fM;obtain⟨w,hw,hw2⟩:=h.one fM;rw[kN,aB h8,aB h9,Df,hw];have e:s.vars[(cN (aa v)).toNat]?=aa s.vars[v]:=cK hv;have hF:ke s (cN (aa v)) 2 (J_ s (aa v))=true:=by
    unfold ke;rw[aF (show 0<=cN (aa v) by simp only[cN];omega),e];simp[rT,J_,cK hv]
   simp only[lW,hF];simpa using hw2
end
end Go.Am
