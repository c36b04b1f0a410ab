/-
  Part 4 of the proof of StackTextUptoCardSaid: a logic over the model, the forms of the functions that the law reaches, and what they compute.
-/
import Derived.Test.YtnpggmhoandloaaGreatDoorText3
set_option linter.unusedVariables false
set_option linter.unusedSimpArgs false
set_option linter.defProp false
set_option linter.unusedSectionVars false
set_option maxRecDepth 4000
set_option maxHeartbeats 4000000
open Option renaming some->aa,none->aj
open Bool renaming true->ab,false->ar
open List renaming replicate->aq,range->bA,getD->fW,zipWith->mu
open Eq renaming mpr->ey
open Ne renaming symm->fJ
namespace Go.Am
def FTo(v r:V):List V->List V->Prop
 | [],[]=>True
 | x::xs,y::ys=>(y=x\/(x=v/\y=r)\/y = .any)/\FTo v r xs ys
 | _,_=>False
variable{O:Type}{D:ah}
def HC{F:Nat->O->St}{J:Nat->O->Prop}{t:List V}{l:List (List V)}(n:Nat)(h:∀Z,D.aR Z=aj->∃x,J 0 x/\fc Z n t (F 0 x).t/\l=(F 0 x).aE/\(F 0 x).out=D.a_ Z n):Cm F J ⟨t,l,D⟩ :=
 (bI.Cb (ι:={x // J 0 x}) (I:=λx=>F 0 x.1) n λZ bE=>by
   obtain⟨x,U,h2,h3,h4⟩:=h Z bE;exact⟨⟨x,U⟩,h2,h3,h4⟩).mono λ_ ⟨x,e⟩=>⟨x.1,x.2,e⟩
def yJ(Z n:Nat):List (List V)->List (List V)->Prop
 | [],[]=>True
 | c::l,c' :: l' => fc Z n c c' /\ yJ Z n l l'
 | _,_=>False
variable{Z:Nat}
def yJ.spec{n:Nat}:∀{l l' : List (List V)},yJ Z n l l' -> l.length=l'.length/\∀(i:Nat) c',l'[i]?=aa c' -> ∃c,l[i]?=aa c/\fc Z n c c'
 | [],[],_=>⟨rfl,λi c' h=>by simp at h⟩
 | [],_::_,h=>h.elim
 | _::_,[],h=>h.elim
 | c :: l, c' :: l', h => by
  obtain⟨U,h2⟩:=yJ.spec h.2;refine⟨by simp[U],λi d hd=>?_⟩;cases i with
  | zero=>simp at hd;subst hd;exact⟨c,rfl,h.1⟩
  | succ i=>exact h2 i d (by simpa using hd)
theorem aoQ{n:Nat}:yJ Z n [] []=True:=rfl
theorem aoP{n:Nat}{c c' : List V}{l l' : List (List V)}:yJ Z n (c::l) (c' :: l')=(fc Z n c c' /\ yJ Z n l l'):=rfl
def I9:=af @aoQ @aoP
def HD{F:Nat->O->St}{J:Nat->O->Prop}{t:List V}{l:List (List V)}(n:Nat)(h:∀Z,D.aR Z=aj->∃x,J 0 x/\fc Z n t (F 0 x).t/\yJ Z n l (F 0 x).aE/\(F 0 x).out=D.a_ Z n):Cm F J ⟨t,l,D⟩ :=
 bI.tok n λZ bE=>by
  obtain⟨x,U,h2,h3,h4⟩:=h Z bE;obtain⟨k1,k2⟩:=h3.spec;exact⟨_,_,D,h2,k1,k2,rH.rfl,x,U,by rw[<-h4]⟩
def W2:∀{a b:List V},cW (a++b)=(cW a&&cW b)
 | [],b=>by simp[cW]
 | x::a,b=>by simp[cW,W2,Bool.and_assoc]
def delta(l:List Tok)(i:Nat):Int:=(if closing (fw l i)≠0 then 1 else 0) - (if l7 (fw l i)=ab then 1 else 0)
variable{i:Nat}
def vd{l:List Tok}{x n:Nat}{d:Int}:kf l x (n+1) i d=if d+delta l i=0 then i else kf l x n (i+1) (d+delta l i):=by
 simp only[kf,delta];have e:d+(if closing (fw l i)≠0 then 1 else 0) - (if l7 (fw l i)=ab then 1 else 0)=d+((if closing (fw l i)≠0 then 1 else 0) - (if l7 (fw l i)=ab then 1 else 0)):=by omega
 rw[e];rfl
def SL(l:List Tok)(i:Nat) : -1<=delta l i:=by unfold delta;split<;>split<;>omega
def Ev{l:List Tok}(h:closing (fw l i)≠0):delta l i=1:=by
 unfold delta
 have:l7 (fw l i)=false:=by
  unfold closing at h;unfold l7;split at h
  .rename_i hk;rw[hk];decide
  .split at h
   .rename_i hk;rcases hk with hk | hk<;>rw[hk]<;>decide
   .exact absurd rfl h
 rw[this,aF h];simp
def OL{l:List Tok}{x:Nat}:∀(n i:Nat) (d:Int),kf l x n i d=x\/i<=kf l x n i d
 | 0,_,_=>.inl rfl
 | n + 1, i, d => by
  rw[vd];split
  .exact .inr (bY _)
  .rcases OL n (i+1) (d+delta l i) with h | h
   .exact .inl h
   .exact .inr (by omega)
def scan{l:List Tok}{x j:Nat}:∀(n i:Nat) (d:Int),i+n=l.length->1<=d->x<i->i<=j->j<kf l x n i d->∃d',1<=d' /\ kf l x n i d=kf l x (l.length - j) j d'
 | 0,i,d,_,_,hx,hj,h=>by simp only[kf] at h;omega
 | n + 1, i, d, hl, hd, hx, hj, h => by
  by_cases Im:i=j
  .subst Im;exact⟨d,hd,by rw[show l.length - i=n+1 by omega]⟩
  rw[vd] at h ⊢;split at h
  .omega
  .rename_i he;rw[aB he]
   have:=SL l i
   exact scan n (i+1) _ (by omega) (by omega) (by omega) (by omega) h
def less{l:List Tok}{x y:Nat}:∀(n p:Nat) (a b:Int),1<=a->a<b->y<p->x<p->p<=kf l x n p b->kf l y n p a<kf l x n p b
 | 0,p,a,b,_,_,_,hx,h=>by simp only[kf] at h;omega
 | n + 1, p, a, b, ha, hb, hy, hx, h => by
  have hd:=SL l p;simp only[vd] at h ⊢;rw[aB (show ¬b+delta l p=0 by omega)] at h ⊢;have h2:p+1<=kf l x n (p+1) (b+delta l p):=by rcases OL (l:=l) (x:=x) n (p+1) (b+delta l p) with e | e<;>omega
  split
  .omega
  .exact less n (p+1) _ _ (by omega) (by omega) (by omega) (by omega) h2
def nest{l:List Tok}{j:Nat}(hi:closing (fw l i)≠0)(hj:closing (fw l j)≠0)(U:i<j)(h2:j<partner l i)(hl:i<l.length):partner l j<partner l i:=by
 have hp:=Jq hl;have e:partner l i=kf l i (l.length - i - 1) (i+1) 1:=by
  unfold partner;rw[show l.length - i=(l.length - i - 1)+1 by omega,vd,Ev hi];simp
 rw[e] at h2;obtain⟨d,hd,e2⟩:=scan (l.length - i - 1) (i+1) 1 (by omega) (by omega) (by omega) (by omega) h2;have e3:kf l i (l.length - j) j d=kf l i (l.length - j - 1) (j+1) (d+1):=by
  rw[show l.length - j=(l.length - j - 1)+1 by omega,vd,Ev hj,aB (by omega)];simp
 have e4:partner l j=kf l j (l.length - j - 1) (j+1) 1:=by
  unfold partner;rw[show l.length - j=(l.length - j - 1)+1 by omega,vd,Ev hj];simp
 rw[e,e2,e3,e4];rw[e2,e3] at h2;exact less _ _ _ _ (by omega) (by omega) (by omega) (by omega) (by rcases OL (l:=l) (x:=i) (l.length - j - 1) (j+1) (d+1) with e | e<;>omega)
def aaM(l:List Tok)(i to:Nat):Prop:=∀j,i<=j->j<to->closing (fw l j)≠0->partner l j<to
def J2{l:List Tok}:∀(n i to:Nat),to<=l.length->aaM l i to->bp (pR l n i to)<=to - i
 | 0,_,_,_,_=>by simp[pR,bp]
 | n + 1, i, to, hl, hw => by
  rw[pR];split
  .rename_i hi;split
   .rename_i hc;have hp:=Jq (l:=l) (i:=i) (by omega);have hq:=hw i (bY _) hi hc;have U:=J2 n (i+1) (partner l i) (by omega) λj a b c=>nest hc c (by omega) b (by omega)
    have h2:=J2 n (partner l i+1) to hl λj a b c=>hw j (by omega) b c
    simp only[bp,aC.many];omega
   .have h2:=J2 n (i+1) to hl λj a b c=>hw j (by omega) b c
    simp only[bp,aC.many];omega
  .simp[bp]
def vK(t:Tok):Prop:=(t.kind=97/\cV t.au=ab)\/(t.kind≠97/\t.au=[UInt8.ofNat t.kind.toNat])
def Dn:∀(n p:Nat) (r:List UInt8) (acc:List Tok),(∀t∈acc,vK t)->∀t∈(fG n p r acc).1,vK t
 | 0,_,r,acc,h=>by cases r<;>simpa [fG] using h
 | n+1,p,[],acc,h=>by simpa [fG] using h
 | n + 1, p, c :: r, acc, h => by
  simp only[fG];split
  .exact h
  .split
   .rename_i hr;refine Dn n _ _ _ λt ht=>?_
    rcases fi.1 ht with ht | ht
    .exact h t ht
    .rw[kH.1 ht];exact .inl ⟨rfl,hr.2⟩
   .split
    .rename_i hs;refine Dn n _ _ _ λt ht=>?_
     rcases fi.1 ht with ht | ht
     .exact h t ht
     .rw[kH.1 ht];refine .inr ⟨λe=>?_,?_⟩
      .simp only at e;rw[e] at hs;revert hs;decide
      .simp
    .split
     .exact Dn n _ _ _ h
     .simp
mutual
def aC.Good:aC->Prop
 | .mk t ks _=>vK t/\(closing t.kind=0->ks=[])/\fg ks
def fg:List aC->Prop
 | []=>True
 | t::ts=>t.Good/\fg ts
end
def L8:∀{a b:List aC},fg (a++b)↔fg a/\fg b
 | [],b=>by simp[fg]
 | t::ts,b=>by simp only[il,fg,L8 (a:=ts),KY]
def zd(t:aC):t.Good↔vK t.tok/\(closing t.tok.kind=0->t.ak=[])/\fg t.ak:=by cases t;simp only[aC.Good,aC.tok,aC.ak]
def J1{l:List Tok}(h:∀t∈l,vK t):∀(n i to:Nat),to<=l.length->fg (pR l n i to)
 | 0,_,_,_=>by simp[pR,fg]
 | n + 1, i, to, hl => by
  rw[pR];split
  .rename_i hi;have ht:vK (jW l i):=by
    have e:jW l i=l[i]:=by simp[jW,cK (show i<l.length by omega)]
    rw[e];exact h _ (dj _)
   have hk:(jW l i).kind=fw l i:=by simp only[jW,fw];split<;>rfl
   split
   .rename_i hc;have hp:=Jq (l:=l) (i:=i) (by omega);simp only[fg,aC.Good];exact⟨⟨ht,λe=>absurd (hk▸e) hc,J1 h n _ _ (by omega)⟩,J1 h n _ _ hl⟩
   .simp only[fg,aC.Good];exact⟨⟨ht,λ_=>trivial,trivial⟩,J1 h n _ _ hl⟩
  .exact trivial
def Wc(s:List UInt8):fg (iT (eG s).1).1:=by
 unfold iT;split
 .exact trivial
 .exact J1 (Dn _ _ _ _ (by simp)) _ _ _ (bY _)
def Wd(s:List UInt8):bp (iT (eG s).1).1<=s.length:=by
 have hl:=V1 s;unfold iT;split
 .simp[bp]
 .have:=J2 (l:=(eG s).1) (eG s).1.length 0 (eG s).1.length (bY _) λj _ hj _=>(Jq hj).2
  simp only;omega
def avV{t:Tok}(h:vK t):t.au.length<=16:=by
 rcases h with ⟨_,h⟩ | ⟨_,h⟩
 .unfold cV at h;simp only[bg,bQ] at h;exact h.1
 .rw[h];simp
structure jh(r r' : ae)(seg:List aC):Prop where
 ex:∃pre post,r.l=pre++seg++post/\r.at_=(pre.length:Nat)/\r'.at_=((pre++seg).length:Nat)
 l:r'.l=r.l
 b:r.aM=aj
 b' : r'.aM=aj
variable{r:ae}
def jh.trans{r' XR:ae}{a b:List aC}(h:jh r r' a)(k:jh r' XR b):jh r XR (a++b):=by
 obtain⟨pre,post,e1,e2,e3⟩:=h.ex;obtain⟨OV,XB,f1,f2,f3⟩:=k.ex;refine⟨⟨pre,XB,?_,e2,?_⟩,k.l.trans h.l,h.b,k.b'⟩
 .have hl:(pre++a).length=OV.length:=by omega
  have:pre++a++post=OV ++ (b++XB):=by rw[<-e1,<-h.l,f1,eN]
  obtain⟨g1,g2⟩:=List.append_inj this hl;rw[e1,g2];simp
 .rw[f3];have hl:(pre++a).length=OV.length:=by omega
  simp only[bM] at hl ⊢;omega
def jh.kp{r':ae}{a:List aC}(h:jh r r' a)(hg:fg r.l):fg a:=by
 obtain⟨pre,post,e1,_,_⟩:=h.ex;rw[e1,L8,L8] at hg;exact hg.1.2
variable{k:Int}
def pQ(h:(r.take k).2.aM=aj):jh r (r.take k).2 [(r.take k).1]/\(r.take k).1.tok.kind=k:=by
 rcases r.vp k with ⟨hs,U,h2,h3,h4⟩ | ⟨_,_,U⟩
 .have dS := hs;simp only[ae.b_,ae.ok,bL,bg,bQ,si] at dS;have aD:r.at_.toNat<r.l.length:=by omega
  have e:(r.take k).1=r.l[r.at_.toNat]:=by simp[ae.take,hs,fW,cK aD]
  refine⟨⟨⟨r.l.take r.at_.toNat,r.l.drop (r.at_.toNat+1),?_,?_,?_⟩,r.fU k,dS.1,h2⟩,?_⟩
  .rw[e,eN,mr,<-nr aD,rG]
  .rw[iN];omega
  .rw[U,bM,iN,fI];omega
  .rw[e]
   have:=dS.2.2
   rw[cK aD] at this;simpa using this
 .exact absurd h U
def jH(l:List aC):Nat:=26*bp l
def yu(a b:List aC):jH (a++b)=jH a+jH b:=by simp only[jH,tX];omega
def vo(t:aC):jH [t]=26+jH t.ak:=by simp only[jH,bp,Ok];omega
def ZG{t:Tok}(ht:t.kind≠97):∀(a:List Tok) (k:Option Int) (b:List Tok),jI k (a++t::b)=jI k a++t.au++jI aj b
 | [], k, b => by
  simp only[gQ,jI,ht,and_false,cF];cases b with
  | nil=>rfl
  | cons u us=>simp only[jI,bc,ht,Ey,cF,reduceCtorEq]
 | x::xs,k,b=>by simp only[il,jI,ZG ht xs (aa x.kind) b,eN]
def P1{t:Tok}(ht:t.kind≠97)(a b:List Tok):fC (a++t::b)=fC a++t.au++fC b:=ZG ht a aj b
def iY:∀a b:List aC,bG (a++b)=bG a++bG b
 | [],b=>rfl
 | t::ts,b=>by simp only[il,bG,iY ts b,eN]
def HM(t:aC):bG [t]=t.tok::(if closing t.tok.kind≠0 then bG t.ak++[⟨closing t.tok.kind,[UInt8.ofNat (closing t.tok.kind).toNat],t.fin⟩] else []):=by
 cases t;simp only[bG,aC.flat,eD,aC.tok,aC.ak,aC.fin];rfl
def yy{t:aC}(hk:t.tok.kind≠97)(hc:closing t.tok.kind=0)(a b:List aC):fC (bG (a++[t]++b))=fC (bG a)++t.tok.au++fC (bG b):=by
 rw[iY,iY,HM,hc];simp only[ne_eq,Jh,cF,eN,mr];rw[<-eN (fC (bG a))];exact P1 hk _ _
def avQ{t:aC}(hk:t.tok.kind=97):fC (bG [t])=t.tok.au:=by
 rw[HM,hk,show closing 97=0 from rfl];simp[fC,jI]
def DN{t:aC}(hc:closing t.tok.kind≠0):fC (bG [t])=t.tok.au++fC (bG t.ak)++[UInt8.ofNat (closing t.tok.kind).toNat]:=by
 have hk:t.tok.kind≠97:=λe=>hc (by rw[e];rfl)
 have qV:closing t.tok.kind≠97:=by unfold closing;split;omega;split;omega;omega
 rw[HM,aF hc];have U:=P1 hk [] (bG t.ak++[⟨closing t.tok.kind,[UInt8.ofNat (closing t.tok.kind).toNat],t.fin⟩]);rw[gQ] at U;rw[U,P1 qV];simp[fC,jI]
variable{G:Type}
def Sound(one:ae->G × ae)(T:G->List UInt8)(Q:G->Prop)(S:G->Nat):Prop :=
 ∀r,fg r.l->(one r).2.aM=aj->∃seg,jh r (one r).2 seg/\fC (bG seg)=T (one r).1/\Q (one r).1/\S (one r).1<=jH seg
def TW{step:ae × List G->ae × List G}:∀{n:Nat} {a:ae × List G},(jy step n a).1.aM=aj->a.1.aM=aj
 | 0,a,h=>h
 | n + 1, a, h => by
  rw[jy] at h;split at h
  .rename_i hs;simp only[ae.b_,ae.ok,bg,si] at hs;exact hs.1
  .exact h
section
variable {G:Type} {one:ae->G × ae} {T:G->List UInt8} {Q:G->Prop} {S:G->Nat}
structure Has(T:G->List UInt8)(Q:G->Prop)(S:G->Nat)(seg:List aC)(xs:List G):Prop where
 t:fC (bG seg)=bX (xs.map T)
 q:∀x∈xs,Q x
 s:(xs.map S).sum<=jH seg
 n:0<xs.length
def T0(hs:Sound one T Q S){r:ae}(hg:fg r.l):∀{n:Nat} {a:ae × List G} {seg:List aC},jh r a.1 seg->Has T Q S seg a.2->(jy (cH one) n a).1.aM=aj ->
 ∃Y3,jh r (jy (cH one) n a).1 Y3 /\ Has T Q S Y3 (jy (cH one) n a).2
 | 0,a,seg,h,k,_=>⟨seg,h,k⟩
 | n + 1, a, seg, h, k, hb => by
  rw[jy] at hb ⊢;split
  .rename_i amC;rw[aF amC] at hb;have ek:=TW hb;have xR:fg (a.1.take 44).2.l:=by rw[ae.fU,h.l];exact hg
   obtain⟨sg,e1,e2,e3,e4⟩:=hs (a.1.take 44).2 xR ek;obtain⟨t1,t2⟩:=pQ e1.b;refine T0 hs hg (seg:=seg++[(a.1.take 44).1]++sg) ?_ ?_ hb
   .exact(h.trans t1).trans e1
   .have mJ:fg [(a.1.take 44).1]:=t1.kp (by rw[h.l];exact hg);have ck:=((zd _).1 mJ.1).1;have uU:(a.1.take 44).1.tok.au=[44]:=by
     rcases ck with ⟨U,_⟩ | ⟨_,U⟩
     .omega
     .rw[U,t2];rfl
    refine⟨?_,?_,?_,?_⟩
    .rw[yy (by rw[t2];decide) (by rw[t2];rfl),k.t,e2,uU];simp only[cH,fX,cz,fe];rw[NO,aF (by simpa using k.n)]
    .intro x hx
     rcases fi.1 hx with hx | hx
     .exact k.q x hx
     .rw[kH.1 hx];exact e3
    .have:=k.s
     simp only[cH,fX,cz,fe,List.sum_append,py,tu,yu];omega
    .simp[cH]
  .exact⟨seg,h,k⟩
def Zo(hs:Sound one T Q S)(hg:fg r.l)(hb:(eJ (cH one) r).1.aM=aj):∃seg,jh r (eJ (cH one) r).1 seg/\Has T Q S seg (eJ (cH one) r).2:=by
 unfold eJ at hb ⊢;have ek:=TW hb;obtain⟨sg,e1,e2,e3,e4⟩:=hs r hg ek;refine T0 hs hg e1 ?_ hb;refine⟨?_,?_,?_,?_⟩
 .simp only[cH,gQ,cz,fe,bX,Ky,eD];exact e2
 .intro x hx;simp only[cH,gQ,kH] at hx;rw[hx];exact e3
 .simp only[cH,gQ,cz,fe,py,tu];omega
 .simp[cH]
def Lh{i:ae}(h:i.close.aM=aj):i.aM=aj/\¬i.at_<i.l.length:=by
 unfold ae.close at h;split at h
 .exact absurd h i.HL
 .rename_i hc;refine⟨h,λhl=>hc ⟨by simp[ae.ok,h],hl⟩⟩
def Ro{t:aC}{i:ae}{seg:List aC}(h:jh t.inner i seg)(hc:i.close.aM=aj):seg=t.ak:=by
 obtain⟨pre,post,e1,e2,e3⟩:=h.ex;obtain⟨_,h2⟩:=Lh hc;have hp:pre=[]:=by
  have:t.inner.at_=0:=rfl
  rw[this] at e2;exact kn.1 (by omega)
 subst hp;have hq:post=[]:=by
  rw[h.l,e3,e1] at h2;simp only[gQ,bM] at h2;exact kn.1 (by omega)
 subst hq;simpa [aC.inner] using e1.symm
variable{e:Bool}
def La(hs:Sound one T Q S)(hg:fg r.l)(hb:(r.bracket (cH one) k e).2.aM=aj):
 ∃t,jh r (r.bracket (cH one) k e).2 [t]/\t.tok.kind=k/\fC (bG t.ak)=bX ((r.bracket (cH one) k e).1.1.map T)/\(∀x∈(r.bracket (cH one) k e).1.1,Q x)/\((r.bracket (cH one) k e).1.1.map S).sum<=jH t.ak /\
  (e=ar->0<(r.bracket (cH one) k e).1.1.length):=by
 unfold ae.bracket at hb ⊢;split
 .rename_i ck;rw[aF ck] at hb;have ek:(r.take k).2.aM=none:=by simpa [ae.ok] using ck
  obtain⟨t1,t2⟩:=pQ ek;have mJ:(r.take k).1.Good:=(t1.kp hg).1;have xQ:fg (r.take k).1.ak:=((zd _).1 mJ).2.2;have dx:(ae.inside (cH one) e (r.take k).1).1.close.aM=none:=hb;refine⟨(r.take k).1,⟨t1.ex,t1.l,t1.b,hb⟩,t2,?_⟩;simp only;generalize (r.take k).1=t at *;unfold ae.inside at dx ⊢;split
  .rename_i he;have hk:t.ak=[]:=kn.1 he.2;rw[hk];refine⟨rfl,by simp,by simp,λh=>?_⟩;rw[h] at he;simp at he
  .rename_i he;rw[aB he] at dx;obtain⟨seg,e1,e2⟩:=Zo hs (r:=t.inner) xQ (Lh dx).1;have Ni:=Ro e1 dx;subst Ni;exact⟨e2.t,e2.q,e2.s,λ_=>e2.n⟩
 .rename_i ck;rw[aB ck] at hb;exact absurd hb (by simpa [ae.ok] using ck)
end
variable{p:Int}{ws:List aA}
def asS(h:jf ws=ab):(Nd.mk 3 p [] ws []).jl=true:=by
 rw[Nd.A5];simp[Nd.kind,Nd.au,Nd.an,Nd.ak,h]
variable{ks:List Nd}
def asT(h:∀x∈ks,x.jl=ab)(h0:0<ks.length):(Nd.mk 4 p [] [] ks).jl=true:=by
 rw[Nd.A5];simp[Nd.lX,Nd.kind,Nd.au,Nd.an,Nd.ak];exact⟨h0,h⟩
def asQ(h:∀x∈ks,x.qD=ab):(Nd.mk 5 p [] [] ks).jl=true:=by
 rw[Nd.A5];simp[Nd.lX,Nd.kind,Nd.au,Nd.an,Nd.ak];exact h
def XQ{n:Nd}(hk:n.kind=2)(h:n.lH=ab):n.jl=true:=by rw[Nd.A5,aF hk];exact h
def O1{n:Nd}(hk:n.kind=1)(h:n.lH=ab):n.eP=true:=by rw[Nd.sR,aF hk];exact h
def asP{c:Nd}(h:c.jl=ab):(Nd.mk 7 p [] [] [c]).eP=true:=by
 rw[Nd.sR];simp[Nd.lX,Nd.kind,Nd.au,Nd.an,Nd.ak,wh,h]
def XP(hk:k=8\/k=9)(h:∀x∈ks,x.eP=ab)(h0:0<ks.length):(Nd.mk k p [] [] ks).eP=true:=by
 rw[Nd.sR]
 rcases hk with rfl | rfl
 all_goals
  simp[Nd.lX,Nd.kind,Nd.au,Nd.an,Nd.ak];exact⟨h0,h⟩
def r8{t:aC}(hg:t.Good)(hk:t.tok.kind=k)(gX:k≠97):t.tok.au=[UInt8.ofNat k.toNat]:=by
 rcases((zd _).1 hg).1 with ⟨h,_⟩ | ⟨_,h⟩
 .omega
 .rw[h,hk]
def P4{t:aC}(hg:t.Good):t.tok.au.length<=16:=avV ((zd _).1 hg).1
def SW(w:aA):Nat:=w.au.length+1
def SN(n:Nd):Nat:=n.wt+1
def xa:Sound ae.word aA.au (λw=>cV w.au=ab) SW:=by
 intro r hg hb;obtain⟨t1,t2⟩:=pQ (show(r.take 97).2.aM=aj from hb);have mJ:=(t1.kp hg).1;refine⟨[(r.take 97).1],t1,avQ t2,?_,?_⟩
 .rcases((zd _).1 mJ).1 with ⟨_,h⟩ | ⟨h,_⟩
  .exact h
  .exact absurd t2 h
 .have:=P4 mJ
  rw[vo];simp only[SW,ae.word];omega
def FI(hk:k=1\/k=2):Sound (ae.leaf k) Nd.cY (λn=>n.kind=k/\n.lH=ab) SN:=by
 intro r hg hb;obtain⟨seg,e1,e2,e3,e4⟩:=xa r hg hb;refine⟨seg,e1,?_,⟨rfl,?_⟩,?_⟩
 .rw[e2];simp only[ae.leaf];rw[Nd.cY,aF hk]
 .simp only[ae.leaf,Nd.lH,Nd.au,Nd.an,Nd.ak];rw[e3];rfl
 .simp only[SW] at e4;simp only[ae.leaf,SN,Nd.wt,e_,fV,fe,tu];obtain⟨t1,t2⟩:=pQ (show(r.take 97).2.aM=aj from hb);have hl:=P4 (t1.kp hg).1;have h0:26<=jH seg:=by
   obtain⟨pre,post,q1,q2,q3⟩:=e1.ex
   rcases seg with _ | ⟨t,ts⟩
   .exfalso
    obtain⟨p,q,r1,r2,r3⟩:=t1.ex
    have:r.word.2.at_=(r.take 97).2.at_:=rfl
    simp only[bM,dQ,fI] at q3 r3;omega
   .simp only[jH,bp];omega
  have:r.word.1.au.length<=16:=hl
  omega
theorem axy(l:List aA):(l.map SW).sum=e_ l:=rfl
def aah(l:List Nd):(l.map SN).sum=fV l:=by rw[GF];rfl
def Pc{l:List aA}(h:∀w∈l,cV w.au=ab):jf l=true:=eM.2 h
variable{e:Bool}
def Ql(hg:fg r.l)(hb:(r.words e).2.aM=aj):
 ∃t,jh r (r.words e).2 [t]/\t.Good/\fC (bG [t])=[123]++fR (r.words e).1.1++[125]/\jf (r.words e).1.1=ab/\e_ (r.words e).1.1+26<=jH [t]:=by
 obtain⟨t,U,h2,h3,h4,h5,_⟩:=La (one:=ae.word) xa (k:=123) (e:=e) hg hb;have mJ:=(U.kp hg).1;refine⟨t,U,mJ,?_,Pc h4,?_⟩
 .rw[DN (by rw[h2];decide),h3,r8 mJ h2 (by decide),h2];rfl
 .rw[axy] at h5;rw[vo];have e:e_ (r.words e).1.1=e_ (r.bracket (cH ae.word) 123 e).1.1:=rfl;omega
def Jg{one:ae->Nd × ae}{Q:Nd->Prop}(hs:Sound one Nd.cY Q SN)(hk:k=40\/k=91)(hg:fg r.l)(hb:(r.nodes one k e).2.aM=aj):
 ∃t,jh r (r.nodes one k e).2 [t]/\t.Good/\fC (bG [t])=[UInt8.ofNat k.toNat]++bX (de (r.nodes one k e).1.1)++[UInt8.ofNat (closing k).toNat]/\(∀x∈(r.nodes one k e).1.1,Q x)/\fV (r.nodes one k e).1.1+26<=jH [t] /\
  (e=ar->0<(r.nodes one k e).1.1.length):=by
 obtain⟨t,U,h2,h3,h4,h5,h6⟩:=La hs (k:=k) (e:=e) hg hb;have mJ:=(U.kp hg).1;refine⟨t,U,mJ,?_,h4,?_,h6⟩
 .rw[DN (by rw[h2];rcases hk with rfl | rfl<;>decide),h3,r8 mJ h2 (by omega),h2,yz];rfl
 .rw[aah] at h5;rw[vo];have e:fV (r.nodes one k e).1.1=fV (r.bracket (cH one) k e).1.1:=rfl;omega
def at4:Sound ae.pJ Nd.cY (λn=>n.qD=ab) SN:=by
 intro r hg hb;have cC : ((r.word.2.take 58).2.words ab).2.aM=none:=hb;have l1:r.word.2.l=r.l:=r.fU 97;have l2:(r.word.2.take 58).2.l=r.l:=(ae.fU _ 58).trans l1;obtain⟨t,U,h2,h3,h4,h5⟩:=Ql (by rw[l2];exact hg) cC;obtain⟨c1,c2⟩:=pQ U.b;obtain⟨seg,e1,e2,e3,e4⟩:=xa r hg c1.b;have oH:=(c1.kp (by rw[l1];exact hg)).1;refine⟨seg++[(r.word.2.take 58).1]++[t],(e1.trans c1).trans U,?_,?_,?_⟩
 .rw[yy (by rw[c2];decide) (by rw[c2];rfl),e2,h3,r8 oH c2 (by decide)];simp only[ae.pJ];rw[Nd.cY];simp
 .simp only[ae.pJ,Nd.qD,Nd.kind,Nd.au,Nd.an,Nd.ak];rw[e3,h4];rfl
 .simp only[ae.pJ,SN,Nd.wt,fV,yu,vo];simp only[SW] at e4;simp only[vo] at h5;omega
def SA:∀n,Sound (ae.constant n) Nd.cY (λm=>m.jl=ab) SN
 | 0 => λr hg hb => by
  obtain⟨seg,e1,e2,⟨e3,e5⟩,e4⟩:=FI (.inr rfl) r hg hb;refine⟨seg,e1,e2,?_,e4⟩;exact XQ e3 e5
 | n + 1 => λr hg hb => by
  simp only[ae.constant] at hb ⊢;split
  .rename_i hs;rw[aF hs] at hb;obtain⟨t,U,h2,h3,h4,h5⟩:=Ql hg hb;refine⟨[t],U,?_,?_,?_⟩
   .rw[h3,Nd.cY];simp
   .exact asS h4
   .simp only[SN,Nd.wt,fV,dQ];omega
  .rename_i hs;rw[aB hs] at hb;split
   .rename_i hs;rw[aF hs] at hb;obtain⟨t,U,h2,h3,h4,h5,h6⟩:=Jg (SA n) (.inl rfl) hg hb;refine⟨[t],U,?_,?_,?_⟩
    .rw[h3,Nd.cY];simp only[show(closing 40).toNat=41 from rfl];rfl
    .exact asT h4 (h6 rfl)
    .simp only[SN,Nd.wt,e_,fe,tu,dQ];omega
   .rename_i hs;rw[aB hs] at hb;split
    .rename_i hs;rw[aF hs] at hb;obtain⟨t,U,h2,h3,h4,h5,h6⟩:=Jg at4 (.inr rfl) hg hb;refine⟨[t],U,?_,?_,?_⟩
     .rw[h3,Nd.cY];simp only[show(closing 91).toNat=93 from rfl];rfl
     .exact asQ h4
     .simp only[SN,Nd.wt,e_,fe,tu,dQ];omega
    .rename_i hs;rw[aB hs] at hb;obtain⟨seg,e1,e2,⟨e3,e5⟩,e4⟩:=FI (.inr rfl) r hg hb;refine⟨seg,e1,e2,?_,e4⟩;exact XQ e3 e5
def RF(n:Nat):Sound (ae.atom n) Nd.cY (λm=>m.pY=ab) SN:=by
 intro r hg hb;simp only[ae.atom] at hb ⊢;split
 .rename_i hs;rw[aF hs] at hb;have l1:(r.take 35).2.l=r.l:=r.fU 35;obtain⟨seg,e1,e2,e3,e4⟩:=SA n (r.take 35).2 (by rw[l1];exact hg) hb;obtain⟨c1,c2⟩:=pQ e1.b;have oH:=(c1.kp hg).1;refine⟨[(r.take 35).1]++seg,c1.trans e1,?_,?_,?_⟩
  .have:=yy (t:=(r.take 35).1) (by rw[c2];decide) (by rw[c2];rfl) [] seg
   rw[gQ] at this;rw[this,r8 oH c2 (by decide),e2,Nd.cY];simp[bG,fC,jI,de,l9]
  .simp only[Nd.pY,asP e3,Nd.kind];rfl
  .simp only[SN,Nd.wt,e_,fV,fe,tu,dQ,yu,vo] at e4 ⊢;omega
 .rename_i hs;rw[aB hs] at hb;obtain⟨seg,e1,e2,⟨e3,e5⟩,e4⟩:=FI (.inl rfl) r hg hb;refine⟨seg,e1,e2,?_,e4⟩;simp only[Nd.pY,O1 e3 e5,e3];rfl
def Eh{n:Nd}(h:n.pY=ab):n.eP=true:=by simp only[Nd.pY,bg] at h;exact h.2
def IW:∀n,Sound (ae.label n) Nd.cY (λm=>m.eP=ab) SN
 | 0 => λr hg hb => by
  obtain⟨seg,e1,e2,⟨e3,e5⟩,e4⟩:=FI (.inl rfl) r hg hb;refine⟨seg,e1,e2,?_,e4⟩;exact O1 e3 e5
 | n + 1 => λr hg hb => by
  simp only[ae.label] at hb ⊢;split
  .rename_i hs;rw[aF hs] at hb;have l1:(r.take 43).2.l=r.l:=r.fU 43;obtain⟨t,U,h2,h3,h4,h5,h6⟩:=Jg (IW n) (.inl rfl) (by rw[l1];exact hg) hb;obtain⟨c1,c2⟩:=pQ U.b;have oH:=(c1.kp hg).1;refine⟨[(r.take 43).1]++[t],c1.trans U,?_,?_,?_⟩
   .have:=yy (t:=(r.take 43).1) (by rw[c2];decide) (by rw[c2];rfl) [] [t]
    rw[gQ] at this;rw[this,r8 oH c2 (by decide),h3,Nd.cY];simp only[show(closing 40).toNat=41 from rfl];rfl
   .exact XP (.inl rfl) h4 (h6 rfl)
   .simp only[SN,Nd.wt,e_,fe,tu,dQ,yu,vo] at h5 ⊢;omega
  .rename_i hs;rw[aB hs] at hb;split
   .rename_i hs;rw[aF hs] at hb;have l1:(r.take 38).2.l=r.l:=r.fU 38;obtain⟨t,U,h2,h3,h4,h5,h6⟩:=Jg (IW n) (.inl rfl) (by rw[l1];exact hg) hb;obtain⟨c1,c2⟩:=pQ U.b;have oH:=(c1.kp hg).1;refine⟨[(r.take 38).1]++[t],c1.trans U,?_,?_,?_⟩
    .have:=yy (t:=(r.take 38).1) (by rw[c2];decide) (by rw[c2];rfl) [] [t]
     rw[gQ] at this;rw[this,r8 oH c2 (by decide),h3,Nd.cY];simp only[show(closing 40).toNat=41 from rfl];rfl
    .exact XP (.inr rfl) h4 (h6 rfl)
    .simp only[SN,Nd.wt,e_,fe,tu,dQ,yu,vo] at h5 ⊢;omega
   .rename_i hs;rw[aB hs] at hb;obtain⟨seg,e1,e2,e3,e4⟩:=RF (n+1) r hg hb;exact⟨seg,e1,e2,Eh e3,e4⟩
def agG(n:Nat):Sound (ae.field n) Nd.cY (λm=>m.mG=ab) SN:=by
 intro r hg hb;have cC : ((r.word.2.take 61).2.atom n).2.aM=none:=hb;have l1:r.word.2.l=r.l:=r.fU 97;have l2:(r.word.2.take 61).2.l=r.l:=(ae.fU _ 61).trans l1;obtain⟨sg,U,h2,h3,h4⟩:=RF n (r.word.2.take 61).2 (by rw[l2];exact hg) cC;obtain⟨c1,c2⟩:=pQ U.b;obtain⟨seg,e1,e2,e3,e4⟩:=xa r hg c1.b;have oH:=(c1.kp (by rw[l1];exact hg)).1;refine⟨seg++[(r.word.2.take 61).1]++sg,(e1.trans c1).trans U,?_,?_,?_⟩
 .rw[yy (by rw[c2];decide) (by rw[c2];rfl),e2,h2,r8 oH c2 (by decide)];simp only[ae.field];rw[Nd.cY];simp[de,l9]
 .simp only[ae.field,Nd.mG,Nd.kind,Nd.au,Nd.an,Nd.ak,wh];rw[e3,h3];rfl
 .simp only[ae.field,SN,Nd.wt,fV,e_,fe,tu,yu,vo] at h4 ⊢;simp only[SW] at e4;omega
def asR(U:ws.length<=1)(h2:jf ws=ab)(h3:∀x∈ks,x.mG=ab):(Nd.mk 10 p [] ws ks).jF=true:=by
 unfold Nd.jF;simp[Nd.kind,Nd.au,Nd.an,Nd.ak,h2];exact⟨aK (by omega),h3⟩
def Vq(t:aC):jh t.inner t.inner []:=⟨⟨[],t.ak,rfl,rfl,rfl⟩,rfl,rfl,rfl⟩
def Th{n:Nat}{t:aC}(hg:fg t.ak){a:ae × List Nd}(ha:a=if t.inner.b_ 124=ab then(t.inner,[]) else eJ (cH (ae.field n)) t.inner)(hb:a.1.aM=aj):
 ∃seg,jh t.inner a.1 seg/\fC (bG seg)=bX (de a.2)/\(∀x∈a.2,x.mG=ab)/\fV a.2<=jH seg:=by
 split at ha
 .subst ha;exact⟨[],Vq t,rfl,by simp,by simp[fV]⟩
 .subst ha;obtain⟨seg,e1,e2⟩:=Zo (agG n) (r:=t.inner) hg hb;refine⟨seg,e1,?_,e2.q,?_⟩
  .rw[e2.t,yz]
  .have:=e2.s;rwa [aah] at this
def atI{n:Nat}{t:aC}(hg:fg t.ak)(hb:(ae.rowOf n t).1.1.aM=aj):
 ∃seg,jh t.inner (ae.rowOf n t).1.1 seg/\fC (bG seg)=bX (de (ae.rowOf n t).1.2)++(if 0<(ae.rowOf n t).2.length then [124]++fR (ae.rowOf n t).2 else []) /\
  (∀x∈(ae.rowOf n t).1.2,x.mG=ab)/\(ae.rowOf n t).2.length<=1/\jf (ae.rowOf n t).2=ab/\fV (ae.rowOf n t).1.2+e_ (ae.rowOf n t).2<=jH seg:=by
 unfold ae.rowOf at hb ⊢;split
 .exact⟨[],Vq t,rfl,by simp,by simp,rfl,by simp[fV,e_]⟩
 rename_i a9;rw[aB a9] at hb;unfold ae.pe at hb ⊢;simp only at hb ⊢;generalize ha:(if t.inner.b_ 124=ab then(t.inner,[]) else eJ (cH (ae.field n)) t.inner)=a at hb ⊢;split
 .rename_i hs;rw[aF hs] at hb;have hba:a.1.aM=none:=by
   simp only[ae.b_,ae.ok,bg,si] at hs;exact hs.1
  obtain⟨seg,e1,e2,e3,e4⟩:=Th hg ha.symm hba;have l1:a.1.l=t.inner.l:=e1.l;have l2:(a.1.take 124).2.l=t.inner.l:=(ae.fU _ 124).trans l1;obtain⟨sw,w1,w2,w3,w4⟩:=xa (a.1.take 124).2 (by rw[l2];exact hg) hb;obtain⟨c1,c2⟩:=pQ w1.b;have oH:=(c1.kp (by rw[l1];exact hg)).1;refine⟨seg++[(a.1.take 124).1]++sw,(e1.trans c1).trans w1,?_,e3,by simp,?_,?_⟩
  .rw[yy (by rw[c2];decide) (by rw[c2];rfl),e2,r8 oH c2 (by decide),w2];simp[fR,bX]
  .simp only[jf,vB,QK,rC];exact w3
  .simp only[yu,vo,e_,cz,fe,py,tu];simp only[SW] at w4;omega
 .rename_i hs;rw[aB hs] at hb;obtain⟨seg,e1,e2,e3,e4⟩:=Th hg ha.symm hb;exact⟨seg,e1,by simpa using e2,e3,by simp,rfl,by simpa [e_] using e4⟩
def Yi(n:Nat):Sound (ae.row n) Nd.cY (λm=>m.jF=ab) SN:=by
 intro r hg hb;simp only[ae.row] at hb ⊢;split
 .rename_i hs;rw[aF hs] at hb;have ek:(r.take 91).2.aM=none:=by
   rcases r.vp 91 with ⟨_,_,h,_⟩ | ⟨h,_⟩
   .exact h
   .rw[hs] at h;simp at h
  obtain⟨c1,c2⟩:=pQ ek;have oH:=(c1.kp hg).1;have xQ:fg (r.take 91).1.ak:=((zd _).1 oH).2.2;have dx:(ae.rowOf n (r.take 91).1).1.1.close.aM=none:=hb;obtain⟨seg,e1,e2,e3,e4,e5,e6⟩:=atI (n:=n) xQ (Lh dx).1;have Ni:=Ro e1 dx;subst Ni;refine⟨[(r.take 91).1],⟨c1.ex,c1.l,c1.b,hb⟩,?_,asR e4 e5 e3,?_⟩
  .rw[DN (by rw[c2];decide),r8 oH c2 (by decide),c2,e2,Nd.cY];simp only[show(closing 91).toNat=93 from rfl];simp
  .simp only[SN,Nd.wt,vo,dQ];omega
 .rename_i hs;rw[aB hs] at hb;obtain⟨seg,e1,e2,⟨e3,e5⟩,e4⟩:=FI (.inl rfl) r hg hb;refine⟨seg,e1,e2,?_,e4⟩
  have:=O1 e3 e5
  show(r.leaf 1).1.jF=ab;unfold Nd.jF;rw[e3,this];rfl
abbrev Sh:=Int × List UInt8
def Tok.sh(t:Tok):Sh:=(t.kind,t.au)
def bS(c:UInt8):Sh:=((c.toNat:Nat),[c])
def gg(t:List UInt8):Sh:=(97,t)
def fj:List (List Sh)->List Sh
 | []=>[]
 | x::xs=>x++xs.flatMap λy=>bS 44::y
def Ih:List (List Sh)->List Sh
 | []=>[]
 | x::_=>x
def mm(ws:List aA):List Sh:=fj (ws.map λw=>[gg w.au])
mutual
def Nd.ig:Nd->List Sh
 | .mk k _ t ws ks =>
  if k=1\/k=2 then [gg t]
  else if k=3 then [bS 123]++mm ws++[bS 125]
  else if k=4 then [bS 40]++fj (ij ks)++[bS 41]
  else if k=5 then [bS 91]++fj (ij ks)++[bS 93]
  else if k=6 then [gg t]++[bS 58]++([bS 123]++mm ws++[bS 125])
  else if k=7 then [bS 35]++Ih (ij ks)
  else if k=8 then [bS 43]++([bS 40]++fj (ij ks)++[bS 41])
  else if k=9 then [bS 38]++([bS 40]++fj (ij ks)++[bS 41])
  else if k=10 then [bS 91]++(fj (ij ks)++(if 0<ws.length then [bS 124]++mm ws else []))++[bS 93]
  else if k=11 then [gg t]++[bS 61]++Ih (ij ks)
  else []
def ij:List Nd->List (List Sh)
 | []=>[]
 | n::ns=>n.ig::ij ns
end
def Gg:∀l,ij l=l.map Nd.ig
 | []=>rfl
 | n::ns=>by simp[ij,Gg ns]
def nq(s:List UInt8)(ks:List Sh):Prop:=∀(n p:Nat) (acc:List Tok),s.length<=n->∃toks,fG n p s acc=(acc++toks,aj)/\toks.map Tok.sh=ks
def Stop:List UInt8->Prop
 | []=>True
 | c::_=>fA c=ar
def lex_nil:nq [] []:=λn p acc _=>⟨[],by cases n<;>simp[fG],rfl⟩
variable{s:List UInt8}
def JI{c:UInt8}(h:fA c=ar):fP (c::s)=[]:=by simp[fP,h]
def V4{c:UInt8}(U:nW (c.toNat:Nat)=ab)(h2:fA c=ar)(h3:c.toNat≠45){ks:List Sh}(h:nq s ks):nq ([c]++s) ([bS c]++ks):=by
 intro n p acc hn
 rcases n with _ | n
 .simp at hn
 obtain⟨toks,e1,e2⟩:=h n (p+1) (acc++[⟨(c.toNat:Nat),[c],p⟩]) (by simpa using hn);refine⟨⟨(c.toNat:Nat),[c],p⟩::toks,?_,by simp[Tok.sh,bS,e2]⟩;rw[mr,fG];rw[aB (λh=>h3 h.1),JI h2,aB (by simp),aF U,e1];simp
def ZB{O:Type}{f:O->Bool}:∀{t s:List O},t.all f=ab->(∀c r,s=c::r->f c=ar)->(t++s).takeWhile f=t
 | [], s, _, h => by
  cases s with
  | nil=>rfl
  | cons c r=>simp[h c r rfl]
 | x :: t, s, ht, h => by
  simp only[vB,bg] at ht;simp[ht.1,ZB ht.2 h]
variable{t:List UInt8}
def apw(h:cV t=ab):t.all fA=ab/\(∃c r,t=c::r/\sU c=ab):=by
 unfold cV at h
 rcases t with _ | ⟨c,r⟩
 .simp at h
 .simp only[bg] at h;refine⟨?_,c,r,rfl,h.2.1⟩;simp only[vB,bg];refine⟨?_,h.2.2⟩
  have:=h.2.1
  simp only[sU,fA,sV,uI] at this ⊢
  simp_all
def V2(ht:cV t=ab){ks:List Sh}(hs:Stop s)(h:nq s ks):nq (t++s) ([gg t]++ks):=by
 intro n p acc hn;obtain⟨dq,c,r,rfl,hc⟩:=apw ht
 rcases n with _ | n
 .simp at hn
 have dk:fP (c::r++s)=c::r:=ZB dq λc' r' e=>by subst e;exact hs
 obtain⟨toks,e1,e2⟩:=h n (p+(c::r).length) (acc++[⟨97,c::r,p⟩]) (by simp at hn ⊢;omega);refine⟨⟨97,c::r,p⟩::toks,?_,by simp[Tok.sh,gg,e2]⟩;have H0:c.toNat≠45:=λe=>by
  simp only[sU,sV,e] at hc;revert hc;decide
 rw[il] at dk ⊢;rw[fG,aB (λh=>H0 h.1),dk,aF ⟨by simp,ht⟩];rw[show(c::(r++s)).drop (c::r).length=s by rw[<-il,List.drop_left],e1];simp
def kG(tx:List UInt8)(sh:List Sh):Prop:=∀s ks,Stop s->nq s ks->nq (tx++s) (sh++ks)
def sc(tx:List UInt8)(sh:List Sh):Prop:=∀s ks,nq s ks->nq (tx++s) (sh++ks)
def sc.n{k:List Sh}(h:sc t k):kG t k:=λs ks _ hl=>h s ks hl
def wM(c:UInt8)(h:(nW (c.toNat:Nat)&&!fA c&&decide (c.toNat≠45))=ab):sc [c] [bS c]:=λ_ _ hl=>by
 simp only[bg,tm,bQ] at h;exact V4 h.1.1 h.1.2 h.2 hl
def yc(h:cV t=ab):kG t [gg t]:=λ_ _ hs hl=>V2 h hs hl
def sc.app{a b:List UInt8}{x y:List Sh}(h:sc a x)(k:sc b y):sc (a++b) (x++y):=λs ks hl=>by
 rw[eN,eN];exact h _ _ (k _ _ hl)
def kG.sign{a:List UInt8}{c:UInt8}{x:List Sh}(h:kG a x)(hc:(nW (c.toNat:Nat)&&!fA c&&decide (c.toNat≠45))=ab):sc (a++[c]) (x++[bS c]):=λs ks hl=>by
 rw[eN,eN]
 have:=hc
 simp only[bg,tm,bQ] at this;exact h _ _ this.1.2 (wM c hc _ _ hl)
def sc.nn{a b:List UInt8}{x y:List Sh}(h:sc a x)(k:kG b y):kG (a++b) (x++y):=λs ks hs hl=>by
 rw[eN,eN];exact h _ _ (k _ _ hs hl)
def V6{G:Type}{T:G->List UInt8}{S:G->List Sh}:∀{l:List G},(∀x∈l,kG (T x) (S x))->∀s ks,Stop s->nq s ks->Stop ((l.map T).flatMap (λy=>44::y)++s)/\nq ((l.map T).flatMap (λy=>44::y)++s) ((l.map S).flatMap (λy=>bS 44::y)++ks)
 | [],_,s,ks,hs,hl=>⟨hs,hl⟩
 | x :: xs, h, s, ks, hs, hl => by
  obtain⟨U,h2⟩:=V6 (l:=xs) (λy hy=>h y (by simp[hy])) s ks hs hl;simp only[cz,qI,eN,il];refine⟨rfl,?_⟩;exact wM 44 (by decide) _ _ (h x (by simp) _ _ U h2)
def I7{T:G->List UInt8}{S:G->List Sh}{l:List G}(h:∀x∈l,kG (T x) (S x)):kG (bX (l.map T)) (fj (l.map S)):=by
 intro s ks hs hl;cases l with
 | nil=>exact hl
 | cons x xs =>
  obtain⟨U,h2⟩:=V6 (l:=xs) (λy hy=>h y (by simp[hy])) s ks hs hl;simp only[cz,bX,fj,eN];exact h x (by simp) _ _ U h2
def N9(h:jf ws=ab):kG (fR ws) (mm ws):=I7 (T:=aA.au) (S:=λw=>[gg w.au]) λw hw=>yc (eM.1 h w hw)
def N8(h:jf ws=ab):sc ([123]++fR ws++[125]) ([bS 123]++mm ws++[bS 125]):=kG.sign ((wM 123 (by decide)).nn (N9 h)) (by decide)
variable{b:UInt8}
def N7{a:UInt8}(ha:(nW (a.toNat:Nat)&&!fA a&&decide (a.toNat≠45))=ab)(hb:(nW (b.toNat:Nat)&&!fA b&&decide (b.toNat≠45))=ab)(h:∀n∈ks,kG n.cY n.ig):
 sc ([a]++bX (de ks)++[b]) ([bS a]++fj (ij ks)++[bS b]):=by
 rw[yz,Gg];exact kG.sign ((wM a ha).nn (I7 h)) hb
def Nd.vq(n:Nd):n.cY=if n.kind=1\/n.kind=2 then n.au else if n.kind=3 then [123]++fR n.an++[125] else if n.kind=4 then [40]++bX (de n.ak)++[41] else if n.kind=5 then [91]++bX (de n.ak)++[93]
 else if n.kind=6 then n.au++[58,123]++fR n.an++[125] else if n.kind=7 then [35]++l9 (de n.ak) else if n.kind=8 then [43,40]++bX (de n.ak)++[41] else if n.kind=9 then [38,40]++bX (de n.ak)++[41]
 else if n.kind=10 then([91]++bX (de n.ak))++(if 0<n.an.length then [124]++fR n.an else [])++[93] else if n.kind=11 then n.au++[61]++l9 (de n.ak) else []:=by cases n;rw[Nd.cY];rfl
def Nd.lk(n:Nd):n.ig=if n.kind=1\/n.kind=2 then [gg n.au] else if n.kind=3 then [bS 123]++mm n.an++[bS 125] else if n.kind=4 then [bS 40]++fj (ij n.ak)++[bS 41] else if n.kind=5 then [bS 91]++fj (ij n.ak)++[bS 93]
 else if n.kind=6 then [gg n.au]++[bS 58]++([bS 123]++mm n.an++[bS 125]) else if n.kind=7 then [bS 35]++Ih (ij n.ak) else if n.kind=8 then [bS 43]++([bS 40]++fj (ij n.ak)++[bS 41]) else if n.kind=9 then [bS 38]++([bS 40]++fj (ij n.ak)++[bS 41])
 else if n.kind=10 then [bS 91]++(fj (ij n.ak)++(if 0<n.an.length then [bS 124]++mm n.an else []))++[bS 93] else if n.kind=11 then [gg n.au]++[bS 61]++Ih (ij n.ak) else []:=by cases n;rw[Nd.ig];rfl
def IT{n m:Nd}(hm:m∈n.ak):m.wt+5<=n.wt:=by
 have U:=DX hm;have h2:fV n.ak+4<=n.wt:=by cases n;simp only[Nd.wt,Nd.ak];omega
 omega
def Lx(n:Nd):Prop:=kG n.cY n.ig
def Wr{n:Nd}(hk:n.kind=1\/n.kind=2)(h:n.lH=ab):Lx n:=by
 unfold Lx;rw[Nd.vq,Nd.lk,aF hk,aF hk];simp only[Nd.lH,bg] at h;exact yc h.1
def Yt{n:Nd}(h:n.qD=ab):n.kind=6/\cV n.au=ab/\jf n.an=ab/\n.ak=[]:=by
 simp only[Nd.qD,bg,bQ] at h;exact⟨h.1.1.1,h.1.1.2,h.1.2,kn.1 (by omega)⟩
def apd{n:Nd}(h:n.qD=ab):Lx n:=by
 obtain⟨k,U,h2,_⟩:=Yt h;unfold Lx;rw[Nd.vq,Nd.lk];simp only[k,show ¬((6:Int)=1\/(6:Int)=2) by omega,show ¬(6:Int)=3 by omega,show ¬(6:Int)=4 by omega,show ¬(6:Int)=5 by omega,cF,cM];have e:n.au++[58,123]++fR n.an++[125]=(n.au++[58])++([123]++fR n.an++[125]):=by simp
 rw[e];exact(((yc U).sign (by decide)).app (N8 h2)).n
def Sz{n:Nd}(h:n.jl=ab):(n.kind=2/\n.lH=ab)\/(n.kind=3/\n.au=[]/\jf n.an=ab/\n.ak=[])\/(n.kind=4/\n.au=[]/\n.an=[]/\n.ak≠[]/\∀x∈n.ak,x.jl=ab)\/(n.kind=5/\n.au=[]/\n.an=[]/\∀x∈n.ak,x.qD=ab):=by
 rw[Nd.A5] at h;split at h
 .rename_i k;exact .inl ⟨k,h⟩
 split at h
 .rename_i k;simp only[bg,bQ] at h;exact .inr (.inl ⟨k,h.1.1,h.1.2,kn.1 (by omega)⟩)
 split at h
 .rename_i k;simp only[Nd.lX,bg,bQ] at h;exact .inr (.inr (.inl ⟨k,h.1.1.1,kn.1 (by omega),λe=>by rw[e] at h;simp at h,eM.1 h.2⟩))
 split at h
 .rename_i k;simp only[Nd.lX,bg,bQ] at h;exact .inr (.inr (.inr ⟨k,h.1.1,kn.1 (by omega),eM.1 h.2⟩))
 .simp at h
def apa:∀(k:Nat) (n:Nd),n.wt<=k->n.jl=ab->Lx n:=by
 intro k;induction k with
 | zero=>intro n h _;cases n;simp only[Nd.wt] at h;omega
 | succ k ih =>
  intro n hk h
  rcases Sz h with ⟨U,h2⟩ | ⟨U,_,h2,_⟩ | ⟨U,_,_,_,h2⟩ | ⟨U,_,_,h2⟩
  .exact Wr (.inr U) h2
  .unfold Lx;rw[Nd.vq,Nd.lk,U];exact(N8 h2).n
  .unfold Lx;rw[Nd.vq,Nd.lk,U];exact(N7 (by decide) (by decide) λm hm=>ih m (by have:=IT hm;omega) (h2 m hm)).n
  .unfold Lx;rw[Nd.vq,Nd.lk,U];exact(N7 (by decide) (by decide) λm hm=>apd (h2 m hm)).n
def FH{n:Nd}(h:n.eP=ab):(n.kind=1/\n.lH=ab)\/(n.kind=7/\n.au=[]/\n.an=[]/\∃c,n.ak=[c]/\c.jl=ab)\/((n.kind=8\/n.kind=9)/\n.au=[]/\n.an=[]/\n.ak≠[]/\∀x∈n.ak,x.eP=ab):=by
 rw[Nd.sR] at h;split at h
 .rename_i k;exact .inl ⟨k,h⟩
 split at h
 .rename_i k;simp only[Nd.lX,bg,bQ] at h;refine .inr (.inl ⟨k,h.1.1.1,kn.1 (by omega),?_⟩)
  match hq:n.ak,h.1.2 with
  | [c],_=>exact⟨c,rfl,by have:=h.2;rw[hq] at this;exact this⟩
  | [],e=>simp at e
  | _::_::_,e=>simp at e;omega
 split at h
 .rename_i k;simp only[Nd.lX,bg,bQ] at h;exact .inr (.inr ⟨k,h.1.1.1,kn.1 (by omega),λe=>by rw[e] at h;simp at h,eM.1 h.2⟩)
 .simp at h
def Oj:∀(k:Nat) (n:Nd),n.wt<=k->n.eP=ab->Lx n:=by
 intro k;induction k with
 | zero=>intro n h _;cases n;simp only[Nd.wt] at h;omega
 | succ k ih =>
  intro n hk h
  rcases FH h with ⟨U,h2⟩ | ⟨U,_,_,c,h2,h3⟩ | ⟨U,_,_,_,h2⟩
  .exact Wr (.inl U) h2
  .unfold Lx;rw[Nd.vq,Nd.lk,U,h2];exact(wM 35 (by decide)).nn (apa _ c (bY _) h3)
  .have eX:=N7 (a:=40) (b:=41) (by decide) (by decide) λm hm=>ih m (by have:=IT hm;omega) (h2 m hm)
   unfold Lx;rw[Nd.vq,Nd.lk]
   rcases U with U | U
   .rw[U];exact((wM 43 (by decide)).app eX).n
   .rw[U];exact((wM 38 (by decide)).app eX).n
def EA{n:Nd}(h:n.mG=ab):n.kind=11/\cV n.au=ab/\n.an=[]/\∃c,n.ak=[c]/\c.pY=true:=by
 simp only[Nd.mG,bg,bQ] at h;refine⟨h.1.1.1.1,h.1.1.1.2,kn.1 (by omega),?_⟩
 match hq:n.ak,h.1.2 with
 | [c],_=>exact⟨c,rfl,by have:=h.2;rw[hq] at this;exact this⟩
 | [],e=>simp at e
 | _::_::_,e=>simp at e;omega
def apb{n:Nd}(h:n.mG=ab):Lx n:=by
 obtain⟨k,U,_,c,h2,h3⟩:=EA h;unfold Lx;rw[Nd.vq,Nd.lk,k,h2];exact((yc U).sign (by decide)).nn (Oj _ c (bY _) (Eh h3))
def DF{n:Nd}(h:n.jF=ab):(n.kind=10/\n.au=[]/\(n.an=[]\/∃w,n.an=[w]/\cV w.au=ab)/\∀x∈n.ak,x.mG=ab)\/(n.kind=1/\n.eP=ab):=by
 unfold Nd.jF at h;split at h
 .rename_i k;simp only[bg,bQ] at h;refine .inl ⟨k,h.1.1.1,?_,eM.1 h.2⟩
  match hq:n.an,h.1.1.2 with
  | [],_=>exact .inl rfl
  | [w],_=>exact .inr ⟨w,rfl,by have:=h.1.2;rw[hq] at this;simpa [jf] using this⟩
  | _::_::_,e=>simp at e;omega
 .simp only[bg,bQ] at h;exact .inr h
def apc{n:Nd}(h:n.jF=ab):Lx n:=by
 rcases DF h with ⟨k,_,hn,hf⟩ | ⟨_,h⟩
 .have hk:kG (bX (de n.ak)) (fj (ij n.ak)):=by rw[yz,Gg];exact I7 λm hm=>apb (hf m hm)
  unfold Lx;rw[Nd.vq,Nd.lk,k]
  rcases hn with hn | ⟨w,hn,hw⟩
  .rw[hn];have e1:([91]:List UInt8)++bX (de n.ak)++[]=[91]++bX (de n.ak):=by simp
   have e2:[bS 91]++(fj (ij n.ak)++[])++[bS 93]=[bS 91]++fj (ij n.ak)++[bS 93]:=by simp
   show kG (([91]++bX (de n.ak))++[]++[93]) ([bS 91]++(fj (ij n.ak)++[])++[bS 93]);rw[e1,e2];exact(((wM 91 (by decide)).nn hk).sign (by decide)).n
  .rw[hn];have e1:(([91]:List UInt8)++bX (de n.ak))++([124]++fR [w])++[93]=(([91]++bX (de n.ak))++[124])++(fR [w]++[93]):=by simp
   have e2:[bS 91]++(fj (ij n.ak)++([bS 124]++mm [w]))++[bS 93]=(([bS 91]++fj (ij n.ak))++[bS 124])++(mm [w]++[bS 93]):=by simp
   show kG (([91]++bX (de n.ak))++([124]++fR [w])++[93]) ([bS 91]++(fj (ij n.ak)++([bS 124]++mm [w]))++[bS 93]);rw[e1,e2];exact((((wM 91 (by decide)).nn hk).sign (by decide)).app ((N9 (by simp[jf,hw])).sign (by decide))).n
 .exact Oj _ n (bY _) h
mutual
def aC.WF:aC->Prop
 | .mk t ks e=>l7 t.kind=ar/\(closing t.kind=0->ks=[]/\e=t.pos)/\fK ks
def fK:List aC->Prop
 | []=>True
 | t::ts=>t.WF/\fK ts
end
def kK:∀{a b:List aC},fK (a++b)↔fK a/\fK b
 | [],b=>by simp[fK]
 | t::ts,b=>by simp only[il,fK,kK (a:=ts),KY]
def BH{a r:List Tok}{t:Tok}:fw (a++t::r) a.length=t.kind:=by simp[fw]
def ZJ{a r:List Tok}{t:Tok}:jW (a++t::r) a.length=t:=by simp[jW]
def XA{a r:List Tok}{t:Tok}:rY (a++t::r) a.length=t.pos:=by simp[rY]
def Sa{c:Int}(h:closing c≠0):l7 (closing c)=ab/\closing (closing c)=0:=by
 have:c=40\/c=123\/c=91:=by
  unfold closing at h;split at h
  .rename_i k;exact .inl k
  .split at h
   .rename_i k;exact .inr k
   .exact absurd rfl h
 rcases this with rfl | rfl | rfl<;>decide
theorem Tr(t:aC)(ts:List aC):bG (t::ts)=t.flat++bG ts:=rfl
def Hj{l:List Tok}{x:Nat}:∀(k:Nat) (us:List aC) (a b:List Tok) (n:Nat) (d:Int),bp us<=k->fK us->l=a++bG us++b->1<=d->kf l x (n+(bG us).length) a.length d=kf l x n (a++bG us).length d
 | _,[],a,b,n,d,_,_,_,_=>by simp[bG]
 | 0,t::ts,a,b,n,d,h,_,_,_=>by simp[bp] at h
 | k + 1, .mk t ks e :: ts, a, b, n, d, h, hw, hl, hd => by
  simp only[bp,aC.many] at h;obtain⟨⟨w1,w2,w3⟩,w4⟩:=hw;rw[Tr] at hl ⊢
  by_cases hc:closing t.kind=0
  .have ef:(aC.mk t ks e).flat=[t]:=by simp[aC.flat,hc]
   rw[ef] at hl ⊢;have hk:fw l a.length=t.kind:=by rw[hl];simp only[eN,il];exact BH
   have Ib:delta l a.length=0:=by unfold delta;rw[hk,hc,w1];simp
   rw[show n+([t]++bG ts).length=(n+(bG ts).length)+1 by simp;omega,vd,Ib,aB (by omega),Int.add_zero]
   have:=Hj (l:=l) (x:=x) k ts (a++[t]) b n d (by omega) w4 (by rw[hl];simp) hd
   rw[show(a++[t]).length=a.length+1 by simp] at this;rw[this];simp
  .have ef:(aC.mk t ks e).flat=t::(bG ks++[⟨closing t.kind,[UInt8.ofNat (closing t.kind).toNat],e⟩]):=by simp[aC.flat,hc]
   generalize gI:(⟨closing t.kind,[UInt8.ofNat (closing t.kind).toNat],e⟩:Tok)=c at ef;have EY:c.kind=closing t.kind:=by rw[<-gI]
   obtain⟨c1,c2⟩:=Sa hc;rw[ef] at hl ⊢;have hk:fw l a.length=t.kind:=by rw[hl];simp only[eN,il];exact BH
   have MF:delta l a.length=1:=Ev (by rw[hk];exact hc);have qV:fw l (a++[t]++bG ks).length=c.kind:=by
    rw[hl]
    have:a++(t::(bG ks++[c])++bG ts)++b=(a++[t]++bG ks)++c::(bG ts++b):=by simp
    rw[this];exact BH
   have MG:delta l (a++[t]++bG ks).length = -1:=by unfold delta;rw[qV,EY,c2,c1];simp
   rw[show n+(t::(bG ks++[c])++bG ts).length=((n+(bG ts).length+1)+(bG ks).length)+1 by simp;omega,vd,MF,aB (by omega)];have U:=Hj (l:=l) (x:=x) k ks (a++[t]) ([c]++bG ts++b) (n+(bG ts).length+1) (d+1) (by omega) w3 (by rw[hl];simp) (by omega);rw[show(a++[t]).length=a.length+1 by simp] at U;rw[U,vd,MG,aB (by omega),show d+1 + -1=d by omega];have h2:=Hj (l:=l) (x:=x) k ts (a++[t]++bG ks++[c]) b n d (by omega) w4 (by rw[hl];simp) hd;rw[show(a++[t]++bG ks++[c]).length=(a++[t]++bG ks).length+1 by simp;omega] at h2;rw[h2];simp
def arM{l:List Tok}{t c:Tok}{ks:List aC}{a b:List Tok}(hl:l=a++[t]++bG ks++c::b)(hw:fK ks)(hc:closing t.kind≠0)(EY:c.kind=closing t.kind):partner l a.length=(a++[t]++bG ks).length:=by
 obtain⟨c1,c2⟩:=Sa hc;have hk:fw l a.length=t.kind:=by rw[hl];simp only[eN,mr];exact BH
 have MF:delta l a.length=1:=Ev (by rw[hk];exact hc);have qV:fw l (a++[t]++bG ks).length=c.kind:=by rw[hl];exact BH
 have MG:delta l (a++[t]++bG ks).length = -1:=by unfold delta;rw[qV,EY,c2,c1];simp
 unfold partner;rw[show l.length - a.length=((b.length+1)+(bG ks).length)+1 by rw[hl];simp;omega,vd,MF,aB (by omega)];have U:=Hj (l:=l) (x:=a.length) _ ks (a++[t]) (c::b) (b.length+1) (0+1) (bY _) hw hl (by omega);rw[show(a++[t]).length=a.length+1 by simp] at U;rw[U,vd,MG,aF (by omega)]
def JZ{l:List Tok}:∀(k:Nat) (us:List aC) (a b:List Tok) (n:Nat),bp us<=k->fK us->l=a++bG us++b->(bG us).length<=n->pR l n a.length (a.length+(bG us).length)=us
 | _,[],a,b,n,_,_,_,_=>by cases n<;>simp[bG,pR]
 | 0,t::ts,a,b,n,h,_,_,_=>by simp[bp] at h
 | k + 1, .mk t ks e :: ts, a, b, n, h, hw, hl, hn => by
  simp only[bp,aC.many] at h;obtain⟨⟨w1,w2,w3⟩,w4⟩:=hw;rw[Tr] at hl hn ⊢
  by_cases hc:closing t.kind=0
  .have ef:(aC.mk t ks e).flat=[t]:=by simp[aC.flat,hc]
   obtain⟨w5,w6⟩:=w2 hc;rw[ef] at hl hn ⊢;have fS : l=a++t::(bG ts++b):=by rw[hl];simp
   have hk:fw l a.length=t.kind:=by rw[fS];exact BH
   have ht:jW l a.length=t:=by rw[fS];exact ZJ
   have hp:rY l a.length=t.pos:=by rw[fS];exact XA
   simp only[bM,fI] at hn ⊢;obtain⟨m,rfl⟩:∃m,n=m+1:=⟨n - 1,by omega⟩;rw[pR,aF (by omega),aB (by rw[hk];simpa using hc),ht,hp]
   have:=JZ (l:=l) k ts (a++[t]) b m (by omega) w4 (by rw[hl];simp) (by omega)
   rw[show(a++[t]).length=a.length+1 by simp,show a.length+1+(bG ts).length=a.length+(1+(bG ts).length) by omega] at this;rw[this,w5,w6]
  .have ef:(aC.mk t ks e).flat=t::(bG ks++[⟨closing t.kind,[UInt8.ofNat (closing t.kind).toNat],e⟩]):=by simp[aC.flat,hc]
   generalize gI:(⟨closing t.kind,[UInt8.ofNat (closing t.kind).toNat],e⟩:Tok)=c at ef;have EY:c.kind=closing t.kind:=by rw[<-gI]
   have xN:c.pos=e:=by rw[<-gI]
   rw[ef] at hl hn ⊢;have C_:l=a++t::(bG ks++[c]++bG ts++b):=by rw[hl];simp
   have iu:l=a++[t]++bG ks++c::(bG ts++b):=by rw[hl];simp
   have hk:fw l a.length=t.kind:=by rw[C_];exact BH
   have ht:jW l a.length=t:=by rw[C_];exact ZJ
   have Fj:=arM iu w3 hc EY;have hp:rY l (a++[t]++bG ks).length=e:=by rw[<-xN,iu];exact XA
   simp only[bM,dm,dQ] at hn;obtain⟨m,rfl⟩:∃m,n=m+1:=⟨n - 1,by omega⟩;rw[pR,aF (by simp),aF (by rw[hk];exact hc),ht,Fj,hp];have U:=JZ (l:=l) k ks (a++[t]) (c::(bG ts++b)) m (by omega) w3 iu (by omega);have h2:=JZ (l:=l) k ts (a++[t]++bG ks++[c]) b m (by omega) w4 (by rw[hl];simp) (by omega);have e1:(a++[t]++bG ks).length=(a++[t]).length+(bG ks).length:=bM;have e2:a.length+1=(a++[t]).length:=by simp
   have e3:(a++[t]).length+(bG ks).length+1=(a++[t]++bG ks++[c]).length:=by simp only[bM,fI]
   have e4:a.length+(t::(bG ks++[c])++bG ts).length=(a++[t]++bG ks++[c]).length+(bG ts).length:=by simp only[bM,dm,dQ];omega
   rw[e1,e2,U,e3,e4,h2]
variable{us:List aC}
def ZK(hw:fK us)(h:(iT (bG us)).2=aj):(iT (bG us)).1=us:=by
 unfold iT at h ⊢;split
 .rename_i h0;rw[aF h0] at h;simp at h
 .have:=JZ (l:=bG us) _ us [] [] (bG us).length (bY _) hw (by simp) (bY _)
  simpa using this
def gE:List Tok->List (Tok × List aC)->List aC->List aC × Option Int
 | [],op,row=>match op.getLast? with | some (t,_)=>([],aa t.pos) | none=>(row,aj)
 | t :: ts, op, row =>
  if closing t.kind≠0 then(if 24<=op.length then([],aa t.pos) else gE ts (op++[(t,row)]) [])
  else if l7 t.kind=ab then
   match op.getLast? with
   | none=>([],aa t.pos)
   | some (u,ahead)=>if closing u.kind=t.kind then gE ts op.dropLast (ahead++[.mk u row t.pos]) else([],aa t.pos)
  else gE ts op (row++[.mk t [] t.pos])
def Tk.ok(dE D:ah)(n:Nat):Tk->Prop
 | .aZ=>True
 | .tk Z=>dE.aR Z=aj/\D.aR Z=aa n
 | .no=>False
def Tk.name:Tk->Option Nat
 | .tk Z=>aa Z
 | _=>aj
def j7(dE D:ah)(L:List (Tk × Nat)):Prop:=dE.sub D/\(∀p∈L,p.1.ok dE D p.2)/\(L.filterMap λp=>p.1.name).Nodup
variable{L:List (Tk × Nat)}
def j7.init(h:∀p∈L,p.1 = .aZ):j7 D D L:=by
 refine⟨ah.bm D,λp hp=>by rw[h p hp];trivial,?_⟩
 have:L.filterMap (λp=>p.1.name)=[]:=by
  rw[List.filterMap_eq_nil_iff];intro p hp;rw[h p hp];rfl
 rw[this];exact List.nodup_nil
variable{dE:ah}
def j7.perm{L':List (Tk × Nat)}(h:j7 dE D L)(hp:L.Perm L'):j7 dE D L' :=
 ⟨h.1,λp hm=>h.2.1 p (hp.mem_iff.2 hm),(hp.filterMap _).nodup_iff.1 h.2.2⟩
def j7.tail{p:Tk × Nat}(h:j7 dE D (p::L)):j7 dE D L:=by
 refine⟨h.1,λq hq=>h.2.1 q (by simp[hq]),?_⟩
 have:=h.2.2
 simp only[Kw] at this;split at this
 .exact this
 .exact(KI.1 this).2
def j7.aZ{n:Nat}(h:j7 dE D L):j7 dE D ((.aZ,n)::L) :=
 ⟨h.1,λq hq=>by rcases lq.1 hq with rfl | hq;exact trivial;exact h.2.1 q hq,by simpa [Kw,Tk.name] using h.2.2⟩
def j7.put{tk:Tk}{n m:Nat}(h:j7 dE D ((tk,n)::L))(h0:dE.aR Z=aj)(ht:tk = .tk Z\/D.aR Z=aj):j7 dE (D.a_ Z m) ((.tk Z,m)::L):=by
 have UR:Z∉L.filterMap λp=>p.1.name:=λhm=>by
  obtain⟨⟨t,k⟩,hq,hn⟩:=Q0.1 hm;cases t with
  | no=>simp[Tk.name] at hn
  | aZ=>simp[Tk.name] at hn
  | tk υ =>
   simp only[Tk.name,bc] at hn;subst hn
   rcases ht with rfl | ht
   .have:=h.2.2
    simp only[Kw,Tk.name] at this;exact(KI.1 this).1 hm
   .have:=(h.2.1 (.tk υ,k) (by simp[hq])).2
    rw[ht] at this;simp at this
 refine⟨⟨h.1.1,λt k hk=>?_,h.1.2.2⟩,λp hp=>?_,?_⟩
 .have a9:t≠Z:=by rintro rfl;rw[h0] at hk;simp at hk
  simp only[ah.a_,aB a9];exact h.1.2.1 t k hk
 .rcases lq.1 hp with rfl | UW
  .exact⟨h0,by simp[ah.a_]⟩
  .have:=h.2.1 p (by simp[UW])
   obtain⟨t,k⟩:=p;cases t with
   | no=>exact this
   | aZ=>trivial
   | tk υ =>
    have a9:υ≠Z:=by rintro rfl;exact UR (Q0.2 ⟨(.tk υ,k),UW,rfl⟩)
    exact⟨this.1,by simp only[ah.a_,aB a9];exact this.2⟩
 .simp only[Kw,Tk.name];exact KI.2 ⟨UR,h.tail.2.2⟩
def j7.fresh(h:j7 dE D L)(ht:D.aR Z=aj):dE.aR Z=none:=by
 cases hq:dE.aR Z with
 | none=>rfl
 | some n=>rw[h.1.2.1 Z n hq] at ht;simp at ht
variable{K:V->ah->Prop}{m:List (List V)}
def K4{tk u:Tk}{k:Nat}{n:List (List V)}(h:j7 dE D ((tk,m.length)::L))(hb:m.length+n.length<=aQ)
 (hk:∀Z,j7 dE (D.a_ Z (m.length+n.length)) ((.tk Z,m.length+n.length)::L)->K (.sl (.tk Z) k (m++n)) (D.a_ Z (m.length+n.length))):rA D k (.sl tk k m) (.sl u k n) K:=by
 have hh:=h.2.1 (tk,m.length) (by simp);cases tk with
 | no=>exact hh.elim
 | aZ=>exact Ha hb λZ bE=>hk Z (h.put (h.fresh bE) (.inr bE))
 | tk Z=>exact kM hb hh.2 (hk Z (h.put hh.1 (.inl rfl)))
def ars{H:V->ah->Prop}{k:Nat}{cs:List V}:OQ.bj D H (.mS k) [.agg cs]=(cs.length=k/\bT cs=ab/\cW cs=ab/\H (.sl .aZ k [cs]) D):=by
 simp only[OQ.bj,NQ,zJ,V.wd,V.cells,bc]
 by_cases h:cs.length=k/\bT cs=ab/\cW cs=ab
 .rw[aF h];simp[h]
 .rw[aB h];simp;intro U h2 h3;exact absurd ⟨U,h2,h3⟩ h
def JN{k:Nat}{Z:Tk}{j j' : IntKind}{b:Nat}{H:V->Prop}(h2:b<=m.length)(h:H (.sl .aZ k (m.take b))):Gh k (.sl Z k m) aj (aa (.int j b)) (aa (.int j' b)) H:=.inl ⟨Z,m,0,b,rfl,KP _,h2,rfl,⟨j,rfl⟩,⟨j',rfl⟩,h⟩
structure az where
 op:Int
 pos:Int
 name:aA
 an:List aA
 bw:List (aA × aA)
 pd:Int
 left:Nd
 right:Nd
def az.zero:az:=⟨0,0,⟨[],0⟩,[],[],0,.zero,.zero⟩
def gz(p:aA × aA):List V:=[.aG p.1.au,.int .i64 p.1.pos,.aG p.2.au,.int .i64 p.2.pos]
def az.dc(c:az)(pc:V):List V:=[.int .i64 c.op,.int .i64 c.pos,.aG c.name.au,.int .i64 c.name.pos,.sl .no 2 (c.an.map aA.enc),pc,.int .i64 c.pd,
 .int .i64 c.left.kind,.int .i64 c.left.pos,.aG c.left.au,.sl .no 2 (c.left.an.map aA.enc),.sl .no 5 (c.left.ak.map Nd.enc),.int .i64 c.right.kind,.int .i64 c.right.pos,.aG c.right.au,.sl .no 2 (c.right.an.map aA.enc),.sl .no 5 (c.right.ak.map Nd.enc)]
def rX:List (aA × aA)->V
 | []=>.sl .aZ 4 []
 | p::ps=>.sl .no 4 ((p::ps).map gz)
def az.enc(c:az):List V:=c.dc (.sl .no 4 (c.bw.map gz))
def iZ:List (List UInt8 × List UInt8) :=
 [([],[]),([99,104,97,105,110],[110,119]),([112,111,119,101,114],[110,119]),([112,114,111,100,117,99,116],[110,119]),([103,114,105,100],[110,119,112]),([116,97,98,108,101],[110,119,112]),([108,97,98,101,108],[110,119]),([114,111,119],[110,119]),([108,101,113],[110,116,116]),([114,111,119,101,113],[110,114,114]),([108,97,99,107,115],[110,102]),([112,117,115,104],[]),([112,111,112],[]),([99,104,101,99,107],[]),([99,111,114,101],[]),([119,104,121],[110])]
def gG:List V:=(iZ.map λp=>[V.aG p.1,V.aG p.2]).flatten
def cu(op:Int):List UInt8 × List UInt8:=if 0<=op/\op<16 then iZ.getD op.toNat ([],[]) else([],[])
def pF(w:List UInt8):Nat->Nat->Int
 | 0,_=>0
 | n+1,op=>if 0<op/\(cu op).1=w then op else pF w n (op+1)
def jt(w:List UInt8):Int:=pF w 16 0
def ae.gM:Nat->ae->List (aA × aA)->ae × List (aA × aA)
 | 0,i,acc=>(i,acc)
 | n + 1, i, acc =>
  if i.aM≠aj then(i,acc)
  else
   if ((i.word.2.take 60).2.word).2.at_=i.l.length then(((i.word.2.take 60).2.word).2,acc++[(i.word.1,((i.word.2.take 60).2.word).1)])
   else gM n (((i.word.2.take 60).2.word).2.take 44).2 (acc++[(i.word.1,((i.word.2.take 60).2.word).1)])
def ae.vL(r:ae)(b:Option Int):ae:=match b with | some a=>{r with aM:=aa a} | none=>r
def qA(r:ae)(c:az):ae × az :=
 let t:=(r.take 123).1
 let r1:=(r.take 123).2
 if r1.aM≠aj\/t.ak.length=0 then(r1,{c with pd:=t.tok.pos})
 else(r1.vL (t.inner.gM (t.ak.length+1) []).1.aM,{c with pd:=t.tok.pos,bw:=(t.inner.gM (t.ak.length+1) []).2})
def jD(r:ae)(c:az)(g:Nd × Int × Option Int):ae × az :=
 match g.2.2 with
 | some a=>({r with aM:=aa a},c)
 | none=>({r with at_:=g.2.1},if c.left.kind=0 then {c with left:=g.1} else {c with right:=g.1})
def dC(letter:UInt8)(x:ae × az):ae × az :=
 if x.1.aM≠aj then x
 else if letter=110 then(x.1.word.2,{x.2 with name:=x.1.word.1})
 else if letter=102 then(x.1.word.2,{x.2 with an:=[x.1.word.1]})
 else if letter=119 then({x.1 with aM:=(jY x.1.l x.1.at_ x.1.fin).2,at_:=x.1.at_+1},{x.2 with an:=(jY x.1.l x.1.at_ x.1.fin).1})
 else if letter=112 then qA x.1 x.2
 else if letter=116 then jD x.1 x.2 (fO (ae.label (bp x.1.l)) x.1.l x.1.at_ x.1.fin)
 else if letter=114 then jD x.1 x.2 (fO (ae.row (bp x.1.l)) x.1.l x.1.at_ x.1.fin)
 else x
def jc:List UInt8->ae × az->ae × az
 | [],x=>x
 | k::ks,x=>jc ks (dC k x)
def xz(x:ae × az):az × Int × Int :=
 match (if x.1.aM=aj/\x.1.at_<x.1.l.length then x.1.fail else x.1).aM with
 | some a=>(.zero,2,a)
 | none=>(x.2,0,0)
def uB(l:List aC)(fin:Int):az × Int × Int :=
 match l with
 | []=>(.zero,0,0)
 | t :: _ =>
  let w:=(⟨l,0,fin,aj⟩:ae).word
  if jt w.1.au=0 then(.zero,2,t.tok.pos)
  else xz (jc (cu (jt w.1.au)).2 (w.2,{az.zero with op:=jt w.1.au,pos:=w.1.pos}))
def cG(s:List UInt8):az × Int × Int :=
 match (eG s).2 with
 | some a=>(.zero,1,a)
 | none => match (gE (eG s).1 [] []).2 with
  | some a=>(.zero,2,a)
  | none=>uB (gE (eG s).1 [] []).1 s.length
structure kJ(l:List aC)(fin:Int)(x:ae × az):Prop where
 hl:x.1.l=l
 hf:x.1.fin=fin
 ge:0<=x.1.at_
 le:x.1.at_<=(l.length:Int)+1
 ok:x.1.aM=aj->x.1.at_<=(l.length:Int)
def agl(r:ae):r.fail.fin=r.fin:=by unfold ae.fail;split<;>rfl
def Gq(r:ae)(k:Int):(r.take k).2.fin=r.fin:=by
 unfold ae.take;split
 .rfl
 .exact agl r
def alj(n:Nat)(r:ae):mo r (r.row n).2:=by
 unfold ae.row;split
 .rename_i hs;have h:=uJ r 91;have hb:(r.take 91).2.aM=none:=by
   rcases r.vp 91 with ⟨_,_,hb,_,_⟩ | ⟨h',_⟩
   .exact hb
   .rw[hs] at h';simp at h'
  exact⟨h.1,λU h2=>by
   obtain⟨p1,p2,p3⟩:=h.2 U h2;exact⟨p1,p2,λ_=>p3 hb⟩⟩
 .exact EI r 1
variable{c:az}{l:List aC}{x:ae × az}
def kJ.goes{fin:Int}(h:kJ l fin x)(hb:x.1.aM=aj)(g:mo x.1 r)(hf:r.fin=x.1.fin):kJ l fin (r,c):=by
 obtain⟨U,h2,h3,h4,h5⟩:=h;have h5:=h5 hb;obtain⟨g1,g2⟩:=g;rw[U] at g2;have g2:=g2 h3 (by omega);exact⟨g1.trans U,hf.trans h2,by simp only;omega,by simp only;omega,λ_=>by simp only;omega⟩
def kJ.aM{l:List aC}{fin:Int}{r:ae}{c c' : az}{a:Int}(h:kJ l fin (r,c)):kJ l fin ({r with aM:=aa a},c'):=⟨h.hl,h.hf,h.ge,h.le,λh=>by simp at h⟩
def WR{fin:Int}{one:ae->Nd × ae}(h:kJ l fin (r,c))(hb:r.aM=aj)(ho:∀r,mo r (one r).2):kJ l fin (jD r c (fO one r.l r.at_ r.fin)):=by
 unfold jD fO;have he:(⟨r.l,r.at_,r.fin,aj⟩:ae)=r:=by cases r;simp only at hb;subst hb;rfl
 rw[he];cases hq:(one r).2.aM with
 | some a=>exact h.aM
 | none =>
  obtain⟨g1,g2⟩:=ho r;have h5:=h.ok hb;have h3:=h.ge;have U:=h.hl;simp only at h5 h3 U;rw[U] at g2;have g2:=g2 h3 h5;exact⟨h.hl,h.hf,by simp only;omega,by simp only;omega,λ_=>by simp only;omega⟩
def ary{fin:Int}(h:kJ l fin (r,c))(hb:r.aM=aj):kJ l fin (qA r c):=by
 have U:∀c',kJ l fin ((r.take 123).2,c'):=λc' => kJ.goes (x:=(r,c)) h hb (uJ r 123) (Gq r 123)
 unfold qA;simp only;split
 .exact U _
 .unfold ae.vL;split
  .exact(U c).aM
  .exact U _
def Xj{fin:Int}(h:kJ l fin x)(k:UInt8):kJ l fin (dC k x):=by
 obtain⟨r,c⟩:=x;unfold dC;simp only;split
 .exact h
 rename_i hb;have hb:r.aM=none:=by simpa using hb
 split
 .exact kJ.goes (x:=(r,c)) h hb (zc r) (Gq r 97)
 split
 .exact kJ.goes (x:=(r,c)) h hb (zc r) (Gq r 97)
 split
 .have h5:=h.ok hb;have h3:=h.ge;simp only at h5 h3;refine⟨h.hl,h.hf,by simp only;omega,by simp only;omega,λhn=>?_⟩;have he:(⟨r.l,r.at_,r.fin,aj⟩:ae)=r:=by cases r;simp only at hb;subst hb;rfl
  simp only[jY,he] at hn;cases hq:(r.words ar).2.aM with
  | some a=>rw[hq] at hn;simp at hn
  | none =>
   obtain⟨g1,g2⟩:=L7 r ar;have U:=h.hl;simp only at U;rw[U] at g2
   have:=(g2 h3 h5)
   have:=this.2.2 hq
   simp only;omega
 split
 .exact ary h hb
 split
 .exact WR h hb (L6 _)
 split
 .exact WR h hb (alj _)
 .exact h
def Xn:∀(ks:List UInt8) (k:UInt8) (x:ae × az),jc (ks++[k]) x=dC k (jc ks x)
 | [],_,_=>rfl
 | _::ks,k,x=>Xn ks k _
def OM{l:List aC}{fin:Int}:∀(ks:List UInt8) {x:ae × az},kJ l fin x->kJ l fin (jc ks x)
 | [],_,h=>h
 | k::ks,_,h=>OM ks (Xj h k)
def Xk{k:UInt8}(h:k≠112\/x.1.aM≠aj):(dC k x).2.bw=x.2.bw:=by
 unfold dC;split
 .rfl
 rename_i hb;have hb:x.1.aM=none:=by simpa using hb
 have hk:k≠112:=by rcases h with h | h;exact h;exact absurd hb h
 split
 .rfl
 split
 .rfl
 split
 .rfl
 have hn:∀g,(jD x.1 x.2 g).2.bw=x.2.bw:=λg=>by
  unfold jD;split
  .rfl
  .simp only;split<;>rfl
 split
 .exact hn _
 split
 .exact hn _
 .rfl
def Xm:∀(ks:List UInt8) {x:ae × az},(∀k∈ks,k≠112)->(jc ks x).2.bw=x.2.bw
 | [],_,_=>rfl
 | k::ks,x,h=>(Xm ks λj hj=>h j (by simp[hj])).trans (Xk (.inl (h k (by simp))))
def akF(op:Int)(i:Nat)(h:(cu op).2[i]?=aa 112):∀k∈(cu op).2.take i,k≠112:=by
 unfold cu at h ⊢;split at h
 .rename_i U;rw[aF U];have aD:op.toNat<16:=by omega
  generalize op.toNat=n at h aD ⊢;have key:∀n<16,∀i<3,(iZ.getD n ([],[])).2[i]?=aa 112->∀k∈(iZ.getD n ([],[])).2.take i,k≠112:=by decide
  have hl:∀n<16,(iZ.getD n ([],[])).2.length<=3:=by decide
  have:=(fy.1 h).1
  exact key n aD i (by have:=hl n aD;omega) h
 .simp at h
def LY(op:Int):∀c∈(cu op).2,c.toNat<128:=by
 unfold cu;split
 .rename_i U;have aD:op.toNat<16:=by omega
  generalize op.toNat=n at aD ⊢;have key:∀n<16,∀c∈(iZ.getD n ([],[])).2,c.toNat<128:=by decide
  exact key n aD
 .simp
def iD(s:aH)(lat:Int)(t:List UInt8)(p kind:Int):List aY :=
 match jK s.vars t with
 | none=>if (gV s.ba t).isNone then [⟨3,p⟩] else [⟨4,p⟩]
 | some v => match s.vars[v]? with
  | some x=>if x.kind≠kind\/(0<=lat/\x.lat≠lat) then [⟨4,p⟩] else []
  | none=>[]
def gy(s:aH)(w:aA):List aY:=if (gV s.ba w.au).isNone then(if (jK s.vars w.au).isNone then [⟨3,w.pos⟩] else [⟨4,w.pos⟩]) else []
def ax3(o:Option Int):aY:=match o with | some p=>⟨4,p⟩ | none=>.zero
def vX(s:aH)(lat:Int)(n:Nd):Option Int:=(gx (nV s lat.toNat) (n.ak.getD 0 jb)).2
def vV(s:aH)(lat:Int)(n:Nd):List aY:=if 0<n.ak.length/\0<=lat then(match vX s lat n with | some p=>[⟨4,p⟩] | none=>[]) else []
def gR(s:aH)(lat:Int)(n:Nd):List aY:=if n.kind=1 then iD s lat n.au n.pos 1 else if n.kind=7 then vV s lat n else []
mutual
def ff(s:aH)(lat:Int):Nd->List aY
 | .mk k p t ws ks=>gR s lat (.mk k p t ws ks)++if k=1\/k=7 then [] else zL s lat ks
def zL(s:aH)(lat:Int):List Nd->List aY
 | []=>[]
 | n::ns=>ff s lat n++zL s lat ns
end
def NX{s:aH}{lat:Int}:∀{l:List Nd},zL s lat l=l.flatMap (ff s lat)
 | []=>by simp[zL]
 | n::ns=>by simp[zL,NX]
variable{lat:Int}
def BJ{s:aH}(n:Nd):ff s lat n=gR s lat n++if n.kind=1\/n.kind=7 then [] else n.ak.flatMap (ff s lat):=by
 cases n;rw[ff,NX];rfl
def rL(ks:List Nd)(i:Nat):List aY:=if (fu ((ks.take i).map Nd.au) (ks.getD i jb).au).isSome then [⟨4,(ks.getD i jb).pos⟩] else []
def y9(s:aH)(lat:Int)(ks:List Nd)(i:Nat):List aY:=rL ks i++(ks.getD i jb).ak.flatMap (gR s lat)
def qb(s:aH)(lat:Int)(ks:List Nd)(m:Nat):List aY:=(bA m).flatMap (y9 s lat ks)
def wW(s:aH)(lat:Int)(ws:List aA):List aY:=ws.flatMap λw=>iD s lat w.au w.pos 2
def jS(s:aH)(lat p:Int)(n:Nd):List aY :=
 if n.kind=1 then iD s lat n.au n.pos 2 else if n.kind=10 then qb s lat n.ak n.ak.length++wW s lat n.an++(if 16<n.ak.length then [⟨7,p⟩] else []) else []
def cZ(s:aH)(c:az):Int:=cN (gV s.ba c.name.au)
def xx(n:Nd):List aY:=if n.kind=8\/n.kind=9 then [⟨6,n.pos⟩] else []
def pA(s:aH)(c:az):List aY :=
 if c.op=10 then iD s (-1) c.name.au c.name.pos 2
 else if c.op=15 then iD s (-1) c.name.au c.name.pos 1
 else if c.op=8 then gy s c.name++ff s (cZ s c) c.left++ff s (cZ s c) c.right++xx c.right
 else if c.op=9 then gy s c.name++jS s (cZ s c) c.pos c.left++jS s (cZ s c) c.pos c.right
 else []
def kQ(s:aH)(c:az):aY:=hD (pA s c)
def pT(Z:Nat)(l:List aY)(s:aH)(lat p:Int):List V:=[.sl (.tk Z) 2 (l.map aY.enc),.sl .no 3 (s.ba.map dJ.enc),.sl .no 3 (s.vars.map db.enc),.int .i64 lat,.int .i64 p]
def di(D:ah)(b Z:Nat)(l:List aY)(s:aH)(lat p:Int):ah:=(D.set b (pT Z l s lat p)).a_ Z l.length
section
variable {D:ah} {b b' Z n:Nat} {l:List aY} {s:aH} {lat NZ p x y:Int} {c:List V}
def Kd:(di D b Z l s lat p).box b=aa (pT Z l s lat p):=by simp[di,ah.set,ah.a_]
def Cg(h:b' ≠ b):(di D b Z l s lat p).box b' = D.box b' := by simp[di,ah.set,ah.a_,h]
def Qo:(di D b Z l s lat p).aR Z=aa l.length:=by simp[di,ah.set,ah.a_]
def aad(h:b' ≠ b):(di D b Z l s lat p).set b' c=di (D.set b' c) b Z l s lat p:=by
 simp only[di,ah.set,ah.a_,ah.mk.injEq,im];funext z
 by_cases U:z=b'
 .subst U;simp[h]
 .simp[U]
def axs:(di D b Z l s lat p).set b [.sl (.tk Z) 2 (l.map aY.enc),.sl .no 3 (s.ba.map dJ.enc),.sl .no 3 (s.vars.map db.enc),.int .i64 x,.int .i64 p]=di D b Z l s x p:=by
 simp only[di,pT,ah.set,ah.a_,ah.mk.injEq,im];funext z
 by_cases U:z=b<;>simp[U]
def axr:((di D b Z l s lat p).a_ Z (l.length+1)).set b [.sl (.tk Z) 2 (l.map aY.enc++[[.int .i64 x,.int .i64 y]]),.sl .no 3 (s.ba.map dJ.enc),.sl .no 3 (s.vars.map db.enc),.int .i64 lat,.int .i64 p]=di D b Z (l++[⟨x,y⟩]) s lat p:=by
 simp only[di,pT,ah.set,ah.a_,ah.mk.injEq,fX,cz,fe,aY.enc,bM,fI,im];constructor
 .funext z
  by_cases U:z=b<;>simp[U]
 .funext z
  by_cases U:z=Z<;>simp[U]
def axt(h:D.box b=aj)(ht:D.aR Z=aj):D.sub (di D b Z l s lat p):=by
 refine⟨λx cs hx=>?_,λt m hm=>?_,λ_ _ h=>h⟩
 .have:x≠b:=by rintro rfl;rw[h] at hx;simp at hx
  rw[Cg this];exact hx
 .have:t≠Z:=by rintro rfl;rw[ht] at hm;simp at hm
  simp[di,ah.set,ah.a_,this];exact hm
def aac(h:b' ≠ b)(hn:D.box b' = aj):(di D b Z l s lat p).sub (di (D.set b' c) b Z l s lat p):=by
 refine⟨λx cs hx=>?_,λt m hm=>?_,λ_ _ h=>h⟩
 .by_cases U:x=b
  .subst U;rw[Kd] at hx ⊢;exact hx
  .rw[Cg U] at hx ⊢
   have:x≠b' := by rintro rfl;rw[hn] at hx;simp at hx
   simp only[ah.set,this,cF];exact hx
 .simpa [di,ah.set,ah.a_] using hm
theorem w_f:bP ar 1 (pT Z l s lat p)=aa (.sl (.tk Z) 2 (l.map aY.enc)):=rfl
theorem w_s:takeN 2 ((pT Z l s lat p).drop 1)=aa s.enc:=rfl
theorem w_l:bP ar 1 ((pT Z l s lat p).drop 1)=aa (.sl .no 3 (s.ba.map dJ.enc)):=rfl
theorem w_v:bP ar 1 ((pT Z l s lat p).drop 2)=aa (.sl .no 3 (s.vars.map db.enc)):=rfl
theorem w_t:bP ar 1 ((pT Z l s lat p).drop 3)=aa (.int .i64 lat):=rfl
theorem w_p:bP ar 1 ((pT Z l s lat p).drop 4)=aa (.int .i64 p):=rfl
theorem w_h:cw 1 (pT Z l s lat p)=true:=rfl
theorem awz:cw 1 ((pT Z l s lat p).drop 3)=true:=rfl
theorem w_o{v:V}:over (pT Z l s lat p) [v]=[v,.sl .no 3 (s.ba.map dJ.enc),.sl .no 3 (s.vars.map db.enc),.int .i64 lat,.int .i64 p]:=rfl
theorem awC{v:V}:setAt (pT Z l s lat p) 3 [v]=[.sl (.tk Z) 2 (l.map aY.enc),.sl .no 3 (s.ba.map dJ.enc),.sl .no 3 (s.vars.map db.enc),v,.int .i64 p]:=rfl
variable{w:aA}
theorem yD:bP ar 1 w.enc=aa (.aG w.au):=rfl
theorem ue:bP ar 1 (w.enc.drop 1)=aa (.int .i64 w.pos):=rfl
theorem w_b{u v x y:V}:over [u,v,x,y] s.enc=[.sl .no 3 (s.ba.map dJ.enc),.sl .no 3 (s.vars.map db.enc),x,y]:=rfl
def kl:=af @w_b <| af @yD <| af @ue <| af @Kd <| af @Qo <| af @w_f <| af @w_s <| af @w_l <| af @w_v <| af @w_t <| af @w_p <| af @w_h <| af @awz <| af @w_o @awC
end
def aae{b υ n:Nat}{l:List aY}{s:aH}(h:υ≠Z):(di D b Z l s lat p).a_ υ n=di (D.a_ υ n) b Z l s lat p:=by
 simp only[di,ah.set,ah.a_,ah.mk.injEq,qF,im];funext z
 by_cases U:z=υ
 .subst U;simp[h]
 .simp[U]
def aab{σ':ah}{b:Nat}{l:List aY}{s:aH}(h:D.sub σ'):(di D b Z l s lat p).sub (di σ' b Z l s lat p):=by
 refine⟨λx cs hx=>?_,λt m hm=>?_,h.2.2⟩
 .by_cases U:x=b
  .subst U;rw[Kd] at hx ⊢;exact hx
  .rw[Cg U] at hx ⊢;exact h.1 x cs hx
 .simp only[di,ah.set,ah.a_] at hm ⊢;split
  .rename_i e;rw[aF e] at hm;exact hm
  .rename_i e;rw[aB e] at hm;exact h.2.1 t m hm
structure Ah(D σ' : ah)(Z:Nat)(tk:Tk)(n:Nat):Prop where
 box:σ'.box=D.box
 sub:D.sub σ'
 tk:tk = .aZ\/∃υ,tk = .tk υ/\υ≠Z/\σ'.aR υ=aa n/\D.aR υ=aj
def Ah.nil:Ah D D Z .aZ 0:=⟨rfl,ah.bm D,.inl rfl⟩
def Ah.app{σ':ah}{b k:Nat}{tk u:Tk}{l:List aY}{s:aH}{e:List (List V)}(h:Ah D σ' Z tk m.length)(hb:m.length+e.length<=aQ)
 (hk:∀fD td,Ah D td Z fD (m++e).length->K (.sl fD k (m++e)) (di td b Z l s lat p)):rA (di σ' b Z l s lat p) k (.sl tk k m) (.sl u k e) K:=by
 have hl:(m++e).length=m.length+e.length:=bM;have up:∀υ n,σ'.aR υ=aj\/D.aR υ=aj->D.sub (σ'.a_ υ n):=λυ n hn=>⟨λx cs hx=>h.sub.1 x cs hx,λt q hq=>by
  have a9:t≠υ:=by
   rintro rfl
   rcases hn with hn | hn
   .rw[h.sub.2.1 _ _ hq] at hn;simp at hn
   .rw[hq] at hn;simp at hn
  simp only[ah.a_,aB a9];exact h.sub.2.1 t q hq,h.sub.2.2⟩
 rcases h.tk with rfl | ⟨υ,rfl,a9,ht,h0⟩
 .refine Ha hb λυ lF=>?_
  have a9:υ≠Z:=by rintro rfl;rw[Qo] at lF;simp at lF
  have Nv : σ'.aR υ=none:=by simpa [di,ah.set,ah.a_,a9] using lF
  rw[aae a9];refine hk _ _ ⟨h.box,up υ _ (.inl Nv),.inr ⟨υ,rfl,a9,by rw[hl];simp[ah.a_],?_⟩⟩;cases hq:D.aR υ with
  | none=>rfl
  | some n=>rw[h.sub.2.1 _ _ hq] at Nv;simp at Nv
 .refine kM hb (by simpa [di,ah.set,ah.a_,a9] using ht) ?_;rw[aae a9];exact hk _ _ ⟨h.box,up υ _ (.inr h0),.inr ⟨υ,rfl,a9,by rw[hl];simp[ah.a_],h0⟩⟩
section
variable {s:aH} {lat:Int}
def DP{t:List UInt8}{p k:Int}:(iD s lat t p k).length<=1:=by
 unfold iD;split
 .split<;>simp
 .split
  .split<;>simp
  .simp
def anK{w:aA}:(gy s w).length<=1:=by unfold gy;split;(split<;>simp);simp
def Hf{n:Nd}:(gR s lat n).length<=1:=by
 unfold gR;split
 .exact DP
 .split
  .unfold vV;split
   .cases vX s lat n<;>simp
   .simp
  .simp
mutual
def NU:∀n:Nd,(ff s lat n).length<=n.cU
 | .mk k p t ws ks => by
  have U:=@Hf s lat (.mk k p t ws ks);have h2:=NW ks;rw[ff,bM,Nd.cU];split
  .simp;omega
  .omega
def NW:∀l:List Nd,(zL s lat l).length<=gU l
 | []=>by simp[zL]
 | n :: ns => by
  have:=NU n;have:=NW ns
  rw[zL,bM,gU];omega
end
def Sl:∀{l:List Nd} {i:Nat} (hi:i<l.length),gU (l.take i)+l[i].cU<=gU l
 | [],i,hi=>by simp at hi
 | n::ns,0,_=>by simp[gU]
 | n :: ns, i + 1, hi => by
  have:=Sl (l:=ns) (i:=i) (by simpa using hi)
  simp only[xf,gU,GN];omega
def anI{l:List Nd}(hi:i<l.length):((l.take i).flatMap (ff s lat)).length+l[i].cU<=gU l:=by
 have U:=@NW s lat (l.take i);rw[NX] at U
 have:=Sl hi
 omega
def EB{O:Type}{f:O->List aY}{m:Nat}:∀{l:List O},(∀x∈l,(f x).length<=m)->(l.flatMap f).length<=l.length*m
 | [],_=>by simp
 | x :: l, h => by
  have:=h x (by simp)
  have:=EB (m:=m) (l:=l) λy hy=>h y (by simp[hy])
  rw[qI,bM,dm,jw,xi];omega
def LS{f:O->List aY}{l:List O}(hi:i<l.length):(l.take (i+1)).flatMap f=(l.take i).flatMap f++f l[i]:=by
 rw[iG hi,xd];simp
def PW{ws:List aA}:(wW s lat ws).length<=ws.length:=by
 have:=EB (f:=λw:aA=>iD s lat w.au w.pos 2) (m:=1) (l:=ws) λ_ _=>DP
 rw[se] at this;exact this
def agS{ks:List Nd}{i:Nat}:(y9 s lat ks i).length<=1+(ks.getD i jb).ak.length:=by
 have:=EB (f:=gR s lat) (m:=1) (l:=(ks.getD i jb).ak) λ_ _=>Hf
 have h2:(rL ks i).length<=1:=by unfold rL;split<;>simp
 rw[y9,bM];omega
def Tv{m:Nat}:qb s lat ks (m+1)=qb s lat ks m++y9 s lat ks m:=by
 simp only[qb,iF,xd,qI,Ky,eD]
def Sj:∀{l:List Nd} {i:Nat} (hi:i<l.length),gU (l.take (i+1))=gU (l.take i)+l[i].cU
 | [],i,hi=>by simp at hi
 | n::ns,0,_=>by simp[gU]
 | n :: ns, i + 1, hi => by
  have:=Sj (l:=ns) (i:=i) (by simpa using hi)
  simp only[xf,gU,GN] at this ⊢;omega
def LV{ks:List Nd}:∀{m:Nat},m<=ks.length->(qb s lat ks m).length<=gU (ks.take m)
 | 0,_=>by simp[qb]
 | m + 1, hm => by
  have U:=LV (ks:=ks) (m:=m) (by omega);have h2:=@agS s lat ks m;have h3:=Nd.uC ks[m];have h4:=Lm ks[m].ak;rw[ny (by omega)] at h2;rw[Tv,bM,Sj (by omega)];omega
def Ya{p:Int}{n:Nd}:(jS s lat p n).length<=2*n.cU+2:=by
 have Fb:=Nd.uC n;have xU:=Ep n;have U:=LV (s:=s) (lat:=lat) (bY n.ak.length);have h2:=Sk n.ak n.ak.length;have h3:=@PW s lat n.an;have h4:=@DP s lat n.au n.pos 2;unfold jS;split
 .omega
 .split
  .simp only[bM]
   have:(if 16<n.ak.length then [(⟨7,p⟩:aY)] else []).length<=1:=by split<;>simp
   omega
  .simp
end
def uY(kind:Int)(l:List aC)(a fin:Int):cI :=
 if bL l a 97=ab then ⟨.mk kind (gh l a).pos (gh l a).au [] [],a+1,ar,0⟩ else eK l a fin
def B7(l:List aC)(a fin:Int):cI :=
 if bL l a 97=ar then eK l a fin
 else if bL l (a+1) 58=ar then eK l (a+1) fin
 else if bL l (a+2) 123=ar then eK l (a+2) fin
 else if (wholeAt nameAt (bU l (a+2)) ab).2.aM=ab then(wholeAt nameAt (bU l (a+2)) ab).2
 else ⟨.mk 6 (gh l a).pos (gh l a).au (uf (wholeAt nameAt (bU l (a+2)) ab).1) [],a+3,ar,0⟩
def o6(w:List Nd × cI)(mk:List Nd->Nd)(next:Int):cI:=if w.2.aM=ab then w.2 else ⟨mk w.1,next,ar,0⟩
def rJ:Nat->List aC->Int->Int->cI
 | 0,l,a,fin=>uY 2 l a fin
 | n + 1, l, a, fin =>
  if bL l a 97=ab then uY 2 l a fin
  else if bL l a 123=ab then o6 (wholeAt nameAt (bU l a) ab) (λks=>.mk 3 (gh l a).pos [] (uf ks) []) (a+1)
  else if bL l a 40=ab then o6 (wholeAt (rJ n) (bU l a) ar) (λks=>.mk 4 (gh l a).pos [] [] ks) (a+1)
  else if bL l a 91=ab then o6 (wholeAt B7 (bU l a) ab) (λks=>.mk 5 (gh l a).pos [] [] ks) (a+1)
  else eK l a fin
def cI.put(g:cI)(f:Nd->Nd):cI:=if g.aM=ab then g else {g with node:=f g.node}
def jM:Nat->List aC->Int->Int->cI
 | 0,l,a,fin=>uY 1 l a fin
 | n + 1, l, a, fin =>
  if bL l a 97=ab then uY 1 l a fin
  else if bL l a 35=ab then(rJ (n+1) l (a+1) fin).put λm=>.mk 7 (gh l a).pos [] [] [m]
  else if bL l a 43=ar/\bL l a 38=ar then eK l a fin
  else if bL l (a+1) 40=ar then eK l (a+1) fin
  else o6 (wholeAt (jM n) (bU l (a+1)) ar) (λks=>.mk (if bL l a 38=ab then 9 else 8) (gh l a).pos [] [] ks) (a+2)
def tB(n:Nat)(l:List aC)(a fin:Int):cI:=if bL l a 43=ab\/bL l a 38=ab then eK l a fin else jM n l a fin
def A'(n:Nat)(l:List aC)(a fin:Int):cI :=
 if bL l a 97=ar then eK l a fin
 else if bL l (a+1) 61=ar then eK l (a+1) fin
 else(tB n l (a+2) fin).put λm=>.mk 11 (gh l a).pos (gh l a).au [] [m]
def yn(l:List aC)(a:Int)(ks:List Nd)(ws:List aA)(next:Int):cI :=
 if next<(bU l a).ak.length then eK (bU l a).ak next (bU l a).fin else ⟨.mk 10 (gh l a).pos [] ws ks,a+1,ar,0⟩
def sZ(l:List aC)(a:Int)(ks:List Nd)(next:Int):cI :=
 if bL (bU l a).ak next 124=ab then
  if (nameAt (bU l a).ak (next+1) (bU l a).fin).aM=ab then nameAt (bU l a).ak (next+1) (bU l a).fin
  else yn l a ks (uf [(nameAt (bU l a).ak (next+1) (bU l a).fin).node]) (nameAt (bU l a).ak (next+1) (bU l a).fin).next
 else yn l a ks [] next
def wS(n:Nat)(l:List aC)(a:Int):List Nd × cI:=gO (λi=>A' n (bU l a).ak i (bU l a).fin) (bU l a).ak ((bU l a).ak.length+1) 0 []
def mZ(n:Nat)(l:List aC)(a fin:Int):cI :=
 if bL l a 97=ab then jM n l a fin
 else if bL l a 91=ar then eK l a fin
 else if 0<(bU l a).ak.length/\bL (bU l a).ak 0 124=ar then
  if (wS n l a).2.aM=ab then(wS n l a).2 else sZ l a (wS n l a).1 (wS n l a).2.next
 else sZ l a [] 0
def vw(g:List aC->Int->Int->cI):Prop:=∀l a fin,(g l a fin).aM=ar->0<=a/\a+1<=(g l a fin).next/\(g l a fin).next<=(l.length:Int)
def rV{i:Int}(h:bL l i k=ab):0<=i/\i<(l.length:Int):=by
 obtain⟨j,t,rfl,_,_,hl⟩:=zI h;omega
def G8(k:Int):vw (uY k):=λl a fin h=>by
 unfold uY at h ⊢;split
 .rename_i hk;have:=rV hk;exact⟨this.1,by simp,by simp only;omega⟩
 .rename_i hk;rw[aB hk] at h;simp[eK] at h
def aaY:vw B7:=λl a fin h=>by
 unfold B7 at h ⊢;split
 .rename_i hk;rw[aF hk] at h;simp[eK] at h
 rename_i U;rw[aB U] at h;split
 .rename_i hk;rw[aF hk] at h;simp[eK] at h
 rename_i h2;rw[aB h2] at h;split
 .rename_i hk;rw[aF hk] at h;simp[eK] at h
 rename_i h3;rw[aB h3] at h;split
 .rename_i hk;rw[aF hk,hk] at h;simp at h
 .have:=rV (by simpa using h3:bL l (a+2) 123=ab)
  have:=rV (by simpa using U:bL l a 97=ab)
  exact⟨this.1,by simp only;omega,by simp only;omega⟩
def IH{w:List Nd × cI}{mk:List Nd->Nd}{next:Int}(h:(o6 w mk next).aM=ar):(o6 w mk next).next=next:=by
 unfold o6 at h ⊢;split
 .rename_i hk;rw[aF hk,hk] at h;simp at h
 .rfl
def Rj:∀n,vw (rJ n)
 | 0=>G8 2
 | n + 1 => λl a fin h => by
  simp only[rJ] at h ⊢;split
  .rename_i hk;rw[aF hk] at h;exact G8 2 l a fin h
  rename_i U;rw[aB U] at h;split
  .rename_i hk;rw[aF hk] at h;have:=rV hk;rw[IH h];omega
  rename_i h2;rw[aB h2] at h;split
  .rename_i hk;rw[aF hk] at h;have:=rV hk;rw[IH h];omega
  rename_i h3;rw[aB h3] at h;split
  .rename_i hk;rw[aF hk] at h;have:=rV hk;rw[IH h];omega
  .rename_i hk;rw[aB hk] at h;simp[eK] at h
def XM{g:cI}{f:Nd->Nd}(h:(g.put f).aM=ar):g.aM=ar/\(g.put f).next=g.next:=by
 unfold cI.put at h ⊢;split
 .rename_i hk;rw[aF hk,hk] at h;simp at h
 .rename_i hk;exact⟨by simpa using hk,rfl⟩
def G7:∀n,vw (jM n)
 | 0=>G8 1
 | n + 1 => λl a fin h => by
  simp only[jM] at h ⊢;split
  .rename_i hk;rw[aF hk] at h;exact G8 1 l a fin h
  rename_i U;rw[aB U] at h;split
  .rename_i hk;rw[aF hk] at h
   have:=rV hk
   obtain⟨g1,g2⟩:=XM h
   have:=Rj (n+1) l (a+1) fin g1
   rw[g2];omega
  rename_i h2;rw[aB h2] at h;split
  .rename_i hk;rw[aF hk] at h;simp[eK] at h
  rename_i h3;rw[aB h3] at h;split
  .rename_i hk;rw[aF hk] at h;simp[eK] at h
  rename_i h4;rw[aB h4] at h
  have:=rV (by simpa using h4:bL l (a+1) 40=ab)
  have h5:0<=a:=by
   cases xH:bL l a 43
   .cases zg:bL l a 38
    .exact absurd ⟨xH,zg⟩ h3
    .exact(rV zg).1
   .exact(rV xH).1
  rw[IH h];omega
def aaV(n:Nat):vw (tB n):=λl a fin h=>by
 unfold tB at h ⊢;split
 .rename_i hk;rw[aF hk] at h;simp[eK] at h
 .rename_i hk;rw[aB hk] at h;exact G7 n l a fin h
def aaW(n:Nat):vw (A' n):=λl a fin h=>by
 unfold A' at h ⊢;split
 .rename_i hk;rw[aF hk] at h;simp[eK] at h
 rename_i U;rw[aB U] at h;split
 .rename_i hk;rw[aF hk] at h;simp[eK] at h
 rename_i h2;rw[aB h2] at h;obtain⟨g1,g2⟩:=XM h
 have:=aaV n l (a+2) fin g1
 have:=rV (by simpa using U:bL l a 97=ab)
 rw[g2];omega
def Aw(l:List aC)(a:Int):aA:=⟨(gh l a).au,(gh l a).pos⟩
def ax2(b:Option Int):Int:=match b with | some a=>a | none=>-1
def wP(l:List aC)(fin:Int):Nat->Nat->List (aA × aA)->List (aA × aA) × Int
 | 0,_,acc=>(acc,-1)
 | n + 1, a, acc =>
  if bL l (a:Nat) 97=ar then([],pO l (a:Nat) fin)
  else if bL l ((a+1:Nat):Int) 60=ar then([],pO l ((a+1:Nat):Int) fin)
  else if bL l ((a+2:Nat):Int) 97=ar then([],pO l ((a+2:Nat):Int) fin)
  else if a+3=l.length then(acc++[(Aw l (a:Nat),Aw l ((a+2:Nat):Int))],-1)
  else if bL l ((a+3:Nat):Int) 44=ar then([],pO l ((a+3:Nat):Int) fin)
  else wP l fin n (a+4) (acc++[(Aw l (a:Nat),Aw l ((a+2:Nat):Int))])
def Dz(t:aC):List (aA × aA) × Int:=if t.ak.length=0 then([],-1) else wP t.ak t.fin (t.ak.length+1) 0 []
def mX(k:UInt8)(c:az)(l:List aC)(a fin:Int):az × Int × Int :=
 if k=110\/k=102 then(if bL l a 97=ab then(if k=102 then {c with an:=[Aw l a]} else {c with name:=Aw l a},a+1,-1) else(c,a,pO l a fin))
 else if k=119 then(if (sY l a fin).2.aM=ab then(c,a,(sY l a fin).2.pos) else({c with an:=(sY l a fin).1},a+1,-1))
 else if k=112 then(if bL l a 123=ab then({c with bw:=(Dz (bU l a)).1,pd:=(bU l a).tok.pos},a+1,(Dz (bU l a)).2) else(c,a,pO l a fin))
 else
  let g:=if k=114 then mZ (bp l) l a fin else jM (bp l) l a fin
  if g.aM=ab then(c,a,g.pos) else(if c.left.kind=0 then {c with left:=g.node} else {c with right:=g.node},g.next,-1)
def wQ(l:List aC)(fin:Int):List UInt8->az->Int->az × Int × Int
 | [],c,a=>(c,a,-1)
 | k::ks,c,a=>if 0<=(mX k c l a fin).2.2 then mX k c l a fin else wQ l fin ks (mX k c l a fin).1 (mX k c l a fin).2.1
def BX(w:List UInt8):Nat->Nat->Int->Int
 | 0,_,r=>r
 | n+1,op,r=>BX w n (op+1) (if w=(cu op).1 then op else r)
def vS(l:List aC)(fin:Int):az × Int × Int :=
 match l with
 | []=>(.zero,0,0)
 | t :: _ =>
  let op:=if t.tok.kind=97 then BX t.tok.au 15 1 0 else 0
  if op=0 then(.zero,2,t.tok.pos)
  else
   let x:=wQ l fin (cu op).2 {az.zero with op:=op,pos:=t.tok.pos} 1
   if 0<=x.2.2 then(.zero,2,x.2.2)
   else if x.2.1<l.length then(.zero,2,pO l x.2.1 fin)
   else(x.1,0,0)
def O8(s:List UInt8):az × Int × Int :=
 match (eG s).2 with
 | some a=>(.zero,1,a)
 | none => match (iT (eG s).1).2 with
  | some a=>(.zero,2,a)
  | none=>vS (iT (eG s).1).1 s.length
def yh:List (Tok × List aC)->List Tok
 | []=>[]
 | (t,r)::op=>bG r++[t]++yh op
def OD:∀(op:List (Tok × List aC)) (t:Tok) (r:List aC),yh (op++[(t,r)])=yh op++bG r++[t]
 | [],t,r=>by simp[yh]
 | (u,q)::op,t,r=>by simp[yh,OD op t r]
def Sb{c:Int}(h:closing c≠0):l7 c=false:=by
 unfold closing at h;split at h
 .rename_i e;subst e;decide
 .split at h
  .rename_i e;rcases e with e | e<;>subst e<;>decide
  .exact absurd rfl h
def Ak(l:List O):l=[]\/∃ys x,l=ys++[x]:=by
 rcases QR l with h | ⟨ys,x,h⟩
 .exact .inl h
 .exact .inr ⟨ys,x,by rw[h];simp⟩
def Gt:∀(ts:List Tok) (op:List (Tok × List aC)) (row:List aC),(∀t∈ts,vK t)->(∀p∈op,closing p.1.kind≠0/\fK p.2)->fK row->(gE ts op row).2=aj ->
 fK (gE ts op row).1/\bG (gE ts op row).1=yh op++bG row++ts
 | [], op, row, _, ho, hr, hn => by
  rcases Ak op with rfl | ⟨ys,⟨u,a⟩,rfl⟩
  .simpa [gE,yh] using hr
  .simp[gE] at hn
 | t :: ts, op, row, ht, ho, hr, hn => by
  simp only[gE] at hn ⊢;have qn:∀t∈ts,vK t:=λx hx=>ht x (by simp[hx])
  by_cases hc:closing t.kind=0
  .rw[aB (by simp[hc])] at hn ⊢;cases gI:l7 t.kind
   .rw[gI] at hn;simp only[dP,cF] at hn ⊢;obtain⟨U,h2⟩:=Gt ts op (row++[.mk t [] t.pos]) qn ho (kK.2 ⟨hr,by simp[fK,aC.WF,hc,gI]⟩) hn;exact⟨U,by rw[h2,iY];simp[bG,aC.flat,hc]⟩
   .rw[gI] at hn;simp only[cM] at hn ⊢
    rcases Ak op with rfl | ⟨ys,⟨u,a⟩,rfl⟩
    .simp at hn
    .simp only[GO,Kt] at hn ⊢
     by_cases hk:closing u.kind=t.kind
     .rw[aF hk] at hn ⊢;obtain⟨hu,ha⟩:=ho (u,a) (by simp);have hte:t=⟨closing u.kind,[UInt8.ofNat (closing u.kind).toNat],t.pos⟩:=by
       rcases ht t (by simp) with ⟨gX,_⟩ | ⟨_,h2⟩
       .rw[gX] at gI;exact absurd gI (by decide)
       .rw[hk,<-h2]
      obtain⟨U,h2⟩:=Gt ts ys (a++[.mk u row t.pos]) qn (λp hp=>ho p (by simp[hp])) (kK.2 ⟨ha,by simp[fK,aC.WF,hu,hr,Sb hu]⟩) hn;refine⟨U,?_⟩;rw[h2,iY,OD];simp only[bG,aC.flat,hu,ne_eq,WV,cM,eD];rw[<-hte];simp
     .rw[aB hk] at hn;simp at hn
  .rw[aF hc] at hn ⊢
   by_cases uL:24<=op.length
   .rw[aF uL] at hn;simp at hn
   .rw[aB uL] at hn ⊢;obtain⟨U,h2⟩:=Gt ts (op++[(t,row)]) [] qn (λp hp=>by rcases fi.1 hp with h | h;exact ho p h;simp at h;subst h;exact⟨hc,hr⟩) (by simp[fK]) hn;exact⟨U,by rw[h2,OD];simp[bG]⟩
def JX:∀(ts:List Tok) (op:List (Tok × List aC)) (row:List aC),(gE ts op row).2≠aj->(gE ts op row).1=[]
 | [], op, row, h => by
  rcases Ak op with rfl | ⟨ys,⟨u,a⟩,rfl⟩
  .simp[gE] at h
  .simp[gE]
 | t :: ts, op, row, h => by
  simp only[gE] at h ⊢;split
  .rename_i hc;rw[aF hc] at h;split
   .rfl
   .rename_i uL;rw[aB uL] at h;exact JX _ _ _ h
  .rename_i hc;rw[aB hc] at h;split
   .rename_i gI;rw[aF gI] at h
    rcases Ak op with rfl | ⟨ys,⟨u,a⟩,rfl⟩
    .rfl
    .simp only[GO,Kt] at h ⊢;split
     .rename_i hk;rw[aF hk] at h;exact JX _ _ _ h
     .rfl
   .rename_i gI;rw[aB gI] at h;exact JX _ _ _ h
def A_(l:List Tok)(f:Int):Option Int:=if 0<=f then aa (rY l f.toNat) else aj
def JY(l:List Tok):∀(n i:Nat) (op:List (Tok × List aC)) (row:List aC) (o:List Nat),i+n=l.length->op.map (·.1)=o.map (jW l)->(gE (l.drop i) op row).2=A_ l (qR l n i o)
 | 0, i, op, row, o, hi, ho => by
  rw[QO (by omega)]
  rcases Ak op with rfl | ⟨ys,⟨u,a⟩,rfl⟩
  .have:o=[]:=by simpa using ho.symm
   subst this;simp[gE,qR,A_]
  .rcases Ak o with rfl | ⟨zs,j,rfl⟩
   .simp at ho
   .simp only[fX,cz,fe] at ho;have hj:u=jW l j:=by have:=aaq ho rfl;simpa using this
    simp[gE,qR,A_,hj,jW,rY];cases l[j]?<;>rfl
 | n + 1, i, op, row, o, hi, ho => by
  have aD:i<l.length:=by omega
  have hti:jW l i=l[i]:=by simp[jW,aD]
  have sH:fw l i=l[i].kind:=by simp[fw,aD]
  have Db:rY l i=l[i].pos:=by simp[rY,aD]
  have dR:op.length=o.length:=by have:=iH List.length ho;simpa using this
  rw[nr aD];simp only[gE,qR,sH];have Nj:A_ l (i:Nat)=aa l[i].pos:=by simp[A_,Db]
  by_cases hc:closing l[i].kind=0
  .simp only[ne_eq,hc,Jh,Ey,cF];cases gI:l7 l[i].kind
   .simp only[dP,cF];exact JY l n (i+1) op _ o (by omega) ho
   .simp only[cM]
    rcases Ak op with rfl | ⟨ys,⟨u,a⟩,rfl⟩
    .have:o=[]:=by simpa using ho.symm
     subst this;simp[Nj]
    .rcases Ak o with rfl | ⟨zs,j,rfl⟩
     .simp at ho
     .simp only[fX,cz,fe] at ho;have hj:u=jW l j:=by have:=aaq ho rfl;simpa using this
      have q_:ys.map (·.1)=zs.map (jW l):=List.append_inj_left' ho rfl;have MX:fw l j=u.kind:=by rw[hj];simp only[fw,jW];cases l[j]?<;>rfl
      simp only[GO,Kt,MX]
      by_cases hk:closing u.kind=l[i].kind
      .rw[aF hk,aF hk];exact JY l n (i+1) ys _ zs (by omega) q_
      .rw[aB hk,aB hk,Nj]
  .rw[aF hc]
   by_cases uL:24<=op.length
   .rw[aF uL,aF ⟨hc,by omega⟩,Nj]
   .rw[aB uL,aB (λh=>uL (by omega))];simp only[ne_eq,hc,WV,cM,Sb hc,dP,cF];exact JY l n (i+1) _ _ _ (by omega) (by simp[ho,hti])
def avX{l:List Tok}(h:∀t∈l,vK t):gE l [] []=iT l:=by
 have hf:=JY l l.length 0 [] [] [] (by omega) rfl;rw[Kv] at hf;have hr:(iT l).2=A_ l (qR l l.length 0 []):=by
  unfold iT A_;split<;>rfl
 have h2:(gE l [] []).2=(iT l).2:=by rw[hf,hr]
 cases hq:(gE l [] []).2 with
 | some a =>
  have U:=JX l [] [] (by rw[hq];simp);have h3:(iT l).1=[]:=by
   rw[hq] at h2;unfold iT at h2 ⊢;split
   .rfl
   .rename_i hn;rw[aB hn] at h2;simp at h2
  exact Prod.ext (U.trans h3.symm) h2
 | none =>
  obtain⟨h3,h4⟩:=Gt l [] [] h (by simp) (by simp[fK]) hq;simp only[yh,bG,gQ] at h4;have h5:=ZK h3 (by rw[h4,<-h2,hq]);rw[h4] at h5;exact Prod.ext h5.symm h2
def Cc(s:List UInt8):gE (eG s).1 [] []=iT (eG s).1:=avX (Dn _ _ _ _ (by simp))
def aaX(n:Nat):vw (mZ n):=λl a fin h=>by
 have h3:∀ks ws next,(yn l a ks ws next).aM=ar->(yn l a ks ws next).next=a+1:=λks ws next h=>by
  unfold yn at h ⊢;split
  .rename_i hk;rw[aF hk] at h;simp[eK] at h
  .rfl
 have h2:∀ks next,(sZ l a ks next).aM=ar->(sZ l a ks next).next=a+1:=λks next h=>by
  unfold sZ at h ⊢;split
  .rename_i hk;rw[aF hk] at h;split
   .rename_i hb;rw[aF hb,hb] at h;simp at h
   .rename_i hb;rw[aB hb] at h;exact h3 _ _ _ h
  .rename_i hk;rw[aB hk] at h;exact h3 _ _ _ h
 unfold mZ at h ⊢;split
 .rename_i hk;rw[aF hk] at h;exact G7 n l a fin h
 rename_i U;rw[aB U] at h;split
 .rename_i hk;rw[aF hk] at h;simp[eK] at h
 rename_i h4;rw[aB h4] at h;have hk:=rV (by simpa using h4:bL l a 91=ab);split
 .rename_i h5;rw[aF h5] at h;split
  .rename_i hb;rw[aF hb,hb] at h;simp at h
  .rename_i hb;rw[aB hb] at h;rw[h2 _ _ h];omega
 .rename_i h5;rw[aB h5] at h;rw[h2 _ _ h];omega
def arF(k:UInt8)(c:az)(l:List aC)(a:Nat)(fin:Int):∃a' : Nat,(mX k c l a fin).2.1=(a' : Nat)/\(a<=l.length->a' <= l.length):=by
 have No:∀kind,bL l (a:Nat) kind=ab->∃a' : Nat,((a:Int)+1)=(a' : Nat)/\(a<=l.length->a' <= l.length):=λkind hk=>by
  have:=rV hk
  exact⟨a+1,rfl,λ_=>by omega⟩
 have eE:∃a' : Nat,(a:Int)=(a' : Nat)/\(a<=l.length->a' <= l.length):=⟨a,rfl,id⟩;unfold mX;split
 .split
  .rename_i hk;exact No _ hk
  .exact eE
 split
 .split
  .exact eE
  .rename_i hb;have hk:bL l (a:Nat) 123=true:=by
    by_cases hk:bL l (a:Nat) 123=ab
    .exact hk
    .unfold sY at hb;rw[aB hk] at hb;simp[eK] at hb
   exact No _ hk
 split
 .split
  .rename_i hk;exact No _ hk
  .exact eE
 have hg:vw (if k=114 then mZ (bp l) else jM (bp l)):=by split;exact aaX _;exact G7 _
 have xR:=hg l (a:Nat) fin;rw[show(if k=114 then mZ (bp l) else jM (bp l)) l (a:Nat) fin=(if k=114 then mZ (bp l) l (a:Nat) fin else jM (bp l) l (a:Nat) fin) by split<;>rfl] at xR;generalize (if k=114 then mZ (bp l) l (a:Nat) fin else jM (bp l) l (a:Nat) fin)=g at xR ⊢;cases hb:g.aM
 .obtain⟨_,U,h2⟩:=xR hb;simp only[hb,dP,cF];exact⟨g.next.toNat,by omega,λ_=>by omega⟩
 .simp only[hb,cM];exact eE
def In(N p:Int):Prop:=0<=p/\p<=N
inductive vI(N:Int):aC->Prop
 | mk (t:Tok) (ks:List aC) (e:Int):In N t.pos->In N e->(∀k∈ks,vI N k)->vI N (.mk t ks e)
variable{N:Int}
def vI.fin{t:aC}(h:vI N t):In N t.fin:=by cases h;assumption
def vI.pos{t:aC}(h:vI N t):In N t.tok.pos:=by cases h;assumption
def vI.ak{t:aC}(h:vI N t):∀k∈t.ak,vI N k:=by cases h;assumption
def mn(N:Int)(l:List aC):Prop:=∀k∈l,vI N k
section
variable {N:Int} (h0:0<=N)
include h0
theorem uV:In N 0:=⟨by omega,h0⟩
variable{a:Int}
theorem uc{fin:Int}(hl:mn N l)(hf:In N fin):In N (pO l a fin):=by
 unfold pO;split
 .cases h:l[a.toNat]? with
  | none=>exact hf
  | some t=>exact(hl t (rF h)).pos
 .exact hf
theorem rz{fin:Int}(hl:mn N l)(hf:In N fin):In N (eK l a fin).pos:=uc h0 hl hf
theorem JW(hl:mn N l):mn N (bU l a).ak/\In N (bU l a).fin:=by
 unfold bU;cases h:l[a.toNat]? with
 | none=>exact⟨by simp[mn,aC.zero,aC.ak],by exact uV h0⟩
 | some t=>exact⟨(hl t (rF h)).ak,(hl t (rF h)).fin⟩
def xm(N:Int)(g:List aC->Int->Int->cI):Prop:=∀l a fin,mn N l->In N fin->In N (g l a fin).pos
theorem I0(k:Int):xm N (uY k):=λl a fin hl hf=>by
 unfold uY;split;exact uV h0;exact rz h0 hl hf
theorem Jd:xm N nameAt:=λl a fin hl hf=>by
 unfold nameAt;split;exact uV h0;exact rz h0 hl hf
theorem PL{one:Int->cI}{l:List aC}(h:∀a,In N (one a).pos):∀n a out,In N (gO one l n a out).2.pos
 | 0,_,_=>uV h0
 | n + 1, a, out => by
  simp only[gO];split
  .exact h a
  .split
   .exact PL h n _ _
   .exact h a
variable{g:List aC->Int->Int->cI}
theorem DV(hg:xm N g)(hl:mn N l)(e:Bool):In N (wholeAt g (bU l a) e).2.pos:=by
 obtain⟨hk,hf⟩:=JW h0 (a:=a) hl;unfold wholeAt;split
 .exact uV h0
 .simp only;split
  .exact rz h0 hk hf
  .exact PL h0 (λa=>hg _ a _ hk hf) _ _ _
theorem II{w:List Nd × cI}{mk:List Nd->Nd}{next:Int}(h:In N w.2.pos):In N (o6 w mk next).pos:=by
 unfold o6;split;exact h;exact uV h0
theorem XL{g:cI}{f:Nd->Nd}(h:In N g.pos):In N (g.put f).pos:=by
 unfold cI.put;split<;>exact h
theorem at2:xm N B7:=λl a fin hl hf=>by
 unfold B7;split
 .exact rz h0 hl hf
 split
 .exact rz h0 hl hf
 split
 .exact rz h0 hl hf
 split
 .exact DV h0 (Jd h0) hl _
 .exact uV h0
theorem Sx:∀n,xm N (rJ n)
 | 0=>I0 h0 2
 | n + 1 => λl a fin hl hf => by
  unfold rJ;split
  .exact I0 h0 2 l a fin hl hf
  split
  .exact II h0 (DV h0 (Jd h0) hl _)
  split
  .exact II h0 (DV h0 (Sx n) hl _)
  split
  .exact II h0 (DV h0 (at2 h0) hl _)
  .exact rz h0 hl hf
theorem FF:∀n,xm N (jM n)
 | 0=>I0 h0 1
 | n + 1 => λl a fin hl hf => by
  unfold jM;split
  .exact I0 h0 1 l a fin hl hf
  split
  .exact XL h0 (Sx h0 _ _ _ _ hl hf)
  split
  .exact rz h0 hl hf
  split
  .exact rz h0 hl hf
  .exact II h0 (DV h0 (FF n) hl _)
theorem abS(n:Nat):xm N (tB n):=λl a fin hl hf=>by
 unfold tB;split;exact rz h0 hl hf;exact FF h0 n l a fin hl hf
theorem agE(n:Nat):xm N (A' n):=λl a fin hl hf=>by
 unfold A';split
 .exact rz h0 hl hf
 split
 .exact rz h0 hl hf
 .exact XL h0 (abS h0 n _ _ _ hl hf)
theorem Yf(n:Nat):xm N (mZ n):=λl a fin hl hf=>by
 obtain⟨hk,sG⟩:=JW h0 (a:=a) hl;have h3:∀ks ws next,In N (yn l a ks ws next).pos:=λks ws next=>by
  unfold yn;split;exact rz h0 hk sG;exact uV h0
 have h2:∀ks next,In N (sZ l a ks next).pos:=λks next=>by
  unfold sZ;split
  .split
   .exact Jd h0 _ _ _ hk sG
   .exact h3 _ _ _
  .exact h3 _ _ _
 unfold mZ;split
 .exact FF h0 n l a fin hl hf
 split
 .exact rz h0 hl hf
 split
 .split
  .exact PL h0 (λi=>agE h0 n _ i _ hk sG) _ _ _
  .exact h2 _ _
 .exact h2 _ _
theorem Z2{fin:Int}(hl:mn N l)(hf:In N fin):In N (sY l a fin).2.pos:=by
 unfold sY;split;exact DV h0 (Jd h0) hl _;exact rz h0 hl hf
def QJ(N p:Int):Prop:=p = -1\/In N p
theorem Xd{l:List aC}{fin:Int}(hl:mn N l)(hf:In N fin):∀n a acc,QJ N (wP l fin n a acc).2
 | 0,_,_=>.inl rfl
 | n + 1, a, acc => by
  simp only[wP];split
  .refine Or.inr ?_;simp only;exact uc h0 hl hf
  split
  .refine Or.inr ?_;simp only;exact uc h0 hl hf
  split
  .refine Or.inr ?_;simp only;exact uc h0 hl hf
  split
  .exact .inl rfl
  split
  .refine Or.inr ?_;simp only;exact uc h0 hl hf
  .exact Xd hl hf n _ _
theorem arA(hl:mn N l):QJ N (Dz (bU l a)).2:=by
 obtain⟨hk,hf⟩:=JW h0 (a:=a) hl;unfold Dz;split
 .exact .inl rfl
 .exact Xd h0 hk hf _ _ _
theorem avZ{l:List Tok}(hl:∀t∈l,In N t.pos):∀n i to,mn N (pR l n i to):=by
 have hp:∀i,In N (rY l i):=λi=>by
  unfold rY;cases h:l[i]? with
  | none=>exact uV h0
  | some t=>exact hl t (rF h)
 have ht:∀i,In N (jW l i).pos:=λi=>by
  unfold jW;cases h:l[i]? with
  | none=>exact uV h0
  | some t=>exact hl t (rF h)
 intro n;induction n with
 | zero=>intro i to;simp[pR,mn]
 | succ n ih =>
  intro i to;simp only[pR];split
  .split
   .intro k hk
    rcases lq.1 hk with rfl | hk
    .exact .mk _ _ _ (ht i) (hp _) (ih _ _)
    .exact ih _ _ k hk
   .intro k hk
    rcases lq.1 hk with rfl | hk
    .exact .mk _ _ _ (ht i) (hp _) (by simp)
    .exact ih _ _ k hk
  .simp[mn]
end
def I3{N:Int}:∀n (p:Nat) (s:List UInt8) (acc:List Tok),(p:Int)+s.length<=N->(∀t∈acc,In N t.pos)->(∀t∈(fG n p s acc).1,In N t.pos)/\∀a,(fG n p s acc).2=aa a->In N a
 | 0,_,_,acc,_,h=>⟨by simpa [fG] using h,by simp[fG]⟩
 | n+1,_,[],acc,_,h=>⟨by simpa [fG] using h,by simp[fG]⟩
 | n + 1, p, c :: r, acc, hp, h => by
  simp only[dm] at hp;simp only[fG];split
  .exact⟨h,by simp⟩
  split
  .rename_i hr;have hle:(fP (c::r)).length<=(c::r).length:=(aaD _).length_le;refine I3 n _ _ _ ?_ ?_
   .rw[KD];simp only[dm] at hle ⊢;omega
   .intro t ht
    rcases fi.1 ht with ht | ht
    .exact h t ht
    .rw[kH] at ht;subst ht;constructor<;>simp only<;>omega
  split
  .refine I3 n _ _ _ (by omega) ?_;intro t ht
   rcases fi.1 ht with ht | ht
   .exact h t ht
   .rw[kH] at ht;subst ht;constructor<;>simp only<;>omega
  split
  .exact I3 n _ _ _ (by omega) h
  .refine⟨by simp,λa ha=>?_⟩;simp only[bc] at ha;subst ha;constructor<;>omega
def V0(s:List UInt8):(∀t∈(eG s).1,In s.length t.pos)/\∀a,(eG s).2=aa a->In s.length a:=I3 _ _ _ _ (by simp) (by simp)
def Wb(s:List UInt8):mn s.length (iT (eG s).1).1/\∀a,(iT (eG s).1).2=aa a->In s.length a:=by
 have h0:(0:Int)<=s.length:=by omega
 have h:=(V0 s).1;unfold iT;split
 .refine⟨by simp[mn],λa ha=>?_⟩;simp only[bc] at ha;subst ha;unfold rY;cases hq:(eG s).1[(qR (eG s).1 (eG s).1.length 0 []).toNat]? with
  | none=>exact uV h0
  | some t=>exact h t (rF hq)
 .exact⟨avZ h0 h _ _ _,by simp⟩
def hC(sep:List UInt8):List (List UInt8)->List UInt8
 | []=>[]
 | x::xs=>x++xs.flatMap λy=>sep++y
def Vx(sep:List UInt8)(l:List (List UInt8))(y:List UInt8):hC sep (l++[y])=hC sep l++(if 0<l.length then sep else [])++y:=by
 cases l with
 | nil=>simp[hC]
 | cons x xs=>simp[hC]
def IP(l:List (List UInt8)):hC [44] l=bX l:=by cases l<;>rfl
variable{sep:List UInt8}
def ank{l:List (List UInt8)}(h:i<l.length):hC sep (l.take (i+1))=hC sep (l.take i)++(if 0<i then sep else [])++l[i]:=by
 rw[iG h,Vx,iN,xh (KM h)]
def anj{l:List (List UInt8)}:(hC sep (l.take i)).length<=(hC sep l).length:=by
 have key:∀a b:List (List UInt8),(hC sep a).length<=(hC sep (a++b)).length:=λa b=>by
  cases a with
  | nil=>simp[hC]
  | cons x xs=>simp[hC,xd]
 have:=key (l.take i) (l.drop i)
 rwa [rG] at this
def h_(p:aA × aA):List UInt8:=p.1.au++[60]++p.2.au
def vP(l:List (List UInt8)):List UInt8:=[123]++bX l++[125]
def jE(k:UInt8)(c:az)(n:Nd):List UInt8 :=
 if k=110 then c.name.au
 else if k=102 then bX (c.an.map aA.au)
 else if k=119 then vP (c.an.map aA.au)
 else if k=112 then vP (c.bw.map h_)
 else n.cY
def isTerm(k:UInt8):Bool:=k≠110&&k≠102&&k≠119&&k≠112
def yq(c:az)(x:List (List UInt8) × List Nd)(k:UInt8):List (List UInt8) × List Nd:=(x.1++[jE k c (x.2.headD .zero)],if isTerm k=ab then x.2.tail else x.2)
def iB(c:az)(ks:List UInt8):List (List UInt8) × List Nd:=ks.foldl (yq c) ([(cu c.op).1],[c.left,c.right])
def dO(c:az):List UInt8:=hC [32] (iB c (cu c.op).2).1
def OR(c:az)(ks:List UInt8)(k:UInt8):iB c (ks++[k])=yq c (iB c ks) k:=by simp[iB,yN]
def kg(l:List (aA × aA)):Nat:=(l.map λp=>p.1.au.length+p.2.au.length+2).sum
def asp{l:List (aA × aA)}(h:i<l.length):l[i].1.au.length+l[i].2.au.length+2<=kg l:=by
 induction l generalizing i with
 | nil=>simp at h
 | cons p ps ih =>
  cases i with
  | zero=>simp[kg]
  | succ i =>
   have:=ih (i:=i) (by simp at h;omega)
   simp only[kg,cz,py,GN] at this ⊢;omega
def OW(l:List (aA × aA)):(bX (l.map h_)).length<=kg l/\l.length<=kg l:=by
 induction l with
 | nil=>simp[bX,kg]
 | cons p ps ih =>
  have key:∀qs:List (aA × aA),((qs.map h_).flatMap λy=>44::y).length<=kg qs:=λqs=>by
   induction qs with
   | nil=>simp
   | cons q qs ih=>simp[h_,kg] at ih ⊢;omega
  have:=key ps
  have:=ih.2
  simp[bX,h_,kg] at *;omega
def az.wt(c:az):Nat:=c.name.au.length+e_ c.an+kg c.bw+c.left.wt+c.right.wt
def B3(l:List aA):(bX (l.map aA.au)).length<=e_ l/\l.length<=e_ l:=⟨DZ l,by
 induction l with
 | nil=>simp
 | cons w ws ih=>simp[e_] at ih ⊢;omega⟩
def ar7{k:UInt8}{n:Nd}(h:n.wt<=c.wt):(jE k c n).length<=c.wt+2:=by
 have U:=(B3 c.an).1;have h2:=(OW c.bw).1;have h3:=ZN n;have h4:c.wt=c.name.au.length+e_ c.an+kg c.bw+c.left.wt+c.right.wt:=rfl;unfold jE vP;split
 .omega
 split
 .omega
 split
 .simp;omega
 split
 .simp;omega
 .omega
def awX(op:Int):(cu op).1.length<=8:=by
 unfold cu;split
 .rename_i U;have aD:op.toNat<16:=by omega
  generalize op.toNat=n at aD ⊢;have key:∀n<16,(iZ.getD n ([],[])).1.length<=8:=by decide
  exact key n aD
 .simp
def Kj:Nd.zero.wt=4:=by simp[Nd.zero,Nd.wt,e_,fV]
def axz(n:Nd):4<=n.wt:=by cases n;simp only[Nd.wt];omega
def DA(c:az)(ks:List UInt8):(∀x∈(iB c ks).1,x.length<=c.wt+8)/\(∀n∈(iB c ks).2,n.wt<=c.wt)/\(iB c ks).1.length=ks.length+1/\(iB c ks).2=[c.left,c.right].drop (ks.filter isTerm).length:=by
 have hc:c.wt=c.name.au.length+e_ c.an+kg c.bw+c.left.wt+c.right.wt:=rfl
 rcases QR ks with rfl | ⟨ys,k,rfl⟩
 .have:=awX c.op
  refine⟨?_,?_,rfl,rfl⟩
  .intro x hx;simp[iB] at hx;subst hx;omega
  .intro n hn;simp[iB] at hn;rcases hn with rfl | rfl<;>omega
 .obtain⟨i1,i2,i3,i4⟩:=DA c ys;rw[List.concat_eq_append,OR];have hz:((iB c ys).2.headD .zero).wt<=c.wt:=by
   cases hq:(iB c ys).2 with
   | nil=>have:=axz c.left;simp[Kj];omega
   | cons n ns=>exact i2 n (by rw[hq];simp)
  refine⟨?_,?_,?_,?_⟩
  .intro x hx
   rcases fi.1 hx with hx | hx
   .exact i1 x hx
   .rw[kH] at hx;subst hx;have:=ar7 (k:=k) hz;omega
  .intro n hn;simp only[yq] at hn;split at hn
   .exact i2 n (List.mem_of_mem_tail hn)
   .exact i2 n hn
  .simp[yq,i3]
  .simp only[yq,i4];cases h:isTerm k
   .simp[h]
   .simp[h]
termination_by ks.length
decreasing_by subst_vars;simp
def Vw{B:Nat}:∀(l:List (List UInt8)),(∀x∈l,x.length<=B)->(hC [32] l).length<=l.length*(B+1)
 | [],_=>by simp[hC]
 | x :: xs, h => by
  have hx:=h x (by simp);have key:∀ys:List (List UInt8),(∀x∈ys,x.length<=B)->(ys.flatMap λy=>[32]++y).length<=ys.length*(B+1):=λys=>by
   induction ys with
   | nil=>simp
   | cons y ys ih =>
    intro h;have U:=h y (by simp);have h2:=ih λx hx=>h x (by simp[hx])
    simp only[qI,bM,dm,dQ,jw] at h2 ⊢;omega
  have:=key xs λx hx=>h x (by simp[hx])
  simp only[hC,bM,dm,jw] at this ⊢;omega
def TK(op:Int):∀i<(cu op).2.length,∀k,(cu op).2[i]?=aa k->isTerm k=ab->(((cu op).2.take i).filter isTerm).length<2:=by
 unfold cu;split
 .rename_i U;have aD:op.toNat<16:=by omega
  generalize op.toNat=n at aD ⊢;have key:∀n<16,∀i<(iZ.getD n ([],[])).2.length,∀k∈(iZ.getD n ([],[])).2[i]?,isTerm k=ab->(((iZ.getD n ([],[])).2.take i).filter isTerm).length<2:=by decide
  intro i hi k hk;exact key n aD i hi k hk
 .simp
def Hg:List V:=.int .i64 0::aq 8 (.int .u64 0)
def Tu:List V:=.aG []::.int .i64 0::aq 8 (.int .u64 0)
structure bO where
 v:Int
 c:bn
structure bV where
 name:List UInt8
 a:bO
structure ec where
 fs:List bV
 tail:Int
structure dG where
 op:Int
 lat:Int
 code:List bu
 to:bO
 a:ec
 b:ec
 v:Int
 field:List UInt8
def bn.Ho{P:bn->Prop}(h:∀(a b c d e f g i:br) (hl:[a,b,c,d,e,f,g,i].length=8),P ⟨[a,b,c,d,e,f,g,i],hl⟩)(e:bn):P e:=by
 obtain⟨w,hl⟩:=e
 match w,hl with
 | [a,b,c,d,e,f,g,i],hl=>exact h a b c d e f g i hl
def bO.enc(x:bO):List V:=.int .i64 x.v::x.c.enc
def bV.enc(x:bV):List V:=.aG x.name::x.a.enc
def ec.enc(x:ec):List V:=[.sl .no 10 (x.fs.map bV.enc),.int .i64 x.tail]
def cO(op lat:Int)(c:V)(to:bO)(fa:V)(ta:Int)(fb:V)(tb v:Int)(f:List UInt8):List V:=.int .i64 op::.int .i64 lat::c::(to.enc++[fa,.int .i64 ta,fb,.int .i64 tb,.int .i64 v,.aG f])
def dG.enc(x:dG):List V:=cO x.op x.lat (.sl .no 10 (x.code.map bu.enc)) x.to (.sl .no 10 (x.a.fs.map bV.enc)) x.a.tail (.sl .no 10 (x.b.fs.map bV.enc)) x.b.tail x.v x.field
def bO.zero:bO:=⟨0,.zero⟩
def ec.zero:ec:=⟨[],0⟩
def dG.zero:dG:=⟨0,0,[],.zero,.zero,.zero,0,[]⟩
def kP:List V:=cO 0 0 (.sl .aZ 10 []) .zero (.sl .aZ 10 []) 0 (.sl .aZ 10 []) 0 0 []
def bO.ext'{x y:bO}(h:x.v=y.v)(k:x.c=y.c):x=y:=by cases x;cases y;simp only at h k;subst h;subst k;rfl
def bV.ext'{x y:bV}(h:x.name=y.name)(k:x.a=y.a):x=y:=by cases x;cases y;simp only at h k;subst h;subst k;rfl
instance:DecidableEq bO:=λx y=>if h:x.v=y.v/\x.c=y.c then isTrue (bO.ext' h.1 h.2) else isFalse λe=>h ⟨e▸rfl,e▸rfl⟩
instance:DecidableEq bV:=λx y=>if h:x.name=y.name/\x.a=y.a then isTrue (bV.ext' h.1 h.2) else isFalse λe=>h ⟨e▸rfl,e▸rfl⟩
section
variable {x y:bO} {n:Nat} {i:Int} {e:bn}
def bO.dd:x.enc.length=9:=by simp[bO.enc,bn.dd]
def bO.gN:cW x.enc=true:=by simp[bO.enc,cW,V.one,bn.gN]
def bO.dV:bT x.enc=true:=by simp[bO.enc,bT,V.c9,bn.dV]
def bO.dL:bD x.enc=x.enc:=by simp[bO.enc,bD,V.erase,bn.dL]
def bO.cP:bR n x.enc=true:=by simp[bO.enc,bR,V.lo,bn.cP]
def bO.fN:takeN 9 x.enc=aa x.enc:=by have:=Ap (c:=x.enc);rwa [bO.dd] at this
def bO.iR:bP ab 9 x.enc=aa (.agg x.enc):=by rw[zM,bO.fN];rfl
def bO.ib:cw 9 x.enc=true:=by have:=zj (c:=x.enc);rwa [bO.dd] at this
def bO.gC:over y.enc x.enc=x.enc:=vb (by rw[bO.dd,bO.dd])
theorem bO.O7:bP ar 1 x.enc=aa (.int .i64 x.v):=rfl
def bO.O3:takeN 8 (x.enc.drop 1)=aa x.c.enc:=by show takeN 8 x.c.enc=_;exact bn.fN
def bO.JC:Hg=bO.zero.enc:=by rw[bO.enc];show _=V.int .i64 0::bn.zero.enc;rw[<-bn.yl];rfl
def bO.b_v:over x.enc [.int .i64 i]=(bO.mk i x.c).enc:=by rw[bO.enc,qz,nR];rfl
theorem bO.Ei:cw 1 x.enc=true:=rfl
def bO.ab':cw 8 (x.enc.drop 1)=true:=by show cw 8 x.c.enc=ab;exact bn.ib
def bO.K8:setAt x.enc 1 e.enc=(bO.mk x.v e).enc:=by rw[bO.enc,kh,ng,bn.gC];rfl
def bO.rq:fZ [1,1,1,1,1,1,1,1,1] x.enc y.enc=aa (decide (x=y)):=by
 rw[bO.enc,bO.enc,v7,bn.rq,tA];congr 1;rw[<-yG];exact su.2 ⟨λh=>bO.ext' h.1 h.2,λh=>h▸⟨rfl,rfl⟩⟩
def bO.al:=af @bO.dd <| af @bO.gN <| af @bO.dV <| af @bO.dL <| af @bO.cP <| af @bO.fN <| af @bO.iR <| af @bO.ib <| af @bO.gC <| af @bO.O7 <| af @bO.O3 <| af @bO.JC <| af @bO.b_v <| af @bO.Ei <| af @bO.ab' <| af @bO.K8 @bO.rq
end
section
variable {x y:bV} {n:Nat} {t:List UInt8} {a:bO}
def bV.dd:x.enc.length=10:=by simp[bV.enc,bO.dd]
def bV.gN:cW x.enc=true:=by simp[bV.enc,cW,V.one,bO.gN]
def bV.dV:bT x.enc=true:=by simp[bV.enc,bT,V.c9,bO.dV]
def bV.dL:bD x.enc=x.enc:=by simp[bV.enc,bD,V.erase,bO.dL]
def bV.cP:bR n x.enc=true:=by simp[bV.enc,bR,V.lo,bO.cP]
def bV.fN:takeN 10 x.enc=aa x.enc:=by have:=Ap (c:=x.enc);rwa [bV.dd] at this
def bV.iR:bP ab 10 x.enc=aa (.agg x.enc):=by rw[zM,bV.fN];rfl
def bV.ib:cw 10 x.enc=true:=by have:=zj (c:=x.enc);rwa [bV.dd] at this
def bV.gC:over y.enc x.enc=x.enc:=vb (by rw[bV.dd,bV.dd])
theorem bV.vh:bP ar 1 x.enc=aa (.aG x.name):=rfl
def bV.O2:takeN 9 (x.enc.drop 1)=aa x.a.enc:=by show takeN 9 x.a.enc=_;exact bO.fN
def bV.JC:Tu=(bV.mk [] .zero).enc:=by rw[bV.enc];show _=V.aG []::bO.zero.enc;rw[<-bO.JC];rfl
def bV.K9:over x.enc [.aG t]=(bV.mk t x.a).enc:=by rw[bV.enc,qz,nR];rfl
theorem bV.Ei:cw 1 x.enc=true:=rfl
def bV.aca:cw 9 (x.enc.drop 1)=true:=by show cw 9 x.a.enc=ab;exact bO.ib
def bV.b_a:setAt x.enc 1 a.enc=(bV.mk x.name a).enc:=by rw[bV.enc,kh,ng,bO.gC];rfl
def bV.rq:fZ [2,1,1,1,1,1,1,1,1,1] x.enc y.enc=aa (decide (x=y)):=by
 rw[bV.enc,bV.enc,LH,bO.rq,tA];congr 1;rw[<-yG];exact su.2 ⟨λh=>bV.ext' h.1 h.2,λh=>h▸⟨rfl,rfl⟩⟩
def bV.al:=af @bV.dd <| af @bV.gN <| af @bV.dV <| af @bV.dL <| af @bV.cP <| af @bV.fN <| af @bV.iR <| af @bV.ib <| af @bV.gC <| af @bV.vh <| af @bV.O2 <| af @bV.JC <| af @bV.K9 <| af @bV.Ei <| af @bV.aca <| af @bV.b_a @bV.rq
end
section
variable {x:ec} {n:Nat} {u w:V}
theorem ec.dd:x.enc.length=2:=rfl
theorem ec.gN:cW x.enc=true:=rfl
theorem ec.dV:bT x.enc=true:=rfl
theorem ec.dL:bD x.enc=x.enc:=rfl
theorem ec.cP:bR n x.enc=true:=rfl
theorem ec.fN:takeN 2 x.enc=aa x.enc:=rfl
theorem ec.iR:bP ab 2 x.enc=aa (.agg x.enc):=rfl
theorem ec.ib:cw 2 x.enc=true:=rfl
theorem ec.gC:over [u,w] x.enc=x.enc:=rfl
theorem ec.F_:bP ar 1 x.enc=aa (.sl .no 10 (x.fs.map bV.enc)):=rfl
theorem ec.O6:bP ar 1 (x.enc.drop 1)=aa (.int .i64 x.tail):=rfl
def ec.al:=af @ec.dd <| af @ec.gN <| af @ec.dV <| af @ec.dL <| af @ec.cP <| af @ec.fN <| af @ec.iR <| af @ec.ib <| af @ec.gC <| af @ec.F_ @ec.O6
end
section
variable {op lat ta tb v i:Int} {c fa fb d:V} {to tp:bO} {r:ec} {f g:List UInt8} {x:dG} {n:Nat}
def uA:(cO op lat c to fa ta fb tb v f).length=18:=by simp[cO,bO.dd]
def K5:takeN 18 (cO op lat c to fa ta fb tb v f)=aa (cO op lat c to fa ta fb tb v f):=by have:=Ap (c:=cO op lat c to fa ta fb tb v f);rwa [uA] at this
def abp:cw 18 (cO op lat c to fa ta fb tb v f)=true:=by have:=zj (c:=cO op lat c to fa ta fb tb v f);rwa [uA] at this
def abB{W4 NZ ZA ZD v' : Int}{c' Ta Tf : V}{f' : List UInt8}:over (cO op lat c to fa ta fb tb v f) (cO W4 NZ c' tp Ta ZA Tf ZD v' f')=cO W4 NZ c' tp Ta ZA Tf ZD v' f' := vb (by rw[uA,uA])
def AU(U:c.one=ab)(h2:fa.one=ab)(h3:fb.one=ab):cW (cO op lat c to fa ta fb tb v f)=true:=by
 have h:=@bO.gN to;simp only[cO,cW,OC,iM,U];rw[W2,h];simp only[cW,OC,W3,h2,h3,Kl]
def Hd(U:c.c9=ab)(h2:fa.c9=ab)(h3:fb.c9=ab):bT (cO op lat c to fa ta fb tb v f)=true:=by
 have h:=@bO.dV to;have app:∀{a b:List V},bT a=ab->bT b=ab->bT (a++b)=true:=by
  intro a;induction a with
  | nil=>intro b _ h;exact h
  | cons x a ih=>intro b U h2;simp only[bT,bg,il] at U ⊢;exact⟨U.1,ih U.2 h2⟩
 simp only[cO,bT,V.c9,iM,U];exact app h (by simp[bT,V.c9,h2,h3])
def abz(U:c.lo n=ab)(h2:fa.lo n=ab)(h3:fb.lo n=ab):bR n (cO op lat c to fa ta fb tb v f)=true:=by
 have h:=@bO.cP to n;have app:∀{a b:List V},bR n a=ab->bR n b=ab->bR n (a++b)=true:=by
  intro a;induction a with
  | nil=>intro b _ h;exact h
  | cons x a ih=>intro b U h2;simp only[bR,bg,il] at U ⊢;exact⟨U.1,ih U.2 h2⟩
 simp only[cO,bR,V.lo,iM,U];exact app h (by simp[bR,V.lo,h2,h3])
def Hc:bD (cO op lat c to fa ta fb tb v f)=cO op lat c.erase to fa.erase ta fb.erase tb v f:=by
 have h:=@bO.dL to;have app:∀{a b:List V},bD (a++b)=bD a++bD b:=by
  intro a;induction a with
  | nil=>intro b;rfl
  | cons x a ih=>intro b;simp only[bD,il,ih]
 simp only[cO,bD,V.erase,app,h]
def y1:(cO op lat c to fa ta fb tb v f).drop 12=[fa,.int .i64 ta,fb,.int .i64 tb,.int .i64 v,.aG f]:=by
 simp only[cO,D7];exact List.drop_left' bO.dd
theorem abq:bP ar 1 (cO op lat c to fa ta fb tb v f)=aa (.int .i64 op):=rfl
theorem abr:bP ar 1 ((cO op lat c to fa ta fb tb v f).drop 1)=aa (.int .i64 lat):=rfl
theorem abx:bP ar 1 ((cO op lat c to fa ta fb tb v f).drop 2)=aa c:=rfl
def aby:takeN 9 ((cO op lat c to fa ta fb tb v f).drop 3)=aa to.enc:=PX bO.dd
def abt:takeN 2 ((cO op lat c to fa ta fb tb v f).drop 12)=aa [fa,.int .i64 ta]:=by rw[y1];rfl
def abu:takeN 2 ((cO op lat c to fa ta fb tb v f).drop 14)=aa [fb,.int .i64 tb]:=by rw[show 14=12+2 from rfl,<-yL,y1];rfl
def abv:bP ar 1 ((cO op lat c to fa ta fb tb v f).drop 16)=aa (.int .i64 v):=by rw[show 16=12+4 from rfl,<-yL,y1];rfl
def abw:bP ar 1 ((cO op lat c to fa ta fb tb v f).drop 17)=aa (.aG f):=by rw[show 17=12+5 from rfl,<-yL,y1];rfl
theorem abh:cw 1 (cO op lat c to fa ta fb tb v f)=true:=rfl
theorem abi:cw 1 ((cO op lat c to fa ta fb tb v f).drop 1)=true:=rfl
theorem abn:cw 1 ((cO op lat c to fa ta fb tb v f).drop 2)=true:=rfl
def abo:cw 9 ((cO op lat c to fa ta fb tb v f).drop 3)=true:=by obtain⟨tv,te⟩:=to;induction te using bn.Ho;rfl
def abj:cw 2 ((cO op lat c to fa ta fb tb v f).drop 12)=true:=by rw[y1];rfl
def abk:cw 2 ((cO op lat c to fa ta fb tb v f).drop 14)=true:=by rw[show 14=12+2 from rfl,<-yL,y1];rfl
def abl:cw 1 ((cO op lat c to fa ta fb tb v f).drop 16)=true:=by rw[show 16=12+4 from rfl,<-yL,y1];rfl
def abm:cw 1 ((cO op lat c to fa ta fb tb v f).drop 17)=true:=by rw[show 17=12+5 from rfl,<-yL,y1];rfl
def abC:over (cO op lat c to fa ta fb tb v f) [.int .i64 i]=cO i lat c to fa ta fb tb v f:=by rw[cO,qz,nR];rfl
def abD:setAt (cO op lat c to fa ta fb tb v f) 1 [.int .i64 i]=cO op i c to fa ta fb tb v f:=by rw[cO,kh,ng,qz,nR];rfl
def abK:setAt (cO op lat c to fa ta fb tb v f) 2 [d]=cO op lat d to fa ta fb tb v f:=by rw[cO,kh,kh,ng,qz,nR];rfl
def abL:setAt (cO op lat c to fa ta fb tb v f) 3 tp.enc=cO op lat c tp fa ta fb tb v f:=by
 rw[cO,kh,kh,kh,ng,W7 (by rw[bO.dd,bO.dd];exact bY _),bO.gC];rfl
def CA{m:List V}{k:Nat}:setAt (cO op lat c to fa ta fb tb v f) (12+k) m = .int .i64 op::.int .i64 lat::c::(to.enc++setAt [fa,.int .i64 ta,fb,.int .i64 tb,.int .i64 v,.aG f] k m):=by
 rw[show 12+k=(9+k)+1+1+1 by omega,cO,kh,kh,kh];congr 3;have key:∀(a b:List V) (n:Nat),setAt (a++b) (a.length+n) m=a++setAt b n m:=by
  intro a;induction a with
  | nil=>intro b n;rw[dQ,j6];rfl
  | cons x a ih=>intro b n;rw[il,dm,show a.length+1+n=(a.length+n)+1 by omega,kh,ih];rfl
 have:=key to.enc [fa,.int .i64 ta,fb,.int .i64 tb,.int .i64 v,.aG f] k
 rw[bO.dd] at this;exact this
def abE:setAt (cO op lat c to fa ta fb tb v f) 12 [d,.int .i64 i]=cO op lat c to d i fb tb v f:=CA (k:=0)
def abG:setAt (cO op lat c to fa ta fb tb v f) 14 [d,.int .i64 i]=cO op lat c to fa ta d i v f:=CA (k:=2)
def abI:setAt (cO op lat c to fa ta fb tb v f) 16 [.int .i64 i]=cO op lat c to fa ta fb tb i f:=CA (k:=4)
def abJ:setAt (cO op lat c to fa ta fb tb v f) 17 [.aG g]=cO op lat c to fa ta fb tb v g:=CA (k:=5)
def abF:setAt (cO op lat c to fa ta fb tb v f) 12 r.enc=cO op lat c to (.sl .no 10 (r.fs.map bV.enc)) r.tail fb tb v f:=CA (k:=0)
def abH:setAt (cO op lat c to fa ta fb tb v f) 14 r.enc=cO op lat c to fa ta (.sl .no 10 (r.fs.map bV.enc)) r.tail v f:=CA (k:=2)
def dG.dL:bD x.enc=x.enc:=Hc
def dG.dV:bT x.enc=true:=Hd rfl rfl rfl
def gF:=af @uA <| af @K5 <| af @abp <| af @abB <| af @abq <| af @abr <| af @abx <| af @aby <| af @abt <| af @abu <| af @abv <| af @abw <| af @abh <| af @abi <| af @abn <| af @abo <| af @abj <| af @abk <| af @abl <| af @abm <| af @abC <| af @abD <| af @abK <| af @abL <| af @abE <| af @abG <| af @abI <| af @abJ <| af @abF @abH
end
def fm(op:Int)(k:UInt8):Nat:=(cu op).2.count k
def qu(l:List (List UInt8)):Bool:=l.all cV
def az.nP(c:az):Bool:=if fm c.op 110=0 then decide (c.name.au=[]) else cV c.name.au
def az.kA(c:az):Bool :=
 if 0<fm c.op 119 then decide (0<c.an.length)&&qu (c.an.map aA.au)
 else if 0<fm c.op 102 then decide (c.an.length=1)&&qu (c.an.map aA.au)
 else decide (c.an.length=0)
def pG(p:aA × aA):Bool:=cV p.1.au&&cV p.2.au
def az.mi(c:az):Bool:=if fm c.op 112=0 then decide (c.bw.length=0) else c.bw.all pG
def az.kE(c:az):Bool :=
 if 0<fm c.op 116 then c.left.eP&&c.right.eP
 else if 0<fm c.op 114 then c.left.jF&&c.right.jF
 else c.left.c_ .zero&&c.right.c_ .zero
def az.fp(c:az):Bool:=decide (0<=c.op/\c.op<=15)&&c.nP&&c.kA&&c.mi&&c.kE
def ml:List (aA × aA)->List (aA × aA)->Bool
 | [],[]=>ab
 | p::ps,q::qs=>decide (p.1.au=q.1.au)&&decide (p.2.au=q.2.au)&&ml ps qs
 | _,_=>ar
def az.c_(a b:az):Bool:=decide (a.op=b.op)&&decide (a.name.au=b.name.au)&&eH a.an b.an&&ml a.bw b.bw&&a.left.c_ b.left&&a.right.c_ b.right
def pX(s:aH)(lat:Nat)(n:Nd):bO:=if n.kind=1 then ⟨cN (jK s.vars n.au),.zero⟩ else ⟨-1,(gx (nV s lat) (n.ak.getD 0 jb)).1⟩
def sC(s:aH)(lat:Nat)(k:Nd):bV:=⟨k.au,pX s lat (k.ak.getD 0 jb)⟩
def wV(s:aH):List aA->Int
 | []=>-1
 | w::_=>cN (jK s.vars w.au)
def avD{s:aH}:∀{l:List aA} (h:0<l.length),wV s (l.take (0+1))=cN (jK s.vars l[0].au)
 | [],h=>by simp at h
 | _::_,_=>rfl
def lS(s:aH)(lat:Nat)(n:Nd):ec:=if n.kind=1 then ⟨[],cN (jK s.vars n.au)⟩ else ⟨n.ak.map (sC s lat),wV s n.an⟩
def J_(s:aH)(v:Option Nat):Int:=match v with | some k=>(match s.vars[k]? with | some x=>x.lat | none=>0) | none=>0
def kN(s:aH)(c:az):dG :=
 if c.op=8 then ⟨8,cZ s c,(mC s (cZ s c) c.left).getD [],pX s (cZ s c).toNat c.right,.zero,.zero,0,[]⟩
 else if c.op=9 then ⟨9,cZ s c,[],.zero,lS s (cZ s c).toNat c.left,lS s (cZ s c).toNat c.right,0,[]⟩
 else ⟨10,J_ s (jK s.vars c.name.au),[],.zero,.zero,.zero,cN (jK s.vars c.name.au),(c.an.getD 0 ⟨[],0⟩).au⟩
def kv(s:aH)(c:az):Bool:=decide (8<=c.op)&&decide (c.op<=10)&&c.fp&&decide ((kQ s c).cls=0)
structure pw(s:aH)(c:az):Prop where
 op:8<=c.op/\c.op<=10
 q:c.fp=ab
 none:∀f∈pA s c,f.cls=0
def IK{s:aH}:kv s c=ab↔pw s c:=by
 simp only[kv,bg,bQ];constructor
 .rintro⟨⟨⟨a,b⟩,d⟩,e⟩;exact⟨⟨a,b⟩,d,(I1 e).2⟩
 .rintro⟨⟨a,b⟩,d,e⟩;exact⟨⟨⟨a,b⟩,d⟩,by rw[kQ,VX e];rfl⟩
section
variable {s:aH} {c:az} {lat:Int}
def J7:∀f∈iD s lat t p k,f.cls≠0:=by
 intro f hf;unfold iD at hf;split at hf
 .split at hf<;>(rw[kH.1 hf];simp)
 .split at hf
  .split at hf
   .rw[kH.1 hf];simp
   .simp at hf
  .simp at hf
variable{w:aA}
def anJ:∀f∈gy s w,f.cls≠0:=by
 intro f hf;unfold gy at hf;split at hf
 .split at hf<;>(rw[kH.1 hf];simp)
 .simp at hf
def Dt{l:List aY}(h:∀f∈l,f.cls≠0)(k:∀f∈l,f.cls=0):l=[]:=by
 cases l with
 | nil=>rfl
 | cons f l=>exact absurd (k f (by simp)) (h f (by simp))
def J9(h:iD s lat t p k=[]):∃v,∃hv:v<s.vars.length,jK s.vars t=aa v/\s.vars[v].kind=k/\(0<=lat->s.vars[v].lat=lat):=by
 unfold iD at h;split at h
 .split at h<;>simp at h
 .rename_i v hv;have aD:=Tj hv;rw[cK aD] at h;simp only at h;split at h
  .simp at h
  .rename_i hn;refine⟨v,aD,hv,?_,λh0=>?_⟩
   .exact Classical.byContradiction λhc=>hn (.inl hc)
   .exact Classical.byContradiction λhc=>hn (.inr ⟨h0,hc⟩)
def anM(h:gy s w=[]):∃k,gV s.ba w.au=aa k/\k<s.ba.length:=by
 unfold gy at h;split at h
 .split at h<;>simp at h
 .rename_i hn;cases hL:gV s.ba w.au with
  | none=>rw[hL] at hn;simp at hn
  | some k=>exact⟨k,rfl,(uG hL).1⟩
def pw.anS(h:pw s c)(h9:c.op=8\/c.op=9):∃k,gV s.ba c.name.au=aa k/\k<s.ba.length:=by
 refine anM (Dt anJ λf hf=>h.none f ?_);unfold pA;rw[aB (by omega),aB (by omega)]
 by_cases h8:c.op=8
 .rw[aF h8];simp[hf]
 .rw[aB h8,aF (by omega)];simp[hf]
def pw.cZ(h:pw s c)(h9:c.op=8\/c.op=9):∃k:Nat,cZ s c=k/\k<s.ba.length:=by
 obtain⟨k,e,hk⟩:=h.anS h9;exact⟨k,by rw[Go.Am.cZ,e];rfl,hk⟩
def O'(h:c.fp=ab):c.nP=ab/\c.kA=ab/\c.mi=ab/\c.kE=true:=by
 simp only[az.fp,bg] at h;exact⟨h.1.1.1.2,h.1.1.2,h.1.2,h.2⟩
def pw.labels(h:pw s c)(h8:c.op=8):c.left.eP=ab/\c.right.eP=true:=by
 have:=(O' h.q).2.2.2
 rw[az.kE,h8] at this;simpa [show fm 8 116=2 from by decide] using this
def pw.rows(h:pw s c)(h9:c.op=9):c.left.jF=ab/\c.right.jF=true:=by
 have:=(O' h.q).2.2.2
 rw[az.kE,h9] at this;simpa [show fm 9 116=0 from by decide,show fm 9 114=2 from by decide] using this
def pw.one(h:pw s c)(fM:c.op=10):∃w,c.an=[w]/\cV w.au=true:=by
 have:=(O' h.q).2.1
 rw[az.kA,fM] at this;simp only[show fm 10 119=0 from by decide,show fm 10 102=1 from by decide,Nat.lt_irrefl,cF,Nat.zero_lt_one,cM,bg,bQ] at this
 match hq:c.an,this.1 with
 | [w],_=>exact⟨w,rfl,by have:=this.2;rw[hq] at this;simpa [qu] using this⟩
def pw.var(h:pw s c)(fM:c.op=10):∃v,∃hv:v<s.vars.length,jK s.vars c.name.au=aa v/\s.vars[v].kind=2:=by
 have:iD s (-1) c.name.au c.name.pos 2=[]:=Dt J7 λf hf=>h.none f (by unfold pA;rw[aF fM];exact hf)
 obtain⟨v,hv,U,h2,_⟩:=J9 this;exact⟨v,hv,U,h2⟩
def pw.right(h:pw s c)(h8:c.op=8):c.right.kind=1\/c.right.kind=7:=by
 have hl:=(h.labels h8).2;rw[Nd.sR] at hl
 by_cases U:c.right.kind=1
 .exact .inl U
 .by_cases h7:c.right.kind=7
  .exact .inr h7
  .rw[aB U,aB h7] at hl
   by_cases Uf:c.right.kind=8\/c.right.kind=9
   .have:=h.none ⟨6,c.right.pos⟩ (by unfold pA;rw[aB (by omega),aB (by omega),aF h8];simp[xx,Uf])
    simp at this
   .rw[aB Uf] at hl;simp at hl
end
def Tt(k:Nd):Prop:=0<k.ak.length/\∀a∈k.ak,a.kind=1\/0<a.ak.length
def JH{n:Nd}(h:n.jF=ab):∀k∈n.ak,Tt k:=by
 rcases DF h with ⟨_,_,_,hf⟩ | ⟨U,h⟩
 .intro k hk;obtain⟨_,_,_,a,ha,hq⟩:=EA (hf k hk);refine⟨by rw[ha];simp,λb hb=>?_⟩;rw[ha] at hb;obtain rfl:=kH.1 hb;have hl:=Eh hq;simp only[Nd.pY,bg,j1,bQ] at hq
  rcases hq.1 with h | h
  .exact .inl h
  .exact .inr (by rw[zK hl h];omega)
 .rw[Nd.sR,aF U] at h;intro k hk;simp only[Nd.lH,bg,bQ] at h
  have:n.ak.length=0:=by have:=h.2;omega
  exact absurd (aaw hk) (by omega)
def Yc{n:Nd}(h:n.jF=ab):n.an.length<=1:=by
 rcases DF h with ⟨_,_,hn,_⟩ | ⟨U,h⟩
 .rcases hn with h | ⟨w,h,_⟩<;>rw[h]<;>simp
 .rw[Nd.sR,aF U] at h;simp only[Nd.lH,bg,bQ] at h
  have:n.an.length=0:=by have:=h.2;omega
  omega
def zT(r:Rl)(p:Int × Int):Rl:=if (0<=p.1/\p.1<(bd r:Nat))/\0<=p.2/\p.2<(bd r:Nat) then r.put p.1.toNat (ln (r.get p.1.toNat) p.2) else r
def ri(n:Int)(l:List (Int × Int)):Rl:=l.foldl zT (Rl.of (min n.toNat 64:Nat) λ_=>0#64)
def aqS{n:Int}{l:List (Int × Int)}(hi:i<l.length):ri n (l.take (i+1))=zT (ri n (l.take i)) l[i]:=by
 rw[ri,ri,iG hi,yN];rfl
def c7(l:List aA):List (List UInt8):=l.map aA.au
def xb{l:List aA}:(c7 l).length=l.length:=by simp[c7]
def BZ(l:List (List UInt8))(p:aA × aA):Int × Int:=(cN (fu l p.1.au),cN (fu l p.2.au))
def lQ(c:az):Rl:=l6 (ri (c.an.length:Nat) (c.bw.map (BZ (c7 c.an))))
def zZ(l:List bz):bz:=⟨ab,l.flatMap bz.bC⟩
def mT(s:aH)(w:aA):List bz:=match gV s.ba w.au with | some k=>(match s.ba[k]? with | some x=>[x.shape] | none=>[]) | none=>[]
def jQ(s:aH)(c:az):bz:=zZ (c.an.flatMap (mT s))
def aH.wO(s:aH):Prop:=s.ok/\∀l∈s.ba,l.shape.bC.length<=100
def kx(op:Int):Bool:=decide (1<=op)&&decide (op<=5)
def nj(op:Int):Bool:=decide (op=6)||decide (op=7)
def o7(s:aH)(t:List UInt8):Bool:=(gV s.ba t).isSome
def iA(s:aH)(t:List UInt8):Bool:=(gV s.ba t).isSome||(jK s.vars t).isSome
def ep(b:Bool)(x y:Int):List aY:=if b then [⟨x,y⟩] else []
def qf(s:aH)(c:az):List aY :=
 if kx c.op then ep (iA s c.name.au) 3 c.name.pos
 else ep (!iA s c.name.au) 3 c.name.pos++ep (iA s c.name.au&&!o7 s c.name.au) 4 c.name.pos
def qw(s:aH)(c:az)(i:Nat):List aY :=
 let w:=c.an.getD i ⟨[],0⟩
 if c.op=3 then ep (!iA s w.au) 3 w.pos++ep (iA s w.au&&!o7 s w.au) 4 w.pos
 else ep ((fu ((c7 c.an).take i) w.au).isSome||(nj c.op&&iA s w.au)) 3 w.pos
def lL(s:aH)(c:az)(m:Nat):List aY:=(bA m).flatMap (qw s c)
def tY(c:az)(w:aA):List aY:=ep (fu (c7 c.an) w.au).isNone 3 w.pos
def rp(c:az)(p:aA × aA):List aY:=tY c p.1++tY c p.2
def ub(c:az):List aY:=c.bw.flatMap (rp c)
def qy(c:az):List aY:=if c.op=5/\c.an.length<=64 then ep (!jN (lQ c)) 5 c.pd else []
def lI(s:aH)(c:az):List aY :=
 if c.op=6\/c.op=7 then ep (decide ((64:Int) - (s.vars.length:Nat)<(c.an.length:Nat))) 7 c.pos
 else ep (decide ((if c.op=3 then(8:Int) else if c.op=4 then 8 else 64)<((if c.op=3 then(jQ s c).bC.length else c.an.length):Nat))||decide (16<=s.ba.length)) 7 c.pos
def r6(s:aH)(c:az):List aY:=qf s c++lL s c c.an.length++ub c++qy c++lI s c
def jT(s:aH)(c:az):aY:=if kx c.op||nj c.op then hD (r6 s c) else .zero
section
variable {s:aH} {c:az}
def s6{b:Bool}{x y:Int}:(ep b x y).length<=1:=by unfold ep;split<;>simp
def alW:(qf s c).length<=2:=by
 have U:=@s6 (iA s c.name.au) 3 c.name.pos;have h2:=@s6 (!iA s c.name.au) 3 c.name.pos;have h3:=@s6 (iA s c.name.au&&!o7 s c.name.au) 4 c.name.pos;unfold qf;split
 .omega
 .rw[bM];omega
def apQ{i:Nat}:(qw s c i).length<=2:=by
 unfold qw;simp only;split
 .rw[bM];have h2:=@s6 (!iA s (c.an.getD i ⟨[],0⟩).au) 3 (c.an.getD i ⟨[],0⟩).pos;have h3:=@s6 (iA s (c.an.getD i ⟨[],0⟩).au&&!o7 s (c.an.getD i ⟨[],0⟩).au) 4 (c.an.getD i ⟨[],0⟩).pos;omega
 .exact yQ s6 (by omega)
def WQ{m:Nat}:lL s c (m+1)=lL s c m++qw s c m:=by rw[lL,iF,xd];simp[lL]
def Ov:∀{m:Nat},(lL s c m).length<=2*m
 | 0=>by simp[lL]
 | m + 1 => by
  have U:=@Ov m;have h2:=@apQ s c m;rw[WQ,bM];omega
def ash{p:aA × aA}:(rp c p).length<=2:=by
 unfold rp tY;rw[bM];have U:=@s6 (fu (c7 c.an) p.1.au).isNone 3 p.1.pos;have h2:=@s6 (fu (c7 c.an) p.2.au).isNone 3 p.2.pos;omega
def XF{l:List (aA × aA)}:(l.flatMap (rp c)).length<=2*l.length:=by
 have:=EB (f:=rp c) (m:=2) (l:=l) λ_ _=>ash
 omega
def ari:(qy c).length<=1:=by
 unfold qy;split
 .exact s6
 .simp
def aor:(lI s c).length<=1:=by unfold lI;split<;>exact s6
end
structure Rm where
 bytes:Int
 fE:Int
 fv:Int
def Rm.enc(r:Rm):List V:=[.int .i64 r.bytes,.int .i64 r.fE,.int .i64 r.fv]
section
variable {r:Rm} {n:Nat} {a b c:V}
theorem Rm.dd:r.enc.length=3:=rfl
theorem Rm.gN:cW r.enc=true:=rfl
theorem Rm.dV:bT r.enc=true:=rfl
theorem Rm.dL:bD r.enc=r.enc:=rfl
theorem Rm.cP:bR n r.enc=true:=rfl
theorem Rm.fN:takeN 3 r.enc=aa r.enc:=rfl
theorem Rm.iR:bP ab 3 r.enc=aa (.agg r.enc):=rfl
theorem Rm.ib:cw 3 r.enc=true:=rfl
theorem Rm.gC:over [a,b,c] r.enc=r.enc:=rfl
theorem Rm.r_b:bP ar 1 r.enc=aa (.int .i64 r.bytes):=rfl
theorem Rm.O2:bP ar 1 (r.enc.drop 1)=aa (.int .i64 r.fE):=rfl
theorem Rm.F_:bP ar 1 (r.enc.drop 2)=aa (.int .i64 r.fv):=rfl
def Rm.al:=af @Rm.dd <| af @Rm.gN <| af @Rm.dV <| af @Rm.dL <| af @Rm.cP <| af @Rm.fN <| af @Rm.iR <| af @Rm.ib <| af @Rm.gC <| af @Rm.r_b <| af @Rm.O2 @Rm.F_
end
def nX(op:Int):Bool:=decide (1<=op)&&decide (op<=10)
def xp(op:Int):Bool:=decide (8<=op)&&decide (op<=10)
def k_(r:Rm)(c:az):Bool :=
 (nX c.op&&(decide (1024<((dO c).length:Int))||decide (IntKind.i64.wrap (16383 - (dO c).length)<r.bytes)))||(xp c.op&&decide (64<=r.fE))||(decide (c.op=11)&&decide (16<=r.fv))
def la(s:aH)(r:Rm)(c:az):List aY:=[jT s c,kQ s c]++ep (k_ r c) 7 c.pos++ep (decide (c.op=12)&&decide (r.fv<=1)) 8 c.pos
def Tz(f:Int × Int):aY:=⟨f.1,f.2⟩
def iK(s:aH)(r:Rm)(t:List UInt8):az × dG × aY :=
 if (cG t).2.1≠0 then(.zero,.zero,Tz (cG t).2)
 else if (hD (la s r (cG t).1)).cls≠0 then(.zero,.zero,hD (la s r (cG t).1))
 else((cG t).1,if kv s (cG t).1 then kN s (cG t).1 else .zero,.zero)
def kX(Z:Nat)(l:List aY)(s:aH)(c:az):List V:=[.sl .no 3 (s.ba.map dJ.enc),.sl .no 3 (s.vars.map db.enc),
 .int .i64 c.op,.int .i64 c.pos,.aG c.name.au,.int .i64 c.name.pos,.sl .no 2 (c.an.map aA.enc),.sl .no 4 (c.bw.map gz),.int .i64 c.pd,
 .int .i64 c.left.kind,.int .i64 c.left.pos,.aG c.left.au,.sl .no 2 (c.left.an.map aA.enc),.sl .no 5 (c.left.ak.map Nd.enc),.int .i64 c.right.kind,.int .i64 c.right.pos,.aG c.right.au,.sl .no 2 (c.right.an.map aA.enc),.sl .no 5 (c.right.ak.map Nd.enc),
 .sl (.tk Z) 2 (l.map aY.enc)]
def eZ(D:ah)(b Z:Nat)(l:List aY)(s:aH)(c:az):ah:=(D.set b (kX Z l s c)).a_ Z l.length
section
variable {D σ' : ah} {b b' Z υ n:Nat} {l:List aY} {s:aH} {c:az} {x y:Int} {d:List V}
def NP:(eZ D b Z l s c).box b=aa (kX Z l s c):=by simp[eZ,ah.set,ah.a_]
def x_(h:b' ≠ b):(eZ D b Z l s c).box b' = D.box b' := by simp[eZ,ah.set,ah.a_,h]
def VA:(eZ D b Z l s c).aR Z=aa l.length:=by simp[eZ,ah.set,ah.a_]
def Vz(h:b' ≠ b):(eZ D b Z l s c).set b' d=eZ (D.set b' d) b Z l s c:=by
 simp only[eZ,ah.set,ah.a_,ah.mk.injEq,im];funext z
 by_cases U:z=b'
 .subst U;simp[h]
 .simp[U]
def ann:((eZ D b Z l s c).a_ Z (l.length+1)).set b ((kX Z l s c).take 19++[.sl (.tk Z) 2 (l.map aY.enc++[[.int .i64 x,.int .i64 y]])])=eZ D b Z (l++[⟨x,y⟩]) s c:=by
 simp only[eZ,kX,ah.set,ah.a_,ah.mk.injEq,fX,cz,fe,aY.enc,bM,fI,im];constructor
 .funext z
  by_cases U:z=b<;>simp[U]
 .funext z
  by_cases U:z=Z<;>simp[U]
def ano(h:D.box b=aj)(ht:D.aR Z=aj):D.sub (eZ D b Z l s c):=by
 refine⟨λx cs hx=>?_,λt m hm=>?_,λ_ _ h=>h⟩
 .have:x≠b:=by rintro rfl;rw[h] at hx;simp at hx
  rw[x_ this];exact hx
 .have:t≠Z:=by rintro rfl;rw[ht] at hm;simp at hm
  simp[eZ,ah.set,ah.a_,this];exact hm
def Vy(h:b' ≠ b)(hn:D.box b' = aj):(eZ D b Z l s c).sub (eZ (D.set b' d) b Z l s c):=by
 refine⟨λx cs hx=>?_,λt m hm=>?_,λ_ _ h=>h⟩
 .by_cases U:x=b
  .subst U;rw[NP] at hx ⊢;exact hx
  .rw[x_ U] at hx ⊢
   have:x≠b' := by rintro rfl;rw[hn] at hx;simp at hx
   simp only[ah.set,this,cF];exact hx
 .simpa [eZ,ah.set,ah.a_] using hm
theorem j_f:bP ar 1 ((kX Z l s c).drop 19)=aa (.sl (.tk Z) 2 (l.map aY.enc)):=rfl
theorem j_s:takeN 2 (kX Z l s c)=aa s.enc:=rfl
theorem j_c:takeN 17 ((kX Z l s c).drop 2)=aa c.enc:=rfl
theorem j_l:bP ar 1 (kX Z l s c)=aa (.sl .no 3 (s.ba.map dJ.enc)):=rfl
theorem j_v:bP ar 1 ((kX Z l s c).drop 1)=aa (.sl .no 3 (s.vars.map db.enc)):=rfl
theorem j_o:bP ar 1 ((kX Z l s c).drop 2)=aa (.int .i64 c.op):=rfl
theorem j_p:bP ar 1 ((kX Z l s c).drop 3)=aa (.int .i64 c.pos):=rfl
theorem j_t:bP ar 1 ((kX Z l s c).drop 4)=aa (.aG c.name.au):=rfl
theorem j_a:bP ar 1 ((kX Z l s c).drop 5)=aa (.int .i64 c.name.pos):=rfl
theorem j_n:bP ar 1 ((kX Z l s c).drop 6)=aa (.sl .no 2 (c.an.map aA.enc)):=rfl
theorem j_r:bP ar 1 ((kX Z l s c).drop 7)=aa (.sl .no 4 (c.bw.map gz)):=rfl
theorem j_q:bP ar 1 ((kX Z l s c).drop 8)=aa (.int .i64 c.pd):=rfl
theorem j_h:cw 1 ((kX Z l s c).drop 19)=true:=rfl
theorem j_w{v:V}:setAt (kX Z l s c) 19 [v]=(kX Z l s c).take 19++[v]:=rfl
def j0(s:aH):List V:=[.sl .no 3 (s.ba.map dJ.enc),.sl .no 3 (s.vars.map db.enc),.int .i64 0,.int .i64 0,.aG [],.int .i64 0,.sl .aZ 2 [],.sl .aZ 4 [],.int .i64 0,.int .i64 0,.int .i64 0,.aG [],.sl .aZ 2 [],.sl .aZ 5 [],.int .i64 0,.int .i64 0,.aG [],.sl .aZ 2 [],.sl .aZ 5 [],.sl .aZ 2 []]
def jz(s:aH)(c:az):List V:=(kX 0 [] s c).take 19++[.sl .aZ 2 []]
theorem am9:over [.sl .aZ 3 [],.sl .aZ 3 [],.int .i64 0,.int .i64 0,.aG [],.int .i64 0,.sl .aZ 2 [],.sl .aZ 4 [],.int .i64 0,.int .i64 0,.int .i64 0,.aG [],.sl .aZ 2 [],.sl .aZ 5 [],.int .i64 0,.int .i64 0,.aG [],.sl .aZ 2 [],.sl .aZ 5 [],.sl .aZ 2 []] s.enc=j0 s:=rfl
theorem am8:cw 17 ((j0 s).drop 2)=true:=rfl
def am_:setAt (j0 s) 2 c.enc=jz s c:=by rw[az.enc,az.dc];rfl
theorem anp:(jz s c).length=20:=rfl
theorem anr:cW (jz s c)=true:=rfl
theorem anq:bT (jz s c)=true:=rfl
theorem ans:takeN 20 (jz s c)=aa (jz s c):=rfl
def VC:=af @am9 <| af @am8 <| af @am_ <| af @anp <| af @anr <| af @anq @ans
def jL:=af @NP <| af @VA <| af @j_f <| af @j_s <| af @j_c <| af @j_l <| af @j_v <| af @j_o <| af @j_p <| af @j_t <| af @j_a <| af @j_n <| af @j_r <| af @j_q <| af @j_h @j_w
end
def avr{r:Rl}{p:Int × Int}:(zT r p).n=r.n:=by unfold zT;split<;>rfl
def aqR{n:Nat}{l:List (Int × Int)}:bd (ri n l)=min n 64:=by
 have:∀(l:List (Int × Int)) (r:Rl),(l.foldl zT r).n=r.n:=λl=>by
  induction l with
  | nil=>intro r;rfl
  | cons p l ih=>intro r;rw[yO,ih,avr]
 rw[bd,ri,this];simp[Rl.of]
def jV(s:aH)(c:az):bz :=
 if c.op=1 then ⟨ar,[⟨1,c7 c.an,.zero⟩]⟩
 else if c.op=2 then ⟨ar,[⟨2,c7 c.an,.zero⟩]⟩
 else if c.op=4 then ⟨ar,[⟨3,c7 c.an,lQ c⟩]⟩
 else if c.op=5 then ⟨ar,[⟨4,c7 c.an,lQ c⟩]⟩
 else if c.op=3 then jQ s c
 else ⟨ar,[]⟩
def aA.mp(Y:Int->Int)(w:aA):aA:=⟨w.au,Y w.pos⟩
mutual
def Nd.mp(Y:Int->Int):Nd->Nd
 | .mk k p t ws ks=>.mk k (Y p) t (ws.map (aA.mp Y)) (zQ Y ks)
def zQ(Y:Int->Int):List Nd->List Nd
 | []=>[]
 | n::ns=>n.mp Y::zQ Y ns
end
def aY.mp(Y:Int->Int)(f:aY):aY:=if f.cls=0 then f else ⟨f.cls,Y f.aE⟩
def az.mp(Y:Int->Int)(c:az):az:=⟨c.op,Y c.pos,c.name.mp Y,c.an.map (aA.mp Y),c.bw.map λp=>(p.1.mp Y,p.2.mp Y),Y c.pd,c.left.mp Y,c.right.mp Y⟩
section
variable {Y:Int->Int}
def Wy:∀{l:List Nd},zQ Y l=l.map (Nd.mp Y)
 | []=>rfl
 | n::ns=>by rw[zQ,Wy];rfl
def o_(n:Nd):(n.mp Y).kind=n.kind:=by cases n;rw[Nd.mp];rfl
def BS(n:Nd):(n.mp Y).pos=Y n.pos:=by cases n;rw[Nd.mp];rfl
def pE(n:Nd):(n.mp Y).au=n.au:=by cases n;rw[Nd.mp];rfl
def u7(n:Nd):(n.mp Y).an=n.an.map (aA.mp Y):=by cases n;rw[Nd.mp];rfl
def mh(n:Nd):(n.mp Y).ak=n.ak.map (Nd.mp Y):=by cases n;rw[Nd.mp,<-Wy];rfl
variable{w:aA}
theorem Ce:(w.mp Y).au=w.au:=rfl
theorem Cd:(w.mp Y).pos=Y w.pos:=rfl
def Pb{l:List aA}:jf (l.map (aA.mp Y))=jf l:=by simp[jf,tq,aA.mp]
def VU(n:Nd):(n.mp Y).lH=n.lH:=by simp[Nd.lH,pE,u7,mh]
def RP(n:Nd):(n.mp Y).lX=n.lX:=by simp[Nd.lX,pE,u7]
def atY(n:Nd):(n.mp Y).qD=n.qD:=by simp[Nd.qD,o_,pE,u7,mh,Pb]
def Eg{f:Nd->Bool}:∀{l:List Nd},(∀n∈l,f (n.mp Y)=f n)->(l.map (Nd.mp Y)).all f=l.all f
 | [],_=>rfl
 | n::ns,h=>by rw[cz,vB,vB,h n (by simp),Eg λm hm=>h m (by simp[hm])]
def Nd.ind{P:Nd->Prop}(h:∀n,(∀m∈n.ak,P m)->P n)(n:Nd):P n:=by
 obtain⟨k,hk⟩:∃k,n.cU<=k:=⟨_,bY _⟩;induction k generalizing n with
 | zero=>have:=Nd.uC n;omega
 | succ k ih=>exact h n λm hm=>ih m (by have:=so hm;omega)
def Sv(n:Nd):(n.mp Y).jl=n.jl:=by
 induction n using Nd.ind with
 | h n ih=>simp only[Nd.A5,o_,pE,u7,mh,Pb,VU,RP,aN,Eg ih,Eg λm _=>atY m]
def UG{f:Nd->Bool}(h:∀n,f (n.mp Y)=f n):∀{l:List Nd},wh f (l.map (Nd.mp Y))=wh f l
 | []=>rfl
 | n::_=>h n
def IV(n:Nd):(n.mp Y).eP=n.eP:=by
 induction n using Nd.ind with
 | h n ih=>simp only[Nd.sR,o_,mh,VU,RP,aN,Eg ih,UG Sv]
def abQ(n:Nd):(n.mp Y).pY=n.pY:=by simp only[Nd.pY,o_,IV]
def agz(n:Nd):(n.mp Y).mG=n.mG:=by simp only[Nd.mG,o_,pE,u7,mh,aN,UG abQ]
def atM(n:Nd):(n.mp Y).jF=n.jF:=by simp only[Nd.jF,o_,pE,u7,mh,aN,Pb,Eg λm _=>agz m,IV]
def YQ:∀{l m:List aA},eH (l.map (aA.mp Y)) m=eH l m
 | [],[]=>rfl
 | [],_::_=>rfl
 | _::_,[]=>rfl
 | w::ws,u::us=>by simp only[cz,eH,YQ];rfl
def aup(n:Nd):(n.mp Y).c_ .zero=n.c_ .zero:=by
 simp only[Nd.DG,o_,pE,u7,mh,YQ];congr 1;show dT (n.ak.map (Nd.mp Y)) []=dT n.ak [];cases n.ak<;>rfl
def Ke{l:List aA}:c7 (l.map (aA.mp Y))=c7 l:=by simp[c7,tq,aA.mp]
def atv(c:az):(c.mp Y).fp=c.fp:=by
 have e1:(c.mp Y).an.map aA.au=c.an.map aA.au:=by simp[az.mp,tq,aA.mp]
 have e2:(c.mp Y).nP=c.nP:=rfl;have e3:(c.mp Y).kA=c.kA:=by simp only[az.kA,e1];simp[az.mp]
 have e4:(c.mp Y).mi=c.mi:=by simp only[az.mi];simp[az.mp,tq,aA.mp];rfl
 have e5:(c.mp Y).kE=c.kE:=by simp only[az.kE];simp only[az.mp,IV,atM,aup]
 simp only[az.fp,e2,e3,e4,e5];rfl
def OU{l:List (List UInt8)}:∀{ws:List aA} {s:br},ia l s (ws.map (aA.mp Y))=((ia l s ws).1,(ia l s ws).2.map Y)
 | [],_=>rfl
 | w :: ws, s => by
  simp only[cz,ia,Ce,Cd];cases fu l w.au with
  | none=>rfl
  | some k=>exact OU
def Yq{f:bh}:∀{ks:List Nd} {s:br},rZ f s (ks.map (Nd.mp Y))=((rZ f s ks).1,(rZ f s ks).2.map Y)
 | [],_=>rfl
 | k :: ks, s => by
  simp only[cz,rZ,pE,BS,u7,OU];cases fu f.an k.au with
  | none=>rfl
  | some o =>
   simp only;cases (ia f.an 0#64 k.an).2 with
   | some p=>rfl
   | none=>exact Yq
def axu{f:bh}(n:Nd):s8 f (n.mp Y)=((s8 f n).1,(s8 f n).2.map Y):=by
 unfold s8;rw[o_,u7,mh,OU,Yq,pH,pH,pE,BS];split
 .split
  .rfl
  .split
   .rfl
   .cases fu f.an n.au<;>rfl
 .rfl
def Be(h:i<ks.length):(ks.map (Nd.mp Y)).getD i jb=(ks.getD i jb).mp Y:=by simp[fW,h]
def axv{s:bz}(h:i<ks.length):km s (ks.map (Nd.mp Y)) i=((km s ks i).1,(km s ks i).2.map Y):=by
 rw[km,km,Be h,axu]
def afE{s:bz}(h:s.bC.length<=ks.length):vW s (ks.map (Nd.mp Y))=((vW s ks).1,(vW s ks).2.map Y):=by
 have e:∀i,i<s.bC.length->km s (ks.map (Nd.mp Y)) i=((km s ks i).1,(km s ks i).2.map Y):=λi hi=>axv (by omega)
 have e1:(bA s.bC.length).find? (λi=>(km s (ks.map (Nd.mp Y)) i).2.isSome)=(bA s.bC.length).find? (λi=>(km s ks i).2.isSome) :=
  find_congr λi hi=>by rw[e i (by simpa using hi)];simp
 unfold vW;rw[e1];cases hf:(bA s.bC.length).find? (λi=>(km s ks i).2.isSome) with
 | some i =>
  have hi:i<s.bC.length:=by simpa using KF hf
  simp only[e i hi]
 | none =>
  have e2:(λj=>if j<s.bC.length then(km s (ks.map (Nd.mp Y)) j).1 else 0#64)=λj=>if j<s.bC.length then(km s ks j).1 else 0#64:=funext λj=>by
   split
   .rename_i hj;rw[e j hj]
   .rfl
  simp only[e2];rfl
def LA{s:bz}(n:Nd):gx s (n.mp Y)=((gx s n).1,(gx s n).2.map Y):=by
 have e1:rn s (n.mp Y)=rn s n:=by simp only[rn,o_,mh,aN]
 have e2:kB s (n.mp Y)=(kB s n).map (Nd.mp Y):=by unfold kB;split<;>simp[mh]
 unfold gx;rw[e1,Sv];split
 .rename_i h;rw[e2];refine afE ?_;simp only[bg] at h;obtain⟨⟨U,h2⟩,_⟩:=h;unfold rn at U;unfold kB;cases ht:s.tuple with
  | true=>rw[ht] at U;simp only[Bool.not_true,Cl,bg,bQ] at U;simp[U.2]
  | false =>
   simp only[fH,ht,bg,j1,bQ,dP,false_or] at h2;simp[h2.1.2]
 .simp[BS]
def agX{f:aY}:(f.mp Y).cls=f.cls:=by unfold aY.mp;split<;>rfl
def y_{x y:Int}(h:x≠0):(aY.mk x y).mp Y=⟨x,Y y⟩:=by rw[aY.mp,aB (by exact h)]
def wY{b:Bool}{x y:Int}(h:x≠0):ep b x (Y y)=(ep b x y).map (aY.mp Y):=by cases b<;>simp[ep,y_ h]
def EC{O G:Type}{f:O->List aY}{g:G->List aY}{m:O->G}:∀{l:List O},(∀x∈l,g (m x)=(f x).map (aY.mp Y))->(l.map m).flatMap g=(l.flatMap f).map (aY.mp Y)
 | [],_=>rfl
 | x::l,h=>by rw[cz,qI,qI,fX,h x (by simp),EC λy hy=>h y (by simp[hy])]
def LR{f g:Nat->List aY}:∀{l:List Nat},(∀x∈l,g x=(f x).map (aY.mp Y))->l.flatMap g=(l.flatMap f).map (aY.mp Y)
 | [],_=>rfl
 | x::l,h=>by rw[qI,qI,fX,h x (by simp),LR λy hy=>h y (by simp[hy])]
variable {s:aH} {lat:Int}
def J8:iD s lat t (Y p) k=(iD s lat t p k).map (aY.mp Y):=by
 unfold iD;cases jK s.vars t with
 | none=>simp only;split<;>simp[y_]
 | some v =>
  simp only;cases s.vars[v]? with
  | none=>rfl
  | some x=>simp only;split<;>simp[y_]
def anL:gy s (w.mp Y)=(gy s w).map (aY.mp Y):=by
 unfold gy;rw[Ce,Cd];split
 .split<;>simp[y_]
 .rfl
def afF{n:Nd}(h:0<n.ak.length):vX s lat (n.mp Y)=(vX s lat n).map Y:=by rw[vX,vX,mh,Be h,LA]
def RB(n:Nd):gR s lat (n.mp Y)=(gR s lat n).map (aY.mp Y):=by
 unfold gR;rw[o_,pE,BS,J8];split
 .rfl
 .split
  .unfold vV;rw[mh,aN];split
   .rename_i h;rw[afF h.1];cases vX s lat n<;>simp[y_]
   .rfl
  .rfl
def anD(n:Nd):ff s lat (n.mp Y)=(ff s lat n).map (aY.mp Y):=by
 induction n using Nd.ind with
 | h n ih =>
  rw[BJ,BJ,o_,mh,RB,fX];congr 1;split
  .rfl
  .exact EC ih
def avR:((ks.map (Nd.mp Y)).take i).map Nd.au=(ks.take i).map Nd.au:=by
 rw[<-QX,Cr];exact List.map_congr_left λn _=>pE n
def atF(n:Nd):jS s lat (Y p) (n.mp Y)=(jS s lat p n).map (aY.mp Y):=by
 unfold jS;rw[o_,pE,BS,J8,mh,u7,aN];split
 .rfl
 .split
  .rw[fX,fX];congr 1
   .congr 1
    .refine LR λi hi=>?_
     have hi:i<n.ak.length:=by simpa using hi
     rw[y9,y9,fX,Be hi];congr 1
     .rw[rL,rL,avR,Be hi,pE,BS];split<;>simp[y_]
     .rw[mh];exact EC λm _=>RB m
    .exact EC λw _=>by rw[Ce,Cd,J8]
   .split<;>simp[y_]
  .rfl
def adK:pA s (c.mp Y)=(pA s c).map (aY.mp Y):=by
 have e:cZ s (c.mp Y)=cZ s c:=rfl;unfold pA;rw[e];simp only[az.mp,Ce,Cd,J8,anL,anD,atF];have hd:xx (c.right.mp Y)=(xx c.right).map (aY.mp Y):=by unfold xx;rw[o_,BS];split<;>simp[y_]
 rw[hd]
 repeat' split
 all_goals simp only[fX,fe]
def atj:lQ (c.mp Y)=lQ c:=by
 rw[lQ,lQ]
 have:(c.mp Y).bw.map (BZ (c7 (c.mp Y).an))=c.bw.map (BZ (c7 c.an)):=by
  simp only[az.mp,Ke,Cr];rfl
 rw[this];simp only[az.mp,aN]
def asm:jQ s (c.mp Y)=jQ s c:=by
 rw[jQ,jQ];congr 1;simp only[az.mp,List.flatMap_map];rfl
def aut:r6 s (c.mp Y)=(r6 s c).map (aY.mp Y):=by
 have U:qf s (c.mp Y)=(qf s c).map (aY.mp Y):=by
  show(if kx c.op then ep (iA s c.name.au) 3 (Y c.name.pos) else ep (!iA s c.name.au) 3 (Y c.name.pos)++ep (iA s c.name.au&&!o7 s c.name.au) 4 (Y c.name.pos))=_;unfold qf
  by_cases h:kx c.op=ab
  .rw[aF h,aF h];exact wY (by decide)
  .rw[aB h,aB h,fX,wY (by decide),wY (by decide)]
 have h2:∀i,i<c.an.length->qw s (c.mp Y) i=(qw s c i).map (aY.mp Y):=λi hi=>by
  have e:(c.mp Y).an.getD i ⟨[],0⟩=(c.an.getD i ⟨[],0⟩).mp Y:=by simp[az.mp,fW,hi]
  have e1:c7 (c.mp Y).an=c7 c.an:=Ke;have e2:(c.mp Y).op=c.op:=rfl;unfold qw;rw[e,e1,e2];simp only[Ce,Cd];split
  .rw[fX,wY (by decide),wY (by decide)]
  .exact wY (by decide)
 have h3:ub (c.mp Y)=(ub c).map (aY.mp Y):=by
  have e1:c7 (c.mp Y).an=c7 c.an:=Ke;refine EC (l:=c.bw) (f:=rp c) (g:=rp (c.mp Y)) λp _=>?_
  rw[rp,rp,tY,tY,tY,tY,e1,fX,Ce,Cd,Ce,Cd,wY (by decide),wY (by decide)]
 have h4:qy (c.mp Y)=(qy c).map (aY.mp Y):=by
  unfold qy;rw[atj];simp only[az.mp,aN];split
  .exact wY (by decide)
  .rfl
 have h5:lI s (c.mp Y)=(lI s c).map (aY.mp Y):=by
  unfold lI;rw[asm];simp only[az.mp,aN];split<;>exact wY (by decide)
 have hn:(c.mp Y).an.length=c.an.length:=by simp[az.mp]
 rw[r6,r6,U,h3,h4,h5,hn,lL,lL,LR (f:=qw s c) λi hi=>h2 i (by simpa using hi)];simp only[fX]
def N4{l:List aY}:(hD l).cls=0↔∀f∈l,f.cls=0 :=
 ⟨λh=>(I1 h).2,λh=>by rw[VX h];rfl⟩
def VW{l:List aY}:(hD (l.map (aY.mp Y))).cls=0↔(hD l).cls=0:=by
 rw[N4,N4];simp[agX]
def Rz{lat:Nat}{n:Nd}(h:n.kind=1\/0<n.ak.length):pX s lat (n.mp Y)=pX s lat n:=by
 unfold pX;rw[o_,pE,mh];split
 .rfl
 .rename_i U;rw[Be (h.resolve_left U),LA]
def an_{lat:Nat}{n:Nd}(h:n.kind=1\/0<n.ak.length):lG s lat (n.mp Y)=lG s lat n:=by
 unfold lG;rw[o_,pE,mh];split
 .rfl
 .rename_i U;rw[Be (h.resolve_left U),LA];simp only;cases (gx (nV s lat) (n.ak.getD 0 jb)).2<;>rfl
def Sq{lat:Nat}:∀{l:List Nd},(∀m∈l,lx s lat (m.mp Y)=lx s lat m)->mB s lat (l.map (Nd.mp Y))=mB s lat l
 | [],_=>rfl
 | n::ns,h=>by rw[cz,mB,mB,h n (by simp),Sq λm hm=>h m (by simp[hm])]
def adU{lat:Nat}(n:Nd):n.eP=ab->lx s lat (n.mp Y)=lx s lat n:=by
 induction n using Nd.ind with
 | h n ih =>
  intro hq;rw[Hs,Hs,o_,mh];have ho:lM (n.mp Y)=lM n:=by simp only[lM,o_,mh,aN]
  rw[ho];split
  .rename_i h;rw[an_ ?_]
   rcases h with h | h
   .exact .inl h
   .exact .inr (by rw[zK hq h];omega)
  .rename_i h;rw[Sq λm hm=>ih m hm (VE hq h m hm)]
def Yo{lat:Nat}{n:Nd}(h:∀k∈n.ak,0<k.ak.length/\∀a∈k.ak,a.kind=1\/0<a.ak.length):lS s lat (n.mp Y)=lS s lat n:=by
 unfold lS;rw[o_,pE,mh,u7,Cr];have e1:n.ak.map (sC s lat∘Nd.mp Y)=n.ak.map (sC s lat):=List.map_congr_left λk hk=>by
  obtain⟨U,h2⟩:=h k hk;show sC s lat (k.mp Y)=_;rw[sC,sC,pE,mh,Be U,Rz]
  have:k.ak.getD 0 jb∈k.ak:=by rw[ny U];exact dj _
  exact h2 _ this
 have e2:wV s (n.an.map (aA.mp Y))=wV s n.an:=by cases n.an<;>rfl
 rw[e1,e2]
end
def aot{r:Rm}(h:k_ r c=ab):c.op≠12:=λe=>by
 simp[k_,nX,xp,e] at h
def N_{s:aH}{r:Rm}{t:List UInt8}(h:(cG t).2.1≠0):iK s r t=(.zero,.zero,Tz (cG t).2):=by rw[iK,aF h]
def N'{s:aH}{r:Rm}{t:List UInt8}(h:(cG t).2.1=0)(h' : (hD (la s r (cG t).1)).cls≠0):iK s r t=(.zero,.zero,hD (la s r (cG t).1)):=by rw[iK,aB (by simpa using h),aF h']
def I8{s:aH}{r:Rm}{t:List UInt8}(h:(cG t).2.1=0)(h' : (hD (la s r (cG t).1)).cls=0):iK s r t=((cG t).1,if kv s (cG t).1 then kN s (cG t).1 else .zero,.zero):=by
 rw[iK,aB (by simpa using h),aB (by simpa using h')]
def nw{G:Type}(f:G->G->Bool):List G->List G->Bool
 | [],[]=>ab
 | x::xs,y::ys=>f x y&&nw f xs ys
 | _,_=>ar
def KX:∀a b:List Nd,nw Nd.c_ a b=dT a b
 | [],[]=>by simp[nw,dT]
 | [],_::_=>by simp[nw,dT]
 | _::_,[]=>by simp[nw,dT]
 | x::xs,y::ys=>by simp[nw,dT,KX xs ys]
def qH(a b:aA):Bool:=decide (a.au=b.au)
def KW:∀a b:List aA,nw qH a b=eH a b
 | [],[]=>rfl
 | [],_::_=>rfl
 | _::_,[]=>rfl
 | x::xs,y::ys=>by simp[nw,eH,qH,KW xs ys]
def at_(pre us:List aC)(fin:Int)(k:Nat):ae:=⟨pre++us,((pre.length+k:Nat):Int),fin,aj⟩
variable{post pre:List aC}
def pN{t:aC}{fin:Int}:(at_ pre (t::post) fin 0).b_ k=decide (t.tok.kind=k):=by
 simp[at_,ae.b_,ae.ok,bL]
def Y2{fin:Int}:(at_ pre [] fin 0).b_ k=false:=by
 simp[at_,ae.b_,ae.ok,bL]
def pk{t:aC}{fin:Int}(h:t.tok.kind=k):(at_ pre (t::post) fin 0).take k=(t,at_ (pre++[t]) post fin 0):=by
 have hs:=pN (pre:=pre) (post:=post) (t:=t) (fin:=fin) (k:=k);rw[aK h] at hs;rw[ae.take,aF hs];simp[at_]
def th(one:Nat->ae->G × ae)(sm:G->G->Bool)(x:G)(sh:List Sh):Prop :=
 ∀toks:List Tok,toks.map Tok.sh=sh->∃us:List aC,us≠[]/\bG us=toks/\fK us /\
  ∀N,bp us<=N->∀(pre post:List aC) (fin:Int),∃y,one N (at_ pre (us++post) fin 0)=(y,at_ (pre++us) post fin 0)/\sm y x=ab
variable{toks:List Tok}
def Gd(h:toks.map Tok.sh=[gg t]):∃p,toks=[⟨97,t,p⟩]:=by
 match toks,h with
 | [⟨k, s, p⟩], h =>
  simp[Tok.sh,gg] at h;exact⟨p,by rw[h.1,h.2]⟩
def vn{c:UInt8}(h:toks.map Tok.sh=[bS c]):∃p,toks=[⟨(c.toNat:Nat),[c],p⟩]:=by
 match toks,h with
 | [⟨k, s, p⟩], h =>
  simp[Tok.sh,bS] at h;exact⟨p,by rw[h.1,h.2]⟩
def wI{t:Tok}(U:closing t.kind=0)(h2:l7 t.kind=ar):bG [.mk t [] t.pos]=[t]/\fK [.mk t [] t.pos]:=by
 refine⟨by simp[bG,aC.flat,U],?_⟩;simp[fK,aC.WF,h2]
def yE(w:aA):th (λ_=>ae.word) qH w [gg w.au]:=by
 intro toks h;obtain⟨p,rfl⟩:=Gd h;obtain⟨f1,f2⟩:=wI (t:=⟨97,w.au,p⟩) rfl rfl;refine⟨_,by simp,f1,f2,λN _ pre post fin=>⟨⟨w.au,p⟩,?_,by simp[qH]⟩⟩
 have:=pk (pre:=pre) (post:=post) (t:=.mk ⟨97,w.au,p⟩ [] p) (fin:=fin) (k:=97) rfl
 simp only[mr,ae.word,this];rfl
def vm{m n:Nd}(k:m.kind=n.kind)(t:m.au=n.au)(w:eH m.an n.an=ab)(s:dT m.ak n.ak=ab):m.c_ n=true:=by
 rw[Nd.DG,aK k,aK t,w,s];rfl
def N3{n:Nd}(hk:n.kind=k)(h:n.lH=ab):th (λ_=>ae.leaf k) Nd.c_ n [gg n.au]:=by
 intro toks ht;obtain⟨us,U,h2,h3,h4⟩:=yE ⟨n.au,0⟩ toks ht;refine⟨us,U,h2,h3,λN hN pre post fin=>?_⟩;obtain⟨y,e1,e2⟩:=h4 N hN pre post fin;refine⟨.mk k y.pos y.au [] [],by simp only[ae.leaf,e1],?_⟩;simp only[Nd.lH,bg,bQ] at h;have hn:n.an=[]:=kn.1 (by omega);have gn:n.ak=[]:=kn.1 (by omega);simp only[qH,bQ] at e2;exact vm hk.symm e2 (show eH [] n.an=ab by rw[hn];rfl) (show dT [] n.ak=ab by rw[gn];simp[dT])
def GX(post:List aC):Prop:=∀t r,post=t::r->t.tok.kind≠44
def apV{fin:Int}(h:GX post):(at_ pre post fin 0).b_ 44=false:=by
 cases post with
 | nil=>exact Y2
 | cons t r=>rw[pN];exact aJ (h t r rfl)
section
variable {G:Type} {one:Nat->ae->G × ae} {sm:G->G->Bool} {S:G->List Sh}
def TV:∀(xs:List G),(∀x∈xs,th one sm x (S x))->∀toks:List Tok,toks.map Tok.sh=(xs.map S).flatMap (λy=>bS 44::y) ->
 ∃us:List aC,bG us=toks/\fK us/\xs.length<=us.length/\∀N,bp us<=N->∀(pre post:List aC) (fin:Int) (n:Nat) (acc:List G),xs.length<=n->GX post ->
  ∃ys,jy (cH (one N)) n (at_ pre (us++post) fin 0,acc)=(at_ (pre++us) post fin 0,acc++ys)/\nw sm ys xs=ab
 | [], _, toks, ht => by
  have:toks=[]:=by simpa using ht
  subst this;refine⟨[],rfl,trivial,by simp,λN _ pre post fin n acc _ hp=>⟨[],?_,rfl⟩⟩;cases n with
  | zero=>simp[jy]
  | succ n=>rw[jy];simp[apV hp]
 | x :: xs, h, toks, ht => by
  simp only[cz,qI] at ht;obtain⟨t1,t3,rfl,U,h3⟩:=j5.1 ht;obtain⟨tc,t2,rfl,hc,h2⟩:=j5.1 (show t1.map Tok.sh=[bS 44]++S x from U);obtain⟨p,rfl⟩:=vn hc;obtain⟨f1,f2⟩:=wI (t:=⟨((44:UInt8).toNat:Nat),[44],p⟩) rfl rfl;obtain⟨ux,n1,e1,w1,b1⟩:=h x (by simp) t2 h2;obtain⟨us,e2,w2,l2,b2⟩:=TV xs (λy hy=>h y (by simp[hy])) t3 h3;generalize hT:(aC.mk ⟨((44:UInt8).toNat:Nat),[44],p⟩ [] p)=T at f1 f2;have hk:T.tok.kind=44:=by rw[<-hT];rfl
  refine⟨[T]++ux++us,?_,?_,?_,?_⟩
  .rw[iY,iY,e1,e2,<-f1,<-hT]
  .rw[kK,kK];exact⟨⟨by rw[<-hT] at f2 ⊢;exact f2,w1⟩,w2⟩
  .simp only[bM,dm,dQ];omega
  .intro N hN pre post fin n acc hn hp;simp only[tX] at hN;obtain⟨n,rfl⟩:∃m,n=m+1:=⟨n - 1,by simp at hn;omega⟩;obtain⟨y,q1,q2⟩:=b1 N (by omega) (pre++[T]) (us++post) fin;obtain⟨ys,q3,q4⟩:=b2 N (by omega) (pre++[T]++ux) post fin n (acc++[y]) (by simp at hn;omega) hp;refine⟨y::ys,?_,by simp[nw,q2,q4]⟩;have es:[T]++ux++us++post=T::(ux++(us++post)):=by simp
   rw[es,jy];simp only[pN,hk,b9,cM];rw[pk hk];simp only[cH,q1];rw[show pre++([T]++ux++us)=pre++[T]++ux++us by simp,q3];simp
def Zn{x:G}{xs:List G}(h:∀y∈x::xs,th one sm y (S y))(ht:toks.map Tok.sh=fj ((x::xs).map S)):
 ∃us:List aC,us≠[]/\bG us=toks/\fK us/\∀N,bp us<=N->∀(pre post:List aC) (fin:Int),GX post ->
  ∃ys,eJ (cH (one N)) (at_ pre (us++post) fin 0)=(at_ (pre++us) post fin 0,ys)/\nw sm ys (x::xs)=true:=by
 simp only[cz,fj] at ht;obtain⟨t1,t2,rfl,U,h2⟩:=j5.1 ht;obtain⟨ux,n1,e1,w1,b1⟩:=h x (by simp) t1 U;obtain⟨us,e2,w2,l2,b2⟩:=TV xs (λy hy=>h y (by simp[hy])) t2 h2;refine⟨ux++us,by simp[n1],by rw[iY,e1,e2],by rw[kK];exact⟨w1,w2⟩,λN hN pre post fin hp=>?_⟩;rw[tX] at hN;obtain⟨y,q1,q2⟩:=b1 N (by omega) pre (us++post) fin;obtain⟨ys,q3,q4⟩:=b2 N (by omega) (pre++ux) post fin (at_ pre (ux++us++post) fin 0).l.length [y] (by simp[at_];omega) hp;refine⟨y::ys,?_,by simp[nw,q2,q4]⟩;unfold eJ;simp only[cH,eN] at q1 q3 ⊢;rw[q1];simp only[gQ];rw[q3];simp
def au5{a:UInt8}(h:closing (a.toNat:Nat)=(b.toNat:Nat)):[UInt8.ofNat (closing (a.toNat:Nat)).toNat]=[b]:=by rw[h];simp
def K_{a:UInt8}{xs:List G}(zi:closing (a.toNat:Nat)=(b.toNat:Nat))(EV:(b.toNat:Int)≠0)(hca:l7 (a.toNat:Nat)=ar)(h:∀y∈xs,th one sm y (S y))(he:xs=[]->e=ab)
 (ht:toks.map Tok.sh=[bS a]++fj (xs.map S)++[bS b]) :
 ∃T:aC,bG [T]=toks/\fK [T]/\T.tok.kind=(a.toNat:Nat)/\∀N,bp [T]<=N+1->∀(pre post:List aC) (fin:Int),
  ∃ys p,(at_ pre (T::post) fin 0).bracket (cH (one N)) (a.toNat:Nat) e=((ys,p),at_ (pre++[T]) post fin 0)/\nw sm ys xs=true:=by
 obtain⟨t1,t3,rfl,U,h3⟩:=j5.1 ht;obtain⟨ta,t2,rfl,ha,h2⟩:=j5.1 U;obtain⟨pa,rfl⟩:=vn ha;obtain⟨pb,rfl⟩:=vn h3;have UB:closing (a.toNat:Nat)≠0:=by rw[zi];exact EV
 have key:∃us:List aC,bG us=t2/\fK us/\∀N,bp us<=N->∀(T:aC),T.ak=us->∃ys,ae.inside (cH (one N)) e T=(at_ us [] T.fin 0,ys)/\nw sm ys xs=true:=by
  cases xs with
  | nil =>
   have:t2=[]:=by simpa [fj] using h2
   subst this;refine⟨[],rfl,trivial,λN _ T hT=>⟨[],?_,rfl⟩⟩;rw[ae.inside,aF ⟨he rfl,by rw[hT];rfl⟩];simp[aC.inner,at_,hT]
  | cons x xs =>
   obtain⟨us,n1,e1,w1,b1⟩:=Zn h h2;refine⟨us,e1,w1,λN hN T hT=>?_⟩;obtain⟨ys,q1,q2⟩:=b1 N hN [] [] T.fin (λt r h=>by simp at h);refine⟨ys,?_,q2⟩;rw[ae.inside,aB (λh=>n1 (by rw[<-hT];exact kn.1 h.2))]
   have:T.inner=at_ [] (us++[]) T.fin 0:=by simp[aC.inner,at_,hT]
   rw[this,q1];simp
 obtain⟨us,e1,w1,b1⟩:=key;refine⟨.mk ⟨(a.toNat:Nat),[a],pa⟩ us pb,?_,?_,rfl,?_⟩
 .simp only[bG,aC.flat,eD];rw[aF UB,e1,au5 zi,zi];simp
 .simp only[fK,aC.WF];exact⟨⟨hca,λh=>absurd h UB,w1⟩,trivial⟩
 .intro N hN pre post fin;obtain⟨ys,q1,q2⟩:=b1 N (by simp only[bp,aC.many] at hN;omega) (.mk ⟨(a.toNat:Nat),[a],pa⟩ us pb) rfl;refine⟨ys,pa,?_,q2⟩;unfold ae.bracket;rw[pk (t:=.mk ⟨(a.toNat:Nat),[a],pa⟩ us pb) (k:=(a.toNat:Nat)) rfl];simp only[q1];have ck:(at_ (pre++[aC.mk ⟨(a.toNat:Nat),[a],pa⟩ us pb]) post fin 0).ok=true:=rfl;rw[aF ck];have gI:(at_ us [] pb 0).close=at_ us [] pb 0:=by unfold ae.close;rw[aB];simp[at_]
  simp only[ae.under,aC.fin,gI,aC.tok];rfl
end
def alX{s:Sh}{r:List Sh}(h0:us≠[])(h:(bG us).map Tok.sh=s::r):∃t ts,us=t::ts/\t.tok.kind=s.1:=by
 cases us with
 | nil=>exact absurd rfl h0
 | cons t ts =>
  refine⟨t,ts,rfl,?_⟩;have e:bG (t::ts)=bG [t]++bG ts:=iY [t] ts;rw[e,HM] at h;simp only[il,cz,iE] at h;rw[<-h.1];rfl
def Ac{fin:Int}{s:Sh}{r:List Sh}(h0:us≠[])(hf:bG us=toks)(h:toks.map Tok.sh=s::r):(at_ pre (us++post) fin 0).b_ k=decide (s.1=k):=by
 obtain⟨t,ts,rfl,hk⟩:=alX h0 (by rw[hf];exact h);rw[il,pN,hk]
def BR(h:us≠[]):1<=bp us:=by
 cases us with
 | nil=>exact absurd rfl h
 | cons t ts=>simp only[bp];omega
def DH{c:UInt8}(h:(decide (closing (c.toNat:Nat)=0)&&!l7 (c.toNat:Nat))=ab)(ht:toks.map Tok.sh=[bS c]):∃T:aC,bG [T]=toks/\fK [T]/\T.tok.kind=(c.toNat:Nat):=by
 simp only[bg,bQ,tm] at h;obtain⟨p,rfl⟩:=vn ht;obtain⟨f1,f2⟩:=wI (t:=⟨(c.toNat:Nat),[c],p⟩) h.1 h.2;exact⟨_,f1,f2,rfl⟩
def Z1(ht:toks.map Tok.sh=[bS 123]++mm ws++[bS 125]):
 ∃T:aC,bG [T]=toks/\fK [T]/\T.tok.kind=123/\∀(pre post:List aC) (fin:Int),∃ys p,(at_ pre (T::post) fin 0).words ab=((ys,p),at_ (pre++[T]) post fin 0)/\eH ys ws=true:=by
 obtain⟨T,U,h2,h3,h4⟩:=K_ (one:=λ_=>ae.word) (sm:=qH) (S:=λw=>[gg w.au]) (a:=123) (b:=125) (e:=true) (xs:=ws) (by decide) (by decide) (by decide) (λw _=>yE w) (λ_=>rfl) ht;refine⟨T,U,h2,h3,λpre post fin=>?_⟩;obtain⟨ys,p,q1,q2⟩:=h4 (bp [T]) (by omega) pre post fin;rw[KW] at q2;exact⟨ys,p,q1,q2⟩
def Jf{one:Nat->ae->Nd × ae}{a:UInt8}(zi:(decide (closing (a.toNat:Nat)=(b.toNat:Nat))&&decide ((b.toNat:Int)≠0)&&!l7 (a.toNat:Nat))=ab)(h:∀y∈ks,th one Nd.c_ y y.ig)(he:ks=[]->e=ab)
 (ht:toks.map Tok.sh=[bS a]++fj (ij ks)++[bS b]) :
 ∃T:aC,bG [T]=toks/\fK [T]/\T.tok.kind=(a.toNat:Nat)/\∀N,bp [T]<=N+1->∀(pre post:List aC) (fin:Int),
  ∃ys p,(at_ pre (T::post) fin 0).nodes (one N) (a.toNat:Nat) e=((ys,p),at_ (pre++[T]) post fin 0)/\dT ys ks=true:=by
 simp only[bg,bQ,tm] at zi;rw[Gg] at ht;obtain⟨T,U,h2,h3,h4⟩:=K_ (one:=one) (sm:=Nd.c_) (S:=Nd.ig) (e:=e) zi.1.1 zi.1.2 zi.2 h he ht;refine⟨T,U,h2,h3,λN hN pre post fin=>?_⟩;obtain⟨ys,p,q1,q2⟩:=h4 N hN pre post fin;rw[KX] at q2;exact⟨ys,p,q1,q2⟩
def at0{n:Nd}(h:n.qD=ab):th (λ_=>ae.pJ) Nd.c_ n n.ig:=by
 obtain⟨k,U,h2,h3⟩:=Yt h;intro toks ht;have e:n.ig=[gg n.au]++[bS 58]++([bS 123]++mm n.an++[bS 125]):=by rw[Nd.lk,k];rfl
 rw[e] at ht;obtain⟨t1,t3,rfl,a1,a3⟩:=j5.1 ht;obtain⟨tw,tc,rfl,aw,ac⟩:=j5.1 a1;obtain⟨uw,n1,f1,w1,b1⟩:=yE ⟨n.au,0⟩ tw aw;obtain⟨C,f2,w2,c2⟩:=DH (by decide) ac;obtain⟨T,f3,w3,c3,b3⟩:=Z1 a3;refine⟨uw++[C]++[T],by simp,by rw[iY,iY,f1,f2,f3],by rw[kK,kK];exact⟨⟨w1,w2⟩,w3⟩,λN hN pre post fin=>?_⟩;obtain⟨y,q1,q2⟩:=b1 (bp uw) (bY _) pre ([C]++[T]++post) fin;obtain⟨ys,p,q3,q4⟩:=b3 (pre++uw++[C]) post fin;have q5:=pk (pre:=pre++uw) (post:=[T]++post) (t:=C) (fin:=fin) (k:=58) c2;refine⟨.mk 6 y.pos y.au ys [],?_,?_⟩
 .have es:uw++[C]++[T]++post=uw++([C]++[T]++post):=by simp
  have vg : (at_ pre (uw++([C]++[T]++post)) fin 0).word=(y,at_ (pre++uw) ([C]++[T]++post) fin 0):=q1;have O0 : (at_ (pre++uw) ([C]++[T]++post) fin 0).take 58=(C,at_ (pre++uw++[C]) (T::post) fin 0):=q5;simp only[es,ae.pJ,vg,O0,q3];simp
 .simp only[qH,bQ] at q2;exact vm k.symm q2 q4 (show dT [] n.ak=ab by rw[h3];simp[dT])
def adZ:∀(k:Nat) (n:Nd),n.wt<=k->n.jl=ab->th ae.constant Nd.c_ n n.ig:=by
 intro k;induction k with
 | zero=>intro n h _;cases n;simp only[Nd.wt] at h;omega
 | succ k ih =>
  intro n hk h toks ht
  rcases Sz h with ⟨U,h2⟩ | ⟨U,h2,h3,h4⟩ | ⟨U,h2,h3,h4,h5⟩ | ⟨U,h2,h3,h4⟩
  .have e:n.ig=[gg n.au]:=by rw[Nd.lk,U];rfl
   rw[e] at ht;obtain⟨us,n1,f1,w1,b1⟩:=N3 U h2 toks ht;refine⟨us,n1,f1,w1,λN hN pre post fin=>?_⟩;have hp:=BR n1;obtain⟨N,rfl⟩:∃m,N=m+1:=⟨N - 1,by omega⟩;obtain⟨y,q1,q2⟩:=b1 _ hN pre post fin;refine⟨y,?_,q2⟩;have s1:=Ac (pre:=pre) (post:=post) (fin:=fin) (k:=123) n1 f1 ht;have s2:=Ac (pre:=pre) (post:=post) (fin:=fin) (k:=40) n1 f1 ht;have s3:=Ac (pre:=pre) (post:=post) (fin:=fin) (k:=91) n1 f1 ht;rw[ae.constant,s1,s2,s3];exact q1
  .have e:n.ig=[bS 123]++mm n.an++[bS 125]:=by rw[Nd.lk,U];rfl
   rw[e] at ht;obtain⟨T,f1,w1,c1,b1⟩:=Z1 ht;refine⟨[T],by simp,f1,w1,λN hN pre post fin=>?_⟩;have hp:=BR (us:=[T]) (by simp);obtain⟨N,rfl⟩:∃m,N=m+1:=⟨N - 1,by omega⟩;obtain⟨ys,p,q1,q2⟩:=b1 pre post fin;refine⟨.mk 3 p [] ys [],?_,vm U.symm h2.symm q2 (show dT [] n.ak=ab by rw[h4];simp[dT])⟩;rw[mr,ae.constant,aF (by rw[pN,c1];rfl),q1]
  .have e:n.ig=[bS 40]++fj (ij n.ak)++[bS 41]:=by rw[Nd.lk,U];rfl
   rw[e] at ht;obtain⟨T,f1,w1,c1,b1⟩:=Jf (one:=ae.constant) (e:=false) (by decide) (λm hm=>ih m (by have:=IT hm;omega) (h5 m hm)) (λh=>absurd h h4) ht;refine⟨[T],by simp,f1,w1,λN hN pre post fin=>?_⟩;have hp:=BR (us:=[T]) (by simp);obtain⟨N,rfl⟩:∃m,N=m+1:=⟨N - 1,by omega⟩;obtain⟨ys,p,q1,q2⟩:=b1 N hN pre post fin;refine⟨.mk 4 p [] [] ys,?_,vm U.symm h2.symm (show eH [] n.an=ab by rw[h3];rfl) q2⟩;have vg : (at_ pre (T::post) fin 0).nodes (ae.constant N) 40 ar=((ys,p),at_ (pre++[T]) post fin 0):=q1;rw[mr,ae.constant,aB (by rw[pN,c1];decide),aF (by rw[pN,c1];rfl),vg]
  .have e:n.ig=[bS 91]++fj (ij n.ak)++[bS 93]:=by rw[Nd.lk,U];rfl
   rw[e] at ht;obtain⟨T,f1,w1,c1,b1⟩:=Jf (one:=λ_=>ae.pJ) (e:=true) (by decide) (λm hm=>at0 (h4 m hm)) (λ_=>rfl) ht;refine⟨[T],by simp,f1,w1,λN hN pre post fin=>?_⟩;have hp:=BR (us:=[T]) (by simp);obtain⟨N,rfl⟩:∃m,N=m+1:=⟨N - 1,by omega⟩;obtain⟨ys,p,q1,q2⟩:=b1 N hN pre post fin;refine⟨.mk 5 p [] [] ys,?_,vm U.symm h2.symm (show eH [] n.an=ab by rw[h3];rfl) q2⟩;have vg : (at_ pre (T::post) fin 0).nodes ae.pJ 91 ab=((ys,p),at_ (pre++[T]) post fin 0):=q1;rw[mr,ae.constant,aB (by rw[pN,c1];decide),aB (by rw[pN,c1];decide),aF (by rw[pN,c1];rfl),vg]
def RD{n:Nd}(h:n.eP=ab)(hk:n.kind=1\/n.kind=7):th ae.atom Nd.c_ n n.ig:=by
 intro toks ht
 rcases FH h with ⟨U,h2⟩ | ⟨U,h2,h3,c,h4,h5⟩ | ⟨U,_⟩
 .have e:n.ig=[gg n.au]:=by rw[Nd.lk,U];rfl
  rw[e] at ht;obtain⟨us,n1,f1,w1,b1⟩:=N3 U h2 toks ht;refine⟨us,n1,f1,w1,λN hN pre post fin=>?_⟩;obtain⟨y,q1,q2⟩:=b1 _ hN pre post fin;refine⟨y,?_,q2⟩;have s1:=Ac (pre:=pre) (post:=post) (fin:=fin) (k:=35) n1 f1 ht;rw[ae.atom,s1];exact q1
 .have e:n.ig=[bS 35]++c.ig:=by rw[Nd.lk,U,h4];rfl
  rw[e] at ht;obtain⟨t1,t2,rfl,a1,a2⟩:=j5.1 ht;obtain⟨C,f2,w2,c2⟩:=DH (by decide) a1;obtain⟨us,n1,f1,w1,b1⟩:=adZ _ c (bY _) h5 t2 a2;refine⟨[C]++us,by simp,by rw[iY,f1,f2],by rw[kK];exact⟨w2,w1⟩,λN hN pre post fin=>?_⟩;rw[tX] at hN;obtain⟨y,q1,q2⟩:=b1 N (by omega) (pre++[C]) post fin;have q5:=pk (pre:=pre) (post:=us++post) (t:=C) (fin:=fin) (k:=35) c2;refine⟨.mk 7 C.tok.pos [] [] [y],?_,vm U.symm h2.symm (show eH [] n.an=ab by rw[h3];rfl) (show dT [y] n.ak=ab by rw[h4];simp[dT,q2])⟩;rw[eN,mr,ae.atom,aF (by rw[pN,c2];rfl),q5];simp only[q1];simp
 .omega
def anE:∀(k:Nat) (n:Nd),n.wt<=k->n.eP=ab->th ae.label Nd.c_ n n.ig:=by
 intro k;induction k with
 | zero=>intro n h _;cases n;simp only[Nd.wt] at h;omega
 | succ k ih =>
  intro n hk h toks ht
  by_cases dr:n.kind=1\/n.kind=7
  .obtain⟨us,n1,f1,w1,b1⟩:=RD h dr toks ht;refine⟨us,n1,f1,w1,λN hN pre post fin=>?_⟩;have hp:=BR n1;obtain⟨N,rfl⟩:∃m,N=m+1:=⟨N - 1,by omega⟩;obtain⟨y,q1,q2⟩:=b1 _ hN pre post fin;refine⟨y,?_,q2⟩;obtain⟨s,r,hs,xH,zg⟩:∃s r,toks.map Tok.sh=s::r/\s.1≠43/\s.1≠38:=by
    rw[ht,Nd.lk]
    rcases dr with e | e<;>rw[e]
    .exact⟨_,_,rfl,(by decide:(97:Int)≠43),(by decide:(97:Int)≠38)⟩
    .exact⟨_,_,rfl,(by decide:(35:Int)≠43),(by decide:(35:Int)≠38)⟩
   have s1:=Ac (pre:=pre) (post:=post) (fin:=fin) (k:=43) n1 f1 hs;have s2:=Ac (pre:=pre) (post:=post) (fin:=fin) (k:=38) n1 f1 hs;rw[aJ xH] at s1;rw[aJ zg] at s2;rw[ae.label,s1,s2];exact q1
  .rcases FH h with ⟨U,_⟩ | ⟨U,_⟩ | ⟨U,h2,h3,h4,h5⟩
   .omega
   .omega
   have nD:=λm hm=>ih m (by have:=IT hm;omega) (h5 m hm)
   rcases U with U | U
   .have e:n.ig=[bS 43]++([bS 40]++fj (ij n.ak)++[bS 41]):=by rw[Nd.lk,U];rfl
    rw[e] at ht;obtain⟨t1,t2,rfl,a1,a2⟩:=j5.1 ht;obtain⟨C,f2,w2,c2⟩:=DH (by decide) a1;obtain⟨T,f1,w1,c1,b1⟩:=Jf (one:=ae.label) (e:=false) (by decide) nD (λh=>absurd h h4) a2;refine⟨[C]++[T],by simp,by rw[iY,f1,f2],by rw[kK];exact⟨w2,w1⟩,λN hN pre post fin=>?_⟩;rw[tX] at hN;have hp:=BR (us:=[C]) (by simp);obtain⟨N,rfl⟩:∃m,N=m+1:=⟨N - 1,by omega⟩;obtain⟨ys,p,q1,q2⟩:=b1 N (by omega) (pre++[C]) post fin;have q5:=pk (pre:=pre) (post:=T::post) (t:=C) (fin:=fin) (k:=43) c2;refine⟨.mk 8 C.tok.pos [] [] ys,?_,vm U.symm h2.symm (show eH [] n.an=ab by rw[h3];rfl) q2⟩;have vg : (at_ (pre++[C]) (T::post) fin 0).nodes (ae.label N) 40 ar=((ys,p),at_ (pre++[C]++[T]) post fin 0):=q1;rw[eN,mr,mr,ae.label,aF (by rw[pN,c2];rfl),q5];simp only[vg];simp
   .have e:n.ig=[bS 38]++([bS 40]++fj (ij n.ak)++[bS 41]):=by rw[Nd.lk,U];rfl
    rw[e] at ht;obtain⟨t1,t2,rfl,a1,a2⟩:=j5.1 ht;obtain⟨C,f2,w2,c2⟩:=DH (by decide) a1;obtain⟨T,f1,w1,c1,b1⟩:=Jf (one:=ae.label) (e:=false) (by decide) nD (λh=>absurd h h4) a2;refine⟨[C]++[T],by simp,by rw[iY,f1,f2],by rw[kK];exact⟨w2,w1⟩,λN hN pre post fin=>?_⟩;rw[tX] at hN;have hp:=BR (us:=[C]) (by simp);obtain⟨N,rfl⟩:∃m,N=m+1:=⟨N - 1,by omega⟩;obtain⟨ys,p,q1,q2⟩:=b1 N (by omega) (pre++[C]) post fin;have q5:=pk (pre:=pre) (post:=T::post) (t:=C) (fin:=fin) (k:=38) c2;refine⟨.mk 9 C.tok.pos [] [] ys,?_,vm U.symm h2.symm (show eH [] n.an=ab by rw[h3];rfl) q2⟩;have vg : (at_ (pre++[C]) (T::post) fin 0).nodes (ae.label N) 40 ar=((ys,p),at_ (pre++[C]++[T]) post fin 0):=q1;rw[eN,mr,mr,ae.label,aB (by rw[pN,c2];decide),aF (by rw[pN,c2];rfl),q5];simp only[vg];simp
def agB{n:Nd}(h:n.mG=ab):th ae.field Nd.c_ n n.ig:=by
 obtain⟨k,U,h2,c,h3,h4⟩:=EA h;intro toks ht;have e:n.ig=[gg n.au]++[bS 61]++c.ig:=by rw[Nd.lk,k,h3];rfl
 rw[e] at ht;obtain⟨t1,t3,rfl,a1,a3⟩:=j5.1 ht;obtain⟨tw,tc,rfl,aw,ac⟩:=j5.1 a1;obtain⟨uw,n1,f1,w1,b1⟩:=yE ⟨n.au,0⟩ tw aw;obtain⟨C,f2,w2,c2⟩:=DH (by decide) ac;have hc:c.kind=1\/c.kind=7:=by simp only[Nd.pY,bg,j1,bQ] at h4;exact h4.1
 obtain⟨ua,n3,f3,w3,b3⟩:=RD (Eh h4) hc t3 a3;refine⟨uw++[C]++ua,by simp,by rw[iY,iY,f1,f2,f3],by rw[kK,kK];exact⟨⟨w1,w2⟩,w3⟩,λN hN pre post fin=>?_⟩;rw[tX] at hN;obtain⟨y,q1,q2⟩:=b1 (bp uw) (bY _) pre ([C]++ua++post) fin;obtain⟨z,q3,q4⟩:=b3 N (by omega) (pre++uw++[C]) post fin;have q5:=pk (pre:=pre++uw) (post:=ua++post) (t:=C) (fin:=fin) (k:=61) c2;refine⟨.mk 11 y.pos y.au [] [z],?_,?_⟩
 .have es:uw++[C]++ua++post=uw++([C]++ua++post):=by simp
  have vg : (at_ pre (uw++([C]++ua++post)) fin 0).word=(y,at_ (pre++uw) ([C]++ua++post) fin 0):=q1;have O0 : (at_ (pre++uw) ([C]++ua++post) fin 0).take 61=(C,at_ (pre++uw++[C]) (ua++post) fin 0):=q5;simp only[es,ae.field,vg,O0,q3];simp
 .simp only[qH,bQ] at q2;exact vm k.symm q2 (show eH [] n.an=ab by rw[h2];rfl) (show dT [z] n.ak=ab by rw[h3];simp[dT,q4])
def NA(T:aC):T.inner=at_ [] T.ak T.fin 0:=by simp[aC.inner,at_]
def adH{fin:Int}:(at_ us [] fin 0).close=at_ us [] fin 0:=by unfold ae.close;rw[aB];simp[at_]
def agD{n:Nd}(h:n.mG=ab):∃r,n.ig=gg n.au::r:=by
 obtain⟨k,_,_,c,h3,_⟩:=EA h;exact⟨[bS 61]++c.ig,by rw[Nd.lk,k,h3];rfl⟩
def atK{n:Nd}(hn:n.an=[]\/∃w,n.an=[w]/\cV w.au=ab)(hf:∀x∈n.ak,x.mG=ab)
 (ht:toks.map Tok.sh=fj (ij n.ak)++(if 0<n.an.length then [bS 124]++mm n.an else [])) :
 ∃us:List aC,bG us=toks/\fK us/\∀N,bp us<=N->∀T:aC,T.ak=us->∃ws ks,ae.rowOf N T=((at_ us [] T.fin 0,ks),ws)/\eH ws n.an=ab/\dT ks n.ak=true:=by
 obtain⟨t1,t2,rfl,a1,a2⟩:=j5.1 ht;have WH:(n.an=[]/\t2=[])\/(∃w C uw,n.an=[w]/\uw≠[]/\bG ([C]++uw)=t2/\fK ([C]++uw)/\C.tok.kind=124/\∀(pre post:List aC) (fin:Int),∃y,(at_ pre (uw++post) fin 0).word=(y,at_ (pre++uw) post fin 0)/\qH y w=ab):=by
  rcases hn with hn | ⟨w,hn,hw⟩
  .left;rw[hn] at a2;exact⟨hn,by simpa using a2⟩
  .right;have e:(if 0<n.an.length then [bS 124]++mm n.an else [])=[bS 124]++[gg w.au]:=by rw[hn];simp[mm,fj]
   rw[e] at a2;obtain⟨tc,tw,rfl,ac,aw⟩:=j5.1 a2;obtain⟨C,f2,w2,c2⟩:=DH (by decide) ac;obtain⟨uw,n1,f1,w1,b1⟩:=yE w tw aw;exact⟨w,C,uw,hn,n1,by rw[iY,f1,f2],by rw[kK];exact⟨w2,w1⟩,c2,λpre post fin=>b1 _ (bY _) pre post fin⟩
 have tail:∀(pre:List aC) (ni : List aC) (fin:Int) (ks:List Nd),(n.an=[]/\ni = []\/∃w C uw,n.an=[w]/\ni = [C]++uw/\C.tok.kind=124/\∀(pre post:List aC) (fin:Int),∃y,(at_ pre (uw++post) fin 0).word=(y,at_ (pre++uw) post fin 0)/\qH y w=ab) ->
  ∃ws,(if (at_ pre ni fin 0).b_ 124=ab then(((((at_ pre ni fin 0).take 124).2.word.2,ks),[((at_ pre ni fin 0).take 124).2.word.1]):(ae × List Nd) × List aA) else((at_ pre ni fin 0,ks),[]))=((at_ (pre++ni) [] fin 0,ks),ws)/\eH ws n.an=true:=by
  intro pre ni fin ks h
  rcases h with ⟨U,rfl⟩ | ⟨w,C,uw,U,rfl,h3,h4⟩
  .rw[Y2];exact⟨[],by simp,by rw[U];rfl⟩
  .obtain⟨y,q1,q2⟩:=h4 (pre++[C]) [] fin;rw[eD] at q1;refine⟨[y],?_,by rw[U];simpa [eH,qH] using q2⟩;rw[mr,pN,h3,aF (by decide),pk h3,q1];simp
 cases hk:n.ak with
 | nil =>
  rw[hk] at a1
  have:t1=[]:=by simpa [ij,fj] using a1
  subst this
  rcases WH with ⟨U,rfl⟩ | ⟨w,C,uw,U,h0,h2,h3,h4,h5⟩
  .refine⟨[],rfl,trivial,λN _ T hT=>⟨[],[],?_,by rw[U];rfl,by simp[dT]⟩⟩;rw[ae.rowOf,aF (by rw[hT];rfl),NA,hT]
  .refine⟨[C]++uw,by simpa using h2,h3,λN _ T hT=>?_⟩;obtain⟨ws,q1,q2⟩:=tail [] ([C]++uw) T.fin [] (.inr ⟨w,C,uw,U,rfl,h4,h5⟩);refine⟨ws,[],?_,q2,by simp[dT]⟩;rw[ae.rowOf,aB (by rw[hT];simp),NA,hT,ae.pe];have hs:(at_ [] ([C]++uw) T.fin 0).b_ 124=true:=by rw[mr,pN,h4];rfl
   simp only[hs,cM] at q1 ⊢;rw[q1];simp
 | cons x xs =>
  rw[hk,Gg] at a1;obtain⟨us,n1,f1,w1,b1⟩:=Zn (one:=ae.field) (sm:=Nd.c_) (S:=Nd.ig) (x:=x) (xs:=xs) (λy hy=>agB (hf y (by rw[hk];exact hy))) a1;obtain⟨r,hr⟩:=agD (hf x (by rw[hk];simp));have al7:t1.map Tok.sh=gg x.au::(r++(xs.map Nd.ig).flatMap λy=>bS 44::y):=by rw[a1];simp[fj,hr]
  have go:∀(ni : List aC),GX ni -> (n.an=[]/\ni = []\/∃w C uw,n.an=[w]/\ni = [C]++uw/\C.tok.kind=124/\∀(pre post:List aC) (fin:Int),∃y,(at_ pre (uw++post) fin 0).word=(y,at_ (pre++uw) post fin 0)/\qH y w=ab) ->
   ∀N,bp (us++ni)<=N->∀T:aC,T.ak=us++ni -> ∃ws ks,ae.rowOf N T=((at_ (us++ni) [] T.fin 0,ks),ws)/\eH ws n.an=ab/\dT ks (x::xs)=true:=by
   intro ni xU hq N hN T hT;rw[tX] at hN;obtain⟨ks,q1,q2⟩:=b1 N (by omega) [] ni T.fin xU;obtain⟨ws,q3,q4⟩:=tail us ni T.fin ks hq;rw[KX] at q2;refine⟨ws,ks,?_,q4,q2⟩;rw[ae.rowOf,aB (by rw[hT];intro h;rw[bM] at h;exact n1 (kn.1 (by omega))),NA,hT,ae.pe];have hs:(at_ [] (us++ni) T.fin 0).b_ 124=false:=by rw[Ac n1 f1 al7];rfl
   rw[gQ] at q1;simp only[hs,dP,cF,q1];exact q3
  rcases WH with ⟨U,rfl⟩ | ⟨w,C,uw,U,h0,h2,h3,h4,h5⟩
  .refine⟨us++[],by simpa using f1,by simpa using w1,go [] (λt r h=>by simp at h) (.inl ⟨U,rfl⟩)⟩
  .refine⟨us++([C]++uw),by rw[iY,f1,h2],by rw[kK];exact⟨w1,h3⟩,go ([C]++uw) (λt r h=>?_) (.inr ⟨w,C,uw,U,rfl,h4,h5⟩)⟩;simp only[mr,iE] at h;rw[<-h.1,h4];decide
def atO{n:Nd}(h:n.jF=ab):th ae.row Nd.c_ n n.ig:=by
 intro toks ht
 rcases DF h with ⟨k,h2,hn,hf⟩ | ⟨k,h⟩
 .have e:n.ig=[bS 91]++(fj (ij n.ak)++(if 0<n.an.length then [bS 124]++mm n.an else []))++[bS 93]:=by rw[Nd.lk,k];rfl
  rw[e] at ht;obtain⟨t1,t3,rfl,U,h3⟩:=j5.1 ht;obtain⟨ta,t2,rfl,ha,eX⟩:=j5.1 U;obtain⟨pa,rfl⟩:=vn ha;obtain⟨pb,rfl⟩:=vn h3;obtain⟨us,f1,w1,b1⟩:=atK hn hf eX;generalize hT:aC.mk ⟨((91:UInt8).toNat:Nat),[91],pa⟩ us pb=T;have Us:T.tok.kind=91:=by rw[<-hT];rfl
  have Ut:T.ak=us:=by rw[<-hT];rfl
  have hTm:bp [T]=1+bp us:=by simp only[bp,Ok,Ut];omega
  refine⟨[T],by simp,?_,?_,λN hN pre post fin=>?_⟩
  .rw[<-hT];have hc:closing ((91:UInt8).toNat:Nat)≠0:=by decide
   simp only[bG,aC.flat,eD];rw[aF hc,f1];simp;decide +kernel
  .rw[<-hT];simp only[fK,aC.WF];exact⟨⟨rfl,λh=>absurd h (by decide),w1⟩,trivial⟩
  .obtain⟨ws,ks,q1,q2,q3⟩:=b1 N (by omega) T Ut;refine⟨.mk 10 T.tok.pos [] ws ks,?_,vm k.symm h2.symm q2 q3⟩;have q5:=pk (pre:=pre) (post:=post) (t:=T) (fin:=fin) (k:=91) Us;rw[mr,ae.row,aF (by rw[pN,Us];rfl),q5];simp only[q1,ae.under,adH];rfl
 .have e:n.ig=[gg n.au]:=by rw[Nd.lk,k];rfl
  have hl:n.lH=true:=by
   rcases FH h with ⟨_,h2⟩ | ⟨U,_⟩ | ⟨U,_⟩
   .exact h2
   .omega
   .omega
  rw[e] at ht;obtain⟨us,n1,f1,w1,b1⟩:=N3 k hl toks ht;refine⟨us,n1,f1,w1,λN hN pre post fin=>?_⟩;obtain⟨y,q1,q2⟩:=b1 _ hN pre post fin;refine⟨y,?_,q2⟩;have s1:=Ac (pre:=pre) (post:=post) (fin:=fin) (k:=91) n1 f1 ht;rw[ae.row,s1];exact q1
def yi(p:aA × aA):List Sh:=[gg p.1.au]++[bS 60]++[gg p.2.au]
def B1(k:UInt8)(c:az)(n:Nd):List Sh :=
 if k=110 then [gg c.name.au]
 else if k=102 then mm c.an
 else if k=119 then [bS 123]++mm c.an++[bS 125]
 else if k=112 then [bS 123]++fj (c.bw.map yi)++[bS 125]
 else n.ig
def mU:List UInt8->List Nd->List (UInt8 × Nd)
 | [],_=>[]
 | k::ks,ts=>(k,ts.headD .zero)::mU ks (if isTerm k=ab then ts.tail else ts)
def Xt(c:az):∀(ks:List UInt8) (x:List (List UInt8) × List Nd),(ks.foldl (yq c) x).1=x.1++(mU ks x.2).map λq=>jE q.1 c q.2
 | [],x=>by simp[mU]
 | k :: ks, x => by
  rw[yO,Xt c ks];simp[yq,mU]
def Gf(c:az):List Sh:=[gg (cu c.op).1]++((mU (cu c.op).2 [c.left,c.right]).map λq=>B1 q.1 c q.2).flatten
def JT(c:az):dO c=(cu c.op).1++((mU (cu c.op).2 [c.left,c.right]).map λq=>jE q.1 c q.2).flatMap λy=>[32]++y:=by
 rw[dO,iB,Xt];rfl
def V5{ks:List Sh}(h:nq s ks):nq ([32]++s) ks:=by
 intro n p acc hn
 rcases n with _ | n
 .simp at hn
 obtain⟨toks,e1,e2⟩:=h n (p+1) acc (by simpa using hn);refine⟨toks,?_,e2⟩;rw[mr,fG,aB (λh=>by have:=h.1;revert this;decide),JI (by decide),aB (by simp),aB (by decide),aF (.inl (by decide)),e1]
def V3{G:Type}{T:G->List UInt8}{S:G->List Sh}:∀{l:List G},(∀x∈l,kG (T x) (S x))->Stop ((l.map T).flatMap λy=>[32]++y)/\nq ((l.map T).flatMap λy=>[32]++y) ((l.map S).flatten)
 | [],_=>⟨trivial,lex_nil⟩
 | x :: xs, h => by
  obtain⟨U,h2⟩:=V3 (l:=xs) λy hy=>h y (by simp[hy])
  simp only[cz,qI,lV,eN];exact⟨show fA 32=ar by decide,V5 (h x (by simp) _ _ U h2)⟩
def aop{p:aA × aA}(h:pG p=ab):kG (h_ p) (yi p):=by
 simp only[pG,bg] at h;exact(kG.sign (yc h.1) (by decide)).nn (yc h.2)
def aoq{ps:List (aA × aA)}(h:ps.all pG=ab):sc (vP (ps.map h_)) ([bS 123]++fj (ps.map yi)++[bS 125]) :=
 kG.sign ((wM 123 (by decide)).nn (I7 (T:=h_) (S:=yi) λp hp=>aop (eM.1 h p hp))) (by decide)
def apA(h:qu (ws.map aA.au)=ab):jf ws=true:=by
 simp only[qu,List.all_map] at h;exact h
def AQ(k:UInt8)(c:az)(n:Nd):Prop :=
 (k=110/\cV c.name.au=ab)\/(k=102/\c.an.length=1/\jf c.an=ab)\/(k=119/\0<c.an.length/\jf c.an=ab)\/(k=112/\c.bw.all pG=ab)\/(k=116/\n.eP=ab)\/(k=114/\n.jF=ab)
def Xs{k:UInt8}{n:Nd}(h:AQ k c n):kG (jE k c n) (B1 k c n):=by
 rcases h with ⟨rfl,h⟩ | ⟨rfl,_,h⟩ | ⟨rfl,_,h⟩ | ⟨rfl,h⟩ | ⟨rfl,h⟩ | ⟨rfl,h⟩
 .exact yc h
 .exact N9 h
 .exact(N8 h).n
 .exact(aoq h).n
 .exact Oj _ n (bY _) h
 .exact apc h
def ZF(h0:cV (cu c.op).1=ab)(h:∀q∈mU (cu c.op).2 [c.left,c.right],AQ q.1 c q.2):(eG (dO c)).2=aj/\(eG (dO c)).1.map Tok.sh=Gf c:=by
 obtain⟨U,h2⟩:=V3 (T:=λq:UInt8 × Nd=>jE q.1 c q.2) (S:=λq=>B1 q.1 c q.2) (l:=mU (cu c.op).2 [c.left,c.right]) λq hq=>Xs (h q hq)
 have:=yc h0 _ _ U h2
 rw[JT];obtain⟨toks,e1,e2⟩:=this _ 0 [] (bY _);unfold eG;rw[e1];exact⟨rfl,by rw[Gf];simpa using e2⟩
def F6(a b:aA × aA):Bool:=decide (a.1.au=b.1.au)&&decide (a.2.au=b.2.au)
def Rn:∀a b:List (aA × aA),nw F6 a b=ml a b
 | [],[]=>rfl
 | [],_::_=>rfl
 | _::_,[]=>rfl
 | p::ps,q::qs=>by simp only[nw,ml,F6,Rn ps qs]
def arD:∀(ps:List (aA × aA)) (p:aA × aA) (toks:List Tok),toks.map Tok.sh=fj ((p::ps).map yi) ->
 ∃us:List aC,us≠[]/\bG us=toks/\fK us/\∀(n:Nat) (pre:List aC) (fin:Int) (acc:List (aA × aA)),us.length<=n ->
  ∃ys r,ae.gM n (at_ pre us fin 0) acc=(r,acc++ys)/\r.aM=aj/\nw F6 ys (p::ps)=true:=by
 intro ps;induction ps with
 | nil =>
  intro p toks ht;have ht:toks.map Tok.sh=[gg p.1.au]++[bS 60]++[gg p.2.au]:=by simpa [fj,yi] using ht
  obtain⟨t12,t3,rfl,n9,h3⟩:=j5.1 ht;obtain⟨t1,t2,rfl,U,h2⟩:=j5.1 n9;obtain⟨p1,rfl⟩:=Gd U;obtain⟨p2,rfl⟩:=vn h2;obtain⟨p3,rfl⟩:=Gd h3;obtain⟨f1,w1⟩:=wI (t:=⟨97,p.1.au,p1⟩) rfl rfl;obtain⟨f2,w2⟩:=wI (t:=⟨((60:UInt8).toNat:Nat),[60],p2⟩) rfl rfl;obtain⟨f3,w3⟩:=wI (t:=⟨97,p.2.au,p3⟩) rfl rfl;refine⟨[.mk ⟨97,p.1.au,p1⟩ [] p1]++[.mk ⟨((60:UInt8).toNat:Nat),[60],p2⟩ [] p2]++[.mk ⟨97,p.2.au,p3⟩ [] p3],by simp,by rw[iY,iY,f1,f2,f3],by rw[kK,kK];exact⟨⟨w1,w2⟩,w3⟩,λn pre fin acc hn=>?_⟩;obtain⟨m,rfl⟩:∃m,n=m+1:=⟨n - 1,by simp at hn;omega⟩;generalize EP:(aC.mk ⟨97,p.1.au,p1⟩ [] p1)=T1;generalize ER:(aC.mk ⟨((60:UInt8).toNat:Nat),[60],p2⟩ [] p2)=T2;generalize ES:(aC.mk ⟨97,p.2.au,p3⟩ [] p3)=T3;have e1:(at_ pre (T1::[T2,T3]) fin 0).take 97=(T1,at_ (pre++[T1]) [T2,T3] fin 0):=pk (by rw[<-EP];rfl);have e2:(at_ (pre++[T1]) [T2,T3] fin 0).take 60=(T2,at_ (pre++[T1]++[T2]) [T3] fin 0):=pk (by rw[<-ER];rfl);have e3:(at_ (pre++[T1]++[T2]) [T3] fin 0).take 97=(T3,at_ (pre++[T1]++[T2]++[T3]) [] fin 0):=pk (by rw[<-ES];rfl);refine⟨[(⟨T1.tok.au,T1.tok.pos⟩,⟨T3.tok.au,T3.tok.pos⟩)],at_ (pre++[T1]++[T2]++[T3]) [] fin 0,?_,rfl,?_⟩
  .simp only[ae.gM,il,gQ];have Qg:(at_ pre (T1::[T2,T3]) fin 0).word=(⟨T1.tok.au,T1.tok.pos⟩,at_ (pre++[T1]) [T2,T3] fin 0):=by rw[ae.word,e1]
   have Qh:(at_ (pre++[T1]++[T2]) [T3] fin 0).word=(⟨T3.tok.au,T3.tok.pos⟩,at_ (pre++[T1]++[T2]++[T3]) [] fin 0):=by rw[ae.word,e3]
   rw[aB (by simp[at_])];simp only[Qg,e2,Qh];rw[aF (by simp[at_])]
  .rw[<-EP,<-ES];simp[nw,F6,aC.tok]
 | cons q ps ih =>
  intro p toks ht;have ht:toks.map Tok.sh=[gg p.1.au]++[bS 60]++[gg p.2.au]++[bS 44]++fj ((q::ps).map yi):=by simpa [fj,yi] using ht
  obtain⟨ayi,t5,rfl,aly,h5⟩:=j5.1 ht;obtain⟨t123,t4,rfl,L_,h4⟩:=j5.1 aly;obtain⟨t12,t3,rfl,n9,h3⟩:=j5.1 L_;obtain⟨t1,t2,rfl,U,h2⟩:=j5.1 n9;obtain⟨p1,rfl⟩:=Gd U;obtain⟨p2,rfl⟩:=vn h2;obtain⟨p3,rfl⟩:=Gd h3;obtain⟨p4,rfl⟩:=vn h4;obtain⟨us,n0,f5,w5,b5⟩:=ih q t5 h5;obtain⟨f1,w1⟩:=wI (t:=⟨97,p.1.au,p1⟩) rfl rfl;obtain⟨f2,w2⟩:=wI (t:=⟨((60:UInt8).toNat:Nat),[60],p2⟩) rfl rfl;obtain⟨f3,w3⟩:=wI (t:=⟨97,p.2.au,p3⟩) rfl rfl;obtain⟨f4,w4⟩:=wI (t:=⟨((44:UInt8).toNat:Nat),[44],p4⟩) rfl rfl;refine⟨[.mk ⟨97,p.1.au,p1⟩ [] p1]++[.mk ⟨((60:UInt8).toNat:Nat),[60],p2⟩ [] p2]++[.mk ⟨97,p.2.au,p3⟩ [] p3]++[.mk ⟨((44:UInt8).toNat:Nat),[44],p4⟩ [] p4]++us,by simp,by rw[iY,iY,iY,iY,f1,f2,f3,f4,f5],by rw[kK,kK,kK,kK];exact⟨⟨⟨⟨w1,w2⟩,w3⟩,w4⟩,w5⟩,λn pre fin acc hn=>?_⟩;obtain⟨m,rfl⟩:∃m,n=m+1:=⟨n - 1,by simp at hn;omega⟩;generalize EP:(aC.mk ⟨97,p.1.au,p1⟩ [] p1)=T1;generalize ER:(aC.mk ⟨((60:UInt8).toNat:Nat),[60],p2⟩ [] p2)=T2;generalize ES:(aC.mk ⟨97,p.2.au,p3⟩ [] p3)=T3;generalize hT4:(aC.mk ⟨((44:UInt8).toNat:Nat),[44],p4⟩ [] p4)=T4;have e1:(at_ pre (T1::(T2::T3::T4::us)) fin 0).take 97=(T1,at_ (pre++[T1]) (T2::T3::T4::us) fin 0):=pk (by rw[<-EP];rfl);have e2:(at_ (pre++[T1]) (T2::T3::T4::us) fin 0).take 60=(T2,at_ (pre++[T1]++[T2]) (T3::T4::us) fin 0):=pk (by rw[<-ER];rfl);have e3:(at_ (pre++[T1]++[T2]) (T3::T4::us) fin 0).take 97=(T3,at_ (pre++[T1]++[T2]++[T3]) (T4::us) fin 0):=pk (by rw[<-ES];rfl);have e4:(at_ (pre++[T1]++[T2]++[T3]) (T4::us) fin 0).take 44=(T4,at_ (pre++[T1]++[T2]++[T3]++[T4]) us fin 0):=pk (by rw[<-hT4];rfl);obtain⟨ys,r,g1,g2,g3⟩:=b5 m (pre++[T1]++[T2]++[T3]++[T4]) fin (acc++[(⟨T1.tok.au,T1.tok.pos⟩,⟨T3.tok.au,T3.tok.pos⟩)]) (by simp at hn;omega);refine⟨(⟨T1.tok.au,T1.tok.pos⟩,⟨T3.tok.au,T3.tok.pos⟩)::ys,r,?_,g2,?_⟩
  .simp only[ae.gM,il,gQ];have Qg:(at_ pre (T1::(T2::T3::T4::us)) fin 0).word=(⟨T1.tok.au,T1.tok.pos⟩,at_ (pre++[T1]) (T2::T3::T4::us) fin 0):=by rw[ae.word,e1]
   have Qh:(at_ (pre++[T1]++[T2]) (T3::T4::us) fin 0).word=(⟨T3.tok.au,T3.tok.pos⟩,at_ (pre++[T1]++[T2]++[T3]) (T4::us) fin 0):=by rw[ae.word,e3]
   rw[aB (by simp[at_])];simp only[Qg,e2,Qh,e4,g1];rw[aB (by simp[at_];omega)];simp
  .rw[<-EP,<-ES];simp only[nw,F6,g3,aC.tok];simp
def GI(k:UInt8)(c:az)(n:Nd)(c0 c1:az):Prop :=
 (k=110/\∃w:aA,w.au=c.name.au/\c1={c0 with name:=w}) \/
 ((k=102\/k=119)/\∃ws,eH ws c.an=ab/\c1={c0 with an:=ws}) \/
 (k=112/\∃ps a,ml ps c.bw=ab/\c1={c0 with bw:=ps,pd:=a}) \/
 ((k=116\/k=114)/\∃m:Nd,m.c_ n=ab/\c1=if c0.left.kind=0 then {c0 with left:=m} else {c0 with right:=m})
def aaI(k:UInt8)(c:az)(n:Nd)(toks:List Tok):Prop :=
 ∃us:List aC,us≠[]/\bG us=toks/\fK us/\∀(pre post:List aC) (fin:Int) (c0:az),(k=112->c0.bw=[])->∃c1,dC k (at_ pre (us++post) fin 0,c0)=(at_ (pre++us) post fin 0,c1)/\GI k c n c0 c1
theorem K6{fin:Int}:(⟨(at_ pre us fin 0).l,(at_ pre us fin 0).at_,(at_ pre us fin 0).fin,aj⟩:ae)=at_ pre us fin 0:=rfl
def abM{T:aC}{fin:Int}:({at_ pre (T::us) fin 0 with at_:=(at_ pre (T::us) fin 0).at_+1}:ae)=at_ (pre++[T]) us fin 0:=by simp[at_]
def arI{k:UInt8}{n:Nd}(h:AQ k c n)(ht:toks.map Tok.sh=B1 k c n):aaI k c n toks:=by
 rcases h with ⟨rfl,h⟩ | ⟨rfl,U,h⟩ | ⟨rfl,U,h⟩ | ⟨rfl,h⟩ | ⟨rfl,h⟩ | ⟨rfl,h⟩
 .obtain⟨us,n1,f1,w1,b1⟩:=yE c.name toks ht;refine⟨us,n1,f1,w1,λpre post fin c0 _=>?_⟩;obtain⟨y,q1,q2⟩:=b1 (bp us) (bY _) pre post fin;refine⟨{c0 with name:=y},?_,.inl ⟨rfl,y,by simpa [qH] using q2,rfl⟩⟩;have q1:(at_ pre (us++post) fin 0).word=(y,at_ (pre++us) post fin 0):=q1;have hb:(at_ pre (us++post) fin 0).aM=none:=rfl;simp[dC,hb,q1]
 .obtain⟨w,hw⟩:∃w,c.an=[w]:=by
   match hc:c.an,U with
   | [w],_=>exact⟨w,rfl⟩
  have ht:toks.map Tok.sh=[gg w.au]:=by rw[ht];simp[B1,mm,hw,fj]
  obtain⟨us,n1,f1,w1,b1⟩:=yE w toks ht;refine⟨us,n1,f1,w1,λpre post fin c0 _=>?_⟩;obtain⟨y,q1,q2⟩:=b1 (bp us) (bY _) pre post fin;refine⟨{c0 with an:=[y]},?_,.inr (.inl ⟨.inl rfl,[y],?_,rfl⟩)⟩
  .have q1:(at_ pre (us++post) fin 0).word=(y,at_ (pre++us) post fin 0):=q1;have hb:(at_ pre (us++post) fin 0).aM=none:=rfl;simp[dC,hb,q1]
  .rw[hw];simpa [eH,qH] using q2
 .obtain⟨T,f1,w1,k1,b1⟩:=K_ (one:=λ_=>ae.word) (sm:=qH) (S:=λw=>[gg w.au]) (a:=123) (b:=125) (e:=false) (xs:=c.an) (by decide) (by decide) (by decide) (λw _=>yE w) (λe=>by rw[e] at U;simp at U) (toks:=toks) ht;refine⟨[T],by simp,f1,w1,λpre post fin c0 _=>?_⟩;obtain⟨ys,p,q1,q2⟩:=b1 (bp [T]) (by omega) pre post fin;rw[KW] at q2;have q1:(at_ pre (T::post) fin 0).words ar=((ys,p),at_ (pre++[T]) post fin 0):=q1;refine⟨{c0 with an:=ys},?_,.inr (.inl ⟨.inr rfl,ys,q2,rfl⟩)⟩;have hb:(at_ pre (T::post) fin 0).aM=none:=rfl;have hw:jY (at_ pre (T::post) fin 0).l (at_ pre (T::post) fin 0).at_ (at_ pre (T::post) fin 0).fin=(ys,aj):=by
   unfold jY;rw[K6,q1];rfl
  have vU:dC 119 (at_ pre ([T]++post) fin 0,c0)=({at_ pre (T::post) fin 0 with aM:=(jY (at_ pre (T::post) fin 0).l (at_ pre (T::post) fin 0).at_ (at_ pre (T::post) fin 0).fin).2,at_:=(at_ pre (T::post) fin 0).at_+1},{c0 with an:=(jY (at_ pre (T::post) fin 0).l (at_ pre (T::post) fin 0).at_ (at_ pre (T::post) fin 0).fin).1}):=rfl;rw[vU,hw,<-abM];rfl
 .have ht:toks.map Tok.sh=[bS 123]++fj (c.bw.map yi)++[bS 125]:=ht;obtain⟨t1,t3,rfl,U,h3⟩:=j5.1 ht;obtain⟨ta,t2,rfl,ha,h2⟩:=j5.1 U;obtain⟨pa,rfl⟩:=vn ha;obtain⟨pb,rfl⟩:=vn h3;have key:∃us:List aC,bG us=t2/\fK us/\((us=[]/\c.bw=[])\/us≠[]/\∀fin,∃ys r,ae.gM (us.length+1) (at_ [] us fin 0) []=(r,ys)/\r.aM=aj/\ml ys c.bw=ab):=by
   cases hc:c.bw with
   | nil =>
    rw[hc] at h2
    have:t2=[]:=by simpa [fj] using h2
    exact⟨[],by rw[this];rfl,trivial,.inl ⟨rfl,rfl⟩⟩
   | cons p ps =>
    rw[hc] at h2;obtain⟨us,n1,f1,w1,b1⟩:=arD ps p t2 h2;refine⟨us,f1,w1,.inr ⟨n1,λfin=>?_⟩⟩;obtain⟨ys,r,q1,q2,q3⟩:=b1 (us.length+1) [] fin [] (by omega);exact⟨ys,r,by rw[q1];rfl,q2,by rw[<-Rn];exact q3⟩
  obtain⟨us,f1,w1,hk⟩:=key;refine⟨[.mk ⟨((123:UInt8).toNat:Nat),[123],pa⟩ us pb],by simp,?_,?_,λpre post fin c0 hp=>?_⟩
  .simp only[bG,aC.flat,eD];rw[aF (by decide),f1];rfl
  .simp only[fK,aC.WF];exact⟨⟨by decide,λh=>absurd h (by decide),w1⟩,trivial⟩
  .have hp:=hp rfl;have vT:∀x:ae × az,x.1.aM=aj->dC 112 x=qA x.1 x.2:=λx hx=>by simp[dC,hx]
   have wC:(at_ pre (aC.mk ⟨((123:UInt8).toNat:Nat),[123],pa⟩ us pb::post) fin 0).take 123=(.mk ⟨((123:UInt8).toNat:Nat),[123],pa⟩ us pb,at_ (pre++[.mk ⟨((123:UInt8).toNat:Nat),[123],pa⟩ us pb]) post fin 0):=pk rfl;rw[vT _ rfl];unfold qA;simp only[il,gQ,wC,aC.ak,aC.tok]
   rcases hk with ⟨rfl,hc⟩ | ⟨n1,hk⟩
   .rw[aF (.inr rfl)];refine⟨_,rfl,.inr (.inr (.inl ⟨rfl,[],pa,by rw[hc];rfl,?_⟩))⟩;cases c0;simp only at hp;subst hp;rfl
   .have hl:us.length≠0:=λh=>n1 (kn.1 h)
    rw[aB (by simp[at_,hl])];obtain⟨ys,r,q1,q2,q3⟩:=hk pb;have eX:(aC.mk ⟨((123:UInt8).toNat:Nat),[123],pa⟩ us pb).inner=at_ [] us pb 0:=by simp[aC.inner,at_,aC.ak,aC.fin]
    rw[eX,q1];simp only[q2,ae.vL];exact⟨_,rfl,.inr (.inr (.inl ⟨rfl,ys,pa,q3,rfl⟩))⟩
 .obtain⟨us,n1,f1,w1,b1⟩:=anE _ n (bY _) h toks ht;refine⟨us,n1,f1,w1,λpre post fin c0 _=>?_⟩;have hm:bp us<=bp (at_ pre (us++post) fin 0).l:=by simp only[at_,tX];omega
  obtain⟨y,q1,q2⟩:=b1 _ hm pre post fin;have Hz:∀x:ae × az,x.1.aM=aj->dC 116 x=jD x.1 x.2 (fO (ae.label (bp x.1.l)) x.1.l x.1.at_ x.1.fin):=λx hx=>by simp[dC,hx]
  rw[Hz _ rfl];unfold fO;rw[K6,q1];refine⟨_,?_,.inr (.inr (.inr ⟨.inl rfl,y,q2,rfl⟩))⟩;simp[jD,at_]
 .obtain⟨us,n1,f1,w1,b1⟩:=atO h toks ht;refine⟨us,n1,f1,w1,λpre post fin c0 _=>?_⟩;have hm:bp us<=bp (at_ pre (us++post) fin 0).l:=by simp only[at_,tX];omega
  obtain⟨y,q1,q2⟩:=b1 _ hm pre post fin;have Hy:∀x:ae × az,x.1.aM=aj->dC 114 x=jD x.1 x.2 (fO (ae.row (bp x.1.l)) x.1.l x.1.at_ x.1.fin):=λx hx=>by simp[dC,hx]
  rw[Hy _ rfl];unfold fO;rw[K6,q1];refine⟨_,?_,.inr (.inr (.inr ⟨.inr rfl,y,q2,rfl⟩))⟩;simp[jD,at_]
def GJ(c:az):List (UInt8 × Nd)->az->az->Prop
 | [],c0,c1=>c1=c0
 | q::qs,c0,c2=>∃c1,GI q.1 c q.2 c0 c1/\GJ c qs c1 c2
def afz{k:UInt8}{n:Nd}{c0 c1:az}(hk:k≠112)(h:GI k c n c0 c1):c1.bw=c0.bw:=by
 rcases h with ⟨_,w,_,rfl⟩ | ⟨_,w,_,rfl⟩ | ⟨h,_⟩ | ⟨_,m,_,rfl⟩
 .rfl
 .rfl
 .exact absurd h hk
 .split<;>rfl
def Xo{c:az}:∀(qs:List (UInt8 × Nd)),(∀q∈qs,AQ q.1 c q.2)->(qs.map (·.1)).count 112<=1->∀toks:List Tok,toks.map Tok.sh=(qs.map λq=>B1 q.1 c q.2).flatten ->
 ∃us:List aC,bG us=toks/\fK us/\∀(pre:List aC) (fin:Int) (c0:az),(112∈qs.map (·.1)->c0.bw=[])->∃c1,jc (qs.map (·.1)) (at_ pre us fin 0,c0)=(at_ (pre++us) [] fin 0,c1)/\GJ c qs c0 c1
 | [], _, _, toks, ht => by
  have:toks=[]:=by simpa using ht
  subst this;exact⟨[],rfl,trivial,λpre fin c0 _=>⟨c0,by simp[jc],rfl⟩⟩
 | q :: qs, h, hc, toks, ht => by
  simp only[cz,lV] at ht;obtain⟨t1,t2,rfl,U,h2⟩:=j5.1 ht;obtain⟨u1,_,f1,w1,b1⟩:=arI (h q (by simp)) U;have hc2:(qs.map (·.1)).count 112<=1:=by
   rw[cz,List.count_cons] at hc;omega
  obtain⟨u2,f2,w2,b2⟩:=Xo qs (λx hx=>h x (by simp[hx])) hc2 t2 h2;refine⟨u1++u2,by rw[iY,f1,f2],by rw[kK];exact⟨w1,w2⟩,λpre fin c0 hp=>?_⟩;obtain⟨c1,e1,g1⟩:=b1 pre u2 fin c0 (λe=>hp (by simp[e]));obtain⟨c2,e2,g2⟩:=b2 (pre++u1) fin c1 (λhm=>by
   by_cases e:q.1=112
   .exfalso
    rw[cz,e,QM] at hc
    have:(qs.map (·.1)).count 112=0:=by omega
    exact QN.1 this hm
   .rw[afz e g1];exact hp (by simp only[cz,lq];exact .inr hm))
  exact⟨c2,by simp only[cz,jc,e1,e2,eN],c1,g1,g2⟩
def N6:∀(ks:List UInt8) (ts:List Nd),(mU ks ts).map (·.1)=ks
 | [],_=>rfl
 | k::ks,ts=>by simp only[mU,cz,N6 ks]
def FD:List (List UInt8):=[[110,119],[110,119,112],[110,116,116],[110,114,114],[110,102],[],[110]]
def EF{op:Int}(U:1<=op)(h2:op<=15):(cu op).2∈FD/\cV (cu op).1=ab/\jt (cu op).1=op:=by
 have key:∀n:Nat,n<15->(cu ((n+1:Nat):Int)).2∈FD/\cV (cu ((n+1:Nat):Int)).1=ab/\jt (cu ((n+1:Nat):Int)).1=((n+1:Nat):Int):=by decide +kernel
 have:=key (op.toNat - 1) (by omega)
 rwa [show((op.toNat - 1+1:Nat):Int)=op by omega] at this
def Gb:∀a b:List aA,eH a b=decide (a.map aA.au=b.map aA.au)
 | [],[]=>by simp[eH]
 | [],_::_=>by simp[eH]
 | _::_,[]=>by simp[eH]
 | w::ws,u::us=>by simp[eH,Gb ws us]
def nU(l:List aC)(a fin k:Int):(⟨l,a,fin,aj⟩:ae).b_ k=bL l a k:=by simp[ae.b_,ae.ok]
theorem DJ(l:List aC)(a fin:Int)(b:Option Int):(⟨l,a,fin,b⟩:ae).spot=pO l a fin:=rfl
variable{a:Int}
def nh{fin:Int}(h:bL l a k=ab):(⟨l,a,fin,aj⟩:ae).take k=(bU l a,⟨l,a+1,fin,aj⟩):=by
 obtain⟨j,t,rfl,hj,_,hl⟩:=zI h;simp[ae.take,nU,h,bU,hj,fW]
def nY{fin:Int}(h:bL l a k=ar):(⟨l,a,fin,aj⟩:ae).take k=(.zero,⟨l,a,fin,aa (pO l a fin)⟩):=by
 simp[ae.take,nU,h,ae.fail,DJ]
def w7(h:bL l a k=ab):(bU l a).tok=gh l a:=by
 obtain⟨j,t,rfl,hj,_,_⟩:=zI h;simp[bU,gh,hj]
def TX{step:ae × List G->ae × List G}{a:ae × List G}(h:a.1.aM≠aj):∀n,jy step n a=a
 | 0=>rfl
 | n + 1 => by
  have:a.1.b_ 44=false:=by
   simp only[ae.b_,ae.ok];cases hb:a.1.aM with
   | none=>exact absurd hb h
   | some _=>simp
  simp[jy,this]
def TY{step:ae × List G->ae × List G}{a:ae × List G}(h:a.1.b_ 44=ar):∀n,jy step n a=a
 | 0=>rfl
 | n+1=>by simp[jy,h]
def WE{fin:Int}(h:bL l a 97=ab):nameAt l a fin=⟨.mk 0 (gh l a).pos (gh l a).au [] [],a+1,ar,0⟩:=by simp[nameAt,h]
def WD{fin:Int}(h:bL l a 97=ar):nameAt l a fin=eK l a fin:=by simp[nameAt,h]
def PM(l:List aC)(fin:Int):∀(m n:Nat) (a:Nat) (out:List Nd) (ws:List aA),ws=uf out->l.length+1<=m+a->l.length<=n+a->a<=l.length ->
 (gO (λi=>nameAt l i fin) l m a out).2.aM=ab/\(jy gP n (gP (⟨l,a,fin,aj⟩,ws))).1.aM=aa (gO (λi=>nameAt l i fin) l m a out).2.pos \/
 (gO (λi=>nameAt l i fin) l m a out).2.aM=ar/\jy gP n (gP (⟨l,a,fin,aj⟩,ws))=(⟨l,(gO (λi=>nameAt l i fin) l m a out).2.next,fin,aj⟩,uf (gO (λi=>nameAt l i fin) l m a out).1)
 | 0,n,a,out,ws,Bu,hm,hn,ha=>by omega
 | m + 1, n, a, out, ws, Bu, hm, hn, ha => by
  cases hk:bL l a 97
  .left;have e:gP (⟨l,a,fin,aj⟩,ws)=(⟨l,a,fin,aa (pO l a fin)⟩,ws++[⟨[],0⟩]):=by simp[gP,ae.word,nY hk,aC.zero,aC.tok]
   rw[e,TX (by simp)];simp[gO,WD hk,eK]
  .obtain⟨j,t,hj,_,_,hl⟩:=zI hk;have e:gP (⟨l,a,fin,aj⟩,ws)=(⟨l,(a:Int)+1,fin,aj⟩,ws++[⟨(gh l a).au,(gh l a).pos⟩]):=by simp[gP,ae.word,nh hk,w7 hk]
   rw[e];simp only[gO,WE hk,dP,cF];cases xI:bL l ((a:Int)+1) 44
   .right;rw[TY (by simp[nU,xI])];simp[Bu,uf,Nd.au,Nd.pos]
   .obtain⟨j2,t2,hj2,_,_,iu⟩:=zI xI;obtain⟨n,rfl⟩:∃k,n=k+1:=⟨n - 1,by omega⟩;simp only[jy,nU,xI,cM,nh xI];have ih:=PM l fin m n (a+2) (out++[.mk 0 (gh l a).pos (gh l a).au [] []]) (ws++[⟨(gh l a).au,(gh l a).pos⟩]) (by simp[Bu,uf,Nd.au,Nd.pos]) (by omega) (by omega) (by omega);rw[show(a:Int)+1+1=((a+2:Nat):Int) by omega];exact ih
def aw1(l:List aC)(a fin:Int) :
 (sY l a fin).2.aM=ab/\jY l a fin=([],aa (sY l a fin).2.pos)\/(sY l a fin).2.aM=ar/\jY l a fin=((sY l a fin).1,aj):=by
 cases h:bL l a 123
 .left;have e:(⟨l,a,fin,aj⟩:ae).words ar=(([],0),⟨l,a,fin,aa (pO l a fin)⟩):=by
   simp[ae.words,ae.bracket,nY h,ae.ok]
  simp[sY,h,eK,jY,e]
 .have ht:∃t,bU l a=t:=⟨_,rfl⟩;obtain⟨t,ht⟩:=ht;have hw:(⟨l,a,fin,aj⟩:ae).words ar=(((eJ gP t.inner).2,t.tok.pos),(⟨l,a+1,fin,aj⟩:ae).under (eJ gP t.inner).1):=by
   simp[ae.words,ae.bracket,nh h,ae.ok,ae.inside,ht]
  have hs:=PM t.ak t.fin (t.ak.length+1) t.ak.length 0 [] [] rfl (by omega) (by omega) (by omega);have hg:eJ gP t.inner=jy gP t.ak.length (gP (⟨t.ak,((0:Nat):Int),t.fin,aj⟩,[])):=rfl;rw[<-hg] at hs;have hr:sY l a fin=(uf (wholeAt nameAt t ar).1,(wholeAt nameAt t ar).2):=by simp[sY,h,ht]
  have kt:wholeAt nameAt t ar=if (gO (λi=>nameAt t.ak i t.fin) t.ak (t.ak.length+1) ((0:Nat):Int) []).2.aM=ar/\(gO (λi=>nameAt t.ak i t.fin) t.ak (t.ak.length+1) ((0:Nat):Int) []).2.next<t.ak.length then([],eK t.ak (gO (λi=>nameAt t.ak i t.fin) t.ak (t.ak.length+1) ((0:Nat):Int) []).2.next t.fin)
   else gO (λi=>nameAt t.ak i t.fin) t.ak (t.ak.length+1) ((0:Nat):Int) []:=by simp[wholeAt]
  generalize gO (λi=>nameAt t.ak i t.fin) t.ak (t.ak.length+1) ((0:Nat):Int) []=S at hs kt;generalize eJ gP t.inner=G'' at hs hw
  rcases hs with ⟨U,h2⟩ | ⟨U,h2⟩
  .left;rw[U] at kt;simp only[rE,Ey,cF] at kt;refine⟨by rw[hr,kt];exact U,?_⟩;rw[hr,kt];have hc:G''.1.close=G''.1:=by simp[ae.close,ae.ok,h2]
   simp[jY,hw,ae.under,hc,h2]
  .rw[U] at kt;simp only[qF] at kt;rw[h2] at hw
   by_cases hn:S.2.next<t.ak.length
   .left;rw[aF hn] at kt;refine⟨by rw[hr,kt];rfl,?_⟩;rw[hr,kt];simp[jY,hw,ae.under,ae.close,ae.ok,hn,ae.fail,DJ,eK]
   .right;rw[aB hn] at kt;refine⟨by rw[hr,kt];exact U,?_⟩;rw[hr,kt];simp[jY,hw,ae.under,ae.close,hn]
def Alike(one:ae->Nd × ae)(g:List aC->Int->Int->cI):Prop:=∀(l:List aC) (a fin:Int),
 (g l a fin).aM=ab/\(one ⟨l,a,fin,aj⟩).2.aM=aa (g l a fin).pos\/(g l a fin).aM=ar/\one ⟨l,a,fin,aj⟩=((g l a fin).node,⟨l,(g l a fin).next,fin,aj⟩)
def PJ{one:ae->Nd × ae}{g:List aC->Int->Int->cI}(H:Alike one g)(H6:vw g)(l:List aC)(fin:Int):∀(m n:Nat) (a:Nat) (out:List Nd),l.length+1<=m+a->l.length<=n+a->a<=l.length ->
 (gO (λi=>g l i fin) l m a out).2.aM=ab/\(jy (cH one) n (cH one (⟨l,a,fin,aj⟩,out))).1.aM=aa (gO (λi=>g l i fin) l m a out).2.pos \/
 (gO (λi=>g l i fin) l m a out).2.aM=ar/\jy (cH one) n (cH one (⟨l,a,fin,aj⟩,out))=(⟨l,(gO (λi=>g l i fin) l m a out).2.next,fin,aj⟩,(gO (λi=>g l i fin) l m a out).1)
 | 0,n,a,out,hm,hn,ha=>by omega
 | m + 1, n, a, out, hm, hn, ha => by
  rcases H l a fin with ⟨U,h2⟩ | ⟨U,h2⟩
  .left;have e:(cH one (⟨l,a,fin,aj⟩,out)).1.aM=aa (g l a fin).pos:=h2;rw[TX (by rw[e];simp)];simp only[gO,U,cM];exact⟨trivial,e⟩
  .have hA:=H6 l a fin U;have e:cH one (⟨l,a,fin,aj⟩,out)=(⟨l,(g l a fin).next,fin,aj⟩,out++[(g l a fin).node]):=by simp[cH,h2]
   rw[e];simp only[gO,U,dP,cF];cases xI:bL l (g l a fin).next 44
   .right;rw[TY (by simp[nU,xI])];simp[U]
   .obtain⟨b,hb⟩:=AF (show 0<=(g l a fin).next by omega);obtain⟨j2,t2,hj2,_,_,iu⟩:=zI xI;obtain⟨n,rfl⟩:∃k,n=k+1:=⟨n - 1,by omega⟩;simp only[jy,nU,xI,cM,nh xI];have ih:=PJ H H6 l fin m n (b+1) (out++[(g l a fin).node]) (by omega) (by omega) (by omega);rw[show(g l a fin).next+1=((b+1:Nat):Int) by omega];exact ih
variable{g:List aC->Int->Int->cI}
def awT(t:aC)(empty:Bool)(h:¬(empty=ab/\t.ak.length=0)):wholeAt g t empty=if (gO (λi=>g t.ak i t.fin) t.ak (t.ak.length+1) ((0:Nat):Int) []).2.aM=ar/\(gO (λi=>g t.ak i t.fin) t.ak (t.ak.length+1) ((0:Nat):Int) []).2.next<t.ak.length then([],eK t.ak (gO (λi=>g t.ak i t.fin) t.ak (t.ak.length+1) ((0:Nat):Int) []).2.next t.fin)
 else gO (λi=>g t.ak i t.fin) t.ak (t.ak.length+1) ((0:Nat):Int) []:=by
 unfold wholeAt;rw[aB h];simp
def RW{step:ae × List G->ae × List G}{conv:List Nd->List G}(hc:conv []=[]){fin:Int}{kind:Int}(hk:bL l a kind=ab)(empty:Bool)
 (hs:∀t:aC,(gO (λi=>g t.ak i t.fin) t.ak (t.ak.length+1) ((0:Nat):Int) []).2.aM=ab/\(eJ step t.inner).1.aM=aa (gO (λi=>g t.ak i t.fin) t.ak (t.ak.length+1) ((0:Nat):Int) []).2.pos \/
   (gO (λi=>g t.ak i t.fin) t.ak (t.ak.length+1) ((0:Nat):Int) []).2.aM=ar/\eJ step t.inner=(⟨t.ak,(gO (λi=>g t.ak i t.fin) t.ak (t.ak.length+1) ((0:Nat):Int) []).2.next,t.fin,aj⟩,conv (gO (λi=>g t.ak i t.fin) t.ak (t.ak.length+1) ((0:Nat):Int) []).1)) :
 (wholeAt g (bU l a) empty).2.aM=ab/\((⟨l,a,fin,aj⟩:ae).bracket step kind empty).2.aM=aa (wholeAt g (bU l a) empty).2.pos \/
 (wholeAt g (bU l a) empty).2.aM=ar/\(⟨l,a,fin,aj⟩:ae).bracket step kind empty=((conv (wholeAt g (bU l a) empty).1,(gh l a).pos),⟨l,a+1,fin,aj⟩):=by
 have wC:(bU l a).tok=gh l a:=w7 hk;have hb:(⟨l,a,fin,aj⟩:ae).bracket step kind empty=(((ae.inside step empty (bU l a)).2,(gh l a).pos),(⟨l,a+1,fin,aj⟩:ae).under (ae.inside step empty (bU l a)).1):=by
  simp[ae.bracket,nh hk,ae.ok,wC]
 rw[hb];have hs:=hs (bU l a);generalize bU l a=t at hs ⊢
 by_cases he:empty=ab/\t.ak.length=0
 .right;have e1:ae.inside step empty t=(t.inner,[]):=by unfold ae.inside;rw[aF he]
  have e2:wholeAt g t empty=([],⟨.zero,0,ar,0⟩):=by unfold wholeAt;rw[aF he]
  rw[e1,e2];refine⟨rfl,?_⟩;simp[ae.under,ae.close,aC.inner,he.2,hc]
 .have e1:ae.inside step empty t=eJ step t.inner:=by unfold ae.inside;rw[aB he]
  rw[e1];have kt:=awT (g:=g) t empty he;generalize gO (λi=>g t.ak i t.fin) t.ak (t.ak.length+1) ((0:Nat):Int) []=S at hs kt;generalize eJ step t.inner=G'' at hs ⊢
  rcases hs with ⟨U,h2⟩ | ⟨U,h2⟩
  .left;rw[U] at kt;simp only[rE,Ey,cF] at kt;rw[kt];have hc:G''.1.close=G''.1:=by simp[ae.close,ae.ok,h2]
   exact⟨U,by simp[ae.under,hc,h2]⟩
  .rw[U] at kt;simp only[qF] at kt;rw[h2]
   by_cases hn:S.2.next<t.ak.length
   .left;rw[aF hn] at kt;rw[kt];exact⟨rfl,by simp[ae.under,ae.close,ae.ok,hn,ae.fail,DJ,eK]⟩
   .right;rw[aB hn] at kt;rw[kt];exact⟨U,by simp[ae.under,ae.close,hn]⟩
def Ow{one:ae->Nd × ae}(H:Alike one g)(H6:vw g){fin kind:Int}(hk:bL l a kind=ab)(empty:Bool):
 (wholeAt g (bU l a) empty).2.aM=ab/\((⟨l,a,fin,aj⟩:ae).nodes one kind empty).2.aM=aa (wholeAt g (bU l a) empty).2.pos \/
 (wholeAt g (bU l a) empty).2.aM=ar/\(⟨l,a,fin,aj⟩:ae).nodes one kind empty=(((wholeAt g (bU l a) empty).1,(gh l a).pos),⟨l,a+1,fin,aj⟩) :=
 RW (conv:=id) rfl hk empty λt=>PJ H H6 t.ak t.fin (t.ak.length+1) t.ak.length 0 [] (by omega) (by omega) (by omega)
def Z0{fin:Int}(hk:bL l a 123=ab)(empty:Bool):
 (wholeAt nameAt (bU l a) empty).2.aM=ab/\((⟨l,a,fin,aj⟩:ae).words empty).2.aM=aa (wholeAt nameAt (bU l a) empty).2.pos \/
 (wholeAt nameAt (bU l a) empty).2.aM=ar/\(⟨l,a,fin,aj⟩:ae).words empty=((uf (wholeAt nameAt (bU l a) empty).1,(gh l a).pos),⟨l,a+1,fin,aj⟩) :=
 RW (conv:=uf) rfl hk empty λt=>PM t.ak t.fin (t.ak.length+1) t.ak.length 0 [] [] rfl (by omega) (by omega) (by omega)
def Dm(k:Int):Alike (ae.leaf k) (uY k):=λl a fin=>by
 unfold uY;cases h:bL l a 97
 .left;simp[ae.leaf,ae.word,nY h,eK]
 .right;simp[ae.leaf,ae.word,nh h,w7 h]
def atZ:Alike ae.pJ B7:=λl a fin=>by
 unfold B7 ae.pJ;cases h:bL l a 97
 .left;have hb:∀r:ae,r.aM≠aj->((r.take 58).2.words ab).2.aM=r.aM:=λr hr=>by
   obtain⟨x,hx⟩:∃x,r.aM=aa x:=by cases hq:r.aM with | none=>exact absurd hq hr | some x=>exact⟨x,rfl⟩
   have e:r.take 58=(.zero,r):=by simp[ae.take,ae.b_,ae.ok,hx,ae.fail]
   have e2:r.take 123=(.zero,r):=by simp[ae.take,ae.b_,ae.ok,hx,ae.fail]
   simp[e,ae.words,ae.bracket,e2,ae.ok,hx]
  simp only[ae.word,nY h,cM];exact⟨rfl,hb _ (by simp)⟩
 simp only[ae.word,nh h,rE,cF];cases h2:bL l (a+1) 58
 .left;simp only[nY h2,cM];refine⟨rfl,?_⟩;simp[ae.words,ae.bracket,ae.take,ae.b_,ae.ok,ae.fail,eK]
 simp only[nh h2,rE,cF];have e2:a+1+1=a+2:=by omega
 rw[e2];cases h3:bL l (a+2) 123
 .left;simp only[cM];refine⟨rfl,?_⟩;simp[ae.words,ae.bracket,nY h3,ae.ok,eK]
 simp only[rE,cF]
 rcases Z0 (fin:=fin) h3 ab with ⟨p1,p2⟩ | ⟨p1,p2⟩
 .left;rw[aF p1];exact⟨p1,p2⟩
 .right;rw[p1];simp only[dP,cF];refine⟨trivial,?_⟩;rw[p2];simp[w7 h];omega
def sP{k':Int}(h:bL l a k=ab)(a9:k≠k'):bL l a k' = false:=by
 cases hq:bL l a k' with
 | false=>rfl
 | true =>
  obtain⟨j,t,rfl,hj,hk,_⟩:=zI h;obtain⟨j',t',e,iP,j_,_⟩:=zI hq;obtain rfl:j' = j:=by omega
  rw[hj] at iP;simp only[bc] at iP;subst iP;exact absurd (hk.symm.trans j_) a9
def Sw:∀n,Alike (ae.constant n) (rJ n)
 | 0=>Dm 2
 | n + 1 => λl a fin => by
  simp only[rJ,ae.constant,nU];cases gX:bL l a 97
  case true =>
   simp only[sP gX (show(97:Int)≠123 by decide),sP gX (show(97:Int)≠40 by decide),sP gX (show(97:Int)≠91 by decide),dP,cF,cM];exact Dm 2 l a fin
  simp only[dP,cF];cases L_:bL l a 123
  case true =>
   simp only[cM]
   rcases Z0 (fin:=fin) L_ ab with ⟨p1,p2⟩ | ⟨p1,p2⟩
   .left;unfold o6;rw[aF p1];exact⟨p1,p2⟩
   .right;unfold o6;rw[p1,p2];exact⟨rfl,rfl⟩
  simp only[dP,cF];cases HZ:bL l a 40
  case true =>
   simp only[cM]
   rcases Ow (Sw n) (Rj n) (fin:=fin) HZ ar with ⟨p1,p2⟩ | ⟨p1,p2⟩
   .left;unfold o6;rw[aF p1];exact⟨p1,p2⟩
   .right;unfold o6;rw[p1,p2];exact⟨rfl,rfl⟩
  simp only[dP,cF];cases H2:bL l a 91
  case true =>
   simp only[cM]
   rcases Ow atZ aaY (fin:=fin) H2 ab with ⟨p1,p2⟩ | ⟨p1,p2⟩
   .left;unfold o6;rw[aF p1];exact⟨p1,p2⟩
   .right;unfold o6;rw[p1,p2];exact⟨rfl,rfl⟩
  simp only[dP,cF];left;simp[ae.leaf,ae.word,nY gX,eK]
def acs{step:ae × List G->ae × List G}{fin kind:Int}(h:bL l a kind=ar):(⟨l,a,fin,aj⟩:ae).bracket step kind e=(([],0),⟨l,a,fin,aa (pO l a fin)⟩):=by
 simp[ae.bracket,nY h,ae.ok]
def ad0{n:Nat}{fin:Int}(f:Nd->Nd):
 ((rJ n l a fin).put f).aM=ab/\(ae.constant n ⟨l,a,fin,aj⟩).2.aM=aa ((rJ n l a fin).put f).pos\/((rJ n l a fin).put f).aM=ar/\(f (ae.constant n ⟨l,a,fin,aj⟩).1,(ae.constant n ⟨l,a,fin,aj⟩).2)=(((rJ n l a fin).put f).node,⟨l,((rJ n l a fin).put f).next,fin,aj⟩):=by
 unfold cI.put
 rcases Sw n l a fin with ⟨p1,p2⟩ | ⟨p1,p2⟩
 .left;rw[aF p1];exact⟨p1,p2⟩
 .right;rw[p1,p2];exact⟨rfl,rfl⟩
def He(n:Nat)(l:List aC)(a fin:Int):cI:=if bL l a 35=ab then(rJ n l (a+1) fin).put λm=>.mk 7 (gh l a).pos [] [] [m] else uY 1 l a fin
def Ry(n:Nat):Alike (ae.atom n) (He n):=λl a fin=>by
 unfold He;simp only[ae.atom,nU];cases tF:bL l a 35
 .simp only[dP,cF];exact Dm 1 l a fin
 .simp only[cM,nh tF,w7 tF]
  rcases ad0 (n:=n) (l:=l) (a:=a+1) (fin:=fin) (λm=>.mk 7 (gh l a).pos [] [] [m]) with ⟨p1,p2⟩ | ⟨p1,p2⟩
  .exact .inl ⟨p1,p2⟩
  .exact .inr ⟨p1,p2⟩
def NV:∀n,Alike (ae.label n) (jM n)
 | 0=>Dm 1
 | n + 1 => λl a fin => by
  have sign:∀(k:Int),bL l a k=ab->∀kd,(kd=8\/kd=9) ->
   let x:Nd × ae:=(.mk kd ((⟨l,a,fin,aj⟩:ae).take k).1.tok.pos [] [] (((⟨l,a,fin,aj⟩:ae).take k).2.nodes (ae.label n) 40 ar).1.1,(((⟨l,a,fin,aj⟩:ae).take k).2.nodes (ae.label n) 40 ar).2)
   let g:=if bL l (a+1) 40=ar then eK l (a+1) fin else o6 (wholeAt (jM n) (bU l (a+1)) ar) (λks=>.mk kd (gh l a).pos [] [] ks) (a+2)
   g.aM=ab/\x.2.aM=aa g.pos\/g.aM=ar/\x=(g.node,⟨l,g.next,fin,aj⟩):=λk hk kd _=>by
   simp only[nh hk,w7 hk];cases HZ:bL l (a+1) 40
   .left;simp only[cM];unfold ae.nodes;rw[acs HZ];exact⟨rfl,rfl⟩
   .simp only[rE,cF];have e2:a+1+1=a+2:=by omega
    rcases Ow (NV n) (G7 n) (fin:=fin) HZ ar with ⟨p1,p2⟩ | ⟨p1,p2⟩
    .left;unfold o6;rw[aF p1];exact⟨p1,p2⟩
    .right;unfold o6;rw[p1,p2,e2];exact⟨rfl,rfl⟩
  simp only[jM,ae.label,nU];cases gX:bL l a 97
  case true =>
   simp only[sP gX (show(97:Int)≠43 by decide),sP gX (show(97:Int)≠38 by decide),dP,cF,cM]
   have:=Ry (n+1) l a fin
   unfold He at this;rw[sP gX (show(97:Int)≠35 by decide)] at this;exact this
  simp only[dP,cF];cases tF:bL l a 35
  case true =>
   simp only[sP tF (show(35:Int)≠43 by decide),sP tF (show(35:Int)≠38 by decide),dP,cF,cM]
   have:=Ry (n+1) l a fin
   unfold He at this;rw[aF tF] at this;exact this
  simp only[dP,cF];cases xH:bL l a 43
  case true =>
   simp only[rE,Ey,cF,cM,sP xH (show(43:Int)≠38 by decide),dP];exact sign 43 xH 8 (.inl rfl)
  simp only[dP,cF,qF];cases zg:bL l a 38
  case true =>
   simp only[rE,cF,cM];exact sign 38 zg 9 (.inr rfl)
  simp only[dP,cF,cM];left;refine⟨rfl,?_⟩;simp[ae.atom,nU,tF,ae.leaf,ae.word,nY gX,eK]
def abR(n:Nat)(l:List aC)(a fin:Int):(tB n l a fin).aM=ab/\(ae.atom n ⟨l,a,fin,aj⟩).2.aM=aa (tB n l a fin).pos\/(tB n l a fin).aM=ar/\ae.atom n ⟨l,a,fin,aj⟩=((tB n l a fin).node,⟨l,(tB n l a fin).next,fin,aj⟩)\/n=0/\bL l a 35=true:=by
 cases n with
 | zero =>
  cases tF:bL l a 35
  .unfold tB jM
   by_cases h:bL l a 43=ab\/bL l a 38=ab
   .left;rw[aF h];have gX:bL l a 97=false:=by rcases h with h | h<;>exact sP h (by decide)
    exact⟨rfl,by simp[ae.atom,nU,tF,ae.leaf,ae.word,nY gX,eK]⟩
   .rw[aB h]
    have:=Dm 1 l a fin
    simp only[ae.atom,nU,tF,dP,cF]
    rcases this with h | h
    .exact .inl h
    .exact .inr (.inl h)
  .exact .inr (.inr ⟨rfl,rfl⟩)
 | succ n =>
  unfold tB
  by_cases h:bL l a 43=ab\/bL l a 38=ab
  .left;rw[aF h];have gX:bL l a 97=false:=by rcases h with h | h<;>exact sP h (by decide)
   have tF:bL l a 35=false:=by rcases h with h | h<;>exact sP h (by decide)
   exact⟨rfl,by simp[ae.atom,nU,tF,ae.leaf,ae.word,nY gX,eK]⟩
  .rw[aB h];have xH:bL l a 43=false:=by cases hq:bL l a 43 with | false=>rfl | true=>exact absurd (.inl hq) h
   have zg:bL l a 38=false:=by cases hq:bL l a 38 with | false=>rfl | true=>exact absurd (.inr hq) h
   have:=NV (n+1) l a fin
   simp only[ae.label,nU,xH,zg,dP,cF] at this
   rcases this with h | h
   .exact .inl h
   .exact .inr (.inl h)
end Go.Am
