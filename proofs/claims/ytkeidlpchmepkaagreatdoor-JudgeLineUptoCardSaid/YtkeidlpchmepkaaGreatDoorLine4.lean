/-
  Part 4 of the proof of JudgeLineUptoCardSaid: a logic over the model, the forms of the functions that the law reaches, and what they compute.
-/
import Derived.Test.YtkeidlpchmepkaaGreatDoorLine3
set_option linter.unusedVariables false
set_option linter.unusedSimpArgs false
set_option linter.defProp false
set_option linter.unusedSectionVars false
set_option maxRecDepth 4000
set_option maxHeartbeats 4000000
open Option renaming some->U,none->ah
open Bool renaming true->aa,false->aq
open List renaming replicate->aj,range->bG,getD->gy,zipWith->lQ
open Eq renaming mpr->cI
open Ne renaming symm->fL
namespace Go.Am
def delta(l:List Tok)(i:Nat):Int:=(if closing (ei l i)≠0 then 1 else 0) - (if lv (ei l i)=aa then 1 else 0)
variable{i n:Nat}
def vj{l:List Tok}{x:Nat}{d:Int}:ir l x (n+1) i d=if d+delta l i=0 then i else ir l x n (i+1) (d+delta l i):=by
 simp only[ir,delta];have e:d+(if closing (ei l i)≠0 then 1 else 0) - (if lv (ei l i)=aa then 1 else 0)=d+((if closing (ei l i)≠0 then 1 else 0) - (if lv (ei l i)=aa then 1 else 0)):=by omega
 rw[e];rfl
def RF(l:List Tok)(i:Nat) : -1<=delta l i:=by unfold delta;split<;>split<;>omega
def Et{l:List Tok}(h:closing (ei l i)≠0):delta l i=1:=by
 unfold delta
 have:lv (ei l i)=false:=by
  unfold closing at h;unfold lv;split at h
  .rename_i hk;rw[hk];decide
  .split at h
   .rename_i hk;rcases hk with hk | hk<;>rw[hk]<;>decide
   .exact absurd rfl h
 rw[this,aI h];simp
def Oa{l:List Tok}{x:Nat}:∀(n i:Nat) (d:Int),ir l x n i d=x\/i<=ir l x n i d
 | 0,_,_=>.inl rfl
 | n + 1, i, d => by
  rw[vj];split
  .exact .inr (b7 _)
  .rcases Oa n (i+1) (d+delta l i) with h | h
   .exact .inl h
   .exact .inr (by omega)
def scan{l:List Tok}{x j:Nat}:∀(n i:Nat) (d:Int),i+n=l.length->1<=d->x<i->i<=j->j<ir l x n i d->∃d',1<=d' /\ ir l x n i d=ir l x (l.length - j) j d'
 | 0,i,d,_,_,hx,hj,h=>by simp only[ir] at h;omega
 | n + 1, i, d, hl, hd, hx, hj, h => by
  by_cases LW:i=j
  .subst LW;exact⟨d,hd,by rw[show l.length - i=n+1 by omega]⟩
  rw[vj] at h ⊢;split at h
  .omega
  .rename_i he;rw[aw he]
   have:=RF l i
   exact scan n (i+1) _ (by omega) (by omega) (by omega) (by omega) h
def less{l:List Tok}{x y:Nat}:∀(n p:Nat) (a b:Int),1<=a->a<b->y<p->x<p->p<=ir l x n p b->ir l y n p a<ir l x n p b
 | 0,p,a,b,_,_,_,hx,h=>by simp only[ir] at h;omega
 | n + 1, p, a, b, ha, hb, hy, hx, h => by
  have hd:=RF l p;simp only[vj] at h ⊢;rw[aw (show ¬b+delta l p=0 by omega)] at h ⊢;have h2:p+1<=ir l x n (p+1) (b+delta l p):=by rcases Oa (l:=l) (x:=x) n (p+1) (b+delta l p) with e | e<;>omega
  split
  .omega
  .exact less n (p+1) _ _ (by omega) (by omega) (by omega) (by omega) h2
def nest{l:List Tok}{j:Nat}(hi:closing (ei l i)≠0)(hj:closing (ei l j)≠0)(h1:i<j)(h2:j<partner l i)(hl:i<l.length):partner l j<partner l i:=by
 have hp:=FR hl;have e:partner l i=ir l i (l.length - i - 1) (i+1) 1:=by
  unfold partner;rw[show l.length - i=(l.length - i - 1)+1 by omega,vj,Et hi];simp
 rw[e] at h2;obtain⟨d,hd,e2⟩:=scan (l.length - i - 1) (i+1) 1 (by omega) (by omega) (by omega) (by omega) h2;have e3:ir l i (l.length - j) j d=ir l i (l.length - j - 1) (j+1) (d+1):=by
  rw[show l.length - j=(l.length - j - 1)+1 by omega,vj,Et hj,aw (by omega)];simp
 have e4:partner l j=ir l j (l.length - j - 1) (j+1) 1:=by
  unfold partner;rw[show l.length - j=(l.length - j - 1)+1 by omega,vj,Et hj];simp
 rw[e,e2,e3,e4];rw[e2,e3] at h2;exact less _ _ _ _ (by omega) (by omega) (by omega) (by omega) (by rcases Oa (l:=l) (x:=i) (l.length - j - 1) (j+1) (d+1) with e | e<;>omega)
def Y9(l:List Tok)(i to:Nat):Prop:=∀j,i<=j->j<to->closing (ei l j)≠0->partner l j<to
def Ji{l:List Tok}:∀(n i to:Nat),to<=l.length->Y9 l i to->bE (jJ l n i to)<=to - i
 | 0,_,_,_,_=>by simp[jJ,bE]
 | n + 1, i, to, hl, hw => by
  rw[jJ];split
  .rename_i hi;split
   .rename_i hc;have hp:=FR (l:=l) (i:=i) (by omega);have hq:=hw i (b7 _) hi hc;have h1:=Ji n (i+1) (partner l i) (by omega) λj a b c=>nest hc c (by omega) b (by omega)
    have h2:=Ji n (partner l i+1) to hl λj a b c=>hw j (by omega) b c
    simp only[bE,aA.many];omega
   .have h2:=Ji n (i+1) to hl λj a b c=>hw j (by omega) b c
    simp only[bE,aA.many];omega
  .simp[bE]
def vR(t:Tok):Prop:=(t.kind=97/\dO t.ar=aa)\/(t.kind≠97/\t.ar=[UInt8.ofNat t.kind.toNat])
def FE:∀(n p:Nat) (r:List UInt8) (acc:List Tok),(∀t∈acc,vR t)->∀t∈(gQ n p r acc).1,vR t
 | 0,_,r,acc,h=>by cases r<;>simpa [gQ] using h
 | n+1,p,[],acc,h=>by simpa [gQ] using h
 | n + 1, p, c :: r, acc, h => by
  simp only[gQ];split
  .exact h
  .split
   .rename_i hr;refine FE n _ _ _ λt ht=>?_
    rcases jv.1 ht with ht | ht
    .exact h t ht
    .rw[nU.1 ht];exact .inl ⟨rfl,hr.2⟩
   .split
    .rename_i hs;refine FE n _ _ _ λt ht=>?_
     rcases jv.1 ht with ht | ht
     .exact h t ht
     .rw[nU.1 ht];refine .inr ⟨λe=>?_,?_⟩
      .simp only at e;rw[e] at hs;revert hs;decide
      .simp
    .split
     .exact FE n _ _ _ h
     .simp
mutual
def aA.Good:aA->Prop
 | .mk t ks _=>vR t/\(closing t.kind=0->ks=[])/\f_ ks
def f_:List aA->Prop
 | []=>True
 | t::ts=>t.Good/\f_ ts
end
def K_:∀{a b:List aA},f_ (a++b)↔f_ a/\f_ b
 | [],b=>by simp[f_]
 | t::ts,b=>by simp only[jN,f_,K_ (a:=ts),J8]
def AQ(t:aA):t.Good↔vR t.tok/\(closing t.tok.kind=0->t.ae=[])/\f_ t.ae:=by cases t;simp only[aA.Good,aA.tok,aA.ae]
def Jh{l:List Tok}(h:∀t∈l,vR t):∀(n i to:Nat),to<=l.length->f_ (jJ l n i to)
 | 0,_,_,_=>by simp[jJ,f_]
 | n + 1, i, to, hl => by
  rw[jJ];split
  .rename_i hi;have ht:vR (iI l i):=by
    have e:iI l i=l[i]:=by simp[iI,bN (show i<l.length by omega)]
    rw[e];exact h _ (dq _)
   have hk:(iI l i).kind=ei l i:=by simp only[iI,ei];split<;>rfl
   split
   .rename_i hc;have hp:=FR (l:=l) (i:=i) (by omega);simp only[f_,aA.Good];exact⟨⟨ht,λe=>absurd (hk▸e) hc,Jh h n _ _ (by omega)⟩,Jh h n _ _ hl⟩
   .simp only[f_,aA.Good];exact⟨⟨ht,λ_=>trivial,trivial⟩,Jh h n _ _ hl⟩
  .exact trivial
def al7(s:List UInt8):f_ (jt (fI s).1).1:=by
 unfold jt;split
 .exact trivial
 .exact Jh (FE _ _ _ _ (by simp)) _ _ _ (b7 _)
def NA(s:List UInt8):bE (jt (fI s).1).1<=s.length:=by
 have hl:=Nw s;unfold jt;split
 .simp[bE]
 .have:=Ji (l:=(fI s).1) (fI s).1.length 0 (fI s).1.length (b7 _) λj _ hj _=>(FR hj).2
  simp only;omega
def as7{t:Tok}(h:vR t):t.ar.length<=16:=by
 rcases h with ⟨_,h⟩ | ⟨_,h⟩
 .unfold dO at h;simp only[b_,eb] at h;exact h.1
 .rw[h];simp
structure mD(r r' : ag)(seg:List aA):Prop where
 ex:∃pre post,r.l=pre++seg++post/\r.at_=(pre.length:Nat)/\r'.at_=((pre++seg).length:Nat)
 l:r'.l=r.l
 b:r.aQ=ah
 b' : r'.aQ=ah
variable{r r':ag}
def mD.trans{Wo:ag}{a b:List aA}(h:mD r r' a)(k:mD r' Wo b):mD r Wo (a++b):=by
 obtain⟨pre,post,e1,e2,e3⟩:=h.ex;obtain⟨Og,Wa,f1,f2,f3⟩:=k.ex;refine⟨⟨pre,Wa,?_,e2,?_⟩,k.l.trans h.l,h.b,k.b'⟩
 .have hl:(pre++a).length=Og.length:=by omega
  have:pre++a++post=Og ++ (b++Wa):=by rw[<-e1,<-h.l,f1,fP]
  obtain⟨g1,g2⟩:=List.append_inj this hl;rw[e1,g2];simp
 .rw[f3];have hl:(pre++a).length=Og.length:=by omega
  simp only[bW] at hl ⊢;omega
def mD.mH{a:List aA}(h:mD r r' a)(hg:f_ r.l):f_ a:=by
 obtain⟨pre,post,e1,_,_⟩:=h.ex;rw[e1,K_,K_] at hg;exact hg.1.2
variable{k:Int}
def s9(h:(r.take k).2.aQ=ah):mD r (r.take k).2 [(r.take k).1]/\(r.take k).1.tok.kind=k:=by
 rcases r.vu k with ⟨hs,h1,h2,h3,h4⟩ | ⟨_,_,h1⟩
 .have dQ := hs;simp only[ag.cD,ag.ok,bf,b_,eb,Ed] at dQ;have an:r.at_.toNat<r.l.length:=by omega
  have e:(r.take k).1=r.l[r.at_.toNat]:=by simp[ag.take,hs,gy,bN an]
  refine⟨⟨⟨r.l.take r.at_.toNat,r.l.drop (r.at_.toNat+1),?_,?_,?_⟩,r.gk k,dQ.1,h2⟩,?_⟩
  .rw[e,fP,Qj,<-kM an,pA]
  .rw[iu];omega
  .rw[h1,bW,iu,fx];omega
  .rw[e]
   have:=dQ.2.2
   rw[bN an] at this;simpa using this
 .exact absurd h h1
def j4(l:List aA):Nat:=26*bE l
def yl(a b:List aA):j4 (a++b)=j4 a+j4 b:=by simp only[j4,NL];omega
def vt(t:aA):j4 [t]=26+j4 t.ae:=by simp only[j4,bE,U6];omega
def XX{t:Tok}(ht:t.kind≠97):∀(a:List Tok) (k:Option Int) (b:List Tok),vv k (a++t::b)=vv k a++t.ar++vv ah b
 | [], k, b => by
  simp only[kN,vv,ht,and_false,ch];cases b with
  | nil=>rfl
  | cons u us=>simp only[vv,bg,ht,Ex,ch,reduceCtorEq]
 | x::xs,k,b=>by simp only[jN,vv,XX ht xs (U x.kind) b,fP]
def Pa{t:Tok}(ht:t.kind≠97)(a b:List Tok):mz (a++t::b)=mz a++t.ar++mz b:=XX ht a ah b
def Ez:∀a b:List aA,cu (a++b)=cu a++cu b
 | [],b=>rfl
 | t::ts,b=>by simp only[jN,cu,Ez ts b,fP]
def KU(t:aA):cu [t]=t.tok::(if closing t.tok.kind≠0 then cu t.ae++[⟨closing t.tok.kind,[UInt8.ofNat (closing t.tok.kind).toNat],t.fin⟩] else []):=by
 cases t;simp only[cu,aA.flat,eM,aA.tok,aA.ae,aA.fin];rfl
variable{t:aA}
def BS(hk:t.tok.kind≠97)(hc:closing t.tok.kind=0)(a b:List aA):mz (cu (a++[t]++b))=mz (cu a)++t.tok.ar++mz (cu b):=by
 rw[Ez,Ez,KU,hc];simp only[rN,BE,ch,fP,Qj];rw[<-fP (mz (cu a))];exact Pa hk _ _
def asZ(hk:t.tok.kind=97):mz (cu [t])=t.tok.ar:=by
 rw[KU,hk,show closing 97=0 from rfl];simp[mz,vv]
def Pb(hc:closing t.tok.kind≠0):mz (cu [t])=t.tok.ar++mz (cu t.ae)++[UInt8.ofNat (closing t.tok.kind).toNat]:=by
 have hk:t.tok.kind≠97:=λe=>hc (by rw[e];rfl)
 have qF:closing t.tok.kind≠97:=by unfold closing;split;omega;split;omega;omega
 rw[KU,aI hc];have h1:=Pa hk [] (cu t.ae++[⟨closing t.tok.kind,[UInt8.ofNat (closing t.tok.kind).toNat],t.fin⟩]);rw[kN] at h1;rw[h1,Pa qF];simp[mz,vv]
variable{β:Type}
def Sound(one:ag->β × ag)(T:β->List UInt8)(Q:β->Prop)(S:β->Nat):Prop :=
 ∀r,f_ r.l->(one r).2.aQ=ah->∃seg,mD r (one r).2 seg/\mz (cu seg)=T (one r).1/\Q (one r).1/\S (one r).1<=j4 seg
def SR{step:ag × List β->ag × List β}:∀{n:Nat} {a:ag × List β},(ko step n a).1.aQ=ah->a.1.aQ=ah
 | 0,a,h=>h
 | n + 1, a, h => by
  rw[ko] at h;split at h
  .rename_i hs;simp only[ag.cD,ag.ok,b_,Ed] at hs;exact hs.1
  .exact h
section
variable {β:Type} {one:ag->β × ag} {T:β->List UInt8} {Q:β->Prop} {S:β->Nat}
structure Has(T:β->List UInt8)(Q:β->Prop)(S:β->Nat)(seg:List aA)(xs:List β):Prop where
 t:mz (cu seg)=cC (xs.map T)
 q:∀x∈xs,Q x
 s:(xs.map S).sum<=j4 seg
 n:0<xs.length
def SV(hs:Sound one T Q S){r:ag}(hg:f_ r.l):∀{n:Nat} {a:ag × List β} {seg:List aA},mD r a.1 seg->Has T Q S seg a.2->(ko (cV one) n a).1.aQ=ah ->
 ∃Xl,mD r (ko (cV one) n a).1 Xl /\ Has T Q S Xl (ko (cV one) n a).2
 | 0,a,seg,h,k,_=>⟨seg,h,k⟩
 | n + 1, a, seg, h, k, hb => by
  rw[ko] at hb ⊢;split
  .rename_i akn;rw[aI akn] at hb;have eE:=SR hb;have xH:f_ (a.1.take 44).2.l:=by rw[ag.gk,h.l];exact hg
   obtain⟨sg,e1,e2,e3,e4⟩:=hs (a.1.take 44).2 xH eE;obtain⟨t1,t2⟩:=s9 e1.b;refine SV hs hg (seg:=seg++[(a.1.take 44).1]++sg) ?_ ?_ hb
   .exact(h.trans t1).trans e1
   .have tJ:f_ [(a.1.take 44).1]:=t1.mH (by rw[h.l];exact hg);have cc:=((AQ _).1 tJ.1).1;have wA:(a.1.take 44).1.tok.ar=[44]:=by
     rcases cc with ⟨h1,_⟩ | ⟨_,h1⟩
     .omega
     .rw[h1,t2];rfl
    refine⟨?_,?_,?_,?_⟩
    .rw[BS (by rw[t2];decide) (by rw[t2];rfl),k.t,e2,wA];simp only[cV,jf,dz,eQ];rw[Nb,aI (by simpa using k.n)]
    .intro x hx
     rcases jv.1 hx with hx | hx
     .exact k.q x hx
     .rw[nU.1 hx];exact e3
    .have:=k.s
     simp only[cV,jf,dz,eQ,List.sum_append,rh,uv,yl];omega
    .simp[cV]
  .exact⟨seg,h,k⟩
def XE(hs:Sound one T Q S)(hg:f_ r.l)(hb:(eZ (cV one) r).1.aQ=ah):∃seg,mD r (eZ (cV one) r).1 seg/\Has T Q S seg (eZ (cV one) r).2:=by
 unfold eZ at hb ⊢;have eE:=SR hb;obtain⟨sg,e1,e2,e3,e4⟩:=hs r hg eE;refine SV hs hg e1 ?_ hb;refine⟨?_,?_,?_,?_⟩
 .simp only[cV,kN,dz,eQ,cC,P_,eM];exact e2
 .intro x hx;simp only[cV,kN,nU] at hx;rw[hx];exact e3
 .simp only[cV,kN,dz,eQ,rh,uv];omega
 .simp[cV]
def Km{i:ag}(h:i.close.aQ=ah):i.aQ=ah/\¬i.at_<i.l.length:=by
 unfold ag.close at h;split at h
 .exact absurd h i.KM
 .rename_i hc;refine⟨h,λhl=>hc ⟨by simp[ag.ok,h],hl⟩⟩
variable{seg:List aA}
def QD{i:ag}(h:mD t.inner i seg)(hc:i.close.aQ=ah):seg=t.ae:=by
 obtain⟨pre,post,e1,e2,e3⟩:=h.ex;obtain⟨_,h2⟩:=Km hc;have hp:pre=[]:=by
  have:t.inner.at_=0:=rfl
  rw[this] at e2;exact vG.1 (by omega)
 subst hp;have hq:post=[]:=by
  rw[h.l,e3,e1] at h2;simp only[kN,bW] at h2;exact vG.1 (by omega)
 subst hq;simpa [aA.inner] using e1.symm
variable{e:Bool}
def Q2(hs:Sound one T Q S)(hg:f_ r.l)(hb:(r.bracket (cV one) k e).2.aQ=ah):
 ∃t,mD r (r.bracket (cV one) k e).2 [t]/\t.tok.kind=k/\mz (cu t.ae)=cC ((r.bracket (cV one) k e).1.1.map T)/\(∀x∈(r.bracket (cV one) k e).1.1,Q x)/\((r.bracket (cV one) k e).1.1.map S).sum<=j4 t.ae /\
  (e=aq->0<(r.bracket (cV one) k e).1.1.length):=by
 unfold ag.bracket at hb ⊢;split
 .rename_i cc;rw[aI cc] at hb;have eE:(r.take k).2.aQ=none:=by simpa [ag.ok] using cc
  obtain⟨t1,t2⟩:=s9 eE;have tJ:(r.take k).1.Good:=(t1.mH hg).1;have zg:f_ (r.take k).1.ae:=((AQ _).1 tJ).2.2;have ep:(ag.inside (cV one) e (r.take k).1).1.close.aQ=none:=hb;refine⟨(r.take k).1,⟨t1.ex,t1.l,t1.b,hb⟩,t2,?_⟩;simp only;generalize (r.take k).1=t at *;unfold ag.inside at ep ⊢;split
  .rename_i he;have hk:t.ae=[]:=vG.1 he.2;rw[hk];refine⟨rfl,by simp,by simp,λh=>?_⟩;rw[h] at he;simp at he
  .rename_i he;rw[aw he] at ep;obtain⟨seg,e1,e2⟩:=XE hs (r:=t.inner) zg (Km ep).1;have Mp:=QD e1 ep;subst Mp;exact⟨e2.t,e2.q,e2.s,λ_=>e2.n⟩
 .rename_i cc;rw[aw cc] at hb;exact absurd hb (by simpa [ag.ok] using cc)
end
variable{p:Int}
def ap'{ws:List aF}(h:je ws=aa):(Nd.mk 3 p [] ws []).gp=true:=by
 rw[Nd.Cx];simp[Nd.kind,Nd.ar,Nd.al,Nd.ae,h]
variable{ks:List Nd}
def aqa(h:∀x∈ks,x.gp=aa)(h0:0<ks.length):(Nd.mk 4 p [] [] ks).gp=true:=by
 rw[Nd.Cx];simp[Nd.nh,Nd.kind,Nd.ar,Nd.al,Nd.ae];exact⟨h0,h⟩
def ap9(h:∀x∈ks,x.pj=aa):(Nd.mk 5 p [] [] ks).gp=true:=by
 rw[Nd.Cx];simp[Nd.nh,Nd.kind,Nd.ar,Nd.al,Nd.ae];exact h
def Wn{n:Nd}(hk:n.kind=2)(h:n.rM=aa):n.gp=true:=by rw[Nd.Cx,aI hk];exact h
def Ol{n:Nd}(hk:n.kind=1)(h:n.rM=aa):n.ff=true:=by rw[Nd.u4,aI hk];exact h
def ap8{c:Nd}(h:c.gp=aa):(Nd.mk 7 p [] [] [c]).ff=true:=by
 rw[Nd.u4];simp[Nd.nh,Nd.kind,Nd.ar,Nd.al,Nd.ae,sG,h]
def Wm(hk:k=8\/k=9)(h:∀x∈ks,x.ff=aa)(h0:0<ks.length):(Nd.mk k p [] [] ks).ff=true:=by
 rw[Nd.u4]
 rcases hk with rfl | rfl
 all_goals
  simp[Nd.nh,Nd.kind,Nd.ar,Nd.al,Nd.ae];exact⟨h0,h⟩
def yh(hg:t.Good)(hk:t.tok.kind=k)(di:k≠97):t.tok.ar=[UInt8.ofNat k.toNat]:=by
 rcases((AQ _).1 hg).1 with ⟨h,_⟩ | ⟨_,h⟩
 .omega
 .rw[h,hk]
def Pf(hg:t.Good):t.tok.ar.length<=16:=as7 ((AQ _).1 hg).1
def SW(w:aF):Nat:=w.ar.length+1
def SN(n:Nd):Nat:=n.wt+1
def Gi:Sound ag.word aF.ar (λw=>dO w.ar=aa) SW:=by
 intro r hg hb;obtain⟨t1,t2⟩:=s9 (show(r.take 97).2.aQ=ah from hb);have tJ:=(t1.mH hg).1;refine⟨[(r.take 97).1],t1,asZ t2,?_,?_⟩
 .rcases((AQ _).1 tJ).1 with ⟨_,h⟩ | ⟨h,_⟩
  .exact h
  .exact absurd t2 h
 .have:=Pf tJ
  rw[vt];simp only[SW,ag.word];omega
def Fz(hk:k=1\/k=2):Sound (ag.leaf k) Nd.dS (λn=>n.kind=k/\n.rM=aa) SN:=by
 intro r hg hb;obtain⟨seg,e1,e2,e3,e4⟩:=Gi r hg hb;refine⟨seg,e1,?_,⟨rfl,?_⟩,?_⟩
 .rw[e2];simp only[ag.leaf];rw[Nd.dS,aI hk]
 .simp only[ag.leaf,Nd.rM,Nd.ar,Nd.al,Nd.ae];rw[e3];rfl
 .simp only[SW] at e4;simp only[ag.leaf,SN,Nd.wt,eK,fq,eQ,uv];obtain⟨t1,t2⟩:=s9 (show(r.take 97).2.aQ=ah from hb);have hl:=Pf (t1.mH hg).1;have h0:26<=j4 seg:=by
   obtain⟨pre,post,q1,q2,q3⟩:=e1.ex
   rcases seg with _ | ⟨t,ts⟩
   .exfalso
    obtain⟨p,q,r1,r2,r3⟩:=t1.ex
    have:r.word.2.at_=(r.take 97).2.at_:=rfl
    simp only[bW,cZ,fx] at q3 r3;omega
   .simp only[j4,bE];omega
  have:r.word.1.ar.length<=16:=hl
  omega
theorem auV(l:List aF):(l.map SW).sum=eK l:=rfl
def Yx(l:List Nd):(l.map SN).sum=fq l:=by rw[Gl];rfl
def aqX{l:List aF}(h:∀w∈l,dO w.ar=aa):je l=true:=lO.2 h
variable{e:Bool}
def PB(hg:f_ r.l)(hb:(r.words e).2.aQ=ah):
 ∃t,mD r (r.words e).2 [t]/\t.Good/\mz (cu [t])=[123]++kg (r.words e).1.1++[125]/\je (r.words e).1.1=aa/\eK (r.words e).1.1+26<=j4 [t]:=by
 obtain⟨t,h1,h2,h3,h4,h5,_⟩:=Q2 (one:=ag.word) Gi (k:=123) (e:=e) hg hb;have tJ:=(h1.mH hg).1;refine⟨t,h1,tJ,?_,aqX h4,?_⟩
 .rw[Pb (by rw[h2];decide),h3,yh tJ h2 (by decide),h2];rfl
 .rw[auV] at h5;rw[vt];have e:eK (r.words e).1.1=eK (r.bracket (cV ag.word) 123 e).1.1:=rfl;omega
variable{Q:Nd->Prop}
def Iu{one:ag->Nd × ag}(hs:Sound one Nd.dS Q SN)(hk:k=40\/k=91)(hg:f_ r.l)(hb:(r.nodes one k e).2.aQ=ah):
 ∃t,mD r (r.nodes one k e).2 [t]/\t.Good/\mz (cu [t])=[UInt8.ofNat k.toNat]++cC (fg (r.nodes one k e).1.1)++[UInt8.ofNat (closing k).toNat]/\(∀x∈(r.nodes one k e).1.1,Q x)/\fq (r.nodes one k e).1.1+26<=j4 [t] /\
  (e=aq->0<(r.nodes one k e).1.1.length):=by
 obtain⟨t,h1,h2,h3,h4,h5,h6⟩:=Q2 hs (k:=k) (e:=e) hg hb;have tJ:=(h1.mH hg).1;refine⟨t,h1,tJ,?_,h4,?_,h6⟩
 .rw[Pb (by rw[h2];rcases hk with rfl | rfl<;>decide),h3,yh tJ h2 (by omega),h2,BU];rfl
 .rw[Yx] at h5;rw[vt];have e:fq (r.nodes one k e).1.1=fq (r.bracket (cV one) k e).1.1:=rfl;omega
def arG:Sound ag.sZ Nd.dS (λn=>n.pj=aa) SN:=by
 intro r hg hb;have cn : ((r.word.2.take 58).2.words aa).2.aQ=none:=hb;have l1:r.word.2.l=r.l:=r.gk 97;have l2:(r.word.2.take 58).2.l=r.l:=(ag.gk _ 58).trans l1;obtain⟨t,h1,h2,h3,h4,h5⟩:=PB (by rw[l2];exact hg) cn;obtain⟨c1,c2⟩:=s9 h1.b;obtain⟨seg,e1,e2,e3,e4⟩:=Gi r hg c1.b;have rC:=(c1.mH (by rw[l1];exact hg)).1;refine⟨seg++[(r.word.2.take 58).1]++[t],(e1.trans c1).trans h1,?_,?_,?_⟩
 .rw[BS (by rw[c2];decide) (by rw[c2];rfl),e2,h3,yh rC c2 (by decide)];simp only[ag.sZ];rw[Nd.dS];simp
 .simp only[ag.sZ,Nd.pj,Nd.kind,Nd.ar,Nd.al,Nd.ae];rw[e3,h4];rfl
 .simp only[ag.sZ,SN,Nd.wt,fq,yl,vt];simp only[SW] at e4;simp only[vt] at h5;omega
def RA:∀n,Sound (ag.constant n) Nd.dS (λm=>m.gp=aa) SN
 | 0 => λr hg hb => by
  obtain⟨seg,e1,e2,⟨e3,e5⟩,e4⟩:=Fz (.inr rfl) r hg hb;refine⟨seg,e1,e2,?_,e4⟩;exact Wn e3 e5
 | n + 1 => λr hg hb => by
  simp only[ag.constant] at hb ⊢;split
  .rename_i hs;rw[aI hs] at hb;obtain⟨t,h1,h2,h3,h4,h5⟩:=PB hg hb;refine⟨[t],h1,?_,?_,?_⟩
   .rw[h3,Nd.dS];simp
   .exact ap' h4
   .simp only[SN,Nd.wt,fq,cZ];omega
  .rename_i hs;rw[aw hs] at hb;split
   .rename_i hs;rw[aI hs] at hb;obtain⟨t,h1,h2,h3,h4,h5,h6⟩:=Iu (RA n) (.inl rfl) hg hb;refine⟨[t],h1,?_,?_,?_⟩
    .rw[h3,Nd.dS];simp only[show(closing 40).toNat=41 from rfl];rfl
    .exact aqa h4 (h6 rfl)
    .simp only[SN,Nd.wt,eK,eQ,uv,cZ];omega
   .rename_i hs;rw[aw hs] at hb;split
    .rename_i hs;rw[aI hs] at hb;obtain⟨t,h1,h2,h3,h4,h5,h6⟩:=Iu arG (.inr rfl) hg hb;refine⟨[t],h1,?_,?_,?_⟩
     .rw[h3,Nd.dS];simp only[show(closing 91).toNat=93 from rfl];rfl
     .exact ap9 h4
     .simp only[SN,Nd.wt,eK,eQ,uv,cZ];omega
    .rename_i hs;rw[aw hs] at hb;obtain⟨seg,e1,e2,⟨e3,e5⟩,e4⟩:=Fz (.inr rfl) r hg hb;refine⟨seg,e1,e2,?_,e4⟩;exact Wn e3 e5
def QR(n:Nat):Sound (ag.atom n) Nd.dS (λm=>m.sk=aa) SN:=by
 intro r hg hb;simp only[ag.atom] at hb ⊢;split
 .rename_i hs;rw[aI hs] at hb;have l1:(r.take 35).2.l=r.l:=r.gk 35;obtain⟨seg,e1,e2,e3,e4⟩:=RA n (r.take 35).2 (by rw[l1];exact hg) hb;obtain⟨c1,c2⟩:=s9 e1.b;have rC:=(c1.mH hg).1;refine⟨[(r.take 35).1]++seg,c1.trans e1,?_,?_,?_⟩
  .have:=BS (t:=(r.take 35).1) (by rw[c2];decide) (by rw[c2];rfl) [] seg
   rw[kN] at this;rw[this,yh rC c2 (by decide),e2,Nd.dS];simp[cu,mz,vv,fg,mI]
  .simp only[Nd.sk,ap8 e3,Nd.kind];rfl
  .simp only[SN,Nd.wt,eK,fq,eQ,uv,cZ,yl,vt] at e4 ⊢;omega
 .rename_i hs;rw[aw hs] at hb;obtain⟨seg,e1,e2,⟨e3,e5⟩,e4⟩:=Fz (.inl rfl) r hg hb;refine⟨seg,e1,e2,?_,e4⟩;simp only[Nd.sk,Ol e3 e5,e3];rfl
def QP{n:Nd}(h:n.sk=aa):n.ff=true:=by simp only[Nd.sk,b_] at h;exact h.2
def Nn:∀n,Sound (ag.label n) Nd.dS (λm=>m.ff=aa) SN
 | 0 => λr hg hb => by
  obtain⟨seg,e1,e2,⟨e3,e5⟩,e4⟩:=Fz (.inl rfl) r hg hb;refine⟨seg,e1,e2,?_,e4⟩;exact Ol e3 e5
 | n + 1 => λr hg hb => by
  simp only[ag.label] at hb ⊢;split
  .rename_i hs;rw[aI hs] at hb;have l1:(r.take 43).2.l=r.l:=r.gk 43;obtain⟨t,h1,h2,h3,h4,h5,h6⟩:=Iu (Nn n) (.inl rfl) (by rw[l1];exact hg) hb;obtain⟨c1,c2⟩:=s9 h1.b;have rC:=(c1.mH hg).1;refine⟨[(r.take 43).1]++[t],c1.trans h1,?_,?_,?_⟩
   .have:=BS (t:=(r.take 43).1) (by rw[c2];decide) (by rw[c2];rfl) [] [t]
    rw[kN] at this;rw[this,yh rC c2 (by decide),h3,Nd.dS];simp only[show(closing 40).toNat=41 from rfl];rfl
   .exact Wm (.inl rfl) h4 (h6 rfl)
   .simp only[SN,Nd.wt,eK,eQ,uv,cZ,yl,vt] at h5 ⊢;omega
  .rename_i hs;rw[aw hs] at hb;split
   .rename_i hs;rw[aI hs] at hb;have l1:(r.take 38).2.l=r.l:=r.gk 38;obtain⟨t,h1,h2,h3,h4,h5,h6⟩:=Iu (Nn n) (.inl rfl) (by rw[l1];exact hg) hb;obtain⟨c1,c2⟩:=s9 h1.b;have rC:=(c1.mH hg).1;refine⟨[(r.take 38).1]++[t],c1.trans h1,?_,?_,?_⟩
    .have:=BS (t:=(r.take 38).1) (by rw[c2];decide) (by rw[c2];rfl) [] [t]
     rw[kN] at this;rw[this,yh rC c2 (by decide),h3,Nd.dS];simp only[show(closing 40).toNat=41 from rfl];rfl
    .exact Wm (.inr rfl) h4 (h6 rfl)
    .simp only[SN,Nd.wt,eK,eQ,uv,cZ,yl,vt] at h5 ⊢;omega
   .rename_i hs;rw[aw hs] at hb;obtain⟨seg,e1,e2,e3,e4⟩:=QR (n+1) r hg hb;exact⟨seg,e1,e2,QP e3,e4⟩
def aem(n:Nat):Sound (ag.field n) Nd.dS (λm=>m.j8=aa) SN:=by
 intro r hg hb;have cn : ((r.word.2.take 61).2.atom n).2.aQ=none:=hb;have l1:r.word.2.l=r.l:=r.gk 97;have l2:(r.word.2.take 61).2.l=r.l:=(ag.gk _ 61).trans l1;obtain⟨sg,h1,h2,h3,h4⟩:=QR n (r.word.2.take 61).2 (by rw[l2];exact hg) cn;obtain⟨c1,c2⟩:=s9 h1.b;obtain⟨seg,e1,e2,e3,e4⟩:=Gi r hg c1.b;have rC:=(c1.mH (by rw[l1];exact hg)).1;refine⟨seg++[(r.word.2.take 61).1]++sg,(e1.trans c1).trans h1,?_,?_,?_⟩
 .rw[BS (by rw[c2];decide) (by rw[c2];rfl),e2,h2,yh rC c2 (by decide)];simp only[ag.field];rw[Nd.dS];simp[fg,mI]
 .simp only[ag.field,Nd.j8,Nd.kind,Nd.ar,Nd.al,Nd.ae,sG];rw[e3,h3];rfl
 .simp only[ag.field,SN,Nd.wt,fq,eK,eQ,uv,yl,vt] at h4 ⊢;simp only[SW] at e4;omega
def ap_{ws:List aF}(h1:ws.length<=1)(h2:je ws=aa)(h3:∀x∈ks,x.j8=aa):(Nd.mk 10 p [] ws ks).kH=true:=by
 unfold Nd.kH;simp[Nd.kind,Nd.ar,Nd.al,Nd.ae,h2];exact⟨aB (by omega),h3⟩
def Ug(t:aA):mD t.inner t.inner []:=⟨⟨[],t.ae,rfl,rfl,rfl⟩,rfl,rfl,rfl⟩
def Sg(hg:f_ t.ae){a:ag × List Nd}(ha:a=if t.inner.cD 124=aa then(t.inner,[]) else eZ (cV (ag.field n)) t.inner)(hb:a.1.aQ=ah):
 ∃seg,mD t.inner a.1 seg/\mz (cu seg)=cC (fg a.2)/\(∀x∈a.2,x.j8=aa)/\fq a.2<=j4 seg:=by
 split at ha
 .subst ha;exact⟨[],Ug t,rfl,by simp,by simp[fq]⟩
 .subst ha;obtain⟨seg,e1,e2⟩:=XE (aem n) (r:=t.inner) hg hb;refine⟨seg,e1,?_,e2.q,?_⟩
  .rw[e2.t,BU]
  .have:=e2.s;rwa [Yx] at this
def ara(hg:f_ t.ae)(hb:(ag.rowOf n t).1.1.aQ=ah):
 ∃seg,mD t.inner (ag.rowOf n t).1.1 seg/\mz (cu seg)=cC (fg (ag.rowOf n t).1.2)++(if 0<(ag.rowOf n t).2.length then [124]++kg (ag.rowOf n t).2 else []) /\
  (∀x∈(ag.rowOf n t).1.2,x.j8=aa)/\(ag.rowOf n t).2.length<=1/\je (ag.rowOf n t).2=aa/\fq (ag.rowOf n t).1.2+eK (ag.rowOf n t).2<=j4 seg:=by
 unfold ag.rowOf at hb ⊢;split
 .exact⟨[],Ug t,rfl,by simp,by simp,rfl,by simp[fq,eK]⟩
 rename_i bh;rw[aw bh] at hb;unfold ag.qi at hb ⊢;simp only at hb ⊢;generalize ha:(if t.inner.cD 124=aa then(t.inner,[]) else eZ (cV (ag.field n)) t.inner)=a at hb ⊢;split
 .rename_i hs;rw[aI hs] at hb;have hba:a.1.aQ=none:=by
   simp only[ag.cD,ag.ok,b_,Ed] at hs;exact hs.1
  obtain⟨seg,e1,e2,e3,e4⟩:=Sg hg ha.symm hba;have l1:a.1.l=t.inner.l:=e1.l;have l2:(a.1.take 124).2.l=t.inner.l:=(ag.gk _ 124).trans l1;obtain⟨sw,w1,w2,w3,w4⟩:=Gi (a.1.take 124).2 (by rw[l2];exact hg) hb;obtain⟨c1,c2⟩:=s9 w1.b;have rC:=(c1.mH (by rw[l1];exact hg)).1;refine⟨seg++[(a.1.take 124).1]++sw,(e1.trans c1).trans w1,?_,e3,by simp,?_,?_⟩
  .rw[BS (by rw[c2];decide) (by rw[c2];rfl),e2,yh rC c2 (by decide),w2];simp[kg,cC]
  .simp only[je,D7,P5,sa];exact w3
  .simp only[yl,vt,eK,dz,eQ,rh,uv];simp only[SW] at w4;omega
 .rename_i hs;rw[aw hs] at hb;obtain⟨seg,e1,e2,e3,e4⟩:=Sg hg ha.symm hb;exact⟨seg,e1,by simpa using e2,e3,by simp,rfl,by simpa [eK] using e4⟩
def arh(n:Nat):Sound (ag.row n) Nd.dS (λm=>m.kH=aa) SN:=by
 intro r hg hb;simp only[ag.row] at hb ⊢;split
 .rename_i hs;rw[aI hs] at hb;have eE:(r.take 91).2.aQ=none:=by
   rcases r.vu 91 with ⟨_,_,h,_⟩ | ⟨h,_⟩
   .exact h
   .rw[hs] at h;simp at h
  obtain⟨c1,c2⟩:=s9 eE;have rC:=(c1.mH hg).1;have zg:f_ (r.take 91).1.ae:=((AQ _).1 rC).2.2;have ep:(ag.rowOf n (r.take 91).1).1.1.close.aQ=none:=hb;obtain⟨seg,e1,e2,e3,e4,e5,e6⟩:=ara (n:=n) zg (Km ep).1;have Mp:=QD e1 ep;subst Mp;refine⟨[(r.take 91).1],⟨c1.ex,c1.l,c1.b,hb⟩,?_,ap_ e4 e5 e3,?_⟩
  .rw[Pb (by rw[c2];decide),yh rC c2 (by decide),c2,e2,Nd.dS];simp only[show(closing 91).toNat=93 from rfl];simp
  .simp only[SN,Nd.wt,vt,cZ];omega
 .rename_i hs;rw[aw hs] at hb;obtain⟨seg,e1,e2,⟨e3,e5⟩,e4⟩:=Fz (.inl rfl) r hg hb;refine⟨seg,e1,e2,?_,e4⟩
  have:=Ol e3 e5
  show(r.leaf 1).1.kH=aa;unfold Nd.kH;rw[e3,this];rfl
abbrev Sh:=Int × List UInt8
def Stop:List UInt8->Prop
 | []=>True
 | c::_=>iy c=aq
def W3{c:UInt8}{s:List UInt8}(h:iy c=aq):eH (c::s)=[]:=by simp[eH,h]
def aen{n:Nd}(h:n.j8=aa):n.kind=11/\dO n.ar=aa/\n.al=[]/\∃c,n.ae=[c]/\c.sk=true:=by
 simp only[Nd.j8,b_,eb] at h;refine⟨h.1.1.1.1,h.1.1.1.2,vG.1 (by omega),?_⟩
 match hq:n.ae,h.1.2 with
 | [c],_=>exact⟨c,rfl,by have:=h.2;rw[hq] at this;exact this⟩
 | [],e=>simp at e
 | _::_::_,e=>simp at e;omega
def WO{n:Nd}(h:n.kH=aa):(n.kind=10/\n.ar=[]/\(n.al=[]\/∃w,n.al=[w]/\dO w.ar=aa)/\∀x∈n.ae,x.j8=aa)\/(n.kind=1/\n.ff=aa):=by
 unfold Nd.kH at h;split at h
 .rename_i k;simp only[b_,eb] at h;refine .inl ⟨k,h.1.1.1,?_,lO.1 h.2⟩
  match hq:n.al,h.1.1.2 with
  | [],_=>exact .inl rfl
  | [w],_=>exact .inr ⟨w,rfl,by have:=h.1.2;rw[hq] at this;simpa [je] using this⟩
  | _::_::_,e=>simp at e;omega
 .simp only[b_,eb] at h;exact .inr h
mutual
def aA.WF:aA->Prop
 | .mk t ks e=>lv t.kind=aq/\(closing t.kind=0->ks=[]/\e=t.pos)/\mY ks
def mY:List aA->Prop
 | []=>True
 | t::ts=>t.WF/\mY ts
end
def J4:∀{a b:List aA},mY (a++b)↔mY a/\mY b
 | [],b=>by simp[mY]
 | t::ts,b=>by simp only[jN,mY,J4 (a:=ts),J8]
def Bp{a r:List Tok}{t:Tok}:ei (a++t::r) a.length=t.kind:=by simp[ei]
def X0{a r:List Tok}{t:Tok}:iI (a++t::r) a.length=t:=by simp[iI]
def V'{a r:List Tok}{t:Tok}:qb (a++t::r) a.length=t.pos:=by simp[qb]
def Rf{c:Int}(h:closing c≠0):lv (closing c)=aa/\closing (closing c)=0:=by
 have:c=40\/c=123\/c=91:=by
  unfold closing at h;split at h
  .rename_i k;exact .inl k
  .split at h
   .rename_i k;exact .inr k
   .exact absurd rfl h
 rcases this with rfl | rfl | rfl<;>decide
theorem Sn(t:aA)(ts:List aA):cu (t::ts)=t.flat++cu ts:=rfl
def GY{l:List Tok}{x:Nat}:∀(k:Nat) (us:List aA) (a b:List Tok) (n:Nat) (d:Int),bE us<=k->mY us->l=a++cu us++b->1<=d->ir l x (n+(cu us).length) a.length d=ir l x n (a++cu us).length d
 | _,[],a,b,n,d,_,_,_,_=>by simp[cu]
 | 0,t::ts,a,b,n,d,h,_,_,_=>by simp[bE] at h
 | k + 1, .mk t ks e :: ts, a, b, n, d, h, hw, hl, hd => by
  simp only[bE,aA.many] at h;obtain⟨⟨w1,w2,w3⟩,w4⟩:=hw;rw[Sn] at hl ⊢
  by_cases hc:closing t.kind=0
  .have ef:(aA.mk t ks e).flat=[t]:=by simp[aA.flat,hc]
   rw[ef] at hl ⊢;have hk:ei l a.length=t.kind:=by rw[hl];simp only[fP,jN];exact Bp
   have HG:delta l a.length=0:=by unfold delta;rw[hk,hc,w1];simp
   rw[show n+([t]++cu ts).length=(n+(cu ts).length)+1 by simp;omega,vj,HG,aw (by omega),Int.add_zero]
   have:=GY (l:=l) (x:=x) k ts (a++[t]) b n d (by omega) w4 (by rw[hl];simp) hd
   rw[show(a++[t]).length=a.length+1 by simp] at this;rw[this];simp
  .have ef:(aA.mk t ks e).flat=t::(cu ks++[⟨closing t.kind,[UInt8.ofNat (closing t.kind).toNat],e⟩]):=by simp[aA.flat,hc]
   generalize gN:(⟨closing t.kind,[UInt8.ofNat (closing t.kind).toNat],e⟩:Tok)=c at ef;have wh:c.kind=closing t.kind:=by rw[<-gN]
   obtain⟨c1,c2⟩:=Rf hc;rw[ef] at hl ⊢;have hk:ei l a.length=t.kind:=by rw[hl];simp only[fP,jN];exact Bp
   have EP:delta l a.length=1:=Et (by rw[hk];exact hc);have qF:ei l (a++[t]++cu ks).length=c.kind:=by
    rw[hl]
    have:a++(t::(cu ks++[c])++cu ts)++b=(a++[t]++cu ks)++c::(cu ts++b):=by simp
    rw[this];exact Bp
   have AW:delta l (a++[t]++cu ks).length = -1:=by unfold delta;rw[qF,wh,c2,c1];simp
   rw[show n+(t::(cu ks++[c])++cu ts).length=((n+(cu ts).length+1)+(cu ks).length)+1 by simp;omega,vj,EP,aw (by omega)];have h1:=GY (l:=l) (x:=x) k ks (a++[t]) ([c]++cu ts++b) (n+(cu ts).length+1) (d+1) (by omega) w3 (by rw[hl];simp) (by omega);rw[show(a++[t]).length=a.length+1 by simp] at h1;rw[h1,vj,AW,aw (by omega),show d+1 + -1=d by omega];have h2:=GY (l:=l) (x:=x) k ts (a++[t]++cu ks++[c]) b n d (by omega) w4 (by rw[hl];simp) hd;rw[show(a++[t]++cu ks++[c]).length=(a++[t]++cu ks).length+1 by simp;omega] at h2;rw[h2];simp
def apb{l:List Tok}{t c:Tok}{ks:List aA}{a b:List Tok}(hl:l=a++[t]++cu ks++c::b)(hw:mY ks)(hc:closing t.kind≠0)(wh:c.kind=closing t.kind):partner l a.length=(a++[t]++cu ks).length:=by
 obtain⟨c1,c2⟩:=Rf hc;have hk:ei l a.length=t.kind:=by rw[hl];simp only[fP,Qj];exact Bp
 have EP:delta l a.length=1:=Et (by rw[hk];exact hc);have qF:ei l (a++[t]++cu ks).length=c.kind:=by rw[hl];exact Bp
 have AW:delta l (a++[t]++cu ks).length = -1:=by unfold delta;rw[qF,wh,c2,c1];simp
 unfold partner;rw[show l.length - a.length=((b.length+1)+(cu ks).length)+1 by rw[hl];simp;omega,vj,EP,aw (by omega)];have h1:=GY (l:=l) (x:=a.length) _ ks (a++[t]) (c::b) (b.length+1) (0+1) (b7 _) hw hl (by omega);rw[show(a++[t]).length=a.length+1 by simp] at h1;rw[h1,vj,AW,aI (by omega)]
def Jg{l:List Tok}:∀(k:Nat) (us:List aA) (a b:List Tok) (n:Nat),bE us<=k->mY us->l=a++cu us++b->(cu us).length<=n->jJ l n a.length (a.length+(cu us).length)=us
 | _,[],a,b,n,_,_,_,_=>by cases n<;>simp[cu,jJ]
 | 0,t::ts,a,b,n,h,_,_,_=>by simp[bE] at h
 | k + 1, .mk t ks e :: ts, a, b, n, h, hw, hl, hn => by
  simp only[bE,aA.many] at h;obtain⟨⟨w1,w2,w3⟩,w4⟩:=hw;rw[Sn] at hl hn ⊢
  by_cases hc:closing t.kind=0
  .have ef:(aA.mk t ks e).flat=[t]:=by simp[aA.flat,hc]
   obtain⟨w5,w6⟩:=w2 hc;rw[ef] at hl hn ⊢;have im : l=a++t::(cu ts++b):=by rw[hl];simp
   have hk:ei l a.length=t.kind:=by rw[im];exact Bp
   have ht:iI l a.length=t:=by rw[im];exact X0
   have hp:qb l a.length=t.pos:=by rw[im];exact V'
   simp only[bW,fx] at hn ⊢;obtain⟨m,rfl⟩:∃m,n=m+1:=⟨n - 1,by omega⟩;rw[jJ,aI (by omega),aw (by rw[hk];simpa using hc),ht,hp]
   have:=Jg (l:=l) k ts (a++[t]) b m (by omega) w4 (by rw[hl];simp) (by omega)
   rw[show(a++[t]).length=a.length+1 by simp,show a.length+1+(cu ts).length=a.length+(1+(cu ts).length) by omega] at this;rw[this,w5,w6]
  .have ef:(aA.mk t ks e).flat=t::(cu ks++[⟨closing t.kind,[UInt8.ofNat (closing t.kind).toNat],e⟩]):=by simp[aA.flat,hc]
   generalize gN:(⟨closing t.kind,[UInt8.ofNat (closing t.kind).toNat],e⟩:Tok)=c at ef;have wh:c.kind=closing t.kind:=by rw[<-gN]
   have uS:c.pos=e:=by rw[<-gN]
   rw[ef] at hl hn ⊢;have xJ:l=a++t::(cu ks++[c]++cu ts++b):=by rw[hl];simp
   have gf:l=a++[t]++cu ks++c::(cu ts++b):=by rw[hl];simp
   have hk:ei l a.length=t.kind:=by rw[xJ];exact Bp
   have ht:iI l a.length=t:=by rw[xJ];exact X0
   have E7:=apb gf w3 hc wh;have hp:qb l (a++[t]++cu ks).length=e:=by rw[<-uS,gf];exact V'
   simp only[bW,da,cZ] at hn;obtain⟨m,rfl⟩:∃m,n=m+1:=⟨n - 1,by omega⟩;rw[jJ,aI (by simp),aI (by rw[hk];exact hc),ht,E7,hp];have h1:=Jg (l:=l) k ks (a++[t]) (c::(cu ts++b)) m (by omega) w3 gf (by omega);have h2:=Jg (l:=l) k ts (a++[t]++cu ks++[c]) b m (by omega) w4 (by rw[hl];simp) (by omega);have e1:(a++[t]++cu ks).length=(a++[t]).length+(cu ks).length:=bW;have e2:a.length+1=(a++[t]).length:=by simp
   have e3:(a++[t]).length+(cu ks).length+1=(a++[t]++cu ks++[c]).length:=by simp only[bW,fx]
   have e4:a.length+(t::(cu ks++[c])++cu ts).length=(a++[t]++cu ks++[c]).length+(cu ts).length:=by simp only[bW,da,cZ];omega
   rw[e1,e2,h1,e3,e4,h2]
def as_{us:List aA}(hw:mY us)(h:(jt (cu us)).2=ah):(jt (cu us)).1=us:=by
 unfold jt at h ⊢;split
 .rename_i h0;rw[aI h0] at h;simp at h
 .have:=Jg (l:=cu us) _ us [] [] (cu us).length (b7 _) hw (by simp) (b7 _)
  simpa using this
def gW:List Tok->List (Tok × List aA)->List aA->List aA × Option Int
 | [],op,row=>match op.getLast? with | some (t,_)=>([],U t.pos) | none=>(row,ah)
 | t :: ts, op, row =>
  if closing t.kind≠0 then(if 24<=op.length then([],U t.pos) else gW ts (op++[(t,row)]) [])
  else if lv t.kind=aa then
   match op.getLast? with
   | none=>([],U t.pos)
   | some (u,ahead)=>if closing u.kind=t.kind then gW ts op.dropLast (ahead++[.mk u row t.pos]) else([],U t.pos)
  else gW ts op (row++[.mk t [] t.pos])
def Tk.ok(dJ Z:ab)(n:Nat):Tk->Prop
 | .a9=>True
 | .tk D=>dJ.aY D=ah/\Z.aY D=U n
 | .no=>False
def Tk.name:Tk->Option Nat
 | .tk D=>U D
 | _=>ah
def jO(dJ Z:ab)(L:List (Tk × Nat)):Prop:=dJ.sub Z/\(∀p∈L,p.1.ok dJ Z p.2)/\(L.filterMap λp=>p.1.name).Nodup
variable{L:List (Tk × Nat)}{Z:ab}
def jO.init(h:∀p∈L,p.1 = .a9):jO Z Z L:=by
 refine⟨ab.bc Z,λp hp=>by rw[h p hp];trivial,?_⟩
 have:L.filterMap (λp=>p.1.name)=[]:=by
  rw[List.filterMap_eq_nil_iff];intro p hp;rw[h p hp];rfl
 rw[this];exact List.nodup_nil
variable{dJ:ab}
def jO.perm{L':List (Tk × Nat)}(h:jO dJ Z L)(hp:L.Perm L'):jO dJ Z L' :=
 ⟨h.1,λp hm=>h.2.1 p (hp.mem_iff.2 hm),(hp.filterMap _).nodup_iff.1 h.2.2⟩
def jO.tail{p:Tk × Nat}(h:jO dJ Z (p::L)):jO dJ Z L:=by
 refine⟨h.1,λq hq=>h.2.1 q (by simp[hq]),?_⟩
 have:=h.2.2
 simp only[JO] at this;split at this
 .exact this
 .exact(Qh.1 this).2
def jO.a9(h:jO dJ Z L):jO dJ Z ((.a9,n)::L) :=
 ⟨h.1,λq hq=>by rcases pz.1 hq with rfl | hq;exact trivial;exact h.2.1 q hq,by simpa [JO,Tk.name] using h.2.2⟩
variable{D:Nat}
def jO.put{tk:Tk}{m:Nat}(h:jO dJ Z ((tk,n)::L))(h0:dJ.aY D=ah)(ht:tk = .tk D\/Z.aY D=ah):jO dJ (Z.ba D m) ((.tk D,m)::L):=by
 have HS:D∉L.filterMap λp=>p.1.name:=λhm=>by
  obtain⟨⟨t,k⟩,hq,hn⟩:=Qg.1 hm;cases t with
  | no=>simp[Tk.name] at hn
  | a9=>simp[Tk.name] at hn
  | tk O =>
   simp only[Tk.name,bg] at hn;subst hn
   rcases ht with rfl | ht
   .have:=h.2.2
    simp only[JO,Tk.name] at this;exact(Qh.1 this).1 hm
   .have:=(h.2.1 (.tk O,k) (by simp[hq])).2
    rw[ht] at this;simp at this
 refine⟨⟨h.1.1,λt k hk=>?_,h.1.2.2⟩,λp hp=>?_,?_⟩
 .have bh:t≠D:=by rintro rfl;rw[h0] at hk;simp at hk
  simp only[ab.ba,aw bh];exact h.1.2.1 t k hk
 .rcases pz.1 hp with rfl | C7
  .exact⟨h0,by simp[ab.ba]⟩
  .have:=h.2.1 p (by simp[C7])
   obtain⟨t,k⟩:=p;cases t with
   | no=>exact this
   | a9=>trivial
   | tk O =>
    have bh:O≠D:=by rintro rfl;exact HS (Qg.2 ⟨(.tk O,k),C7,rfl⟩)
    exact⟨this.1,by simp only[ab.ba,aw bh];exact this.2⟩
 .simp only[JO,Tk.name];exact Qh.2 ⟨HS,h.tail.2.2⟩
def jO.fresh(h:jO dJ Z L)(ht:Z.aY D=ah):dJ.aY D=none:=by
 cases hq:dJ.aY D with
 | none=>rfl
 | some n=>rw[h.1.2.1 D n hq] at ht;simp at ht
variable{K:V->ab->Prop}{m:List (List V)}
def Kb{tk u:Tk}{k:Nat}{n:List (List V)}(h:jO dJ Z ((tk,m.length)::L))(hb:m.length+n.length<=aJ)
 (hk:∀D,jO dJ (Z.ba D (m.length+n.length)) ((.tk D,m.length+n.length)::L)->K (.sl (.tk D) k (m++n)) (Z.ba D (m.length+n.length))):re Z k (.sl tk k m) (.sl u k n) K:=by
 have hh:=h.2.1 (tk,m.length) (by simp);cases tk with
 | no=>exact hh.elim
 | a9=>exact Ch hb λD a_=>hk D (h.put (h.fresh a_) (.inr a_))
 | tk D=>exact fe hb hh.2 (hk D (h.put hh.1 (.inl rfl)))
def aoW{H:V->ab->Prop}{k:Nat}{cs:List V}:OQ.bq Z H (.mi k) [.agg cs]=(cs.length=k/\bS cs=aa/\c8 cs=aa/\H (.sl .a9 k [cs]) Z):=by
 simp only[OQ.bq,Nh,zy,V.wd,V.cells,bg]
 by_cases h:cs.length=k/\bS cs=aa/\c8 cs=aa
 .rw[aI h];simp[h]
 .rw[aw h];simp;intro h1 h2 h3;exact absurd ⟨h1,h2,h3⟩ h
variable{b:Nat}
def asu{k:Nat}{D:Tk}{j j' : IntKind}{H:V->Prop}(h2:b<=m.length)(h:H (.sl .a9 k (m.take b))):F6 k (.sl D k m) ah (U (.int j b)) (U (.int j' b)) H:=.inl ⟨D,m,0,b,rfl,ux _,h2,rfl,⟨j,rfl⟩,⟨j',rfl⟩,h⟩
structure aL where
 op:Int
 pos:Int
 name:aF
 al:List aF
 a8:List (aF × aF)
 rQ:Int
 left:Nd
 right:Nd
def aL.zero:aL:=⟨0,0,⟨[],0⟩,[],[],0,.zero,.zero⟩
def dR(p:aF × aF):List V:=[.aH p.1.ar,.int .i64 p.1.pos,.aH p.2.ar,.int .i64 p.2.pos]
def aL.cz(c:aL)(pc:V):List V:=[.int .i64 c.op,.int .i64 c.pos,.aH c.name.ar,.int .i64 c.name.pos,.sl .no 2 (c.al.map aF.enc),pc,.int .i64 c.rQ,
 .int .i64 c.left.kind,.int .i64 c.left.pos,.aH c.left.ar,.sl .no 2 (c.left.al.map aF.enc),.sl .no 5 (c.left.ae.map Nd.enc),.int .i64 c.right.kind,.int .i64 c.right.pos,.aH c.right.ar,.sl .no 2 (c.right.al.map aF.enc),.sl .no 5 (c.right.ae.map Nd.enc)]
def rR:List (aF × aF)->V
 | []=>.sl .a9 4 []
 | p::ps=>.sl .no 4 ((p::ps).map dR)
def aL.enc(c:aL):List V:=c.cz (.sl .no 4 (c.a8.map dR))
def iO:List (List UInt8 × List UInt8) :=
 [([],[]),([99,104,97,105,110],[110,119]),([112,111,119,101,114],[110,119]),([112,114,111,100,117,99,116],[110,119]),([103,114,105,100],[110,119,112]),([116,97,98,108,101],[110,119,112]),([108,97,98,101,108],[110,119]),([114,111,119],[110,119]),([108,101,113],[110,116,116]),([114,111,119,101,113],[110,114,114]),([108,97,99,107,115],[110,102]),([112,117,115,104],[]),([112,111,112],[]),([99,104,101,99,107],[]),([99,111,114,101],[]),([119,104,121],[110])]
def il:List V:=(iO.map λp=>[V.aH p.1,V.aH p.2]).flatten
def dc(op:Int):List UInt8 × List UInt8:=if 0<=op/\op<16 then iO.getD op.toNat ([],[]) else([],[])
def vd(w:List UInt8):Nat->Nat->Int
 | 0,_=>0
 | n+1,op=>if 0<op/\(dc op).1=w then op else vd w n (op+1)
def rO(w:List UInt8):Int:=vd w 16 0
def ag.kA:Nat->ag->List (aF × aF)->ag × List (aF × aF)
 | 0,i,acc=>(i,acc)
 | n + 1, i, acc =>
  if i.aQ≠ah then(i,acc)
  else
   if ((i.word.2.take 60).2.word).2.at_=i.l.length then(((i.word.2.take 60).2.word).2,acc++[(i.word.1,((i.word.2.take 60).2.word).1)])
   else kA n (((i.word.2.take 60).2.word).2.take 44).2 (acc++[(i.word.1,((i.word.2.take 60).2.word).1)])
def ag.yO(r:ag)(b:Option Int):ag:=match b with | some a=>{r with aQ:=U a} | none=>r
def ug(r:ag)(c:aL):ag × aL :=
 let t:=(r.take 123).1
 let r1:=(r.take 123).2
 if r1.aQ≠ah\/t.ae.length=0 then(r1,{c with rQ:=t.tok.pos})
 else(r1.yO (t.inner.kA (t.ae.length+1) []).1.aQ,{c with rQ:=t.tok.pos,a8:=(t.inner.kA (t.ae.length+1) []).2})
def o9(r:ag)(c:aL)(g:Nd × Int × Option Int):ag × aL :=
 match g.2.2 with
 | some a=>({r with aQ:=U a},c)
 | none=>({r with at_:=g.2.1},if c.left.kind=0 then {c with left:=g.1} else {c with right:=g.1})
def iC(letter:UInt8)(x:ag × aL):ag × aL :=
 if x.1.aQ≠ah then x
 else if letter=110 then(x.1.word.2,{x.2 with name:=x.1.word.1})
 else if letter=102 then(x.1.word.2,{x.2 with al:=[x.1.word.1]})
 else if letter=119 then({x.1 with aQ:=(pw x.1.l x.1.at_ x.1.fin).2,at_:=x.1.at_+1},{x.2 with al:=(pw x.1.l x.1.at_ x.1.fin).1})
 else if letter=112 then ug x.1 x.2
 else if letter=116 then o9 x.1 x.2 (iR (ag.label (bE x.1.l)) x.1.l x.1.at_ x.1.fin)
 else if letter=114 then o9 x.1 x.2 (iR (ag.row (bE x.1.l)) x.1.l x.1.at_ x.1.fin)
 else x
def lJ:List UInt8->ag × aL->ag × aL
 | [],x=>x
 | k::ks,x=>lJ ks (iC k x)
def AF(x:ag × aL):aL × Int × Int :=
 match (if x.1.aQ=ah/\x.1.at_<x.1.l.length then x.1.fail else x.1).aQ with
 | some a=>(.zero,2,a)
 | none=>(x.2,0,0)
def Ct(l:List aA)(fin:Int):aL × Int × Int :=
 match l with
 | []=>(.zero,0,0)
 | t :: _ =>
  let w:=(⟨l,0,fin,ah⟩:ag).word
  if rO w.1.ar=0 then(.zero,2,t.tok.pos)
  else AF (lJ (dc (rO w.1.ar)).2 (w.2,{aL.zero with op:=rO w.1.ar,pos:=w.1.pos}))
def ij(s:List UInt8):aL × Int × Int :=
 match (fI s).2 with
 | some a=>(.zero,1,a)
 | none => match (gW (fI s).1 [] []).2 with
  | some a=>(.zero,2,a)
  | none=>Ct (gW (fI s).1 [] []).1 s.length
structure kj(l:List aA)(fin:Int)(x:ag × aL):Prop where
 hl:x.1.l=l
 hf:x.1.fin=fin
 ge:0<=x.1.at_
 le:x.1.at_<=(l.length:Int)+1
 ok:x.1.aQ=ah->x.1.at_<=(l.length:Int)
def ad6(r:ag):r.fail.fin=r.fin:=by unfold ag.fail;split<;>rfl
def Ga(r:ag)(k:Int):(r.take k).2.fin=r.fin:=by
 unfold ag.take;split
 .rfl
 .exact ad6 r
def ajr(n:Nat)(r:ag):lN r (r.row n).2:=by
 unfold ag.row;split
 .rename_i hs;have h:=uM r 91;have hb:(r.take 91).2.aQ=none:=by
   rcases r.vu 91 with ⟨_,_,hb,_,_⟩ | ⟨h',_⟩
   .exact hb
   .rw[hs] at h';simp at h'
  exact⟨h.1,λh1 h2=>by
   obtain⟨p1,p2,p3⟩:=h.2 h1 h2;exact⟨p1,p2,λ_=>p3 hb⟩⟩
 .exact EH r 1
variable{c:aL}{l:List aA}{x:ag × aL}
def kj.goes{fin:Int}(h:kj l fin x)(hb:x.1.aQ=ah)(g:lN x.1 r)(hf:r.fin=x.1.fin):kj l fin (r,c):=by
 obtain⟨h1,h2,h3,h4,h5⟩:=h;have h5:=h5 hb;obtain⟨g1,g2⟩:=g;rw[h1] at g2;have g2:=g2 h3 (by omega);exact⟨g1.trans h1,hf.trans h2,by simp only;omega,by simp only;omega,λ_=>by simp only;omega⟩
def kj.aQ{l:List aA}{fin:Int}{r:ag}{c c' : aL}{a:Int}(h:kj l fin (r,c)):kj l fin ({r with aQ:=U a},c'):=⟨h.hl,h.hf,h.ge,h.le,λh=>by simp at h⟩
def Vr{fin:Int}{one:ag->Nd × ag}(h:kj l fin (r,c))(hb:r.aQ=ah)(ho:∀r,lN r (one r).2):kj l fin (o9 r c (iR one r.l r.at_ r.fin)):=by
 unfold o9 iR;have he:(⟨r.l,r.at_,r.fin,ah⟩:ag)=r:=by cases r;simp only at hb;subst hb;rfl
 rw[he];cases hq:(one r).2.aQ with
 | some a=>exact h.aQ
 | none =>
  obtain⟨g1,g2⟩:=ho r;have h5:=h.ok hb;have h3:=h.ge;have h1:=h.hl;simp only at h5 h3 h1;rw[h1] at g2;have g2:=g2 h3 h5;exact⟨h.hl,h.hf,by simp only;omega,by simp only;omega,λ_=>by simp only;omega⟩
def ao3{fin:Int}(h:kj l fin (r,c))(hb:r.aQ=ah):kj l fin (ug r c):=by
 have h1:∀c',kj l fin ((r.take 123).2,c'):=λc' => kj.goes (x:=(r,c)) h hb (uM r 123) (Ga r 123)
 unfold ug;simp only;split
 .exact h1 _
 .unfold ag.yO;split
  .exact(h1 c).aQ
  .exact h1 _
def VT{fin:Int}(h:kj l fin x)(k:UInt8):kj l fin (iC k x):=by
 obtain⟨r,c⟩:=x;unfold iC;simp only;split
 .exact h
 rename_i hb;have hb:r.aQ=none:=by simpa using hb
 split
 .exact kj.goes (x:=(r,c)) h hb (y6 r) (Ga r 97)
 split
 .exact kj.goes (x:=(r,c)) h hb (y6 r) (Ga r 97)
 split
 .have h5:=h.ok hb;have h3:=h.ge;simp only at h5 h3;refine⟨h.hl,h.hf,by simp only;omega,by simp only;omega,λhn=>?_⟩;have he:(⟨r.l,r.at_,r.fin,ah⟩:ag)=r:=by cases r;simp only at hb;subst hb;rfl
  simp only[pw,he] at hn;cases hq:(r.words aq).2.aQ with
  | some a=>rw[hq] at hn;simp at hn
  | none =>
   obtain⟨g1,g2⟩:=K9 r aq;have h1:=h.hl;simp only at h1;rw[h1] at g2
   have:=(g2 h3 h5)
   have:=this.2.2 hq
   simp only;omega
 split
 .exact ao3 h hb
 split
 .exact Vr h hb (K8 _)
 split
 .exact Vr h hb (ajr _)
 .exact h
def VZ:∀(ks:List UInt8) (k:UInt8) (x:ag × aL),lJ (ks++[k]) x=iC k (lJ ks x)
 | [],_,_=>rfl
 | _::ks,k,x=>VZ ks k _
def Ob{l:List aA}{fin:Int}:∀(ks:List UInt8) {x:ag × aL},kj l fin x->kj l fin (lJ ks x)
 | [],_,h=>h
 | k::ks,_,h=>Ob ks (VT h k)
def VU{k:UInt8}(h:k≠112\/x.1.aQ≠ah):(iC k x).2.a8=x.2.a8:=by
 unfold iC;split
 .rfl
 rename_i hb;have hb:x.1.aQ=none:=by simpa using hb
 have hk:k≠112:=by rcases h with h | h;exact h;exact absurd hb h
 split
 .rfl
 split
 .rfl
 split
 .rfl
 have hn:∀g,(o9 x.1 x.2 g).2.a8=x.2.a8:=λg=>by
  unfold o9;split
  .rfl
  .simp only;split<;>rfl
 split
 .exact hn _
 split
 .exact hn _
 .rfl
def VY:∀(ks:List UInt8) {x:ag × aL},(∀k∈ks,k≠112)->(lJ ks x).2.a8=x.2.a8
 | [],_,_=>rfl
 | k::ks,x,h=>(VY ks λj hj=>h j (by simp[hj])).trans (VU (.inl (h k (by simp))))
def aiL(op:Int)(i:Nat)(h:(dc op).2[i]?=U 112):∀k∈(dc op).2.take i,k≠112:=by
 unfold dc at h ⊢;split at h
 .rename_i h1;rw[aI h1];have an:op.toNat<16:=by omega
  generalize op.toNat=n at h an ⊢;have key:∀n<16,∀i<3,(iO.getD n ([],[])).2[i]?=U 112->∀k∈(iO.getD n ([],[])).2.take i,k≠112:=by decide
  have hl:∀n<16,(iO.getD n ([],[])).2.length<=3:=by decide
  have:=(fw.1 h).1
  exact key n an i (by have:=hl n an;omega) h
 .simp at h
def K0(op:Int):∀c∈(dc op).2,c.toNat<128:=by
 unfold dc;split
 .rename_i h1;have an:op.toNat<16:=by omega
  generalize op.toNat=n at an ⊢;have key:∀n<16,∀c∈(iO.getD n ([],[])).2,c.toNat<128:=by decide
  exact key n an
 .simp
def fE(s:aG)(lat:Int)(t:List UInt8)(p kind:Int):List aM :=
 match iw s.vars t with
 | none=>if (fu s.bt t).isNone then [⟨3,p⟩] else [⟨4,p⟩]
 | some v => match s.vars[v]? with
  | some x=>if x.kind≠kind\/(0<=lat/\x.lat≠lat) then [⟨4,p⟩] else []
  | none=>[]
def fc(s:aG)(w:aF):List aM:=if (fu s.bt w.ar).isNone then(if (iw s.vars w.ar).isNone then [⟨3,w.pos⟩] else [⟨4,w.pos⟩]) else []
def CJ(o:Option Int):aM:=match o with | some p=>⟨4,p⟩ | none=>.zero
def uK(s:aG)(lat:Int)(n:Nd):Option Int:=(gz (wS s lat.toNat) (n.ae.getD 0 gS)).2
def yV(s:aG)(lat:Int)(n:Nd):List aM:=if 0<n.ae.length/\0<=lat then(match uK s lat n with | some p=>[⟨4,p⟩] | none=>[]) else []
def kP(s:aG)(lat:Int)(n:Nd):List aM:=if n.kind=1 then fE s lat n.ar n.pos 1 else if n.kind=7 then yV s lat n else []
mutual
def fX(s:aG)(lat:Int):Nd->List aM
 | .mk k p t ws ks=>kP s lat (.mk k p t ws ks)++if k=1\/k=7 then [] else u5 s lat ks
def u5(s:aG)(lat:Int):List Nd->List aM
 | []=>[]
 | n::ns=>fX s lat n++u5 s lat ns
end
def Np{s:aG}{lat:Int}:∀{l:List Nd},u5 s lat l=l.flatMap (fX s lat)
 | []=>by simp[u5]
 | n::ns=>by simp[u5,Np]
variable{lat:Int}{s:aG}
def Uu(n:Nd):fX s lat n=kP s lat n++if n.kind=1\/n.kind=7 then [] else n.ae.flatMap (fX s lat):=by
 cases n;rw[fX,Np];rfl
def vZ(ks:List Nd)(i:Nat):List aM:=if (dt ((ks.take i).map Nd.ar) (ks.getD i gS).ar).isSome then [⟨4,(ks.getD i gS).pos⟩] else []
def EA(s:aG)(lat:Int)(ks:List Nd)(i:Nat):List aM:=vZ ks i++(ks.getD i gS).ae.flatMap (kP s lat)
def pK(s:aG)(lat:Int)(ks:List Nd)(m:Nat):List aM:=(bG m).flatMap (EA s lat ks)
def mw(s:aG)(lat:Int)(ws:List aF):List aM:=ws.flatMap λw=>fE s lat w.ar w.pos 2
def qh(s:aG)(lat p:Int)(n:Nd):List aM :=
 if n.kind=1 then fE s lat n.ar n.pos 2 else if n.kind=10 then pK s lat n.ae n.ae.length++mw s lat n.al++(if 16<n.ae.length then [⟨7,p⟩] else []) else []
def cN(s:aG)(c:aL):Int:=bY (fu s.bt c.name.ar)
def tz(n:Nd):List aM:=if n.kind=8\/n.kind=9 then [⟨6,n.pos⟩] else []
def tx(s:aG)(c:aL):List aM :=
 if c.op=10 then fE s (-1) c.name.ar c.name.pos 2
 else if c.op=15 then fE s (-1) c.name.ar c.name.pos 1
 else if c.op=8 then fc s c.name++fX s (cN s c) c.left++fX s (cN s c) c.right++tz c.right
 else if c.op=9 then fc s c.name++qh s (cN s c) c.pos c.left++qh s (cN s c) c.pos c.right
 else []
def iN(s:aG)(c:aL):aM:=fS (tx s c)
mutual
def ja(s:aG)(lat:Int):Nd->List aM
 | .mk k p t ws ks=>if k=1 then fE s lat t p 1 else if k=7 then(if 0<ks.length/\0<=lat then [CJ (uK s lat (.mk k p t ws ks))] else []) else u6 s lat ks
def u6(s:aG)(lat:Int):List Nd->List aM
 | []=>[]
 | n::ns=>ja s lat n++u6 s lat ns
end
def Uz{s:aG}{lat:Int}:∀{l:List Nd},u6 s lat l=l.flatMap (ja s lat)
 | []=>by simp[u6]
 | n::ns=>by simp[u6,Uz]
def Fv(n:Nd):ja s lat n=if n.kind=1 then fE s lat n.ar n.pos 1 else if n.kind=7 then(if 0<n.ae.length/\0<=lat then [CJ (uK s lat n)] else []) else n.ae.flatMap (ja s lat):=by
 cases n;rw[ja,Uz];rfl
def m_(s:aG)(lat:Int)(n:Nd):List aM:=if n.kind=1\/n.kind=7 then ja s lat n else []
def qA(ks:List Nd)(i k:Nat):List aM:=(bG k).flatMap λj=>if (ks.getD j gS).ar=(ks.getD i gS).ar then [⟨4,(ks.getD i gS).pos⟩] else []
def Hg(s:aG)(lat:Int)(ks:List Nd)(i:Nat):List aM:=qA ks i i++(ks.getD i gS).ae.flatMap (m_ s lat)
def mF(s:aG)(lat:Int)(ks:List Nd)(m:Nat):List aM:=(bG m).flatMap (Hg s lat ks)
def sY(s:aG)(lat p:Int)(n:Nd):List aM :=
 if n.kind=1 then fE s lat n.ar n.pos 2 else if n.kind=10 then mF s lat n.ae n.ae.length++mw s lat n.al++(if 16<n.ae.length then [⟨7,p⟩] else []) else []
def xq(s:aG)(c:aL):List aM :=
 if c.op=10 then fE s (-1) c.name.ar c.name.pos 2
 else if c.op=15 then fE s (-1) c.name.ar c.name.pos 1
 else if c.op=8 then fc s c.name++ja s (cN s c) c.left++ja s (cN s c) c.right++tz c.right
 else if c.op=9 then fc s c.name++sY s (cN s c) c.pos c.left++sY s (cN s c) c.pos c.right
 else []
def gl(a b:List aM):Prop:=∀f:aM,f.cls≠0->(f∈a↔f∈b)
def gl.refl(a:List aM):gl a a:=λ_ _=>Iff.rfl
def gl.app{a b c d:List aM}(h:gl a b)(k:gl c d):gl (a++c) (b++d):=λf hf=>by rw[jv,jv,h f hf,k f hf]
variable{Y:Type}
def gl.flat{f g:Y->List aM}:∀{l:List Y},(∀x∈l,gl (f x) (g x))->gl (l.flatMap f) (l.flatMap g)
 | [],_=>gl.refl _
 | x::l,h=>by rw[xa,xa];exact(h x (by simp)).app (gl.flat λy hy=>h y (by simp[hy]))
section
variable {s:aG} {lat:Int}
def R7{n:Nd}:gl (yV s lat n) (if 0<n.ae.length/\0<=lat then [CJ (uK s lat n)] else []):=by
 unfold yV;split
 .intro f hf;cases uK s lat n with
  | none =>
   simp only[List.not_mem_nil,CJ,nU,false_iff];rintro rfl;exact hf rfl
  | some p=>rfl
 .exact gl.refl _
mutual
def KK:∀n:Nd,gl (fX s lat n) (ja s lat n)
 | .mk k p t ws ks => by
  rw[fX,ja,kP]
  by_cases h1:k=1
  .rw[aI (show(Nd.mk k p t ws ks).kind=1 from h1),aI h1,aI (.inl h1),eM];exact gl.refl _
  .rw[aw (show ¬(Nd.mk k p t ws ks).kind=1 from h1),aw h1]
   by_cases h7:k=7
   .rw[aI (show(Nd.mk k p t ws ks).kind=7 from h7),aI h7,aI (.inr h7),eM];exact R7
   .rw[aw (show ¬(Nd.mk k p t ws ks).kind=7 from h7),aw h7,aw (by omega),kN];exact R8 ks
def R8:∀l:List Nd,gl (u5 s lat l) (u6 s lat l)
 | []=>by rw[u5,u6];exact gl.refl _
 | n::ns=>by rw[u5,u6];exact(KK n).app (R8 ns)
end
def adC(n:Nd):gl (kP s lat n) (m_ s lat n):=by
 rw[kP,m_,Fv]
 by_cases h1:n.kind=1
 .rw[aI h1,aI (.inl h1),aI h1];exact gl.refl _
 .by_cases h7:n.kind=7
  .rw[aw h1,aI h7,aI (.inr h7),aw h1,aI h7];exact R7
  .rw[aw h1,aw h7,aw (by omega)];exact gl.refl _
def adD(hi:i<=ks.length):gl (vZ ks i) (qA ks i i):=λf _=>by
 simp only[vZ,qA,GA,lP];have hl:((ks.take i).map Nd.ar).length=i:=by simp;omega
 have hg:∀k,k<i->((ks.take i).map Nd.ar).getD k []=(ks.getD k gS).ar:=λk hk=>by
  have:k<ks.length:=by omega
  simp[gy,hk,this]
 have key:(dt ((ks.take i).map Nd.ar) (ks.getD i gS).ar).isSome=aa↔∃k,k<i/\(ks.getD k gS).ar=(ks.getD i gS).ar:=by
  rw[dt,KS,hl];constructor
  .rintro⟨k,hk,h⟩;exact⟨k,hk,by rw[<-hg k hk];simpa using h⟩
  .rintro⟨k,hk,h⟩;exact⟨k,hk,by rw[hg k hk];simpa using h⟩
 constructor
 .intro h;split at h
  .rename_i hs;obtain⟨k,hk,e⟩:=key.1 hs;exact⟨k,hk,by rw[aI e];exact h⟩
  .simp at h
 .rintro⟨k,hk,h⟩;split at h
  .rename_i e;rw[aI (key.2 ⟨k,hk,e⟩)];exact h
  .simp at h
def R9(n:Nd):gl (qh s lat p n) (sY s lat p n):=by
 rw[qh,sY]
 by_cases h1:n.kind=1
 .rw[aI h1,aI h1];exact gl.refl _
 .rw[aw h1,aw h1]
  by_cases ec:n.kind=10
  .rw[aI ec,aI ec];refine((gl.flat λi hi=>?_).app (gl.refl _)).app (gl.refl _);have hi:=lP.1 hi;exact(adD (by omega)).app (gl.flat λm _=>adC m)
  .rw[aw ec,aw ec];exact gl.refl _
def Ev(s:aG)(c:aL):fS (xq s c)=iN s c:=by
 refine(UQ (a:=tx s c) (b:=xq s c) ?_).symm;show gl _ _;unfold tx xq;split
 .exact gl.refl _
 .split
  .exact gl.refl _
  .split
   .exact(((gl.refl _).app (KK _)).app (KK _)).app (gl.refl _)
   .split
    .exact((gl.refl _).app (R9 _)).app (R9 _)
    .exact gl.refl _
end
def pq(D:Nat)(l:List aM)(s:aG)(lat p:Int):List V:=[.sl (.tk D) 2 (l.map aM.enc),.sl .no 3 (s.bt.map fy.enc),.sl .no 3 (s.vars.map eX.enc),.int .i64 lat,.int .i64 p]
def dk(Z:ab)(b D:Nat)(l:List aM)(s:aG)(lat p:Int):ab:=(Z.set b (pq D l s lat p)).ba D l.length
section
variable {Z:ab} {b b' D n:Nat} {l:List aM} {s:aG} {lat Nr p x y:Int} {c:List V}
def Ju:(dk Z b D l s lat p).box b=U (pq D l s lat p):=by simp[dk,ab.set,ab.ba]
def BX(h:b' ≠ b):(dk Z b D l s lat p).box b' = Z.box b' := by simp[dk,ab.set,ab.ba,h]
def PE:(dk Z b D l s lat p).aY D=U l.length:=by simp[dk,ab.set,ab.ba]
def Yt(h:b' ≠ b):(dk Z b D l s lat p).set b' c=dk (Z.set b' c) b D l s lat p:=by
 simp only[dk,ab.set,ab.ba,ab.mk.injEq,gM];funext z
 by_cases h1:z=b'
 .subst h1;simp[h]
 .simp[h1]
def auQ:(dk Z b D l s lat p).set b [.sl (.tk D) 2 (l.map aM.enc),.sl .no 3 (s.bt.map fy.enc),.sl .no 3 (s.vars.map eX.enc),.int .i64 x,.int .i64 p]=dk Z b D l s x p:=by
 simp only[dk,pq,ab.set,ab.ba,ab.mk.injEq,gM];funext z
 by_cases h1:z=b<;>simp[h1]
def auP:((dk Z b D l s lat p).ba D (l.length+1)).set b [.sl (.tk D) 2 (l.map aM.enc++[[.int .i64 x,.int .i64 y]]),.sl .no 3 (s.bt.map fy.enc),.sl .no 3 (s.vars.map eX.enc),.int .i64 lat,.int .i64 p]=dk Z b D (l++[⟨x,y⟩]) s lat p:=by
 simp only[dk,pq,ab.set,ab.ba,ab.mk.injEq,jf,dz,eQ,aM.enc,bW,fx,gM];constructor
 .funext z
  by_cases h1:z=b<;>simp[h1]
 .funext z
  by_cases h1:z=D<;>simp[h1]
def auR(h:Z.box b=ah)(ht:Z.aY D=ah):Z.sub (dk Z b D l s lat p):=by
 refine⟨λx cs hx=>?_,λt m hm=>?_,λ_ _ h=>h⟩
 .have:x≠b:=by rintro rfl;rw[h] at hx;simp at hx
  rw[BX this];exact hx
 .have:t≠D:=by rintro rfl;rw[ht] at hm;simp at hm
  simp[dk,ab.set,ab.ba,this];exact hm
def Ys(h:b' ≠ b)(hn:Z.box b' = ah):(dk Z b D l s lat p).sub (dk (Z.set b' c) b D l s lat p):=by
 refine⟨λx cs hx=>?_,λt m hm=>?_,λ_ _ h=>h⟩
 .by_cases h1:x=b
  .subst h1;rw[Ju] at hx ⊢;exact hx
  .rw[BX h1] at hx ⊢
   have:x≠b' := by rintro rfl;rw[hn] at hx;simp at hx
   simp only[ab.set,this,ch];exact hx
 .simpa [dk,ab.set,ab.ba] using hm
theorem w_f:bX aq 1 (pq D l s lat p)=U (.sl (.tk D) 2 (l.map aM.enc)):=rfl
theorem w_s:takeN 2 ((pq D l s lat p).drop 1)=U s.enc:=rfl
theorem w_l:bX aq 1 ((pq D l s lat p).drop 1)=U (.sl .no 3 (s.bt.map fy.enc)):=rfl
theorem w_v:bX aq 1 ((pq D l s lat p).drop 2)=U (.sl .no 3 (s.vars.map eX.enc)):=rfl
theorem w_t:bX aq 1 ((pq D l s lat p).drop 3)=U (.int .i64 lat):=rfl
theorem w_p:bX aq 1 ((pq D l s lat p).drop 4)=U (.int .i64 p):=rfl
theorem w_h:cB 1 (pq D l s lat p)=true:=rfl
theorem atP:cB 1 ((pq D l s lat p).drop 3)=true:=rfl
theorem w_o{v:V}:over (pq D l s lat p) [v]=[v,.sl .no 3 (s.bt.map fy.enc),.sl .no 3 (s.vars.map eX.enc),.int .i64 lat,.int .i64 p]:=rfl
theorem atU{v:V}:setAt (pq D l s lat p) 3 [v]=[.sl (.tk D) 2 (l.map aM.enc),.sl .no 3 (s.bt.map fy.enc),.sl .no 3 (s.vars.map eX.enc),v,.int .i64 p]:=rfl
variable{w:aF}
theorem td:bX aq 1 w.enc=U (.aH w.ar):=rfl
theorem r6:bX aq 1 (w.enc.drop 1)=U (.int .i64 w.pos):=rfl
theorem w_b{u v x y:V}:over [u,v,x,y] s.enc=[.sl .no 3 (s.bt.map fy.enc),.sl .no 3 (s.vars.map eX.enc),x,y]:=rfl
def j6:=af @w_b <| af @td <| af @r6 <| af @Ju <| af @PE <| af @w_f <| af @w_s <| af @w_l <| af @w_v <| af @w_t <| af @w_p <| af @w_h <| af @atP <| af @w_o @atU
end
def Yu{O:Nat}{l:List aM}(h:O≠D):(dk Z b D l s lat p).ba O n=dk (Z.ba O n) b D l s lat p:=by
 simp only[dk,ab.set,ab.ba,ab.mk.injEq,mA,gM];funext z
 by_cases h1:z=O
 .subst h1;simp[h]
 .simp[h1]
def Yr{σ':ab}{l:List aM}(h:Z.sub σ'):(dk Z b D l s lat p).sub (dk σ' b D l s lat p):=by
 refine⟨λx cs hx=>?_,λt m hm=>?_,h.2.2⟩
 .by_cases h1:x=b
  .subst h1;rw[Ju] at hx ⊢;exact hx
  .rw[BX h1] at hx ⊢;exact h.1 x cs hx
 .simp only[dk,ab.set,ab.ba] at hm ⊢;split
  .rename_i e;rw[aI e] at hm;exact hm
  .rename_i e;rw[aw e] at hm;exact h.2.1 t m hm
structure Ah(Z σ' : ab)(D:Nat)(tk:Tk)(n:Nat):Prop where
 box:σ'.box=Z.box
 sub:Z.sub σ'
 tk:tk = .a9\/∃O,tk = .tk O/\O≠D/\σ'.aY O=U n/\Z.aY O=ah
def Ah.nil:Ah Z Z D .a9 0:=⟨rfl,ab.bc Z,.inl rfl⟩
def Ah.app{σ':ab}{k:Nat}{tk u:Tk}{l:List aM}{e:List (List V)}(h:Ah Z σ' D tk m.length)(hb:m.length+e.length<=aJ)
 (hk:∀fK Ad,Ah Z Ad D fK (m++e).length->K (.sl fK k (m++e)) (dk Ad b D l s lat p)):re (dk σ' b D l s lat p) k (.sl tk k m) (.sl u k e) K:=by
 have hl:(m++e).length=m.length+e.length:=bW;have up:∀O n,σ'.aY O=ah\/Z.aY O=ah->Z.sub (σ'.ba O n):=λO n hn=>⟨λx cs hx=>h.sub.1 x cs hx,λt q hq=>by
  have bh:t≠O:=by
   rintro rfl
   rcases hn with hn | hn
   .rw[h.sub.2.1 _ _ hq] at hn;simp at hn
   .rw[hq] at hn;simp at hn
  simp only[ab.ba,aw bh];exact h.sub.2.1 t q hq,h.sub.2.2⟩
 rcases h.tk with rfl | ⟨O,rfl,bh,ht,h0⟩
 .refine Ch hb λO tV=>?_
  have bh:O≠D:=by rintro rfl;rw[PE] at tV;simp at tV
  have MD : σ'.aY O=none:=by simpa [dk,ab.set,ab.ba,bh] using tV
  rw[Yu bh];refine hk _ _ ⟨h.box,up O _ (.inl MD),.inr ⟨O,rfl,bh,by rw[hl];simp[ab.ba],?_⟩⟩;cases hq:Z.aY O with
  | none=>rfl
  | some n=>rw[h.sub.2.1 _ _ hq] at MD;simp at MD
 .refine fe hb (by simpa [dk,ab.set,ab.ba,bh] using ht) ?_;rw[Yu bh];exact hk _ _ ⟨h.box,up O _ (.inr h0),.inr ⟨O,rfl,bh,by rw[hl];simp[ab.ba],h0⟩⟩
section
variable {s:aG} {lat:Int}
def rZ{t:List UInt8}{p k:Int}:(fE s lat t p k).length<=1:=by
 unfold fE;split
 .split<;>simp
 .split
  .split<;>simp
  .simp
def UD{w:aF}:(fc s w).length<=1:=by unfold fc;split;(split<;>simp);simp
def GV{n:Nd}:(kP s lat n).length<=1:=by
 unfold kP;split
 .exact rZ
 .split
  .unfold yV;split
   .cases uK s lat n<;>simp
   .simp
  .simp
mutual
def Nk:∀n:Nd,(fX s lat n).length<=n.cJ
 | .mk k p t ws ks => by
  have h1:=@GV s lat (.mk k p t ws ks);have h2:=No ks;rw[fX,bW,Nd.cJ];split
  .simp;omega
  .omega
def No:∀l:List Nd,(u5 s lat l).length<=gn l
 | []=>by simp[u5]
 | n :: ns => by
  have:=Nk n;have:=No ns
  rw[u5,bW,gn];omega
end
def Rp:∀{l:List Nd} {i:Nat} (hi:i<l.length),gn (l.take i)+l[i].cJ<=gn l
 | [],i,hi=>by simp at hi
 | n::ns,0,_=>by simp[gn]
 | n :: ns, i + 1, hi => by
  have:=Rp (l:=ns) (i:=i) (by simpa using hi)
  simp only[vI,gn,Gy];omega
def alu{l:List Nd}(hi:i<l.length):((l.take i).flatMap (fX s lat)).length+l[i].cJ<=gn l:=by
 have h1:=@No s lat (l.take i);rw[Np] at h1
 have:=Rp hi
 omega
def v7{Y:Type}{f:Y->List aM}{m:Nat}:∀{l:List Y},(∀x∈l,(f x).length<=m)->(l.flatMap f).length<=l.length*m
 | [],_=>by simp
 | x :: l, h => by
  have:=h x (by simp)
  have:=v7 (m:=m) (l:=l) λy hy=>h y (by simp[hy])
  rw[xa,bW,da,jh,xd];omega
def Ey{f:Y->List aM}{l:List Y}(hi:i<l.length):(l.take (i+1)).flatMap f=(l.take i).flatMap f++f l[i]:=by
 rw[jg hi,py];simp
def I_{ws:List aF}:(mw s lat ws).length<=ws.length:=by
 have:=v7 (f:=λw:aF=>fE s lat w.ar w.pos 2) (m:=1) (l:=ws) λ_ _=>rZ
 rw[qw] at this;exact this
def aes{ks:List Nd}{i:Nat}:(EA s lat ks i).length<=1+(ks.getD i gS).ae.length:=by
 have:=v7 (f:=kP s lat) (m:=1) (l:=(ks.getD i gS).ae) λ_ _=>GV
 have h2:(vZ ks i).length<=1:=by unfold vZ;split<;>simp
 rw[EA,bW];omega
def Sp{m:Nat}:pK s lat ks (m+1)=pK s lat ks m++EA s lat ks m:=by
 simp only[pK,ga,py,xa,P_,eM]
def Ro:∀{l:List Nd} {i:Nat} (hi:i<l.length),gn (l.take (i+1))=gn (l.take i)+l[i].cJ
 | [],i,hi=>by simp at hi
 | n::ns,0,_=>by simp[gn]
 | n :: ns, i + 1, hi => by
  have:=Ro (l:=ns) (i:=i) (by simpa using hi)
  simp only[vI,gn,Gy] at this ⊢;omega
def KY{ks:List Nd}:∀{m:Nat},m<=ks.length->(pK s lat ks m).length<=gn (ks.take m)
 | 0,_=>by simp[pK]
 | m + 1, hm => by
  have h1:=KY (ks:=ks) (m:=m) (by omega);have h2:=@aes s lat ks m;have h3:=Nd.so ks[m];have h4:=Kq ks[m].ae;rw[jS (by omega)] at h2;rw[Sp,bW,Ro (by omega)];omega
def WJ{p:Int}{n:Nd}:(qh s lat p n).length<=2*n.cJ+2:=by
 have wq:=Nd.so n;have uW:=Cv n;have h1:=KY (s:=s) (lat:=lat) (b7 n.ae.length);have h2:=Kr n.ae n.ae.length;have h3:=@I_ s lat n.al;have h4:=@rZ s lat n.ar n.pos 2;unfold qh;split
 .omega
 .split
  .simp only[bW]
   have:(if 16<n.ae.length then [(⟨7,p⟩:aM)] else []).length<=1:=by split<;>simp
   omega
  .simp
end
def qO(kind:Int)(l:List aA)(a fin:Int):bD :=
 if bf l a 97=aa then ⟨.mk kind (fD l a).pos (fD l a).ar [] [],a+1,aq,0⟩ else dG l a fin
def qk(l:List aA)(a fin:Int):bD :=
 if bf l a 97=aq then dG l a fin
 else if bf l (a+1) 58=aq then dG l (a+1) fin
 else if bf l (a+2) 123=aq then dG l (a+2) fin
 else if (wholeAt nameAt (bU l (a+2)) aa).2.aQ=aa then(wholeAt nameAt (bU l (a+2)) aa).2
 else ⟨.mk 6 (fD l a).pos (fD l a).ar (jK (wholeAt nameAt (bU l (a+2)) aa).1) [],a+3,aq,0⟩
def iA(w:List Nd × bD)(mk:List Nd->Nd)(next:Int):bD:=if w.2.aQ=aa then w.2 else ⟨mk w.1,next,aq,0⟩
def g_:Nat->List aA->Int->Int->bD
 | 0,l,a,fin=>qO 2 l a fin
 | n + 1, l, a, fin =>
  if bf l a 97=aa then qO 2 l a fin
  else if bf l a 123=aa then iA (wholeAt nameAt (bU l a) aa) (λks=>.mk 3 (fD l a).pos [] (jK ks) []) (a+1)
  else if bf l a 40=aa then iA (wholeAt (g_ n) (bU l a) aq) (λks=>.mk 4 (fD l a).pos [] [] ks) (a+1)
  else if bf l a 91=aa then iA (wholeAt qk (bU l a) aa) (λks=>.mk 5 (fD l a).pos [] [] ks) (a+1)
  else dG l a fin
def bD.put(g:bD)(f:Nd->Nd):bD:=if g.aQ=aa then g else {g with node:=f g.node}
def fM:Nat->List aA->Int->Int->bD
 | 0,l,a,fin=>qO 1 l a fin
 | n + 1, l, a, fin =>
  if bf l a 97=aa then qO 1 l a fin
  else if bf l a 35=aa then(g_ (n+1) l (a+1) fin).put λm=>.mk 7 (fD l a).pos [] [] [m]
  else if bf l a 43=aq/\bf l a 38=aq then dG l a fin
  else if bf l (a+1) 40=aq then dG l (a+1) fin
  else iA (wholeAt (fM n) (bU l (a+1)) aq) (λks=>.mk (if bf l a 38=aa then 9 else 8) (fD l a).pos [] [] ks) (a+2)
def ng(n:Nat)(l:List aA)(a fin:Int):bD:=if bf l a 43=aa\/bf l a 38=aa then dG l a fin else fM n l a fin
def pI(n:Nat)(l:List aA)(a fin:Int):bD :=
 if bf l a 97=aq then dG l a fin
 else if bf l (a+1) 61=aq then dG l (a+1) fin
 else(ng n l (a+2) fin).put λm=>.mk 11 (fD l a).pos (fD l a).ar [] [m]
def kc(l:List aA)(a:Int)(ks:List Nd)(ws:List aF)(next:Int):bD :=
 if next<(bU l a).ae.length then dG (bU l a).ae next (bU l a).fin else ⟨.mk 10 (fD l a).pos [] ws ks,a+1,aq,0⟩
def jr(l:List aA)(a:Int)(ks:List Nd)(next:Int):bD :=
 if bf (bU l a).ae next 124=aa then
  if (nameAt (bU l a).ae (next+1) (bU l a).fin).aQ=aa then nameAt (bU l a).ae (next+1) (bU l a).fin
  else kc l a ks (jK [(nameAt (bU l a).ae (next+1) (bU l a).fin).node]) (nameAt (bU l a).ae (next+1) (bU l a).fin).next
 else kc l a ks [] next
def qj(n:Nat)(l:List aA)(a:Int):List Nd × bD:=dE (λi=>pI n (bU l a).ae i (bU l a).fin) (bU l a).ae ((bU l a).ae.length+1) 0 []
def iG(n:Nat)(l:List aA)(a fin:Int):bD :=
 if bf l a 97=aa then fM n l a fin
 else if bf l a 91=aq then dG l a fin
 else if 0<(bU l a).ae.length/\bf (bU l a).ae 0 124=aq then
  if (qj n l a).2.aQ=aa then(qj n l a).2 else jr l a (qj n l a).1 (qj n l a).2.next
 else jr l a [] 0
def ti(g:List aA->Int->Int->bD):Prop:=∀l a fin,(g l a fin).aQ=aq->0<=a/\a+1<=(g l a fin).next/\(g l a fin).next<=(l.length:Int)
def o5{i:Int}(h:bf l i k=aa):0<=i/\i<(l.length:Int):=by
 obtain⟨j,t,rfl,_,_,hl⟩:=iB h;omega
def GP(k:Int):ti (qO k):=λl a fin h=>by
 unfold qO at h ⊢;split
 .rename_i hk;have:=o5 hk;exact⟨this.1,by simp,by simp only;omega⟩
 .rename_i hk;rw[aw hk] at h;simp[dG] at h
def QB:ti qk:=λl a fin h=>by
 unfold qk at h ⊢;split
 .rename_i hk;rw[aI hk] at h;simp[dG] at h
 rename_i h1;rw[aw h1] at h;split
 .rename_i hk;rw[aI hk] at h;simp[dG] at h
 rename_i h2;rw[aw h2] at h;split
 .rename_i hk;rw[aI hk] at h;simp[dG] at h
 rename_i h3;rw[aw h3] at h;split
 .rename_i hk;rw[aI hk,hk] at h;simp at h
 .have:=o5 (by simpa using h3:bf l (a+2) 123=aa)
  have:=o5 (by simpa using h1:bf l a 97=aa)
  exact⟨this.1,by simp only;omega,by simp only;omega⟩
def H5{w:List Nd × bD}{mk:List Nd->Nd}{next:Int}(h:(iA w mk next).aQ=aq):(iA w mk next).next=next:=by
 unfold iA at h ⊢;split
 .rename_i hk;rw[aI hk,hk] at h;simp at h
 .rfl
def J6:∀n,ti (g_ n)
 | 0=>GP 2
 | n + 1 => λl a fin h => by
  simp only[g_] at h ⊢;split
  .rename_i hk;rw[aI hk] at h;exact GP 2 l a fin h
  rename_i h1;rw[aw h1] at h;split
  .rename_i hk;rw[aI hk] at h;have:=o5 hk;rw[H5 h];omega
  rename_i h2;rw[aw h2] at h;split
  .rename_i hk;rw[aI hk] at h;have:=o5 hk;rw[H5 h];omega
  rename_i h3;rw[aw h3] at h;split
  .rename_i hk;rw[aI hk] at h;have:=o5 hk;rw[H5 h];omega
  .rename_i hk;rw[aw hk] at h;simp[dG] at h
def Wh{g:bD}{f:Nd->Nd}(h:(g.put f).aQ=aq):g.aQ=aq/\(g.put f).next=g.next:=by
 unfold bD.put at h ⊢;split
 .rename_i hk;rw[aI hk,hk] at h;simp at h
 .rename_i hk;exact⟨by simpa using hk,rfl⟩
def Eh:∀n,ti (fM n)
 | 0=>GP 1
 | n + 1 => λl a fin h => by
  simp only[fM] at h ⊢;split
  .rename_i hk;rw[aI hk] at h;exact GP 1 l a fin h
  rename_i h1;rw[aw h1] at h;split
  .rename_i hk;rw[aI hk] at h
   have:=o5 hk
   obtain⟨g1,g2⟩:=Wh h
   have:=J6 (n+1) l (a+1) fin g1
   rw[g2];omega
  rename_i h2;rw[aw h2] at h;split
  .rename_i hk;rw[aI hk] at h;simp[dG] at h
  rename_i h3;rw[aw h3] at h;split
  .rename_i hk;rw[aI hk] at h;simp[dG] at h
  rename_i h4;rw[aw h4] at h
  have:=o5 (by simpa using h4:bf l (a+1) 40=aa)
  have h5:0<=a:=by
   cases pM:bf l a 43
   .cases nZ:bf l a 38
    .exact absurd ⟨pM,nZ⟩ h3
    .exact(o5 nZ).1
   .exact(o5 pM).1
  rw[H5 h];omega
def Zb(n:Nat):ti (ng n):=λl a fin h=>by
 unfold ng at h ⊢;split
 .rename_i hk;rw[aI hk] at h;simp[dG] at h
 .rename_i hk;rw[aw hk] at h;exact Eh n l a fin h
def QA(n:Nat):ti (pI n):=λl a fin h=>by
 unfold pI at h ⊢;split
 .rename_i hk;rw[aI hk] at h;simp[dG] at h
 rename_i h1;rw[aw h1] at h;split
 .rename_i hk;rw[aI hk] at h;simp[dG] at h
 rename_i h2;rw[aw h2] at h;obtain⟨g1,g2⟩:=Wh h
 have:=Zb n l (a+2) fin g1
 have:=o5 (by simpa using h1:bf l a 97=aa)
 rw[g2];omega
def pr(l:List aA)(a:Int):aF:=⟨(fD l a).ar,(fD l a).pos⟩
def ave(b:Option Int):Int:=match b with | some a=>a | none=>-1
def uf(l:List aA)(fin:Int):Nat->Nat->List (aF × aF)->List (aF × aF) × Int
 | 0,_,acc=>(acc,-1)
 | n + 1, a, acc =>
  if bf l (a:Nat) 97=aq then([],jI l (a:Nat) fin)
  else if bf l ((a+1:Nat):Int) 60=aq then([],jI l ((a+1:Nat):Int) fin)
  else if bf l ((a+2:Nat):Int) 97=aq then([],jI l ((a+2:Nat):Int) fin)
  else if a+3=l.length then(acc++[(pr l (a:Nat),pr l ((a+2:Nat):Int))],-1)
  else if bf l ((a+3:Nat):Int) 44=aq then([],jI l ((a+3:Nat):Int) fin)
  else uf l fin n (a+4) (acc++[(pr l (a:Nat),pr l ((a+2:Nat):Int))])
def wM(t:aA):List (aF × aF) × Int:=if t.ae.length=0 then([],-1) else uf t.ae t.fin (t.ae.length+1) 0 []
def jX(k:UInt8)(c:aL)(l:List aA)(a fin:Int):aL × Int × Int :=
 if k=110\/k=102 then(if bf l a 97=aa then(if k=102 then {c with al:=[pr l a]} else {c with name:=pr l a},a+1,-1) else(c,a,jI l a fin))
 else if k=119 then(if (lK l a fin).2.aQ=aa then(c,a,(lK l a fin).2.pos) else({c with al:=(lK l a fin).1},a+1,-1))
 else if k=112 then(if bf l a 123=aa then({c with a8:=(wM (bU l a)).1,rQ:=(bU l a).tok.pos},a+1,(wM (bU l a)).2) else(c,a,jI l a fin))
 else
  let g:=if k=114 then iG (bE l) l a fin else fM (bE l) l a fin
  if g.aQ=aa then(c,a,g.pos) else(if c.left.kind=0 then {c with left:=g.node} else {c with right:=g.node},g.next,-1)
def qW(l:List aA)(fin:Int):List UInt8->aL->Int->aL × Int × Int
 | [],c,a=>(c,a,-1)
 | k::ks,c,a=>if 0<=(jX k c l a fin).2.2 then jX k c l a fin else qW l fin ks (jX k c l a fin).1 (jX k c l a fin).2.1
def lf(w:List UInt8):Nat->Nat->Int->Int
 | 0,_,r=>r
 | n+1,op,r=>lf w n (op+1) (if w=(dc op).1 then op else r)
def G4(l:List aA)(fin:Int):aL × Int × Int :=
 match l with
 | []=>(.zero,0,0)
 | t :: _ =>
  let op:=if t.tok.kind=97 then lf t.tok.ar 15 1 0 else 0
  if op=0 then(.zero,2,t.tok.pos)
  else
   let x:=qW l fin (dc op).2 {aL.zero with op:=op,pos:=t.tok.pos} 1
   if 0<=x.2.2 then(.zero,2,x.2.2)
   else if x.2.1<l.length then(.zero,2,jI l x.2.1 fin)
   else(x.1,0,0)
def DH(s:List UInt8):aL × Int × Int :=
 match (fI s).2 with
 | some a=>(.zero,1,a)
 | none => match (jt (fI s).1).2 with
  | some a=>(.zero,2,a)
  | none=>G4 (jt (fI s).1).1 s.length
def zH:List (Tok × List aA)->List Tok
 | []=>[]
 | (t,r)::op=>cu r++[t]++zH op
def N3:∀(op:List (Tok × List aA)) (t:Tok) (r:List aA),zH (op++[(t,r)])=zH op++cu r++[t]
 | [],t,r=>by simp[zH]
 | (u,q)::op,t,r=>by simp[zH,N3 op t r]
def Rg{c:Int}(h:closing c≠0):lv c=false:=by
 unfold closing at h;split at h
 .rename_i e;subst e;decide
 .split at h
  .rename_i e;rcases e with e | e<;>subst e<;>decide
  .exact absurd rfl h
def zX(l:List Y):l=[]\/∃ys x,l=ys++[x]:=by
 rcases P7 l with h | ⟨ys,x,h⟩
 .exact .inl h
 .exact .inr ⟨ys,x,by rw[h];simp⟩
def Jf:∀(ts:List Tok) (op:List (Tok × List aA)) (row:List aA),(∀t∈ts,vR t)->(∀p∈op,closing p.1.kind≠0/\mY p.2)->mY row->(gW ts op row).2=ah ->
 mY (gW ts op row).1/\cu (gW ts op row).1=zH op++cu row++ts
 | [], op, row, _, ho, hr, hn => by
  rcases zX op with rfl | ⟨ys,⟨u,a⟩,rfl⟩
  .simpa [gW,zH] using hr
  .simp[gW] at hn
 | t :: ts, op, row, ht, ho, hr, hn => by
  simp only[gW] at hn ⊢;have xS:∀t∈ts,vR t:=λx hx=>ht x (by simp[hx])
  by_cases hc:closing t.kind=0
  .rw[aw (by simp[hc])] at hn ⊢;cases gN:lv t.kind
   .rw[gN] at hn;simp only[dm,ch] at hn ⊢;obtain⟨h1,h2⟩:=Jf ts op (row++[.mk t [] t.pos]) xS ho (J4.2 ⟨hr,by simp[mY,aA.WF,hc,gN]⟩) hn;exact⟨h1,by rw[h2,Ez];simp[cu,aA.flat,hc]⟩
   .rw[gN] at hn;simp only[cH] at hn ⊢
    rcases zX op with rfl | ⟨ys,⟨u,a⟩,rfl⟩
    .simp at hn
    .simp only[Gz,JK] at hn ⊢
     by_cases hk:closing u.kind=t.kind
     .rw[aI hk] at hn ⊢;obtain⟨hu,ha⟩:=ho (u,a) (by simp);have hte:t=⟨closing u.kind,[UInt8.ofNat (closing u.kind).toNat],t.pos⟩:=by
       rcases ht t (by simp) with ⟨di,_⟩ | ⟨_,h2⟩
       .rw[di] at gN;exact absurd gN (by decide)
       .rw[hk,<-h2]
      obtain⟨h1,h2⟩:=Jf ts ys (a++[.mk u row t.pos]) xS (λp hp=>ho p (by simp[hp])) (J4.2 ⟨ha,by simp[mY,aA.WF,hu,hr,Rg hu]⟩) hn;refine⟨h1,?_⟩;rw[h2,Ez,N3];simp only[cu,aA.flat,hu,rN,Dv,cH,eM];rw[<-hte];simp
     .rw[aw hk] at hn;simp at hn
  .rw[aI hc] at hn ⊢
   by_cases rr:24<=op.length
   .rw[aI rr] at hn;simp at hn
   .rw[aw rr] at hn ⊢;obtain⟨h1,h2⟩:=Jf ts (op++[(t,row)]) [] xS (λp hp=>by rcases jv.1 hp with h | h;exact ho p h;simp at h;subst h;exact⟨hc,hr⟩) (by simp[mY]) hn;exact⟨h1,by rw[h2,N3];simp[cu]⟩
def Jd:∀(ts:List Tok) (op:List (Tok × List aA)) (row:List aA),(gW ts op row).2≠ah->(gW ts op row).1=[]
 | [], op, row, h => by
  rcases zX op with rfl | ⟨ys,⟨u,a⟩,rfl⟩
  .simp[gW] at h
  .simp[gW]
 | t :: ts, op, row, h => by
  simp only[gW] at h ⊢;split
  .rename_i hc;rw[aI hc] at h;split
   .rfl
   .rename_i rr;rw[aw rr] at h;exact Jd _ _ _ h
  .rename_i hc;rw[aw hc] at h;split
   .rename_i gN;rw[aI gN] at h
    rcases zX op with rfl | ⟨ys,⟨u,a⟩,rfl⟩
    .rfl
    .simp only[Gz,JK] at h ⊢;split
     .rename_i hk;rw[aI hk] at h;exact Jd _ _ _ h
     .rfl
   .rename_i gN;rw[aw gN] at h;exact Jd _ _ _ h
def AI(l:List Tok)(f:Int):Option Int:=if 0<=f then U (qb l f.toNat) else ah
def Je(l:List Tok):∀(n i:Nat) (op:List (Tok × List aA)) (row:List aA) (o:List Nat),i+n=l.length->op.map (·.1)=o.map (iI l)->(gW (l.drop i) op row).2=AI l (lz l n i o)
 | 0, i, op, row, o, hi, ho => by
  rw[JL (by omega)]
  rcases zX op with rfl | ⟨ys,⟨u,a⟩,rfl⟩
  .have:o=[]:=by simpa using ho.symm
   subst this;simp[gW,lz,AI]
  .rcases zX o with rfl | ⟨zs,j,rfl⟩
   .simp at ho
   .simp only[jf,dz,eQ] at ho;have hj:u=iI l j:=by have:=YQ ho rfl;simpa using this
    simp[gW,lz,AI,hj,iI,qb];cases l[j]?<;>rfl
 | n + 1, i, op, row, o, hi, ho => by
  have an:i<l.length:=by omega
  have hti:iI l i=l[i]:=by simp[iI,an]
  have qG:ei l i=l[i].kind:=by simp[ei,an]
  have C8:qb l i=l[i].pos:=by simp[qb,an]
  have dT:op.length=o.length:=by have:=jR List.length ho;simpa using this
  rw[kM an];simp only[gW,lz,qG];have Mq:AI l (i:Nat)=U l[i].pos:=by simp[AI,C8]
  by_cases hc:closing l[i].kind=0
  .simp only[rN,hc,BE,Ex,ch];cases gN:lv l[i].kind
   .simp only[dm,ch];exact Je l n (i+1) op _ o (by omega) ho
   .simp only[cH]
    rcases zX op with rfl | ⟨ys,⟨u,a⟩,rfl⟩
    .have:o=[]:=by simpa using ho.symm
     subst this;simp[Mq]
    .rcases zX o with rfl | ⟨zs,j,rfl⟩
     .simp at ho
     .simp only[jf,dz,eQ] at ho;have hj:u=iI l j:=by have:=YQ ho rfl;simpa using this
      have qN:ys.map (·.1)=zs.map (iI l):=List.append_inj_left' ho rfl;have LZ:ei l j=u.kind:=by rw[hj];simp only[ei,iI];cases l[j]?<;>rfl
      simp only[Gz,JK,LZ]
      by_cases hk:closing u.kind=l[i].kind
      .rw[aI hk,aI hk];exact Je l n (i+1) ys _ zs (by omega) qN
      .rw[aw hk,aw hk,Mq]
  .rw[aI hc]
   by_cases rr:24<=op.length
   .rw[aI rr,aI ⟨hc,by omega⟩,Mq]
   .rw[aw rr,aw (λh=>rr (by omega))];simp only[rN,hc,Dv,cH,Rg hc,dm,ch];exact Je l n (i+1) _ _ _ (by omega) (by simp[ho,hti])
def as9{l:List Tok}(h:∀t∈l,vR t):gW l [] []=jt l:=by
 have hf:=Je l l.length 0 [] [] [] (by omega) rfl;rw[JN] at hf;have hr:(jt l).2=AI l (lz l l.length 0 []):=by
  unfold jt AI;split<;>rfl
 have h2:(gW l [] []).2=(jt l).2:=by rw[hf,hr]
 cases hq:(gW l [] []).2 with
 | some a =>
  have h1:=Jd l [] [] (by rw[hq];simp);have h3:(jt l).1=[]:=by
   rw[hq] at h2;unfold jt at h2 ⊢;split
   .rfl
   .rename_i hn;rw[aw hn] at h2;simp at h2
  exact Prod.ext (h1.trans h3.symm) h2
 | none =>
  obtain⟨h3,h4⟩:=Jf l [] [] h (by simp) (by simp[mY]) hq;simp only[zH,cu,kN] at h4;have h5:=as_ h3 (by rw[h4,<-h2,hq]);rw[h4] at h5;exact Prod.ext h5.symm h2
def Pe(s:List UInt8):gW (fI s).1 [] []=jt (fI s).1:=as9 (FE _ _ _ _ (by simp))
def Zc(n:Nat):ti (iG n):=λl a fin h=>by
 have h3:∀ks ws next,(kc l a ks ws next).aQ=aq->(kc l a ks ws next).next=a+1:=λks ws next h=>by
  unfold kc at h ⊢;split
  .rename_i hk;rw[aI hk] at h;simp[dG] at h
  .rfl
 have h2:∀ks next,(jr l a ks next).aQ=aq->(jr l a ks next).next=a+1:=λks next h=>by
  unfold jr at h ⊢;split
  .rename_i hk;rw[aI hk] at h;split
   .rename_i hb;rw[aI hb,hb] at h;simp at h
   .rename_i hb;rw[aw hb] at h;exact h3 _ _ _ h
  .rename_i hk;rw[aw hk] at h;exact h3 _ _ _ h
 unfold iG at h ⊢;split
 .rename_i hk;rw[aI hk] at h;exact Eh n l a fin h
 rename_i h1;rw[aw h1] at h;split
 .rename_i hk;rw[aI hk] at h;simp[dG] at h
 rename_i h4;rw[aw h4] at h;have hk:=o5 (by simpa using h4:bf l a 91=aa);split
 .rename_i h5;rw[aI h5] at h;split
  .rename_i hb;rw[aI hb,hb] at h;simp at h
  .rename_i hb;rw[aw hb] at h;rw[h2 _ _ h];omega
 .rename_i h5;rw[aw h5] at h;rw[h2 _ _ h];omega
def VV(k:UInt8)(c:aL)(l:List aA)(a:Nat)(fin:Int):∃a' : Nat,(jX k c l a fin).2.1=(a' : Nat)/\(a<=l.length->a' <= l.length):=by
 have Mw:∀kind,bf l (a:Nat) kind=aa->∃a' : Nat,((a:Int)+1)=(a' : Nat)/\(a<=l.length->a' <= l.length):=λkind hk=>by
  have:=o5 hk
  exact⟨a+1,rfl,λ_=>by omega⟩
 have fv:∃a' : Nat,(a:Int)=(a' : Nat)/\(a<=l.length->a' <= l.length):=⟨a,rfl,id⟩;unfold jX;split
 .split
  .rename_i hk;exact Mw _ hk
  .exact fv
 split
 .split
  .exact fv
  .rename_i hb;have hk:bf l (a:Nat) 123=true:=by
    by_cases hk:bf l (a:Nat) 123=aa
    .exact hk
    .unfold lK at hb;rw[aw hk] at hb;simp[dG] at hb
   exact Mw _ hk
 split
 .split
  .rename_i hk;exact Mw _ hk
  .exact fv
 have hg:ti (if k=114 then iG (bE l) else fM (bE l)):=by split;exact Zc _;exact Eh _
 have xH:=hg l (a:Nat) fin;rw[show(if k=114 then iG (bE l) else fM (bE l)) l (a:Nat) fin=(if k=114 then iG (bE l) l (a:Nat) fin else fM (bE l) l (a:Nat) fin) by split<;>rfl] at xH;generalize (if k=114 then iG (bE l) l (a:Nat) fin else fM (bE l) l (a:Nat) fin)=g at xH ⊢;cases hb:g.aQ
 .obtain⟨_,h1,h2⟩:=xH hb;simp only[hb,dm,ch];exact⟨g.next.toNat,by omega,λ_=>by omega⟩
 .simp only[hb,cH];exact fv
def In(N p:Int):Prop:=0<=p/\p<=N
inductive vP(N:Int):aA->Prop
 | mk (t:Tok) (ks:List aA) (e:Int):In N t.pos->In N e->(∀k∈ks,vP N k)->vP N (.mk t ks e)
variable{N:Int}
def vP.fin(h:vP N t):In N t.fin:=by cases h;assumption
def vP.pos(h:vP N t):In N t.tok.pos:=by cases h;assumption
def vP.ae(h:vP N t):∀k∈t.ae,vP N k:=by cases h;assumption
def nR(N:Int)(l:List aA):Prop:=∀k∈l,vP N k
section
variable {N:Int} (h0:0<=N)
include h0
theorem uZ:In N 0:=⟨by omega,h0⟩
variable{a:Int}
theorem DO{fin:Int}(hl:nR N l)(hf:In N fin):In N (jI l a fin):=by
 unfold jI;split
 .cases h:l[a.toNat]? with
  | none=>exact hf
  | some t=>exact(hl t (tq h)).pos
 .exact hf
theorem rb{fin:Int}(hl:nR N l)(hf:In N fin):In N (dG l a fin).pos:=DO h0 hl hf
theorem Pd(hl:nR N l):nR N (bU l a).ae/\In N (bU l a).fin:=by
 unfold bU;cases h:l[a.toNat]? with
 | none=>exact⟨by simp[nR,aA.zero,aA.ae],by exact uZ h0⟩
 | some t=>exact⟨(hl t (tq h)).ae,(hl t (tq h)).fin⟩
def xi(N:Int)(g:List aA->Int->Int->bD):Prop:=∀l a fin,nR N l->In N fin->In N (g l a fin).pos
theorem Ih(k:Int):xi N (qO k):=λl a fin hl hf=>by
 unfold qO;split;exact uZ h0;exact rb h0 hl hf
theorem Is:xi N nameAt:=λl a fin hl hf=>by
 unfold nameAt;split;exact uZ h0;exact rb h0 hl hf
theorem O3{one:Int->bD}{l:List aA}(h:∀a,In N (one a).pos):∀n a out,In N (dE one l n a out).2.pos
 | 0,_,_=>uZ h0
 | n + 1, a, out => by
  simp only[dE];split
  .exact h a
  .split
   .exact O3 h n _ _
   .exact h a
variable{g:List aA->Int->Int->bD}
theorem DY(hg:xi N g)(hl:nR N l)(e:Bool):In N (wholeAt g (bU l a) e).2.pos:=by
 obtain⟨hk,hf⟩:=Pd h0 (a:=a) hl;unfold wholeAt;split
 .exact uZ h0
 .simp only;split
  .exact rb h0 hk hf
  .exact O3 h0 (λa=>hg _ a _ hk hf) _ _ _
theorem H6{w:List Nd × bD}{mk:List Nd->Nd}{next:Int}(h:In N w.2.pos):In N (iA w mk next).pos:=by
 unfold iA;split;exact h;exact uZ h0
theorem Wg{g:bD}{f:Nd->Nd}(h:In N g.pos):In N (g.put f).pos:=by
 unfold bD.put;split<;>exact h
theorem arD:xi N qk:=λl a fin hl hf=>by
 unfold qk;split
 .exact rb h0 hl hf
 split
 .exact rb h0 hl hf
 split
 .exact rb h0 hl hf
 split
 .exact DY h0 (Is h0) hl _
 .exact uZ h0
theorem Ry:∀n,xi N (g_ n)
 | 0=>Ih h0 2
 | n + 1 => λl a fin hl hf => by
  unfold g_;split
  .exact Ih h0 2 l a fin hl hf
  split
  .exact H6 h0 (DY h0 (Is h0) hl _)
  split
  .exact H6 h0 (DY h0 (Ry n) hl _)
  split
  .exact H6 h0 (DY h0 (arD h0) hl _)
  .exact rb h0 hl hf
theorem Ic:∀n,xi N (fM n)
 | 0=>Ih h0 1
 | n + 1 => λl a fin hl hf => by
  unfold fM;split
  .exact Ih h0 1 l a fin hl hf
  split
  .exact Wg h0 (Ry h0 _ _ _ _ hl hf)
  split
  .exact rb h0 hl hf
  split
  .exact rb h0 hl hf
  .exact H6 h0 (DY h0 (Ic n) hl _)
theorem ZX(n:Nat):xi N (ng n):=λl a fin hl hf=>by
 unfold ng;split;exact rb h0 hl hf;exact Ic h0 n l a fin hl hf
theorem aej(n:Nat):xi N (pI n):=λl a fin hl hf=>by
 unfold pI;split
 .exact rb h0 hl hf
 split
 .exact rb h0 hl hf
 .exact Wg h0 (ZX h0 n _ _ _ hl hf)
theorem are(n:Nat):xi N (iG n):=λl a fin hl hf=>by
 obtain⟨hk,l9⟩:=Pd h0 (a:=a) hl;have h3:∀ks ws next,In N (kc l a ks ws next).pos:=λks ws next=>by
  unfold kc;split;exact rb h0 hk l9;exact uZ h0
 have h2:∀ks next,In N (jr l a ks next).pos:=λks next=>by
  unfold jr;split
  .split
   .exact Is h0 _ _ _ hk l9
   .exact h3 _ _ _
  .exact h3 _ _ _
 unfold iG;split
 .exact Ic h0 n l a fin hl hf
 split
 .exact rb h0 hl hf
 split
 .split
  .exact O3 h0 (λi=>aej h0 n _ i _ hk l9) _ _ _
  .exact h2 _ _
 .exact h2 _ _
theorem aul{fin:Int}(hl:nR N l)(hf:In N fin):In N (lK l a fin).2.pos:=by
 unfold lK;split;exact DY h0 (Is h0) hl _;exact rb h0 hl hf
theorem atb{l:List Tok}(hl:∀t∈l,In N t.pos):∀n i to,nR N (jJ l n i to):=by
 have hp:∀i,In N (qb l i):=λi=>by
  unfold qb;cases h:l[i]? with
  | none=>exact uZ h0
  | some t=>exact hl t (tq h)
 have ht:∀i,In N (iI l i).pos:=λi=>by
  unfold iI;cases h:l[i]? with
  | none=>exact uZ h0
  | some t=>exact hl t (tq h)
 intro n;induction n with
 | zero=>intro i to;simp[jJ,nR]
 | succ n ih =>
  intro i to;simp only[jJ];split
  .split
   .intro k hk
    rcases pz.1 hk with rfl | hk
    .exact .mk _ _ _ (ht i) (hp _) (ih _ _)
    .exact ih _ _ k hk
   .intro k hk
    rcases pz.1 hk with rfl | hk
    .exact .mk _ _ _ (ht i) (hp _) (by simp)
    .exact ih _ _ k hk
  .simp[nR]
end
def Ii{N:Int}:∀n (p:Nat) (s:List UInt8) (acc:List Tok),(p:Int)+s.length<=N->(∀t∈acc,In N t.pos)->(∀t∈(gQ n p s acc).1,In N t.pos)/\∀a,(gQ n p s acc).2=U a->In N a
 | 0,_,_,acc,_,h=>⟨by simpa [gQ] using h,by simp[gQ]⟩
 | n+1,_,[],acc,_,h=>⟨by simpa [gQ] using h,by simp[gQ]⟩
 | n + 1, p, c :: r, acc, hp, h => by
  simp only[da] at hp;simp only[gQ];split
  .exact⟨h,by simp⟩
  split
  .rename_i hr;have hle:(eH (c::r)).length<=(c::r).length:=(YZ _).length_le;refine Ii n _ _ _ ?_ ?_
   .rw[Qd];simp only[da] at hle ⊢;omega
   .intro t ht
    rcases jv.1 ht with ht | ht
    .exact h t ht
    .rw[nU] at ht;subst ht;constructor<;>simp only<;>omega
  split
  .refine Ii n _ _ _ (by omega) ?_;intro t ht
   rcases jv.1 ht with ht | ht
   .exact h t ht
   .rw[nU] at ht;subst ht;constructor<;>simp only<;>omega
  split
  .exact Ii n _ _ _ (by omega) h
  .refine⟨by simp,λa ha=>?_⟩;simp only[bg] at ha;subst ha;constructor<;>omega
def alZ(s:List UInt8):(∀t∈(fI s).1,In s.length t.pos)/\∀a,(fI s).2=U a->In s.length a:=Ii _ _ _ _ (by simp) (by simp)
def al6(s:List UInt8):nR s.length (jt (fI s).1).1/\∀a,(jt (fI s).1).2=U a->In s.length a:=by
 have h0:(0:Int)<=s.length:=by omega
 have h:=(alZ s).1;unfold jt;split
 .refine⟨by simp[nR],λa ha=>?_⟩;simp only[bg] at ha;subst ha;unfold qb;cases hq:(fI s).1[(lz (fI s).1 (fI s).1.length 0 []).toNat]? with
  | none=>exact uZ h0
  | some t=>exact h t (tq hq)
 .exact⟨atb h0 h _ _ _,by simp⟩
def ig(sep:List UInt8):List (List UInt8)->List UInt8
 | []=>[]
 | x::xs=>x++xs.flatMap λy=>sep++y
def Up(sep:List UInt8)(l:List (List UInt8))(y:List UInt8):ig sep (l++[y])=ig sep l++(if 0<l.length then sep else [])++y:=by
 cases l with
 | nil=>simp[ig]
 | cons x xs=>simp[ig]
def H_(l:List (List UInt8)):ig [44] l=cC l:=by cases l<;>rfl
variable{sep:List UInt8}
def ak3{l:List (List UInt8)}(h:i<l.length):ig sep (l.take (i+1))=ig sep (l.take i)++(if 0<i then sep else [])++l[i]:=by
 rw[jg h,Up,iu,xc (Ec h)]
def ak2{l:List (List UInt8)}:(ig sep (l.take i)).length<=(ig sep l).length:=by
 have key:∀a b:List (List UInt8),(ig sep a).length<=(ig sep (a++b)).length:=λa b=>by
  cases a with
  | nil=>simp[ig]
  | cons x xs=>simp[ig,py]
 have:=key (l.take i) (l.drop i)
 rwa [pA] at this
def kz(p:aF × aF):List UInt8:=p.1.ar++[60]++p.2.ar
def Ay(l:List (List UInt8)):List UInt8:=[123]++cC l++[125]
def pe(k:UInt8)(c:aL)(n:Nd):List UInt8 :=
 if k=110 then c.name.ar
 else if k=102 then cC (c.al.map aF.ar)
 else if k=119 then Ay (c.al.map aF.ar)
 else if k=112 then Ay (c.a8.map kz)
 else n.dS
def isTerm(k:UInt8):Bool:=k≠110&&k≠102&&k≠119&&k≠112
def BQ(c:aL)(x:List (List UInt8) × List Nd)(k:UInt8):List (List UInt8) × List Nd:=(x.1++[pe k c (x.2.headD .zero)],if isTerm k=aa then x.2.tail else x.2)
def iD(c:aL)(ks:List UInt8):List (List UInt8) × List Nd:=ks.foldl (BQ c) ([(dc c.op).1],[c.left,c.right])
def q_(c:aL):List UInt8:=ig [32] (iD c (dc c.op).2).1
def Oe(c:aL)(ks:List UInt8)(k:UInt8):iD c (ks++[k])=BQ c (iD c ks) k:=by simp[iD,B_]
def jY(l:List (aF × aF)):Nat:=(l.map λp=>p.1.ar.length+p.2.ar.length+2).sum
def apG{l:List (aF × aF)}(h:i<l.length):l[i].1.ar.length+l[i].2.ar.length+2<=jY l:=by
 induction l generalizing i with
 | nil=>simp at h
 | cons p ps ih =>
  cases i with
  | zero=>simp[jY]
  | succ i =>
   have:=ih (i:=i) (by simp at h;omega)
   simp only[jY,dz,rh,Gy] at this ⊢;omega
def Oh(l:List (aF × aF)):(cC (l.map kz)).length<=jY l/\l.length<=jY l:=by
 induction l with
 | nil=>simp[cC,jY]
 | cons p ps ih =>
  have key:∀qs:List (aF × aF),((qs.map kz).flatMap λy=>44::y).length<=jY qs:=λqs=>by
   induction qs with
   | nil=>simp
   | cons q qs ih=>simp[kz,jY] at ih ⊢;omega
  have:=key ps
  have:=ih.2
  simp[cC,kz,jY] at *;omega
def aL.wt(c:aL):Nat:=c.name.ar.length+eK c.al+jY c.a8+c.left.wt+c.right.wt
def DE(l:List aF):(cC (l.map aF.ar)).length<=eK l/\l.length<=eK l:=⟨D1 l,by
 induction l with
 | nil=>simp
 | cons w ws ih=>simp[eK] at ih ⊢;omega⟩
def apr{k:UInt8}{n:Nd}(h:n.wt<=c.wt):(pe k c n).length<=c.wt+2:=by
 have h1:=(DE c.al).1;have h2:=(Oh c.a8).1;have h3:=X4 n;have h4:c.wt=c.name.ar.length+eK c.al+jY c.a8+c.left.wt+c.right.wt:=rfl;unfold pe Ay;split
 .omega
 split
 .omega
 split
 .simp;omega
 split
 .simp;omega
 .omega
def auh(op:Int):(dc op).1.length<=8:=by
 unfold dc;split
 .rename_i h1;have an:op.toNat<16:=by omega
  generalize op.toNat=n at an ⊢;have key:∀n<16,(iO.getD n ([],[])).1.length<=8:=by decide
  exact key n an
 .simp
def Jz:Nd.zero.wt=4:=by simp[Nd.zero,Nd.wt,eK,fq]
def auW(n:Nd):4<=n.wt:=by cases n;simp only[Nd.wt];omega
def DD(c:aL)(ks:List UInt8):(∀x∈(iD c ks).1,x.length<=c.wt+8)/\(∀n∈(iD c ks).2,n.wt<=c.wt)/\(iD c ks).1.length=ks.length+1/\(iD c ks).2=[c.left,c.right].drop (ks.filter isTerm).length:=by
 have hc:c.wt=c.name.ar.length+eK c.al+jY c.a8+c.left.wt+c.right.wt:=rfl
 rcases P7 ks with rfl | ⟨ys,k,rfl⟩
 .have:=auh c.op
  refine⟨?_,?_,rfl,rfl⟩
  .intro x hx;simp[iD] at hx;subst hx;omega
  .intro n hn;simp[iD] at hn;rcases hn with rfl | rfl<;>omega
 .obtain⟨i1,i2,i3,i4⟩:=DD c ys;rw[List.concat_eq_append,Oe];have hz:((iD c ys).2.headD .zero).wt<=c.wt:=by
   cases hq:(iD c ys).2 with
   | nil=>have:=auW c.left;simp[Jz];omega
   | cons n ns=>exact i2 n (by rw[hq];simp)
  refine⟨?_,?_,?_,?_⟩
  .intro x hx
   rcases jv.1 hx with hx | hx
   .exact i1 x hx
   .rw[nU] at hx;subst hx;have:=apr (k:=k) hz;omega
  .intro n hn;simp only[BQ] at hn;split at hn
   .exact i2 n (List.mem_of_mem_tail hn)
   .exact i2 n hn
  .simp[BQ,i3]
  .simp only[BQ,i4];cases h:isTerm k
   .simp[h]
   .simp[h]
termination_by ks.length
decreasing_by subst_vars;simp
variable{B:Nat}
def Uo:∀(l:List (List UInt8)),(∀x∈l,x.length<=B)->(ig [32] l).length<=l.length*(B+1)
 | [],_=>by simp[ig]
 | x :: xs, h => by
  have hx:=h x (by simp);have key:∀ys:List (List UInt8),(∀x∈ys,x.length<=B)->(ys.flatMap λy=>[32]++y).length<=ys.length*(B+1):=λys=>by
   induction ys with
   | nil=>simp
   | cons y ys ih =>
    intro h;have h1:=h y (by simp);have h2:=ih λx hx=>h x (by simp[hx])
    simp only[xa,bW,da,cZ,jh] at h2 ⊢;omega
  have:=key xs λx hx=>h x (by simp[hx])
  simp only[ig,bW,da,jh] at this ⊢;omega
def SH(op:Int):∀i<(dc op).2.length,∀k,(dc op).2[i]?=U k->isTerm k=aa->(((dc op).2.take i).filter isTerm).length<2:=by
 unfold dc;split
 .rename_i h1;have an:op.toNat<16:=by omega
  generalize op.toNat=n at an ⊢;have key:∀n<16,∀i<(iO.getD n ([],[])).2.length,∀k∈(iO.getD n ([],[])).2[i]?,isTerm k=aa->(((iO.getD n ([],[])).2.take i).filter isTerm).length<2:=by decide
  intro i hi k hk;exact key n an i hi k hk
 .simp
def As:List V:=.int .i64 0::aj 8 (.int .u64 0)
def KX:List V:=.aH []::.int .i64 0::aj 8 (.int .u64 0)
structure bO where
 v:Int
 c:bp
structure ck where
 name:List UInt8
 a:bO
structure fi where
 fs:List ck
 tail:Int
structure ju where
 op:Int
 lat:Int
 code:List bH
 to:bO
 a:fi
 b:fi
 v:Int
 field:List UInt8
def bp.aa1{P:bp->Prop}(h:∀(a b c d e f g i:bu) (hl:[a,b,c,d,e,f,g,i].length=8),P ⟨[a,b,c,d,e,f,g,i],hl⟩)(e:bp):P e:=by
 obtain⟨w,hl⟩:=e
 match w,hl with
 | [a,b,c,d,e,f,g,i],hl=>exact h a b c d e f g i hl
def bO.enc(x:bO):List V:=.int .i64 x.v::x.c.enc
def ck.enc(x:ck):List V:=.aH x.name::x.a.enc
def fi.enc(x:fi):List V:=[.sl .no 10 (x.fs.map ck.enc),.int .i64 x.tail]
def cP(op lat:Int)(c:V)(to:bO)(fa:V)(ta:Int)(fb:V)(tb v:Int)(f:List UInt8):List V:=.int .i64 op::.int .i64 lat::c::(to.enc++[fa,.int .i64 ta,fb,.int .i64 tb,.int .i64 v,.aH f])
def ju.enc(x:ju):List V:=cP x.op x.lat (.sl .no 10 (x.code.map bH.enc)) x.to (.sl .no 10 (x.a.fs.map ck.enc)) x.a.tail (.sl .no 10 (x.b.fs.map ck.enc)) x.b.tail x.v x.field
def bO.zero:bO:=⟨0,.zero⟩
def fi.zero:fi:=⟨[],0⟩
def ju.zero:ju:=⟨0,0,[],.zero,.zero,.zero,0,[]⟩
def iL:List V:=cP 0 0 (.sl .a9 10 []) .zero (.sl .a9 10 []) 0 (.sl .a9 10 []) 0 0 []
def bO.ext'{x y:bO}(h:x.v=y.v)(k:x.c=y.c):x=y:=by cases x;cases y;simp only at h k;subst h;subst k;rfl
def ck.ext'{x y:ck}(h:x.name=y.name)(k:x.a=y.a):x=y:=by cases x;cases y;simp only at h k;subst h;subst k;rfl
instance:DecidableEq bO:=λx y=>if h:x.v=y.v/\x.c=y.c then isTrue (bO.ext' h.1 h.2) else isFalse λe=>h ⟨e▸rfl,e▸rfl⟩
instance:DecidableEq ck:=λx y=>if h:x.name=y.name/\x.a=y.a then isTrue (ck.ext' h.1 h.2) else isFalse λe=>h ⟨e▸rfl,e▸rfl⟩
section
variable {x y:bO} {n:Nat} {i:Int} {e:bp}
def bO.dj:x.enc.length=9:=by simp[bO.enc,bp.dj]
def bO.gH:c8 x.enc=true:=by simp[bO.enc,c8,V.one,bp.gH]
def bO.dL:bS x.enc=true:=by simp[bO.enc,bS,V.cM,bp.dL]
def bO.dy:aZ x.enc=x.enc:=by simp[bO.enc,aZ,V.erase,bp.dy]
def bO.bP:bK n x.enc=true:=by simp[bO.enc,bK,V.lo,bp.bP]
def bO.fO:takeN 9 x.enc=U x.enc:=by have:=z_ (c:=x.enc);rwa [bO.dj] at this
def bO.iF:bX aa 9 x.enc=U (.agg x.enc):=by rw[Bs,bO.fO];rfl
def bO.gT:cB 9 x.enc=true:=by have:=za (c:=x.enc);rwa [bO.dj] at this
def bO.gx:over y.enc x.enc=x.enc:=vh (by rw[bO.dj,bO.dj])
theorem bO.Ov:bX aq 1 x.enc=U (.int .i64 x.v):=rfl
def bO.Oo:takeN 8 (x.enc.drop 1)=U x.c.enc:=by show takeN 8 x.c.enc=_;exact bp.fO
def bO.IP:As=bO.zero.enc:=by rw[bO.enc];show _=V.int .i64 0::bp.zero.enc;rw[<-bp.yc];rfl
def bO.Z5:over x.enc [.int .i64 i]=(bO.mk i x.c).enc:=by rw[bO.enc,qa,mP];rfl
theorem bO.Ek:cB 1 x.enc=true:=rfl
def bO.Z2:cB 8 (x.enc.drop 1)=true:=by show cB 8 x.c.enc=aa;exact bp.gT
def bO.Ke:setAt x.enc 1 e.enc=(bO.mk x.v e).enc:=by rw[bO.enc,jZ,mr,bp.gx];rfl
def bO.qX:gd [1,1,1,1,1,1,1,1,1] x.enc y.enc=U (decide (x=y)):=by
 rw[bO.enc,bO.enc,yY,bp.qX,xm];congr 1;rw[<-yA];exact rn.2 ⟨λh=>bO.ext' h.1 h.2,λh=>h▸⟨rfl,rfl⟩⟩
def bO.ak:=af @bO.dj <| af @bO.gH <| af @bO.dL <| af @bO.dy <| af @bO.bP <| af @bO.fO <| af @bO.iF <| af @bO.gT <| af @bO.gx <| af @bO.Ov <| af @bO.Oo <| af @bO.IP <| af @bO.Z5 <| af @bO.Ek <| af @bO.Z2 <| af @bO.Ke @bO.qX
end
section
variable {x y:ck} {n:Nat} {t:List UInt8} {a:bO}
def ck.dj:x.enc.length=10:=by simp[ck.enc,bO.dj]
def ck.gH:c8 x.enc=true:=by simp[ck.enc,c8,V.one,bO.gH]
def ck.dL:bS x.enc=true:=by simp[ck.enc,bS,V.cM,bO.dL]
def ck.dy:aZ x.enc=x.enc:=by simp[ck.enc,aZ,V.erase,bO.dy]
def ck.bP:bK n x.enc=true:=by simp[ck.enc,bK,V.lo,bO.bP]
def ck.fO:takeN 10 x.enc=U x.enc:=by have:=z_ (c:=x.enc);rwa [ck.dj] at this
def ck.iF:bX aa 10 x.enc=U (.agg x.enc):=by rw[Bs,ck.fO];rfl
def ck.gT:cB 10 x.enc=true:=by have:=za (c:=x.enc);rwa [ck.dj] at this
def ck.gx:over y.enc x.enc=x.enc:=vh (by rw[ck.dj,ck.dj])
theorem ck.vl:bX aq 1 x.enc=U (.aH x.name):=rfl
def ck.On:takeN 9 (x.enc.drop 1)=U x.a.enc:=by show takeN 9 x.a.enc=_;exact bO.fO
def ck.IP:KX=(ck.mk [] .zero).enc:=by rw[ck.enc];show _=V.aH []::bO.zero.enc;rw[<-bO.IP];rfl
def ck.Kf:over x.enc [.aH t]=(ck.mk t x.a).enc:=by rw[ck.enc,qa,mP];rfl
theorem ck.Ek:cB 1 x.enc=true:=rfl
def ck.Z3:cB 9 (x.enc.drop 1)=true:=by show cB 9 x.a.enc=aa;exact bO.gT
def ck.ZZ:setAt x.enc 1 a.enc=(ck.mk x.name a).enc:=by rw[ck.enc,jZ,mr,bO.gx];rfl
def ck.qX:gd [2,1,1,1,1,1,1,1,1,1] x.enc y.enc=U (decide (x=y)):=by
 rw[ck.enc,ck.enc,R5,bO.qX,xm];congr 1;rw[<-yA];exact rn.2 ⟨λh=>ck.ext' h.1 h.2,λh=>h▸⟨rfl,rfl⟩⟩
def ck.ak:=af @ck.dj <| af @ck.gH <| af @ck.dL <| af @ck.dy <| af @ck.bP <| af @ck.fO <| af @ck.iF <| af @ck.gT <| af @ck.gx <| af @ck.vl <| af @ck.On <| af @ck.IP <| af @ck.Kf <| af @ck.Ek <| af @ck.Z3 <| af @ck.ZZ @ck.qX
end
section
variable {x:fi} {n:Nat} {u w:V}
theorem fi.dj:x.enc.length=2:=rfl
theorem fi.gH:c8 x.enc=true:=rfl
theorem fi.dL:bS x.enc=true:=rfl
theorem fi.dy:aZ x.enc=x.enc:=rfl
theorem fi.bP:bK n x.enc=true:=rfl
theorem fi.fO:takeN 2 x.enc=U x.enc:=rfl
theorem fi.iF:bX aa 2 x.enc=U (.agg x.enc):=rfl
theorem fi.gT:cB 2 x.enc=true:=rfl
theorem fi.gx:over [u,w] x.enc=x.enc:=rfl
theorem fi.FX:bX aq 1 x.enc=U (.sl .no 10 (x.fs.map ck.enc)):=rfl
theorem fi.Ou:bX aq 1 (x.enc.drop 1)=U (.int .i64 x.tail):=rfl
def fi.ak:=af @fi.dj <| af @fi.gH <| af @fi.dL <| af @fi.dy <| af @fi.bP <| af @fi.fO <| af @fi.iF <| af @fi.gT <| af @fi.gx <| af @fi.FX @fi.Ou
end
section
variable {op lat ta tb v i:Int} {c fa fb d:V} {to tp:bO} {r:fi} {f g:List UInt8} {x:ju} {n:Nat}
def uD:(cP op lat c to fa ta fb tb v f).length=18:=by simp[cP,bO.dj]
def Kc:takeN 18 (cP op lat c to fa ta fb tb v f)=U (cP op lat c to fa ta fb tb v f):=by have:=z_ (c:=cP op lat c to fa ta fb tb v f);rwa [uD] at this
def Zy:cB 18 (cP op lat c to fa ta fb tb v f)=true:=by have:=za (c:=cP op lat c to fa ta fb tb v f);rwa [uD] at this
def ZH{VE Nr XR XV v' : Int}{c' Sa Sd : V}{f' : List UInt8}:over (cP op lat c to fa ta fb tb v f) (cP VE Nr c' tp Sa XR Sd XV v' f')=cP VE Nr c' tp Sa XR Sd XV v' f' := vh (by rw[uD,uD])
def vT(h1:c.one=aa)(h2:fa.one=aa)(h3:fb.one=aa):c8 (cP op lat c to fa ta fb tb v f)=true:=by
 have h:=@bO.gH to;simp only[cP,c8,N2,gJ,h1];rw[VC,h];simp only[c8,N2,VD,h2,h3,JB]
def Ck(h1:c.cM=aa)(h2:fa.cM=aa)(h3:fb.cM=aa):bS (cP op lat c to fa ta fb tb v f)=true:=by
 have h:=@bO.dL to;have app:∀{a b:List V},bS a=aa->bS b=aa->bS (a++b)=true:=by
  intro a;induction a with
  | nil=>intro b _ h;exact h
  | cons x a ih=>intro b h1 h2;simp only[bS,b_,jN] at h1 ⊢;exact⟨h1.1,ih h1.2 h2⟩
 simp only[cP,bS,V.cM,gJ,h1];exact app h (by simp[bS,V.cM,h2,h3])
def Cj:aZ (cP op lat c to fa ta fb tb v f)=cP op lat c.erase to fa.erase ta fb.erase tb v f:=by
 have h:=@bO.dy to;have app:∀{a b:List V},aZ (a++b)=aZ a++aZ b:=by
  intro a;induction a with
  | nil=>intro b;rfl
  | cons x a ih=>intro b;simp only[aZ,jN,ih]
 simp only[cP,aZ,V.erase,app,h]
def yN:(cP op lat c to fa ta fb tb v f).drop 12=[fa,.int .i64 ta,fb,.int .i64 tb,.int .i64 v,.aH f]:=by
 simp only[cP,D9];exact List.drop_left' bO.dj
theorem Zz:bX aq 1 (cP op lat c to fa ta fb tb v f)=U (.int .i64 op):=rfl
theorem ZA:bX aq 1 ((cP op lat c to fa ta fb tb v f).drop 1)=U (.int .i64 lat):=rfl
theorem ZF:bX aq 1 ((cP op lat c to fa ta fb tb v f).drop 2)=U c:=rfl
def ZG:takeN 9 ((cP op lat c to fa ta fb tb v f).drop 3)=U to.enc:=O9 bO.dj
def ZB:takeN 2 ((cP op lat c to fa ta fb tb v f).drop 12)=U [fa,.int .i64 ta]:=by rw[yN];rfl
def ZC:takeN 2 ((cP op lat c to fa ta fb tb v f).drop 14)=U [fb,.int .i64 tb]:=by rw[show 14=12+2 from rfl,<-w_,yN];rfl
def ZD:bX aq 1 ((cP op lat c to fa ta fb tb v f).drop 16)=U (.int .i64 v):=by rw[show 16=12+4 from rfl,<-w_,yN];rfl
def ZE:bX aq 1 ((cP op lat c to fa ta fb tb v f).drop 17)=U (.aH f):=by rw[show 17=12+5 from rfl,<-w_,yN];rfl
theorem Zq:cB 1 (cP op lat c to fa ta fb tb v f)=true:=rfl
theorem Zr:cB 1 ((cP op lat c to fa ta fb tb v f).drop 1)=true:=rfl
theorem Zw:cB 1 ((cP op lat c to fa ta fb tb v f).drop 2)=true:=rfl
def Zx:cB 9 ((cP op lat c to fa ta fb tb v f).drop 3)=true:=by obtain⟨tv,te⟩:=to;induction te using bp.aa1;rfl
def Zs:cB 2 ((cP op lat c to fa ta fb tb v f).drop 12)=true:=by rw[yN];rfl
def Zt:cB 2 ((cP op lat c to fa ta fb tb v f).drop 14)=true:=by rw[show 14=12+2 from rfl,<-w_,yN];rfl
def Zu:cB 1 ((cP op lat c to fa ta fb tb v f).drop 16)=true:=by rw[show 16=12+4 from rfl,<-w_,yN];rfl
def Zv:cB 1 ((cP op lat c to fa ta fb tb v f).drop 17)=true:=by rw[show 17=12+5 from rfl,<-w_,yN];rfl
def ZI:over (cP op lat c to fa ta fb tb v f) [.int .i64 i]=cP i lat c to fa ta fb tb v f:=by rw[cP,qa,mP];rfl
def ZJ:setAt (cP op lat c to fa ta fb tb v f) 1 [.int .i64 i]=cP op i c to fa ta fb tb v f:=by rw[cP,jZ,mr,qa,mP];rfl
def ZQ:setAt (cP op lat c to fa ta fb tb v f) 2 [d]=cP op lat d to fa ta fb tb v f:=by rw[cP,jZ,jZ,mr,qa,mP];rfl
def ZR:setAt (cP op lat c to fa ta fb tb v f) 3 tp.enc=cP op lat c tp fa ta fb tb v f:=by
 rw[cP,jZ,jZ,jZ,mr,VI (by rw[bO.dj,bO.dj];exact b7 _),bO.gx];rfl
def Cl{m:List V}{k:Nat}:setAt (cP op lat c to fa ta fb tb v f) (12+k) m = .int .i64 op::.int .i64 lat::c::(to.enc++setAt [fa,.int .i64 ta,fb,.int .i64 tb,.int .i64 v,.aH f] k m):=by
 rw[show 12+k=(9+k)+1+1+1 by omega,cP,jZ,jZ,jZ];congr 3;have key:∀(a b:List V) (n:Nat),setAt (a++b) (a.length+n) m=a++setAt b n m:=by
  intro a;induction a with
  | nil=>intro b n;rw[cZ,j7];rfl
  | cons x a ih=>intro b n;rw[jN,da,show a.length+1+n=(a.length+n)+1 by omega,jZ,ih];rfl
 have:=key to.enc [fa,.int .i64 ta,fb,.int .i64 tb,.int .i64 v,.aH f] k
 rw[bO.dj] at this;exact this
def ZK:setAt (cP op lat c to fa ta fb tb v f) 12 [d,.int .i64 i]=cP op lat c to d i fb tb v f:=Cl (k:=0)
def ZM:setAt (cP op lat c to fa ta fb tb v f) 14 [d,.int .i64 i]=cP op lat c to fa ta d i v f:=Cl (k:=2)
def ZO:setAt (cP op lat c to fa ta fb tb v f) 16 [.int .i64 i]=cP op lat c to fa ta fb tb i f:=Cl (k:=4)
def ZP:setAt (cP op lat c to fa ta fb tb v f) 17 [.aH g]=cP op lat c to fa ta fb tb v g:=Cl (k:=5)
def ZL:setAt (cP op lat c to fa ta fb tb v f) 12 r.enc=cP op lat c to (.sl .no 10 (r.fs.map ck.enc)) r.tail fb tb v f:=Cl (k:=0)
def ZN:setAt (cP op lat c to fa ta fb tb v f) 14 r.enc=cP op lat c to fa ta (.sl .no 10 (r.fs.map ck.enc)) r.tail v f:=Cl (k:=2)
def ju.dy:aZ x.enc=x.enc:=Cj
def ju.dL:bS x.enc=true:=Ck rfl rfl rfl
def fA:=af @uD <| af @Kc <| af @Zy <| af @ZH <| af @Zz <| af @ZA <| af @ZF <| af @ZG <| af @ZB <| af @ZC <| af @ZD <| af @ZE <| af @Zq <| af @Zr <| af @Zw <| af @Zx <| af @Zs <| af @Zt <| af @Zu <| af @Zv <| af @ZI <| af @ZJ <| af @ZQ <| af @ZR <| af @ZK <| af @ZM <| af @ZO <| af @ZP <| af @ZL @ZN
end
def fj(op:Int)(k:UInt8):Nat:=(dc op).2.count k
def ua(l:List (List UInt8)):Bool:=l.all dO
def aL.zE(c:aL):Bool:=if fj c.op 110=0 then decide (c.name.ar=[]) else dO c.name.ar
def aL.ub(c:aL):Bool :=
 if 0<fj c.op 119 then decide (0<c.al.length)&&ua (c.al.map aF.ar)
 else if 0<fj c.op 102 then decide (c.al.length=1)&&ua (c.al.map aF.ar)
 else decide (c.al.length=0)
def nJ(p:aF × aF):Bool:=dO p.1.ar&&dO p.2.ar
def aL.wL(c:aL):Bool:=if fj c.op 112=0 then decide (c.a8.length=0) else c.a8.all nJ
def aL.rX(c:aL):Bool :=
 if 0<fj c.op 116 then c.left.ff&&c.right.ff
 else if 0<fj c.op 114 then c.left.kH&&c.right.kH
 else c.left.mo .zero&&c.right.mo .zero
def aL.qe(c:aL):Bool:=decide (0<=c.op/\c.op<=15)&&c.zE&&c.ub&&c.wL&&c.rX
def rj(s:aG)(lat:Nat)(n:Nd):bO:=if n.kind=1 then ⟨bY (iw s.vars n.ar),.zero⟩ else ⟨-1,(gz (wS s lat) (n.ae.getD 0 gS)).1⟩
def xx(s:aG)(lat:Nat)(k:Nd):ck:=⟨k.ar,rj s lat (k.ae.getD 0 gS)⟩
def DR(s:aG):List aF->Int
 | []=>-1
 | w::_=>bY (iw s.vars w.ar)
def XT:∀{l:List aF} (h:0<l.length),DR s (l.take (0+1))=bY (iw s.vars l[0].ar)
 | [],h=>by simp at h
 | _::_,_=>rfl
def mn(s:aG)(lat:Nat)(n:Nd):fi:=if n.kind=1 then ⟨[],bY (iw s.vars n.ar)⟩ else ⟨n.ae.map (xx s lat),DR s n.al⟩
def Pn(s:aG)(v:Option Nat):Int:=match v with | some k=>(match s.vars[k]? with | some x=>x.lat | none=>0) | none=>0
def mZ(s:aG)(c:aL):ju :=
 if c.op=8 then ⟨8,cN s c,(lW s (cN s c) c.left).getD [],rj s (cN s c).toNat c.right,.zero,.zero,0,[]⟩
 else if c.op=9 then ⟨9,cN s c,[],.zero,mn s (cN s c).toNat c.left,mn s (cN s c).toNat c.right,0,[]⟩
 else ⟨10,Pn s (iw s.vars c.name.ar),[],.zero,.zero,.zero,bY (iw s.vars c.name.ar),(c.al.getD 0 ⟨[],0⟩).ar⟩
def jD(s:aG)(c:aL):Bool:=decide (8<=c.op)&&decide (c.op<=10)&&c.qe&&decide ((iN s c).cls=0)
structure qu(s:aG)(c:aL):Prop where
 op:8<=c.op/\c.op<=10
 q:c.qe=aa
 none:∀f∈tx s c,f.cls=0
def Uj:jD s c=aa↔qu s c:=by
 simp only[jD,b_,eb];constructor
 .rintro⟨⟨⟨a,b⟩,d⟩,e⟩;exact⟨⟨a,b⟩,d,(alQ e).2⟩
 .rintro⟨⟨a,b⟩,d,e⟩;exact⟨⟨⟨a,b⟩,d⟩,by rw[iN,alS e];rfl⟩
section
variable {s:aG} {c:aL} {lat:Int}
def atn{t:List UInt8}:∀f∈fE s lat t p k,f.cls≠0:=by
 intro f hf;unfold fE at hf;split at hf
 .split at hf<;>(rw[nU.1 hf];simp)
 .split at hf
  .split at hf
   .rw[nU.1 hf];simp
   .simp at hf
  .simp at hf
variable{w:aF}
def alw:∀f∈fc s w,f.cls≠0:=by
 intro f hf;unfold fc at hf;split at hf
 .split at hf<;>(rw[nU.1 hf];simp)
 .simp at hf
def Vn{l:List aM}(h:∀f∈l,f.cls≠0)(k:∀f∈l,f.cls=0):l=[]:=by
 cases l with
 | nil=>rfl
 | cons f l=>exact absurd (k f (by simp)) (h f (by simp))
def ato{t:List UInt8}(h:fE s lat t p k=[]):∃v,∃hv:v<s.vars.length,iw s.vars t=U v/\s.vars[v].kind=k/\(0<=lat->s.vars[v].lat=lat):=by
 unfold fE at h;split at h
 .split at h<;>simp at h
 .rename_i v hv;have an:=KQ hv;rw[bN an] at h;simp only at h;split at h
  .simp at h
  .rename_i hn;refine⟨v,an,hv,?_,λh0=>?_⟩
   .exact Classical.byContradiction λhc=>hn (.inl hc)
   .exact Classical.byContradiction λhc=>hn (.inr ⟨h0,hc⟩)
def alx(h:fc s w=[]):∃k,fu s.bt w.ar=U k/\k<s.bt.length:=by
 unfold fc at h;split at h
 .split at h<;>simp at h
 .rename_i hn;cases hL:fu s.bt w.ar with
  | none=>rw[hL] at hn;simp at hn
  | some k=>exact⟨k,rfl,(y3 hL).1⟩
def qu.aly(h:qu s c)(h9:c.op=8\/c.op=9):∃k,fu s.bt c.name.ar=U k/\k<s.bt.length:=by
 refine alx (Vn alw λf hf=>h.none f ?_);unfold tx;rw[aw (by omega),aw (by omega)]
 by_cases h8:c.op=8
 .rw[aI h8];simp[hf]
 .rw[aw h8,aI (by omega)];simp[hf]
def qu.cN(h:qu s c)(h9:c.op=8\/c.op=9):∃k:Nat,cN s c=k/\k<s.bt.length:=by
 obtain⟨k,e,hk⟩:=h.aly h9;exact⟨k,by rw[Go.Am.cN,e];rfl,hk⟩
def Oz(h:c.qe=aa):c.zE=aa/\c.ub=aa/\c.wL=aa/\c.rX=true:=by
 simp only[aL.qe,b_] at h;exact⟨h.1.1.1.2,h.1.1.2,h.1.2,h.2⟩
def qu.labels(h:qu s c)(h8:c.op=8):c.left.ff=aa/\c.right.ff=true:=by
 have:=(Oz h.q).2.2.2
 rw[aL.rX,h8] at this;simpa [show fj 8 116=2 from by decide] using this
def qu.rows(h:qu s c)(h9:c.op=9):c.left.kH=aa/\c.right.kH=true:=by
 have:=(Oz h.q).2.2.2
 rw[aL.rX,h9] at this;simpa [show fj 9 116=0 from by decide,show fj 9 114=2 from by decide] using this
def qu.one(h:qu s c)(ec:c.op=10):∃w,c.al=[w]/\dO w.ar=true:=by
 have:=(Oz h.q).2.1
 rw[aL.ub,ec] at this;simp only[show fj 10 119=0 from by decide,show fj 10 102=1 from by decide,Nat.lt_irrefl,ch,Nat.zero_lt_one,cH,b_,eb] at this
 match hq:c.al,this.1 with
 | [w],_=>exact⟨w,rfl,by have:=this.2;rw[hq] at this;simpa [ua] using this⟩
def qu.var(h:qu s c)(ec:c.op=10):∃v,∃hv:v<s.vars.length,iw s.vars c.name.ar=U v/\s.vars[v].kind=2:=by
 have:fE s (-1) c.name.ar c.name.pos 2=[]:=Vn atn λf hf=>h.none f (by unfold tx;rw[aI ec];exact hf)
 obtain⟨v,hv,h1,h2,_⟩:=ato this;exact⟨v,hv,h1,h2⟩
def qu.right(h:qu s c)(h8:c.op=8):c.right.kind=1\/c.right.kind=7:=by
 have hl:=(h.labels h8).2;rw[Nd.u4] at hl
 by_cases h1:c.right.kind=1
 .exact .inl h1
 .by_cases h7:c.right.kind=7
  .exact .inr h7
  .rw[aw h1,aw h7] at hl
   by_cases EJ:c.right.kind=8\/c.right.kind=9
   .have:=h.none ⟨6,c.right.pos⟩ (by unfold tx;rw[aw (by omega),aw (by omega),aI h8];simp[tz,EJ])
    simp at this
   .rw[aw EJ] at hl;simp at hl
end
def KW(k:Nd):Prop:=0<k.ae.length/\∀a∈k.ae,a.kind=1\/0<a.ae.length
def IY{n:Nd}(h:n.kH=aa):∀k∈n.ae,KW k:=by
 rcases WO h with ⟨_,_,_,hf⟩ | ⟨h1,h⟩
 .intro k hk;obtain⟨_,_,_,a,ha,hq⟩:=aen (hf k hk);refine⟨by rw[ha];simp,λb hb=>?_⟩;rw[ha] at hb;obtain rfl:=nU.1 hb;have hl:=QP hq;simp only[Nd.sk,b_,mU,eb] at hq
  rcases hq.1 with h | h
  .exact .inl h
  .exact .inr (by rw[Fx hl h];omega)
 .rw[Nd.u4,aI h1] at h;intro k hk;simp only[Nd.rM,b_,eb] at h
  have:n.ae.length=0:=by have:=h.2;omega
  exact absurd (List.length_pos_of_mem hk) (by omega)
def IZ{n:Nd}(h:n.kH=aa):n.al.length<=1:=by
 rcases WO h with ⟨_,_,hn,_⟩ | ⟨h1,h⟩
 .rcases hn with h | ⟨w,h,_⟩<;>rw[h]<;>simp
 .rw[Nd.u4,aI h1] at h;simp only[Nd.rM,b_,eb] at h
  have:n.al.length=0:=by have:=h.2;omega
  omega
def ud(r:Rl)(p:Int × Int):Rl:=if (0<=p.1/\p.1<(bm r:Nat))/\0<=p.2/\p.2<(bm r:Nat) then r.put p.1.toNat (j5 (r.get p.1.toNat) p.2) else r
def nH(n:Int)(l:List (Int × Int)):Rl:=l.foldl ud (Rl.of (min n.toNat 64:Nat) λ_=>0#64)
def Vw{n:Int}{l:List (Int × Int)}(hi:i<l.length):nH n (l.take (i+1))=ud (nH n (l.take i)) l[i]:=by
 rw[nH,nH,jg hi,B_];rfl
def cf(l:List aF):List (List UInt8):=l.map aF.ar
def r8{l:List aF}:(cf l).length=l.length:=by simp[cf]
def BG(l:List (List UInt8))(p:aF × aF):Int × Int:=(bY (dt l p.1.ar),bY (dt l p.2.ar))
def sX(c:aL):Rl:=jQ (nH (c.al.length:Nat) (c.a8.map (BG (cf c.al))))
def IF(l:List bJ):bJ:=⟨aa,l.flatMap bJ.bB⟩
def o6(s:aG)(w:aF):List bJ:=match fu s.bt w.ar with | some k=>(match s.bt[k]? with | some x=>[x.shape] | none=>[]) | none=>[]
def sW(s:aG)(c:aL):bJ:=IF (c.al.flatMap (o6 s))
def aG.x9(s:aG):Prop:=s.ok/\∀l∈s.bt,l.shape.bB.length<=100
def mj(op:Int):Bool:=decide (1<=op)&&decide (op<=5)
def dZ(op:Int):Bool:=decide (op=6)||decide (op=7)
def kZ(s:aG)(t:List UInt8):Bool:=(fu s.bt t).isSome
def fJ(s:aG)(t:List UInt8):Bool:=(fu s.bt t).isSome||(iw s.vars t).isSome
def de(b:Bool)(x y:Int):List aM:=if b then [⟨x,y⟩] else []
def tH(s:aG)(c:aL):List aM :=
 if mj c.op then de (fJ s c.name.ar) 3 c.name.pos
 else de (!fJ s c.name.ar) 3 c.name.pos++de (fJ s c.name.ar&&!kZ s c.name.ar) 4 c.name.pos
def va(s:aG)(c:aL)(i:Nat):List aM :=
 let w:=c.al.getD i ⟨[],0⟩
 if c.op=3 then de (!fJ s w.ar) 3 w.pos++de (fJ s w.ar&&!kZ s w.ar) 4 w.pos
 else de ((dt ((cf c.al).take i) w.ar).isSome||(dZ c.op&&fJ s w.ar)) 3 w.pos
def lI(s:aG)(c:aL)(m:Nat):List aM:=(bG m).flatMap (va s c)
def o_(c:aL)(w:aF):List aM:=de (dt (cf c.al) w.ar).isNone 3 w.pos
def rT(c:aL)(p:aF × aF):List aM:=o_ c p.1++o_ c p.2
def qc(c:aL):List aM:=c.a8.flatMap (rT c)
def lj(c:aL):List aM:=if c.op=5/\c.al.length<=64 then de (!ky (sX c)) 5 c.rQ else []
def qP(s:aG)(c:aL):List aM :=
 if c.op=6\/c.op=7 then de (decide ((64:Int) - (s.vars.length:Nat)<(c.al.length:Nat))) 7 c.pos
 else de (decide ((if c.op=3 then(8:Int) else if c.op=4 then 8 else 64)<((if c.op=3 then(sW s c).bB.length else c.al.length):Nat))||decide (16<=s.bt.length)) 7 c.pos
def DK(s:aG)(c:aL):List aM:=tH s c++lI s c c.al.length++qc c++lj c++qP s c
def lq(s:aG)(c:aL):aM:=if mj c.op||dZ c.op then fS (DK s c) else .zero
section
variable {s:aG} {c:aL}
def pn{b:Bool}{x y:Int}:(de b x y).length<=1:=by unfold de;split<;>simp
def ajV:(tH s c).length<=2:=by
 have h1:=@pn (fJ s c.name.ar) 3 c.name.pos;have h2:=@pn (!fJ s c.name.ar) 3 c.name.pos;have h3:=@pn (fJ s c.name.ar&&!kZ s c.name.ar) 4 c.name.pos;unfold tH;split
 .omega
 .rw[bW];omega
def ank{i:Nat}:(va s c i).length<=2:=by
 unfold va;simp only;split
 .rw[bW];have h2:=@pn (!fJ s (c.al.getD i ⟨[],0⟩).ar) 3 (c.al.getD i ⟨[],0⟩).pos;have h3:=@pn (fJ s (c.al.getD i ⟨[],0⟩).ar&&!kZ s (c.al.getD i ⟨[],0⟩).ar) 4 (c.al.getD i ⟨[],0⟩).pos;omega
 .exact vK pn (by omega)
def Vq{m:Nat}:lI s c (m+1)=lI s c m++va s c m:=by rw[lI,ga,py];simp[lI]
def NU:∀{m:Nat},(lI s c m).length<=2*m
 | 0=>by simp[lI]
 | m + 1 => by
  have h1:=@NU m;have h2:=@ank s c m;rw[Vq,bW];omega
def apz{p:aF × aF}:(rT c p).length<=2:=by
 unfold rT o_;rw[bW];have h1:=@pn (dt (cf c.al) p.1.ar).isNone 3 p.1.pos;have h2:=@pn (dt (cf c.al) p.2.ar).isNone 3 p.2.pos;omega
def IG{l:List (aF × aF)}:(l.flatMap (rT c)).length<=2*l.length:=by
 have:=v7 (f:=rT c) (m:=2) (l:=l) λ_ _=>apz
 omega
def VG:(lj c).length<=1:=by
 unfold lj;split
 .exact pn
 .simp
def al2:(qP s c).length<=1:=by unfold qP;split<;>exact pn
end
structure Rm where
 bytes:Int
 uC:Int
 lA:Int
def Rm.enc(r:Rm):List V:=[.int .i64 r.bytes,.int .i64 r.uC,.int .i64 r.lA]
section
variable {r:Rm} {n:Nat} {a b c:V}
theorem Rm.dj:r.enc.length=3:=rfl
theorem Rm.gH:c8 r.enc=true:=rfl
theorem Rm.dL:bS r.enc=true:=rfl
theorem Rm.dy:aZ r.enc=r.enc:=rfl
theorem Rm.bP:bK n r.enc=true:=rfl
theorem Rm.fO:takeN 3 r.enc=U r.enc:=rfl
theorem Rm.iF:bX aa 3 r.enc=U (.agg r.enc):=rfl
theorem Rm.gT:cB 3 r.enc=true:=rfl
theorem Rm.gx:over [a,b,c] r.enc=r.enc:=rfl
theorem Rm.r_b:bX aq 1 r.enc=U (.int .i64 r.bytes):=rfl
theorem Rm.On:bX aq 1 (r.enc.drop 1)=U (.int .i64 r.uC):=rfl
theorem Rm.FX:bX aq 1 (r.enc.drop 2)=U (.int .i64 r.lA):=rfl
def Rm.ak:=af @Rm.dj <| af @Rm.gH <| af @Rm.dL <| af @Rm.dy <| af @Rm.bP <| af @Rm.fO <| af @Rm.iF <| af @Rm.gT <| af @Rm.gx <| af @Rm.r_b <| af @Rm.On @Rm.FX
end
def uk(op:Int):Bool:=decide (1<=op)&&decide (op<=10)
def xn(op:Int):Bool:=decide (8<=op)&&decide (op<=10)
def k_(r:Rm)(c:aL):Bool :=
 (uk c.op&&(decide (1024<((q_ c).length:Int))||decide (IntKind.i64.wrap (16383 - (q_ c).length)<r.bytes)))||(xn c.op&&decide (64<=r.uC))||(decide (c.op=11)&&decide (16<=r.lA))
def jq(s:aG)(r:Rm)(c:aL):List aM:=[lq s c,iN s c]++de (k_ r c) 7 c.pos++de (decide (c.op=12)&&decide (r.lA<=1)) 8 c.pos
def Su(f:Int × Int):aM:=⟨f.1,f.2⟩
def lG(s:aG)(r:Rm)(t:List UInt8):aL × ju × aM :=
 if (ij t).2.1≠0 then(.zero,.zero,Su (ij t).2)
 else if (fS (jq s r (ij t).1)).cls≠0 then(.zero,.zero,fS (jq s r (ij t).1))
 else((ij t).1,if jD s (ij t).1 then mZ s (ij t).1 else .zero,.zero)
def ku(D:Nat)(l:List aM)(s:aG)(c:aL):List V:=[.sl .no 3 (s.bt.map fy.enc),.sl .no 3 (s.vars.map eX.enc),
 .int .i64 c.op,.int .i64 c.pos,.aH c.name.ar,.int .i64 c.name.pos,.sl .no 2 (c.al.map aF.enc),.sl .no 4 (c.a8.map dR),.int .i64 c.rQ,
 .int .i64 c.left.kind,.int .i64 c.left.pos,.aH c.left.ar,.sl .no 2 (c.left.al.map aF.enc),.sl .no 5 (c.left.ae.map Nd.enc),.int .i64 c.right.kind,.int .i64 c.right.pos,.aH c.right.ar,.sl .no 2 (c.right.al.map aF.enc),.sl .no 5 (c.right.ae.map Nd.enc),
 .sl (.tk D) 2 (l.map aM.enc)]
def e_(Z:ab)(b D:Nat)(l:List aM)(s:aG)(c:aL):ab:=(Z.set b (ku D l s c)).ba D l.length
section
variable {Z σ' : ab} {b b' D O n:Nat} {l:List aM} {s:aG} {c:aL} {x y:Int} {d:List V}
def Nc:(e_ Z b D l s c).box b=U (ku D l s c):=by simp[e_,ab.set,ab.ba]
def xY(h:b' ≠ b):(e_ Z b D l s c).box b' = Z.box b' := by simp[e_,ab.set,ab.ba,h]
def Us:(e_ Z b D l s c).aY D=U l.length:=by simp[e_,ab.set,ab.ba]
def Ur(h:b' ≠ b):(e_ Z b D l s c).set b' d=e_ (Z.set b' d) b D l s c:=by
 simp only[e_,ab.set,ab.ba,ab.mk.injEq,gM];funext z
 by_cases h1:z=b'
 .subst h1;simp[h]
 .simp[h1]
def ak6:((e_ Z b D l s c).ba D (l.length+1)).set b ((ku D l s c).take 19++[.sl (.tk D) 2 (l.map aM.enc++[[.int .i64 x,.int .i64 y]])])=e_ Z b D (l++[⟨x,y⟩]) s c:=by
 simp only[e_,ku,ab.set,ab.ba,ab.mk.injEq,jf,dz,eQ,aM.enc,bW,fx,gM];constructor
 .funext z
  by_cases h1:z=b<;>simp[h1]
 .funext z
  by_cases h1:z=D<;>simp[h1]
def ak7(h:Z.box b=ah)(ht:Z.aY D=ah):Z.sub (e_ Z b D l s c):=by
 refine⟨λx cs hx=>?_,λt m hm=>?_,λ_ _ h=>h⟩
 .have:x≠b:=by rintro rfl;rw[h] at hx;simp at hx
  rw[xY this];exact hx
 .have:t≠D:=by rintro rfl;rw[ht] at hm;simp at hm
  simp[e_,ab.set,ab.ba,this];exact hm
def Uq(h:b' ≠ b)(hn:Z.box b' = ah):(e_ Z b D l s c).sub (e_ (Z.set b' d) b D l s c):=by
 refine⟨λx cs hx=>?_,λt m hm=>?_,λ_ _ h=>h⟩
 .by_cases h1:x=b
  .subst h1;rw[Nc] at hx ⊢;exact hx
  .rw[xY h1] at hx ⊢
   have:x≠b' := by rintro rfl;rw[hn] at hx;simp at hx
   simp only[ab.set,this,ch];exact hx
 .simpa [e_,ab.set,ab.ba] using hm
theorem j_f:bX aq 1 ((ku D l s c).drop 19)=U (.sl (.tk D) 2 (l.map aM.enc)):=rfl
theorem j_s:takeN 2 (ku D l s c)=U s.enc:=rfl
theorem j_c:takeN 17 ((ku D l s c).drop 2)=U c.enc:=rfl
theorem j_l:bX aq 1 (ku D l s c)=U (.sl .no 3 (s.bt.map fy.enc)):=rfl
theorem j_v:bX aq 1 ((ku D l s c).drop 1)=U (.sl .no 3 (s.vars.map eX.enc)):=rfl
theorem j_o:bX aq 1 ((ku D l s c).drop 2)=U (.int .i64 c.op):=rfl
theorem j_p:bX aq 1 ((ku D l s c).drop 3)=U (.int .i64 c.pos):=rfl
theorem j_t:bX aq 1 ((ku D l s c).drop 4)=U (.aH c.name.ar):=rfl
theorem j_a:bX aq 1 ((ku D l s c).drop 5)=U (.int .i64 c.name.pos):=rfl
theorem j_n:bX aq 1 ((ku D l s c).drop 6)=U (.sl .no 2 (c.al.map aF.enc)):=rfl
theorem j_r:bX aq 1 ((ku D l s c).drop 7)=U (.sl .no 4 (c.a8.map dR)):=rfl
theorem j_q:bX aq 1 ((ku D l s c).drop 8)=U (.int .i64 c.rQ):=rfl
theorem j_h:cB 1 ((ku D l s c).drop 19)=true:=rfl
theorem j_w{v:V}:setAt (ku D l s c) 19 [v]=(ku D l s c).take 19++[v]:=rfl
def j0(s:aG):List V:=[.sl .no 3 (s.bt.map fy.enc),.sl .no 3 (s.vars.map eX.enc),.int .i64 0,.int .i64 0,.aH [],.int .i64 0,.sl .a9 2 [],.sl .a9 4 [],.int .i64 0,.int .i64 0,.int .i64 0,.aH [],.sl .a9 2 [],.sl .a9 5 [],.int .i64 0,.int .i64 0,.aH [],.sl .a9 2 [],.sl .a9 5 [],.sl .a9 2 []]
def jz(s:aG)(c:aL):List V:=(ku 0 [] s c).take 19++[.sl .a9 2 []]
theorem akT:over [.sl .a9 3 [],.sl .a9 3 [],.int .i64 0,.int .i64 0,.aH [],.int .i64 0,.sl .a9 2 [],.sl .a9 4 [],.int .i64 0,.int .i64 0,.int .i64 0,.aH [],.sl .a9 2 [],.sl .a9 5 [],.int .i64 0,.int .i64 0,.aH [],.sl .a9 2 [],.sl .a9 5 [],.sl .a9 2 []] s.enc=j0 s:=rfl
theorem akS:cB 17 ((j0 s).drop 2)=true:=rfl
def akU:setAt (j0 s) 2 c.enc=jz s c:=by rw[aL.enc,aL.cz];rfl
theorem ald:(jz s c).length=20:=rfl
theorem alf:c8 (jz s c)=true:=rfl
theorem ale:bS (jz s c)=true:=rfl
theorem alg:takeN 20 (jz s c)=U (jz s c):=rfl
def Ut:=af @akT <| af @akS <| af @akU <| af @ald <| af @alf <| af @ale @alg
def jE:=af @Nc <| af @Us <| af @j_f <| af @j_s <| af @j_c <| af @j_l <| af @j_v <| af @j_o <| af @j_p <| af @j_t <| af @j_a <| af @j_n <| af @j_r <| af @j_q <| af @j_h @j_w
end
def UU{r:Rm}(h:k_ r c=aa):c.op≠12:=λe=>by
 simp[k_,uk,xn,e] at h
def Nx{s:aG}{r:Rm}{t:List UInt8}(h:(ij t).2.1≠0):lG s r t=(.zero,.zero,Su (ij t).2):=by rw[lG,aI h]
def Ny{s:aG}{r:Rm}{t:List UInt8}(h:(ij t).2.1=0)(h' : (fS (jq s r (ij t).1)).cls≠0):lG s r t=(.zero,.zero,fS (jq s r (ij t).1)):=by rw[lG,aw (by simpa using h),aI h']
def Nz{s:aG}{r:Rm}{t:List UInt8}(h:(ij t).2.1=0)(h' : (fS (jq s r (ij t).1)).cls=0):lG s r t=((ij t).1,if jD s (ij t).1 then mZ s (ij t).1 else .zero,.zero):=by
 rw[lG,aw (by simpa using h),aw (by simpa using h')]
structure CB(B:Nat)(c:aL):Prop where
 ns:eK c.al<=B
 ps:c.a8.length<=B
 l:c.left.wt<=B
 r:c.right.wt<=B
 nm:c.name.ar.length<=B
 pt:jY c.a8<=34*B
variable{seg:List aA}
def RO(h:mD r r' seg):j4 seg<=j4 r.l:=by
 obtain⟨pre,post,e,_,_⟩:=h.ex;rw[e,yl,yl];omega
def Pz(hg:f_ r.l)(hb:r.aQ=ah):r.word.1.ar.length<=16:=by
 cases h:(r.take 97).2.aQ with
 | none=>exact Pf ((s9 h).1.mH hg).1
 | some b =>
  have:(r.take 97).1 = .zero:=by
   unfold ag.take at h ⊢;split
   .rename_i hs;rw[aI hs] at h;simp[hb] at h
   .rfl
  simp[ag.word,this,aA.zero,aA.tok]
def Yf(hg:f_ r.l):r.word.1.ar.length<=16:=by
 cases hb:r.aQ with
 | none=>exact Pz hg hb
 | some a =>
  have:r.cD 97=false:=by simp[ag.cD,ag.ok,hb]
  simp[ag.word,ag.take,this,aA.zero,aA.tok]
def Wc{l:List (aF × aF)}{p:aF × aF}:jY (l++[p])=jY l+(p.1.ar.length+p.2.ar.length+2):=by simp[jY]
def VQ:∀(n:Nat) (i:ag) (acc:List (aF × aF)),f_ i.l->jY (ag.kA n i acc).2<=jY acc+34*n
 | 0,_,_,_=>by simp[ag.kA]
 | n + 1, i, acc, hg => by
  have e1:(i.word.2.take 60).2.l=i.l:=by rw[ag.gk];exact ag.gk i 97
  have e2:((i.word.2.take 60).2.word).2.l=i.l:=by rw[<-e1];exact ag.gk _ 97
  have w1:=Yf hg;have w2:((i.word.2.take 60).2.word).1.ar.length<=16:=Yf (by rw[e1];exact hg);simp only[ag.kA];split
  .simp only;omega
  .split
   .simp only[Wc];omega
   .have:=VQ n (((i.word.2.take 60).2.word).2.take 44).2 (acc++[(i.word.1,((i.word.2.take 60).2.word).1)]) (by rw[ag.gk,e2];exact hg)
    simp only[Wc] at this;omega
def asT(hg:f_ r.l):f_ (r.take k).1.ae:=by
 cases h:(r.take k).2.aQ with
 | none=>exact((AQ _).1 ((s9 h).1.mH hg).1).2.2
 | some b =>
  have:(r.take k).1.ae=[]:=by
   rcases r.vu k with ⟨_,_,hb,_⟩ | ⟨hs,_⟩
   .rw[h] at hb;simp at hb
   .simp[ag.take,hs,aA.zero,aA.ae]
  rw[this];trivial
def VP:∀(n:Nat) (i:ag) (acc:List (aF × aF)),(ag.kA n i acc).2.length<=acc.length+n
 | 0,_,_=>by simp[ag.kA]
 | n + 1, i, acc => by
  simp only[ag.kA];split
  .simp only;omega
  .split
   .simp
   .have:=VP n (((i.word.2.take 60).2.word).2.take 44).2 (acc++[(i.word.1,((i.word.2.take 60).2.word).1)])
    simp only[bW,da,cZ] at this;omega
def Vs(h:CB B c){g:Nd × Int × Option Int}(hg:g.1.wt<=B):CB B (o9 r c g).2:=by
 unfold o9;cases g.2.2 with
 | some a=>exact h
 | none =>
  simp only;split
  .exact⟨h.ns,h.ps,hg,h.r,h.nm,h.pt⟩
  .exact⟨h.ns,h.ps,h.l,hg,h.nm,h.pt⟩
def Wy{one:ag->Nd × ag}(hs:Sound one Nd.dS Q SN)(hg:f_ l)(a fin:Int):(iR one l a fin).1.wt<=j4 l+4:=by
 unfold iR;cases hb:(one ⟨l,a,fin,ah⟩).2.aQ with
 | some b=>simp only[Jz];omega
 | none =>
  obtain⟨seg,e1,_,_,e4⟩:=hs ⟨l,a,fin,ah⟩ hg hb
  have:=RO e1
  simp only[SN] at e4 this ⊢;omega
def apa{k:UInt8}(hg:f_ x.1.l)(hB:j4 x.1.l+20<=B)(h:CB B x.2):CB B (iC k x).2:=by
 obtain⟨r,c⟩:=x;simp only at hg hB h;unfold iC;simp only;split
 .exact h
 rename_i hb;have hb:r.aQ=none:=by simpa using hb
 split
 .exact⟨h.ns,h.ps,h.l,h.r,by have:=Pz hg hb;simp only;omega,h.pt⟩
 split
 .refine⟨?_,h.ps,h.l,h.r,h.nm,h.pt⟩
  have:=Pz hg hb
  simp[eK];omega
 split
 .refine⟨?_,h.ps,h.l,h.r,h.nm,h.pt⟩;show eK (pw r.l r.at_ r.fin).1<=B;unfold pw;cases hw:((⟨r.l,r.at_,r.fin,ah⟩:ag).words aq).2.aQ with
  | some b=>simp[eK]
  | none =>
   obtain⟨t,e1,_,_,_,e5⟩:=PB (r:=⟨r.l,r.at_,r.fin,ah⟩) hg hw
   have:=RO e1
   simp only at this ⊢;omega
 split
 .unfold ug;simp only;split
  .exact⟨h.ns,h.ps,h.l,h.r,h.nm,h.pt⟩
  .have g1:=VQ ((r.take 123).1.ae.length+1) (r.take 123).1.inner [] (asT hg);have g2:=gj (r.take 123).1.ae;have g3:=(r.wU 123).1;refine⟨h.ns,?_,h.l,h.r,h.nm,by simp only[j4,jY,eQ,uv] at hB g1 ⊢;omega⟩;have h1:=VP ((r.take 123).1.ae.length+1) (r.take 123).1.inner [];have h2:=gj (r.take 123).1.ae;have h3:=(r.wU 123).1;simp only[j4,cZ] at hB h1 ⊢;omega
 split
 .exact Vs h (by have:=Wy (Nn (bE r.l)) hg r.at_ r.fin;omega)
 split
 .exact Vs h (by have:=Wy (arh (bE r.l)) hg r.at_ r.fin;omega)
 .exact h
def V0{B:Nat}{l:List aA}{fin:Int}(hg:f_ l)(hB:j4 l+20<=B):∀(ks:List UInt8) (x:ag × aL),kj l fin x->CB B x.2->CB B (lJ ks x).2
 | [],_,_,h=>h
 | k::ks,x,hi,h=>V0 hg hB ks _ (VT hi k) (apa (by rw[hi.hl];exact hg) (by rw[hi.hl];exact hB) h)
def D2(h:4<=B):CB B aL.zero:=⟨by simp[aL.zero,eK],by simp[aL.zero],by simp only[aL.zero,Jz];omega,by simp only[aL.zero,Jz];omega,by simp[aL.zero],by simp[aL.zero,jY]⟩
def adu(h4:4<=B)(h:CB B x.2):CB B (AF x).1:=by
 unfold AF;split
 .exact D2 h4
 .exact h
def abA{fin:Int}(hg:f_ l)(hB:j4 l+20<=B):CB B (Ct l fin).1:=by
 unfold Ct;split
 .exact D2 (by omega)
 .rename_i t ts;simp only;split
  .exact D2 (by omega)
  .refine adu (by omega) (V0 hg hB _ _ (fin:=fin) ?_ ?_)
   .exact kj.goes (x:=(⟨t::ts,0,fin,ah⟩,aL.zero)) ⟨rfl,rfl,by simp,by simp only;omega,λ_=>by simp only;omega⟩ rfl (y6 _) (Ga _ 97)
   .have h:=D2 (B:=B) (by omega);exact⟨h.ns,h.ps,h.l,h.r,h.nm,h.pt⟩
def Wz(s:List UInt8):CB (26*s.length+20) (ij s).1:=by
 unfold ij;rw[Pe];split
 .exact D2 (by omega)
 .split
  .exact D2 (by omega)
  .refine abA (al7 s) ?_
   have:=NA s
   simp only[j4];omega
def apH{r:Rl}(h:bm r=min n 64):bm (r.ui n)=bm r:=by rw[h];simp[bm,Rl.ui]
def abw{r:Rl}(h:bm r=min n 64):jQ (r.ui n)=jQ r:=by
 have e:=apH h;have e1:sn (r.ui n)=sn r:=by
  unfold sn;simp only[gU,e];rfl
 rw[jQ,jQ,e,e1]
def nY(c:aL)(i:Nat):Rl:=(nH (c.al.length:Nat) ((c.a8.map (BG (cf c.al))).take i)).ui (c.al.length:Nat)
def asG{r:Rl}{p:Int × Int}:(ud r p).n=r.n:=by unfold ud;split<;>rfl
def NY{l:List (Int × Int)}:bm (nH n l)=min n 64:=by
 have:∀(l:List (Int × Int)) (r:Rl),(l.foldl ud r).n=r.n:=λl=>by
  induction l with
  | nil=>intro r;rfl
  | cons p l ih=>intro r;rw[yF,ih,asG]
 rw[bm,nH,this];simp[Rl.of]
def ajc:jQ (nY c c.a8.length)=sX c:=by
 rw[nY,abw NY,An (by simp)];rfl
def SP(hi:i<c.a8.length):nY c (i+1)=(ud (nH (c.al.length:Nat) ((c.a8.map (BG (cf c.al))).take i)) (BG (cf c.al) c.a8[i])).ui (c.al.length:Nat):=by
 rw[nY,Vw (by simpa using hi)];simp
def ajd{c:aL}{i a b:Nat}(hi:i<c.a8.length)(h1:dt (cf c.al) c.a8[i].1.ar=U a)(h2:dt (cf c.al) c.a8[i].2.ar=U b)(ha:a<64)(hb:b<64)(hl:a<c.al.length)(hm:b<c.al.length) :
 nY c (i+1)=(nY c i).put a ((nY c i).get a|||kl b):=by
 have e:∀r:Rl,bm r=min c.al.length 64->ud r (bY (U a),bY (U b))=r.put a (r.get a|||kl b):=λr hr=>by
  have hc:(0<=bY (U a)/\bY (U a)<(bm r:Nat))/\0<=bY (U b)/\bY (U b)<(bm r:Nat):=by simp only[bY];omega
  rw[ud,aI hc,j5,aI (by simp only[bY];omega)];rfl
 rw[SP hi,BG,h1,h2,e _ NY];rfl
def aje(hi:i<c.a8.length)(h:∀a b,dt (cf c.al) c.a8[i].1.ar=U a->dt (cf c.al) c.a8[i].2.ar=U b->¬(a<64/\b<64)):nY c (i+1)=nY c i:=by
 rw[SP hi,BG,ud,NY,aw]
 .rfl
 .rintro⟨⟨h1,h2⟩,h3,h4⟩;cases ha:dt (cf c.al) c.a8[i].1.ar with
  | none=>rw[ha] at h1;simp[bY] at h1
  | some a =>
   cases hb:dt (cf c.al) c.a8[i].2.ar with
   | none=>rw[hb] at h3;simp[bY] at h3
   | some b =>
    rw[ha] at h2;rw[hb] at h4;simp only[bY] at h2 h4;exact h a b ha hb ⟨by omega,by omega⟩
def uj(s:aG)(c:aL):bJ :=
 if c.op=1 then ⟨aq,[⟨1,cf c.al,.zero⟩]⟩
 else if c.op=2 then ⟨aq,[⟨2,cf c.al,.zero⟩]⟩
 else if c.op=4 then ⟨aq,[⟨3,cf c.al,sX c⟩]⟩
 else if c.op=5 then ⟨aq,[⟨4,cf c.al,sX c⟩]⟩
 else if c.op=3 then sW s c
 else ⟨aq,[]⟩
def yf(s:aG)(c:aL)(i:Nat):List aM :=
 let w:=c.al.getD i ⟨[],0⟩
 if c.op=3 then(if fJ s w.ar=aq then [⟨3,w.pos⟩] else if kZ s w.ar=aq then [⟨4,w.pos⟩] else [])
 else if decide (bY (dt (cf c.al) w.ar)<(i:Nat))||(dZ c.op&&fJ s w.ar) then [⟨3,w.pos⟩] else []
def qg(s:aG)(c:aL)(m:Nat):List aM:=(bG m).flatMap (yf s c)
def pg(s:aG)(c:aL):List aM :=
 if dZ c.op≠fJ s c.name.ar then [⟨3,c.name.pos⟩] else if dZ c.op=aa/\kZ s c.name.ar=aq then [⟨4,c.name.pos⟩] else []
def qf(s:aG)(c:aL):Bool :=
 (!dZ c.op&&(decide ((if c.op=3 then(8:Int) else if c.op=4 then 8 else 64)<((if c.op=3 then(sW s c).bB.length else c.al.length:Nat):Int))||decide ((16:Int)<=(s.bt.length:Nat)))) ||
 (dZ c.op&&decide ((64:Int)<(s.vars.length:Int)+(c.al.length:Nat)))
def F1(s:aG)(c:aL):List aM:=qg s c c.al.length++qc c++pg s c++lj c++de (qf s c) 7 c.pos
section
variable {s:aG} {c:aL}
def aq3(hi:i<c.al.length):yf s c i=va s c i:=by
 have hg:c.al.getD i ⟨[],0⟩=c.al[i]:=by simp[gy,hi]
 rw[yf,va];simp only[hg];split
 .cases fJ s c.al[i].ar<;>cases kZ s c.al[i].ar<;>rfl
 .have e:decide (bY (dt (cf c.al) c.al[i].ar)<(i:Nat))=(dt ((cf c.al).take i) c.al[i].ar).isSome:=by
   have:=Sj (l:=cf c.al) (i:=i) (by rw[r8];exact hi)
   rw[show(cf c.al).getD i []=c.al[i].ar by simp[cf,gy,hi]] at this;exact this.symm
  rw[e,de]
def aq5:qg s c c.al.length=lI s c c.al.length:=by
 rw[qg,lI]
 have:∀l:List Nat,(∀i∈l,i<c.al.length)->l.flatMap (yf s c)=l.flatMap (va s c):=λl=>by
  induction l with
  | nil=>intro _;rfl
  | cons i l ih=>intro h;rw[xa,xa,aq3 (h i (by simp)),ih λj hj=>h j (by simp[hj])]
 exact this _ λi hi=>by simpa using hi
def aqV(h:(mj c.op||dZ c.op)=aa):pg s c=tH s c:=by
 rw[pg,tH];have h2:mj c.op = !dZ c.op:=by
  simp only[mj,dZ,mU,b_,eb] at h ⊢
  rcases h with h | h
  .rw[aB h.1,aB h.2,az (by omega),az (by omega)];rfl
  .rcases h with h | h<;>rw[h]<;>rfl
 rw[h2];cases dZ c.op<;>cases fJ s c.name.ar<;>cases kZ s c.name.ar<;>rfl
def aq0(h:(mj c.op||dZ c.op)=aa):de (qf s c) 7 c.pos=qP s c:=by
 rw[qP,qf]
 by_cases hv:c.op=6\/c.op=7
 .have e:dZ c.op=true:=by rcases hv with h | h<;>rw[h]<;>rfl
  rw[aI hv,e];congr 1;simp only[Bool.not_true,yB,gJ,ur];exact rn.2 (by omega)
 .have e:dZ c.op=false:=by simp only[dZ,w9,uH];omega
  rw[aw hv,e];congr 1;simp only[Bool.not_false,gJ,yB,JD];congr 1;exact rn.2 (by omega)
def arv(h:(mj c.op||dZ c.op)=aa):fS (F1 s c)=lq s c:=by
 rw[lq,aI h,F1,DK,aq5,aqV h,aq0 h];refine UQ λf _=>?_
 simp only[jv];constructor<;>rintro ((((h | h) | h) | h) | h)<;>simp only[h,true_or,or_true]
def aq4{i:Nat}:(yf s c i).length<=1:=by
 unfold yf;simp only
 repeat' split
 all_goals simp
def WH{m:Nat}:qg s c (m+1)=qg s c m++yf s c m:=by rw[qg,ga,py];simp[qg]
def IW:∀{m:Nat},(qg s c m).length<=m
 | 0=>by simp[qg]
 | m + 1 => by
  have h1:=@IW m;have h2:=@aq4 s c m;rw[WH,bW];omega
def ph(c:aL)(j k:Nat):List aM:=(c.a8.take j).flatMap (rT c)++match c.a8[j]? with | some p=>([p.1,p.2].take k).flatMap (o_ c) | none=>[]
def aro{j k:Nat}:(ph c j k).length<=2*c.a8.length+2:=by
 have h1:=@IG c (c.a8.take j);rw[iu] at h1;have h2:∀w,(o_ c w).length<=1:=λw=>pn
 rw[ph,bW];cases c.a8[j]? with
 | none=>simp only[cZ];omega
 | some p =>
  have:(([p.1,p.2].take k).flatMap (o_ c)).length<=2:=by
   match k with
   | 0=>simp
   | 1=>have:=h2 p.1;simp;omega
   | k+2=>have:=h2 p.1;have:=h2 p.2;simp;omega
  simp only;omega
def OG{j:Nat}:ph c j 0=(c.a8.take j).flatMap (rT c):=by
 rw[ph];cases c.a8[j]?<;>simp
def arq{j:Nat}(h:j<c.a8.length):ph c j 1=ph c j 0++o_ c c.a8[j].1:=by simp[ph,h]
def ars{j:Nat}(h:j<c.a8.length):ph c j 2=ph c j 1++o_ c c.a8[j].2:=by simp[ph,h]
def arp{j:Nat}(h:j<c.a8.length):ph c (j+1) 0=ph c j 2:=by
 rw[OG,jg h,py];simp[ph,h,rT]
end
structure YO(G:Prop):Prop where
 o:G
def jn{G P:Prop}(f:YO G->P)(g:G):P:=f ⟨g⟩
structure Aq(n:Nd):Prop where
 k:n.ae.length<=8000
 kk:∀k∈n.ae,k.ae.length<=8000
 ns:n.al.length<=40000
 c:n.cJ<=100000
def Yy:∀l:List Nd,5*l.length<=fq l
 | []=>by simp[fq]
 | .mk _ _ _ _ _::ns=>by have:=Yy ns;simp only[fq,Nd.wt,da];omega
def IX{n:Nd}(h:n.wt<=39990):Aq n:=by
 have key:∀m:Nd,m.wt<=39990->m.ae.length<=8000/\m.al.length<=40000/\fq m.ae<=m.wt:=λm hm=>by
  obtain⟨k,p,t,ws,ks⟩:=m;have h1:=Yy ks;have h2:ws.length<=eK ws:=by
   rw[eK];induction ws with
   | nil=>simp
   | cons w ws ih=>simp only[dz,rh,da];have:=ih (by simp only[Nd.wt,eK,dz,rh] at hm ⊢;omega);omega
  simp only[Nd.wt,Nd.ae,Nd.al] at hm ⊢;omega
 obtain⟨h1,h2,h3⟩:=key n h;exact⟨h1,λk hk=>(key k (by have:=D0 hk;omega)).1,h2,by have:=Cw n;omega⟩
def mQ(l:List aA)(a fin k:Int):(⟨l,a,fin,ah⟩:ag).cD k=bf l a k:=by simp[ag.cD,ag.ok]
theorem DN(l:List aA)(a fin:Int)(b:Option Int):(⟨l,a,fin,b⟩:ag).spot=jI l a fin:=rfl
variable{a:Int}
def my{fin:Int}(h:bf l a k=aa):(⟨l,a,fin,ah⟩:ag).take k=(bU l a,⟨l,a+1,fin,ah⟩):=by
 obtain⟨j,t,rfl,hj,_,hl⟩:=iB h;simp[ag.take,mQ,h,bU,hj,gy]
def mR{fin:Int}(h:bf l a k=aq):(⟨l,a,fin,ah⟩:ag).take k=(.zero,⟨l,a,fin,U (jI l a fin)⟩):=by
 simp[ag.take,mQ,h,ag.fail,DN]
def wX(h:bf l a k=aa):(bU l a).tok=fD l a:=by
 obtain⟨j,t,rfl,hj,_,_⟩:=iB h;simp[bU,fD,hj]
def SS{step:ag × List β->ag × List β}{a:ag × List β}(h:a.1.aQ≠ah):∀n,ko step n a=a
 | 0=>rfl
 | n + 1 => by
  have:a.1.cD 44=false:=by
   simp only[ag.cD,ag.ok];cases hb:a.1.aQ with
   | none=>exact absurd hb h
   | some _=>simp
  simp[ko,this]
def SU{step:ag × List β->ag × List β}{a:ag × List β}(h:a.1.cD 44=aq):∀n,ko step n a=a
 | 0=>rfl
 | n+1=>by simp[ko,h]
def Vg{fin:Int}(h:bf l a 97=aa):nameAt l a fin=⟨.mk 0 (fD l a).pos (fD l a).ar [] [],a+1,aq,0⟩:=by simp[nameAt,h]
def Vf{fin:Int}(h:bf l a 97=aq):nameAt l a fin=dG l a fin:=by simp[nameAt,h]
def O4(l:List aA)(fin:Int):∀(m n:Nat) (a:Nat) (out:List Nd) (ws:List aF),ws=jK out->l.length+1<=m+a->l.length<=n+a->a<=l.length ->
 (dE (λi=>nameAt l i fin) l m a out).2.aQ=aa/\(ko gI n (gI (⟨l,a,fin,ah⟩,ws))).1.aQ=U (dE (λi=>nameAt l i fin) l m a out).2.pos \/
 (dE (λi=>nameAt l i fin) l m a out).2.aQ=aq/\ko gI n (gI (⟨l,a,fin,ah⟩,ws))=(⟨l,(dE (λi=>nameAt l i fin) l m a out).2.next,fin,ah⟩,jK (dE (λi=>nameAt l i fin) l m a out).1)
 | 0,n,a,out,ws,Fh,hm,hn,ha=>by omega
 | m + 1, n, a, out, ws, Fh, hm, hn, ha => by
  cases hk:bf l a 97
  .left;have e:gI (⟨l,a,fin,ah⟩,ws)=(⟨l,a,fin,U (jI l a fin)⟩,ws++[⟨[],0⟩]):=by simp[gI,ag.word,mR hk,aA.zero,aA.tok]
   rw[e,SS (by simp)];simp[dE,Vf hk,dG]
  .obtain⟨j,t,hj,_,_,hl⟩:=iB hk;have e:gI (⟨l,a,fin,ah⟩,ws)=(⟨l,(a:Int)+1,fin,ah⟩,ws++[⟨(fD l a).ar,(fD l a).pos⟩]):=by simp[gI,ag.word,my hk,wX hk]
   rw[e];simp only[dE,Vg hk,dm,ch];cases l6:bf l ((a:Int)+1) 44
   .right;rw[SU (by simp[mQ,l6])];simp[Fh,jK,Nd.ar,Nd.pos]
   .obtain⟨j2,t2,A4,_,_,gf⟩:=iB l6;obtain⟨n,rfl⟩:∃k,n=k+1:=⟨n - 1,by omega⟩;simp only[ko,mQ,l6,cH,my l6];have ih:=O4 l fin m n (a+2) (out++[.mk 0 (fD l a).pos (fD l a).ar [] []]) (ws++[⟨(fD l a).ar,(fD l a).pos⟩]) (by simp[Fh,jK,Nd.ar,Nd.pos]) (by omega) (by omega) (by omega);rw[show(a:Int)+1+1=((a+2:Nat):Int) by omega];exact ih
def aum(l:List aA)(a fin:Int) :
 (lK l a fin).2.aQ=aa/\pw l a fin=([],U (lK l a fin).2.pos)\/(lK l a fin).2.aQ=aq/\pw l a fin=((lK l a fin).1,ah):=by
 cases h:bf l a 123
 .left;have e:(⟨l,a,fin,ah⟩:ag).words aq=(([],0),⟨l,a,fin,U (jI l a fin)⟩):=by
   simp[ag.words,ag.bracket,mR h,ag.ok]
  simp[lK,h,dG,pw,e]
 .have ht:∃t,bU l a=t:=⟨_,rfl⟩;obtain⟨t,ht⟩:=ht;have hw:(⟨l,a,fin,ah⟩:ag).words aq=(((eZ gI t.inner).2,t.tok.pos),(⟨l,a+1,fin,ah⟩:ag).under (eZ gI t.inner).1):=by
   simp[ag.words,ag.bracket,my h,ag.ok,ag.inside,ht]
  have hs:=O4 t.ae t.fin (t.ae.length+1) t.ae.length 0 [] [] rfl (by omega) (by omega) (by omega);have hg:eZ gI t.inner=ko gI t.ae.length (gI (⟨t.ae,((0:Nat):Int),t.fin,ah⟩,[])):=rfl;rw[<-hg] at hs;have hr:lK l a fin=(jK (wholeAt nameAt t aq).1,(wholeAt nameAt t aq).2):=by simp[lK,h,ht]
  have j9:wholeAt nameAt t aq=if (dE (λi=>nameAt t.ae i t.fin) t.ae (t.ae.length+1) ((0:Nat):Int) []).2.aQ=aq/\(dE (λi=>nameAt t.ae i t.fin) t.ae (t.ae.length+1) ((0:Nat):Int) []).2.next<t.ae.length then([],dG t.ae (dE (λi=>nameAt t.ae i t.fin) t.ae (t.ae.length+1) ((0:Nat):Int) []).2.next t.fin)
   else dE (λi=>nameAt t.ae i t.fin) t.ae (t.ae.length+1) ((0:Nat):Int) []:=by simp[wholeAt]
  generalize dE (λi=>nameAt t.ae i t.fin) t.ae (t.ae.length+1) ((0:Nat):Int) []=S at hs j9;generalize eZ gI t.inner=G at hs hw
  rcases hs with ⟨h1,h2⟩ | ⟨h1,h2⟩
  .left;rw[h1] at j9;simp only[qq,Ex,ch] at j9;refine⟨by rw[hr,j9];exact h1,?_⟩;rw[hr,j9];have hc:G.1.close=G.1:=by simp[ag.close,ag.ok,h2]
   simp[pw,hw,ag.under,hc,h2]
  .rw[h1] at j9;simp only[mA] at j9;rw[h2] at hw
   by_cases hn:S.2.next<t.ae.length
   .left;rw[aI hn] at j9;refine⟨by rw[hr,j9];rfl,?_⟩;rw[hr,j9];simp[pw,hw,ag.under,ag.close,ag.ok,hn,ag.fail,DN,dG]
   .right;rw[aw hn] at j9;refine⟨by rw[hr,j9];exact h1,?_⟩;rw[hr,j9];simp[pw,hw,ag.under,ag.close,hn]
def Alike(one:ag->Nd × ag)(g:List aA->Int->Int->bD):Prop:=∀(l:List aA) (a fin:Int),
 (g l a fin).aQ=aa/\(one ⟨l,a,fin,ah⟩).2.aQ=U (g l a fin).pos\/(g l a fin).aQ=aq/\one ⟨l,a,fin,ah⟩=((g l a fin).node,⟨l,(g l a fin).next,fin,ah⟩)
def O1{one:ag->Nd × ag}{g:List aA->Int->Int->bD}(H:Alike one g)(y9:ti g)(l:List aA)(fin:Int):∀(m n:Nat) (a:Nat) (out:List Nd),l.length+1<=m+a->l.length<=n+a->a<=l.length ->
 (dE (λi=>g l i fin) l m a out).2.aQ=aa/\(ko (cV one) n (cV one (⟨l,a,fin,ah⟩,out))).1.aQ=U (dE (λi=>g l i fin) l m a out).2.pos \/
 (dE (λi=>g l i fin) l m a out).2.aQ=aq/\ko (cV one) n (cV one (⟨l,a,fin,ah⟩,out))=(⟨l,(dE (λi=>g l i fin) l m a out).2.next,fin,ah⟩,(dE (λi=>g l i fin) l m a out).1)
 | 0,n,a,out,hm,hn,ha=>by omega
 | m + 1, n, a, out, hm, hn, ha => by
  rcases H l a fin with ⟨h1,h2⟩ | ⟨h1,h2⟩
  .left;have e:(cV one (⟨l,a,fin,ah⟩,out)).1.aQ=U (g l a fin).pos:=h2;rw[SS (by rw[e];simp)];simp only[dE,h1,cH];exact⟨trivial,e⟩
  .have hA:=y9 l a fin h1;have e:cV one (⟨l,a,fin,ah⟩,out)=(⟨l,(g l a fin).next,fin,ah⟩,out++[(g l a fin).node]):=by simp[cV,h2]
   rw[e];simp only[dE,h1,dm,ch];cases l6:bf l (g l a fin).next 44
   .right;rw[SU (by simp[mQ,l6])];simp[h1]
   .obtain⟨b,hb⟩:=vB (show 0<=(g l a fin).next by omega);obtain⟨j2,t2,A4,_,_,gf⟩:=iB l6;obtain⟨n,rfl⟩:∃k,n=k+1:=⟨n - 1,by omega⟩;simp only[ko,mQ,l6,cH,my l6];have ih:=O1 H y9 l fin m n (b+1) (out++[(g l a fin).node]) (by omega) (by omega) (by omega);rw[show(g l a fin).next+1=((b+1:Nat):Int) by omega];exact ih
variable{g:List aA->Int->Int->bD}
def aud(t:aA)(empty:Bool)(h:¬(empty=aa/\t.ae.length=0)):wholeAt g t empty=if (dE (λi=>g t.ae i t.fin) t.ae (t.ae.length+1) ((0:Nat):Int) []).2.aQ=aq/\(dE (λi=>g t.ae i t.fin) t.ae (t.ae.length+1) ((0:Nat):Int) []).2.next<t.ae.length then([],dG t.ae (dE (λi=>g t.ae i t.fin) t.ae (t.ae.length+1) ((0:Nat):Int) []).2.next t.fin)
 else dE (λi=>g t.ae i t.fin) t.ae (t.ae.length+1) ((0:Nat):Int) []:=by
 unfold wholeAt;rw[aw h];simp
def Q1{step:ag × List β->ag × List β}{conv:List Nd->List β}(hc:conv []=[]){fin:Int}{kind:Int}(hk:bf l a kind=aa)(empty:Bool)
 (hs:∀t:aA,(dE (λi=>g t.ae i t.fin) t.ae (t.ae.length+1) ((0:Nat):Int) []).2.aQ=aa/\(eZ step t.inner).1.aQ=U (dE (λi=>g t.ae i t.fin) t.ae (t.ae.length+1) ((0:Nat):Int) []).2.pos \/
   (dE (λi=>g t.ae i t.fin) t.ae (t.ae.length+1) ((0:Nat):Int) []).2.aQ=aq/\eZ step t.inner=(⟨t.ae,(dE (λi=>g t.ae i t.fin) t.ae (t.ae.length+1) ((0:Nat):Int) []).2.next,t.fin,ah⟩,conv (dE (λi=>g t.ae i t.fin) t.ae (t.ae.length+1) ((0:Nat):Int) []).1)) :
 (wholeAt g (bU l a) empty).2.aQ=aa/\((⟨l,a,fin,ah⟩:ag).bracket step kind empty).2.aQ=U (wholeAt g (bU l a) empty).2.pos \/
 (wholeAt g (bU l a) empty).2.aQ=aq/\(⟨l,a,fin,ah⟩:ag).bracket step kind empty=((conv (wholeAt g (bU l a) empty).1,(fD l a).pos),⟨l,a+1,fin,ah⟩):=by
 have gv:(bU l a).tok=fD l a:=wX hk;have hb:(⟨l,a,fin,ah⟩:ag).bracket step kind empty=(((ag.inside step empty (bU l a)).2,(fD l a).pos),(⟨l,a+1,fin,ah⟩:ag).under (ag.inside step empty (bU l a)).1):=by
  simp[ag.bracket,my hk,ag.ok,gv]
 rw[hb];have hs:=hs (bU l a);generalize bU l a=t at hs ⊢
 by_cases he:empty=aa/\t.ae.length=0
 .right;have e1:ag.inside step empty t=(t.inner,[]):=by unfold ag.inside;rw[aI he]
  have e2:wholeAt g t empty=([],⟨.zero,0,aq,0⟩):=by unfold wholeAt;rw[aI he]
  rw[e1,e2];refine⟨rfl,?_⟩;simp[ag.under,ag.close,aA.inner,he.2,hc]
 .have e1:ag.inside step empty t=eZ step t.inner:=by unfold ag.inside;rw[aw he]
  rw[e1];have j9:=aud (g:=g) t empty he;generalize dE (λi=>g t.ae i t.fin) t.ae (t.ae.length+1) ((0:Nat):Int) []=S at hs j9;generalize eZ step t.inner=G at hs ⊢
  rcases hs with ⟨h1,h2⟩ | ⟨h1,h2⟩
  .left;rw[h1] at j9;simp only[qq,Ex,ch] at j9;rw[j9];have hc:G.1.close=G.1:=by simp[ag.close,ag.ok,h2]
   exact⟨h1,by simp[ag.under,hc,h2]⟩
  .rw[h1] at j9;simp only[mA] at j9;rw[h2]
   by_cases hn:S.2.next<t.ae.length
   .left;rw[aI hn] at j9;rw[j9];exact⟨rfl,by simp[ag.under,ag.close,ag.ok,hn,ag.fail,DN,dG]⟩
   .right;rw[aw hn] at j9;rw[j9];exact⟨h1,by simp[ag.under,ag.close,hn]⟩
def NV{one:ag->Nd × ag}(H:Alike one g)(y9:ti g){fin kind:Int}(hk:bf l a kind=aa)(empty:Bool):
 (wholeAt g (bU l a) empty).2.aQ=aa/\((⟨l,a,fin,ah⟩:ag).nodes one kind empty).2.aQ=U (wholeAt g (bU l a) empty).2.pos \/
 (wholeAt g (bU l a) empty).2.aQ=aq/\(⟨l,a,fin,ah⟩:ag).nodes one kind empty=(((wholeAt g (bU l a) empty).1,(fD l a).pos),⟨l,a+1,fin,ah⟩) :=
 Q1 (conv:=id) rfl hk empty λt=>O1 H y9 t.ae t.fin (t.ae.length+1) t.ae.length 0 [] (by omega) (by omega) (by omega)
def Yh{fin:Int}(hk:bf l a 123=aa)(empty:Bool):
 (wholeAt nameAt (bU l a) empty).2.aQ=aa/\((⟨l,a,fin,ah⟩:ag).words empty).2.aQ=U (wholeAt nameAt (bU l a) empty).2.pos \/
 (wholeAt nameAt (bU l a) empty).2.aQ=aq/\(⟨l,a,fin,ah⟩:ag).words empty=((jK (wholeAt nameAt (bU l a) empty).1,(fD l a).pos),⟨l,a+1,fin,ah⟩) :=
 Q1 (conv:=jK) rfl hk empty λt=>O4 t.ae t.fin (t.ae.length+1) t.ae.length 0 [] [] rfl (by omega) (by omega) (by omega)
def Dm(k:Int):Alike (ag.leaf k) (qO k):=λl a fin=>by
 unfold qO;cases h:bf l a 97
 .left;simp[ag.leaf,ag.word,mR h,dG]
 .right;simp[ag.leaf,ag.word,my h,wX h]
def arB:Alike ag.sZ qk:=λl a fin=>by
 unfold qk ag.sZ;cases h:bf l a 97
 .left;have hb:∀r:ag,r.aQ≠ah->((r.take 58).2.words aa).2.aQ=r.aQ:=λr hr=>by
   obtain⟨x,hx⟩:∃x,r.aQ=U x:=by cases hq:r.aQ with | none=>exact absurd hq hr | some x=>exact⟨x,rfl⟩
   have e:r.take 58=(.zero,r):=by simp[ag.take,ag.cD,ag.ok,hx,ag.fail]
   have e2:r.take 123=(.zero,r):=by simp[ag.take,ag.cD,ag.ok,hx,ag.fail]
   simp[e,ag.words,ag.bracket,e2,ag.ok,hx]
  simp only[ag.word,mR h,cH];exact⟨rfl,hb _ (by simp)⟩
 simp only[ag.word,my h,qq,ch];cases h2:bf l (a+1) 58
 .left;simp only[mR h2,cH];refine⟨rfl,?_⟩;simp[ag.words,ag.bracket,ag.take,ag.cD,ag.ok,ag.fail,dG]
 simp only[my h2,qq,ch];have e2:a+1+1=a+2:=by omega
 rw[e2];cases h3:bf l (a+2) 123
 .left;simp only[cH];refine⟨rfl,?_⟩;simp[ag.words,ag.bracket,mR h3,ag.ok,dG]
 simp only[qq,ch]
 rcases Yh (fin:=fin) h3 aa with ⟨p1,p2⟩ | ⟨p1,p2⟩
 .left;rw[aI p1];exact⟨p1,p2⟩
 .right;rw[p1];simp only[dm,ch];refine⟨trivial,?_⟩;rw[p2];simp[wX h];omega
def sP{k':Int}(h:bf l a k=aa)(bh:k≠k'):bf l a k' = false:=by
 cases hq:bf l a k' with
 | false=>rfl
 | true =>
  obtain⟨j,t,rfl,hj,hk,_⟩:=iB h;obtain⟨j',t',e,gF,iX,_⟩:=iB hq;obtain rfl:j' = j:=by omega
  rw[hj] at gF;simp only[bg] at gF;subst gF;exact absurd (hk.symm.trans iX) bh
def Rx:∀n,Alike (ag.constant n) (g_ n)
 | 0=>Dm 2
 | n + 1 => λl a fin => by
  simp only[g_,ag.constant,mQ];cases di:bf l a 97
  case true =>
   simp only[sP di (show(97:Int)≠123 by decide),sP di (show(97:Int)≠40 by decide),sP di (show(97:Int)≠91 by decide),dm,ch,cH];exact Dm 2 l a fin
  simp only[dm,ch];cases AR:bf l a 123
  case true =>
   simp only[cH]
   rcases Yh (fin:=fin) AR aa with ⟨p1,p2⟩ | ⟨p1,p2⟩
   .left;unfold iA;rw[aI p1];exact⟨p1,p2⟩
   .right;unfold iA;rw[p1,p2];exact⟨rfl,rfl⟩
  simp only[dm,ch];cases sC:bf l a 40
  case true =>
   simp only[cH]
   rcases NV (Rx n) (J6 n) (fin:=fin) sC aq with ⟨p1,p2⟩ | ⟨p1,p2⟩
   .left;unfold iA;rw[aI p1];exact⟨p1,p2⟩
   .right;unfold iA;rw[p1,p2];exact⟨rfl,rfl⟩
  simp only[dm,ch];cases tE:bf l a 91
  case true =>
   simp only[cH]
   rcases NV arB QB (fin:=fin) tE aa with ⟨p1,p2⟩ | ⟨p1,p2⟩
   .left;unfold iA;rw[aI p1];exact⟨p1,p2⟩
   .right;unfold iA;rw[p1,p2];exact⟨rfl,rfl⟩
  simp only[dm,ch];left;simp[ag.leaf,ag.word,mR di,dG]
def aan{step:ag × List β->ag × List β}{fin kind:Int}(h:bf l a kind=aq):(⟨l,a,fin,ah⟩:ag).bracket step kind e=(([],0),⟨l,a,fin,U (jI l a fin)⟩):=by
 simp[ag.bracket,mR h,ag.ok]
def abI{fin:Int}(f:Nd->Nd):
 ((g_ n l a fin).put f).aQ=aa/\(ag.constant n ⟨l,a,fin,ah⟩).2.aQ=U ((g_ n l a fin).put f).pos\/((g_ n l a fin).put f).aQ=aq/\(f (ag.constant n ⟨l,a,fin,ah⟩).1,(ag.constant n ⟨l,a,fin,ah⟩).2)=(((g_ n l a fin).put f).node,⟨l,((g_ n l a fin).put f).next,fin,ah⟩):=by
 unfold bD.put
 rcases Rx n l a fin with ⟨p1,p2⟩ | ⟨p1,p2⟩
 .left;rw[aI p1];exact⟨p1,p2⟩
 .right;rw[p1,p2];exact⟨rfl,rfl⟩
def GU(n:Nat)(l:List aA)(a fin:Int):bD:=if bf l a 35=aa then(g_ n l (a+1) fin).put λm=>.mk 7 (fD l a).pos [] [] [m] else qO 1 l a fin
def QN(n:Nat):Alike (ag.atom n) (GU n):=λl a fin=>by
 unfold GU;simp only[ag.atom,mQ];cases nr:bf l a 35
 .simp only[dm,ch];exact Dm 1 l a fin
 .simp only[cH,my nr,wX nr]
  rcases abI (n:=n) (l:=l) (a:=a+1) (fin:=fin) (λm=>.mk 7 (fD l a).pos [] [] [m]) with ⟨p1,p2⟩ | ⟨p1,p2⟩
  .exact .inl ⟨p1,p2⟩
  .exact .inr ⟨p1,p2⟩
def Nl:∀n,Alike (ag.label n) (fM n)
 | 0=>Dm 1
 | n + 1 => λl a fin => by
  have sign:∀(k:Int),bf l a k=aa->∀kd,(kd=8\/kd=9) ->
   let x:Nd × ag:=(.mk kd ((⟨l,a,fin,ah⟩:ag).take k).1.tok.pos [] [] (((⟨l,a,fin,ah⟩:ag).take k).2.nodes (ag.label n) 40 aq).1.1,(((⟨l,a,fin,ah⟩:ag).take k).2.nodes (ag.label n) 40 aq).2)
   let g:=if bf l (a+1) 40=aq then dG l (a+1) fin else iA (wholeAt (fM n) (bU l (a+1)) aq) (λks=>.mk kd (fD l a).pos [] [] ks) (a+2)
   g.aQ=aa/\x.2.aQ=U g.pos\/g.aQ=aq/\x=(g.node,⟨l,g.next,fin,ah⟩):=λk hk kd _=>by
   simp only[my hk,wX hk];cases sC:bf l (a+1) 40
   .left;simp only[cH];unfold ag.nodes;rw[aan sC];exact⟨rfl,rfl⟩
   .simp only[qq,ch];have e2:a+1+1=a+2:=by omega
    rcases NV (Nl n) (Eh n) (fin:=fin) sC aq with ⟨p1,p2⟩ | ⟨p1,p2⟩
    .left;unfold iA;rw[aI p1];exact⟨p1,p2⟩
    .right;unfold iA;rw[p1,p2,e2];exact⟨rfl,rfl⟩
  simp only[fM,ag.label,mQ];cases di:bf l a 97
  case true =>
   simp only[sP di (show(97:Int)≠43 by decide),sP di (show(97:Int)≠38 by decide),dm,ch,cH]
   have:=QN (n+1) l a fin
   unfold GU at this;rw[sP di (show(97:Int)≠35 by decide)] at this;exact this
  simp only[dm,ch];cases nr:bf l a 35
  case true =>
   simp only[sP nr (show(35:Int)≠43 by decide),sP nr (show(35:Int)≠38 by decide),dm,ch,cH]
   have:=QN (n+1) l a fin
   unfold GU at this;rw[aI nr] at this;exact this
  simp only[dm,ch];cases pM:bf l a 43
  case true =>
   simp only[qq,Ex,ch,cH,sP pM (show(43:Int)≠38 by decide),dm];exact sign 43 pM 8 (.inl rfl)
  simp only[dm,ch,mA];cases nZ:bf l a 38
  case true =>
   simp only[qq,ch,cH];exact sign 38 nZ 9 (.inr rfl)
  simp only[dm,ch,cH];left;refine⟨rfl,?_⟩;simp[ag.atom,mQ,nr,ag.leaf,ag.word,mR di,dG]
def ZW(n:Nat)(l:List aA)(a fin:Int):(ng n l a fin).aQ=aa/\(ag.atom n ⟨l,a,fin,ah⟩).2.aQ=U (ng n l a fin).pos\/(ng n l a fin).aQ=aq/\ag.atom n ⟨l,a,fin,ah⟩=((ng n l a fin).node,⟨l,(ng n l a fin).next,fin,ah⟩)\/n=0/\bf l a 35=true:=by
 cases n with
 | zero =>
  cases nr:bf l a 35
  .unfold ng fM
   by_cases h:bf l a 43=aa\/bf l a 38=aa
   .left;rw[aI h];have di:bf l a 97=false:=by rcases h with h | h<;>exact sP h (by decide)
    exact⟨rfl,by simp[ag.atom,mQ,nr,ag.leaf,ag.word,mR di,dG]⟩
   .rw[aw h]
    have:=Dm 1 l a fin
    simp only[ag.atom,mQ,nr,dm,ch]
    rcases this with h | h
    .exact .inl h
    .exact .inr (.inl h)
  .exact .inr (.inr ⟨rfl,rfl⟩)
 | succ n =>
  unfold ng
  by_cases h:bf l a 43=aa\/bf l a 38=aa
  .left;rw[aI h];have di:bf l a 97=false:=by rcases h with h | h<;>exact sP h (by decide)
   have nr:bf l a 35=false:=by rcases h with h | h<;>exact sP h (by decide)
   exact⟨rfl,by simp[ag.atom,mQ,nr,ag.leaf,ag.word,mR di,dG]⟩
  .rw[aw h];have pM:bf l a 43=false:=by cases hq:bf l a 43 with | false=>rfl | true=>exact absurd (.inl hq) h
   have nZ:bf l a 38=false:=by cases hq:bf l a 38 with | false=>rfl | true=>exact absurd (.inr hq) h
   have:=Nl (n+1) l a fin
   simp only[ag.label,mQ,pM,nZ,dm,ch] at this
   rcases this with h | h
   .exact .inl h
   .exact .inr (.inl h)
def aeh(n:Nat):Alike (ag.field (n+1)) (pI (n+1)):=λl a fin=>by
 have dp:∀(b:Int),∀r:ag,r.aQ=U b->∀m,(ag.atom m r).2.aQ=U b:=λb r hr m=>by
  have e:∀k,r.cD k=false:=λk=>by simp[ag.cD,ag.ok,hr]
  have e2:r.take 97=(.zero,r):=by simp[ag.take,e,ag.fail,hr]
  simp[ag.atom,e,ag.leaf,ag.word,e2,hr]
 unfold pI ag.field;cases h:bf l a 97
 .left;simp only[ag.word,mR h,cH];refine⟨rfl,dp _ _ ?_ _⟩;simp[ag.take,ag.cD,ag.ok,ag.fail,dG]
 simp only[ag.word,my h,qq,ch];cases h2:bf l (a+1) 61
 .left;simp only[mR h2,cH];exact⟨rfl,dp _ _ rfl _⟩
 simp only[my h2,qq,ch];have e2:a+1+1=a+2:=by omega
 rw[e2];unfold bD.put
 rcases ZW (n+1) l (a+2) fin with ⟨p1,p2⟩ | ⟨p1,p2⟩ | ⟨h0,_⟩
 .left;rw[aI p1];exact⟨p1,p2⟩
 .right;rw[p1,p2,wX h];exact⟨rfl,rfl⟩
 .omega
def WM{fin:Int}{nx:Int}{X:(ag × List Nd) × List aF}(r1:ag)(hr:r1=⟨(bU l a).ae,nx,(bU l a).fin,ah⟩)
 (hX:X=if r1.cD 124=aa then(((r1.take 124).2.word.2,ks),[(r1.take 124).2.word.1]) else((r1,ks),[])) :
 (jr l a ks nx).aQ=aa/\((⟨l,a+1,fin,ah⟩:ag).under X.1.1).aQ=U (jr l a ks nx).pos \/
 (jr l a ks nx).aQ=aq/\((Nd.mk 10 (fD l a).pos [] X.2 X.1.2,(⟨l,a+1,fin,ah⟩:ag).under X.1.1):Nd × ag)=((jr l a ks nx).node,⟨l,(jr l a ks nx).next,fin,ah⟩):=by
 subst hr;unfold jr;simp only[mQ] at hX;cases nq:bf (bU l a).ae nx 124
 .rw[nq] at hX;simp only[dm,ch] at hX ⊢;subst hX;unfold kc
  by_cases hn:nx<(bU l a).ae.length
  .left;rw[aI hn];exact⟨rfl,by simp[ag.under,ag.close,ag.ok,hn,ag.fail,DN,dG]⟩
  .right;rw[aw hn];exact⟨rfl,by simp[ag.under,ag.close,hn]⟩
 .rw[nq] at hX;simp only[cH,my nq] at hX ⊢;cases di:bf (bU l a).ae (nx+1) 97
  .left;have e:nameAt (bU l a).ae (nx+1) (bU l a).fin=dG (bU l a).ae (nx+1) (bU l a).fin:=Vf di;rw[e];simp only[dG,cH];subst hX;exact⟨trivial,by simp[ag.word,mR di,ag.under,ag.close,ag.ok]⟩
  .rw[Vg di];simp only[dm,ch];have hw:(⟨(bU l a).ae,nx+1,(bU l a).fin,ah⟩:ag).word=(⟨(fD (bU l a).ae (nx+1)).ar,(fD (bU l a).ae (nx+1)).pos⟩,⟨(bU l a).ae,nx+1+1,(bU l a).fin,ah⟩):=by
    simp[ag.word,my di,wX di]
   rw[hw] at hX;subst hX;unfold kc
   by_cases hn:nx+1+1<(bU l a).ae.length
   .left;rw[aI hn];exact⟨rfl,by simp[ag.under,ag.close,ag.ok,hn,ag.fail,DN,dG]⟩
   .right;rw[aw hn];exact⟨rfl,by simp[ag.under,ag.close,hn,jK,Nd.ar,Nd.pos]⟩
def ard(n:Nat):Alike (ag.row (n+1)) (iG (n+1)):=λl a fin=>by
 unfold iG;simp only[ag.row,mQ];cases di:bf l a 97
 case true =>
  simp only[sP di (show(97:Int)≠91 by decide),dm,ch,cH]
  have:=Dm 1 l a fin
  simp only[fM,di,cH];exact this
 simp only[dm,ch];cases tE:bf l a 91
 case false =>
  left;simp only[dm,ch,cH];exact⟨rfl,by simp[ag.leaf,ag.word,mR di,dG]⟩
 simp only[qq,ch,cH,my tE,wX tE];have eP:(bU l a).inner=⟨(bU l a).ae,0,(bU l a).fin,ah⟩:=rfl
 by_cases gg:0<(bU l a).ae.length/\bf (bU l a).ae 0 124=aq
 .rw[aI gg];have hX:ag.rowOf (n+1) (bU l a)=if (eZ (cV (ag.field (n+1))) (bU l a).inner).1.cD 124=aa then((((eZ (cV (ag.field (n+1))) (bU l a).inner).1.take 124).2.word.2,(eZ (cV (ag.field (n+1))) (bU l a).inner).2),[((eZ (cV (ag.field (n+1))) (bU l a).inner).1.take 124).2.word.1]) else(eZ (cV (ag.field (n+1))) (bU l a).inner,[]):=by
   unfold ag.rowOf ag.qi;rw[aw (by omega)]
   have:(bU l a).inner.cD 124=false:=by rw[eP,mQ];exact gg.2
   simp[this]
  have hs:(qj (n+1) l a).2.aQ=aa/\(eZ (cV (ag.field (n+1))) (bU l a).inner).1.aQ=U (qj (n+1) l a).2.pos\/(qj (n+1) l a).2.aQ=aq/\eZ (cV (ag.field (n+1))) (bU l a).inner=(⟨(bU l a).ae,(qj (n+1) l a).2.next,(bU l a).fin,ah⟩,(qj (n+1) l a).1) :=
   O1 (aeh n) (QA (n+1)) (bU l a).ae (bU l a).fin ((bU l a).ae.length+1) (bU l a).ae.length 0 [] (by omega) (by omega) (by omega)
  generalize eZ (cV (ag.field (n+1))) (bU l a).inner=G at hX hs;generalize qj (n+1) l a=S at hs ⊢
  rcases hs with ⟨p1,p2⟩ | ⟨p1,p2⟩
  .left;rw[aI p1];have C6:G.1.cD 124=false:=by simp[ag.cD,ag.ok,p2]
   rw[hX,C6];simp only[dm,ch];have hc:G.1.close=G.1:=by simp[ag.close,ag.ok,p2]
   exact⟨p1,by simp[ag.under,hc,p2]⟩
  .rw[p1];simp only[dm,ch];rw[p2] at hX;exact WM _ rfl hX
 .rw[aw gg];refine WM (ks:=[]) (nx:=0) (bU l a).inner eP ?_;unfold ag.rowOf ag.qi
  by_cases hk:(bU l a).ae.length=0
  .rw[aI hk]
   have:(bU l a).inner.cD 124=false:=by rw[eP,mQ];simp[vG.1 hk,bf]
   rw[this];simp
  .rw[aw hk];have h0:bf (bU l a).ae 0 124=true:=by
    cases hq:bf (bU l a).ae 0 124 with
    | true=>rfl
    | false=>exact absurd ⟨by omega,hq⟩ gg
   have:(bU l a).inner.cD 124=true:=by rw[eP,mQ];exact h0
   simp only[this,cH]
def Wx{one:ag->Nd × ag}(H:Alike one g)(l:List aA)(a fin:Int):
 (g l a fin).aQ=aa/\iR one l a fin=(.zero,0,U (g l a fin).pos)\/(g l a fin).aQ=aq/\iR one l a fin=((g l a fin).node,(g l a fin).next,ah):=by
 unfold iR
 rcases H l a fin with ⟨p1,p2⟩ | ⟨p1,p2⟩
 .left;rw[p2];exact⟨p1,rfl⟩
 .right;rw[p2];exact⟨p1,rfl⟩
def Gj{fin:Int}(h:bf l a 97=aa):(⟨l,a,fin,ah⟩:ag).word=(pr l a,⟨l,a+1,fin,ah⟩):=by
 simp[ag.word,my h,wX h,pr]
def Gh{fin:Int}(h:bf l a 97=aq):(⟨l,a,fin,ah⟩:ag).word=(⟨[],0⟩,⟨l,a,fin,U (jI l a fin)⟩):=by
 simp[ag.word,mR h,aA.zero,aA.tok]
def I'{fin b:Int}:(⟨l,a,fin,U b⟩:ag).take k=(.zero,⟨l,a,fin,U b⟩):=by
 simp[ag.take,ag.cD,ag.ok,ag.fail]
def Ye{fin b:Int}:(⟨l,a,fin,U b⟩:ag).word=(⟨[],0⟩,⟨l,a,fin,U b⟩):=by
 simp[ag.word,I',aA.zero,aA.tok]
def DB{i:ag}{b:Int}(h:i.aQ=U b):∀n acc,(ag.kA n i acc).1.aQ=U b
 | 0,_=>h
 | n+1,_=>by simp[ag.kA,h]
section
variable {N:Int} (h0:0<=N)
include h0
theorem VR{l:List aA}{fin:Int}(hl:nR N l)(hf:In N fin):∀(n a:Nat) (acc:List (aF × aF)),l.length<n+a->a<=l.length ->
 (uf l fin n a acc).2 = -1/\(ag.kA n ⟨l,a,fin,ah⟩ acc).1.aQ=ah/\(ag.kA n ⟨l,a,fin,ah⟩ acc).2=(uf l fin n a acc).1 \/
 In N (uf l fin n a acc).2/\(ag.kA n ⟨l,a,fin,ah⟩ acc).1.aQ=U (uf l fin n a acc).2
 | 0,a,acc,hn,ha=>by omega
 | n + 1, a, acc, hn, ha => by
  simp only[ag.kA,uf,rN,BE,ch];cases h1:bf l (a:Nat) 97
  .right;simp only[cH,Gh h1,I',Ye];refine⟨DO h0 hl hf,?_⟩;split
   .rfl
   .exact DB rfl _ _
  simp only[Gj h1,qq,ch];cases h2:bf l ((a+1:Nat):Int) 60
  .right;have xA : bf l ((a:Int)+1) 60=false:=h2;simp only[cH,mR xA,Ye,I'];refine⟨DO h0 hl hf,?_⟩;split
   .rfl
   .exact DB rfl _ _
  have xA : bf l ((a:Int)+1) 60=true:=h2;simp only[my xA,qq,ch];rw[show(a:Int)+1+1=((a+2:Nat):Int) by omega];cases h3:bf l ((a+2:Nat):Int) 97
  .right;simp only[cH,Gh h3,I'];refine⟨DO h0 hl hf,?_⟩;split
   .rfl
   .exact DB rfl _ _
  have gf:=(o5 h3).2;simp only[Gj h3,qq,ch];rw[show((a+2:Nat):Int)+1=((a+3:Nat):Int) by omega]
  by_cases dD:a+3=l.length
  .left;rw[aI dD,aI (show((a+3:Nat):Int)=(l.length:Int) by omega)];exact⟨rfl,rfl,rfl⟩
  rw[aw dD,aw (show ¬((a+3:Nat):Int)=(l.length:Int) by omega)];cases h4:bf l ((a+3:Nat):Int) 44
  .right;simp only[cH,mR h4];exact⟨DO h0 hl hf,DB rfl _ _⟩
  simp only[my h4,qq,ch];rw[show((a+3:Nat):Int)+1=((a+4:Nat):Int) by omega];exact VR hl hf n (a+4) _ (by omega) (by omega)
def PA(l:List aA)(fin:Int)(P:ag × aL)(R:aL × Int × Int):Prop :=
 0<=R.2.2/\P.1.aQ=U R.2.2\/R.2.2<0/\P=(⟨l,R.2.1,fin,ah⟩,R.1)
def Nu(ks:List UInt8):Prop:=∀k∈ks,k=110\/k=102\/k=119\/k=112\/k=116\/k=114
theorem ao_{fin:Int}(hl:nR N l)(hf:In N fin)(hm:0<bE l){k:UInt8}(c:aL)(a:Nat)(hk:k=110\/k=102\/k=119\/k=112\/k=116\/k=114)(hp:k=112->c.a8=[]):
 PA l fin (iC k (⟨l,a,fin,ah⟩,c)) (jX k c l a fin):=by
 have hs:∀b,In N (jI l b fin):=λb=>DO h0 hl hf
 rcases hk with rfl | rfl | rfl | rfl | rfl | rfl
 .simp only[iC,jX];cases h:bf l (a:Nat) 97
  .left;simp[Gh h];exact(hs _).1
  .right;simp[Gj h]
 .simp only[iC,jX];cases h:bf l (a:Nat) 97
  .left;simp[Gh h];exact(hs _).1
  .right;simp[Gj h]
 .have hi:=aul h0 (a:=(a:Nat)) hl hf
  rcases aum l (a:Nat) fin with ⟨p1,p2⟩ | ⟨p1,p2⟩
  .left;simp[iC,jX,p1,p2];exact hi.1
  .right;simp[iC,jX,p1,p2]
 .have hp:=hp rfl;cases h:bf l (a:Nat) 123
  .left;simp[iC,jX,ug,mR h,h];exact(hs _).1
  .obtain⟨hk,l9⟩:=Pd h0 (a:=(a:Nat)) hl;have ha:=VR h0 hk l9 ((bU l (a:Nat)).ae.length+1) 0 [] (by omega) (by omega);have eP:(bU l (a:Nat)).inner=⟨(bU l (a:Nat)).ae,((0:Nat):Int),(bU l (a:Nat)).fin,ah⟩:=rfl
   by_cases hz:(bU l (a:Nat)).ae.length=0
   .right;simp only[iC,jX,ug,my h,h,wM];simp[hz,hp]
   .simp only[iC,jX,ug,my h,h,wM,eP];generalize ag.kA ((bU l (a:Nat)).ae.length+1) ⟨(bU l (a:Nat)).ae,((0:Nat):Int),(bU l (a:Nat)).fin,ah⟩ []=G at ha ⊢;generalize uf (bU l (a:Nat)).ae (bU l (a:Nat)).fin ((bU l (a:Nat)).ae.length+1) 0 []=F at ha ⊢
    rcases ha with ⟨p1,p2,p3⟩ | ⟨p1,p2⟩
    .right;simp[hz,p1,p2,p3,ag.yO]
    .left
     have:=p1.1
     simp[hz,p2,ag.yO];exact this
 .have hi:=Ic h0 (bE l) l (a:Nat) fin hl hf;obtain⟨m,hm⟩:∃m,bE l=m+1:=⟨bE l - 1,by omega⟩;rw[hm] at hi;have e1:jX 116 c l (a:Nat) fin=if (fM (bE l) l (a:Nat) fin).aQ=aa then(c,(a:Int),(fM (bE l) l (a:Nat) fin).pos) else(if c.left.kind=0 then {c with left:=(fM (bE l) l (a:Nat) fin).node} else {c with right:=(fM (bE l) l (a:Nat) fin).node},(fM (bE l) l (a:Nat) fin).next,-1):=rfl
  have e2:iC 116 (⟨l,a,fin,ah⟩,c)=o9 ⟨l,a,fin,ah⟩ c (iR (ag.label (bE l)) l (a:Nat) fin):=rfl;rw[e1,e2,hm];have ha:=Wx (Nl (m+1)) l (a:Nat) fin;generalize iR (ag.label (m+1)) l (a:Nat) fin=T at ha ⊢;generalize fM (m+1) l (a:Nat) fin=g at ha hi ⊢
  rcases ha with ⟨p1,p2⟩ | ⟨p1,p2⟩
  .left;rw[aI p1,p2];exact⟨hi.1,rfl⟩
  .right;rw[aw (by simp[p1]),p2];exact⟨show(-1:Int)<0 by decide,rfl⟩
 .have hi:=are h0 (bE l) l (a:Nat) fin hl hf;obtain⟨m,hm⟩:∃m,bE l=m+1:=⟨bE l - 1,by omega⟩;rw[hm] at hi;have e1:jX 114 c l (a:Nat) fin=if (iG (bE l) l (a:Nat) fin).aQ=aa then(c,(a:Int),(iG (bE l) l (a:Nat) fin).pos) else(if c.left.kind=0 then {c with left:=(iG (bE l) l (a:Nat) fin).node} else {c with right:=(iG (bE l) l (a:Nat) fin).node},(iG (bE l) l (a:Nat) fin).next,-1):=rfl
  have e2:iC 114 (⟨l,a,fin,ah⟩,c)=o9 ⟨l,a,fin,ah⟩ c (iR (ag.row (bE l)) l (a:Nat) fin):=rfl;rw[e1,e2,hm];have ha:=Wx (ard m) l (a:Nat) fin;generalize iR (ag.row (m+1)) l (a:Nat) fin=T at ha ⊢;generalize iG (m+1) l (a:Nat) fin=g at ha hi ⊢
  rcases ha with ⟨p1,p2⟩ | ⟨p1,p2⟩
  .left;rw[aI p1,p2];exact⟨hi.1,rfl⟩
  .right;rw[aw (by simp[p1]),p2];exact⟨show(-1:Int)<0 by decide,rfl⟩
theorem VX{b:Int}:∀(ks:List UInt8) (x:ag × aL),x.1.aQ=U b->(lJ ks x).1.aQ=U b
 | [],_,h=>h
 | k :: ks, x, h => by
  simp only[lJ];exact VX ks _ (by simp[iC,h])
theorem ao9{k:UInt8}{fin:Int}(hk:k≠112):(jX k c l a fin).1.a8=c.a8:=by
 unfold jX;split
 .split
  .split<;>rfl
  .rfl
 split
 .split<;>rfl
 generalize (if k=114 then iG (bE l) l a fin else fM (bE l) l a fin)=g;simp only[];cases g.aQ
 .simp only[dm,ch];split<;>rfl
 .rfl
theorem Oc{l:List aA}{fin:Int}(hl:nR N l)(hf:In N fin)(hm:0<bE l):∀(ks:List UInt8) (c:aL) (a:Nat),Nu ks->ks.count 112<=1->(112∈ks->c.a8=[]) ->
 PA l fin (lJ ks (⟨l,a,fin,ah⟩,c)) (qW l fin ks c a)
 | [],c,a,_,_,_=>.inr ⟨by simp[qW],rfl⟩
 | k :: ks, c, a, hk, hc, hp => by
  have h1:=ao_ h0 hl hf hm c a (hk k (by simp)) (λh=>hp (by simp[h]));obtain⟨a',y7,_⟩:=VV k c l a fin;have HT:=ao9 h0 (k:=k) (c:=c) (l:=l) (a:=(a:Nat)) (fin:=fin);simp only[lJ,qW];generalize jX k c l (a:Nat) fin=R at h1 y7 HT ⊢
  rcases h1 with ⟨p1,p2⟩ | ⟨p1,p2⟩
  .rw[aI p1];exact .inl ⟨p1,VX h0 ks _ p2⟩
  .rw[aw (by omega),p2,y7]
   by_cases e:k=112
   .have hn:ks.count 112=0:=by rw[e] at hc;rw[List.count_cons_self] at hc;omega
    exact Oc hl hf hm ks _ a' (λk h=>hk k (by simp[h])) (by omega) (λh=>absurd h (List.count_eq_zero.1 hn))
   .refine Oc hl hf hm ks _ a' (λk h=>hk k (by simp[h])) ?_ (λh=>?_)
    .rw[List.count_cons_of_ne e] at hc;exact hc
    .rw[HT e];exact hp (by simp[h])
end
def Vt{w:List UInt8}:∀n op,(∀k:Nat,op<=k->k<op+n->0<k->(dc k).1≠w)->vd w n op=0
 | 0,_,_=>rfl
 | n + 1, op, h => by
  simp only[vd];rw[aw (λ⟨x,y⟩=>h op (by omega) (by omega) x y)];exact Vt n (op+1) λk a b c=>h k (by omega) (by omega) c
def VF{w:List UInt8}(r:Int):∀n op,(∀k:Nat,op<=k->k<op+n->(dc k).1≠w)->lf w n op r=r
 | 0,_,_=>rfl
 | n + 1, op, h => by
  simp only[lf];rw[aw (λe=>h op (by omega) (by omega) e.symm)];exact VF r n (op+1) λk a b=>h k (by omega) (by omega)
def anI(w:List UInt8):rO w=lf w 15 1 0:=by
 by_cases h:∃k:Nat,k<16/\0<k/\(dc k).1=w
 .obtain⟨k,h1,h2,rfl⟩:=h;have key:∀k:Nat,k<16->0<k->vd (dc k).1 16 0=lf (dc k).1 15 1 0:=by decide +kernel
  exact key k h1 h2
 .have hn:∀k:Nat,k<16->0<k->(dc k).1≠w:=λk h1 h2 e=>h ⟨k,h1,h2,e⟩
  unfold rO;rw[Vt 16 0 (λk _ h1 h2=>hn k (by omega) h2),VF 0 15 1 (λk h1 h2=>hn k (by omega) (by omega))]
def aiK(op:Int):Nu (dc op).2/\(dc op).2.count 112<=1:=by
 unfold dc Nu;split
 .rename_i h1;have an:op.toNat<16:=by omega
  generalize op.toNat=n at an ⊢;have key:∀n<16,(∀k∈(iO.getD n ([],[])).2,k=110\/k=102\/k=119\/k=112\/k=116\/k=114)/\(iO.getD n ([],[])).2.count 112<=1:=by decide +kernel
  exact key n an
 .simp
def abB(h0:0<=N){fin:Int}(hl:nR N l)(hf:In N fin):Ct l fin=G4 l fin:=by
 cases l with
 | nil=>rfl
 | cons t ts =>
  have hm:0<bE (t::ts):=by have:=gj (t::ts);simp at this;omega
  have hk:bf (t::ts) ((0:Nat):Int) 97=decide (t.tok.kind=97):=by simp[bf]
  unfold Ct G4;simp only
  by_cases di:t.tok.kind=97
  .have qE:bf (t::ts) 0 97=true:=by have:=hk;simp only[di,bL] at this;exact this
   have hw:(⟨t::ts,0,fin,ah⟩:ag).word=(⟨t.tok.ar,t.tok.pos⟩,⟨t::ts,((1:Nat):Int),fin,ah⟩):=by
    rw[Gj qE];rfl
   simp only[hw,aI di,<-anI];generalize rO t.tok.ar=op
   by_cases hz:op=0
   .rw[aI hz,aI hz]
   .rw[aw hz,aw hz];obtain⟨f1,f2⟩:=aiK op;have E7:=Oc h0 hl hf hm (dc op).2 {aL.zero with op:=op,pos:=t.tok.pos} 1 f1 f2 (λ_=>rfl);rw[show((1:Nat):Int)=1 from rfl] at E7 ⊢;generalize qW (t::ts) fin (dc op).2 {aL.zero with op:=op,pos:=t.tok.pos} 1=R at E7 ⊢
    rcases E7 with ⟨p1,p2⟩ | ⟨p1,p2⟩
    .rw[aI p1];unfold AF;simp[p2]
    .rw[aw (by omega),p2];unfold AF
     by_cases dD:R.2.1<((t::ts).length:Int)
     .rw[aI dD];simp only[mA,aI dD,ag.fail,DN]
     .rw[aw dD];simp only[mA,aw dD]
  .have qE:bf (t::ts) 0 97=false:=by have:=hk;simp only[di,c9] at this;exact this
   rw[Gh qE,aw di]
   have:rO []=0:=by decide +kernel
   simp only[this,cH]
def aqK(s:List UInt8):ij s=DH s:=by
 unfold ij DH;rw[Pe];have h:=(al6 s).1;rw[abB (N:=s.length) (by omega) h ⟨by omega,by omega⟩]
 all_goals rcases(fI s).2 with _ | a<;>first | rfl | (cases (jt (fI s).1).2<;>rfl)
def at_(pre us:List aA)(fin:Int)(k:Nat):ag:=⟨pre++us,((pre.length+k:Nat):Int),fin,ah⟩
end Go.Am
