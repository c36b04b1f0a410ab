/-
  Part 5 of the proof of StackFramesUptoCardSaid: a logic over the model, the forms of the functions that the law reaches, and what they compute.
-/
import Derived.Test.YtnpggmhoandloaaGreatDoorFrames4
set_option linter.unusedVariables false
set_option linter.unusedSimpArgs false
set_option linter.defProp false
set_option linter.unusedSectionVars false
set_option maxRecDepth 4000
set_option maxHeartbeats 4000000
open Option renaming some->aa,none->ag
open Bool renaming true->ab,false->ak
open List renaming replicate->ar,range->bX,getD->ij,zipWith->l8
open Eq renaming mpr->eU
open Ne renaming symm->fF
namespace Go.Am
variable{c:az}
def apM(h:c.fS=ab)(h0:c.op=0):eJ c=[]/\az.zero.c9 c=true:=by
 simp only[az.fS,bF,cn] at h;obtain⟨⟨⟨⟨_,hn⟩,lJ⟩,hp⟩,ht⟩:=h;have e:(bY c.op).2=[]:=by rw[h0];rfl
 have e1:(bY c.op).1=[]:=by rw[h0];rfl
 simp only[az.nN,az.kK,az.lT,az.kt,fy] at hn lJ hp ht;simp[e] at hn lJ hp ht;have zl:∀n:Nd,n.c9 .zero=ab->Nd.zero.c9 n=true:=λn h=>Nd.zw _ _ h
 refine⟨by simp[eJ,lB,e,e1,j9],?_⟩;simp[az.c9,az.zero,h0,hn,lJ,hp,ey,lW,zl _ ht.1,zl _ ht.2]
def arJ(h:c.fS=ab):(dv (eJ c)).2=ag /\
 ((gf (dv (eJ c)).1).2=ag->∃d,cM (eJ c)=(d,0,0)/\c.c9 d=ab)/\(∀a,(gf (dv (eJ c)).1).2=aa a->cM (eJ c)=(.zero,2,a)):=by
 have h0:0<=c.op:=by simp only[az.fS,bF,cn] at h;exact h.1.1.1.1.1
 have uf:c.op<=15:=by simp only[az.fS,bF,cn] at h;exact h.1.1.1.1.2
 by_cases hz:c.op=0
 .obtain⟨e1,e2⟩:=apM h hz;rw[e1];refine⟨rfl,λ_=>⟨.zero,rfl,az.zw e2⟩,λa ha=>?_⟩
  have:(gf (dv []).1).2=none:=by decide +kernel
  rw[this] at ha;simp at ha
 .have h1:1<=c.op:=by omega
  obtain⟨_,k2,_⟩:=Ee h1 uf;obtain⟨l1,l2⟩:=YE k2 (Of h h1);obtain⟨us,f1,w1,b1⟩:=acB h h1 l2;refine⟨l1,λhd=>?_,λa ha=>?_⟩
  .have ht:(gf (dv (eJ c)).1).1=us:=by rw[<-f1] at hd ⊢;exact YK w1 hd
   obtain⟨d,e1,e2⟩:=b1 ((eJ c).length:Nat);refine⟨d,?_,az.zw e2⟩;unfold cM;rw[Bz,l1,hd,ht];exact e1
  .unfold cM;rw[Bz,l1,ha]
mutual
def OV:∀(n m:Nd),n.c9 m=ab->n.dy=m.dy
 | .mk k p t ws ks, m, h => by
  rw[Nd.Di] at h;simp only[bF,cn] at h;obtain⟨⟨⟨h1,h2⟩,h3⟩,h4⟩:=h;rw[FL] at h3;simp only[cn] at h3;have h5:eh (Nd.mk k p t ws ks).aj=eh m.aj:=XO ks m.aj h4;have h6:iT (Nd.mk k p t ws ks).an=iT m.an:=by unfold iT;rw[h3]
  have h7:(Nd.mk k p t ws ks).an.length=m.an.length:=by have:=iK List.length h3;simpa using this
  rw[Nd.uZ (.mk k p t ws ks),Nd.uZ m,h1,h2,h5,h6]
  first | rfl | rw[h7] | skip
def XO:∀(a b:List Nd),dP a b=ab->eh a=eh b
 | [],[],_=>rfl
 | [],_::_,h=>by simp[dP] at h
 | _::_,[],h=>by simp[dP] at h
 | n :: ns, m :: ms, h => by
  simp only[dP,bF] at h;simp only[eh,OV n m h.1,XO ns ms h.2]
end
def XG:∀(a b:List (aB × aB)),lW a b=ab->a.map kp=b.map kp
 | [],[],_=>rfl
 | [],_::_,h=>by simp[lW] at h
 | _::_,[],h=>by simp[lW] at h
 | p :: ps, q :: qs, h => by
  simp only[lW,bF,cn] at h;simp only[ch,kp,h.1.1,h.1.2,XG ps qs h.2]
def asK{a b:az}(h:a.c9 b=ab):eJ a=eJ b:=by
 unfold az.c9 at h;rw[FL] at h;simp only[bF,cn] at h;obtain⟨⟨⟨⟨⟨h1,h2⟩,h3⟩,h4⟩,h5⟩,h6⟩:=h;have hp:=XG _ _ h4;have key:∀(ks:List UInt8) (ts us:List Nd),ts.map Nd.dy=us.map Nd.dy->(mz ks ts).map (λq=>mW q.1 a q.2)=(mz ks us).map (λq=>mW q.1 b q.2):=by
  intro ks;induction ks with
  | nil=>intros;rfl
  | cons k ks ih =>
   intro ts us qz;have hh:(ts.headD .zero).dy=(us.headD .zero).dy:=by
    cases ts with
    | nil => cases us with
     | nil=>rfl
     | cons=>simp at qz
    | cons => cases us with
     | nil=>simp at qz
     | cons=>simp at qz;exact qz.1
   have ht:(if isTerm k=ab then ts.tail else ts).map Nd.dy=(if isTerm k=ab then us.tail else us).map Nd.dy:=by
    split
    .rw[List.map_tail,List.map_tail,qz]
    .exact qz
   simp only[mz,ch,ih _ _ ht];congr 1;unfold mW;rw[h2,h3,hp,hh]
 rw[Jh,Jh,h1,key _ [a.left,a.right] [b.left,b.right] (by simp[OV _ _ h5,OV _ _ h6])]
def B0(t:Tok):Prop:=(t.kind=97/\dx t.aq=ab)\/∃c:UInt8,t.kind=(c.toNat:Nat)/\t.aq=[c]/\(kr (c.toNat:Nat)&&!fq c&&decide (c.toNat≠45))=ab
def atj(c:UInt8)(h:kr (c.toNat:Nat)=ab):(kr (c.toNat:Nat)&&!fq c&&decide (c.toNat≠45))=true:=by
 have key:∀n<256,kr ((UInt8.ofNat n).toNat:Nat)=ab->(kr ((UInt8.ofNat n).toNat:Nat)&&!fq (UInt8.ofNat n)&&decide ((UInt8.ofNat n).toNat≠45))=true:=by decide +kernel
 have:=key c.toNat c.toNat_lt
 rw[UInt8.ofNat_toNat] at this;exact this h
def Iu:∀(n p:Nat) (r:List UInt8) (acc:List Tok),(∀t∈acc,B0 t)->∀t∈(eY n p r acc).1,B0 t
 | 0,_,r,acc,h=>by cases r<;>simpa [eY] using h
 | n+1,p,[],acc,h=>by simpa [eY] using h
 | n + 1, p, c :: r, acc, h => by
  simp only[eY];split
  .exact h
  .split
   .rename_i hr;refine Iu n _ _ _ λt ht=>?_
    rcases jC.1 ht with ht | ht
    .exact h t ht
    .rw[qj.1 ht];exact .inl ⟨rfl,hr.2⟩
   .split
    .rename_i hs;refine Iu n _ _ _ λt ht=>?_
     rcases jC.1 ht with ht | ht
     .exact h t ht
     .rw[qj.1 ht];exact .inr ⟨c,rfl,rfl,atj c hs⟩
    .split
     .exact Iu n _ _ _ h
     .simp
def nX(l:List Tok):Nat:=(l.map λt=>t.aq.length+1).sum
def Jq(a b:List Tok):nX (a++b)=nX a+nX b:=by simp[nX]
def Iv:∀(n p:Nat) (r:List UInt8) (acc:List Tok),nX (eY n p r acc).1<=nX acc+2*r.length
 | 0,_,r,acc=>by cases r<;>simp[eY]
 | n+1,p,[],acc=>by simp[eY]
 | n + 1, p, c :: r, acc => by
  simp only[eY];have hr:=OL (c::r);simp only[dB] at hr ⊢;split
  .simp only;omega
  .split
   .rename_i h1
    have:=Iv n (p+(dQ (c::r)).length) ((c::r).drop (dQ (c::r)).length) (acc++[⟨97,dQ (c::r),p⟩])
    simp only[Jq,J5,dB] at this;simp only[nX,ch,fh,n7,sR] at this ⊢;omega
   .split
    .have:=Iv n (p+1) r (acc++[⟨(c.toNat:Nat),[c],p⟩])
     simp only[Jq] at this;simp only[nX,ch,fh,n7,sR,dB,eM] at this ⊢;omega
    .split
     .have:=Iv n (p+1) r acc;omega
     .simp[nX]
def Vj:∀(toks:List Tok) (k:Option Int),(∀t∈toks,B0 t)->mI (jB k toks) (toks.map Tok.sh)/\(k=aa 97->Stop (jB k toks))
 | [],k,_=>⟨lex_nil,λ_=>trivial⟩
 | t :: ts, k, h => by
  obtain⟨h1,h2⟩:=Vj ts (aa t.kind) λx hx=>h x (by simp[hx])
  rcases h t (by simp) with ⟨hk,hn⟩ | ⟨c,hk,ht,hc⟩
  .have hl:mI (t.aq++jB (aa t.kind) ts) ((t::ts).map Tok.sh):=by
    have:=Ve hn (h2 (by rw[hk])) h1
    have e:t.sh=gd t.aq:=by unfold Tok.sh gd;rw[hk]
    rw[ch,e];exact this
   by_cases Mc:k=aa 97
   .have e:jB k (t::ts)=[32]++(t.aq++jB (aa t.kind) ts):=by simp[jB,Mc,hk]
    rw[e];exact⟨Vh hl,λ_=>show fq 32=ak by decide⟩
   .have e:jB k (t::ts)=t.aq++jB (aa t.kind) ts:=by simp[jB,Mc]
    rw[e];exact⟨hl,λh=>absurd h Mc⟩
  .simp only[bF,vb,cn] at hc;have cZ:t.kind≠97:=λe=>by
    have h3:=hc.1.1;rw[<-hk,e] at h3;revert h3;decide
   have e:jB k (t::ts)=[c]++jB (aa t.kind) ts:=by simp[jB,cZ,ht]
   rw[e];have es:t.sh=bM c:=by unfold Tok.sh bM;rw[hk,ht]
   rw[ch,es];exact⟨Vg hc.1.1 hc.1.2 hc.2 h1,λ_=>hc.1.2⟩
def amT{s:List UInt8}{a b:List Sh}(h:mI s a)(k:mI s b):a=b:=by
 obtain⟨x,e1,e2⟩:=h s.length 0 [] (bS _);obtain⟨y,f1,f2⟩:=k s.length 0 [] (bS _);rw[e1] at f1
 have:x=y:=by simpa using f1
 rw[<-e2,<-f2,this]
variable{toks:List Tok}
def Yc{T:List UInt8}{S:List Sh}(h:∀t∈toks,B0 t)(hL:kx T S)(ht:fB toks=T):toks.map Tok.sh=S:=by
 have h1:mI (T++[]) (S++[]):=hL [] [] trivial lex_nil;rw[eK,eK,<-ht] at h1;exact amT (Vj toks ag h).1 h1
def Pd:∀(toks:List Tok) (k:Option Int),(jB k toks).length<=nX toks
 | [],k=>by simp[jB]
 | t :: ts, k => by
  have:=Pd ts (aa t.kind)
  simp only[jB,bP,nX,ch,n7] at this ⊢;split<;>simp<;>omega
def at4(h:toks≠[]):(fB toks).length+1<=nX toks:=by
 cases toks with
 | nil=>exact absurd rfl h
 | cons t ts =>
  have:=Pd ts (aa t.kind)
  simp only[fB,jB,bP,nX,ch,n7,reduceCtorEq,Cg,bZ,eM] at this ⊢;omega
def al5{l m:List Tok}(h:l.map Tok.kind=m.map Tok.kind)(i:Nat):dn l i=dn m i:=by
 have e:∀x:List Tok,dn x i=((x.map Tok.kind)[i]?).getD 0:=λx=>by
  unfold dn;rw[tU];cases x[i]?<;>rfl
 rw[e,e,h]
def Sv{l m:List Tok}(h:l.map Tok.kind=m.map Tok.kind):∀n i o,jG l n i o=jG m n i o
 | 0,_,_=>rfl
 | n + 1, i, o => by
  have hk:dn l=dn m:=funext (al5 h);have ih:jG l n=jG m n:=funext λi=>funext λo=>Sv h n i o
  simp only[jG,hk,ih]
def auj{l m:List Tok}(h:l.map Tok.sh=m.map Tok.sh)(hn:(gf l).2=ag):(gf m).2=none:=by
 have hk:l.map Tok.kind=m.map Tok.kind:=by
  have:=iK (List.map Prod.fst) h
  simpa [DM,wI,Tok.sh] using this
 have hl:l.length=m.length:=by simpa using iK List.length h
 unfold gf at hn ⊢;rw[Sv hk,hl] at hn;split
 .rename_i h0;rw[aE h0] at hn;simp at hn
 .rfl
variable{r r':ae}{seg:List al}
def KV(h:iU r r' seg):0<=r.at_/\r'.at_=r.at_+(seg.length:Nat)/\r'.at_<=(r.l.length:Nat):=by
 obtain⟨pre,post,e1,e2,e3⟩:=h.ex;rw[e1,e2,e3];simp only[bP];refine⟨?_,?_,?_⟩<;>omega
def G'(h:iU r r' seg)(hg:fe r.l):fe r'.l:=by rw[h.l];exact hg
def alJ(x y:List UInt8)(l:List (List UInt8)):cO (x::y::l)=x++[44]++cO (y::l):=by simp[cO]
def ad3{t:al}{i:ae}(h:iU t.inner i seg)(he:i.at_=(t.aj.length:Nat)):seg=t.aj:=by
 obtain⟨pre,post,e1,e2,e3⟩:=h.ex;have e0:t.inner.at_=0:=rfl;have el:t.inner.l=t.aj:=rfl;rw[e0] at e2;have hp:pre=[]:=ke.1 (by omega);subst hp;rw[el] at e1;have hq:post=[]:=by
  rw[e3,e1] at he;simp only[gN,bP] at he;exact ke.1 (by omega)
 subst hq;simpa using e1.symm
def Wf:∀(n:Nat) (i:ae) (acc:List (aB × aB)),fe i.l->i.at_<=(i.l.length:Nat)->(i.l.length:Int)<n+i.at_->(ae.gH n i acc).1.aG=ag ->
 ∃seg ps,iU i (ae.gH n i acc).1 seg/\(ae.gH n i acc).2=acc++ps/\ps≠[]/\fB (bu seg)=cO (ps.map kp)/\ps.all pe=ab/\(ae.gH n i acc).1.at_=(i.l.length:Nat)
 | 0,i,acc,_,h1,h2,_=>by omega
 | n + 1, i, acc, hg, h1, h2, hb => by
  have HR:i.aG=none:=by
   cases hq:i.aG with
   | none=>rfl
   | some b=>have:=zq hq (n+1) acc;rw[hb] at this;simp at this
  have one:∀(hc:((i.word.2.take 60).2.word).2.aG=ag),∃seg,iU i ((i.word.2.take 60).2.word).2 seg/\0<seg.length/\fB (bu seg)=kp (i.word.1,((i.word.2.take 60).2.word).1)/\pe (i.word.1,((i.word.2.take 60).2.word).1)=true:=by
   intro hc;have l1:i.word.2.l=i.l:=i.fT 97;have l2:(i.word.2.take 60).2.l=i.l:=(ae.fT _ 60).trans l1;obtain⟨s3,R7,e32,e33,_⟩:=wF (i.word.2.take 60).2 (by rw[l2];exact hg) hc;obtain⟨c1,c2⟩:=po R7.b;obtain⟨s1,e11,e12,e13,_⟩:=wF i hg c1.b;have nD:=(c1.lf (by rw[l1];exact hg)).1;refine⟨s1++[(i.word.2.take 60).1]++s3,(e11.trans c1).trans R7,by simp only[bP,gM];omega,?_,?_⟩
   .rw[xY (by rw[c2];decide) (by rw[c2];rfl),e12,e32,rK nD c2 (by decide)];rfl
   .simp[pe,e13,e33]
  simp only[ae.gH] at hb ⊢;rw[aA (by simp[HR])] at hb ⊢;split
  .rename_i db;rw[aE db] at hb;obtain⟨seg,e1,_,e2,e3⟩:=one hb;refine⟨seg,[(i.word.1,((i.word.2.take 60).2.word).1)],e1,rfl,by simp,?_,?_,db⟩
   .rw[e2];simp[cO]
   .simp[e3]
  .rename_i db;rw[aA db] at hb;have hq:(((i.word.2.take 60).2.word).2.take 44).2.aG=none:=by
    cases hq:(((i.word.2.take 60).2.word).2.take 44).2.aG with
    | none=>rfl
    | some b=>have:=zq hq n (acc++[(i.word.1,((i.word.2.take 60).2.word).1)]);rw[hb] at this;simp at this
   obtain⟨c1,c2⟩:=po hq;obtain⟨seg,e1,e0,e2,e3⟩:=one c1.b;have et:=e1.trans c1;have nD:=(c1.lf (G' e1 hg)).1;obtain⟨a1,a2,a3⟩:=KV et;have hl:(((i.word.2.take 60).2.word).2.take 44).2.l=i.l:=et.l;simp only[bP,gM] at a2;obtain⟨sg,ps,g1,g2,g3,g4,g5,g6⟩:=Wf n (((i.word.2.take 60).2.word).2.take 44).2 (acc++[(i.word.1,((i.word.2.take 60).2.word).1)]) (G' et hg) (by rw[hl];exact a3) (by rw[hl];omega) hb;refine⟨seg++[(((i.word.2.take 60).2.word).2.take 44).1]++sg,(i.word.1,((i.word.2.take 60).2.word).1)::ps,et.trans g1,?_,by simp,?_,?_,?_⟩
   .rw[g2];simp
   .rw[xY (by rw[c2];decide) (by rw[c2];rfl),e2,g4,rK nD c2 (by decide)];obtain⟨p,qs,rfl⟩:∃p qs,ps=p::qs:=by
     cases ps with
     | nil=>exact absurd rfl g3
     | cons p qs=>exact⟨p,qs,rfl⟩
    simp only[ch,alJ];rfl
   .rw[ve,e3,g5];rfl
   .rw[g6,hl]
def wJ(k:UInt8)(seg:List al)(c0 c1:az):Prop :=
 (k=110/\∃w:aB,dx w.aq=ab/\fB (bu seg)=w.aq/\c1={c0 with name:=w}) \/
 (k=102/\∃w:aB,dx w.aq=ab/\fB (bu seg)=w.aq/\c1={c0 with an:=[w]}) \/
 (k=119/\∃ws:List aB,0<ws.length/\iR ws=ab/\fB (bu seg)=[123]++iT ws++[125]/\c1={c0 with an:=ws}) \/
 (k=112/\∃(ps:List (aB × aB)) (a:Int),ps.all pe=ab/\fB (bu seg)=vC (ps.map kp)/\c1={c0 with bA:=ps,nP:=a}) \/
 (k=116/\∃m:Nd,m.fA=ab/\fB (bu seg)=m.dy/\c1=if c0.left.kind=0 then {c0 with left:=m} else {c0 with right:=m}) \/
 (k=114/\∃m:Nd,m.jN=ab/\fB (bu seg)=m.dy/\c1=if c0.left.kind=0 then {c0 with left:=m} else {c0 with right:=m})
def X1(h:0<jA seg):seg≠[]:=λe=>by rw[e] at h;simp[jA,bd] at h
variable{Q:Nd->Prop}{l:List al}
def VY{a fin:Int}{one:ae->Nd × ae}(hs:Sound one Nd.dy Q SN)(hg:fe l)(hb:(jw ⟨l,a,fin,ag⟩ c (fN one l a fin)).1.aG=ag):
 ∃seg m,seg≠[]/\iU ⟨l,a,fin,ag⟩ (jw ⟨l,a,fin,ag⟩ c (fN one l a fin)).1 seg/\Q m/\fB (bu seg)=m.dy/\(jw ⟨l,a,fin,ag⟩ c (fN one l a fin)).2=if c.left.kind=0 then {c with left:=m} else {c with right:=m}:=by
 unfold fN at hb ⊢;cases hq:(one ⟨l,a,fin,ag⟩).2.aG with
 | some b=>rw[hq] at hb;simp[jw] at hb
 | none =>
  obtain⟨seg,e1,e2,e3,e4⟩:=hs ⟨l,a,fin,ag⟩ hg hq;refine⟨seg,_,X1 ?_,⟨e1.ex,rfl,rfl,rfl⟩,e3,e2,rfl⟩;simp only[SN] at e4;omega
variable{k:UInt8}{x:ae × az}
def aqk(hk:k=110\/k=102\/k=119\/k=112\/k=116\/k=114)(hg:fe x.1.l)(hp:k=112->x.2.bA=[])(hb:(dp k x).1.aG=ag):
 ∃seg,seg≠[]/\iU x.1 (dp k x).1 seg/\wJ k seg x.2 (dp k x).2:=by
 obtain⟨⟨l,a,fin,aG⟩,c⟩:=x;have MI:aG=none:=by
  cases aG with
  | none=>rfl
  | some b=>simp[dp] at hb
 subst MI;have so:∀(h:(⟨l,a,fin,ag⟩:ae).word.2.aG=ag),∃seg,seg≠[]/\iU ⟨l,a,fin,ag⟩ (⟨l,a,fin,ag⟩:ae).word.2 seg/\fB (bu seg)=(⟨l,a,fin,ag⟩:ae).word.1.aq/\dx (⟨l,a,fin,ag⟩:ae).word.1.aq=true:=λh=>by
  obtain⟨seg,e1,e2,e3,e4⟩:=wF ⟨l,a,fin,ag⟩ hg h;exact⟨seg,X1 (by simp only[SW] at e4;omega),e1,e2,e3⟩
 rcases hk with rfl | rfl | rfl | rfl | rfl | rfl
 .have e:dp 110 (⟨l,a,fin,ag⟩,c)=((⟨l,a,fin,ag⟩:ae).word.2,{c with name:=(⟨l,a,fin,ag⟩:ae).word.1}):=by simp[dp]
  rw[e] at hb ⊢;obtain⟨seg,h1,h2,h3,h4⟩:=so hb;exact⟨seg,h1,h2,.inl ⟨rfl,_,h4,h3,rfl⟩⟩
 .have e:dp 102 (⟨l,a,fin,ag⟩,c)=((⟨l,a,fin,ag⟩:ae).word.2,{c with an:=[(⟨l,a,fin,ag⟩:ae).word.1]}):=by simp[dp]
  rw[e] at hb ⊢;obtain⟨seg,h1,h2,h3,h4⟩:=so hb;exact⟨seg,h1,h2,.inr (.inl ⟨rfl,_,h4,h3,rfl⟩)⟩
 .have e:dp 119 (⟨l,a,fin,ag⟩,c)=(⟨l,a+1,fin,(jS l a fin).2⟩,{c with an:=(jS l a fin).1}):=by simp[dp]
  rw[e] at hb ⊢;have hw:((⟨l,a,fin,ag⟩:ae).words ak).2.aG=none:=by
   cases hq:((⟨l,a,fin,ag⟩:ae).words ak).2.aG with
   | none=>rfl
   | some b=>simp[jS,hq] at hb
  have ew:jS l a fin=(((⟨l,a,fin,ag⟩:ae).words ak).1.1,ag):=by simp[jS,hw]
  obtain⟨t,b1,b2,b3,b4,_,b6⟩:=Kx (one:=ae.word) wF (k:=123) (e:=false) (r:=⟨l,a,fin,ag⟩) hg hw;have mj:=(b1.lf hg).1;rw[ew];refine⟨[t],by simp,?_,.inr (.inr (.inl ⟨rfl,_,b6 rfl,OF b4,?_,rfl⟩))⟩
  .obtain⟨pre,post,e1,e2,e3⟩:=b1.ex;have e2:a=(pre.length:Nat):=e2;refine⟨⟨pre,post,e1,e2,?_⟩,rfl,rfl,rfl⟩;simp only[bP,gM];omega
  .rw[Dp (by rw[b2];decide),b3,rK mj b2 (by decide),b2];rfl
 .have hp:=hp rfl;have e:dp 112 (⟨l,a,fin,ag⟩,c)=p9 ⟨l,a,fin,ag⟩ c:=by simp[dp]
  rw[e] at hb ⊢;unfold p9 at hb ⊢;simp only at hb ⊢ hp;split
  .rename_i hc;rw[aE hc] at hb;have hb:((⟨l,a,fin,ag⟩:ae).take 123).2.aG=none:=hb;obtain⟨t1,t2⟩:=po hb;have mj:=(t1.lf hg).1;have td:((⟨l,a,fin,ag⟩:ae).take 123).1.aj=[]:=by
    rcases hc with h | h
    .exact absurd hb h
    .exact ke.1 h
   refine⟨[((⟨l,a,fin,ag⟩:ae).take 123).1],by simp,t1,.inr (.inr (.inr (.inl ⟨rfl,[],((⟨l,a,fin,ag⟩:ae).take 123).1.tok.pos,rfl,?_,?_⟩)))⟩
   .rw[Dp (by rw[t2];decide),td,rK mj t2 (by decide),t2];rfl
   .cases c;simp only at hp;subst hp;rfl
  .rename_i hc;rw[aA hc] at hb;have h1:((⟨l,a,fin,ag⟩:ae).take 123).2.aG=none:=by
    cases hq:((⟨l,a,fin,ag⟩:ae).take 123).2.aG with
    | none=>rfl
    | some b=>exact absurd (.inl (by rw[hq];simp)) hc
   obtain⟨t1,t2⟩:=po h1;have mj:=(t1.lf hg).1;have xl:=((yI _).1 mj).2.2;generalize ((⟨l,a,fin,ag⟩:ae).take 123).2=r1 at hb t1 h1 ⊢;generalize ((⟨l,a,fin,ag⟩:ae).take 123).1=t at hb t1 t2 mj xl ⊢;have hG:(ae.gH (t.aj.length+1) t.inner []).1.aG=none:=by
    cases hq:(ae.gH (t.aj.length+1) t.inner []).1.aG with
    | none=>rfl
    | some b=>rw[hq] at hb;simp[ae.vw] at hb
   have el:t.inner.l=t.aj:=rfl;have ea:t.inner.at_=0:=rfl;obtain⟨sg,ps,g1,g2,g3,g4,g5,g6⟩:=Wf (t.aj.length+1) t.inner [] xl (by rw[ea];omega) (by rw[el,ea];omega) hG;have hs:=ad3 g1 g6;subst hs;refine⟨[t],by simp,?_,.inr (.inr (.inr (.inl ⟨rfl,ps,t.tok.pos,g5,?_,?_⟩)))⟩
   .rw[hG];exact t1
   .rw[Dp (by rw[t2];decide),g4,rK mj t2 (by decide),t2];rfl
   .rw[g2];rfl
 .have e:dp 116 (⟨l,a,fin,ag⟩,c)=jw ⟨l,a,fin,ag⟩ c (fN (ae.label (bd l)) l a fin):=by simp[dp]
  rw[e] at hb ⊢;obtain⟨seg,m,h1,h2,h3,h4,h5⟩:=VY (Im (bd l)) hg hb;exact⟨seg,h1,h2,.inr (.inr (.inr (.inr (.inl ⟨rfl,m,h3,h4,h5⟩))))⟩
 .have e:dp 114 (⟨l,a,fin,ag⟩,c)=jw ⟨l,a,fin,ag⟩ c (fN (ae.row (bd l)) l a fin):=by simp[dp]
  rw[e] at hb ⊢;obtain⟨seg,m,h1,h2,h3,h4,h5⟩:=VY (Xg (bd l)) hg hb;exact⟨seg,h1,h2,.inr (.inr (.inr (.inr (.inr ⟨rfl,m,h3,h4,h5⟩))))⟩
def JK:List UInt8->List al->az->az->Prop
 | [],us,c0,c1=>us=[]/\c1=c0
 | k::ks,us,c0,c2=>∃a b c1,us=a++b/\a≠[]/\wJ k a c0 c1/\JK ks b c1 c2
variable{c0 c1:az}
def aj7(hk:k≠112)(h:wJ k seg c0 c1):c1.bA=c0.bA:=by
 rcases h with ⟨_,w,_,_,rfl⟩ | ⟨_,w,_,_,rfl⟩ | ⟨_,w,_,_,_,rfl⟩ | ⟨h,_⟩ | ⟨_,m,_,_,rfl⟩ | ⟨_,m,_,_,rfl⟩
 .rfl
 .rfl
 .rfl
 .exact absurd h hk
 .split<;>rfl
 .split<;>rfl
def Wr:∀(ks:List UInt8) (x:ae × az),Ir ks->ks.count 112<=1->(112∈ks->x.2.bA=[])->fe x.1.l->x.1.aG=ag->0<=x.1.at_->x.1.at_<=(x.1.l.length:Nat)->(iQ ks x).1.aG=ag ->
 ∃us,iU x.1 (iQ ks x).1 us/\JK ks us x.2 (iQ ks x).2
 | [], x, _, _, _, _, hb, h0, h1, _ => by
  refine⟨[],⟨⟨x.1.l.take x.1.at_.toNat,x.1.l.drop x.1.at_.toNat,by simp,?_,?_⟩,rfl,hb,hb⟩,rfl,rfl⟩
  .rw[jj];omega
  .show x.1.at_=_;rw[eK,jj];omega
 | k :: ks, x, hk, hc, hp, hg, hb, h0, h1, hn => by
  simp only[iQ] at hn ⊢;have e_:(dp k x).1.aG=none:=by
   cases hq:(dp k x).1.aG with
   | none=>rfl
   | some b=>have:=IW (N:=0) (JN 0) ks _ hq;rw[hn] at this;simp at this
  obtain⟨sg,n1,e1,g1⟩:=aqk (hk k (by simp)) hg (λe=>hp (by simp[e])) e_;obtain⟨a1,a2,a3⟩:=KV e1;have LW:ks.count 112<=1:=by rw[List.count_cons] at hc;omega
  obtain⟨us,e2,g2⟩:=Wr ks (dp k x) (λk h=>hk k (by simp[h])) LW (λhm=>by
   by_cases e:k=112
   .exfalso
    rw[e,P5] at hc;exact P6.1 (show ks.count 112=0 by omega) hm
   .rw[aj7 e g1];exact hp (by simp[hm])) (G' e1 hg) e_ (by omega) (by rw[e1.l];exact a3) hn
  exact⟨sg++us,e1.trans e2,sg,us,_,rfl,n1,g1,g2⟩
def Cm(h:wJ 110 seg c0 c1):∃w:aB,dx w.aq=ab/\fB (bu seg)=w.aq/\c1={c0 with name:=w}:=by
 rcases h with ⟨_,h⟩ | ⟨e,_⟩ | ⟨e,_⟩ | ⟨e,_⟩ | ⟨e,_⟩ | ⟨e,_⟩<;>first | exact h | exact absurd e (by decide)
def aj5(h:wJ 102 seg c0 c1):∃w:aB,dx w.aq=ab/\fB (bu seg)=w.aq/\c1={c0 with an:=[w]}:=by
 rcases h with ⟨e,_⟩ | ⟨_,h⟩ | ⟨e,_⟩ | ⟨e,_⟩ | ⟨e,_⟩ | ⟨e,_⟩<;>first | exact h | exact absurd e (by decide)
def Tm(h:wJ 119 seg c0 c1):∃ws:List aB,0<ws.length/\iR ws=ab/\fB (bu seg)=[123]++iT ws++[125]/\c1={c0 with an:=ws}:=by
 rcases h with ⟨e,_⟩ | ⟨e,_⟩ | ⟨_,h⟩ | ⟨e,_⟩ | ⟨e,_⟩ | ⟨e,_⟩<;>first | exact h | exact absurd e (by decide)
def aj6(h:wJ 112 seg c0 c1):∃(ps:List (aB × aB)) (a:Int),ps.all pe=ab/\fB (bu seg)=vC (ps.map kp)/\c1={c0 with bA:=ps,nP:=a}:=by
 rcases h with ⟨e,_⟩ | ⟨e,_⟩ | ⟨e,_⟩ | ⟨_,h⟩ | ⟨e,_⟩ | ⟨e,_⟩<;>first | exact h | exact absurd e (by decide)
def Tj(h:wJ 116 seg c0 c1):∃m:Nd,m.fA=ab/\fB (bu seg)=m.dy/\c1=if c0.left.kind=0 then {c0 with left:=m} else {c0 with right:=m}:=by
 rcases h with ⟨e,_⟩ | ⟨e,_⟩ | ⟨e,_⟩ | ⟨e,_⟩ | ⟨_,h⟩ | ⟨e,_⟩<;>first | exact h | exact absurd e (by decide)
def Ti(h:wJ 114 seg c0 c1):∃m:Nd,m.jN=ab/\fB (bu seg)=m.dy/\c1=if c0.left.kind=0 then {c0 with left:=m} else {c0 with right:=m}:=by
 rcases h with ⟨e,_⟩ | ⟨e,_⟩ | ⟨e,_⟩ | ⟨e,_⟩ | ⟨e,_⟩ | ⟨_,h⟩<;>first | exact h | exact absurd e (by decide)
def DV(c:az):List (UInt8 × Nd)->List al->Prop
 | [],us=>us=[]
 | q::qs,us=>∃a b,us=a++b/\a≠[]/\z_ q.1 c q.2/\fB (bu a)=mW q.1 c q.2/\DV c qs b
def W9{ws:List aB}(h:iR ws=ab):pZ (ws.map aB.aq)=true:=by
 simp only[pZ,List.all_map];exact h
def aj8{op p:Int}{us:List al}(h1:1<=op)(h2:op<=15)(h:JK (bY op).2 us {az.zero with op:=op,pos:=p} c):c.op=op/\c.fS=ab/\DV c (mz (bY op).2 [c.left,c.right]) us:=by
 obtain⟨hk,_,_⟩:=Ee h1 h2;simp only[Fa,lF,Gp,Fx] at hk;have hz:(Nd.zero).kind=0:=rfl;have zz:=Nd.XI Nd.zero;have h0:0<=op:=by omega
 rcases hk with e | e | e | e | e | e | e
 all_goals rw[e] at h
 .obtain⟨a,b,c1,rfl,na,ga,a2,b2,c2,rfl,nb,gb,rfl,rfl⟩:=h;obtain⟨w,w1,w2,rfl⟩:=Cm ga;obtain⟨ws,v1,v2,v3,rfl⟩:=Tm gb;refine⟨rfl,?_,?_⟩
  .simp[az.fS,az.nN,az.kK,az.lT,az.kt,fy,e,h0,h2,w1,v1,W9 v2,az.zero,zz]
  .rw[e];exact⟨a,_,rfl,na,.inl ⟨rfl,w1⟩,w2,a2,[],rfl,nb,.inr (.inr (.inl ⟨rfl,v1,v2⟩)),v3,rfl⟩
 .obtain⟨a,b,c1,rfl,na,ga,a2,b2,c2,rfl,nb,gb,a3,b3,c3,rfl,nc,gc,rfl,rfl⟩:=h;obtain⟨w,w1,w2,rfl⟩:=Cm ga;obtain⟨ws,v1,v2,v3,rfl⟩:=Tm gb;obtain⟨ps,pa,u1,u2,rfl⟩:=aj6 gc;refine⟨rfl,?_,?_⟩
  .simp only[l7] at u1;simp[az.fS,az.nN,az.kK,az.lT,az.kt,fy,e,h0,h2,w1,v1,W9 v2,az.zero,zz];intro x y hxy;exact u1 (x,y) hxy
  .rw[e];exact⟨a,_,rfl,na,.inl ⟨rfl,w1⟩,w2,a2,_,rfl,nb,.inr (.inr (.inl ⟨rfl,v1,v2⟩)),v3,a3,[],rfl,nc,.inr (.inr (.inr (.inl ⟨rfl,u1⟩))),u2,rfl⟩
 .obtain⟨a,b,c1,rfl,na,ga,a2,b2,c2,rfl,nb,gb,a3,b3,c3,rfl,nc,gc,rfl,rfl⟩:=h;obtain⟨w,w1,w2,rfl⟩:=Cm ga;obtain⟨m,v1,v2,rfl⟩:=Tj gb;obtain⟨m2,u1,u2,rfl⟩:=Tj gc;have hm:=UZ v1;rw[aE (show({az.zero with op:=op,pos:=p,name:=w}:az).left.kind=0 from rfl),aA hm];refine⟨rfl,?_,?_⟩
  .simp[az.fS,az.nN,az.kK,az.lT,az.kt,fy,e,h0,h2,w1,v1,u1,az.zero]
  .rw[e];exact⟨a,_,rfl,na,.inl ⟨rfl,w1⟩,w2,a2,_,rfl,nb,.inr (.inr (.inr (.inr (.inl ⟨rfl,v1⟩)))),v2,a3,[],rfl,nc,.inr (.inr (.inr (.inr (.inl ⟨rfl,u1⟩)))),u2,rfl⟩
 .obtain⟨a,b,c1,rfl,na,ga,a2,b2,c2,rfl,nb,gb,a3,b3,c3,rfl,nc,gc,rfl,rfl⟩:=h;obtain⟨w,w1,w2,rfl⟩:=Cm ga;obtain⟨m,v1,v2,rfl⟩:=Ti gb;obtain⟨m2,u1,u2,rfl⟩:=Ti gc;have hm:=Xf v1;rw[aE (show({az.zero with op:=op,pos:=p,name:=w}:az).left.kind=0 from rfl),aA hm];refine⟨rfl,?_,?_⟩
  .simp[az.fS,az.nN,az.kK,az.lT,az.kt,fy,e,h0,h2,w1,v1,u1,az.zero]
  .rw[e];exact⟨a,_,rfl,na,.inl ⟨rfl,w1⟩,w2,a2,_,rfl,nb,.inr (.inr (.inr (.inr (.inr ⟨rfl,v1⟩)))),v2,a3,[],rfl,nc,.inr (.inr (.inr (.inr (.inr ⟨rfl,u1⟩)))),u2,rfl⟩
 .obtain⟨a,b,c1,rfl,na,ga,a2,b2,c2,rfl,nb,gb,rfl,rfl⟩:=h;obtain⟨w,w1,w2,rfl⟩:=Cm ga;obtain⟨w',v1,v2,rfl⟩:=aj5 gb;refine⟨rfl,?_,?_⟩
  .simp[az.fS,az.nN,az.kK,az.lT,az.kt,fy,e,h0,h2,w1,v1,pZ,az.zero,zz]
  .rw[e];exact⟨a,_,rfl,na,.inl ⟨rfl,w1⟩,w2,a2,[],rfl,nb,.inr (.inl ⟨rfl,rfl,OF (by simp[v1])⟩),by rw[v2];simp[mW,cO],rfl⟩
 .obtain⟨rfl,rfl⟩:=h;refine⟨rfl,?_,by rw[e];rfl⟩;simp[az.fS,az.nN,az.kK,az.lT,az.kt,fy,e,h0,h2,az.zero,zz]
 .obtain⟨a,b,c1,rfl,na,ga,rfl,rfl⟩:=h;obtain⟨w,w1,w2,rfl⟩:=Cm ga;refine⟨rfl,?_,?_⟩
  .simp[az.fS,az.nN,az.kK,az.lT,az.kt,fy,e,h0,h2,w1,az.zero,zz]
  .rw[e];exact⟨a,[],rfl,na,.inl ⟨rfl,w1⟩,w2,rfl⟩
def afL{a:List al}(h:a≠[]):bu a≠[]:=by
 cases a with
 | nil=>exact absurd rfl h
 | cons t ts=>cases t;simp[bu,al.flat]
def X3{c:az}:∀(qs:List (UInt8 × Nd)) (us:List al),DV c qs us->(∀t∈bu us,B0 t)->(bu us).map Tok.sh=(qs.map λq=>Bi q.1 c q.2).flatten
 | [],us,h,_=>by have h:us=[]:=h;subst h;rfl
 | q :: qs, us, ⟨a, b, e, _, h1, h2, h3⟩, ht => by
  subst e;rw[iM] at ht ⊢;rw[gy,ch,lE,X3 qs b h3 λt h=>ht t (by simp[h]),Yc (λt h=>ht t (by simp[h])) (Wu h1) h2]
def X2{c:az}:∀(qs:List (UInt8 × Nd)) (us:List al),DV c qs us->((qs.map λq=>mW q.1 c q.2).flatMap λy=>[32]++y).length<=nX (bu us)
 | [],us,h=>by simp
 | q :: qs, us, ⟨a, b, e, h0, h1, h2, h3⟩ => by
  subst e;have ih:=X2 qs b h3;have h4:=at4 (afL h0);rw[h2] at h4;rw[iM,Jq,ch,qX,bP,bP];simp only[gM];omega
def V0{w:List UInt8}:∀(n op:Nat),pd w n op≠0->(bY (pd w n op)).1=w/\1<=pd w n op/\pd w n op<op+n
 | 0,op,h=>by simp[pd] at h
 | n + 1, op, h => by
  simp only[pd] at h ⊢;split
  .rename_i hc;exact⟨hc.2,by omega,by omega⟩
  .rename_i hc;rw[aA hc] at h;obtain⟨h1,h2,h3⟩:=V0 n (op+1) h;exact⟨h1,h2,by omega⟩
def acA{fin:Int}(hg:fe l)(h:tZ l fin=(c,0,0)):l=[]/\c = .zero \/
 ∃a b,l=a++b/\fB (bu a)=(bY c.op).1/\dx (bY c.op).1=ab/\c.fS=ab/\DV c (mz (bY c.op).2 [c.left,c.right]) b:=by
 cases l with
 | nil=>left;simp only[tZ] at h;exact⟨rfl,(iK Prod.fst h).symm⟩
 | cons t ts =>
  right;unfold tZ at h;simp only at h
  by_cases hz:je (⟨t::ts,0,fin,ag⟩:ae).word.1.aq=0
  .rw[aE hz] at h;simp at h
  .rw[aA hz] at h;obtain⟨n1,n2,n3⟩:=V0 16 0 hz;have n1:(bY (je (⟨t::ts,0,fin,ag⟩:ae).word.1.aq)).1=(⟨t::ts,0,fin,ag⟩:ae).word.1.aq:=n1;have n2:1<=je (⟨t::ts,0,fin,ag⟩:ae).word.1.aq:=n2;have n3:je (⟨t::ts,0,fin,ag⟩:ae).word.1.aq<=15:=by unfold je;omega
   have Ue:=λb hb=>IW (N:=0) (JN 0) (b:=b) (bY (je (⟨t::ts,0,fin,ag⟩:ae).word.1.aq)).2 ((⟨t::ts,0,fin,ag⟩:ae).word.2,{az.zero with op:=je (⟨t::ts,0,fin,ag⟩:ae).word.1.aq,pos:=(⟨t::ts,0,fin,ag⟩:ae).word.1.pos}) hb
   have Ug:=λxk hb h0 h1 hn=>Wr (bY (je (⟨t::ts,0,fin,ag⟩:ae).word.1.aq)).2 ((⟨t::ts,0,fin,ag⟩:ae).word.2,{az.zero with op:=je (⟨t::ts,0,fin,ag⟩:ae).word.1.aq,pos:=(⟨t::ts,0,fin,ag⟩:ae).word.1.pos}) (Ho _).1 (Ho _).2 (λ_=>rfl) xk hb h0 h1 hn
   have AR:=wF (⟨t::ts,0,fin,ag⟩:ae) hg;have vZ:=λus c=>aj8 (op:=je (⟨t::ts,0,fin,ag⟩:ae).word.1.aq) (p:=(⟨t::ts,0,fin,ag⟩:ae).word.1.pos) (us:=us) (c:=c) n2 n3
   generalize iQ (bY (je (⟨t::ts,0,fin,ag⟩:ae).word.1.aq)).2 ((⟨t::ts,0,fin,ag⟩:ae).word.2,{az.zero with op:=je (⟨t::ts,0,fin,ag⟩:ae).word.1.aq,pos:=(⟨t::ts,0,fin,ag⟩:ae).word.1.pos})=x at h Ue Ug;have MI:x.1.aG=ag/\¬x.1.at_<x.1.l.length/\c=x.2:=by
    unfold w7 at h
    by_cases hc:x.1.aG=ag/\x.1.at_<x.1.l.length
    .rw[aE hc] at h;cases hq:x.1.fail.aG with
     | none=>exact absurd hq x.1.Hi
     | some b=>rw[hq] at h;simp at h
    .rw[aA hc] at h;cases hq:x.1.aG with
     | none =>
      rw[hq] at h;refine⟨rfl,λhl=>hc ⟨hq,hl⟩,(iK Prod.fst h).symm⟩
     | some b=>rw[hq] at h;simp at h
   obtain⟨Uz,UA,rfl⟩:=MI;have Uy:(⟨t::ts,0,fin,ag⟩:ae).word.2.aG=none:=by
    cases hq:(⟨t::ts,0,fin,ag⟩:ae).word.2.aG with
    | none=>rfl
    | some b=>have:=Ue b hq;rw[Uz] at this;simp at this
   obtain⟨sg,e1,e2,e3,_⟩:=AR Uy;obtain⟨a1,a2,a3⟩:=KV e1;obtain⟨us,f1,f2⟩:=Ug (G' e1 hg) Uy (by simp only at a2 ⊢;omega) (by simp only;rw[e1.l];exact a3) Uz;obtain⟨g1,g2,g3⟩:=vZ us x.2 f2;have et:=e1.trans f1;have cK:t::ts=sg++us:=by
    obtain⟨pre,post,q1,q2,q3⟩:=et.ex;have hp:pre=[]:=ke.1 (by simp only at q2;omega);subst hp;have q1:t::ts=[]++(sg++us)++post:=q1;have hl:x.1.l=t::ts:=et.l;have hq:post=[]:=by
     rw[hl,q1,q3] at UA;simp only[gN,bP] at UA;exact ke.1 (by omega)
    rw[q1,hq];simp
   refine⟨sg,us,cK,?_,?_,g2,?_⟩
   .rw[g1,n1];exact e2
   .rw[g1,n1];exact e3
   .rw[g1];exact g3
def QG{s:List UInt8}(h:cM s=(c,0,0)):c.fS=ab/\(gf (dv (eJ c)).1).2=ag/\(eJ c).length<=2*s.length:=by
 unfold cM at h;cases hl:(dv s).2 with
 | some a=>rw[hl] at h;simp at h
 | none =>
  rw[hl] at h;simp only at h;cases ht:(gx (dv s).1 [] []).2 with
  | some a=>rw[ht] at h;simp at h
  | none =>
   rw[ht] at h;simp only at h;have cu:=C3 s.length 0 s [] (by simp);have akZ:=Iu s.length 0 s [] (by simp);obtain⟨w1,w2⟩:=FY (dv s).1 [] [] cu (by simp) (by simp[fG]) ht;simp only[xM,bu,gN] at w2;have hg:fe (gx (dv s).1 [] []).1:=by rw[Bz];exact Vn s
   have cW:nX (dv s).1<=nX []+2*s.length:=Iv s.length 0 s [];rw[show nX []=0 from rfl,jY] at cW;rw[Bz] at ht
   rcases acA hg h with ⟨h1,rfl⟩ | ⟨a,b,h1,h2,h3,h4,h5⟩
   .refine⟨by decide +kernel,by decide +kernel,?_⟩
    have:eJ az.zero=[]:=by decide +kernel
    rw[this];simp
   .rw[h1,iM] at w2;have hL:∀t∈bu a++bu b,B0 t:=by rw[w2];exact akZ
    have s1:(bu a).map Tok.sh=[gd (bY c.op).1]:=Yc (λt ht=>hL t (by simp[ht])) (xJ h3) h2;have s2:=X3 _ b h5 (λt ht=>hL t (by simp[ht]));have hs:(dv s).1.map Tok.sh=FO c:=by rw[<-w2,gy,s1,s2];rfl
    have mo:1<=c.op:=by
     have h6:=h4;simp only[az.fS,bF,cn] at h6;have h0:=h6.1.1.1.1.1
     by_cases hz:c.op=0
     .rw[hz] at h3;exact absurd h3 (by decide +kernel)
     .omega
    have uf:c.op<=15:=by simp only[az.fS,bF,cn] at h4;exact h4.1.1.1.1.2
    obtain⟨l1,l2⟩:=YE h3 (Of h4 mo);refine⟨h4,auj (hs.trans l2.symm) ht,?_⟩;have hb:=X2 _ b h5;have ha:(bY c.op).1.length<=nX (bu a):=by rw[<-h2];exact Pd _ _
    rw[<-w2,Jq] at cW;rw[Jh,bP];omega
def acz{N:Int}(h0:0<=N){fin:Int}(hl:lZ N l)(hf:In N fin):(t_ l fin).2.1=0/\(t_ l fin).2.2=0\/(t_ l fin).1 = .zero/\(t_ l fin).2.1=2/\In N (t_ l fin).2.2:=by
 have hpr:∀(ks:List UInt8) (c:az) (a:Int),(mV l fin ks c a).2.2<0\/In N (mV l fin ks c a).2.2:=by
  intro ks;induction ks with
  | nil=>intro c a;left;simp[mV]
  | cons k ks ih =>
   intro c a;simp only[mV];split
   .rename_i rm;right;have pQ:=tP h0 (a:=a) hl hf;have L8:=Y4 h0 (a:=a) hl hf;have L9:=ap' h0 (a:=a) hl;have hi4:=Fc h0 (bd l) l a fin hl hf;have hi5:=Xd h0 (bd l) l a fin hl hf;revert rm;unfold jK;split
    .split
     .intro h;simp at h
     .intro _;exact pQ
    split
    .split
     .intro _;exact L8
     .intro h;simp at h
    split
    .split
     .simp only;intro h
      rcases L9 with e | e
      .omega
      .exact e
     .intro _;exact pQ
    .have T5:In N (if k=114 then hZ (bd l) l a fin else fz (bd l) l a fin).pos:=by
      split
      .exact hi5
      .exact hi4
     generalize (if k=114 then hZ (bd l) l a fin else fz (bd l) l a fin)=g at T5;simp only;split
     .intro _;exact T5
     .intro h;simp at h
   .exact ih _ _
 cases l with
 | nil=>exact .inl ⟨rfl,rfl⟩
 | cons t ts =>
  unfold t_;simp only;generalize (if t.tok.kind=97 then kN t.tok.aq 15 1 0 else 0)=op;split
  .exact .inr ⟨rfl,rfl,(hl t (by simp)).pos⟩
  .split
   .rename_i rm;refine .inr ⟨rfl,rfl,?_⟩;exact(hpr _ _ _).resolve_left (Int.not_lt.mpr rm)
   .split
    .exact .inr ⟨rfl,rfl,tP h0 hl hf⟩
    .exact .inl ⟨rfl,rfl⟩
def afj(s:List UInt8):(∃c,cM s=(c,0,0))\/∃k a,cM s=(.zero,k,a)/\(k=1\/k=2)/\0<=a/\a<=(s.length:Nat):=by
 rw[W6];unfold Bm;have hl:=Vd s;have ht:=Vm s;cases h1:(dv s).2 with
 | some a=>exact .inr ⟨1,a,rfl,.inl rfl,hl.2 a h1⟩
 | none =>
  simp only;cases h2:(gf (dv s).1).2 with
  | some a=>exact .inr ⟨2,a,rfl,.inr rfl,ht.2 a h2⟩
  | none =>
   simp only;have hc:=acz (N:=(s.length:Nat)) (by omega) ht.1 (fin:=(s.length:Nat)) ⟨by omega,by omega⟩;generalize t_ (gf (dv s).1).1 (s.length:Nat)=R at hc ⊢;obtain⟨c,k,a⟩:=R;simp only at hc
   rcases hc with ⟨rfl,rfl⟩ | ⟨rfl,rfl,h⟩
   .exact .inl ⟨c,rfl⟩
   .exact .inr ⟨2,a,rfl,.inr rfl,h⟩
section
variable {Y:Int->Int} {s:aN} {c:az}
def K4:(jF s (c.mp Y)).cls=0↔(jF s c).cls=0:=by rw[jF,jF,acy,U']
def alx:kn s (c.mp Y)=kn s c:=by
 rw[kn,kn,arY,sV.2 K4];rfl
def aad(h:kn s c=ab):mN s (c.mp Y)=mN s c:=by
 have hF:=M5.1 h;have e:c8 s (c.mp Y)=c8 s c:=rfl;unfold mN;rw[e]
 by_cases h8:c.op=8
 .have Lq : (c.mp Y).op=8:=h8;rw[aE h8,aE Lq];obtain⟨q1,q2⟩:=hF.labels h8;have k2:c.right.kind=1\/0<c.right.aj.length:=by
   rcases hF.right h8 with k | k
   .exact .inl k
   .exact .inr (by rw[Fb q2 k];omega)
  have e1:nq s (c8 s c) (c.mp Y).left=nq s (c8 s c) c.left:=by
   show nq s (c8 s c) (c.left.mp Y)=_;rw[nq,nq,Il,acI _ q1]
  have e2:rW s (c8 s c).toNat (c.mp Y).right=rW s (c8 s c).toNat c.right:=QU k2;rw[e1,e2]
 .have Lq : ¬(c.mp Y).op=8:=h8;rw[aA h8,aA Lq]
  by_cases h9:c.op=9
  .have Ej : (c.mp Y).op=9:=h9;rw[aE h9,aE Ej];obtain⟨q1,q2⟩:=hF.rows h9;have e1:mZ s (c8 s c).toNat (c.mp Y).left=mZ s (c8 s c).toNat c.left:=Xl (I5 q1);have e2:mZ s (c8 s c).toNat (c.mp Y).right=mZ s (c8 s c).toNat c.right:=Xl (I5 q2);rw[e1,e2]
  .have Ej : ¬(c.mp Y).op=9:=h9;rw[aA h9,aA Ej];have jt:c.op=10:=by have:=hF.op;omega
   obtain⟨w,hw,_⟩:=hF.one jt;have e1:((c.mp Y).an.getD 0 ⟨[],0⟩).aq=(c.an.getD 0 ⟨[],0⟩).aq:=by simp only[az.mp,hw];rfl
   rw[e1];rfl
def yr(s:aN)(c:az):d_:=if kn s c then mN s c else .zero
def QP:yr s (c.mp Y)=yr s c:=by
 unfold yr;rw[alx];split
 .rename_i h;exact aad h
 .rfl
def OU:∀{a b:List aB},ey a b=ab->a.map (aB.mp λ_=>0)=b.map (aB.mp λ_=>0)
 | [],[],_=>rfl
 | [],_::_,h=>by simp[ey] at h
 | _::_,[],h=>by simp[ey] at h
 | w :: ws, u :: us, h => by
  simp only[ey,bF,cn] at h;rw[ch,ch,OU h.2,aB.mp,aB.mp,h.1]
mutual
def OS:∀{n m:Nd},n.c9 m=ab->n.mp (λ_=>0)=m.mp λ_=>0
 | .mk k p t ws ks, .mk k' p' t' ws' ks', h => by
  rw[Nd.c9] at h;simp only[bF,Nd.kind,Nd.aq,Nd.an,Nd.aj] at h;obtain⟨⟨⟨h1,h2⟩,h3⟩,h4⟩:=h;have h1:=NX h1;have h2:=NX h2;rw[Nd.mp,Nd.mp,h1,h2,OU h3,XE h4]
def XE:∀{a b:List Nd},dP a b=ab->zk (λ_=>0) a=zk (λ_=>0) b
 | [],[],_=>rfl
 | [],_::_,h=>by simp[dP] at h
 | _::_,[],h=>by simp[dP] at h
 | n :: ns, m :: ms, h => by
  simp only[dP,bF] at h;rw[zk,zk,OS h.1,XE h.2]
end
def XH:∀{a b:List (aB × aB)},lW a b=ab->a.map (λp=>(p.1.mp λ_=>0,p.2.mp λ_=>0))=b.map λp=>(p.1.mp λ_=>0,p.2.mp λ_=>0)
 | [],[],_=>rfl
 | [],_::_,h=>by simp[lW] at h
 | _::_,[],h=>by simp[lW] at h
 | p :: ps, q :: qs, h => by
  simp only[lW,bF,cn] at h;rw[ch,ch,XH h.2];simp only[aB.mp,h.1.1,h.1.2]
def XD{c d:az}(h:c.c9 d=ab):c.mp (λ_=>0)=d.mp λ_=>0:=by
 simp only[az.c9,bF,cn] at h;obtain⟨⟨⟨⟨⟨h1,h2⟩,h3⟩,h4⟩,h5⟩,h6⟩:=h;simp only[az.mp,h1,OS h5,OS h6,XH h4,OU h3];simp only[aB.mp,h2]
def XX:(jO s (c.mp Y)).cls=0↔(jO s c).cls=0:=by
 have e:(c.mp Y).op=c.op:=rfl;rw[jO,jO,e];split
 .rw[asO,U']
 .rfl
def Hl{r:Rm}:(fI (j_ s r c)).cls=0↔(jO s c).cls=0/\(jF s c).cls=0/\jc r c=ak/\¬(c.op=12/\r.cq<=1):=by
 rw[Nm,j_];simp only[jC,lF,Gp,Fx];constructor
 .intro h;refine⟨h _ (.inl (.inl (.inl rfl))),h _ (.inl (.inl (.inr rfl))),?_,λh2=>?_⟩
  .cases hl:jc r c with
   | false=>rfl
   | true=>have:=h ⟨7,c.pos⟩ (.inl (.inr (by rw[ek,hl];simp)));simp at this
  .have:=h ⟨8,c.pos⟩ (.inr (by rw[ek,aJ h2.1,aJ h2.2];simp));simp at this
 .rintro⟨h1,h2,h3,h4⟩ f (((rfl | rfl) | hf) | hf)
  .exact h1
  .exact h2
  .rw[ek,h3] at hf;simp at hf
  .have:(decide (c.op=12)&&decide (r.cq<=1))=false:=by
    cases hb:(decide (c.op=12)&&decide (r.cq<=1)) with
    | false=>rfl
    | true=>simp only[bF,cn] at hb;exact absurd hb h4
   rw[ek,this] at hf;simp at hf
def am4{r:Rm}{c d:az}(h:c.c9 d=ab):jc r d=jc r c:=by
 have ho:c.op=d.op:=by simp only[az.c9,bF,cn] at h;exact h.1.1.1.1.1
 rw[jc,jc,<-asK h,ho]
def afK{r:Rm}{c d:az}(h:c.c9 d=ab)(hf:(fI (j_ s r c)).cls=0):(fI (j_ s r d)).cls=0:=by
 have e:=XD h;have ho:c.op=d.op:=by simp only[az.c9,bF,cn] at h;exact h.1.1.1.1.1
 obtain⟨h1,h2,h3,h4⟩:=Hl.1 hf;refine Hl.2 ⟨?_,?_,by rw[am4 h];exact h3,by rw[<-ho];exact h4⟩
 .rw[<-XX (Y:=λ_=>0),<-e,XX];exact h1
 .rw[<-K4 (Y:=λ_=>0),<-e,K4];exact h2
def aae{c d:az}(h:c.c9 d=ab):yr s d=yr s c:=by
 rw[<-QP (Y:=λ_=>0) (c:=d),<-XD h,QP]
variable{t:List UInt8}
def at7{r:Rm}(h:(lP s r t).2.2.cls=0):(cM t).2=(0,0)/\lP s r t=((cM t).1,yr s (cM t).1,.zero) /\
 ∃d,cM (eJ (cM t).1)=(d,0,0)/\(cM t).1.c9 d=ab/\lP s r (eJ (cM t).1)=(d,yr s (cM t).1,.zero):=by
 by_cases hr:(cM t).2.1=0
 case neg=>rw[Nu hr] at h;exact absurd h hr
 by_cases hf:(fI (j_ s r (cM t).1)).cls=0
 case neg=>rw[Ix hr hf] at h;exact absurd h hf
 rcases afj t with ⟨c,hc⟩ | ⟨k,a,hc,hk,_⟩
 case inr=>rw[hc] at hr;simp only at hr;omega
 have hl:=C4 hr hf;rw[hc] at hf hl ⊢;obtain⟨a1,a2,_⟩:=QG hc;obtain⟨_,l2,_⟩:=arJ a1;obtain⟨d,e1,e2⟩:=l2 a2;refine⟨rfl,hl,d,e1,e2,?_⟩;have h0:(cM (eJ c)).2.1=0:=by rw[e1]
 have h1:(fI (j_ s r (cM (eJ c)).1)).cls=0:=by rw[e1];exact afK e2 hf
 rw[C4 h0 h1,e1];show(d,yr s d,aQ.zero)=_;rw[aae e2]
end
structure CB(B:Nat)(c:az):Prop where
 ns:fu c.an<=B
 ps:c.bA.length<=B
 l:c.left.wt<=B
 r:c.right.wt<=B
 nm:c.name.aq.length<=B
 pt:kR c.bA<=34*B
def R8(h:iU r r' seg):jA seg<=jA r.l:=by
 obtain⟨pre,post,e,_,_⟩:=h.ex;rw[e,xU,xU];omega
def PB(hg:fe r.l)(hb:r.aG=ag):r.word.1.aq.length<=16:=by
 cases h:(r.take 97).2.aG with
 | none=>exact Pf ((po h).1.lf hg).1
 | some b =>
  have:(r.take 97).1 = .zero:=by
   unfold ae.take at h ⊢;split
   .rename_i hs;rw[aE hs] at h;simp[hb] at h
   .rfl
  simp[ae.word,this,al.zero,al.tok]
def Y1(hg:fe r.l):r.word.1.aq.length<=16:=by
 cases hb:r.aG with
 | none=>exact PB hg hb
 | some a =>
  have:r.bW 97=false:=by simp[ae.bW,ae.ok,hb]
  simp[ae.word,ae.take,this,al.zero,al.tok]
def WM{l:List (aB × aB)}{p:aB × aB}:kR (l++[p])=kR l+(p.1.aq.length+p.2.aq.length+2):=by simp[kR]
def Wg:∀(n:Nat) (i:ae) (acc:List (aB × aB)),fe i.l->kR (ae.gH n i acc).2<=kR acc+34*n
 | 0,_,_,_=>by simp[ae.gH]
 | n + 1, i, acc, hg => by
  have e1:(i.word.2.take 60).2.l=i.l:=by rw[ae.fT];exact ae.fT i 97
  have e2:((i.word.2.take 60).2.word).2.l=i.l:=by rw[<-e1];exact ae.fT _ 97
  have w1:=Y1 hg;have w2:((i.word.2.take 60).2.word).1.aq.length<=16:=Y1 (by rw[e1];exact hg);simp only[ae.gH];split
  .simp only;omega
  .split
   .simp only[WM];omega
   .have:=Wg n (((i.word.2.take 60).2.word).2.take 44).2 (acc++[(i.word.1,((i.word.2.take 60).2.word).1)]) (by rw[ae.fT,e2];exact hg)
    simp only[WM] at this;omega
def atZ{k:Int}(hg:fe r.l):fe (r.take k).1.aj:=by
 cases h:(r.take k).2.aG with
 | none=>exact((yI _).1 ((po h).1.lf hg).1).2.2
 | some b =>
  have:(r.take k).1.aj=[]:=by
   rcases r.uY k with ⟨_,_,hb,_⟩ | ⟨hs,_⟩
   .rw[h] at hb;simp at hb
   .simp[ae.take,hs,al.zero,al.aj]
  rw[this];trivial
def We:∀(n:Nat) (i:ae) (acc:List (aB × aB)),(ae.gH n i acc).2.length<=acc.length+n
 | 0,_,_=>by simp[ae.gH]
 | n + 1, i, acc => by
  simp only[ae.gH];split
  .simp only;omega
  .split
   .simp
   .have:=We n (((i.word.2.take 60).2.word).2.take 44).2 (acc++[(i.word.1,((i.word.2.take 60).2.word).1)])
    simp only[bP,dB,eM] at this;omega
variable{B:Nat}
def VX(h:CB B c){g:Nd × Int × Option Int}(hg:g.1.wt<=B):CB B (jw r c g).2:=by
 unfold jw;cases g.2.2 with
 | some a=>exact h
 | none =>
  simp only;split
  .exact⟨h.ns,h.ps,hg,h.r,h.nm,h.pt⟩
  .exact⟨h.ns,h.ps,h.l,hg,h.nm,h.pt⟩
def W5{one:ae->Nd × ae}(hs:Sound one Nd.dy Q SN)(hg:fe l)(a fin:Int):(fN one l a fin).1.wt<=jA l+4:=by
 unfold fN;cases hb:(one ⟨l,a,fin,ag⟩).2.aG with
 | some b=>simp only[JH];omega
 | none =>
  obtain⟨seg,e1,_,_,e4⟩:=hs ⟨l,a,fin,ag⟩ hg hb
  have:=R8 e1
  simp only[SN] at e4 this ⊢;omega
def aqj(hg:fe x.1.l)(hB:jA x.1.l+20<=B)(h:CB B x.2):CB B (dp k x).2:=by
 obtain⟨r,c⟩:=x;simp only at hg hB h;unfold dp;simp only;split
 .exact h
 rename_i hb;have hb:r.aG=none:=by simpa using hb
 split
 .exact⟨h.ns,h.ps,h.l,h.r,by have:=PB hg hb;simp only;omega,h.pt⟩
 split
 .refine⟨?_,h.ps,h.l,h.r,h.nm,h.pt⟩
  have:=PB hg hb
  simp[fu];omega
 split
 .refine⟨?_,h.ps,h.l,h.r,h.nm,h.pt⟩;show fu (jS r.l r.at_ r.fin).1<=B;unfold jS;cases hw:((⟨r.l,r.at_,r.fin,ag⟩:ae).words ak).2.aG with
  | some b=>simp[fu]
  | none =>
   obtain⟨t,e1,_,_,_,e5⟩:=PC (r:=⟨r.l,r.at_,r.fin,ag⟩) hg hw
   have:=R8 e1
   simp only at this ⊢;omega
 split
 .unfold p9;simp only;split
  .exact⟨h.ns,h.ps,h.l,h.r,h.nm,h.pt⟩
  .have g1:=Wg ((r.take 123).1.aj.length+1) (r.take 123).1.inner [] (atZ hg);have g2:=gm (r.take 123).1.aj;have g3:=(r.wz 123).1;refine⟨h.ns,?_,h.l,h.r,h.nm,by simp only[jA,kR,fh,sR] at hB g1 ⊢;omega⟩;have h1:=We ((r.take 123).1.aj.length+1) (r.take 123).1.inner [];have h2:=gm (r.take 123).1.aj;have h3:=(r.wz 123).1;simp only[jA,eM] at hB h1 ⊢;omega
 split
 .exact VX h (by have:=W5 (Im (bd r.l)) hg r.at_ r.fin;omega)
 split
 .exact VX h (by have:=W5 (Xg (bd r.l)) hg r.at_ r.fin;omega)
 .exact h
def Wq{B:Nat}{l:List al}{fin:Int}(hg:fe l)(hB:jA l+20<=B):∀(ks:List UInt8) (x:ae × az),ky l fin x->CB B x.2->CB B (iQ ks x).2
 | [],_,_,h=>h
 | k::ks,x,hi,h=>Wq hg hB ks _ (Wj hi k) (aqj (by rw[hi.hl];exact hg) (by rw[hi.hl];exact hB) h)
def DB(h:4<=B):CB B az.zero:=⟨by simp[az.zero,fu],by simp[az.zero],by simp only[az.zero,JH];omega,by simp only[az.zero,JH];omega,by simp[az.zero],by simp[az.zero,kR]⟩
def aeF(h4:4<=B)(h:CB B x.2):CB B (w7 x).1:=by
 unfold w7;split
 .exact DB h4
 .exact h
def acC{fin:Int}(hg:fe l)(hB:jA l+20<=B):CB B (tZ l fin).1:=by
 unfold tZ;split
 .exact DB (by omega)
 .rename_i t ts;simp only;split
  .exact DB (by omega)
  .refine aeF (by omega) (Wq hg hB _ _ (fin:=fin) ?_ ?_)
   .exact ky.goes (x:=(⟨t::ts,0,fin,ag⟩,az.zero)) ⟨rfl,rfl,by simp,by simp only;omega,λ_=>by simp only;omega⟩ rfl (yH _) (FW _ 97)
   .have h:=DB (B:=B) (by omega);exact⟨h.ns,h.ps,h.l,h.r,h.nm,h.pt⟩
def arK(s:List UInt8):CB (26*s.length+20) (cM s).1:=by
 unfold cM;rw[Bz];split
 .exact DB (by omega)
 .split
  .exact DB (by omega)
  .refine acC (Vn s) ?_
   have:=Nv s
   simp only[jA];omega
def rV(s:aN)(c:az):aN :=
 if (jO s c).cls≠0 then s
 else if lr c.op then ⟨s.bz++[⟨c.name.aq,tO s c⟩],s.vars⟩
 else if mF c.op then ⟨s.bz,s.vars++c.an.map λw=>⟨w.aq,if c.op=7 then 2 else 1,dJ (i_ s.bz c.name.aq)⟩⟩
 else s
structure Lv where
 ib:aN
 iW:List d_
 lines:List (List UInt8)
 bytes:Int
structure fP where
 live:Lv
 cq:List Lv
def Lv.zero:Lv:=⟨⟨[],[]⟩,[],[],0⟩
def fP.zero:fP:=⟨.zero,[]⟩
def Bt(l:Lv)(c:az)(a:d_):Lv :=
 if a.op≠0 then ⟨l.ib,l.iW++[a],l.lines++[eJ c],l.bytes+((eJ c).length+1:Nat)⟩
 else ⟨rV l.ib c,l.iW,l.lines++[eJ c],l.bytes+((eJ c).length+1:Nat)⟩
def ft(s:fP):Rm:=⟨s.live.bytes,(s.live.iW.length:Nat),((s.cq.length:Nat):Int)+1⟩
def pE(s:fP)(x:az × d_ × aQ):fP :=
 if x.2.2.cls≠0 then s
 else if rL x.1.op then ⟨Bt s.live x.1 x.2.1,s.cq⟩
 else if x.1.op=11 then ⟨s.live,s.cq++[s.live]⟩
 else if x.1.op=12 then(match s.cq.getLast? with | some l=>⟨l,s.cq.dropLast⟩ | none=>s)
 else s
def fJ(s:fP)(t:List UInt8):az × d_ × aQ:=lP s.live.ib (ft s) t
def jo(s:fP)(t:List UInt8):fP:=pE s (fJ s t)
def lQ(l:List (List UInt8)):Nat:=(l.map λt=>t.length+1).sum
variable{t:List UInt8}
def anE{l:List (List UInt8)}:lQ (l++[t])=lQ l+(t.length+1):=by simp[lQ]
def IF:∀{l:List (List UInt8)},l.length<=lQ l
 | []=>by simp[lQ]
 | t::l=>by have:=@IF l;simp only[lQ,ch,n7,dB] at this ⊢;omega
structure BW(x:d_):Prop where
 c:x.code.length<=100000
 a:x.a.fs.length<=100000
 b:x.b.fs.length<=100000
structure Lv.ok(l:Lv):Prop where
 s:l.ib.wj
 n:l.ib.bz.length<=16
 v:l.ib.vars.length<=64
 m:l.iW.length<=64
 a:∀a∈l.iW,BW a
 b:l.bytes=(lQ l.lines:Nat)
 t:lQ l.lines<=16384
structure fP.ok(s:fP):Prop where
 l:s.live.ok
 f:∀l∈s.cq,l.ok
 n:s.cq.length<=15
def anM:Lv.zero.ok:=⟨⟨⟨by simp[Lv.zero],by simp[Lv.zero],by simp[Lv.zero]⟩,by simp[Lv.zero]⟩,by simp[Lv.zero],by simp[Lv.zero],by simp[Lv.zero],by simp[Lv.zero],by simp[Lv.zero,lQ],by simp[Lv.zero,lQ]⟩
def Yw:fP.zero.ok:=⟨anM,by simp[fP.zero],by simp[fP.zero]⟩
variable{s:aN}
def Vk(h:(lr c.op||mF c.op)=ab)(hf:(jO s c).cls=0):∀f∈mS s c,f.cls=0:=λf hm=>by
 rw[jO,aE h] at hf;exact(Nn hf).2 f (by rw[wq];exact List.mem_append_right _ hm)
def amZ(h:lr c.op=ab)(hf:(jO s c).cls=0):s.bz.length<16/\(c.op=3->(qO s c).bQ.length<=8):=by
 have hl:=Vk (by rw[h];rfl) hf;have xd:¬(c.op=6\/c.op=7):=λe=>by rcases e with e | e<;>simp[lr,e] at h
 rw[mS,aA xd] at hl;have hb:∀{b:Bool},(∀f∈ek b 7 c.pos,f.cls=0)->b=false:=λ{b} hh=>by
  cases b with
  | false=>rfl
  | true=>have:=hh ⟨7,c.pos⟩ (by simp[ek]);simp at this
 have:=hb hl
 simp only[BN,Ao] at this;refine⟨by omega,λh3=>?_⟩;have h1:=this.1;rw[aE h3,aE h3] at h1;omega
def am0(h:mF c.op=ab)(hf:(jO s c).cls=0):s.vars.length+c.an.length<=64:=by
 have hl:=Vk (by rw[h];simp) hf;have xd:c.op=6\/c.op=7:=by simpa [mF] using h
 rw[mS,aE xd] at hl
 by_cases hq:(64:Int) - (s.vars.length:Nat)<(c.an.length:Nat)
 .have:=hl ⟨7,c.pos⟩ (by simp[ek,hq]);simp at this
 .omega
def amj{w:aB}{x:bC}(h:x∈qF s w):∃l∈s.bz,l.shape=x:=by
 unfold qF at h;split at h
 .rename_i k _;cases hk:s.bz[k]? with
  | none=>rw[hk] at h;simp at h
  | some y=>rw[hk] at h;simp at h;exact⟨y,sQ hk,h.symm⟩
 .simp at h
def ata(hs:s.wj)(hn:c.an.length<=100000)(h3:c.op=3->(qO s c).bQ.length<=8):(tO s c).ok/\(tO s c).bQ.length<=100:=by
 have one:∀(k:Int) (r:Rl),(⟨ak,[⟨k,dX c.an,r⟩]⟩:bC).ok/\(⟨ak,[⟨k,dX c.an,r⟩]⟩:bC).bQ.length<=100:=λk r=>by
  refine⟨⟨by simp,λf hf=>?_⟩,by simp⟩;simp only[lF,Gp,Fx] at hf;subst hf;simp only[dX,aR];exact hn
 unfold tO;split
 .exact one _ _
 split
 .exact one _ _
 split
 .exact one _ _
 split
 .exact one _ _
 split
 .rename_i h
  have:=h3 h
  refine⟨⟨by omega,λf hf=>?_⟩,by omega⟩;simp only[qO,Dd,Qk] at hf;obtain⟨x,⟨w,_,hw⟩,hf⟩:=hf;obtain⟨l,hl,rfl⟩:=amj hw;exact(hs.1.2.2 l hl).2 f hf
 .exact⟨⟨by simp,by simp⟩,by simp⟩
def ZW(hs:s.wj)(h1:s.bz.length<=16)(h2:s.vars.length<=64)(hn:c.an.length<=100000):(rV s c).wj/\(rV s c).bz.length<=16/\(rV s c).vars.length<=64:=by
 unfold rV;split
 .exact⟨hs,h1,h2⟩
 rename_i hf;have hf:(jO s c).cls=0:=Classical.byContradiction hf;split
 .rename_i h;obtain⟨a1,a2⟩:=amZ h hf;have hp:=ata hs hn a2;have e:(s.bz++[(⟨c.name.aq,tO s c⟩:ei)]).length=s.bz.length+1:=by simp
  refine⟨⟨⟨by simp only;omega,hs.1.2.1,λl hl=>?_⟩,λl hl=>?_⟩,by simp only;omega,h2⟩
  .rcases jC.1 hl with hl | hl
   .exact hs.1.2.2 l hl
   .simp at hl;subst hl;exact hp.1
  .rcases jC.1 hl with hl | hl
   .exact hs.2 l hl
   .simp at hl;subst hl;exact hp.2
 split
 .rename_i h;have a1:=am0 h hf;refine⟨⟨⟨hs.1.1,by simp only[bP,aR];omega,hs.1.2.2⟩,hs.2⟩,h1,by simp only[bP,aR];omega⟩
 .exact⟨hs,h1,h2⟩
def Iy{r:Rm}(h:(lP s r t).2.2.cls=0):(lP s r t).1=(cM t).1/\(lP s r t).2.1=(if kn s (cM t).1 then mN s (cM t).1 else .zero)/\(lP s r t).2.2 = .zero /\
 (jO s (cM t).1).cls=0/\(jF s (cM t).1).cls=0/\jc r (cM t).1=ak/\¬((cM t).1.op=12/\r.cq<=1):=by
 by_cases hr:(cM t).2.1=0
 .by_cases hf:(fI (j_ s r (cM t).1)).cls=0
  .rw[C4 hr hf]
   have:=Hl.1 hf
   exact⟨rfl,rfl,rfl,this⟩
  .rw[Ix hr hf] at h;exact absurd h hf
 .rw[Nu hr] at h;exact absurd h hr
def am3{r:Rm}(h:jc r c=ak):(rL c.op=ab->(eJ c).length<=1024/\r.bytes<=16383 - (eJ c).length)/\(vu c.op=ab->r.iW<64)/\(c.op=11->r.cq<16):=by
 simp only[jc,BN,DG,Ao] at h;obtain⟨⟨h1,h2⟩,h3⟩:=h;refine⟨λhs=>?_,λhs=>?_,λhs=>?_⟩
 .rcases h1 with h1 | h1
  .rw[hs] at h1;simp at h1
  .rw[wrap_i64 (by omega) (by omega)] at h1;exact⟨by omega,by omega⟩
 .rcases h2 with h2 | h2
  .rw[hs] at h2;simp at h2
  .omega
 .rcases h3 with h3 | h3
  .exact absurd hs h3
  .omega
def atF{l:Lv}{x:d_}(hl:l.ok)(hn:c.an.length<=100000)(hx:BW x)(ht:l.bytes<=16383 - (eJ c).length)(hm:x.op≠0->l.iW.length<64):(Bt l c x).ok:=by
 have hb:=hl.b;have e:lQ (l.lines++[eJ c])=lQ l.lines+((eJ c).length+1):=anE;unfold Bt;split
 .rename_i h
  have:=hm h
  refine⟨hl.s,hl.n,hl.v,by simp only[bP,gM];omega,λy hy=>?_,by simp only;rw[e];omega,by simp only;rw[e];omega⟩
  rcases jC.1 hy with hy | hy
  .exact hl.a y hy
  .simp at hy;subst hy;exact hx
 .obtain⟨a1,a2,a3⟩:=ZW hl.s hl.n hl.v hn;exact⟨a1,a2,a3,hl.m,hl.a,by simp only;rw[e];omega,by simp only;rw[e];omega⟩
def aaA(h:(if kn s c then mN s c else d_.zero).op≠0):vu c.op=true:=by
 split at h
 .rename_i h1
  have:=(M5.1 h1).op
  simp[vu,this.1,this.2]
 .exact absurd rfl h
def aqO{s:fP}(h:s.cq≠[]):s.cq.getLast?=aa (s.cq.getLast h):=List.getLast?_eq_some_getLast h
def adR{s:fP}(hs:s.ok)(hn:(cM t).1.an.length<=100000)(hx:BW (fJ s t).2.1):(jo s t).ok:=by
 unfold jo pE;split
 .exact hs
 rename_i h0;have h0:(lP s.live.ib (ft s) t).2.2.cls=0:=Classical.byContradiction h0;obtain⟨e1,e2,_,_,_,h5,h6⟩:=Iy h0;obtain⟨m1,m2,m3⟩:=am3 h5;have Mm := hs.n;split
 .rename_i h;have h:rL (lP s.live.ib (ft s) t).1.op=true:=h;rw[e1] at h;refine⟨atF hs.l (by rw[fJ,e1];exact hn) hx (by rw[fJ,e1];exact(m1 h).2) (λho=>?_),hs.f,hs.n⟩;rw[fJ,e2] at ho
  have:=m2 (aaA ho)
  simp only[ft] at this;omega
 split
 .rename_i h;have h:(lP s.live.ib (ft s) t).1.op=11:=h;rw[e1] at h
  have:=m3 h
  simp only[ft] at this;refine⟨hs.l,λl hl=>?_,by simp only[bP,gM];omega⟩
  rcases jC.1 hl with hl | hl
  .exact hs.f l hl
  .simp at hl;subst hl;exact hs.l
 split
 .split
  .rename_i l hl;have hm:l∈s.cq:=List.mem_of_getLast? hl;exact⟨hs.f l hm,λy hy=>hs.f y (P7 _ hy),by simp only[List.length_dropLast];omega⟩
  .exact hs
 .exact hs
def vK(l:Lv):List V:=[.sl .no 3 (l.ib.bz.map ei.enc),.sl .no 3 (l.ib.vars.map dC.enc),.sl .no 18 (l.iW.map d_.enc),.sl .no 1 (cX l.lines),.int .i64 l.bytes]
def mw(k:Tk)(s:fP):List V:=[.sl .no 3 (s.live.ib.bz.map ei.enc),.sl .no 3 (s.live.ib.vars.map dC.enc),.sl .no 18 (s.live.iW.map d_.enc),.sl .no 1 (cX s.live.lines),.int .i64 s.live.bytes,.sl k 5 (s.cq.map vK)]
def ZO(D:af)(k:Tk)(n:Nat):Prop:=match k with | .no=>False | .ba=>True | .tk t=>D.aP t=aa n
structure vo(D:af)(b:Nat)(k:Tk)(s:fP):Prop where
 b:D.box b=aa (mw k s)
 t:ZO D k s.cq.length
structure Kp(D σ' : af)(b:Nat)(k k' : Tk):Prop where
 b:∀c,c≠b->σ'.box c=D.box c
 t:∀t n,k≠.tk t->D.aP t=aa n->σ'.aP t=aa n
 c:σ'.b9=D.b9
 f:∀t,k' = .tk t->k = .tk t\/D.aP t=ag
variable{b:Nat}{D:af}
def Kp.rfl{k:Tk}:Kp D D b k k:=⟨λ_ _=>Eq.refl _,λ_ _ _ h=>h,Eq.refl _,λ_ h=>.inl h⟩
def S4:List V:=[.sl .ba 3 [],.sl .ba 3 [],.sl .ba 18 [],.sl .ba 1 [],.int .i64 0,.sl .ba 5 []]
section
variable {P:Program} {d:Option Nat} {r:List AO} {K:St->Prop} {x y:X} {st:St} {n:Bool} {H:V->Prop} {p:Pl} {o:Nat}
def NQ(n:Bool)(v w:V)(K:V->Prop):Prop:=match isNil v,w with | some g,.jd=>K (.bool (if n then !g else g)) | _,_=>False
theorem ao2:b7 P (⟨d,.r6 n x y,ag⟩::r) K st=NQ n (ev st x) (ev st y) (kL P d r K st):=rfl
def aoh:NQ n .jd .jd H=H (.bool (!n)):=by cases n<;>rfl
def aoi:NQ n (.ptr p o) .jd H=H (.bool n):=by cases n<;>rfl
end
def GI:=ah @ao2 <| ah @aoh @aoi
section
variable {x:d_}
def aai(op lat:Int)(c:V)(to:bN)(r:List V):(.int .i64 op::.int .i64 lat::c::(to.enc++r):List V).drop 12=r:=by
 obtain⟨tv,e⟩:=to;exact bp.GY (P:=λe=>(.int .i64 op::.int .i64 lat::c::((bN.mk tv e).enc++r):List V).drop 12=r) (λ_ _ _ _ _ _ _ _ _=>rfl) e
def QS(op lat:Int)(c:V)(to:bN)(r u:List V)(k:Nat):setAt (.int .i64 op::.int .i64 lat::c::(to.enc++r):List V) (12+k) u = .int .i64 op::.int .i64 lat::c::(to.enc++setAt r k u):=by
 obtain⟨tv,e⟩:=to;refine bp.GY (P:=λe=>setAt (.int .i64 op::.int .i64 lat::c::((bN.mk tv e).enc++r):List V) (12+k) u = .int .i64 op::.int .i64 lat::c::((bN.mk tv e).enc++setAt r k u)) (λ_ _ _ _ _ _ _ _ _=>?_) e;rw[DO];rfl
theorem aaW:cg 1 (x.enc.drop 2)=true:=rfl
theorem aaZ:bI ak 1 (x.enc.drop 2)=aa (.sl .no 10 (x.code.map bB.enc)):=rfl
theorem aa5:setAt x.enc 2 [.sl .no 10 (x.code.map bB.enc)]=x.enc:=rfl
def Kt:x.enc.drop 12=[.sl .no 10 (x.a.fs.map b8.enc),.int .i64 x.a.tail,.sl .no 10 (x.b.fs.map b8.enc),.int .i64 x.b.tail,.int .i64 x.v,.aF x.field]:=aai ..
def aaU:cg 1 (x.enc.drop 12)=true:=by rw[Kt];rfl
def aaX:bI ak 1 (x.enc.drop 12)=aa (.sl .no 10 (x.a.fs.map b8.enc)):=by rw[Kt];rfl
def aa3:setAt x.enc 12 [.sl .no 10 (x.a.fs.map b8.enc)]=x.enc:=QS _ _ _ _ _ _ 0
def QZ:x.enc.drop 14=[.sl .no 10 (x.b.fs.map b8.enc),.int .i64 x.b.tail,.int .i64 x.v,.aF x.field]:=by rw[show 14=12+2 from rfl,<-wL,Kt];rfl
def aaV:cg 1 (x.enc.drop 14)=true:=by rw[QZ];rfl
def aaY:bI ak 1 (x.enc.drop 14)=aa (.sl .no 10 (x.b.fs.map b8.enc)):=by rw[QZ];rfl
def aa4:setAt x.enc 14 [.sl .no 10 (x.b.fs.map b8.enc)]=x.enc:=QS _ _ _ _ _ _ 2
def aa1:x.enc.length=18:=tY
def Q2:takeN 18 x.enc=aa x.enc:=Kr
def aa2:cL x.enc=true:=Ae rfl rfl rfl
def Q1:over (cN 0 0 (.sl .ba 10 []) .zero (.sl .ba 10 []) 0 (.sl .ba 10 []) 0 0 []) x.enc=x.enc:=uL (by rw[tY];exact tY.symm)
def aa0:bI ab 18 x.enc=aa (.agg x.enc):=by rw[zg,Q2];rfl
theorem aa6:cg 18 kf=true:=rfl
def aa7:over kf x.enc=x.enc:=Q1
def kZ:=ah @aa6 <| ah @aa7 <| ah @aaW <| ah @aaZ <| ah @aa5 <| ah @aaU <| ah @aaX <| ah @aa3 <| ah @aaV <| ah @aaY <| ah @aa4 <| ah @aa1 <| ah @Q2 <| ah @aa2 <| ah @Q1 <| ah @aa0 <| ah @d_.dO @d_.dV
end
def qT(l:List (List UInt8)):List UInt8:=l.flatMap λt=>t++[10]
def YG:∀{l:List (List UInt8)},(qT l).length=lQ l
 | []=>rfl
 | t::l=>by have:=@YG l;simp only[qT,lQ,qX,bP,gM,ch,n7] at this ⊢;omega
def at5{l:List (List UInt8)}:qT (l++[t])=qT l++t++[10]:=by simp[qT]
def YH{l:List (List UInt8)}{i:Nat}(h:i<l.length):qT (l.take (i+1))=qT (l.take i)++l[i]++[10]:=by rw[jl h,at5]
def anF{a b:List (List UInt8)}:lQ (a++b)=lQ a+lQ b:=by simp[lQ]
def anG{l:List (List UInt8)}{i:Nat}:lQ (l.take i)<=lQ l:=by
 have h:=@anF (l.take i) (l.drop i);rw[rQ] at h;omega
def mY:List UInt8:=[112,117,115,104]
def pf:List UInt8:=[112,111,112]
def arM:(cM mY).2.1=0/\(cM mY).1.op=11:=by decide +kernel
def arL:(cM pf).2.1=0/\(cM pf).1.op=12:=by decide +kernel
def RW{s:aN}{r:Rm}{c:az}(h:c.op=11\/c.op=12):(fI (j_ s r c)).cls=0↔jc r c=ak/\¬(c.op=12/\r.cq<=1):=by
 rw[Hl];have h1:(jO s c).cls=0:=by rcases h with h | h<;>simp[jO,lr,mF,h,aQ.zero]
 have h2:(jF s c).cls=0:=by rcases h with h | h<;>simp[jF,qq,h,fI,aQ.zero]
 simp[h1,h2]
def RX{r:Rm}(h:c.op=11\/c.op=12):jc r c=ab↔c.op=11/\16<=r.cq:=by
 rcases h with h | h<;>simp[jc,rL,vu,h]
def adT{s:fP}:((fJ s mY).2.2.cls=0/\jo s mY=⟨s.live,s.cq++[s.live]⟩)\/((fJ s mY).2.2.cls=7/\15<=s.cq.length):=by
 obtain⟨h1,h2⟩:=arM;have hf:=@RW s.live.ib (ft s) (cM mY).1 (.inl h2)
 by_cases hl:jc (ft s) (cM mY).1=ab
 .right;have h3:=(RX (.inl h2)).1 hl;have aW:(fI (j_ s.live.ib (ft s) (cM mY).1)).cls≠0:=λe=>by have:=(hf.1 e).1;rw[hl] at this;simp at this
  refine⟨?_,by have:=h3.2;simp only[ft] at this;omega⟩;have e:fJ s mY=(.zero,.zero,fI (j_ s.live.ib (ft s) (cM mY).1)):=Ix h1 aW;rw[e];have e2:j_ s.live.ib (ft s) (cM mY).1=[.zero,.zero,⟨7,(cM mY).1.pos⟩]:=by
   simp only[j_,hl,ek,cm,h2];simp[jO,lr,mF,h2,jF,qq,fI]
  rw[e2];simp[fI,k_,aQ.zero,uE]
 .left;have hz:=hf.2 ⟨by simpa using hl,λe=>by rw[h2] at e;simp at e⟩;have e:fJ s mY=_:=C4 h1 hz;have e3:(fJ s mY).1.op=11:=by rw[e];exact h2
  have e4:(fJ s mY).2.2.cls=0:=by rw[e];rfl
  refine⟨e4,?_⟩;rw[jo,pE,aA (by simp[e4]),e3];simp[rL]
def adS{s:fP}(h:s.cq≠[]):(fJ s pf).2.2 = .zero/\jo s pf=⟨s.cq.getLast h,s.cq.dropLast⟩:=by
 obtain⟨h1,h2⟩:=arL;have hf:=@RW s.live.ib (ft s) (cM pf).1 (.inr h2);have hl:jc (ft s) (cM pf).1=false:=by
  cases hl:jc (ft s) (cM pf).1 with
  | false=>rfl
  | true=>have:=((RX (.inr h2)).1 hl).1;rw[h2] at this;simp at this
 have hp:0<s.cq.length:=J6.2 h;have hz:=hf.2 ⟨hl,λe=>by have:=e.2;simp only[ft] at this;omega⟩;have e:fJ s pf=_:=C4 h1 hz;have e3:(fJ s pf).1.op=12:=by rw[e];exact h2
 have e4:(fJ s pf).2.2 = .zero:=by rw[e]
 refine⟨e4,?_⟩;rw[jo,pE,aA (by simp[e4,aQ.zero]),e3];simp[rL,aqO h]
def adQ{s:fP}{B:List Lv}(h:B <+: s.cq)(hp:(cM t).1.op=12->B.length<s.cq.length):B <+: (jo s t).cq:=by
 unfold jo pE;split
 .exact h
 rename_i h0;obtain⟨e1,-⟩:=Iy (s:=s.live.ib) (r:=ft s) (t:=t) (Classical.byContradiction h0);split
 .exact h
 split
 .exact h.trans (List.prefix_append _ _)
 split
 .rename_i ju;have ju:(lP s.live.ib (ft s) t).1.op=12:=ju;rw[e1] at ju;have aC:=hp ju;split
  .simp only;obtain⟨r,hr⟩:=h;have aW:r≠[]:=λe=>by rw[e,eK] at hr;rw[hr] at aC;omega
   refine⟨r.dropLast,?_⟩;rw[<-hr,Zw aW]
  .exact h
 .exact h
def cz.up{P:Program}{f:FuncId}{as:List V}{R S:V->af->Prop}(h:cz P f as D R)(k:∀v σ',R v σ' -> ∃sJ,bK σ' sJ /\ S v sJ):cz P f as D S :=
 ⟨h.1,λE vs h1 h2 h3=>(h.2 E vs h1 h2 h3).mono λ_ _ ⟨v',x,E',σ',a,b,c,d,e,f,g⟩=>by
  obtain⟨sJ,o,r⟩:=k _ _ g;exact⟨v',x,E',sJ,a,b,c,d.eT o,e,f,r⟩⟩
def ajz:cQ S4 (mw .ba .zero):=⟨dT.no,dT.no,dT.no,dT.no,dT.rfl,dT.rfl,trivial⟩
def XV:vo (D.set b (mw .ba .zero)) b .ba .zero:=⟨jh,trivial⟩
def DP(D:af)(k:Tk):Prop:=∀t,k = .tk t->D.aP t=ag
def Kp.sub{cU fc:af}{k k' : Tk}(h:D.sub cU)(hb:D.box b=ag)(hk:DP D k)(h2:Kp cU fc b k k'):D.sub fc/\DP D k' := by
 refine⟨⟨λc cs hc=>?_,λt n ht=>?_,λc cs hc=>?_⟩,λt e=>?_⟩
 .rw[h2.b c (λe=>by rw[e,hb] at hc;simp at hc)];exact h.1 c cs hc
 .exact h2.t t n (λe=>by rw[hk t e] at ht;simp at ht) (h.2.1 t n ht)
 .rw[h2.c];exact h.2.2 c cs hc
 .rcases h2.f t e with e1 | e1
  .exact hk t e1
  .cases hq:D.aP t with
   | none=>rfl
   | some n=>rw[h.2.1 t n hq] at e1;simp at e1
def Yy{cs:List V}(h:D.box b=ag):D.sub (D.set b cs) :=
 ⟨λc ds hc=>by rw[qS (λe=>by rw[e,h] at hc;simp at hc)];exact hc,λ_ _ h=>h,λ_ _ h=>h⟩
def vM:List (List UInt8):=[[99,104,97,105,110,32,107,32,123,97,44,98,125],[112,117,115,104],[108,97,98,101,108,32,107,32,32,123,120,125],[112,111,112]]
def pF(i:Nat):fP:=(vM.take i).foldl jo .zero
def ae7{i:Nat}(h:i<vM.length):pF (i+1)=jo (pF i) vM[i]:=by rw[pF,jl h,zT];rfl
def ae8:∀i:Fin 4,(fJ (pF i) (vM.getD i [])).2.2=⟨0,0⟩:=by decide +kernel
def So:∀t∈vM,t.length<=3000:=by decide
def ae9:(fJ (pF 4) pf).2.2=⟨8,0⟩:=by decide +kernel
def ae':qT (pF 4).live.lines=[99,104,97,105,110,32,107,32,123,97,44,98,125,10]:=by decide +kernel
def ae_:(pF 4).live.bytes=14/\(pF 4).live.iW.length=0/\(pF 4).cq.length=0:=by decide +kernel
end Go.Am
