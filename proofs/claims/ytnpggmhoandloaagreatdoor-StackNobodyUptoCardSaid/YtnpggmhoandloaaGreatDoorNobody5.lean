/-
  Part 5 of the proof of StackNobodyUptoCardSaid: a logic over the model, the forms of the functions that the law reaches, and what they compute.
-/
import Derived.Test.YtnpggmhoandloaaGreatDoorNobody4
set_option linter.unusedVariables false
set_option linter.unusedSimpArgs false
set_option linter.defProp false
set_option linter.unusedSectionVars false
set_option maxRecDepth 4000
set_option maxHeartbeats 4000000
open Option renaming some->U,none->af
open Bool renaming true->aa,false->ak
open List renaming replicate->au,range->bU,getD->gU,zipWith->lq
open Eq renaming mpr->eQ
open Ne renaming symm->fi
namespace Go.Am
variable{c:aq}
def anz(h:c.fx=aa)(h0:c.op=0):eb c=[]/\aq.zero.cK c=true:=by
 simp only[aq.fx,bC,ca] at h;obtain⟨⟨⟨⟨_,hn⟩,kS⟩,hp⟩,ht⟩:=h;have e:(cp c.op).2=[]:=by rw[h0];rfl
 have e1:(cp c.op).1=[]:=by rw[h0];rfl
 simp only[aq.mI,aq.j4,aq.k_,aq.jI,eW] at hn kS hp ht;simp[e] at hn kS hp ht;have zl:∀n:Nd,n.cK .zero=aa->Nd.zero.cK n=true:=λn h=>Nd.yn _ _ h
 refine⟨by simp[eb,kB,e,e1,jm],?_⟩;simp[aq.cK,aq.zero,h0,hn,kS,hp,dy,lf,zl _ ht.1,zl _ ht.2]
def api(h:c.fx=aa):(dR (eb c)).2=af /\
 ((gS (dR (eb c)).1).2=af->∃d,cW (eb c)=(d,0,0)/\c.cK d=aa)/\(∀a,(gS (dR (eb c)).1).2=U a->cW (eb c)=(.zero,2,a)):=by
 have h0:0<=c.op:=by simp only[aq.fx,bC,ca] at h;exact h.1.1.1.1.1
 have sN:c.op<=15:=by simp only[aq.fx,bC,ca] at h;exact h.1.1.1.1.2
 by_cases hz:c.op=0
 .obtain⟨e1,e2⟩:=anz h hz;rw[e1];refine⟨rfl,λ_=>⟨.zero,rfl,aq.yn e2⟩,λa ha=>?_⟩
  have:(gS (dR []).1).2=none:=by decide +kernel
  rw[this] at ha;simp at ha
 .have h1:1<=c.op:=by omega
  obtain⟨_,k2,_⟩:=C2 h1 sN;obtain⟨l1,l2⟩:=W3 k2 (MV h h1);obtain⟨us,f1,w1,b1⟩:=aaW h h1 l2;refine⟨l1,λhd=>?_,λa ha=>?_⟩
  .have ht:(gS (dR (eb c)).1).1=us:=by rw[<-f1] at hd ⊢;exact W9 w1 hd
   obtain⟨d,e1,e2⟩:=b1 ((eb c).length:Nat);refine⟨d,?_,aq.yn e2⟩;unfold cW;rw[Ay,l1,hd,ht];exact e1
  .unfold cW;rw[Ay,l1,ha]
mutual
def ND:∀(n m:Nd),n.cK m=aa->n.dc=m.dc
 | .mk k p t ws ks, m, h => by
  rw[Nd.Ap] at h;simp only[bC,ca] at h;obtain⟨⟨⟨h1,h2⟩,h3⟩,h4⟩:=h;rw[Ej] at h3;simp only[ca] at h3;have h5:dO (Nd.mk k p t ws ks).ah=dO m.ah:=Wf ks m.ah h4;have h6:ia (Nd.mk k p t ws ks).aj=ia m.aj:=by unfold ia;rw[h3]
  have h7:(Nd.mk k p t ws ks).aj.length=m.aj.length:=by have:=gX List.length h3;simpa using this
  rw[Nd.tL (.mk k p t ws ks),Nd.tL m,h1,h2,h5,h6]
  first | rfl | rw[h7] | skip
def Wf:∀(a b:List Nd),cZ a b=aa->dO a=dO b
 | [],[],_=>rfl
 | [],_::_,h=>by simp[cZ] at h
 | _::_,[],h=>by simp[cZ] at h
 | n :: ns, m :: ms, h => by
  simp only[cZ,bC] at h;simp only[dO,ND n m h.1,Wf ns ms h.2]
end
def Wa:∀(a b:List (aA × aA)),lf a b=aa->a.map jH=b.map jH
 | [],[],_=>rfl
 | [],_::_,h=>by simp[lf] at h
 | _::_,[],h=>by simp[lf] at h
 | p :: ps, q :: qs, h => by
  simp only[lf,bC,ca] at h;simp only[b8,jH,h.1.1,h.1.2,Wa ps qs h.2]
def aqc{a b:aq}(h:a.cK b=aa):eb a=eb b:=by
 unfold aq.cK at h;rw[Ej] at h;simp only[bC,ca] at h;obtain⟨⟨⟨⟨⟨h1,h2⟩,h3⟩,h4⟩,h5⟩,h6⟩:=h;have hp:=Wa _ _ h4;have key:∀(ks:List UInt8) (ts us:List Nd),ts.map Nd.dc=us.map Nd.dc->(lJ ks ts).map (λq=>mf q.1 a q.2)=(lJ ks us).map (λq=>mf q.1 b q.2):=by
  intro ks;induction ks with
  | nil=>intros;rfl
  | cons k ks ih =>
   intro ts us pE;have hh:(ts.headD .zero).dc=(us.headD .zero).dc:=by
    cases ts with
    | nil => cases us with
     | nil=>rfl
     | cons=>simp at pE
    | cons => cases us with
     | nil=>simp at pE
     | cons=>simp at pE;exact pE.1
   have ht:(if isTerm k=aa then ts.tail else ts).map Nd.dc=(if isTerm k=aa then us.tail else us).map Nd.dc:=by
    split
    .rw[List.map_tail,List.map_tail,pE]
    .exact pE
   simp only[lJ,b8,ih _ _ ht];congr 1;unfold mf;rw[h2,h3,hp,hh]
 rw[H5,H5,h1,key _ [a.left,a.right] [b.left,b.right] (by simp[ND _ _ h5,ND _ _ h6])]
def AV(t:Tok):Prop:=(t.kind=97/\dG t.an=aa)\/∃c:UInt8,t.kind=(c.toNat:Nat)/\t.an=[c]/\(mj (c.toNat:Nat)&&!gF c&&decide (c.toNat≠45))=aa
def aqK(c:UInt8)(h:mj (c.toNat:Nat)=aa):(mj (c.toNat:Nat)&&!gF c&&decide (c.toNat≠45))=true:=by
 have key:∀n<256,mj ((UInt8.ofNat n).toNat:Nat)=aa->(mj ((UInt8.ofNat n).toNat:Nat)&&!gF (UInt8.ofNat n)&&decide ((UInt8.ofNat n).toNat≠45))=true:=by decide +kernel
 have:=key c.toNat c.toNat_lt
 rw[UInt8.ofNat_toNat] at this;exact this h
def Hd:∀(n p:Nat) (r:List UInt8) (acc:List Tok),(∀t∈acc,AV t)->∀t∈(fe n p r acc).1,AV t
 | 0,_,r,acc,h=>by cases r<;>simpa [fe] using h
 | n+1,p,[],acc,h=>by simpa [fe] using h
 | n + 1, p, c :: r, acc, h => by
  simp only[fe];split
  .exact h
  .split
   .rename_i hr;refine Hd n _ _ _ λt ht=>?_
    rcases jw.1 ht with ht | ht
    .exact h t ht
    .rw[pj.1 ht];exact .inl ⟨rfl,hr.2⟩
   .split
    .rename_i hs;refine Hd n _ _ _ λt ht=>?_
     rcases jw.1 ht with ht | ht
     .exact h t ht
     .rw[pj.1 ht];exact .inr ⟨c,rfl,rfl,aqK c hs⟩
    .split
     .exact Hd n _ _ _ h
     .simp
def mR(l:List Tok):Nat:=(l.map λt=>t.an.length+1).sum
def Ic(a b:List Tok):mR (a++b)=mR a+mR b:=by simp[mR]
def He:∀(n p:Nat) (r:List UInt8) (acc:List Tok),mR (fe n p r acc).1<=mR acc+2*r.length
 | 0,_,r,acc=>by cases r<;>simp[fe]
 | n+1,p,[],acc=>by simp[fe]
 | n + 1, p, c :: r, acc => by
  simp only[fe];have hr:=Nr (c::r);simp only[dd] at hr ⊢;split
  .simp only;omega
  .split
   .rename_i h1
    have:=He n (p+(fq (c::r)).length) ((c::r).drop (fq (c::r)).length) (acc++[⟨97,fq (c::r),p⟩])
    simp only[Ic,IQ,dd] at this;simp only[mR,b8,eR,nM,rB] at this ⊢;omega
   .split
    .have:=He n (p+1) r (acc++[⟨(c.toNat:Nat),[c],p⟩])
     simp only[Ic] at this;simp only[mR,b8,eR,nM,rB,dd,eM] at this ⊢;omega
    .split
     .have:=He n (p+1) r acc;omega
     .simp[mR]
def TO:∀(toks:List Tok) (k:Option Int),(∀t∈toks,AV t)->lV (iQ k toks) (toks.map Tok.sh)/\(k=U 97->Stop (iQ k toks))
 | [],k,_=>⟨lex_nil,λ_=>trivial⟩
 | t :: ts, k, h => by
  obtain⟨h1,h2⟩:=TO ts (U t.kind) λx hx=>h x (by simp[hx])
  rcases h t (by simp) with ⟨hk,hn⟩ | ⟨c,hk,ht,hc⟩
  .have hl:lV (t.an++iQ (U t.kind) ts) ((t::ts).map Tok.sh):=by
    have:=TI hn (h2 (by rw[hk])) h1
    have e:t.sh=fG t.an:=by unfold Tok.sh fG;rw[hk]
    rw[b8,e];exact this
   by_cases KT:k=U 97
   .have e:iQ k (t::ts)=[32]++(t.an++iQ (U t.kind) ts):=by simp[iQ,KT,hk]
    rw[e];exact⟨TM hl,λ_=>show gF 32=ak by decide⟩
   .have e:iQ k (t::ts)=t.an++iQ (U t.kind) ts:=by simp[iQ,KT]
    rw[e];exact⟨hl,λh=>absurd h KT⟩
  .simp only[bC,tR,ca] at hc;have gi:t.kind≠97:=λe=>by
    have h3:=hc.1.1;rw[<-hk,e] at h3;revert h3;decide
   have e:iQ k (t::ts)=[c]++iQ (U t.kind) ts:=by simp[iQ,gi,ht]
   rw[e];have es:t.sh=bG c:=by unfold Tok.sh bG;rw[hk,ht]
   rw[b8,es];exact⟨TK hc.1.1 hc.1.2 hc.2 h1,λ_=>hc.1.2⟩
def akE{s:List UInt8}{a b:List Sh}(h:lV s a)(k:lV s b):a=b:=by
 obtain⟨x,e1,e2⟩:=h s.length 0 [] (bP _);obtain⟨y,f1,f2⟩:=k s.length 0 [] (bP _);rw[e1] at f1
 have:x=y:=by simpa using f1
 rw[<-e2,<-f2,this]
variable{toks:List Tok}
def WC{T:List UInt8}{S:List Sh}(h:∀t∈toks,AV t)(hL:jL T S)(ht:eZ toks=T):toks.map Tok.sh=S:=by
 have h1:lV (T++[]) (S++[]):=hL [] [] trivial lex_nil;rw[eD,eD,<-ht] at h1;exact akE (TO toks af h).1 h1
def N3:∀(toks:List Tok) (k:Option Int),(iQ k toks).length<=mR toks
 | [],k=>by simp[iQ]
 | t :: ts, k => by
  have:=N3 ts (U t.kind)
  simp only[iQ,bN,mR,b8,nM] at this ⊢;split<;>simp<;>omega
def aru(h:toks≠[]):(eZ toks).length+1<=mR toks:=by
 cases toks with
 | nil=>exact absurd rfl h
 | cons t ts =>
  have:=N3 ts (U t.kind)
  simp only[eZ,iQ,bN,mR,b8,nM,reduceCtorEq,CW,cn,eM] at this ⊢;omega
def ajX{l m:List Tok}(h:l.map Tok.kind=m.map Tok.kind)(i:Nat):eP l i=eP m i:=by
 have e:∀x:List Tok,eP x i=((x.map Tok.kind)[i]?).getD 0:=λx=>by
  unfold eP;rw[vt];cases x[i]?<;>rfl
 rw[e,e,h]
def Q3{l m:List Tok}(h:l.map Tok.kind=m.map Tok.kind):∀n i o,pw l n i o=pw m n i o
 | 0,_,_=>rfl
 | n + 1, i, o => by
  have hk:eP l=eP m:=funext (ajX h);have ih:pw l n=pw m n:=funext λi=>funext λo=>Q3 h n i o
  simp only[pw,hk,ih]
def arE{l m:List Tok}(h:l.map Tok.sh=m.map Tok.sh)(hn:(gS l).2=af):(gS m).2=none:=by
 have hk:l.map Tok.kind=m.map Tok.kind:=by
  have:=gX (List.map Prod.fst) h
  simpa [Cs,vq,Tok.sh] using this
 have hl:l.length=m.length:=by simpa using gX List.length h
 unfold gS at hn ⊢;rw[Q3 hk,hl] at hn;split
 .rename_i h0;rw[aE h0] at hn;simp at hn
 .rfl
variable{r r':ab}{seg:List ar}
def Jy(h:ib r r' seg):0<=r.at_/\r'.at_=r.at_+(seg.length:Nat)/\r'.at_<=(r.l.length:Nat):=by
 obtain⟨pre,post,e1,e2,e3⟩:=h.ex;rw[e1,e2,e3];simp only[bN];refine⟨?_,?_,?_⟩<;>omega
def FQ(h:ib r r' seg)(hg:eC r.l):eC r'.l:=by rw[h.l];exact hg
def ajB(x y:List UInt8)(l:List (List UInt8)):cB (x::y::l)=x++[44]++cB (y::l):=by simp[cB]
def acj{t:ar}{i:ab}(h:ib t.inner i seg)(he:i.at_=(t.ah.length:Nat)):seg=t.ah:=by
 obtain⟨pre,post,e1,e2,e3⟩:=h.ex;have e0:t.inner.at_=0:=rfl;have el:t.inner.l=t.ah:=rfl;rw[e0] at e2;have hp:pre=[]:=jv.1 (by omega);subst hp;rw[el] at e1;have hq:post=[]:=by
  rw[e3,e1] at he;simp only[gd,bN] at he;exact jv.1 (by omega)
 subst hq;simpa using e1.symm
def US:∀(n:Nat) (i:ab) (acc:List (aA × aA)),eC i.l->i.at_<=(i.l.length:Nat)->(i.l.length:Int)<n+i.at_->(ab.fW n i acc).1.aG=af ->
 ∃seg ps,ib i (ab.fW n i acc).1 seg/\(ab.fW n i acc).2=acc++ps/\ps≠[]/\eZ (bn seg)=cB (ps.map jH)/\ps.all np=aa/\(ab.fW n i acc).1.at_=(i.l.length:Nat)
 | 0,i,acc,_,h1,h2,_=>by omega
 | n + 1, i, acc, hg, h1, h2, hb => by
  have GC:i.aG=none:=by
   cases hq:i.aG with
   | none=>rfl
   | some b=>have:=yi hq (n+1) acc;rw[hb] at this;simp at this
  have one:∀(hc:((i.word.2.take 60).2.word).2.aG=af),∃seg,ib i ((i.word.2.take 60).2.word).2 seg/\0<seg.length/\eZ (bn seg)=jH (i.word.1,((i.word.2.take 60).2.word).1)/\np (i.word.1,((i.word.2.take 60).2.word).1)=true:=by
   intro hc;have l1:i.word.2.l=i.l:=i.fy 97;have l2:(i.word.2.take 60).2.l=i.l:=(ab.fy _ 60).trans l1;obtain⟨s3,QH,e32,e33,_⟩:=vm (i.word.2.take 60).2 (by rw[l2];exact hg) hc;obtain⟨c1,c2⟩:=nD QH.b;obtain⟨s1,e11,e12,e13,_⟩:=vm i hg c1.b;have mB:=(c1.kl (by rw[l1];exact hg)).1;refine⟨s1++[(i.word.2.take 60).1]++s3,(e11.trans c1).trans QH,by simp only[bN,gC];omega,?_,?_⟩
   .rw[wM (by rw[c2];decide) (by rw[c2];rfl),e12,e32,qu mB c2 (by decide)];rfl
   .simp[np,e13,e33]
  simp only[ab.fW] at hb ⊢;rw[aC (by simp[GC])] at hb ⊢;split
  .rename_i iv;rw[aE iv] at hb;obtain⟨seg,e1,_,e2,e3⟩:=one hb;refine⟨seg,[(i.word.1,((i.word.2.take 60).2.word).1)],e1,rfl,by simp,?_,?_,iv⟩
   .rw[e2];simp[cB]
   .simp[e3]
  .rename_i iv;rw[aC iv] at hb;have hq:(((i.word.2.take 60).2.word).2.take 44).2.aG=none:=by
    cases hq:(((i.word.2.take 60).2.word).2.take 44).2.aG with
    | none=>rfl
    | some b=>have:=yi hq n (acc++[(i.word.1,((i.word.2.take 60).2.word).1)]);rw[hb] at this;simp at this
   obtain⟨c1,c2⟩:=nD hq;obtain⟨seg,e1,e0,e2,e3⟩:=one c1.b;have et:=e1.trans c1;have mB:=(c1.kl (FQ e1 hg)).1;obtain⟨a1,a2,a3⟩:=Jy et;have hl:(((i.word.2.take 60).2.word).2.take 44).2.l=i.l:=et.l;simp only[bN,gC] at a2;obtain⟨sg,ps,g1,g2,g3,g4,g5,g6⟩:=US n (((i.word.2.take 60).2.word).2.take 44).2 (acc++[(i.word.1,((i.word.2.take 60).2.word).1)]) (FQ et hg) (by rw[hl];exact a3) (by rw[hl];omega) hb;refine⟨seg++[(((i.word.2.take 60).2.word).2.take 44).1]++sg,(i.word.1,((i.word.2.take 60).2.word).1)::ps,et.trans g1,?_,by simp,?_,?_,?_⟩
   .rw[g2];simp
   .rw[wM (by rw[c2];decide) (by rw[c2];rfl),e2,g4,qu mB c2 (by decide)];obtain⟨p,qs,rfl⟩:∃p qs,ps=p::qs:=by
     cases ps with
     | nil=>exact absurd rfl g3
     | cons p qs=>exact⟨p,qs,rfl⟩
    simp only[b8,ajB];rfl
   .rw[tT,e3,g5];rfl
   .rw[g6,hl]
def vr(k:UInt8)(seg:List ar)(c0 c1:aq):Prop :=
 (k=110/\∃w:aA,dG w.an=aa/\eZ (bn seg)=w.an/\c1={c0 with name:=w}) \/
 (k=102/\∃w:aA,dG w.an=aa/\eZ (bn seg)=w.an/\c1={c0 with aj:=[w]}) \/
 (k=119/\∃ws:List aA,0<ws.length/\hZ ws=aa/\eZ (bn seg)=[123]++ia ws++[125]/\c1={c0 with aj:=ws}) \/
 (k=112/\∃(ps:List (aA × aA)) (a:Int),ps.all np=aa/\eZ (bn seg)=ui (ps.map jH)/\c1={c0 with bm:=ps,mJ:=a}) \/
 (k=116/\∃m:Nd,m.eY=aa/\eZ (bn seg)=m.dc/\c1=if c0.left.kind=0 then {c0 with left:=m} else {c0 with right:=m}) \/
 (k=114/\∃m:Nd,m.iX=aa/\eZ (bn seg)=m.dc/\c1=if c0.left.kind=0 then {c0 with left:=m} else {c0 with right:=m})
def Wp(h:0<iP seg):seg≠[]:=λe=>by rw[e] at h;simp[iP,bd] at h
variable{Q:Nd->Prop}{l:List ar}
def Uy{a fin:Int}{one:ab->Nd × ab}(hs:Sound one Nd.dc Q SN)(hg:eC l)(hb:(iO ⟨l,a,fin,af⟩ c (fp one l a fin)).1.aG=af):
 ∃seg m,seg≠[]/\ib ⟨l,a,fin,af⟩ (iO ⟨l,a,fin,af⟩ c (fp one l a fin)).1 seg/\Q m/\eZ (bn seg)=m.dc/\(iO ⟨l,a,fin,af⟩ c (fp one l a fin)).2=if c.left.kind=0 then {c with left:=m} else {c with right:=m}:=by
 unfold fp at hb ⊢;cases hq:(one ⟨l,a,fin,af⟩).2.aG with
 | some b=>rw[hq] at hb;simp[iO] at hb
 | none =>
  obtain⟨seg,e1,e2,e3,e4⟩:=hs ⟨l,a,fin,af⟩ hg hq;refine⟨seg,_,Wp ?_,⟨e1.ex,rfl,rfl,rfl⟩,e3,e2,rfl⟩;simp only[SN] at e4;omega
variable{k:UInt8}{x:ab × aq}
def an7(hk:k=110\/k=102\/k=119\/k=112\/k=116\/k=114)(hg:eC x.1.l)(hp:k=112->x.2.bm=[])(hb:(c_ k x).1.aG=af):
 ∃seg,seg≠[]/\ib x.1 (c_ k x).1 seg/\vr k seg x.2 (c_ k x).2:=by
 obtain⟨⟨l,a,fin,aG⟩,c⟩:=x;have Lo:aG=none:=by
  cases aG with
  | none=>rfl
  | some b=>simp[c_] at hb
 subst Lo;have qY:∀(h:(⟨l,a,fin,af⟩:ab).word.2.aG=af),∃seg,seg≠[]/\ib ⟨l,a,fin,af⟩ (⟨l,a,fin,af⟩:ab).word.2 seg/\eZ (bn seg)=(⟨l,a,fin,af⟩:ab).word.1.an/\dG (⟨l,a,fin,af⟩:ab).word.1.an=true:=λh=>by
  obtain⟨seg,e1,e2,e3,e4⟩:=vm ⟨l,a,fin,af⟩ hg h;exact⟨seg,Wp (by simp only[SW] at e4;omega),e1,e2,e3⟩
 rcases hk with rfl | rfl | rfl | rfl | rfl | rfl
 .have e:c_ 110 (⟨l,a,fin,af⟩,c)=((⟨l,a,fin,af⟩:ab).word.2,{c with name:=(⟨l,a,fin,af⟩:ab).word.1}):=by simp[c_]
  rw[e] at hb ⊢;obtain⟨seg,h1,h2,h3,h4⟩:=qY hb;exact⟨seg,h1,h2,.inl ⟨rfl,_,h4,h3,rfl⟩⟩
 .have e:c_ 102 (⟨l,a,fin,af⟩,c)=((⟨l,a,fin,af⟩:ab).word.2,{c with aj:=[(⟨l,a,fin,af⟩:ab).word.1]}):=by simp[c_]
  rw[e] at hb ⊢;obtain⟨seg,h1,h2,h3,h4⟩:=qY hb;exact⟨seg,h1,h2,.inr (.inl ⟨rfl,_,h4,h3,rfl⟩)⟩
 .have e:c_ 119 (⟨l,a,fin,af⟩,c)=(⟨l,a+1,fin,(ja l a fin).2⟩,{c with aj:=(ja l a fin).1}):=by simp[c_]
  rw[e] at hb ⊢;have hw:((⟨l,a,fin,af⟩:ab).words ak).2.aG=none:=by
   cases hq:((⟨l,a,fin,af⟩:ab).words ak).2.aG with
   | none=>rfl
   | some b=>simp[ja,hq] at hb
  have ew:ja l a fin=(((⟨l,a,fin,af⟩:ab).words ak).1.1,af):=by simp[ja,hw]
  obtain⟨t,b1,b2,b3,b4,_,b6⟩:=Jb (one:=ab.word) vm (k:=123) (e:=false) (r:=⟨l,a,fin,af⟩) hg hw;have lA:=(b1.kl hg).1;rw[ew];refine⟨[t],by simp,?_,.inr (.inr (.inl ⟨rfl,_,b6 rfl,Nl b4,?_,rfl⟩))⟩
  .obtain⟨pre,post,e1,e2,e3⟩:=b1.ex;have e2:a=(pre.length:Nat):=e2;refine⟨⟨pre,post,e1,e2,?_⟩,rfl,rfl,rfl⟩;simp only[bN,gC];omega
  .rw[B5 (by rw[b2];decide),b3,qu lA b2 (by decide),b2];rfl
 .have hp:=hp rfl;have e:c_ 112 (⟨l,a,fin,af⟩,c)=o9 ⟨l,a,fin,af⟩ c:=by simp[c_]
  rw[e] at hb ⊢;unfold o9 at hb ⊢;simp only at hb ⊢ hp;split
  .rename_i hc;rw[aE hc] at hb;have hb:((⟨l,a,fin,af⟩:ab).take 123).2.aG=none:=hb;obtain⟨t1,t2⟩:=nD hb;have lA:=(t1.kl hg).1;have rP:((⟨l,a,fin,af⟩:ab).take 123).1.ah=[]:=by
    rcases hc with h | h
    .exact absurd hb h
    .exact jv.1 h
   refine⟨[((⟨l,a,fin,af⟩:ab).take 123).1],by simp,t1,.inr (.inr (.inr (.inl ⟨rfl,[],((⟨l,a,fin,af⟩:ab).take 123).1.tok.pos,rfl,?_,?_⟩)))⟩
   .rw[B5 (by rw[t2];decide),rP,qu lA t2 (by decide),t2];rfl
   .cases c;simp only at hp;subst hp;rfl
  .rename_i hc;rw[aC hc] at hb;have h1:((⟨l,a,fin,af⟩:ab).take 123).2.aG=none:=by
    cases hq:((⟨l,a,fin,af⟩:ab).take 123).2.aG with
    | none=>rfl
    | some b=>exact absurd (.inl (by rw[hq];simp)) hc
   obtain⟨t1,t2⟩:=nD h1;have lA:=(t1.kl hg).1;have vZ:=((xy _).1 lA).2.2;generalize ((⟨l,a,fin,af⟩:ab).take 123).2=r1 at hb t1 h1 ⊢;generalize ((⟨l,a,fin,af⟩:ab).take 123).1=t at hb t1 t2 lA vZ ⊢;have hG:(ab.fW (t.ah.length+1) t.inner []).1.aG=none:=by
    cases hq:(ab.fW (t.ah.length+1) t.inner []).1.aG with
    | none=>rfl
    | some b=>rw[hq] at hb;simp[ab.ue] at hb
   have el:t.inner.l=t.ah:=rfl;have ea:t.inner.at_=0:=rfl;obtain⟨sg,ps,g1,g2,g3,g4,g5,g6⟩:=US (t.ah.length+1) t.inner [] vZ (by rw[ea];omega) (by rw[el,ea];omega) hG;have hs:=acj g1 g6;subst hs;refine⟨[t],by simp,?_,.inr (.inr (.inr (.inl ⟨rfl,ps,t.tok.pos,g5,?_,?_⟩)))⟩
   .rw[hG];exact t1
   .rw[B5 (by rw[t2];decide),g4,qu lA t2 (by decide),t2];rfl
   .rw[g2];rfl
 .have e:c_ 116 (⟨l,a,fin,af⟩,c)=iO ⟨l,a,fin,af⟩ c (fp (ab.label (bd l)) l a fin):=by simp[c_]
  rw[e] at hb ⊢;obtain⟨seg,m,h1,h2,h3,h4,h5⟩:=Uy (G8 (bd l)) hg hb;exact⟨seg,h1,h2,.inr (.inr (.inr (.inr (.inl ⟨rfl,m,h3,h4,h5⟩))))⟩
 .have e:c_ 114 (⟨l,a,fin,af⟩,c)=iO ⟨l,a,fin,af⟩ c (fp (ab.row (bd l)) l a fin):=by simp[c_]
  rw[e] at hb ⊢;obtain⟨seg,m,h1,h2,h3,h4,h5⟩:=Uy (VM (bd l)) hg hb;exact⟨seg,h1,h2,.inr (.inr (.inr (.inr (.inr ⟨rfl,m,h3,h4,h5⟩))))⟩
def Iy:List UInt8->List ar->aq->aq->Prop
 | [],us,c0,c1=>us=[]/\c1=c0
 | k::ks,us,c0,c2=>∃a b c1,us=a++b/\a≠[]/\vr k a c0 c1/\Iy ks b c1 c2
variable{c0 c1:aq}
def ahY(hk:k≠112)(h:vr k seg c0 c1):c1.bm=c0.bm:=by
 rcases h with ⟨_,w,_,_,rfl⟩ | ⟨_,w,_,_,rfl⟩ | ⟨_,w,_,_,_,rfl⟩ | ⟨h,_⟩ | ⟨_,m,_,_,rfl⟩ | ⟨_,m,_,_,rfl⟩
 .rfl
 .rfl
 .rfl
 .exact absurd h hk
 .split<;>rfl
 .split<;>rfl
def U4:∀(ks:List UInt8) (x:ab × aq),Ha ks->ks.count 112<=1->(112∈ks->x.2.bm=[])->eC x.1.l->x.1.aG=af->0<=x.1.at_->x.1.at_<=(x.1.l.length:Nat)->(hH ks x).1.aG=af ->
 ∃us,ib x.1 (hH ks x).1 us/\Iy ks us x.2 (hH ks x).2
 | [], x, _, _, _, _, hb, h0, h1, _ => by
  refine⟨[],⟨⟨x.1.l.take x.1.at_.toNat,x.1.l.drop x.1.at_.toNat,by simp,?_,?_⟩,rfl,hb,hb⟩,rfl,rfl⟩
  .rw[iR];omega
  .show x.1.at_=_;rw[eD,iR];omega
 | k :: ks, x, hk, hc, hp, hg, hb, h0, h1, hn => by
  simp only[hH] at hn ⊢;have fv:(c_ k x).1.aG=none:=by
   cases hq:(c_ k x).1.aG with
   | none=>rfl
   | some b=>have:=HE (N:=0) (IB 0) ks _ hq;rw[hn] at this;simp at this
  obtain⟨sg,n1,e1,g1⟩:=an7 (hk k (by simp)) hg (λe=>hp (by simp[e])) fv;obtain⟨a1,a2,a3⟩:=Jy e1;have KA:ks.count 112<=1:=by rw[List.count_cons] at hc;omega
  obtain⟨us,e2,g2⟩:=U4 ks (c_ k x) (λk h=>hk k (by simp[h])) KA (λhm=>by
   by_cases e:k=112
   .exfalso
    rw[e,ON] at hc;exact OO.1 (show ks.count 112=0 by omega) hm
   .rw[ahY e g1];exact hp (by simp[hm])) (FQ e1 hg) fv (by omega) (by rw[e1.l];exact a3) hn
  exact⟨sg++us,e1.trans e2,sg,us,_,rfl,n1,g1,g2⟩
def Bg(h:vr 110 seg c0 c1):∃w:aA,dG w.an=aa/\eZ (bn seg)=w.an/\c1={c0 with name:=w}:=by
 rcases h with ⟨_,h⟩ | ⟨e,_⟩ | ⟨e,_⟩ | ⟨e,_⟩ | ⟨e,_⟩ | ⟨e,_⟩<;>first | exact h | exact absurd e (by decide)
def ahW(h:vr 102 seg c0 c1):∃w:aA,dG w.an=aa/\eZ (bn seg)=w.an/\c1={c0 with aj:=[w]}:=by
 rcases h with ⟨e,_⟩ | ⟨_,h⟩ | ⟨e,_⟩ | ⟨e,_⟩ | ⟨e,_⟩ | ⟨e,_⟩<;>first | exact h | exact absurd e (by decide)
def RT(h:vr 119 seg c0 c1):∃ws:List aA,0<ws.length/\hZ ws=aa/\eZ (bn seg)=[123]++ia ws++[125]/\c1={c0 with aj:=ws}:=by
 rcases h with ⟨e,_⟩ | ⟨e,_⟩ | ⟨_,h⟩ | ⟨e,_⟩ | ⟨e,_⟩ | ⟨e,_⟩<;>first | exact h | exact absurd e (by decide)
def ahX(h:vr 112 seg c0 c1):∃(ps:List (aA × aA)) (a:Int),ps.all np=aa/\eZ (bn seg)=ui (ps.map jH)/\c1={c0 with bm:=ps,mJ:=a}:=by
 rcases h with ⟨e,_⟩ | ⟨e,_⟩ | ⟨e,_⟩ | ⟨_,h⟩ | ⟨e,_⟩ | ⟨e,_⟩<;>first | exact h | exact absurd e (by decide)
def RS(h:vr 116 seg c0 c1):∃m:Nd,m.eY=aa/\eZ (bn seg)=m.dc/\c1=if c0.left.kind=0 then {c0 with left:=m} else {c0 with right:=m}:=by
 rcases h with ⟨e,_⟩ | ⟨e,_⟩ | ⟨e,_⟩ | ⟨e,_⟩ | ⟨_,h⟩ | ⟨e,_⟩<;>first | exact h | exact absurd e (by decide)
def RR(h:vr 114 seg c0 c1):∃m:Nd,m.iX=aa/\eZ (bn seg)=m.dc/\c1=if c0.left.kind=0 then {c0 with left:=m} else {c0 with right:=m}:=by
 rcases h with ⟨e,_⟩ | ⟨e,_⟩ | ⟨e,_⟩ | ⟨e,_⟩ | ⟨e,_⟩ | ⟨_,h⟩<;>first | exact h | exact absurd e (by decide)
def CC(c:aq):List (UInt8 × Nd)->List ar->Prop
 | [],us=>us=[]
 | q::qs,us=>∃a b,us=a++b/\a≠[]/\yS q.1 c q.2/\eZ (bn a)=mf q.1 c q.2/\CC c qs b
def VE{ws:List aA}(h:hZ ws=aa):o6 (ws.map aA.an)=true:=by
 simp only[o6,List.all_map];exact h
def ahZ{op p:Int}{us:List ar}(h1:1<=op)(h2:op<=15)(h:Iy (cp op).2 us {aq.zero with op:=op,pos:=p} c):c.op=op/\c.fx=aa/\CC c (lJ (cp op).2 [c.left,c.right]) us:=by
 obtain⟨hk,_,_⟩:=C2 h1 h2;simp only[DO,kI,EX,D9] at hk;have hz:(Nd.zero).kind=0:=rfl;have zz:=Nd.Ei Nd.zero;have h0:0<=op:=by omega
 rcases hk with e | e | e | e | e | e | e
 all_goals rw[e] at h
 .obtain⟨a,b,c1,rfl,na,ga,a2,b2,c2,rfl,nb,gb,rfl,rfl⟩:=h;obtain⟨w,w1,w2,rfl⟩:=Bg ga;obtain⟨ws,v1,v2,v3,rfl⟩:=RT gb;refine⟨rfl,?_,?_⟩
  .simp[aq.fx,aq.mI,aq.j4,aq.k_,aq.jI,eW,e,h0,h2,w1,v1,VE v2,aq.zero,zz]
  .rw[e];exact⟨a,_,rfl,na,.inl ⟨rfl,w1⟩,w2,a2,[],rfl,nb,.inr (.inr (.inl ⟨rfl,v1,v2⟩)),v3,rfl⟩
 .obtain⟨a,b,c1,rfl,na,ga,a2,b2,c2,rfl,nb,gb,a3,b3,c3,rfl,nc,gc,rfl,rfl⟩:=h;obtain⟨w,w1,w2,rfl⟩:=Bg ga;obtain⟨ws,v1,v2,v3,rfl⟩:=RT gb;obtain⟨ps,pa,u1,u2,rfl⟩:=ahX gc;refine⟨rfl,?_,?_⟩
  .simp only[ln] at u1;simp[aq.fx,aq.mI,aq.j4,aq.k_,aq.jI,eW,e,h0,h2,w1,v1,VE v2,aq.zero,zz];intro x y hxy;exact u1 (x,y) hxy
  .rw[e];exact⟨a,_,rfl,na,.inl ⟨rfl,w1⟩,w2,a2,_,rfl,nb,.inr (.inr (.inl ⟨rfl,v1,v2⟩)),v3,a3,[],rfl,nc,.inr (.inr (.inr (.inl ⟨rfl,u1⟩))),u2,rfl⟩
 .obtain⟨a,b,c1,rfl,na,ga,a2,b2,c2,rfl,nb,gb,a3,b3,c3,rfl,nc,gc,rfl,rfl⟩:=h;obtain⟨w,w1,w2,rfl⟩:=Bg ga;obtain⟨m,v1,v2,rfl⟩:=RS gb;obtain⟨m2,u1,u2,rfl⟩:=RS gc;have hm:=Tr v1;rw[aE (show({aq.zero with op:=op,pos:=p,name:=w}:aq).left.kind=0 from rfl),aC hm];refine⟨rfl,?_,?_⟩
  .simp[aq.fx,aq.mI,aq.j4,aq.k_,aq.jI,eW,e,h0,h2,w1,v1,u1,aq.zero]
  .rw[e];exact⟨a,_,rfl,na,.inl ⟨rfl,w1⟩,w2,a2,_,rfl,nb,.inr (.inr (.inr (.inr (.inl ⟨rfl,v1⟩)))),v2,a3,[],rfl,nc,.inr (.inr (.inr (.inr (.inl ⟨rfl,u1⟩)))),u2,rfl⟩
 .obtain⟨a,b,c1,rfl,na,ga,a2,b2,c2,rfl,nb,gb,a3,b3,c3,rfl,nc,gc,rfl,rfl⟩:=h;obtain⟨w,w1,w2,rfl⟩:=Bg ga;obtain⟨m,v1,v2,rfl⟩:=RR gb;obtain⟨m2,u1,u2,rfl⟩:=RR gc;have hm:=VL v1;rw[aE (show({aq.zero with op:=op,pos:=p,name:=w}:aq).left.kind=0 from rfl),aC hm];refine⟨rfl,?_,?_⟩
  .simp[aq.fx,aq.mI,aq.j4,aq.k_,aq.jI,eW,e,h0,h2,w1,v1,u1,aq.zero]
  .rw[e];exact⟨a,_,rfl,na,.inl ⟨rfl,w1⟩,w2,a2,_,rfl,nb,.inr (.inr (.inr (.inr (.inr ⟨rfl,v1⟩)))),v2,a3,[],rfl,nc,.inr (.inr (.inr (.inr (.inr ⟨rfl,u1⟩)))),u2,rfl⟩
 .obtain⟨a,b,c1,rfl,na,ga,a2,b2,c2,rfl,nb,gb,rfl,rfl⟩:=h;obtain⟨w,w1,w2,rfl⟩:=Bg ga;obtain⟨w',v1,v2,rfl⟩:=ahW gb;refine⟨rfl,?_,?_⟩
  .simp[aq.fx,aq.mI,aq.j4,aq.k_,aq.jI,eW,e,h0,h2,w1,v1,o6,aq.zero,zz]
  .rw[e];exact⟨a,_,rfl,na,.inl ⟨rfl,w1⟩,w2,a2,[],rfl,nb,.inr (.inl ⟨rfl,rfl,Nl (by simp[v1])⟩),by rw[v2];simp[mf,cB],rfl⟩
 .obtain⟨rfl,rfl⟩:=h;refine⟨rfl,?_,by rw[e];rfl⟩;simp[aq.fx,aq.mI,aq.j4,aq.k_,aq.jI,eW,e,h0,h2,aq.zero,zz]
 .obtain⟨a,b,c1,rfl,na,ga,rfl,rfl⟩:=h;obtain⟨w,w1,w2,rfl⟩:=Bg ga;refine⟨rfl,?_,?_⟩
  .simp[aq.fx,aq.mI,aq.j4,aq.k_,aq.jI,eW,e,h0,h2,w1,aq.zero,zz]
  .rw[e];exact⟨a,[],rfl,na,.inl ⟨rfl,w1⟩,w2,rfl⟩
def ad6{a:List ar}(h:a≠[]):bn a≠[]:=by
 cases a with
 | nil=>exact absurd rfl h
 | cons t ts=>cases t;simp[bn,ar.flat]
def Wr{c:aq}:∀(qs:List (UInt8 × Nd)) (us:List ar),CC c qs us->(∀t∈bn us,AV t)->(bn us).map Tok.sh=(qs.map λq=>Af q.1 c q.2).flatten
 | [],us,h,_=>by have h:us=[]:=h;subst h;rfl
 | q :: qs, us, ⟨a, b, e, _, h1, h2, h3⟩, ht => by
  subst e;rw[g_] at ht ⊢;rw[f_,b8,kH,Wr qs b h3 λt h=>ht t (by simp[h]),WC (λt h=>ht t (by simp[h])) (U6 h1) h2]
def Wq{c:aq}:∀(qs:List (UInt8 × Nd)) (us:List ar),CC c qs us->((qs.map λq=>mf q.1 c q.2).flatMap λy=>[32]++y).length<=mR (bn us)
 | [],us,h=>by simp
 | q :: qs, us, ⟨a, b, e, h0, h1, h2, h3⟩ => by
  subst e;have ih:=Wq qs b h3;have h4:=aru (ad6 h0);rw[h2] at h4;rw[g_,Ic,b8,p7,bN,bN];simp only[gC];omega
def UB{w:List UInt8}:∀(n op:Nat),nj w n op≠0->(cp (nj w n op)).1=w/\1<=nj w n op/\nj w n op<op+n
 | 0,op,h=>by simp[nj] at h
 | n + 1, op, h => by
  simp only[nj] at h ⊢;split
  .rename_i hc;exact⟨hc.2,by omega,by omega⟩
  .rename_i hc;rw[aC hc] at h;obtain⟨h1,h2,h3⟩:=UB n (op+1) h;exact⟨h1,h2,by omega⟩
def aaV{fin:Int}(hg:eC l)(h:sG l fin=(c,0,0)):l=[]/\c = .zero \/
 ∃a b,l=a++b/\eZ (bn a)=(cp c.op).1/\dG (cp c.op).1=aa/\c.fx=aa/\CC c (lJ (cp c.op).2 [c.left,c.right]) b:=by
 cases l with
 | nil=>left;simp only[sG] at h;exact⟨rfl,(gX Prod.fst h).symm⟩
 | cons t ts =>
  right;unfold sG at h;simp only at h
  by_cases hz:iD (⟨t::ts,0,fin,af⟩:ab).word.1.an=0
  .rw[aE hz] at h;simp at h
  .rw[aC hz] at h;obtain⟨n1,n2,n3⟩:=UB 16 0 hz;have n1:(cp (iD (⟨t::ts,0,fin,af⟩:ab).word.1.an)).1=(⟨t::ts,0,fin,af⟩:ab).word.1.an:=n1;have n2:1<=iD (⟨t::ts,0,fin,af⟩:ab).word.1.an:=n2;have n3:iD (⟨t::ts,0,fin,af⟩:ab).word.1.an<=15:=by unfold iD;omega
   have SF:=λb hb=>HE (N:=0) (IB 0) (b:=b) (cp (iD (⟨t::ts,0,fin,af⟩:ab).word.1.an)).2 ((⟨t::ts,0,fin,af⟩:ab).word.2,{aq.zero with op:=iD (⟨t::ts,0,fin,af⟩:ab).word.1.an,pos:=(⟨t::ts,0,fin,af⟩:ab).word.1.pos}) hb
   have SH:=λvY hb h0 h1 hn=>U4 (cp (iD (⟨t::ts,0,fin,af⟩:ab).word.1.an)).2 ((⟨t::ts,0,fin,af⟩:ab).word.2,{aq.zero with op:=iD (⟨t::ts,0,fin,af⟩:ab).word.1.an,pos:=(⟨t::ts,0,fin,af⟩:ab).word.1.pos}) (F5 _).1 (F5 _).2 (λ_=>rfl) vY hb h0 h1 hn
   have zH:=vm (⟨t::ts,0,fin,af⟩:ab) hg;have uI:=λus c=>ahZ (op:=iD (⟨t::ts,0,fin,af⟩:ab).word.1.an) (p:=(⟨t::ts,0,fin,af⟩:ab).word.1.pos) (us:=us) (c:=c) n2 n3
   generalize hH (cp (iD (⟨t::ts,0,fin,af⟩:ab).word.1.an)).2 ((⟨t::ts,0,fin,af⟩:ab).word.2,{aq.zero with op:=iD (⟨t::ts,0,fin,af⟩:ab).word.1.an,pos:=(⟨t::ts,0,fin,af⟩:ab).word.1.pos})=x at h SF SH;have Lo:x.1.aG=af/\¬x.1.at_<x.1.l.length/\c=x.2:=by
    unfold vK at h
    by_cases hc:x.1.aG=af/\x.1.at_<x.1.l.length
    .rw[aE hc] at h;cases hq:x.1.fail.aG with
     | none=>exact absurd hq x.1.FY
     | some b=>rw[hq] at h;simp at h
    .rw[aC hc] at h;cases hq:x.1.aG with
     | none =>
      rw[hq] at h;refine⟨rfl,λhl=>hc ⟨hq,hl⟩,(gX Prod.fst h).symm⟩
     | some b=>rw[hq] at h;simp at h
   obtain⟨S2,S3,rfl⟩:=Lo;have S1:(⟨t::ts,0,fin,af⟩:ab).word.2.aG=none:=by
    cases hq:(⟨t::ts,0,fin,af⟩:ab).word.2.aG with
    | none=>rfl
    | some b=>have:=SF b hq;rw[S2] at this;simp at this
   obtain⟨sg,e1,e2,e3,_⟩:=zH S1;obtain⟨a1,a2,a3⟩:=Jy e1;obtain⟨us,f1,f2⟩:=SH (FQ e1 hg) S1 (by simp only at a2 ⊢;omega) (by simp only;rw[e1.l];exact a3) S2;obtain⟨g1,g2,g3⟩:=uI us x.2 f2;have et:=e1.trans f1;have dp:t::ts=sg++us:=by
    obtain⟨pre,post,q1,q2,q3⟩:=et.ex;have hp:pre=[]:=jv.1 (by simp only at q2;omega);subst hp;have q1:t::ts=[]++(sg++us)++post:=q1;have hl:x.1.l=t::ts:=et.l;have hq:post=[]:=by
     rw[hl,q1,q3] at S3;simp only[gd,bN] at S3;exact jv.1 (by omega)
    rw[q1,hq];simp
   refine⟨sg,us,dp,?_,?_,g2,?_⟩
   .rw[g1,n1];exact e2
   .rw[g1,n1];exact e3
   .rw[g1];exact g3
def Po{s:List UInt8}(h:cW s=(c,0,0)):c.fx=aa/\(gS (dR (eb c)).1).2=af/\(eb c).length<=2*s.length:=by
 unfold cW at h;cases hl:(dR s).2 with
 | some a=>rw[hl] at h;simp at h
 | none =>
  rw[hl] at h;simp only at h;cases ht:(fS (dR s).1 [] []).2 with
  | some a=>rw[ht] at h;simp at h
  | none =>
   rw[ht] at h;simp only at h;have b_:=BO s.length 0 s [] (by simp);have aiT:=Hd s.length 0 s [] (by simp);obtain⟨w1,w2⟩:=Ey (dR s).1 [] [] b_ (by simp) (by simp[fj]) ht;simp only[wz,bn,gd] at w2;have hg:eC (fS (dR s).1 [] []).1:=by rw[Ay];exact TT s
   have cG:mR (dR s).1<=mR []+2*s.length:=He s.length 0 s [];rw[show mR []=0 from rfl,jy] at cG;rw[Ay] at ht
   rcases aaV hg h with ⟨h1,rfl⟩ | ⟨a,b,h1,h2,h3,h4,h5⟩
   .refine⟨by decide +kernel,by decide +kernel,?_⟩
    have:eb aq.zero=[]:=by decide +kernel
    rw[this];simp
   .rw[h1,g_] at w2;have hL:∀t∈bn a++bn b,AV t:=by rw[w2];exact aiT
    have s1:(bn a).map Tok.sh=[fG (cp c.op).1]:=WC (λt ht=>hL t (by simp[ht])) (wv h3) h2;have s2:=Wr _ b h5 (λt ht=>hL t (by simp[ht]));have hs:(dR s).1.map Tok.sh=Em c:=by rw[<-w2,f_,s1,s2];rfl
    have l8:1<=c.op:=by
     have h6:=h4;simp only[aq.fx,bC,ca] at h6;have h0:=h6.1.1.1.1.1
     by_cases hz:c.op=0
     .rw[hz] at h3;exact absurd h3 (by decide +kernel)
     .omega
    have sN:c.op<=15:=by simp only[aq.fx,bC,ca] at h4;exact h4.1.1.1.1.2
    obtain⟨l1,l2⟩:=W3 h3 (MV h4 l8);refine⟨h4,arE (hs.trans l2.symm) ht,?_⟩;have hb:=Wq _ b h5;have ha:(cp c.op).1.length<=mR (bn a):=by rw[<-h2];exact N3 _ _
    rw[<-w2,Ic] at cG;rw[H5,bN];omega
def aaU{N:Int}(h0:0<=N){fin:Int}(hl:lh N l)(hf:In N fin):(uo l fin).2.1=0/\(uo l fin).2.2=0\/(uo l fin).1 = .zero/\(uo l fin).2.1=2/\In N (uo l fin).2.2:=by
 have hpr:∀(ks:List UInt8) (c:aq) (a:Int),(u7 l fin ks c a).2.2<0\/In N (u7 l fin ks c a).2.2:=by
  intro ks;induction ks with
  | nil=>intro c a;left;simp[u7]
  | cons k ks ih =>
   intro c a;simp only[u7];split
   .rename_i qf;right;have pA:=sn h0 (a:=a) hl hf;have KO:=Xs h0 (a:=a) hl hf;have KP:=anW h0 (a:=a) hl;have hi4:=DQ h0 (bd l) l a fin hl hf;have hi5:=VJ h0 (bd l) l a fin hl hf;revert qf;unfold lN;split
    .split
     .intro h;simp at h
     .intro _;exact pA
    split
    .split
     .intro _;exact KO
     .intro h;simp at h
    split
    .split
     .simp only;intro h
      rcases KP with e | e
      .omega
      .exact e
     .intro _;exact pA
    .have Ss:In N (if k=114 then lO (bd l) l a fin else iU (bd l) l a fin).pos:=by
      split
      .exact hi5
      .exact hi4
     generalize (if k=114 then lO (bd l) l a fin else iU (bd l) l a fin)=g at Ss;simp only;split
     .intro _;exact Ss
     .intro h;simp at h
   .exact ih _ _
 cases l with
 | nil=>exact .inl ⟨rfl,rfl⟩
 | cons t ts =>
  unfold uo;simp only;generalize (if t.tok.kind=97 then Ae t.tok.an 15 1 0 else 0)=op;split
  .exact .inr ⟨rfl,rfl,(hl t (by simp)).pos⟩
  .split
   .rename_i qf;refine .inr ⟨rfl,rfl,?_⟩;exact(hpr _ _ _).resolve_left (Int.not_lt.mpr qf)
   .split
    .exact .inr ⟨rfl,rfl,sn h0 hl hf⟩
    .exact .inl ⟨rfl,rfl⟩
def adF(s:List UInt8):(∃c,cW s=(c,0,0))\/∃k a,cW s=(.zero,k,a)/\(k=1\/k=2)/\0<=a/\a<=(s.length:Nat):=by
 rw[aph];unfold Ng;have hl:=TG s;have ht:=TQ s;cases h1:(dR s).2 with
 | some a=>exact .inr ⟨1,a,rfl,.inl rfl,hl.2 a h1⟩
 | none =>
  simp only;cases h2:(gS (dR s).1).2 with
  | some a=>exact .inr ⟨2,a,rfl,.inr rfl,ht.2 a h2⟩
  | none =>
   simp only;have hc:=aaU (N:=(s.length:Nat)) (by omega) ht.1 (fin:=(s.length:Nat)) ⟨by omega,by omega⟩;generalize uo (gS (dR s).1).1 (s.length:Nat)=R at hc ⊢;obtain⟨c,k,a⟩:=R;simp only at hc
   rcases hc with ⟨rfl,rfl⟩ | ⟨rfl,rfl,h⟩
   .exact .inl ⟨c,rfl⟩
   .exact .inr ⟨2,a,rfl,.inr rfl,h⟩
section
variable {O:Int->Int} {s:aH} {c:aq}
def JK:(jQ s (c.mp O)).cls=0↔(jQ s c).cls=0:=by rw[jQ,jQ,aaT,TC]
def ajp:jE s (c.mp O)=jE s c:=by
 rw[jE,jE,apv,rG.2 JK];rfl
def YA(h:jE s c=aa):lZ s (c.mp O)=lZ s c:=by
 have hF:=LN.1 h;have e:cM s (c.mp O)=cM s c:=rfl;unfold lZ;rw[e]
 by_cases h8:c.op=8
 .have J9 : (c.mp O).op=8:=h8;rw[aE h8,aE J9];obtain⟨q1,q2⟩:=hF.labels h8;have k2:c.right.kind=1\/0<c.right.ah.length:=by
   rcases hF.right h8 with k | k
   .exact .inl k
   .exact .inr (by rw[DP q2 k];omega)
  have e1:mw s (cM s c) (c.mp O).left=mw s (cM s c) c.left:=by
   show mw s (cM s c) (c.left.mp O)=_;rw[mw,mw,G7,aa3 _ q1]
  have e2:qE s (cM s c).toNat (c.mp O).right=qE s (cM s c).toNat c.right:=PF k2;rw[e1,e2]
 .have J9 : ¬(c.mp O).op=8:=h8;rw[aC h8,aC J9]
  by_cases h9:c.op=9
  .have C8 : (c.mp O).op=9:=h9;rw[aE h9,aE C8];obtain⟨q1,q2⟩:=hF.rows h9;have e1:mh s (cM s c).toNat (c.mp O).left=mh s (cM s c).toNat c.left:=VR (HQ q1);have e2:mh s (cM s c).toNat (c.mp O).right=mh s (cM s c).toNat c.right:=VR (HQ q2);rw[e1,e2]
  .have C8 : ¬(c.mp O).op=9:=h9;rw[aC h9,aC C8];have iL:c.op=10:=by have:=hF.op;omega
   obtain⟨w,hw,_⟩:=hF.one iL;have e1:((c.mp O).aj.getD 0 ⟨[],0⟩).an=(c.aj.getD 0 ⟨[],0⟩).an:=by simp only[aq.mp,hw];rfl
   rw[e1];rfl
def xh(s:aH)(c:aq):dQ:=if jE s c then lZ s c else .zero
def PB:xh s (c.mp O)=xh s c:=by
 unfold xh;rw[ajp];split
 .rename_i h;exact YA h
 .rfl
def NB:∀{a b:List aA},dy a b=aa->a.map (aA.mp λ_=>0)=b.map (aA.mp λ_=>0)
 | [],[],_=>rfl
 | [],_::_,h=>by simp[dy] at h
 | _::_,[],h=>by simp[dy] at h
 | w :: ws, u :: us, h => by
  simp only[dy,bC,ca] at h;rw[b8,b8,NB h.2,aA.mp,aA.mp,h.1]
mutual
def Ny:∀{n m:Nd},n.cK m=aa->n.mp (λ_=>0)=m.mp λ_=>0
 | .mk k p t ws ks, .mk k' p' t' ws' ks', h => by
  rw[Nd.cK] at h;simp only[bC,Nd.kind,Nd.an,Nd.aj,Nd.ah] at h;obtain⟨⟨⟨h1,h2⟩,h3⟩,h4⟩:=h;have h1:=MC h1;have h2:=MC h2;rw[Nd.mp,Nd.mp,h1,h2,NB h3,V_ h4]
def V_:∀{a b:List Nd},cZ a b=aa->yd (λ_=>0) a=yd (λ_=>0) b
 | [],[],_=>rfl
 | [],_::_,h=>by simp[cZ] at h
 | _::_,[],h=>by simp[cZ] at h
 | n :: ns, m :: ms, h => by
  simp only[cZ,bC] at h;rw[yd,yd,Ny h.1,V_ h.2]
end
def Wb:∀{a b:List (aA × aA)},lf a b=aa->a.map (λp=>(p.1.mp λ_=>0,p.2.mp λ_=>0))=b.map λp=>(p.1.mp λ_=>0,p.2.mp λ_=>0)
 | [],[],_=>rfl
 | [],_::_,h=>by simp[lf] at h
 | _::_,[],h=>by simp[lf] at h
 | p :: ps, q :: qs, h => by
  simp only[lf,bC,ca] at h;rw[b8,b8,Wb h.2];simp only[aA.mp,h.1.1,h.1.2]
def V9{c d:aq}(h:c.cK d=aa):c.mp (λ_=>0)=d.mp λ_=>0:=by
 simp only[aq.cK,bC,ca] at h;obtain⟨⟨⟨⟨⟨h1,h2⟩,h3⟩,h4⟩,h5⟩,h6⟩:=h;simp only[aq.mp,h1,Ny h5,Ny h6,Wb h4,NB h3];simp only[aA.mp,h2]
def Wl:(kE s (c.mp O)).cls=0↔(kE s c).cls=0:=by
 have e:(c.mp O).op=c.op:=rfl;rw[kE,kE,e];split
 .rw[aqg,TC]
 .rfl
def JO{r:Rm}:(fU (kX s r c)).cls=0↔(kE s c).cls=0/\(jQ s c).cls=0/\kt r c=ak/\¬(c.op=12/\r.fc<=1):=by
 rw[L5,kX];simp only[jw,kI,EX,D9];constructor
 .intro h;refine⟨h _ (.inl (.inl (.inl rfl))),h _ (.inl (.inl (.inr rfl))),?_,λh2=>?_⟩
  .cases hl:kt r c with
   | false=>rfl
   | true=>have:=h ⟨7,c.pos⟩ (.inl (.inr (by rw[dT,hl];simp)));simp at this
  .have:=h ⟨8,c.pos⟩ (.inr (by rw[dT,aQ h2.1,aQ h2.2];simp));simp at this
 .rintro⟨h1,h2,h3,h4⟩ f (((rfl | rfl) | hf) | hf)
  .exact h1
  .exact h2
  .rw[dT,h3] at hf;simp at hf
  .have:(decide (c.op=12)&&decide (r.fc<=1))=false:=by
    cases hb:(decide (c.op=12)&&decide (r.fc<=1)) with
    | false=>rfl
    | true=>simp only[bC,ca] at hb;exact absurd hb h4
   rw[dT,this] at hf;simp at hf
def akN{r:Rm}{c d:aq}(h:c.cK d=aa):kt r d=kt r c:=by
 have ho:c.op=d.op:=by simp only[aq.cK,bC,ca] at h;exact h.1.1.1.1.1
 rw[kt,kt,<-aqc h,ho]
def ad5{r:Rm}{c d:aq}(h:c.cK d=aa)(hf:(fU (kX s r c)).cls=0):(fU (kX s r d)).cls=0:=by
 have e:=V9 h;have ho:c.op=d.op:=by simp only[aq.cK,bC,ca] at h;exact h.1.1.1.1.1
 obtain⟨h1,h2,h3,h4⟩:=JO.1 hf;refine JO.2 ⟨?_,?_,by rw[akN h];exact h3,by rw[<-ho];exact h4⟩
 .rw[<-Wl (O:=λ_=>0),<-e,Wl];exact h1
 .rw[<-JK (O:=λ_=>0),<-e,JK];exact h2
def YB{c d:aq}(h:c.cK d=aa):xh s d=xh s c:=by
 rw[<-PB (O:=λ_=>0) (c:=d),<-V9 h,PB]
variable{t:List UInt8}
def arx{r:Rm}(h:(lK s r t).2.2.cls=0):(cW t).2=(0,0)/\lK s r t=((cW t).1,xh s (cW t).1,.zero) /\
 ∃d,cW (eb (cW t).1)=(d,0,0)/\(cW t).1.cK d=aa/\lK s r (eb (cW t).1)=(d,xh s (cW t).1,.zero):=by
 by_cases hr:(cW t).2.1=0
 case neg=>rw[Hg hr] at h;exact absurd h hr
 by_cases hf:(fU (kX s r (cW t).1)).cls=0
 case neg=>rw[Hh hr hf] at h;exact absurd h hf
 rcases adF t with ⟨c,hc⟩ | ⟨k,a,hc,hk,_⟩
 case inr=>rw[hc] at hr;simp only at hr;omega
 have hl:=DW hr hf;rw[hc] at hf hl ⊢;obtain⟨a1,a2,_⟩:=Po hc;obtain⟨_,l2,_⟩:=api a1;obtain⟨d,e1,e2⟩:=l2 a2;refine⟨rfl,hl,d,e1,e2,?_⟩;have h0:(cW (eb c)).2.1=0:=by rw[e1]
 have h1:(fU (kX s r (cW (eb c)).1)).cls=0:=by rw[e1];exact ad5 e2 hf
 rw[DW h0 h1,e1];show(d,xh s d,aL.zero)=_;rw[YB e2]
end
structure CB(B:Nat)(c:aq):Prop where
 ns:eK c.aj<=B
 ps:c.bm.length<=B
 l:c.left.wt<=B
 r:c.right.wt<=B
 nm:c.name.an.length<=B
 pt:j8 c.bm<=34*B
def QI(h:ib r r' seg):iP seg<=iP r.l:=by
 obtain⟨pre,post,e,_,_⟩:=h.ex;rw[e,wI,wI];omega
def Oj(hg:eC r.l)(hb:r.aG=af):r.word.1.an.length<=16:=by
 cases h:(r.take 97).2.aG with
 | none=>exact N5 ((nD h).1.kl hg).1
 | some b =>
  have:(r.take 97).1 = .zero:=by
   unfold ab.take at h ⊢;split
   .rename_i hs;rw[aE hs] at h;simp[hb] at h
   .rfl
  simp[ab.word,this,ar.zero,ar.tok]
def Xp(hg:eC r.l):r.word.1.an.length<=16:=by
 cases hb:r.aG with
 | none=>exact Oj hg hb
 | some a =>
  have:r.bT 97=false:=by simp[ab.bT,ab.ok,hb]
  simp[ab.word,ab.take,this,ar.zero,ar.tok]
def Vk{l:List (aA × aA)}{p:aA × aA}:j8 (l++[p])=j8 l+(p.1.an.length+p.2.an.length+2):=by simp[j8]
def UT:∀(n:Nat) (i:ab) (acc:List (aA × aA)),eC i.l->j8 (ab.fW n i acc).2<=j8 acc+34*n
 | 0,_,_,_=>by simp[ab.fW]
 | n + 1, i, acc, hg => by
  have e1:(i.word.2.take 60).2.l=i.l:=by rw[ab.fy];exact ab.fy i 97
  have e2:((i.word.2.take 60).2.word).2.l=i.l:=by rw[<-e1];exact ab.fy _ 97
  have w1:=Xp hg;have w2:((i.word.2.take 60).2.word).1.an.length<=16:=Xp (by rw[e1];exact hg);simp only[ab.fW];split
  .simp only;omega
  .split
   .simp only[Vk];omega
   .have:=UT n (((i.word.2.take 60).2.word).2.take 44).2 (acc++[(i.word.1,((i.word.2.take 60).2.word).1)]) (by rw[ab.fy,e2];exact hg)
    simp only[Vk] at this;omega
def arn{k:Int}(hg:eC r.l):eC (r.take k).1.ah:=by
 cases h:(r.take k).2.aG with
 | none=>exact((xy _).1 ((nD h).1.kl hg).1).2.2
 | some b =>
  have:(r.take k).1.ah=[]:=by
   rcases r.tK k with ⟨_,_,hb,_⟩ | ⟨hs,_⟩
   .rw[h] at hb;simp at hb
   .simp[ab.take,hs,ar.zero,ar.ah]
  rw[this];trivial
def UR:∀(n:Nat) (i:ab) (acc:List (aA × aA)),(ab.fW n i acc).2.length<=acc.length+n
 | 0,_,_=>by simp[ab.fW]
 | n + 1, i, acc => by
  simp only[ab.fW];split
  .simp only;omega
  .split
   .simp
   .have:=UR n (((i.word.2.take 60).2.word).2.take 44).2 (acc++[(i.word.1,((i.word.2.take 60).2.word).1)])
    simp only[bN,dd,eM] at this;omega
variable{B:Nat}
def Ux(h:CB B c){g:Nd × Int × Option Int}(hg:g.1.wt<=B):CB B (iO r c g).2:=by
 unfold iO;cases g.2.2 with
 | some a=>exact h
 | none =>
  simp only;split
  .exact⟨h.ns,h.ps,hg,h.r,h.nm,h.pt⟩
  .exact⟨h.ns,h.ps,h.l,hg,h.nm,h.pt⟩
def VA{one:ab->Nd × ab}(hs:Sound one Nd.dc Q SN)(hg:eC l)(a fin:Int):(fp one l a fin).1.wt<=iP l+4:=by
 unfold fp;cases hb:(one ⟨l,a,fin,af⟩).2.aG with
 | some b=>simp only[Iu];omega
 | none =>
  obtain⟨seg,e1,_,_,e4⟩:=hs ⟨l,a,fin,af⟩ hg hb
  have:=QI e1
  simp only[SN] at e4 this ⊢;omega
def an6(hg:eC x.1.l)(hB:iP x.1.l+20<=B)(h:CB B x.2):CB B (c_ k x).2:=by
 obtain⟨r,c⟩:=x;simp only at hg hB h;unfold c_;simp only;split
 .exact h
 rename_i hb;have hb:r.aG=none:=by simpa using hb
 split
 .exact⟨h.ns,h.ps,h.l,h.r,by have:=Oj hg hb;simp only;omega,h.pt⟩
 split
 .refine⟨?_,h.ps,h.l,h.r,h.nm,h.pt⟩
  have:=Oj hg hb
  simp[eK];omega
 split
 .refine⟨?_,h.ps,h.l,h.r,h.nm,h.pt⟩;show eK (ja r.l r.at_ r.fin).1<=B;unfold ja;cases hw:((⟨r.l,r.at_,r.fin,af⟩:ab).words ak).2.aG with
  | some b=>simp[eK]
  | none =>
   obtain⟨t,e1,_,_,_,e5⟩:=Ok (r:=⟨r.l,r.at_,r.fin,af⟩) hg hw
   have:=QI e1
   simp only at this ⊢;omega
 split
 .unfold o9;simp only;split
  .exact⟨h.ns,h.ps,h.l,h.r,h.nm,h.pt⟩
  .have g1:=UT ((r.take 123).1.ah.length+1) (r.take 123).1.inner [] (arn hg);have g2:=lM (r.take 123).1.ah;have g3:=(r.vg 123).1;refine⟨h.ns,?_,h.l,h.r,h.nm,by simp only[iP,j8,eR,rB] at hB g1 ⊢;omega⟩;have h1:=UR ((r.take 123).1.ah.length+1) (r.take 123).1.inner [];have h2:=lM (r.take 123).1.ah;have h3:=(r.vg 123).1;simp only[iP,eM] at hB h1 ⊢;omega
 split
 .exact Ux h (by have:=VA (G8 (bd r.l)) hg r.at_ r.fin;omega)
 split
 .exact Ux h (by have:=VA (VM (bd r.l)) hg r.at_ r.fin;omega)
 .exact h
def U3{B:Nat}{l:List ar}{fin:Int}(hg:eC l)(hB:iP l+20<=B):∀(ks:List UInt8) (x:ab × aq),jN l fin x->CB B x.2->CB B (hH ks x).2
 | [],_,_,h=>h
 | k::ks,x,hi,h=>U3 hg hB ks _ (UX hi k) (an6 (by rw[hi.hl];exact hg) (by rw[hi.hl];exact hB) h)
def Ce(h:4<=B):CB B aq.zero:=⟨by simp[aq.zero,eK],by simp[aq.zero],by simp only[aq.zero,Iu];omega,by simp only[aq.zero,Iu];omega,by simp[aq.zero],by simp[aq.zero,j8]⟩
def acZ(h4:4<=B)(h:CB B x.2):CB B (vK x).1:=by
 unfold vK;split
 .exact Ce h4
 .exact h
def aaX{fin:Int}(hg:eC l)(hB:iP l+20<=B):CB B (sG l fin).1:=by
 unfold sG;split
 .exact Ce (by omega)
 .rename_i t ts;simp only;split
  .exact Ce (by omega)
  .refine acZ (by omega) (U3 hg hB _ _ (fin:=fin) ?_ ?_)
   .exact jN.goes (x:=(⟨t::ts,0,fin,af⟩,aq.zero)) ⟨rfl,rfl,by simp,by simp only;omega,λ_=>by simp only;omega⟩ rfl (xx _) (Ev _ 97)
   .have h:=Ce (B:=B) (by omega);exact⟨h.ns,h.ps,h.l,h.r,h.nm,h.pt⟩
def apj(s:List UInt8):CB (26*s.length+20) (cW s).1:=by
 unfold cW;rw[Ay];split
 .exact Ce (by omega)
 .split
  .exact Ce (by omega)
  .refine aaX (TT s) ?_
   have:=TU s
   simp only[iP];omega
def sD(s:aH)(c:aq):aH :=
 if (kE s c).cls≠0 then s
 else if l_ c.op then ⟨s.bu++[⟨c.name.an,sk s c⟩],s.vars⟩
 else if nJ c.op then ⟨s.bu,s.vars++c.aj.map λw=>⟨w.an,if c.op=7 then 2 else 1,dh (iu s.bu c.name.an)⟩⟩
 else s
structure Lv where
 lP:aH
 lY:List dQ
 lines:List (List UInt8)
 bytes:Int
structure gV where
 live:Lv
 fc:List Lv
def Lv.zero:Lv:=⟨⟨[],[]⟩,[],[],0⟩
def gV.zero:gV:=⟨.zero,[]⟩
def As(l:Lv)(c:aq)(a:dQ):Lv :=
 if a.op≠0 then ⟨l.lP,l.lY++[a],l.lines++[eb c],l.bytes+((eb c).length+1:Nat)⟩
 else ⟨sD l.lP c,l.lY,l.lines++[eb c],l.bytes+((eb c).length+1:Nat)⟩
def rk(s:gV):Rm:=⟨s.live.bytes,(s.live.lY.length:Nat),((s.fc.length:Nat):Int)+1⟩
def qI(s:gV)(x:aq × dQ × aL):gV :=
 if x.2.2.cls≠0 then s
 else if tI x.1.op then ⟨As s.live x.1 x.2.1,s.fc⟩
 else if x.1.op=11 then ⟨s.live,s.fc++[s.live]⟩
 else if x.1.op=12 then(match s.fc.getLast? with | some l=>⟨l,s.fc.dropLast⟩ | none=>s)
 else s
def iC(s:gV)(t:List UInt8):aq × dQ × aL:=lK s.live.lP (rk s) t
def sK(s:gV)(t:List UInt8):gV:=qI s (iC s t)
def kv(l:List (List UInt8)):Nat:=(l.map λt=>t.length+1).sum
variable{t:List UInt8}
def aln{l:List (List UInt8)}:kv (l++[t])=kv l+(t.length+1):=by simp[kv]
def Ho:∀{l:List (List UInt8)},l.length<=kv l
 | []=>by simp[kv]
 | t::l=>by have:=@Ho l;simp only[kv,b8,nM,dd] at this ⊢;omega
structure w_(x:dQ):Prop where
 c:x.code.length<=100000
 a:x.a.fs.length<=100000
 b:x.b.fs.length<=100000
structure Lv.ok(l:Lv):Prop where
 s:l.lP.uY
 n:l.lP.bu.length<=16
 v:l.lP.vars.length<=64
 m:l.lY.length<=64
 a:∀a∈l.lY,w_ a
 b:l.bytes=(kv l.lines:Nat)
 t:kv l.lines<=16384
structure gV.ok(s:gV):Prop where
 l:s.live.ok
 f:∀l∈s.fc,l.ok
 n:s.fc.length<=15
def T':Lv.zero.ok:=⟨⟨⟨by simp[Lv.zero],by simp[Lv.zero],by simp[Lv.zero]⟩,by simp[Lv.zero]⟩,by simp[Lv.zero],by simp[Lv.zero],by simp[Lv.zero],by simp[Lv.zero],by simp[Lv.zero,kv],by simp[Lv.zero,kv]⟩
def H3:gV.zero.ok:=⟨T',by simp[gV.zero],by simp[gV.zero]⟩
variable{s:aH}
def TP(h:(l_ c.op||nJ c.op)=aa)(hf:(kE s c).cls=0):∀f∈ma s c,f.cls=0:=λf hm=>by
 rw[kE,aE h] at hf;exact(L6 hf).2 f (by rw[vb];exact List.mem_append_right _ hm)
def akI(h:l_ c.op=aa)(hf:(kE s c).cls=0):s.bu.length<16/\(c.op=3->(pQ s c).bO.length<=8):=by
 have hl:=TP (by rw[h];rfl) hf;have vS:¬(c.op=6\/c.op=7):=λe=>by rcases e with e | e<;>simp[l_,e] at h
 rw[ma,aC vS] at hl;have hb:∀{b:Bool},(∀f∈dT b 7 c.pos,f.cls=0)->b=false:=λ{b} hh=>by
  cases b with
  | false=>rfl
  | true=>have:=hh ⟨7,c.pos⟩ (by simp[dT]);simp at this
 have:=hb hl
 simp only[Cm,CR] at this;refine⟨by omega,λh3=>?_⟩;have h1:=this.1;rw[aE h3,aE h3] at h1;omega
def akJ(h:nJ c.op=aa)(hf:(kE s c).cls=0):s.vars.length+c.aj.length<=64:=by
 have hl:=TP (by rw[h];simp) hf;have vS:c.op=6\/c.op=7:=by simpa [nJ] using h
 rw[ma,aE vS] at hl
 by_cases hq:(64:Int) - (s.vars.length:Nat)<(c.aj.length:Nat)
 .have:=hl ⟨7,c.pos⟩ (by simp[dT,hq]);simp at this
 .omega
def aka{w:aA}{x:bA}(h:x∈pH s w):∃l∈s.bu,l.shape=x:=by
 unfold pH at h;split at h
 .rename_i k _;cases hk:s.bu[k]? with
  | none=>rw[hk] at h;simp at h
  | some y=>rw[hk] at h;simp at h;exact⟨y,rA hk,h.symm⟩
 .simp at h
def aqC(hs:s.uY)(hn:c.aj.length<=100000)(h3:c.op=3->(pQ s c).bO.length<=8):(sk s c).ok/\(sk s c).bO.length<=100:=by
 have one:∀(k:Int) (r:Rl),(⟨ak,[⟨k,dz c.aj,r⟩]⟩:bA).ok/\(⟨ak,[⟨k,dz c.aj,r⟩]⟩:bA).bO.length<=100:=λk r=>by
  refine⟨⟨by simp,λf hf=>?_⟩,by simp⟩;simp only[kI,EX,D9] at hf;subst hf;simp only[dz,aN];exact hn
 unfold sk;split
 .exact one _ _
 split
 .exact one _ _
 split
 .exact one _ _
 split
 .exact one _ _
 split
 .rename_i h
  have:=h3 h
  refine⟨⟨by omega,λf hf=>?_⟩,by omega⟩;simp only[pQ,BW,O4] at hf;obtain⟨x,⟨w,_,hw⟩,hf⟩:=hf;obtain⟨l,hl,rfl⟩:=aka hw;exact(hs.1.2.2 l hl).2 f hf
 .exact⟨⟨by simp,by simp⟩,by simp⟩
def Yh(hs:s.uY)(h1:s.bu.length<=16)(h2:s.vars.length<=64)(hn:c.aj.length<=100000):(sD s c).uY/\(sD s c).bu.length<=16/\(sD s c).vars.length<=64:=by
 unfold sD;split
 .exact⟨hs,h1,h2⟩
 rename_i hf;have hf:(kE s c).cls=0:=Classical.byContradiction hf;split
 .rename_i h;obtain⟨a1,a2⟩:=akI h hf;have hp:=aqC hs hn a2;have e:(s.bu++[(⟨c.name.an,sk s c⟩:dY)]).length=s.bu.length+1:=by simp
  refine⟨⟨⟨by simp only;omega,hs.1.2.1,λl hl=>?_⟩,λl hl=>?_⟩,by simp only;omega,h2⟩
  .rcases jw.1 hl with hl | hl
   .exact hs.1.2.2 l hl
   .simp at hl;subst hl;exact hp.1
  .rcases jw.1 hl with hl | hl
   .exact hs.2 l hl
   .simp at hl;subst hl;exact hp.2
 split
 .rename_i h;have a1:=akJ h hf;refine⟨⟨⟨hs.1.1,by simp only[bN,aN];omega,hs.1.2.2⟩,hs.2⟩,h1,by simp only[bN,aN];omega⟩
 .exact⟨hs,h1,h2⟩
def TS{r:Rm}(h:(lK s r t).2.2.cls=0):(lK s r t).1=(cW t).1/\(lK s r t).2.1=(if jE s (cW t).1 then lZ s (cW t).1 else .zero)/\(lK s r t).2.2 = .zero /\
 (kE s (cW t).1).cls=0/\(jQ s (cW t).1).cls=0/\kt r (cW t).1=ak/\¬((cW t).1.op=12/\r.fc<=1):=by
 by_cases hr:(cW t).2.1=0
 .by_cases hf:(fU (kX s r (cW t).1)).cls=0
  .rw[DW hr hf]
   have:=JO.1 hf
   exact⟨rfl,rfl,rfl,this⟩
  .rw[Hh hr hf] at h;exact absurd h hf
 .rw[Hg hr] at h;exact absurd h hr
def akM{r:Rm}(h:kt r c=ak):(tI c.op=aa->(eb c).length<=1024/\r.bytes<=16383 - (eb c).length)/\(vE c.op=aa->r.lY<64)/\(c.op=11->r.fc<16):=by
 simp only[kt,Cm,Ck,CR] at h;obtain⟨⟨h1,h2⟩,h3⟩:=h;refine⟨λhs=>?_,λhs=>?_,λhs=>?_⟩
 .rcases h1 with h1 | h1
  .rw[hs] at h1;simp at h1
  .rw[wrap_i64 (by omega) (by omega)] at h1;exact⟨by omega,by omega⟩
 .rcases h2 with h2 | h2
  .rw[hs] at h2;simp at h2
  .omega
 .rcases h3 with h3 | h3
  .exact absurd hs h3
  .omega
def aq6{l:Lv}{x:dQ}(hl:l.ok)(hn:c.aj.length<=100000)(hx:w_ x)(ht:l.bytes<=16383 - (eb c).length)(hm:x.op≠0->l.lY.length<64):(As l c x).ok:=by
 have hb:=hl.b;have e:kv (l.lines++[eb c])=kv l.lines+((eb c).length+1):=aln;unfold As;split
 .rename_i h
  have:=hm h
  refine⟨hl.s,hl.n,hl.v,by simp only[bN,gC];omega,λy hy=>?_,by simp only;rw[e];omega,by simp only;rw[e];omega⟩
  rcases jw.1 hy with hy | hy
  .exact hl.a y hy
  .simp at hy;subst hy;exact hx
 .obtain⟨a1,a2,a3⟩:=Yh hl.s hl.n hl.v hn;exact⟨a1,a2,a3,hl.m,hl.a,by simp only;rw[e];omega,by simp only;rw[e];omega⟩
def YX(h:(if jE s c then lZ s c else dQ.zero).op≠0):vE c.op=true:=by
 split at h
 .rename_i h1
  have:=(LN.1 h1).op
  simp[vE,this.1,this.2]
 .exact absurd rfl h
def ab'{s:gV}(hs:s.ok)(hn:(cW t).1.aj.length<=100000)(hx:w_ (iC s t).2.1):(sK s t).ok:=by
 unfold sK qI;split
 .exact hs
 rename_i h0;have h0:(lK s.live.lP (rk s) t).2.2.cls=0:=Classical.byContradiction h0;obtain⟨e1,e2,_,_,_,h5,h6⟩:=TS h0;obtain⟨m1,m2,m3⟩:=akM h5;have K4 := hs.n;split
 .rename_i h;have h:tI (lK s.live.lP (rk s) t).1.op=true:=h;rw[e1] at h;refine⟨aq6 hs.l (by rw[iC,e1];exact hn) hx (by rw[iC,e1];exact(m1 h).2) (λho=>?_),hs.f,hs.n⟩;rw[iC,e2] at ho
  have:=m2 (YX ho)
  simp only[rk] at this;omega
 split
 .rename_i h;have h:(lK s.live.lP (rk s) t).1.op=11:=h;rw[e1] at h
  have:=m3 h
  simp only[rk] at this;refine⟨hs.l,λl hl=>?_,by simp only[bN,gC];omega⟩
  rcases jw.1 hl with hl | hl
  .exact hs.f l hl
  .simp at hl;subst hl;exact hs.l
 split
 .split
  .rename_i l hl;have hm:l∈s.fc:=List.mem_of_getLast? hl;exact⟨hs.f l hm,λy hy=>hs.f y (List.dropLast_subset _ hy),by simp only[List.length_dropLast];omega⟩
  .exact hs
 .exact hs
def ur(l:Lv):List V:=[.sl .no 3 (l.lP.bu.map dY.enc),.sl .no 3 (l.lP.vars.map du.enc),.sl .no 18 (l.lY.map dQ.enc),.sl .no 1 (cU l.lines),.int .i64 l.bytes]
def jF(k:Tk)(s:gV):List V:=[.sl .no 3 (s.live.lP.bu.map dY.enc),.sl .no 3 (s.live.lP.vars.map du.enc),.sl .no 18 (s.live.lY.map dQ.enc),.sl .no 1 (cU s.live.lines),.int .i64 s.live.bytes,.sl k 5 (s.fc.map ur)]
def Pk(Z:ag)(k:Tk)(n:Nat):Prop:=match k with | .no=>False | .aV=>True | .tk t=>Z.aK t=U n
structure sC(Z:ag)(b:Nat)(k:Tk)(s:gV):Prop where
 b:Z.box b=U (jF k s)
 t:Pk Z k s.fc.length
structure Kp(Z σ' : ag)(b:Nat)(k k' : Tk):Prop where
 b:∀c,c≠b->σ'.box c=Z.box c
 t:∀t n,k≠.tk t->Z.aK t=U n->σ'.aK t=U n
 c:σ'.bY=Z.bY
 f:∀t,k' = .tk t->k = .tk t\/Z.aK t=af
variable{b:Nat}{Z:ag}
def Kp.rfl{k:Tk}:Kp Z Z b k k:=⟨λ_ _=>Eq.refl _,λ_ _ _ h=>h,Eq.refl _,λ_ h=>.inl h⟩
def Cg(k l:Tk):Prop:=∀t,k = .tk t->l≠.tk t
def Cg.symm{k l:Tk}(h:Cg k l):Cg l k:=λt e e' => h t e' e
def sC.other{σ':ag}{c:Nat}{k k' l:Tk}{s:gV}(h:sC Z c l s)(hk:Kp Z σ' b k k')(hn:c≠b)(ha:Cg k l):sC σ' c l s/\Cg k' l:=by
 refine⟨⟨(hk.b c hn).trans h.b,?_⟩,λt e e' => ?_⟩
 .have ht:=h.t;cases l with
  | no=>exact ht
  | aV=>trivial
  | tk t=>exact hk.t t _ (λe=>ha t e rfl) ht
 .rcases hk.f t e with h1 | h1
  .exact ha t h1 e'
  .have ht:=h.t;rw[e'] at ht;simp only[Pk] at ht;rw[h1] at ht;simp at ht
def RA:List V:=[.sl .aV 3 [],.sl .aV 3 [],.sl .aV 18 [],.sl .aV 1 [],.int .i64 0,.sl .aV 5 []]
section
variable {P:Program} {d:Option Nat} {r:List AO} {K:St->Prop} {x y:X} {st:St} {n:Bool} {H:V->Prop} {p:Pl} {o:Nat}
def Mv(n:Bool)(v w:V)(K:V->Prop):Prop:=match isNil v,w with | some g,.fV=>K (.bool (if n then !g else g)) | _,_=>False
theorem amT:bV P (⟨d,.qK n x y,af⟩::r) K st=Mv n (ev st x) (ev st y) (kL P d r K st):=rfl
def al3:Mv n .fV .fV H=H (.bool (!n)):=by cases n<;>rfl
def al4:Mv n (.ptr p o) .fV H=H (.bool n):=by cases n<;>rfl
end
def yV:=ae @amT <| ae @al3 @al4
section
variable {x:dQ}
def YF(op lat:Int)(c:V)(to:bH)(r:List V):(.int .i64 op::.int .i64 lat::c::(to.enc++r):List V).drop 12=r:=by
 obtain⟨tv,e⟩:=to;exact bh.Jf (P:=λe=>(.int .i64 op::.int .i64 lat::c::((bH.mk tv e).enc++r):List V).drop 12=r) (λ_ _ _ _ _ _ _ _ _=>rfl) e
def PD(op lat:Int)(c:V)(to:bH)(r u:List V)(k:Nat):setAt (.int .i64 op::.int .i64 lat::c::(to.enc++r):List V) (12+k) u = .int .i64 op::.int .i64 lat::c::(to.enc++setAt r k u):=by
 obtain⟨tv,e⟩:=to;refine bh.Jf (P:=λe=>setAt (.int .i64 op::.int .i64 lat::c::((bH.mk tv e).enc++r):List V) (12+k) u = .int .i64 op::.int .i64 lat::c::((bH.mk tv e).enc++setAt r k u)) (λ_ _ _ _ _ _ _ _ _=>?_) e;rw[Cu];rfl
theorem Zh:bZ 1 (x.enc.drop 2)=true:=rfl
theorem Zk:bF ak 1 (x.enc.drop 2)=U (.sl .no 10 (x.code.map bw.enc)):=rfl
theorem Zq:setAt x.enc 2 [.sl .no 10 (x.code.map bw.enc)]=x.enc:=rfl
def I9:x.enc.drop 12=[.sl .no 10 (x.a.fs.map bW.enc),.int .i64 x.a.tail,.sl .no 10 (x.b.fs.map bW.enc),.int .i64 x.b.tail,.int .i64 x.v,.aF x.field]:=YF ..
def Zf:bZ 1 (x.enc.drop 12)=true:=by rw[I9];rfl
def Zi:bF ak 1 (x.enc.drop 12)=U (.sl .no 10 (x.a.fs.map bW.enc)):=by rw[I9];rfl
def Zo:setAt x.enc 12 [.sl .no 10 (x.a.fs.map bW.enc)]=x.enc:=PD _ _ _ _ _ _ 0
def PK:x.enc.drop 14=[.sl .no 10 (x.b.fs.map bW.enc),.int .i64 x.b.tail,.int .i64 x.v,.aF x.field]:=by rw[show 14=12+2 from rfl,<-wY,I9];rfl
def Zg:bZ 1 (x.enc.drop 14)=true:=by rw[PK];rfl
def Zj:bF ak 1 (x.enc.drop 14)=U (.sl .no 10 (x.b.fs.map bW.enc)):=by rw[PK];rfl
def Zp:setAt x.enc 14 [.sl .no 10 (x.b.fs.map bW.enc)]=x.enc:=PD _ _ _ _ _ _ 2
def Zm:x.enc.length=18:=sF
def PN:takeN 18 x.enc=U x.enc:=I7
def Zn:cC x.enc=true:=yY rfl rfl rfl
def PM:over (cz 0 0 (.sl .aV 10 []) .zero (.sl .aV 10 []) 0 (.sl .aV 10 []) 0 0 []) x.enc=x.enc:=tu (by rw[sF];exact sF.symm)
def Zl:bF aa 18 x.enc=U (.agg x.enc):=by rw[x9,PN];rfl
theorem Zr:bZ 18 iJ=true:=rfl
def Zs:over iJ x.enc=x.enc:=PM
def jA:=ae @Zr <| ae @Zs <| ae @Zh <| ae @Zk <| ae @Zq <| ae @Zf <| ae @Zi <| ae @Zo <| ae @Zg <| ae @Zj <| ae @Zp <| ae @Zm <| ae @PN <| ae @Zn <| ae @PM <| ae @Zl <| ae @dQ.dk @dQ.dw
end
def rp(l:List (List UInt8)):List UInt8:=l.flatMap λt=>t++[10]
def W5:∀{l:List (List UInt8)},(rp l).length=kv l
 | []=>rfl
 | t::l=>by have:=@W5 l;simp only[rp,kv,p7,bN,gC,b8,nM] at this ⊢;omega
def arv{l:List (List UInt8)}:rp (l++[t])=rp l++t++[10]:=by simp[rp]
def W6{l:List (List UInt8)}{i:Nat}(h:i<l.length):rp (l.take (i+1))=rp (l.take i)++l[i]++[10]:=by rw[jx h,arv]
def alo{a b:List (List UInt8)}:kv (a++b)=kv a+kv b:=by simp[kv]
def alp{l:List (List UInt8)}{i:Nat}:kv (l.take i)<=kv l:=by
 have h:=@alo (l.take i) (l.drop i);rw[qA] at h;omega
def HL:List UInt8:=[112,111,112]
def cg.up{P:Program}{f:FuncId}{as:List V}{R S:V->ag->Prop}(h:cg P f as Z R)(k:∀v σ',R v σ' -> ∃rq,bL σ' rq /\ S v rq):cg P f as Z S :=
 ⟨h.1,λE vs h1 h2 h3=>(h.2 E vs h1 h2 h3).mono λ_ _ ⟨v',x,E',σ',a,b,c,d,e,f,g⟩=>by
  obtain⟨rq,o,r⟩:=k _ _ g;exact⟨v',x,E',rq,a,b,c,d.eh o,e,f,r⟩⟩
def RB:cJ RA (jF .aV .zero):=⟨da.no,da.no,da.no,da.no,da.rfl,da.rfl,trivial⟩
def Wj:sC (Z.set b (jF .aV .zero)) b .aV .zero:=⟨gR,trivial⟩
def E6(Z:ag)(k:Tk):Prop:=∀t,k = .tk t->Z.aK t=af
def Kp.sub{cN fz:ag}{k k' : Tk}(h:Z.sub cN)(hb:Z.box b=af)(hk:E6 Z k)(h2:Kp cN fz b k k'):Z.sub fz/\E6 Z k' := by
 refine⟨⟨λc cs hc=>?_,λt n ht=>?_,λc cs hc=>?_⟩,λt e=>?_⟩
 .rw[h2.b c (λe=>by rw[e,hb] at hc;simp at hc)];exact h.1 c cs hc
 .exact h2.t t n (λe=>by rw[hk t e] at ht;simp at ht) (h.2.1 t n ht)
 .rw[h2.c];exact h.2.2 c cs hc
 .rcases h2.f t e with e1 | e1
  .exact hk t e1
  .cases hq:Z.aK t with
   | none=>rfl
   | some n=>rw[h.2.1 t n hq] at e1;simp at e1
def NW{cs:List V}(h:Z.box b=af):Z.sub (Z.set b cs) :=
 ⟨λc ds hc=>by rw[mL (λe=>by rw[e,h] at hc;simp at hc)];exact hc,λ_ _ h=>h,λ_ _ h=>h⟩
def uv:List (List UInt8):=[[99,104,97,105,110,32,107,32,123,97,44,98,125],[112,117,115,104],[108,97,98,101,108,32,107,32,32,123,120,125],[112,111,112]]
def nV(i:Nat):gV:=(uv.take i).foldl sK .zero
def adr{i:Nat}(h:i<uv.length):nV (i+1)=sK (nV i) uv[i]:=by rw[nV,jx h,AQ];rfl
def ads:∀i:Fin 4,(iC (nV i) (uv.getD i [])).2.2=⟨0,0⟩:=by decide +kernel
def QX:∀t∈uv,t.length<=3000:=by decide
def adt:(iC (nV 4) HL).2.2=⟨8,0⟩:=by decide +kernel
def adv:rp (nV 4).live.lines=[99,104,97,105,110,32,107,32,123,97,44,98,125,10]:=by decide +kernel
def adu:(nV 4).live.bytes=14/\(nV 4).live.lY.length=0/\(nV 4).fc.length=0:=by decide +kernel
end Go.Am
