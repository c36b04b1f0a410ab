/-
  Part 5 of the proof of StackDropsUptoCardSaid: a logic over the model, the forms of the functions that the law reaches, and what they compute.
-/
import Derived.Test.YtnpggmhoandloaaGreatDoorDrops4
set_option linter.unusedVariables false
set_option linter.unusedSimpArgs false
set_option linter.defProp false
set_option linter.unusedSectionVars false
set_option maxRecDepth 4000
set_option maxHeartbeats 4000000
open Option renaming some->U,none->ae
open Bool renaming true->aa,false->ak
open List renaming replicate->aA,range->cc,getD->gU,zipWith->lg
open Eq renaming mpr->eN
open Ne renaming symm->fm
namespace Go.Am
variable{c:aq}
def am'(h:c.fq=aa)(h0:c.op=0):dS c=[]/\aq.zero.cI c=true:=by
 simp only[aq.fq,bA,b7] at h;obtain⟨⟨⟨⟨_,hn⟩,kM⟩,hp⟩,ht⟩:=h;have e:(cn c.op).2=[]:=by rw[h0];rfl
 have e1:(cn c.op).1=[]:=by rw[h0];rfl
 simp only[aq.mB,aq.jW,aq.kW,aq.jA,eR] at hn kM hp ht;simp[e] at hn kM hp ht;have zl:∀n:Nd,n.cI .zero=aa->Nd.zero.cI n=true:=λn h=>Nd.yq _ _ h
 refine⟨by simp[dS,kt,e,e1,ji],?_⟩;simp[aq.cI,aq.zero,h0,hn,kM,hp,dt,kZ,zl _ ht.1,zl _ ht.2]
def aoY(h:c.fq=aa):(dG (dS c)).2=ae /\
 ((gQ (dG (dS c)).1).2=ae->∃d,cV (dS c)=(d,0,0)/\c.cI d=aa)/\(∀a,(gQ (dG (dS c)).1).2=U a->cV (dS c)=(.zero,2,a)):=by
 have h0:0<=c.op:=by simp only[aq.fq,bA,b7] at h;exact h.1.1.1.1.1
 have sK:c.op<=15:=by simp only[aq.fq,bA,b7] at h;exact h.1.1.1.1.2
 by_cases hz:c.op=0
 .obtain⟨e1,e2⟩:=am' h hz;rw[e1];refine⟨rfl,λ_=>⟨.zero,rfl,aq.yq e2⟩,λa ha=>?_⟩
  have:(gQ (dG []).1).2=none:=by decide +kernel
  rw[this] at ha;simp at ha
 .have h1:1<=c.op:=by omega
  obtain⟨_,k2,_⟩:=C2 h1 sK;obtain⟨l1,l2⟩:=WR k2 (MS h h1);obtain⟨us,f1,w1,b1⟩:=aaJ h h1 l2;refine⟨l1,λhd=>?_,λa ha=>?_⟩
  .have ht:(gQ (dG (dS c)).1).1=us:=by rw[<-f1] at hd ⊢;exact WX w1 hd
   obtain⟨d,e1,e2⟩:=b1 ((dS c).length:Nat);refine⟨d,?_,aq.yq e2⟩;unfold cV;rw[Az,l1,hd,ht];exact e1
  .unfold cV;rw[Az,l1,ha]
mutual
def NB:∀(n m:Nd),n.cI m=aa->n.da=m.da
 | .mk k p t ws ks, m, h => by
  rw[Nd.Aq] at h;simp only[bA,b7] at h;obtain⟨⟨⟨h1,h2⟩,h3⟩,h4⟩:=h;rw[Ek] at h3;simp only[b7] at h3;have h5:dD (Nd.mk k p t ws ks).ah=dD m.ah:=V5 ks m.ah h4;have h6:ia (Nd.mk k p t ws ks).aj=ia m.aj:=by unfold ia;rw[h3]
  have h7:(Nd.mk k p t ws ks).aj.length=m.aj.length:=by have:=gX List.length h3;simpa using this
  rw[Nd.tK (.mk k p t ws ks),Nd.tK m,h1,h2,h5,h6]
  first | rfl | rw[h7] | skip
def V5:∀(a b:List Nd),cX a b=aa->dD a=dD b
 | [],[],_=>rfl
 | [],_::_,h=>by simp[cX] at h
 | _::_,[],h=>by simp[cX] at h
 | n :: ns, m :: ms, h => by
  simp only[cX,bA] at h;simp only[dD,NB n m h.1,V5 ns ms h.2]
end
def V0:∀(a b:List (au × au)),kZ a b=aa->a.map jy=b.map jy
 | [],[],_=>rfl
 | [],_::_,h=>by simp[kZ] at h
 | _::_,[],h=>by simp[kZ] at h
 | p :: ps, q :: qs, h => by
  simp only[kZ,bA,b7] at h;simp only[bX,jy,h.1.1,h.1.2,V0 ps qs h.2]
def apM{a b:aq}(h:a.cI b=aa):dS a=dS b:=by
 unfold aq.cI at h;rw[Ek] at h;simp only[bA,b7] at h;obtain⟨⟨⟨⟨⟨h1,h2⟩,h3⟩,h4⟩,h5⟩,h6⟩:=h;have hp:=V0 _ _ h4;have key:∀(ks:List UInt8) (ts us:List Nd),ts.map Nd.da=us.map Nd.da->(lF ks ts).map (λq=>l9 q.1 a q.2)=(lF ks us).map (λq=>l9 q.1 b q.2):=by
  intro ks;induction ks with
  | nil=>intros;rfl
  | cons k ks ih =>
   intro ts us pC;have hh:(ts.headD .zero).da=(us.headD .zero).da:=by
    cases ts with
    | nil => cases us with
     | nil=>rfl
     | cons=>simp at pC
    | cons => cases us with
     | nil=>simp at pC
     | cons=>simp at pC;exact pC.1
   have ht:(if isTerm k=aa then ts.tail else ts).map Nd.da=(if isTerm k=aa then us.tail else us).map Nd.da:=by
    split
    .rw[List.map_tail,List.map_tail,pC]
    .exact pC
   simp only[lF,bX,ih _ _ ht];congr 1;unfold l9;rw[h2,h3,hp,hh]
 rw[H6,H6,h1,key _ [a.left,a.right] [b.left,b.right] (by simp[NB _ _ h5,NB _ _ h6])]
def A0(t:Tok):Prop:=(t.kind=97/\dy t.al=aa)\/∃c:UInt8,t.kind=(c.toNat:Nat)/\t.al=[c]/\(mc (c.toNat:Nat)&&!gy c&&decide (c.toNat≠45))=aa
def aqi(c:UInt8)(h:mc (c.toNat:Nat)=aa):(mc (c.toNat:Nat)&&!gy c&&decide (c.toNat≠45))=true:=by
 have key:∀n<256,mc ((UInt8.ofNat n).toNat:Nat)=aa->(mc ((UInt8.ofNat n).toNat:Nat)&&!gy (UInt8.ofNat n)&&decide ((UInt8.ofNat n).toNat≠45))=true:=by decide +kernel
 have:=key c.toNat c.toNat_lt
 rw[UInt8.ofNat_toNat] at this;exact this h
def Hh:∀(n p:Nat) (r:List UInt8) (acc:List Tok),(∀t∈acc,A0 t)->∀t∈(e9 n p r acc).1,A0 t
 | 0,_,r,acc,h=>by cases r<;>simpa [e9] using h
 | n+1,p,[],acc,h=>by simpa [e9] using h
 | n + 1, p, c :: r, acc, h => by
  simp only[e9];split
  .exact h
  .split
   .rename_i hr;refine Hh n _ _ _ λt ht=>?_
    rcases jE.1 ht with ht | ht
    .exact h t ht
    .rw[o_.1 ht];exact .inl ⟨rfl,hr.2⟩
   .split
    .rename_i hs;refine Hh n _ _ _ λt ht=>?_
     rcases jE.1 ht with ht | ht
     .exact h t ht
     .rw[o_.1 ht];exact .inr ⟨c,rfl,rfl,aqi c hs⟩
    .split
     .exact Hh n _ _ _ h
     .simp
def mJ(l:List Tok):Nat:=(l.map λt=>t.al.length+1).sum
def Ie(a b:List Tok):mJ (a++b)=mJ a+mJ b:=by simp[mJ]
def Hi:∀(n p:Nat) (r:List UInt8) (acc:List Tok),mJ (e9 n p r acc).1<=mJ acc+2*r.length
 | 0,_,r,acc=>by cases r<;>simp[e9]
 | n+1,p,[],acc=>by simp[e9]
 | n + 1, p, c :: r, acc => by
  simp only[e9];have hr:=Np (c::r);simp only[db] at hr ⊢;split
  .simp only;omega
  .split
   .rename_i h1
    have:=Hi n (p+(fj (c::r)).length) ((c::r).drop (fj (c::r)).length) (acc++[⟨97,fj (c::r),p⟩])
    simp only[Ie,IM,db] at this;simp only[mJ,bX,eC,mO,rA] at this ⊢;omega
   .split
    .have:=Hi n (p+1) r (acc++[⟨(c.toNat:Nat),[c],p⟩])
     simp only[Ie] at this;simp only[mJ,bX,eC,mO,rA,db,ei] at this ⊢;omega
    .split
     .have:=Hi n (p+1) r acc;omega
     .simp[mJ]
def TD:∀(toks:List Tok) (k:Option Int),(∀t∈toks,A0 t)->lQ (iO k toks) (toks.map Tok.sh)/\(k=U 97->Stop (iO k toks))
 | [],k,_=>⟨lex_nil,λ_=>trivial⟩
 | t :: ts, k, h => by
  obtain⟨h1,h2⟩:=TD ts (U t.kind) λx hx=>h x (by simp[hx])
  rcases h t (by simp) with ⟨hk,hn⟩ | ⟨c,hk,ht,hc⟩
  .have hl:lQ (t.al++iO (U t.kind) ts) ((t::ts).map Tok.sh):=by
    have:=Ty hn (h2 (by rw[hk])) h1
    have e:t.sh=fA t.al:=by unfold Tok.sh fA;rw[hk]
    rw[bX,e];exact this
   by_cases KP:k=U 97
   .have e:iO k (t::ts)=[32]++(t.al++iO (U t.kind) ts):=by simp[iO,KP,hk]
    rw[e];exact⟨TB hl,λ_=>show gy 32=ak by decide⟩
   .have e:iO k (t::ts)=t.al++iO (U t.kind) ts:=by simp[iO,KP]
    rw[e];exact⟨hl,λh=>absurd h KP⟩
  .simp only[bA,tP,b7] at hc;have gd:t.kind≠97:=λe=>by
    have h3:=hc.1.1;rw[<-hk,e] at h3;revert h3;decide
   have e:iO k (t::ts)=[c]++iO (U t.kind) ts:=by simp[iO,gd,ht]
   rw[e];have es:t.sh=bE c:=by unfold Tok.sh bE;rw[hk,ht]
   rw[bX,es];exact⟨TA hc.1.1 hc.1.2 hc.2 h1,λ_=>hc.1.2⟩
def akl{s:List UInt8}{a b:List Sh}(h:lQ s a)(k:lQ s b):a=b:=by
 obtain⟨x,e1,e2⟩:=h s.length 0 [] (bL _);obtain⟨y,f1,f2⟩:=k s.length 0 [] (bL _);rw[e1] at f1
 have:x=y:=by simpa using f1
 rw[<-e2,<-f2,this]
variable{toks:List Tok}
def Wq{T:List UInt8}{S:List Sh}(h:∀t∈toks,A0 t)(hL:jD T S)(ht:eW toks=T):toks.map Tok.sh=S:=by
 have h1:lQ (T++[]) (S++[]):=hL [] [] trivial lex_nil;rw[eg,eg,<-ht] at h1;exact akl (TD toks ae h).1 h1
def N1:∀(toks:List Tok) (k:Option Int),(iO k toks).length<=mJ toks
 | [],k=>by simp[iO]
 | t :: ts, k => by
  have:=N1 ts (U t.kind)
  simp only[iO,bI,mJ,bX,mO] at this ⊢;split<;>simp<;>omega
def aq1(h:toks≠[]):(eW toks).length+1<=mJ toks:=by
 cases toks with
 | nil=>exact absurd rfl h
 | cons t ts =>
  have:=N1 ts (U t.kind)
  simp only[eW,iO,bI,mJ,bX,mO,reduceCtorEq,CW,ck,ei] at this ⊢;omega
def ajF{l m:List Tok}(h:l.map Tok.kind=m.map Tok.kind)(i:Nat):eK l i=eK m i:=by
 have e:∀x:List Tok,eK x i=((x.map Tok.kind)[i]?).getD 0:=λx=>by
  unfold eK;rw[vu];cases x[i]?<;>rfl
 rw[e,e,h]
def QX{l m:List Tok}(h:l.map Tok.kind=m.map Tok.kind):∀n i o,po l n i o=po m n i o
 | 0,_,_=>rfl
 | n + 1, i, o => by
  have hk:eK l=eK m:=funext (ajF h);have ih:po l n=po m n:=funext λi=>funext λo=>QX h n i o
  simp only[po,hk,ih]
def arc{l m:List Tok}(h:l.map Tok.sh=m.map Tok.sh)(hn:(gQ l).2=ae):(gQ m).2=none:=by
 have hk:l.map Tok.kind=m.map Tok.kind:=by
  have:=gX (List.map Prod.fst) h
  simpa [Ct,vr,Tok.sh] using this
 have hl:l.length=m.length:=by simpa using gX List.length h
 unfold gQ at hn ⊢;rw[QX hk,hl] at hn;split
 .rename_i h0;rw[aD h0] at hn;simp at hn
 .rfl
variable{r r':ab}{seg:List ar}
def Jz(h:ib r r' seg):0<=r.at_/\r'.at_=r.at_+(seg.length:Nat)/\r'.at_<=(r.l.length:Nat):=by
 obtain⟨pre,post,e1,e2,e3⟩:=h.ex;rw[e1,e2,e3];simp only[bI];refine⟨?_,?_,?_⟩<;>omega
def FR(h:ib r r' seg)(hg:ec r.l):ec r'.l:=by rw[h.l];exact hg
def ajj(x y:List UInt8)(l:List (List UInt8)):cz (x::y::l)=x++[44]++cz (y::l):=by simp[cz]
def ab7{t:ar}{i:ab}(h:ib t.inner i seg)(he:i.at_=(t.ah.length:Nat)):seg=t.ah:=by
 obtain⟨pre,post,e1,e2,e3⟩:=h.ex;have e0:t.inner.at_=0:=rfl;have el:t.inner.l=t.ah:=rfl;rw[e0] at e2;have hp:pre=[]:=jq.1 (by omega);subst hp;rw[el] at e1;have hq:post=[]:=by
  rw[e3,e1] at he;simp only[fY,bI] at he;exact jq.1 (by omega)
 subst hq;simpa using e1.symm
def UG:∀(n:Nat) (i:ab) (acc:List (au × au)),ec i.l->i.at_<=(i.l.length:Nat)->(i.l.length:Int)<n+i.at_->(ab.fT n i acc).1.aE=ae ->
 ∃seg ps,ib i (ab.fT n i acc).1 seg/\(ab.fT n i acc).2=acc++ps/\ps≠[]/\eW (bj seg)=cz (ps.map jy)/\ps.all mZ=aa/\(ab.fT n i acc).1.at_=(i.l.length:Nat)
 | 0,i,acc,_,h1,h2,_=>by omega
 | n + 1, i, acc, hg, h1, h2, hb => by
  have GD:i.aE=none:=by
   cases hq:i.aE with
   | none=>rfl
   | some b=>have:=yl hq (n+1) acc;rw[hb] at this;simp at this
  have one:∀(hc:((i.word.2.take 60).2.word).2.aE=ae),∃seg,ib i ((i.word.2.take 60).2.word).2 seg/\0<seg.length/\eW (bj seg)=jy (i.word.1,((i.word.2.take 60).2.word).1)/\mZ (i.word.1,((i.word.2.take 60).2.word).1)=true:=by
   intro hc;have l1:i.word.2.l=i.l:=i.ft 97;have l2:(i.word.2.take 60).2.l=i.l:=(ab.ft _ 60).trans l1;obtain⟨s3,Qz,e32,e33,_⟩:=vm (i.word.2.take 60).2 (by rw[l2];exact hg) hc;obtain⟨c1,c2⟩:=nq Qz.b;obtain⟨s1,e11,e12,e13,_⟩:=vm i hg c1.b;have mq:=(c1.kc (by rw[l1];exact hg)).1;refine⟨s1++[(i.word.2.take 60).1]++s3,(e11.trans c1).trans Qz,by simp only[bI,gv];omega,?_,?_⟩
   .rw[wN (by rw[c2];decide) (by rw[c2];rfl),e12,e32,qq mq c2 (by decide)];rfl
   .simp[mZ,e13,e33]
  simp only[ab.fT] at hb ⊢;rw[aB (by simp[GD])] at hb ⊢;split
  .rename_i iu;rw[aD iu] at hb;obtain⟨seg,e1,_,e2,e3⟩:=one hb;refine⟨seg,[(i.word.1,((i.word.2.take 60).2.word).1)],e1,rfl,by simp,?_,?_,iu⟩
   .rw[e2];simp[cz]
   .simp[e3]
  .rename_i iu;rw[aB iu] at hb;have hq:(((i.word.2.take 60).2.word).2.take 44).2.aE=none:=by
    cases hq:(((i.word.2.take 60).2.word).2.take 44).2.aE with
    | none=>rfl
    | some b=>have:=yl hq n (acc++[(i.word.1,((i.word.2.take 60).2.word).1)]);rw[hb] at this;simp at this
   obtain⟨c1,c2⟩:=nq hq;obtain⟨seg,e1,e0,e2,e3⟩:=one c1.b;have et:=e1.trans c1;have mq:=(c1.kc (FR e1 hg)).1;obtain⟨a1,a2,a3⟩:=Jz et;have hl:(((i.word.2.take 60).2.word).2.take 44).2.l=i.l:=et.l;simp only[bI,gv] at a2;obtain⟨sg,ps,g1,g2,g3,g4,g5,g6⟩:=UG n (((i.word.2.take 60).2.word).2.take 44).2 (acc++[(i.word.1,((i.word.2.take 60).2.word).1)]) (FR et hg) (by rw[hl];exact a3) (by rw[hl];omega) hb;refine⟨seg++[(((i.word.2.take 60).2.word).2.take 44).1]++sg,(i.word.1,((i.word.2.take 60).2.word).1)::ps,et.trans g1,?_,by simp,?_,?_,?_⟩
   .rw[g2];simp
   .rw[wN (by rw[c2];decide) (by rw[c2];rfl),e2,g4,qq mq c2 (by decide)];obtain⟨p,qs,rfl⟩:∃p qs,ps=p::qs:=by
     cases ps with
     | nil=>exact absurd rfl g3
     | cons p qs=>exact⟨p,qs,rfl⟩
    simp only[bX,ajj];rfl
   .rw[tR,e3,g5];rfl
   .rw[g6,hl]
def vt(k:UInt8)(seg:List ar)(c0 c1:aq):Prop :=
 (k=110/\∃w:au,dy w.al=aa/\eW (bj seg)=w.al/\c1={c0 with name:=w}) \/
 (k=102/\∃w:au,dy w.al=aa/\eW (bj seg)=w.al/\c1={c0 with aj:=[w]}) \/
 (k=119/\∃ws:List au,0<ws.length/\hH ws=aa/\eW (bj seg)=[123]++ia ws++[125]/\c1={c0 with aj:=ws}) \/
 (k=112/\∃(ps:List (au × au)) (a:Int),ps.all mZ=aa/\eW (bj seg)=uh (ps.map jy)/\c1={c0 with bh:=ps,mC:=a}) \/
 (k=116/\∃m:Nd,m.eU=aa/\eW (bj seg)=m.da/\c1=if c0.left.kind=0 then {c0 with left:=m} else {c0 with right:=m}) \/
 (k=114/\∃m:Nd,m.iW=aa/\eW (bj seg)=m.da/\c1=if c0.left.kind=0 then {c0 with left:=m} else {c0 with right:=m})
def Wd(h:0<iN seg):seg≠[]:=λe=>by rw[e] at h;simp[iN,a9] at h
variable{Q:Nd->Prop}{l:List ar}
def Um{a fin:Int}{one:ab->Nd × ab}(hs:Sound one Nd.da Q SN)(hg:ec l)(hb:(iM ⟨l,a,fin,ae⟩ c (fi one l a fin)).1.aE=ae):
 ∃seg m,seg≠[]/\ib ⟨l,a,fin,ae⟩ (iM ⟨l,a,fin,ae⟩ c (fi one l a fin)).1 seg/\Q m/\eW (bj seg)=m.da/\(iM ⟨l,a,fin,ae⟩ c (fi one l a fin)).2=if c.left.kind=0 then {c with left:=m} else {c with right:=m}:=by
 unfold fi at hb ⊢;cases hq:(one ⟨l,a,fin,ae⟩).2.aE with
 | some b=>rw[hq] at hb;simp[iM] at hb
 | none =>
  obtain⟨seg,e1,e2,e3,e4⟩:=hs ⟨l,a,fin,ae⟩ hg hq;refine⟨seg,_,Wd ?_,⟨e1.ex,rfl,rfl,rfl⟩,e3,e2,rfl⟩;simp only[SN] at e4;omega
variable{k:UInt8}{x:ab × aq}
def anJ(hk:k=110\/k=102\/k=119\/k=112\/k=116\/k=114)(hg:ec x.1.l)(hp:k=112->x.2.bh=[])(hb:(c9 k x).1.aE=ae):
 ∃seg,seg≠[]/\ib x.1 (c9 k x).1 seg/\vt k seg x.2 (c9 k x).2:=by
 obtain⟨⟨l,a,fin,aE⟩,c⟩:=x;have Lj:aE=none:=by
  cases aE with
  | none=>rfl
  | some b=>simp[c9] at hb
 subst Lj;have qX:∀(h:(⟨l,a,fin,ae⟩:ab).word.2.aE=ae),∃seg,seg≠[]/\ib ⟨l,a,fin,ae⟩ (⟨l,a,fin,ae⟩:ab).word.2 seg/\eW (bj seg)=(⟨l,a,fin,ae⟩:ab).word.1.al/\dy (⟨l,a,fin,ae⟩:ab).word.1.al=true:=λh=>by
  obtain⟨seg,e1,e2,e3,e4⟩:=vm ⟨l,a,fin,ae⟩ hg h;exact⟨seg,Wd (by simp only[SW] at e4;omega),e1,e2,e3⟩
 rcases hk with rfl | rfl | rfl | rfl | rfl | rfl
 .have e:c9 110 (⟨l,a,fin,ae⟩,c)=((⟨l,a,fin,ae⟩:ab).word.2,{c with name:=(⟨l,a,fin,ae⟩:ab).word.1}):=by simp[c9]
  rw[e] at hb ⊢;obtain⟨seg,h1,h2,h3,h4⟩:=qX hb;exact⟨seg,h1,h2,.inl ⟨rfl,_,h4,h3,rfl⟩⟩
 .have e:c9 102 (⟨l,a,fin,ae⟩,c)=((⟨l,a,fin,ae⟩:ab).word.2,{c with aj:=[(⟨l,a,fin,ae⟩:ab).word.1]}):=by simp[c9]
  rw[e] at hb ⊢;obtain⟨seg,h1,h2,h3,h4⟩:=qX hb;exact⟨seg,h1,h2,.inr (.inl ⟨rfl,_,h4,h3,rfl⟩)⟩
 .have e:c9 119 (⟨l,a,fin,ae⟩,c)=(⟨l,a+1,fin,(iZ l a fin).2⟩,{c with aj:=(iZ l a fin).1}):=by simp[c9]
  rw[e] at hb ⊢;have hw:((⟨l,a,fin,ae⟩:ab).words ak).2.aE=none:=by
   cases hq:((⟨l,a,fin,ae⟩:ab).words ak).2.aE with
   | none=>rfl
   | some b=>simp[iZ,hq] at hb
  have ew:iZ l a fin=(((⟨l,a,fin,ae⟩:ab).words ak).1.1,ae):=by simp[iZ,hw]
  obtain⟨t,b1,b2,b3,b4,_,b6⟩:=Jb (one:=ab.word) vm (k:=123) (e:=false) (r:=⟨l,a,fin,ae⟩) hg hw;have lx:=(b1.kc hg).1;rw[ew];refine⟨[t],by simp,?_,.inr (.inr (.inl ⟨rfl,_,b6 rfl,Nj b4,?_,rfl⟩))⟩
  .obtain⟨pre,post,e1,e2,e3⟩:=b1.ex;have e2:a=(pre.length:Nat):=e2;refine⟨⟨pre,post,e1,e2,?_⟩,rfl,rfl,rfl⟩;simp only[bI,gv];omega
  .rw[B7 (by rw[b2];decide),b3,qq lx b2 (by decide),b2];rfl
 .have hp:=hp rfl;have e:c9 112 (⟨l,a,fin,ae⟩,c)=oH ⟨l,a,fin,ae⟩ c:=by simp[c9]
  rw[e] at hb ⊢;unfold oH at hb ⊢;simp only at hb ⊢ hp;split
  .rename_i hc;rw[aD hc] at hb;have hb:((⟨l,a,fin,ae⟩:ab).take 123).2.aE=none:=hb;obtain⟨t1,t2⟩:=nq hb;have lx:=(t1.kc hg).1;have rN:((⟨l,a,fin,ae⟩:ab).take 123).1.ah=[]:=by
    rcases hc with h | h
    .exact absurd hb h
    .exact jq.1 h
   refine⟨[((⟨l,a,fin,ae⟩:ab).take 123).1],by simp,t1,.inr (.inr (.inr (.inl ⟨rfl,[],((⟨l,a,fin,ae⟩:ab).take 123).1.tok.pos,rfl,?_,?_⟩)))⟩
   .rw[B7 (by rw[t2];decide),rN,qq lx t2 (by decide),t2];rfl
   .cases c;simp only at hp;subst hp;rfl
  .rename_i hc;rw[aB hc] at hb;have h1:((⟨l,a,fin,ae⟩:ab).take 123).2.aE=none:=by
    cases hq:((⟨l,a,fin,ae⟩:ab).take 123).2.aE with
    | none=>rfl
    | some b=>exact absurd (.inl (by rw[hq];simp)) hc
   obtain⟨t1,t2⟩:=nq h1;have lx:=(t1.kc hg).1;have v8:=((xz _).1 lx).2.2;generalize ((⟨l,a,fin,ae⟩:ab).take 123).2=r1 at hb t1 h1 ⊢;generalize ((⟨l,a,fin,ae⟩:ab).take 123).1=t at hb t1 t2 lx v8 ⊢;have hG:(ab.fT (t.ah.length+1) t.inner []).1.aE=none:=by
    cases hq:(ab.fT (t.ah.length+1) t.inner []).1.aE with
    | none=>rfl
    | some b=>rw[hq] at hb;simp[ab.ue] at hb
   have el:t.inner.l=t.ah:=rfl;have ea:t.inner.at_=0:=rfl;obtain⟨sg,ps,g1,g2,g3,g4,g5,g6⟩:=UG (t.ah.length+1) t.inner [] v8 (by rw[ea];omega) (by rw[el,ea];omega) hG;have hs:=ab7 g1 g6;subst hs;refine⟨[t],by simp,?_,.inr (.inr (.inr (.inl ⟨rfl,ps,t.tok.pos,g5,?_,?_⟩)))⟩
   .rw[hG];exact t1
   .rw[B7 (by rw[t2];decide),g4,qq lx t2 (by decide),t2];rfl
   .rw[g2];rfl
 .have e:c9 116 (⟨l,a,fin,ae⟩,c)=iM ⟨l,a,fin,ae⟩ c (fi (ab.label (a9 l)) l a fin):=by simp[c9]
  rw[e] at hb ⊢;obtain⟨seg,m,h1,h2,h3,h4,h5⟩:=Um (Ha (a9 l)) hg hb;exact⟨seg,h1,h2,.inr (.inr (.inr (.inr (.inl ⟨rfl,m,h3,h4,h5⟩))))⟩
 .have e:c9 114 (⟨l,a,fin,ae⟩,c)=iM ⟨l,a,fin,ae⟩ c (fi (ab.row (a9 l)) l a fin):=by simp[c9]
  rw[e] at hb ⊢;obtain⟨seg,m,h1,h2,h3,h4,h5⟩:=Um (VC (a9 l)) hg hb;exact⟨seg,h1,h2,.inr (.inr (.inr (.inr (.inr ⟨rfl,m,h3,h4,h5⟩))))⟩
def Iw:List UInt8->List ar->aq->aq->Prop
 | [],us,c0,c1=>us=[]/\c1=c0
 | k::ks,us,c0,c2=>∃a b c1,us=a++b/\a≠[]/\vt k a c0 c1/\Iw ks b c1 c2
variable{c0 c1:aq}
def ahG(hk:k≠112)(h:vt k seg c0 c1):c1.bh=c0.bh:=by
 rcases h with ⟨_,w,_,_,rfl⟩ | ⟨_,w,_,_,rfl⟩ | ⟨_,w,_,_,_,rfl⟩ | ⟨h,_⟩ | ⟨_,m,_,_,rfl⟩ | ⟨_,m,_,_,rfl⟩
 .rfl
 .rfl
 .rfl
 .exact absurd h hk
 .split<;>rfl
 .split<;>rfl
def UR:∀(ks:List UInt8) (x:ab × aq),He ks->ks.count 112<=1->(112∈ks->x.2.bh=[])->ec x.1.l->x.1.aE=ae->0<=x.1.at_->x.1.at_<=(x.1.l.length:Nat)->(hD ks x).1.aE=ae ->
 ∃us,ib x.1 (hD ks x).1 us/\Iw ks us x.2 (hD ks x).2
 | [], x, _, _, _, _, hb, h0, h1, _ => by
  refine⟨[],⟨⟨x.1.l.take x.1.at_.toNat,x.1.l.drop x.1.at_.toNat,by simp,?_,?_⟩,rfl,hb,hb⟩,rfl,rfl⟩
  .rw[iP];omega
  .show x.1.at_=_;rw[eg,iP];omega
 | k :: ks, x, hk, hc, hp, hg, hb, h0, h1, hn => by
  simp only[hD] at hn ⊢;have fg:(c9 k x).1.aE=none:=by
   cases hq:(c9 k x).1.aE with
   | none=>rfl
   | some b=>have:=HJ (N:=0) (Iz 0) ks _ hq;rw[hn] at this;simp at this
  obtain⟨sg,n1,e1,g1⟩:=anJ (hk k (by simp)) hg (λe=>hp (by simp[e])) fg;obtain⟨a1,a2,a3⟩:=Jz e1;have Kx:ks.count 112<=1:=by rw[List.count_cons] at hc;omega
  obtain⟨us,e2,g2⟩:=UR ks (c9 k x) (λk h=>hk k (by simp[h])) Kx (λhm=>by
   by_cases e:k=112
   .exfalso
    rw[e,OJ] at hc;exact OK.1 (show ks.count 112=0 by omega) hm
   .rw[ahG e g1];exact hp (by simp[hm])) (FR e1 hg) fg (by omega) (by rw[e1.l];exact a3) hn
  exact⟨sg++us,e1.trans e2,sg,us,_,rfl,n1,g1,g2⟩
def Bk(h:vt 110 seg c0 c1):∃w:au,dy w.al=aa/\eW (bj seg)=w.al/\c1={c0 with name:=w}:=by
 rcases h with ⟨_,h⟩ | ⟨e,_⟩ | ⟨e,_⟩ | ⟨e,_⟩ | ⟨e,_⟩ | ⟨e,_⟩<;>first | exact h | exact absurd e (by decide)
def ahE(h:vt 102 seg c0 c1):∃w:au,dy w.al=aa/\eW (bj seg)=w.al/\c1={c0 with aj:=[w]}:=by
 rcases h with ⟨e,_⟩ | ⟨_,h⟩ | ⟨e,_⟩ | ⟨e,_⟩ | ⟨e,_⟩ | ⟨e,_⟩<;>first | exact h | exact absurd e (by decide)
def RI(h:vt 119 seg c0 c1):∃ws:List au,0<ws.length/\hH ws=aa/\eW (bj seg)=[123]++ia ws++[125]/\c1={c0 with aj:=ws}:=by
 rcases h with ⟨e,_⟩ | ⟨e,_⟩ | ⟨_,h⟩ | ⟨e,_⟩ | ⟨e,_⟩ | ⟨e,_⟩<;>first | exact h | exact absurd e (by decide)
def ahF(h:vt 112 seg c0 c1):∃(ps:List (au × au)) (a:Int),ps.all mZ=aa/\eW (bj seg)=uh (ps.map jy)/\c1={c0 with bh:=ps,mC:=a}:=by
 rcases h with ⟨e,_⟩ | ⟨e,_⟩ | ⟨e,_⟩ | ⟨_,h⟩ | ⟨e,_⟩ | ⟨e,_⟩<;>first | exact h | exact absurd e (by decide)
def RH(h:vt 116 seg c0 c1):∃m:Nd,m.eU=aa/\eW (bj seg)=m.da/\c1=if c0.left.kind=0 then {c0 with left:=m} else {c0 with right:=m}:=by
 rcases h with ⟨e,_⟩ | ⟨e,_⟩ | ⟨e,_⟩ | ⟨e,_⟩ | ⟨_,h⟩ | ⟨e,_⟩<;>first | exact h | exact absurd e (by decide)
def RG(h:vt 114 seg c0 c1):∃m:Nd,m.iW=aa/\eW (bj seg)=m.da/\c1=if c0.left.kind=0 then {c0 with left:=m} else {c0 with right:=m}:=by
 rcases h with ⟨e,_⟩ | ⟨e,_⟩ | ⟨e,_⟩ | ⟨e,_⟩ | ⟨e,_⟩ | ⟨_,h⟩<;>first | exact h | exact absurd e (by decide)
def CD(c:aq):List (UInt8 × Nd)->List ar->Prop
 | [],us=>us=[]
 | q::qs,us=>∃a b,us=a++b/\a≠[]/\yT q.1 c q.2/\eW (bj a)=l9 q.1 c q.2/\CD c qs b
def Vt{ws:List au}(h:hH ws=aa):n8 (ws.map au.al)=true:=by
 simp only[n8,List.all_map];exact h
def ahH{op p:Int}{us:List ar}(h1:1<=op)(h2:op<=15)(h:Iw (cn op).2 us {aq.zero with op:=op,pos:=p} c):c.op=op/\c.fq=aa/\CD c (lF (cn op).2 [c.left,c.right]) us:=by
 obtain⟨hk,_,_⟩:=C2 h1 h2;simp only[DO,kA,EZ,D'] at hk;have hz:(Nd.zero).kind=0:=rfl;have zz:=Nd.Ej Nd.zero;have h0:0<=op:=by omega
 rcases hk with e | e | e | e | e | e | e
 all_goals rw[e] at h
 .obtain⟨a,b,c1,rfl,na,ga,a2,b2,c2,rfl,nb,gb,rfl,rfl⟩:=h;obtain⟨w,w1,w2,rfl⟩:=Bk ga;obtain⟨ws,v1,v2,v3,rfl⟩:=RI gb;refine⟨rfl,?_,?_⟩
  .simp[aq.fq,aq.mB,aq.jW,aq.kW,aq.jA,eR,e,h0,h2,w1,v1,Vt v2,aq.zero,zz]
  .rw[e];exact⟨a,_,rfl,na,.inl ⟨rfl,w1⟩,w2,a2,[],rfl,nb,.inr (.inr (.inl ⟨rfl,v1,v2⟩)),v3,rfl⟩
 .obtain⟨a,b,c1,rfl,na,ga,a2,b2,c2,rfl,nb,gb,a3,b3,c3,rfl,nc,gc,rfl,rfl⟩:=h;obtain⟨w,w1,w2,rfl⟩:=Bk ga;obtain⟨ws,v1,v2,v3,rfl⟩:=RI gb;obtain⟨ps,pa,u1,u2,rfl⟩:=ahF gc;refine⟨rfl,?_,?_⟩
  .simp only[lf] at u1;simp[aq.fq,aq.mB,aq.jW,aq.kW,aq.jA,eR,e,h0,h2,w1,v1,Vt v2,aq.zero,zz];intro x y hxy;exact u1 (x,y) hxy
  .rw[e];exact⟨a,_,rfl,na,.inl ⟨rfl,w1⟩,w2,a2,_,rfl,nb,.inr (.inr (.inl ⟨rfl,v1,v2⟩)),v3,a3,[],rfl,nc,.inr (.inr (.inr (.inl ⟨rfl,u1⟩))),u2,rfl⟩
 .obtain⟨a,b,c1,rfl,na,ga,a2,b2,c2,rfl,nb,gb,a3,b3,c3,rfl,nc,gc,rfl,rfl⟩:=h;obtain⟨w,w1,w2,rfl⟩:=Bk ga;obtain⟨m,v1,v2,rfl⟩:=RH gb;obtain⟨m2,u1,u2,rfl⟩:=RH gc;have hm:=Tg v1;rw[aD (show({aq.zero with op:=op,pos:=p,name:=w}:aq).left.kind=0 from rfl),aB hm];refine⟨rfl,?_,?_⟩
  .simp[aq.fq,aq.mB,aq.jW,aq.kW,aq.jA,eR,e,h0,h2,w1,v1,u1,aq.zero]
  .rw[e];exact⟨a,_,rfl,na,.inl ⟨rfl,w1⟩,w2,a2,_,rfl,nb,.inr (.inr (.inr (.inr (.inl ⟨rfl,v1⟩)))),v2,a3,[],rfl,nc,.inr (.inr (.inr (.inr (.inl ⟨rfl,u1⟩)))),u2,rfl⟩
 .obtain⟨a,b,c1,rfl,na,ga,a2,b2,c2,rfl,nb,gb,a3,b3,c3,rfl,nc,gc,rfl,rfl⟩:=h;obtain⟨w,w1,w2,rfl⟩:=Bk ga;obtain⟨m,v1,v2,rfl⟩:=RG gb;obtain⟨m2,u1,u2,rfl⟩:=RG gc;have hm:=VA v1;rw[aD (show({aq.zero with op:=op,pos:=p,name:=w}:aq).left.kind=0 from rfl),aB hm];refine⟨rfl,?_,?_⟩
  .simp[aq.fq,aq.mB,aq.jW,aq.kW,aq.jA,eR,e,h0,h2,w1,v1,u1,aq.zero]
  .rw[e];exact⟨a,_,rfl,na,.inl ⟨rfl,w1⟩,w2,a2,_,rfl,nb,.inr (.inr (.inr (.inr (.inr ⟨rfl,v1⟩)))),v2,a3,[],rfl,nc,.inr (.inr (.inr (.inr (.inr ⟨rfl,u1⟩)))),u2,rfl⟩
 .obtain⟨a,b,c1,rfl,na,ga,a2,b2,c2,rfl,nb,gb,rfl,rfl⟩:=h;obtain⟨w,w1,w2,rfl⟩:=Bk ga;obtain⟨w',v1,v2,rfl⟩:=ahE gb;refine⟨rfl,?_,?_⟩
  .simp[aq.fq,aq.mB,aq.jW,aq.kW,aq.jA,eR,e,h0,h2,w1,v1,n8,aq.zero,zz]
  .rw[e];exact⟨a,_,rfl,na,.inl ⟨rfl,w1⟩,w2,a2,[],rfl,nb,.inr (.inl ⟨rfl,rfl,Nj (by simp[v1])⟩),by rw[v2];simp[l9,cz],rfl⟩
 .obtain⟨rfl,rfl⟩:=h;refine⟨rfl,?_,by rw[e];rfl⟩;simp[aq.fq,aq.mB,aq.jW,aq.kW,aq.jA,eR,e,h0,h2,aq.zero,zz]
 .obtain⟨a,b,c1,rfl,na,ga,rfl,rfl⟩:=h;obtain⟨w,w1,w2,rfl⟩:=Bk ga;refine⟨rfl,?_,?_⟩
  .simp[aq.fq,aq.mB,aq.jW,aq.kW,aq.jA,eR,e,h0,h2,w1,aq.zero,zz]
  .rw[e];exact⟨a,[],rfl,na,.inl ⟨rfl,w1⟩,w2,rfl⟩
def adU{a:List ar}(h:a≠[]):bj a≠[]:=by
 cases a with
 | nil=>exact absurd rfl h
 | cons t ts=>cases t;simp[bj,ar.flat]
def Wf{c:aq}:∀(qs:List (UInt8 × Nd)) (us:List ar),CD c qs us->(∀t∈bj us,A0 t)->(bj us).map Tok.sh=(qs.map λq=>Ag q.1 c q.2).flatten
 | [],us,h,_=>by have h:us=[]:=h;subst h;rfl
 | q :: qs, us, ⟨a, b, e, _, h1, h2, h3⟩, ht => by
  subst e;rw[g_] at ht ⊢;rw[fX,bX,kz,Wf qs b h3 λt h=>ht t (by simp[h]),Wq (λt h=>ht t (by simp[h])) (UT h1) h2]
def We{c:aq}:∀(qs:List (UInt8 × Nd)) (us:List ar),CD c qs us->((qs.map λq=>l9 q.1 c q.2).flatMap λy=>[32]++y).length<=mJ (bj us)
 | [],us,h=>by simp
 | q :: qs, us, ⟨a, b, e, h0, h1, h2, h3⟩ => by
  subst e;have ih:=We qs b h3;have h4:=aq1 (adU h0);rw[h2] at h4;rw[g_,Ie,bX,pY,bI,bI];simp only[gv];omega
def Up{w:List UInt8}:∀(n op:Nat),mY w n op≠0->(cn (mY w n op)).1=w/\1<=mY w n op/\mY w n op<op+n
 | 0,op,h=>by simp[mY] at h
 | n + 1, op, h => by
  simp only[mY] at h ⊢;split
  .rename_i hc;exact⟨hc.2,by omega,by omega⟩
  .rename_i hc;rw[aB hc] at h;obtain⟨h1,h2,h3⟩:=Up n (op+1) h;exact⟨h1,h2,by omega⟩
def aaI{fin:Int}(hg:ec l)(h:sD l fin=(c,0,0)):l=[]/\c = .zero \/
 ∃a b,l=a++b/\eW (bj a)=(cn c.op).1/\dy (cn c.op).1=aa/\c.fq=aa/\CD c (lF (cn c.op).2 [c.left,c.right]) b:=by
 cases l with
 | nil=>left;simp only[sD] at h;exact⟨rfl,(gX Prod.fst h).symm⟩
 | cons t ts =>
  right;unfold sD at h;simp only at h
  by_cases hz:iC (⟨t::ts,0,fin,ae⟩:ab).word.1.al=0
  .rw[aD hz] at h;simp at h
  .rw[aB hz] at h;obtain⟨n1,n2,n3⟩:=Up 16 0 hz;have n1:(cn (iC (⟨t::ts,0,fin,ae⟩:ab).word.1.al)).1=(⟨t::ts,0,fin,ae⟩:ab).word.1.al:=n1;have n2:1<=iC (⟨t::ts,0,fin,ae⟩:ab).word.1.al:=n2;have n3:iC (⟨t::ts,0,fin,ae⟩:ab).word.1.al<=15:=by unfold iC;omega
   have Sx:=λb hb=>HJ (N:=0) (Iz 0) (b:=b) (cn (iC (⟨t::ts,0,fin,ae⟩:ab).word.1.al)).2 ((⟨t::ts,0,fin,ae⟩:ab).word.2,{aq.zero with op:=iC (⟨t::ts,0,fin,ae⟩:ab).word.1.al,pos:=(⟨t::ts,0,fin,ae⟩:ab).word.1.pos}) hb
   have Sz:=λv7 hb h0 h1 hn=>UR (cn (iC (⟨t::ts,0,fin,ae⟩:ab).word.1.al)).2 ((⟨t::ts,0,fin,ae⟩:ab).word.2,{aq.zero with op:=iC (⟨t::ts,0,fin,ae⟩:ab).word.1.al,pos:=(⟨t::ts,0,fin,ae⟩:ab).word.1.pos}) (F6 _).1 (F6 _).2 (λ_=>rfl) v7 hb h0 h1 hn
   have zJ:=vm (⟨t::ts,0,fin,ae⟩:ab) hg;have uI:=λus c=>ahH (op:=iC (⟨t::ts,0,fin,ae⟩:ab).word.1.al) (p:=(⟨t::ts,0,fin,ae⟩:ab).word.1.pos) (us:=us) (c:=c) n2 n3
   generalize hD (cn (iC (⟨t::ts,0,fin,ae⟩:ab).word.1.al)).2 ((⟨t::ts,0,fin,ae⟩:ab).word.2,{aq.zero with op:=iC (⟨t::ts,0,fin,ae⟩:ab).word.1.al,pos:=(⟨t::ts,0,fin,ae⟩:ab).word.1.pos})=x at h Sx Sz;have Lj:x.1.aE=ae/\¬x.1.at_<x.1.l.length/\c=x.2:=by
    unfold vN at h
    by_cases hc:x.1.aE=ae/\x.1.at_<x.1.l.length
    .rw[aD hc] at h;cases hq:x.1.fail.aE with
     | none=>exact absurd hq x.1.FZ
     | some b=>rw[hq] at h;simp at h
    .rw[aB hc] at h;cases hq:x.1.aE with
     | none =>
      rw[hq] at h;refine⟨rfl,λhl=>hc ⟨hq,hl⟩,(gX Prod.fst h).symm⟩
     | some b=>rw[hq] at h;simp at h
   obtain⟨SS,SU,rfl⟩:=Lj;have SR:(⟨t::ts,0,fin,ae⟩:ab).word.2.aE=none:=by
    cases hq:(⟨t::ts,0,fin,ae⟩:ab).word.2.aE with
    | none=>rfl
    | some b=>have:=Sx b hq;rw[SS] at this;simp at this
   obtain⟨sg,e1,e2,e3,_⟩:=zJ SR;obtain⟨a1,a2,a3⟩:=Jz e1;obtain⟨us,f1,f2⟩:=Sz (FR e1 hg) SR (by simp only at a2 ⊢;omega) (by simp only;rw[e1.l];exact a3) SS;obtain⟨g1,g2,g3⟩:=uI us x.2 f2;have et:=e1.trans f1;have dj:t::ts=sg++us:=by
    obtain⟨pre,post,q1,q2,q3⟩:=et.ex;have hp:pre=[]:=jq.1 (by simp only at q2;omega);subst hp;have q1:t::ts=[]++(sg++us)++post:=q1;have hl:x.1.l=t::ts:=et.l;have hq:post=[]:=by
     rw[hl,q1,q3] at SU;simp only[fY,bI] at SU;exact jq.1 (by omega)
    rw[q1,hq];simp
   refine⟨sg,us,dj,?_,?_,g2,?_⟩
   .rw[g1,n1];exact e2
   .rw[g1,n1];exact e3
   .rw[g1];exact g3
def Pg{s:List UInt8}(h:cV s=(c,0,0)):c.fq=aa/\(gQ (dG (dS c)).1).2=ae/\(dS c).length<=2*s.length:=by
 unfold cV at h;cases hl:(dG s).2 with
 | some a=>rw[hl] at h;simp at h
 | none =>
  rw[hl] at h;simp only at h;cases ht:(fP (dG s).1 [] []).2 with
  | some a=>rw[ht] at h;simp at h
  | none =>
   rw[ht] at h;simp only at h;have b9:=BQ s.length 0 s [] (by simp);have aiA:=Hh s.length 0 s [] (by simp);obtain⟨w1,w2⟩:=Ez (dG s).1 [] [] b9 (by simp) (by simp[fe]) ht;simp only[wA,bj,fY] at w2;have hg:ec (fP (dG s).1 [] []).1:=by rw[Az];exact TH s
   have cD:mJ (dG s).1<=mJ []+2*s.length:=Hi s.length 0 s [];rw[show mJ []=0 from rfl,jc] at cD;rw[Az] at ht
   rcases aaI hg h with ⟨h1,rfl⟩ | ⟨a,b,h1,h2,h3,h4,h5⟩
   .refine⟨by decide +kernel,by decide +kernel,?_⟩
    have:dS aq.zero=[]:=by decide +kernel
    rw[this];simp
   .rw[h1,g_] at w2;have hL:∀t∈bj a++bj b,A0 t:=by rw[w2];exact aiA
    have s1:(bj a).map Tok.sh=[fA (cn c.op).1]:=Wq (λt ht=>hL t (by simp[ht])) (wx h3) h2;have s2:=Wf _ b h5 (λt ht=>hL t (by simp[ht]));have hs:(dG s).1.map Tok.sh=En c:=by rw[<-w2,fX,s1,s2];rfl
    have lW:1<=c.op:=by
     have h6:=h4;simp only[aq.fq,bA,b7] at h6;have h0:=h6.1.1.1.1.1
     by_cases hz:c.op=0
     .rw[hz] at h3;exact absurd h3 (by decide +kernel)
     .omega
    have sK:c.op<=15:=by simp only[aq.fq,bA,b7] at h4;exact h4.1.1.1.1.2
    obtain⟨l1,l2⟩:=WR h3 (MS h4 lW);refine⟨h4,arc (hs.trans l2.symm) ht,?_⟩;have hb:=We _ b h5;have ha:(cn c.op).1.length<=mJ (bj a):=by rw[<-h2];exact N1 _ _
    rw[<-w2,Ie] at cD;rw[H6,bI];omega
def aaG{N:Int}(h0:0<=N){fin:Int}(hl:la N l)(hf:In N fin):(um l fin).2.1=0/\(um l fin).2.2=0\/(um l fin).1 = .zero/\(um l fin).2.1=2/\In N (um l fin).2.2:=by
 have hpr:∀(ks:List UInt8) (c:aq) (a:Int),(u7 l fin ks c a).2.2<0\/In N (u7 l fin ks c a).2.2:=by
  intro ks;induction ks with
  | nil=>intro c a;left;simp[u7]
  | cons k ks ih =>
   intro c a;simp only[u7];split
   .rename_i qe;right;have px:=si h0 (a:=a) hl hf;have KK:=Xd h0 (a:=a) hl hf;have KL:=anx h0 (a:=a) hl;have hi4:=DR h0 (a9 l) l a fin hl hf;have hi5:=Vy h0 (a9 l) l a fin hl hf;revert qe;unfold lJ;split
    .split
     .intro h;simp at h
     .intro _;exact px
    split
    .split
     .intro _;exact KK
     .intro h;simp at h
    split
    .split
     .simp only;intro h
      rcases KL with e | e
      .omega
      .exact e
     .intro _;exact px
    .have Sk:In N (if k=114 then lK (a9 l) l a fin else iT (a9 l) l a fin).pos:=by
      split
      .exact hi5
      .exact hi4
     generalize (if k=114 then lK (a9 l) l a fin else iT (a9 l) l a fin)=g at Sk;simp only;split
     .intro _;exact Sk
     .intro h;simp at h
   .exact ih _ _
 cases l with
 | nil=>exact .inl ⟨rfl,rfl⟩
 | cons t ts =>
  unfold um;simp only;generalize (if t.tok.kind=97 then Af t.tok.al 15 1 0 else 0)=op;split
  .exact .inr ⟨rfl,rfl,(hl t (by simp)).pos⟩
  .split
   .rename_i qe;refine .inr ⟨rfl,rfl,?_⟩;exact(hpr _ _ _).resolve_left (Int.not_lt.mpr qe)
   .split
    .exact .inr ⟨rfl,rfl,si h0 hl hf⟩
    .exact .inl ⟨rfl,rfl⟩
def ads(s:List UInt8):(∃c,cV s=(c,0,0))\/∃k a,cV s=(.zero,k,a)/\(k=1\/k=2)/\0<=a/\a<=(s.length:Nat):=by
 rw[aoX];unfold Nb;have hl:=Tw s;have ht:=TG s;cases h1:(dG s).2 with
 | some a=>exact .inr ⟨1,a,rfl,.inl rfl,hl.2 a h1⟩
 | none =>
  simp only;cases h2:(gQ (dG s).1).2 with
  | some a=>exact .inr ⟨2,a,rfl,.inr rfl,ht.2 a h2⟩
  | none =>
   simp only;have hc:=aaG (N:=(s.length:Nat)) (by omega) ht.1 (fin:=(s.length:Nat)) ⟨by omega,by omega⟩;generalize um (gQ (dG s).1).1 (s.length:Nat)=R at hc ⊢;obtain⟨c,k,a⟩:=R;simp only at hc
   rcases hc with ⟨rfl,rfl⟩ | ⟨rfl,rfl,h⟩
   .exact .inl ⟨c,rfl⟩
   .exact .inr ⟨2,a,rfl,.inr rfl,h⟩
section
variable {Y:Int->Int} {s:aI} {c:aq}
def JI:(jJ s (c.mp Y)).cls=0↔(jJ s c).cls=0:=by rw[jJ,jJ,aaF,Tt]
def ai9:jw s (c.mp Y)=jw s c:=by
 rw[jw,jw,ao8,rE.2 JI];rfl
def Yl(h:jw s c=aa):lT s (c.mp Y)=lT s c:=by
 have hF:=LI.1 h;have e:cJ s (c.mp Y)=cJ s c:=rfl;unfold lT;rw[e]
 by_cases h8:c.op=8
 .have J6 : (c.mp Y).op=8:=h8;rw[aD h8,aD J6];obtain⟨q1,q2⟩:=hF.labels h8;have k2:c.right.kind=1\/0<c.right.ah.length:=by
   rcases hF.right h8 with k | k
   .exact .inl k
   .exact .inr (by rw[DQ q2 k];omega)
  have e1:ml s (cJ s c) (c.mp Y).left=ml s (cJ s c) c.left:=by
   show ml s (cJ s c) (c.left.mp Y)=_;rw[ml,ml,G',aaQ _ q1]
  have e2:qD s (cJ s c).toNat (c.mp Y).right=qD s (cJ s c).toNat c.right:=Px k2;rw[e1,e2]
 .have J6 : ¬(c.mp Y).op=8:=h8;rw[aB h8,aB J6]
  by_cases h9:c.op=9
  .have C8 : (c.mp Y).op=9:=h9;rw[aD h9,aD C8];obtain⟨q1,q2⟩:=hF.rows h9;have e1:ma s (cJ s c).toNat (c.mp Y).left=ma s (cJ s c).toNat c.left:=VF (HS q1);have e2:ma s (cJ s c).toNat (c.mp Y).right=ma s (cJ s c).toNat c.right:=VF (HS q2);rw[e1,e2]
  .have C8 : ¬(c.mp Y).op=9:=h9;rw[aB h9,aB C8];have iH:c.op=10:=by have:=hF.op;omega
   obtain⟨w,hw,_⟩:=hF.one iH;have e1:((c.mp Y).aj.getD 0 ⟨[],0⟩).al=(c.aj.getD 0 ⟨[],0⟩).al:=by simp only[aq.mp,hw];rfl
   rw[e1];rfl
def xh(s:aI)(c:aq):eG:=if jw s c then lT s c else .zero
def Pt:xh s (c.mp Y)=xh s c:=by
 unfold xh;rw[ai9];split
 .rename_i h;exact Yl h
 .rfl
def Nz:∀{a b:List au},dt a b=aa->a.map (au.mp λ_=>0)=b.map (au.mp λ_=>0)
 | [],[],_=>rfl
 | [],_::_,h=>by simp[dt] at h
 | _::_,[],h=>by simp[dt] at h
 | w :: ws, u :: us, h => by
  simp only[dt,bA,b7] at h;rw[bX,bX,Nz h.2,au.mp,au.mp,h.1]
mutual
def Nw:∀{n m:Nd},n.cI m=aa->n.mp (λ_=>0)=m.mp λ_=>0
 | .mk k p t ws ks, .mk k' p' t' ws' ks', h => by
  rw[Nd.cI] at h;simp only[bA,Nd.kind,Nd.al,Nd.aj,Nd.ah] at h;obtain⟨⟨⟨h1,h2⟩,h3⟩,h4⟩:=h;have h1:=My h1;have h2:=My h2;rw[Nd.mp,Nd.mp,h1,h2,Nz h3,VY h4]
def VY:∀{a b:List Nd},cX a b=aa->yh (λ_=>0) a=yh (λ_=>0) b
 | [],[],_=>rfl
 | [],_::_,h=>by simp[cX] at h
 | _::_,[],h=>by simp[cX] at h
 | n :: ns, m :: ms, h => by
  simp only[cX,bA] at h;rw[yh,yh,Nw h.1,VY h.2]
end
def V1:∀{a b:List (au × au)},kZ a b=aa->a.map (λp=>(p.1.mp λ_=>0,p.2.mp λ_=>0))=b.map λp=>(p.1.mp λ_=>0,p.2.mp λ_=>0)
 | [],[],_=>rfl
 | [],_::_,h=>by simp[kZ] at h
 | _::_,[],h=>by simp[kZ] at h
 | p :: ps, q :: qs, h => by
  simp only[kZ,bA,b7] at h;rw[bX,bX,V1 h.2];simp only[au.mp,h.1.1,h.1.2]
def VX{c d:aq}(h:c.cI d=aa):c.mp (λ_=>0)=d.mp λ_=>0:=by
 simp only[aq.cI,bA,b7] at h;obtain⟨⟨⟨⟨⟨h1,h2⟩,h3⟩,h4⟩,h5⟩,h6⟩:=h;simp only[aq.mp,h1,Nw h5,Nw h6,V1 h4,Nz h3];simp only[au.mp,h2]
def V':(ku s (c.mp Y)).cls=0↔(ku s c).cls=0:=by
 have e:(c.mp Y).op=c.op:=rfl;rw[ku,ku,e];split
 .rw[apQ,Tt]
 .rfl
def JL{r:Rm}:(fS (kS s r c)).cls=0↔(ku s c).cls=0/\(jJ s c).cls=0/\km r c=ak/\¬(c.op=12/\r.eZ<=1):=by
 rw[L0,kS];simp only[jE,kA,EZ,D'];constructor
 .intro h;refine⟨h _ (.inl (.inl (.inl rfl))),h _ (.inl (.inl (.inr rfl))),?_,λh2=>?_⟩
  .cases hl:km r c with
   | false=>rfl
   | true=>have:=h ⟨7,c.pos⟩ (.inl (.inr (by rw[dK,hl];simp)));simp at this
  .have:=h ⟨8,c.pos⟩ (.inr (by rw[dK,aP h2.1,aP h2.2];simp));simp at this
 .rintro⟨h1,h2,h3,h4⟩ f (((rfl | rfl) | hf) | hf)
  .exact h1
  .exact h2
  .rw[dK,h3] at hf;simp at hf
  .have:(decide (c.op=12)&&decide (r.eZ<=1))=false:=by
    cases hb:(decide (c.op=12)&&decide (r.eZ<=1)) with
    | false=>rfl
    | true=>simp only[bA,b7] at hb;exact absurd hb h4
   rw[dK,this] at hf;simp at hf
def aku{r:Rm}{c d:aq}(h:c.cI d=aa):km r d=km r c:=by
 have ho:c.op=d.op:=by simp only[aq.cI,bA,b7] at h;exact h.1.1.1.1.1
 rw[km,km,<-apM h,ho]
def adT{r:Rm}{c d:aq}(h:c.cI d=aa)(hf:(fS (kS s r c)).cls=0):(fS (kS s r d)).cls=0:=by
 have e:=VX h;have ho:c.op=d.op:=by simp only[aq.cI,bA,b7] at h;exact h.1.1.1.1.1
 obtain⟨h1,h2,h3,h4⟩:=JL.1 hf;refine JL.2 ⟨?_,?_,by rw[aku h];exact h3,by rw[<-ho];exact h4⟩
 .rw[<-V' (Y:=λ_=>0),<-e,V'];exact h1
 .rw[<-JI (Y:=λ_=>0),<-e,JI];exact h2
def Ym{c d:aq}(h:c.cI d=aa):xh s d=xh s c:=by
 rw[<-Pt (Y:=λ_=>0) (c:=d),<-VX h,Pt]
variable{t:List UInt8}
def aq4{r:Rm}(h:(lG s r t).2.2.cls=0):(cV t).2=(0,0)/\lG s r t=((cV t).1,xh s (cV t).1,.zero) /\
 ∃d,cV (dS (cV t).1)=(d,0,0)/\(cV t).1.cI d=aa/\lG s r (dS (cV t).1)=(d,xh s (cV t).1,.zero):=by
 by_cases hr:(cV t).2.1=0
 case neg=>rw[Hk hr] at h;exact absurd h hr
 by_cases hf:(fS (kS s r (cV t).1)).cls=0
 case neg=>rw[Hl hr hf] at h;exact absurd h hf
 rcases ads t with ⟨c,hc⟩ | ⟨k,a,hc,hk,_⟩
 case inr=>rw[hc] at hr;simp only at hr;omega
 have hl:=DY hr hf;rw[hc] at hf hl ⊢;obtain⟨a1,a2,_⟩:=Pg hc;obtain⟨_,l2,_⟩:=aoY a1;obtain⟨d,e1,e2⟩:=l2 a2;refine⟨rfl,hl,d,e1,e2,?_⟩;have h0:(cV (dS c)).2.1=0:=by rw[e1]
 have h1:(fS (kS s r (cV (dS c)).1)).cls=0:=by rw[e1];exact adT e2 hf
 rw[DY h0 h1,e1];show(d,xh s d,aL.zero)=_;rw[Ym e2]
end
structure CB(B:Nat)(c:aq):Prop where
 ns:eB c.aj<=B
 ps:c.bh.length<=B
 l:c.left.wt<=B
 r:c.right.wt<=B
 nm:c.name.al.length<=B
 pt:jZ c.bh<=34*B
def QA(h:ib r r' seg):iN seg<=iN r.l:=by
 obtain⟨pre,post,e,_,_⟩:=h.ex;rw[e,wJ,wJ];omega
def Oi(hg:ec r.l)(hb:r.aE=ae):r.word.1.al.length<=16:=by
 cases h:(r.take 97).2.aE with
 | none=>exact N3 ((nq h).1.kc hg).1
 | some b =>
  have:(r.take 97).1 = .zero:=by
   unfold ab.take at h ⊢;split
   .rename_i hs;rw[aD hs] at h;simp[hb] at h
   .rfl
  simp[ab.word,this,ar.zero,ar.tok]
def Xa(hg:ec r.l):r.word.1.al.length<=16:=by
 cases hb:r.aE with
 | none=>exact Oi hg hb
 | some a =>
  have:r.bR 97=false:=by simp[ab.bR,ab.ok,hb]
  simp[ab.word,ab.take,this,ar.zero,ar.tok]
def U_{l:List (au × au)}{p:au × au}:jZ (l++[p])=jZ l+(p.1.al.length+p.2.al.length+2):=by simp[jZ]
def UH:∀(n:Nat) (i:ab) (acc:List (au × au)),ec i.l->jZ (ab.fT n i acc).2<=jZ acc+34*n
 | 0,_,_,_=>by simp[ab.fT]
 | n + 1, i, acc, hg => by
  have e1:(i.word.2.take 60).2.l=i.l:=by rw[ab.ft];exact ab.ft i 97
  have e2:((i.word.2.take 60).2.word).2.l=i.l:=by rw[<-e1];exact ab.ft _ 97
  have w1:=Xa hg;have w2:((i.word.2.take 60).2.word).1.al.length<=16:=Xa (by rw[e1];exact hg);simp only[ab.fT];split
  .simp only;omega
  .split
   .simp only[U_];omega
   .have:=UH n (((i.word.2.take 60).2.word).2.take 44).2 (acc++[(i.word.1,((i.word.2.take 60).2.word).1)]) (by rw[ab.ft,e2];exact hg)
    simp only[U_] at this;omega
def aqV{k:Int}(hg:ec r.l):ec (r.take k).1.ah:=by
 cases h:(r.take k).2.aE with
 | none=>exact((xz _).1 ((nq h).1.kc hg).1).2.2
 | some b =>
  have:(r.take k).1.ah=[]:=by
   rcases r.tJ k with ⟨_,_,hb,_⟩ | ⟨hs,_⟩
   .rw[h] at hb;simp at hb
   .simp[ab.take,hs,ar.zero,ar.ah]
  rw[this];trivial
def UF:∀(n:Nat) (i:ab) (acc:List (au × au)),(ab.fT n i acc).2.length<=acc.length+n
 | 0,_,_=>by simp[ab.fT]
 | n + 1, i, acc => by
  simp only[ab.fT];split
  .simp only;omega
  .split
   .simp
   .have:=UF n (((i.word.2.take 60).2.word).2.take 44).2 (acc++[(i.word.1,((i.word.2.take 60).2.word).1)])
    simp only[bI,db,ei] at this;omega
variable{B:Nat}
def Ul(h:CB B c){g:Nd × Int × Option Int}(hg:g.1.wt<=B):CB B (iM r c g).2:=by
 unfold iM;cases g.2.2 with
 | some a=>exact h
 | none =>
  simp only;split
  .exact⟨h.ns,h.ps,hg,h.r,h.nm,h.pt⟩
  .exact⟨h.ns,h.ps,h.l,hg,h.nm,h.pt⟩
def Vq{one:ab->Nd × ab}(hs:Sound one Nd.da Q SN)(hg:ec l)(a fin:Int):(fi one l a fin).1.wt<=iN l+4:=by
 unfold fi;cases hb:(one ⟨l,a,fin,ae⟩).2.aE with
 | some b=>simp only[Iu];omega
 | none =>
  obtain⟨seg,e1,_,_,e4⟩:=hs ⟨l,a,fin,ae⟩ hg hb
  have:=QA e1
  simp only[SN] at e4 this ⊢;omega
def anI(hg:ec x.1.l)(hB:iN x.1.l+20<=B)(h:CB B x.2):CB B (c9 k x).2:=by
 obtain⟨r,c⟩:=x;simp only at hg hB h;unfold c9;simp only;split
 .exact h
 rename_i hb;have hb:r.aE=none:=by simpa using hb
 split
 .exact⟨h.ns,h.ps,h.l,h.r,by have:=Oi hg hb;simp only;omega,h.pt⟩
 split
 .refine⟨?_,h.ps,h.l,h.r,h.nm,h.pt⟩
  have:=Oi hg hb
  simp[eB];omega
 split
 .refine⟨?_,h.ps,h.l,h.r,h.nm,h.pt⟩;show eB (iZ r.l r.at_ r.fin).1<=B;unfold iZ;cases hw:((⟨r.l,r.at_,r.fin,ae⟩:ab).words ak).2.aE with
  | some b=>simp[eB]
  | none =>
   obtain⟨t,e1,_,_,_,e5⟩:=Oj (r:=⟨r.l,r.at_,r.fin,ae⟩) hg hw
   have:=QA e1
   simp only at this ⊢;omega
 split
 .unfold oH;simp only;split
  .exact⟨h.ns,h.ps,h.l,h.r,h.nm,h.pt⟩
  .have g1:=UH ((r.take 123).1.ah.length+1) (r.take 123).1.inner [] (aqV hg);have g2:=lI (r.take 123).1.ah;have g3:=(r.vg 123).1;refine⟨h.ns,?_,h.l,h.r,h.nm,by simp only[iN,jZ,eC,rA] at hB g1 ⊢;omega⟩;have h1:=UF ((r.take 123).1.ah.length+1) (r.take 123).1.inner [];have h2:=lI (r.take 123).1.ah;have h3:=(r.vg 123).1;simp only[iN,ei] at hB h1 ⊢;omega
 split
 .exact Ul h (by have:=Vq (Ha (a9 r.l)) hg r.at_ r.fin;omega)
 split
 .exact Ul h (by have:=Vq (VC (a9 r.l)) hg r.at_ r.fin;omega)
 .exact h
def UQ{B:Nat}{l:List ar}{fin:Int}(hg:ec l)(hB:iN l+20<=B):∀(ks:List UInt8) (x:ab × aq),jG l fin x->CB B x.2->CB B (hD ks x).2
 | [],_,_,h=>h
 | k::ks,x,hi,h=>UQ hg hB ks _ (UK hi k) (anI (by rw[hi.hl];exact hg) (by rw[hi.hl];exact hB) h)
def Ch(h:4<=B):CB B aq.zero:=⟨by simp[aq.zero,eB],by simp[aq.zero],by simp only[aq.zero,Iu];omega,by simp only[aq.zero,Iu];omega,by simp[aq.zero],by simp[aq.zero,jZ]⟩
def acM(h4:4<=B)(h:CB B x.2):CB B (vN x).1:=by
 unfold vN;split
 .exact Ch h4
 .exact h
def aaK{fin:Int}(hg:ec l)(hB:iN l+20<=B):CB B (sD l fin).1:=by
 unfold sD;split
 .exact Ch (by omega)
 .rename_i t ts;simp only;split
  .exact Ch (by omega)
  .refine acM (by omega) (UQ hg hB _ _ (fin:=fin) ?_ ?_)
   .exact jG.goes (x:=(⟨t::ts,0,fin,ae⟩,aq.zero)) ⟨rfl,rfl,by simp,by simp only;omega,λ_=>by simp only;omega⟩ rfl (xy _) (Ew _ 97)
   .have h:=Ch (B:=B) (by omega);exact⟨h.ns,h.ps,h.l,h.r,h.nm,h.pt⟩
def aoZ(s:List UInt8):CB (26*s.length+20) (cV s).1:=by
 unfold cV;rw[Az];split
 .exact Ch (by omega)
 .split
  .exact Ch (by omega)
  .refine aaK (TH s) ?_
   have:=TI s
   simp only[iN];omega
def sA(s:aI)(c:aq):aI :=
 if (ku s c).cls≠0 then s
 else if lY c.op then ⟨s.bu++[⟨c.name.al,se s c⟩],s.vars⟩
 else if ny c.op then ⟨s.bu,s.vars++c.aj.map λw=>⟨w.al,if c.op=7 then 2 else 1,de (iq s.bu c.name.al)⟩⟩
 else s
structure Lv where
 ni:aI
 pg:List eG
 lines:List (List UInt8)
 bytes:Int
structure gF where
 live:Lv
 eZ:List Lv
def Lv.zero:Lv:=⟨⟨[],[]⟩,[],[],0⟩
def gF.zero:gF:=⟨.zero,[]⟩
def Au(l:Lv)(c:aq)(a:eG):Lv :=
 if a.op≠0 then ⟨l.ni,l.pg++[a],l.lines++[dS c],l.bytes+((dS c).length+1:Nat)⟩
 else ⟨sA l.ni c,l.pg,l.lines++[dS c],l.bytes+((dS c).length+1:Nat)⟩
def rj(s:gF):Rm:=⟨s.live.bytes,(s.live.pg.length:Nat),((s.eZ.length:Nat):Int)+1⟩
def p_(s:gF)(x:aq × eG × aL):gF :=
 if x.2.2.cls≠0 then s
 else if tH x.1.op then ⟨Au s.live x.1 x.2.1,s.eZ⟩
 else if x.1.op=11 then ⟨s.live,s.eZ++[s.live]⟩
 else if x.1.op=12 then(match s.eZ.getLast? with | some l=>⟨l,s.eZ.dropLast⟩ | none=>s)
 else s
def gq(s:gF)(t:List UInt8):aq × eG × aL:=lG s.live.ni (rj s) t
def qI(s:gF)(t:List UInt8):gF:=p_ s (gq s t)
def kT(l:List (List UInt8)):Nat:=(l.map λt=>t.length+1).sum
variable{t:List UInt8}
def ak5{l:List (List UInt8)}:kT (l++[t])=kT l+(t.length+1):=by simp[kT]
def Hr:∀{l:List (List UInt8)},l.length<=kT l
 | []=>by simp[kT]
 | t::l=>by have:=@Hr l;simp only[kT,bX,mO,db] at this ⊢;omega
structure w_(x:eG):Prop where
 c:x.code.length<=100000
 a:x.a.fs.length<=100000
 b:x.b.fs.length<=100000
structure Lv.ok(l:Lv):Prop where
 s:l.ni.uY
 n:l.ni.bu.length<=16
 v:l.ni.vars.length<=64
 m:l.pg.length<=64
 a:∀a∈l.pg,w_ a
 b:l.bytes=(kT l.lines:Nat)
 t:kT l.lines<=16384
structure gF.ok(s:gF):Prop where
 l:s.live.ok
 f:∀l∈s.eZ,l.ok
 n:s.eZ.length<=15
def alb:Lv.zero.ok:=⟨⟨⟨by simp[Lv.zero],by simp[Lv.zero],by simp[Lv.zero]⟩,by simp[Lv.zero]⟩,by simp[Lv.zero],by simp[Lv.zero],by simp[Lv.zero],by simp[Lv.zero],by simp[Lv.zero,kT],by simp[Lv.zero,kT]⟩
def WJ:gF.zero.ok:=⟨alb,by simp[gF.zero],by simp[gF.zero]⟩
variable{s:aI}
def TE(h:(lY c.op||ny c.op)=aa)(hf:(ku s c).cls=0):∀f∈lZ s c,f.cls=0:=λf hm=>by
 rw[ku,aD h] at hf;exact(L1 hf).2 f (by rw[vb];exact List.mem_append_right _ hm)
def akp(h:lY c.op=aa)(hf:(ku s c).cls=0):s.bu.length<16/\(c.op=3->(pO s c).bM.length<=8):=by
 have hl:=TE (by rw[h];rfl) hf;have vV:¬(c.op=6\/c.op=7):=λe=>by rcases e with e | e<;>simp[lY,e] at h
 rw[lZ,aB vV] at hl;have hb:∀{b:Bool},(∀f∈dK b 7 c.pos,f.cls=0)->b=false:=λ{b} hh=>by
  cases b with
  | false=>rfl
  | true=>have:=hh ⟨7,c.pos⟩ (by simp[dK]);simp at this
 have:=hb hl
 simp only[AN,A'] at this;refine⟨by omega,λh3=>?_⟩;have h1:=this.1;rw[aD h3,aD h3] at h1;omega
def akq(h:ny c.op=aa)(hf:(ku s c).cls=0):s.vars.length+c.aj.length<=64:=by
 have hl:=TE (by rw[h];simp) hf;have vV:c.op=6\/c.op=7:=by simpa [ny] using h
 rw[lZ,aD vV] at hl
 by_cases hq:(64:Int) - (s.vars.length:Nat)<(c.aj.length:Nat)
 .have:=hl ⟨7,c.pos⟩ (by simp[dK,hq]);simp at this
 .omega
def ajT{w:au}{x:bC}(h:x∈pF s w):∃l∈s.bu,l.shape=x:=by
 unfold pF at h;split at h
 .rename_i k _;cases hk:s.bu[k]? with
  | none=>rw[hk] at h;simp at h
  | some y=>rw[hk] at h;simp at h;exact⟨y,rz hk,h.symm⟩
 .simp at h
def aqa(hs:s.uY)(hn:c.aj.length<=100000)(h3:c.op=3->(pO s c).bM.length<=8):(se s c).ok/\(se s c).bM.length<=100:=by
 have one:∀(k:Int) (r:Rl),(⟨ak,[⟨k,du c.aj,r⟩]⟩:bC).ok/\(⟨ak,[⟨k,du c.aj,r⟩]⟩:bC).bM.length<=100:=λk r=>by
  refine⟨⟨by simp,λf hf=>?_⟩,by simp⟩;simp only[kA,EZ,D'] at hf;subst hf;simp only[du,aO];exact hn
 unfold se;split
 .exact one _ _
 split
 .exact one _ _
 split
 .exact one _ _
 split
 .exact one _ _
 split
 .rename_i h
  have:=h3 h
  refine⟨⟨by omega,λf hf=>?_⟩,by omega⟩;simp only[pO,BY,OZ] at hf;obtain⟨x,⟨w,_,hw⟩,hf⟩:=hf;obtain⟨l,hl,rfl⟩:=ajT hw;exact(hs.1.2.2 l hl).2 f hf
 .exact⟨⟨by simp,by simp⟩,by simp⟩
def X4(hs:s.uY)(h1:s.bu.length<=16)(h2:s.vars.length<=64)(hn:c.aj.length<=100000):(sA s c).uY/\(sA s c).bu.length<=16/\(sA s c).vars.length<=64:=by
 unfold sA;split
 .exact⟨hs,h1,h2⟩
 rename_i hf;have hf:(ku s c).cls=0:=Classical.byContradiction hf;split
 .rename_i h;obtain⟨a1,a2⟩:=akp h hf;have hp:=aqa hs hn a2;have e:(s.bu++[(⟨c.name.al,se s c⟩:dT)]).length=s.bu.length+1:=by simp
  refine⟨⟨⟨by simp only;omega,hs.1.2.1,λl hl=>?_⟩,λl hl=>?_⟩,by simp only;omega,h2⟩
  .rcases jE.1 hl with hl | hl
   .exact hs.1.2.2 l hl
   .simp at hl;subst hl;exact hp.1
  .rcases jE.1 hl with hl | hl
   .exact hs.2 l hl
   .simp at hl;subst hl;exact hp.2
 split
 .rename_i h;have a1:=akq h hf;refine⟨⟨⟨hs.1.1,by simp only[bI,aO];omega,hs.1.2.2⟩,hs.2⟩,h1,by simp only[bI,aO];omega⟩
 .exact⟨hs,h1,h2⟩
def L8{r:Rm}(h:(lG s r t).2.2.cls=0):(lG s r t).1=(cV t).1/\(lG s r t).2.1=(if jw s (cV t).1 then lT s (cV t).1 else .zero)/\(lG s r t).2.2 = .zero /\
 (ku s (cV t).1).cls=0/\(jJ s (cV t).1).cls=0/\km r (cV t).1=ak/\¬((cV t).1.op=12/\r.eZ<=1):=by
 by_cases hr:(cV t).2.1=0
 .by_cases hf:(fS (kS s r (cV t).1)).cls=0
  .rw[DY hr hf]
   have:=JL.1 hf
   exact⟨rfl,rfl,rfl,this⟩
  .rw[Hl hr hf] at h;exact absurd h hf
 .rw[Hk hr] at h;exact absurd h hr
def akt{r:Rm}(h:km r c=ak):(tH c.op=aa->(dS c).length<=1024/\r.bytes<=16383 - (dS c).length)/\(vG c.op=aa->r.pg<64)/\(c.op=11->r.eZ<16):=by
 simp only[km,AN,Cm,A'] at h;obtain⟨⟨h1,h2⟩,h3⟩:=h;refine⟨λhs=>?_,λhs=>?_,λhs=>?_⟩
 .rcases h1 with h1 | h1
  .rw[hs] at h1;simp at h1
  .rw[wrap_i64 (by omega) (by omega)] at h1;exact⟨by omega,by omega⟩
 .rcases h2 with h2 | h2
  .rw[hs] at h2;simp at h2
  .omega
 .rcases h3 with h3 | h3
  .exact absurd hs h3
  .omega
def aqD{l:Lv}{x:eG}(hl:l.ok)(hn:c.aj.length<=100000)(hx:w_ x)(ht:l.bytes<=16383 - (dS c).length)(hm:x.op≠0->l.pg.length<64):(Au l c x).ok:=by
 have hb:=hl.b;have e:kT (l.lines++[dS c])=kT l.lines+((dS c).length+1):=ak5;unfold Au;split
 .rename_i h
  have:=hm h
  refine⟨hl.s,hl.n,hl.v,by simp only[bI,gv];omega,λy hy=>?_,by simp only;rw[e];omega,by simp only;rw[e];omega⟩
  rcases jE.1 hy with hy | hy
  .exact hl.a y hy
  .simp at hy;subst hy;exact hx
 .obtain⟨a1,a2,a3⟩:=X4 hl.s hl.n hl.v hn;exact⟨a1,a2,a3,hl.m,hl.a,by simp only;rw[e];omega,by simp only;rw[e];omega⟩
def YI(h:(if jw s c then lT s c else eG.zero).op≠0):vG c.op=true:=by
 split at h
 .rename_i h1
  have:=(LI.1 h1).op
  simp[vG,this.1,this.2]
 .exact absurd rfl h
def abX{s:gF}(hs:s.ok)(hn:(cV t).1.aj.length<=100000)(hx:w_ (gq s t).2.1):(qI s t).ok:=by
 unfold qI p_;split
 .exact hs
 rename_i h0;have h0:(lG s.live.ni (rj s) t).2.2.cls=0:=Classical.byContradiction h0;obtain⟨e1,e2,_,_,_,h5,h6⟩:=L8 h0;obtain⟨m1,m2,m3⟩:=akt h5;have KY := hs.n;split
 .rename_i h;have h:tH (lG s.live.ni (rj s) t).1.op=true:=h;rw[e1] at h;refine⟨aqD hs.l (by rw[gq,e1];exact hn) hx (by rw[gq,e1];exact(m1 h).2) (λho=>?_),hs.f,hs.n⟩;rw[gq,e2] at ho
  have:=m2 (YI ho)
  simp only[rj] at this;omega
 split
 .rename_i h;have h:(lG s.live.ni (rj s) t).1.op=11:=h;rw[e1] at h
  have:=m3 h
  simp only[rj] at this;refine⟨hs.l,λl hl=>?_,by simp only[bI,gv];omega⟩
  rcases jE.1 hl with hl | hl
  .exact hs.f l hl
  .simp at hl;subst hl;exact hs.l
 split
 .split
  .rename_i l hl;have hm:l∈s.eZ:=List.mem_of_getLast? hl;exact⟨hs.f l hm,λy hy=>hs.f y (List.dropLast_subset _ hy),by simp only[List.length_dropLast];omega⟩
  .exact hs
 .exact hs
def ur(l:Lv):List V:=[.sl .no 3 (l.ni.bu.map dT.enc),.sl .no 3 (l.ni.vars.map dU.enc),.sl .no 18 (l.pg.map eG.enc),.sl .no 1 (cO l.lines),.int .i64 l.bytes]
def jV(k:Tk)(s:gF):List V:=[.sl .no 3 (s.live.ni.bu.map dT.enc),.sl .no 3 (s.live.ni.vars.map dU.enc),.sl .no 18 (s.live.pg.map eG.enc),.sl .no 1 (cO s.live.lines),.int .i64 s.live.bytes,.sl k 5 (s.eZ.map ur)]
def Pd(D:ag)(k:Tk)(n:Nat):Prop:=match k with | .no=>False | .aW=>True | .tk t=>D.aJ t=U n
structure sy(D:ag)(b:Nat)(k:Tk)(s:gF):Prop where
 b:D.box b=U (jV k s)
 t:Pd D k s.eZ.length
structure Kp(D σ' : ag)(b:Nat)(k k' : Tk):Prop where
 b:∀c,c≠b->σ'.box c=D.box c
 t:∀t n,k≠.tk t->D.aJ t=U n->σ'.aJ t=U n
 c:σ'.bO=D.bO
 f:∀t,k' = .tk t->k = .tk t\/D.aJ t=ae
variable{b:Nat}{D:ag}
def Kp.rfl{k:Tk}:Kp D D b k k:=⟨λ_ _=>Eq.refl _,λ_ _ _ h=>h,Eq.refl _,λ_ h=>.inl h⟩
def AJ(k l:Tk):Prop:=∀t,k = .tk t->l≠.tk t
def AJ.symm{k l:Tk}(h:AJ k l):AJ l k:=λt e e' => h t e' e
def sy.other{σ':ag}{c:Nat}{k k' l:Tk}{s:gF}(h:sy D c l s)(hk:Kp D σ' b k k')(hn:c≠b)(ha:AJ k l):sy σ' c l s/\AJ k' l:=by
 refine⟨⟨(hk.b c hn).trans h.b,?_⟩,λt e e' => ?_⟩
 .have ht:=h.t;cases l with
  | no=>exact ht
  | aW=>trivial
  | tk t=>exact hk.t t _ (λe=>ha t e rfl) ht
 .rcases hk.f t e with h1 | h1
  .exact ha t h1 e'
  .have ht:=h.t;rw[e'] at ht;simp only[Pd] at ht;rw[h1] at ht;simp at ht
def Rr:List V:=[.sl .aW 3 [],.sl .aW 3 [],.sl .aW 18 [],.sl .aW 1 [],.int .i64 0,.sl .aW 5 []]
section
variable {P:Program} {d:Option Nat} {r:List AO} {K:St->Prop} {x y:X} {st:St} {n:Bool} {H:V->Prop} {p:Pl} {o:Nat}
def Mr(n:Bool)(v w:V)(K:V->Prop):Prop:=match isNil v,w with | some g,.iL=>K (.bool (if n then !g else g)) | _,_=>False
theorem amz:bT P (⟨d,.rF n x y,ae⟩::r) K st=Mr n (ev st x) (ev st y) (kL P d r K st):=rfl
def alK:Mr n .iL .iL H=H (.bool (!n)):=by cases n<;>rfl
def alL:Mr n (.ptr p o) .iL H=H (.bool n):=by cases n<;>rfl
end
def I1:=af @amz <| af @alK @alL
section
variable {x:eG}
def Yq(op lat:Int)(c:V)(to:bF)(r:List V):(.int .i64 op::.int .i64 lat::c::(to.enc++r):List V).drop 12=r:=by
 obtain⟨tv,e⟩:=to;exact bg.Jg (P:=λe=>(.int .i64 op::.int .i64 lat::c::((bF.mk tv e).enc++r):List V).drop 12=r) (λ_ _ _ _ _ _ _ _ _=>rfl) e
def Pv(op lat:Int)(c:V)(to:bF)(r u:List V)(k:Nat):setAt (.int .i64 op::.int .i64 lat::c::(to.enc++r):List V) (12+k) u = .int .i64 op::.int .i64 lat::c::(to.enc++setAt r k u):=by
 obtain⟨tv,e⟩:=to;refine bg.Jg (P:=λe=>setAt (.int .i64 op::.int .i64 lat::c::((bF.mk tv e).enc++r):List V) (12+k) u = .int .i64 op::.int .i64 lat::c::((bF.mk tv e).enc++setAt r k u)) (λ_ _ _ _ _ _ _ _ _=>?_) e;rw[Cv];rfl
theorem Y4:bW 1 (x.enc.drop 2)=true:=rfl
theorem Y7:bD ak 1 (x.enc.drop 2)=U (.sl .no 10 (x.code.map bt.enc)):=rfl
theorem Zb:setAt x.enc 2 [.sl .no 10 (x.code.map bt.enc)]=x.enc:=rfl
def I9:x.enc.drop 12=[.sl .no 10 (x.a.fs.map bU.enc),.int .i64 x.a.tail,.sl .no 10 (x.b.fs.map bU.enc),.int .i64 x.b.tail,.int .i64 x.v,.aF x.field]:=Yq ..
def Y2:bW 1 (x.enc.drop 12)=true:=by rw[I9];rfl
def Y5:bD ak 1 (x.enc.drop 12)=U (.sl .no 10 (x.a.fs.map bU.enc)):=by rw[I9];rfl
def Y':setAt x.enc 12 [.sl .no 10 (x.a.fs.map bU.enc)]=x.enc:=Pv _ _ _ _ _ _ 0
def PD:x.enc.drop 14=[.sl .no 10 (x.b.fs.map bU.enc),.int .i64 x.b.tail,.int .i64 x.v,.aF x.field]:=by rw[show 14=12+2 from rfl,<-wZ,I9];rfl
def Y3:bW 1 (x.enc.drop 14)=true:=by rw[PD];rfl
def Y6:bD ak 1 (x.enc.drop 14)=U (.sl .no 10 (x.b.fs.map bU.enc)):=by rw[PD];rfl
def Za:setAt x.enc 14 [.sl .no 10 (x.b.fs.map bU.enc)]=x.enc:=Pv _ _ _ _ _ _ 2
def Y9:x.enc.length=18:=sC
def PG:takeN 18 x.enc=U x.enc:=I7
def Y_:cB x.enc=true:=yY rfl rfl rfl
def PF:over (cy 0 0 (.sl .aW 10 []) .zero (.sl .aW 10 []) 0 (.sl .aW 10 []) 0 0 []) x.enc=x.enc:=tt (by rw[sC];exact sC.symm)
def Y8:bD aa 18 x.enc=U (.agg x.enc):=by rw[yb,PG];rfl
theorem Zc:bW 18 jt=true:=rfl
def Zd:over jt x.enc=x.enc:=PF
def lk:=af @Zc <| af @Zd <| af @Y4 <| af @Y7 <| af @Zb <| af @Y2 <| af @Y5 <| af @Y' <| af @Y3 <| af @Y6 <| af @Za <| af @Y9 <| af @PG <| af @Y_ <| af @PF <| af @Y8 <| af @eG.dk @eG.dq
end
def rn(l:List (List UInt8)):List UInt8:=l.flatMap λt=>t++[10]
def WT:∀{l:List (List UInt8)},(rn l).length=kT l
 | []=>rfl
 | t::l=>by have:=@WT l;simp only[rn,kT,pY,bI,gv,bX,mO] at this ⊢;omega
def aq2{l:List (List UInt8)}:rn (l++[t])=rn l++t++[10]:=by simp[rn]
def WU{l:List (List UInt8)}{i:Nat}(h:i<l.length):rn (l.take (i+1))=rn (l.take i)++l[i]++[10]:=by rw[jr h,aq2]
def ak6{a b:List (List UInt8)}:kT (a++b)=kT a+kT b:=by simp[kT]
def ak7{l:List (List UInt8)}{i:Nat}:kT (l.take i)<=kT l:=by
 have h:=@ak6 (l.take i) (l.drop i);rw[qy] at h;omega
def HO:List UInt8:=[112,111,112]
def cm.up{P:Program}{f:FuncId}{as:List V}{R S:V->ag->Prop}(h:cm P f as D R)(k:∀v σ',R v σ' -> ∃rp,bN σ' rp /\ S v rp):cm P f as D S :=
 ⟨h.1,λE vs h1 h2 h3=>(h.2 E vs h1 h2 h3).mono λ_ _ ⟨v',x,E',σ',a,b,c,d,e,f,g⟩=>by
  obtain⟨rp,o,r⟩:=k _ _ g;exact⟨v',x,E',rp,a,b,c,d.eM o,e,f,r⟩⟩
def ag':cK Rr (jV .aW .zero):=⟨dE.no,dE.no,dE.no,dE.no,dE.rfl,dE.rfl,trivial⟩
def V9:sy (D.set b (jV .aW .zero)) b .aW .zero:=⟨gP,trivial⟩
def AW(D:ag)(k:Tk):Prop:=∀t,k = .tk t->D.aJ t=ae
def Kp.sub{cR fQ:ag}{k k' : Tk}(h:D.sub cR)(hb:D.box b=ae)(hk:AW D k)(h2:Kp cR fQ b k k'):D.sub fQ/\AW D k' := by
 refine⟨⟨λc cs hc=>?_,λt n ht=>?_,λc cs hc=>?_⟩,λt e=>?_⟩
 .rw[h2.b c (λe=>by rw[e,hb] at hc;simp at hc)];exact h.1 c cs hc
 .exact h2.t t n (λe=>by rw[hk t e] at ht;simp at ht) (h.2.1 t n ht)
 .rw[h2.c];exact h.2.2 c cs hc
 .rcases h2.f t e with e1 | e1
  .exact hk t e1
  .cases hq:D.aJ t with
   | none=>rfl
   | some n=>rw[h.2.1 t n hq] at e1;simp at e1
def NU{cs:List V}(h:D.box b=ae):D.sub (D.set b cs) :=
 ⟨λc ds hc=>by rw[mE (λe=>by rw[e,h] at hc;simp at hc)];exact hc,λ_ _ h=>h,λ_ _ h=>h⟩
def uu:List (List UInt8):=[[99,104,97,105,110,32,107,32,123,97,44,98,125],[112,117,115,104],[108,97,98,101,108,32,107,32,32,123,120,125],[112,111,112]]
def nK(i:Nat):gF:=(uu.take i).foldl qI .zero
def ade{i:Nat}(h:i<uu.length):nK (i+1)=qI (nK i) uu[i]:=by rw[nK,jr h,AS];rfl
def adf:∀i:Fin 4,(gq (nK i) (uu.getD i [])).2.2=⟨0,0⟩:=by decide +kernel
def QR:∀t∈uu,t.length<=3000:=by decide
def adg:(gq (nK 4) HO).2.2=⟨8,0⟩:=by decide +kernel
def adi:rn (nK 4).live.lines=[99,104,97,105,110,32,107,32,123,97,44,98,125,10]:=by decide +kernel
def adh:(nK 4).live.bytes=14/\(nK 4).live.pg.length=0/\(nK 4).eZ.length=0:=by decide +kernel
end Go.Am
