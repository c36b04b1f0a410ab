/-
  Part 4 of the proof of StackFramesUptoCardSaid: a logic over the model, the forms of the functions that the law reaches, and what they compute.
-/
import Derived.Test.YtnpggmhoandloaaGreatDoorFrames3
set_option linter.unusedVariables false
set_option linter.unusedSimpArgs false
set_option linter.defProp false
set_option linter.unusedSectionVars false
set_option maxRecDepth 4000
set_option maxHeartbeats 4000000
open Option renaming some->aa,none->ag
open Bool renaming true->ab,false->ak
open List renaming replicate->ar,range->bX,getD->ij,zipWith->l8
open Eq renaming mpr->eU
open Ne renaming symm->fF
namespace Go.Am
variable{p:Int}{ws:List aB}
def arq(h:iR ws=ab):(Nd.mk 3 p [] ws []).iY=true:=by
 rw[Nd.Al];simp[Nd.kind,Nd.aq,Nd.an,Nd.aj,h]
variable{ks:List Nd}
def ars(h:∀x∈ks,x.iY=ab)(h0:0<ks.length):(Nd.mk 4 p [] [] ks).iY=true:=by
 rw[Nd.Al];simp[Nd.lG,Nd.kind,Nd.aq,Nd.an,Nd.aj];exact⟨h0,h⟩
def aro(h:∀x∈ks,x.qd=ab):(Nd.mk 5 p [] [] ks).iY=true:=by
 rw[Nd.Al];simp[Nd.lG,Nd.kind,Nd.aq,Nd.an,Nd.aj];exact h
def WW{n:Nd}(hk:n.kind=2)(h:n.lu=ab):n.iY=true:=by rw[Nd.Al,aE hk];exact h
def Ou{n:Nd}(hk:n.kind=1)(h:n.lu=ab):n.fA=true:=by rw[Nd.uC,aE hk];exact h
def arn{c:Nd}(h:c.iY=ab):(Nd.mk 7 p [] [] [c]).fA=true:=by
 rw[Nd.uC];simp[Nd.lG,Nd.kind,Nd.aq,Nd.an,Nd.aj,vV,h]
variable{k:Int}
def WV(hk:k=8\/k=9)(h:∀x∈ks,x.fA=ab)(h0:0<ks.length):(Nd.mk k p [] [] ks).fA=true:=by
 rw[Nd.uC]
 rcases hk with rfl | rfl
 all_goals
  simp[Nd.lG,Nd.kind,Nd.aq,Nd.an,Nd.aj];exact⟨h0,h⟩
def rK{t:al}(hg:t.Good)(hk:t.tok.kind=k)(cZ:k≠97):t.tok.aq=[UInt8.ofNat k.toNat]:=by
 rcases((yI _).1 hg).1 with ⟨h,_⟩ | ⟨_,h⟩
 .omega
 .rw[h,hk]
def Pf{t:al}(hg:t.Good):t.tok.aq.length<=16:=auf ((yI _).1 hg).1
def SW(w:aB):Nat:=w.aq.length+1
def SN(n:Nd):Nat:=n.wt+1
def wF:Sound ae.word aB.aq (λw=>dx w.aq=ab) SW:=by
 intro r hg hb;obtain⟨t1,t2⟩:=po (show(r.take 97).2.aG=ag from hb);have mj:=(t1.lf hg).1;refine⟨[(r.take 97).1],t1,aua t2,?_,?_⟩
 .rcases((yI _).1 mj).1 with ⟨_,h⟩ | ⟨h,_⟩
  .exact h
  .exact absurd t2 h
 .have:=Pf mj
  rw[uX];simp only[SW,ae.word];omega
def Fg(hk:k=1\/k=2):Sound (ae.leaf k) Nd.dy (λn=>n.kind=k/\n.lu=ab) SN:=by
 intro r hg hb;obtain⟨seg,e1,e2,e3,e4⟩:=wF r hg hb;refine⟨seg,e1,?_,⟨rfl,?_⟩,?_⟩
 .rw[e2];simp only[ae.leaf];rw[Nd.dy,aE hk]
 .simp only[ae.leaf,Nd.lu,Nd.aq,Nd.an,Nd.aj];rw[e3];rfl
 .simp only[SW] at e4;simp only[ae.leaf,SN,Nd.wt,fu,gg,fh,sR];obtain⟨t1,t2⟩:=po (show(r.take 97).2.aG=ag from hb);have hl:=Pf (t1.lf hg).1;have h0:26<=jA seg:=by
   obtain⟨pre,post,q1,q2,q3⟩:=e1.ex
   rcases seg with _ | ⟨t,ts⟩
   .exfalso
    obtain⟨p,q,r1,r2,r3⟩:=t1.ex
    have:r.word.2.at_=(r.take 97).2.at_:=rfl
    simp only[bP,eM,gM] at q3 r3;omega
   .simp only[jA,bd];omega
  have:r.word.1.aq.length<=16:=hl
  omega
theorem avY(l:List aB):(l.map SW).sum=fu l:=rfl
def Zj(l:List Nd):(l.map SN).sum=gg l:=by rw[Gb];rfl
def OF{l:List aB}(h:∀w∈l,dx w.aq=ab):iR l=true:=l7.2 h
variable{e:Bool}{r:ae}
def PC(hg:fe r.l)(hb:(r.words e).2.aG=ag):
 ∃t,iU r (r.words e).2 [t]/\t.Good/\fB (bu [t])=[123]++iT (r.words e).1.1++[125]/\iR (r.words e).1.1=ab/\fu (r.words e).1.1+26<=jA [t]:=by
 obtain⟨t,h1,h2,h3,h4,h5,_⟩:=Kx (one:=ae.word) wF (k:=123) (e:=e) hg hb;have mj:=(h1.lf hg).1;refine⟨t,h1,mj,?_,OF h4,?_⟩
 .rw[Dp (by rw[h2];decide),h3,rK mj h2 (by decide),h2];rfl
 .rw[avY] at h5;rw[uX];have e:fu (r.words e).1.1=fu (r.bracket (cw ae.word) 123 e).1.1:=rfl;omega
def IL{one:ae->Nd × ae}{Q:Nd->Prop}(hs:Sound one Nd.dy Q SN)(hk:k=40\/k=91)(hg:fe r.l)(hb:(r.nodes one k e).2.aG=ag):
 ∃t,iU r (r.nodes one k e).2 [t]/\t.Good/\fB (bu [t])=[UInt8.ofNat k.toNat]++cO (eh (r.nodes one k e).1.1)++[UInt8.ofNat (closing k).toNat]/\(∀x∈(r.nodes one k e).1.1,Q x)/\gg (r.nodes one k e).1.1+26<=jA [t] /\
  (e=ak->0<(r.nodes one k e).1.1.length):=by
 obtain⟨t,h1,h2,h3,h4,h5,h6⟩:=Kx hs (k:=k) (e:=e) hg hb;have mj:=(h1.lf hg).1;refine⟨t,h1,mj,?_,h4,?_,h6⟩
 .rw[Dp (by rw[h2];rcases hk with rfl | rfl<;>decide),h3,rK mj h2 (by omega),h2,BD];rfl
 .rw[Zj] at h5;rw[uX];have e:gg (r.nodes one k e).1.1=gg (r.bracket (cw one) k e).1.1:=rfl;omega
def asq:Sound ae.pj Nd.dy (λn=>n.qd=ab) SN:=by
 intro r hg hb;have cc : ((r.word.2.take 58).2.words ab).2.aG=none:=hb;have l1:r.word.2.l=r.l:=r.fT 97;have l2:(r.word.2.take 58).2.l=r.l:=(ae.fT _ 58).trans l1;obtain⟨t,h1,h2,h3,h4,h5⟩:=PC (by rw[l2];exact hg) cc;obtain⟨c1,c2⟩:=po h1.b;obtain⟨seg,e1,e2,e3,e4⟩:=wF r hg c1.b;have nD:=(c1.lf (by rw[l1];exact hg)).1;refine⟨seg++[(r.word.2.take 58).1]++[t],(e1.trans c1).trans h1,?_,?_,?_⟩
 .rw[xY (by rw[c2];decide) (by rw[c2];rfl),e2,h3,rK nD c2 (by decide)];simp only[ae.pj];rw[Nd.dy];simp
 .simp only[ae.pj,Nd.qd,Nd.kind,Nd.aq,Nd.an,Nd.aj];rw[e3,h4];rfl
 .simp only[ae.pj,SN,Nd.wt,gg,xU,uX];simp only[SW] at e4;simp only[uX] at h5;omega
def RR:∀n,Sound (ae.constant n) Nd.dy (λm=>m.iY=ab) SN
 | 0 => λr hg hb => by
  obtain⟨seg,e1,e2,⟨e3,e5⟩,e4⟩:=Fg (.inr rfl) r hg hb;refine⟨seg,e1,e2,?_,e4⟩;exact WW e3 e5
 | n + 1 => λr hg hb => by
  simp only[ae.constant] at hb ⊢;split
  .rename_i hs;rw[aE hs] at hb;obtain⟨t,h1,h2,h3,h4,h5⟩:=PC hg hb;refine⟨[t],h1,?_,?_,?_⟩
   .rw[h3,Nd.dy];simp
   .exact arq h4
   .simp only[SN,Nd.wt,gg,eM];omega
  .rename_i hs;rw[aA hs] at hb;split
   .rename_i hs;rw[aE hs] at hb;obtain⟨t,h1,h2,h3,h4,h5,h6⟩:=IL (RR n) (.inl rfl) hg hb;refine⟨[t],h1,?_,?_,?_⟩
    .rw[h3,Nd.dy];simp only[show(closing 40).toNat=41 from rfl];rfl
    .exact ars h4 (h6 rfl)
    .simp only[SN,Nd.wt,fu,fh,sR,eM];omega
   .rename_i hs;rw[aA hs] at hb;split
    .rename_i hs;rw[aE hs] at hb;obtain⟨t,h1,h2,h3,h4,h5,h6⟩:=IL asq (.inr rfl) hg hb;refine⟨[t],h1,?_,?_,?_⟩
     .rw[h3,Nd.dy];simp only[show(closing 91).toNat=93 from rfl];rfl
     .exact aro h4
     .simp only[SN,Nd.wt,fu,fh,sR,eM];omega
    .rename_i hs;rw[aA hs] at hb;obtain⟨seg,e1,e2,⟨e3,e5⟩,e4⟩:=Fg (.inr rfl) r hg hb;refine⟨seg,e1,e2,?_,e4⟩;exact WW e3 e5
def QY(n:Nat):Sound (ae.atom n) Nd.dy (λm=>m.qo=ab) SN:=by
 intro r hg hb;simp only[ae.atom] at hb ⊢;split
 .rename_i hs;rw[aE hs] at hb;have l1:(r.take 35).2.l=r.l:=r.fT 35;obtain⟨seg,e1,e2,e3,e4⟩:=RR n (r.take 35).2 (by rw[l1];exact hg) hb;obtain⟨c1,c2⟩:=po e1.b;have nD:=(c1.lf hg).1;refine⟨[(r.take 35).1]++seg,c1.trans e1,?_,?_,?_⟩
  .have:=xY (t:=(r.take 35).1) (by rw[c2];decide) (by rw[c2];rfl) [] seg
   rw[gN] at this;rw[this,rK nD c2 (by decide),e2,Nd.dy];simp[bu,fB,jB,eh,rk]
  .simp only[Nd.qo,arn e3,Nd.kind];rfl
  .simp only[SN,Nd.wt,fu,gg,fh,sR,eM,xU,uX] at e4 ⊢;omega
 .rename_i hs;rw[aA hs] at hb;obtain⟨seg,e1,e2,⟨e3,e5⟩,e4⟩:=Fg (.inl rfl) r hg hb;refine⟨seg,e1,e2,?_,e4⟩;simp only[Nd.qo,Ou e3 e5,e3];rfl
def GP{n:Nd}(h:n.qo=ab):n.fA=true:=by simp only[Nd.qo,bF] at h;exact h.2
def Im:∀n,Sound (ae.label n) Nd.dy (λm=>m.fA=ab) SN
 | 0 => λr hg hb => by
  obtain⟨seg,e1,e2,⟨e3,e5⟩,e4⟩:=Fg (.inl rfl) r hg hb;refine⟨seg,e1,e2,?_,e4⟩;exact Ou e3 e5
 | n + 1 => λr hg hb => by
  simp only[ae.label] at hb ⊢;split
  .rename_i hs;rw[aE hs] at hb;have l1:(r.take 43).2.l=r.l:=r.fT 43;obtain⟨t,h1,h2,h3,h4,h5,h6⟩:=IL (Im n) (.inl rfl) (by rw[l1];exact hg) hb;obtain⟨c1,c2⟩:=po h1.b;have nD:=(c1.lf hg).1;refine⟨[(r.take 43).1]++[t],c1.trans h1,?_,?_,?_⟩
   .have:=xY (t:=(r.take 43).1) (by rw[c2];decide) (by rw[c2];rfl) [] [t]
    rw[gN] at this;rw[this,rK nD c2 (by decide),h3,Nd.dy];simp only[show(closing 40).toNat=41 from rfl];rfl
   .exact WV (.inl rfl) h4 (h6 rfl)
   .simp only[SN,Nd.wt,fu,fh,sR,eM,xU,uX] at h5 ⊢;omega
  .rename_i hs;rw[aA hs] at hb;split
   .rename_i hs;rw[aE hs] at hb;have l1:(r.take 38).2.l=r.l:=r.fT 38;obtain⟨t,h1,h2,h3,h4,h5,h6⟩:=IL (Im n) (.inl rfl) (by rw[l1];exact hg) hb;obtain⟨c1,c2⟩:=po h1.b;have nD:=(c1.lf hg).1;refine⟨[(r.take 38).1]++[t],c1.trans h1,?_,?_,?_⟩
    .have:=xY (t:=(r.take 38).1) (by rw[c2];decide) (by rw[c2];rfl) [] [t]
     rw[gN] at this;rw[this,rK nD c2 (by decide),h3,Nd.dy];simp only[show(closing 40).toNat=41 from rfl];rfl
    .exact WV (.inr rfl) h4 (h6 rfl)
    .simp only[SN,Nd.wt,fu,fh,sR,eM,xU,uX] at h5 ⊢;omega
   .rename_i hs;rw[aA hs] at hb;obtain⟨seg,e1,e2,e3,e4⟩:=QY (n+1) r hg hb;exact⟨seg,e1,e2,GP e3,e4⟩
def afC(n:Nat):Sound (ae.field n) Nd.dy (λm=>m.me=ab) SN:=by
 intro r hg hb;have cc : ((r.word.2.take 61).2.atom n).2.aG=none:=hb;have l1:r.word.2.l=r.l:=r.fT 97;have l2:(r.word.2.take 61).2.l=r.l:=(ae.fT _ 61).trans l1;obtain⟨sg,h1,h2,h3,h4⟩:=QY n (r.word.2.take 61).2 (by rw[l2];exact hg) cc;obtain⟨c1,c2⟩:=po h1.b;obtain⟨seg,e1,e2,e3,e4⟩:=wF r hg c1.b;have nD:=(c1.lf (by rw[l1];exact hg)).1;refine⟨seg++[(r.word.2.take 61).1]++sg,(e1.trans c1).trans h1,?_,?_,?_⟩
 .rw[xY (by rw[c2];decide) (by rw[c2];rfl),e2,h2,rK nD c2 (by decide)];simp only[ae.field];rw[Nd.dy];simp[eh,rk]
 .simp only[ae.field,Nd.me,Nd.kind,Nd.aq,Nd.an,Nd.aj,vV];rw[e3,h3];rfl
 .simp only[ae.field,SN,Nd.wt,gg,fu,fh,sR,xU,uX] at h4 ⊢;simp only[SW] at e4;omega
def arp(h1:ws.length<=1)(h2:iR ws=ab)(h3:∀x∈ks,x.me=ab):(Nd.mk 10 p [] ws ks).jN=true:=by
 unfold Nd.jN;simp[Nd.kind,Nd.aq,Nd.an,Nd.aj,h2];exact⟨aJ (by omega),h3⟩
def UJ(t:al):iU t.inner t.inner []:=⟨⟨[],t.aj,rfl,rfl,rfl⟩,rfl,rfl,rfl⟩
def Sy{n:Nat}{t:al}(hg:fe t.aj){a:ae × List Nd}(ha:a=if t.inner.bW 124=ab then(t.inner,[]) else eB (cw (ae.field n)) t.inner)(hb:a.1.aG=ag):
 ∃seg,iU t.inner a.1 seg/\fB (bu seg)=cO (eh a.2)/\(∀x∈a.2,x.me=ab)/\gg a.2<=jA seg:=by
 split at ha
 .subst ha;exact⟨[],UJ t,rfl,by simp,by simp[gg]⟩
 .subst ha;obtain⟨seg,e1,e2⟩:=Yl (afC n) (r:=t.inner) hg hb;refine⟨seg,e1,?_,e2.q,?_⟩
  .rw[e2.t,BD]
  .have:=e2.s;rwa [Zj] at this
def ar6{n:Nat}{t:al}(hg:fe t.aj)(hb:(ae.rowOf n t).1.1.aG=ag):
 ∃seg,iU t.inner (ae.rowOf n t).1.1 seg/\fB (bu seg)=cO (eh (ae.rowOf n t).1.2)++(if 0<(ae.rowOf n t).2.length then [124]++iT (ae.rowOf n t).2 else []) /\
  (∀x∈(ae.rowOf n t).1.2,x.me=ab)/\(ae.rowOf n t).2.length<=1/\iR (ae.rowOf n t).2=ab/\gg (ae.rowOf n t).1.2+fu (ae.rowOf n t).2<=jA seg:=by
 unfold ae.rowOf at hb ⊢;split
 .exact⟨[],UJ t,rfl,by simp,by simp,rfl,by simp[gg,fu]⟩
 rename_i aW;rw[aA aW] at hb;unfold ae.nQ at hb ⊢;simp only at hb ⊢;generalize ha:(if t.inner.bW 124=ab then(t.inner,[]) else eB (cw (ae.field n)) t.inner)=a at hb ⊢;split
 .rename_i hs;rw[aE hs] at hb;have hba:a.1.aG=none:=by
   simp only[ae.bW,ae.ok,bF,DQ] at hs;exact hs.1
  obtain⟨seg,e1,e2,e3,e4⟩:=Sy hg ha.symm hba;have l1:a.1.l=t.inner.l:=e1.l;have l2:(a.1.take 124).2.l=t.inner.l:=(ae.fT _ 124).trans l1;obtain⟨sw,w1,w2,w3,w4⟩:=wF (a.1.take 124).2 (by rw[l2];exact hg) hb;obtain⟨c1,c2⟩:=po w1.b;have nD:=(c1.lf (by rw[l1];exact hg)).1;refine⟨seg++[(a.1.take 124).1]++sw,(e1.trans c1).trans w1,?_,e3,by simp,?_,?_⟩
  .rw[xY (by rw[c2];decide) (by rw[c2];rfl),e2,rK nD c2 (by decide),w2];simp[iT,cO]
  .simp only[iR,ve,P4,wH];exact w3
  .simp only[xU,uX,fu,ch,fh,n7,sR];simp only[SW] at w4;omega
 .rename_i hs;rw[aA hs] at hb;obtain⟨seg,e1,e2,e3,e4⟩:=Sy hg ha.symm hb;exact⟨seg,e1,by simpa using e2,e3,by simp,rfl,by simpa [fu] using e4⟩
def Xg(n:Nat):Sound (ae.row n) Nd.dy (λm=>m.jN=ab) SN:=by
 intro r hg hb;simp only[ae.row] at hb ⊢;split
 .rename_i hs;rw[aE hs] at hb;have e_:(r.take 91).2.aG=none:=by
   rcases r.uY 91 with ⟨_,_,h,_⟩ | ⟨h,_⟩
   .exact h
   .rw[hs] at h;simp at h
  obtain⟨c1,c2⟩:=po e_;have nD:=(c1.lf hg).1;have xl:fe (r.take 91).1.aj:=((yI _).1 nD).2.2;have ec:(ae.rowOf n (r.take 91).1).1.1.close.aG=none:=hb;obtain⟨seg,e1,e2,e3,e4,e5,e6⟩:=ar6 (n:=n) xl (KF ec).1;have Mx:=QI e1 ec;subst Mx;refine⟨[(r.take 91).1],⟨c1.ex,c1.l,c1.b,hb⟩,?_,arp e4 e5 e3,?_⟩
  .rw[Dp (by rw[c2];decide),rK nD c2 (by decide),c2,e2,Nd.dy];simp only[show(closing 91).toNat=93 from rfl];simp
  .simp only[SN,Nd.wt,uX,eM];omega
 .rename_i hs;rw[aA hs] at hb;obtain⟨seg,e1,e2,⟨e3,e5⟩,e4⟩:=Fg (.inl rfl) r hg hb;refine⟨seg,e1,e2,?_,e4⟩
  have:=Ou e3 e5
  show(r.leaf 1).1.jN=ab;unfold Nd.jN;rw[e3,this];rfl
abbrev Sh:=Int × List UInt8
def Tok.sh(t:Tok):Sh:=(t.kind,t.aq)
def bM(c:UInt8):Sh:=((c.toNat:Nat),[c])
def gd(t:List UInt8):Sh:=(97,t)
def fi:List (List Sh)->List Sh
 | []=>[]
 | x::xs=>x++xs.flatMap λy=>bM 44::y
def HM:List (List Sh)->List Sh
 | []=>[]
 | x::_=>x
def lY(ws:List aB):List Sh:=fi (ws.map λw=>[gd w.aq])
mutual
def Nd.gW:Nd->List Sh
 | .mk k _ t ws ks =>
  if k=1\/k=2 then [gd t]
  else if k=3 then [bM 123]++lY ws++[bM 125]
  else if k=4 then [bM 40]++fi (gX ks)++[bM 41]
  else if k=5 then [bM 91]++fi (gX ks)++[bM 93]
  else if k=6 then [gd t]++[bM 58]++([bM 123]++lY ws++[bM 125])
  else if k=7 then [bM 35]++HM (gX ks)
  else if k=8 then [bM 43]++([bM 40]++fi (gX ks)++[bM 41])
  else if k=9 then [bM 38]++([bM 40]++fi (gX ks)++[bM 41])
  else if k=10 then [bM 91]++(fi (gX ks)++(if 0<ws.length then [bM 124]++lY ws else []))++[bM 93]
  else if k=11 then [gd t]++[bM 61]++HM (gX ks)
  else []
def gX:List Nd->List (List Sh)
 | []=>[]
 | n::ns=>n.gW::gX ns
end
def FP:∀l,gX l=l.map Nd.gW
 | []=>rfl
 | n::ns=>by simp[gX,FP ns]
def mI(s:List UInt8)(ks:List Sh):Prop:=∀(n p:Nat) (acc:List Tok),s.length<=n->∃toks,eY n p s acc=(acc++toks,ag)/\toks.map Tok.sh=ks
def Stop:List UInt8->Prop
 | []=>True
 | c::_=>fq c=ak
def lex_nil:mI [] []:=λn p acc _=>⟨[],by cases n<;>simp[eY],rfl⟩
variable{s:List UInt8}
def I7{c:UInt8}(h:fq c=ak):dQ (c::s)=[]:=by simp[dQ,h]
def Vg{c:UInt8}(h1:kr (c.toNat:Nat)=ab)(h2:fq c=ak)(h3:c.toNat≠45){ks:List Sh}(h:mI s ks):mI ([c]++s) ([bM c]++ks):=by
 intro n p acc hn
 rcases n with _ | n
 .simp at hn
 obtain⟨toks,e1,e2⟩:=h n (p+1) (acc++[⟨(c.toNat:Nat),[c],p⟩]) (by simpa using hn);refine⟨⟨(c.toNat:Nat),[c],p⟩::toks,?_,by simp[Tok.sh,bM,e2]⟩;rw[n6,eY];rw[aA (λh=>h3 h.1),I7 h2,aA (by simp),aE h1,e1];simp
def YB{U:Type}{f:U->Bool}:∀{t s:List U},t.all f=ab->(∀c r,s=c::r->f c=ak)->(t++s).takeWhile f=t
 | [], s, _, h => by
  cases s with
  | nil=>rfl
  | cons c r=>simp[h c r rfl]
 | x :: t, s, ht, h => by
  simp only[ve,bF] at ht;simp[ht.1,YB ht.2 h]
variable{t:List UInt8}
def an8(h:dx t=ab):t.all fq=ab/\(∃c r,t=c::r/\sA c=ab):=by
 unfold dx at h
 rcases t with _ | ⟨c,r⟩
 .simp at h
 .simp only[bF] at h;refine⟨?_,c,r,rfl,h.2.1⟩;simp only[ve,bF];refine⟨?_,h.2.2⟩
  have:=h.2.1
  simp only[sA,fq,rD,rf] at this ⊢
  simp_all
def Ve(ht:dx t=ab){ks:List Sh}(hs:Stop s)(h:mI s ks):mI (t++s) ([gd t]++ks):=by
 intro n p acc hn;obtain⟨cK,c,r,rfl,hc⟩:=an8 ht
 rcases n with _ | n
 .simp at hn
 have dc:dQ (c::r++s)=c::r:=YB cK λc' r' e=>by subst e;exact hs
 obtain⟨toks,e1,e2⟩:=h n (p+(c::r).length) (acc++[⟨97,c::r,p⟩]) (by simp at hn ⊢;omega);refine⟨⟨97,c::r,p⟩::toks,?_,by simp[Tok.sh,gd,e2]⟩;have sZ:c.toNat≠45:=λe=>by
  simp only[sA,rD,e] at hc;revert hc;decide
 rw[iv] at dc ⊢;rw[eY,aA (λh=>sZ h.1),dc,aE ⟨by simp,ht⟩];rw[show(c::(r++s)).drop (c::r).length=s by rw[<-iv,List.drop_left],e1];simp
def kx(tx:List UInt8)(sh:List Sh):Prop:=∀s ks,Stop s->mI s ks->mI (tx++s) (sh++ks)
def rO(tx:List UInt8)(sh:List Sh):Prop:=∀s ks,mI s ks->mI (tx++s) (sh++ks)
def rO.n{k:List Sh}(h:rO t k):kx t k:=λs ks _ hl=>h s ks hl
def wg(c:UInt8)(h:(kr (c.toNat:Nat)&&!fq c&&decide (c.toNat≠45))=ab):rO [c] [bM c]:=λ_ _ hl=>by
 simp only[bF,vb,cn] at h;exact Vg h.1.1 h.1.2 h.2 hl
def xJ(h:dx t=ab):kx t [gd t]:=λ_ _ hs hl=>Ve h hs hl
def rO.app{a b:List UInt8}{x y:List Sh}(h:rO a x)(k:rO b y):rO (a++b) (x++y):=λs ks hl=>by
 rw[e9,e9];exact h _ _ (k _ _ hl)
def kx.sign{a:List UInt8}{c:UInt8}{x:List Sh}(h:kx a x)(hc:(kr (c.toNat:Nat)&&!fq c&&decide (c.toNat≠45))=ab):rO (a++[c]) (x++[bM c]):=λs ks hl=>by
 rw[e9,e9]
 have:=hc
 simp only[bF,vb,cn] at this;exact h _ _ this.1.2 (wg c hc _ _ hl)
def rO.nn{a b:List UInt8}{x y:List Sh}(h:rO a x)(k:kx b y):kx (a++b) (x++y):=λs ks hs hl=>by
 rw[e9,e9];exact h _ _ (k _ _ hs hl)
def Vi{G:Type}{T:G->List UInt8}{S:G->List Sh}:∀{l:List G},(∀x∈l,kx (T x) (S x))->∀s ks,Stop s->mI s ks->Stop ((l.map T).flatMap (λy=>44::y)++s)/\mI ((l.map T).flatMap (λy=>44::y)++s) ((l.map S).flatMap (λy=>bM 44::y)++ks)
 | [],_,s,ks,hs,hl=>⟨hs,hl⟩
 | x :: xs, h, s, ks, hs, hl => by
  obtain⟨h1,h2⟩:=Vi (l:=xs) (λy hy=>h y (by simp[hy])) s ks hs hl;simp only[ch,qX,e9,iv];refine⟨rfl,?_⟩;exact wg 44 (by decide) _ _ (h x (by simp) _ _ h1 h2)
variable{G:Type}
def Iw{T:G->List UInt8}{S:G->List Sh}{l:List G}(h:∀x∈l,kx (T x) (S x)):kx (cO (l.map T)) (fi (l.map S)):=by
 intro s ks hs hl;cases l with
 | nil=>exact hl
 | cons x xs =>
  obtain⟨h1,h2⟩:=Vi (l:=xs) (λy hy=>h y (by simp[hy])) s ks hs hl;simp only[ch,cO,fi,e9];exact h x (by simp) _ _ h1 h2
def Nt(h:iR ws=ab):kx (iT ws) (lY ws):=Iw (T:=aB.aq) (S:=λw=>[gd w.aq]) λw hw=>xJ (l7.1 h w hw)
def Ns(h:iR ws=ab):rO ([123]++iT ws++[125]) ([bM 123]++lY ws++[bM 125]):=kx.sign ((wg 123 (by decide)).nn (Nt h)) (by decide)
variable{b:UInt8}
def Nr{a:UInt8}(ha:(kr (a.toNat:Nat)&&!fq a&&decide (a.toNat≠45))=ab)(hb:(kr (b.toNat:Nat)&&!fq b&&decide (b.toNat≠45))=ab)(h:∀n∈ks,kx n.dy n.gW):
 rO ([a]++cO (eh ks)++[b]) ([bM a]++fi (gX ks)++[bM b]):=by
 rw[BD,FP];exact kx.sign ((wg a ha).nn (Iw h)) hb
def Nd.uZ(n:Nd):n.dy=if n.kind=1\/n.kind=2 then n.aq else if n.kind=3 then [123]++iT n.an++[125] else if n.kind=4 then [40]++cO (eh n.aj)++[41] else if n.kind=5 then [91]++cO (eh n.aj)++[93]
 else if n.kind=6 then n.aq++[58,123]++iT n.an++[125] else if n.kind=7 then [35]++rk (eh n.aj) else if n.kind=8 then [43,40]++cO (eh n.aj)++[41] else if n.kind=9 then [38,40]++cO (eh n.aj)++[41]
 else if n.kind=10 then([91]++cO (eh n.aj))++(if 0<n.an.length then [124]++iT n.an else [])++[93] else if n.kind=11 then n.aq++[61]++rk (eh n.aj) else []:=by cases n;rw[Nd.dy];rfl
def Nd.kU(n:Nd):n.gW=if n.kind=1\/n.kind=2 then [gd n.aq] else if n.kind=3 then [bM 123]++lY n.an++[bM 125] else if n.kind=4 then [bM 40]++fi (gX n.aj)++[bM 41] else if n.kind=5 then [bM 91]++fi (gX n.aj)++[bM 93]
 else if n.kind=6 then [gd n.aq]++[bM 58]++([bM 123]++lY n.an++[bM 125]) else if n.kind=7 then [bM 35]++HM (gX n.aj) else if n.kind=8 then [bM 43]++([bM 40]++fi (gX n.aj)++[bM 41]) else if n.kind=9 then [bM 38]++([bM 40]++fi (gX n.aj)++[bM 41])
 else if n.kind=10 then [bM 91]++(fi (gX n.aj)++(if 0<n.an.length then [bM 124]++lY n.an else []))++[bM 93] else if n.kind=11 then [gd n.aq]++[bM 61]++HM (gX n.aj) else []:=by cases n;rw[Nd.gW];rfl
def Ii{n m:Nd}(hm:m∈n.aj):m.wt+5<=n.wt:=by
 have h1:=JB hm;have h2:gg n.aj+4<=n.wt:=by cases n;simp only[Nd.wt,Nd.aj];omega
 omega
def Lx(n:Nd):Prop:=kx n.dy n.gW
def Vy{n:Nd}(hk:n.kind=1\/n.kind=2)(h:n.lu=ab):Lx n:=by
 unfold Lx;rw[Nd.uZ,Nd.kU,aE hk,aE hk];simp only[Nd.lu,bF] at h;exact xJ h.1
def Xp{n:Nd}(h:n.qd=ab):n.kind=6/\dx n.aq=ab/\iR n.an=ab/\n.aj=[]:=by
 simp only[Nd.qd,bF,cn] at h;exact⟨h.1.1.1,h.1.1.2,h.1.2,ke.1 (by omega)⟩
def anQ{n:Nd}(h:n.qd=ab):Lx n:=by
 obtain⟨k,h1,h2,_⟩:=Xp h;unfold Lx;rw[Nd.uZ,Nd.kU];simp only[k,show ¬((6:Int)=1\/(6:Int)=2) by omega,show ¬(6:Int)=3 by omega,show ¬(6:Int)=4 by omega,show ¬(6:Int)=5 by omega,bZ,cm];have e:n.aq++[58,123]++iT n.an++[125]=(n.aq++[58])++([123]++iT n.an++[125]):=by simp
 rw[e];exact(((xJ h1).sign (by decide)).app (Ns h2)).n
def RQ{n:Nd}(h:n.iY=ab):(n.kind=2/\n.lu=ab)\/(n.kind=3/\n.aq=[]/\iR n.an=ab/\n.aj=[])\/(n.kind=4/\n.aq=[]/\n.an=[]/\n.aj≠[]/\∀x∈n.aj,x.iY=ab)\/(n.kind=5/\n.aq=[]/\n.an=[]/\∀x∈n.aj,x.qd=ab):=by
 rw[Nd.Al] at h;split at h
 .rename_i k;exact .inl ⟨k,h⟩
 split at h
 .rename_i k;simp only[bF,cn] at h;exact .inr (.inl ⟨k,h.1.1,h.1.2,ke.1 (by omega)⟩)
 split at h
 .rename_i k;simp only[Nd.lG,bF,cn] at h;exact .inr (.inr (.inl ⟨k,h.1.1.1,ke.1 (by omega),λe=>by rw[e] at h;simp at h,l7.1 h.2⟩))
 split at h
 .rename_i k;simp only[Nd.lG,bF,cn] at h;exact .inr (.inr (.inr ⟨k,h.1.1,ke.1 (by omega),l7.1 h.2⟩))
 .simp at h
def anN:∀(k:Nat) (n:Nd),n.wt<=k->n.iY=ab->Lx n:=by
 intro k;induction k with
 | zero=>intro n h _;cases n;simp only[Nd.wt] at h;omega
 | succ k ih =>
  intro n hk h
  rcases RQ h with ⟨h1,h2⟩ | ⟨h1,_,h2,_⟩ | ⟨h1,_,_,_,h2⟩ | ⟨h1,_,_,h2⟩
  .exact Vy (.inr h1) h2
  .unfold Lx;rw[Nd.uZ,Nd.kU,h1];exact(Ns h2).n
  .unfold Lx;rw[Nd.uZ,Nd.kU,h1];exact(Nr (by decide) (by decide) λm hm=>ih m (by have:=Ii hm;omega) (h2 m hm)).n
  .unfold Lx;rw[Nd.uZ,Nd.kU,h1];exact(Nr (by decide) (by decide) λm hm=>anQ (h2 m hm)).n
def Ff{n:Nd}(h:n.fA=ab):(n.kind=1/\n.lu=ab)\/(n.kind=7/\n.aq=[]/\n.an=[]/\∃c,n.aj=[c]/\c.iY=ab)\/((n.kind=8\/n.kind=9)/\n.aq=[]/\n.an=[]/\n.aj≠[]/\∀x∈n.aj,x.fA=ab):=by
 rw[Nd.uC] at h;split at h
 .rename_i k;exact .inl ⟨k,h⟩
 split at h
 .rename_i k;simp only[Nd.lG,bF,cn] at h;refine .inr (.inl ⟨k,h.1.1.1,ke.1 (by omega),?_⟩)
  match hq:n.aj,h.1.2 with
  | [c],_=>exact⟨c,rfl,by have:=h.2;rw[hq] at this;exact this⟩
  | [],e=>simp at e
  | _::_::_,e=>simp at e;omega
 split at h
 .rename_i k;simp only[Nd.lG,bF,cn] at h;exact .inr (.inr ⟨k,h.1.1.1,ke.1 (by omega),λe=>by rw[e] at h;simp at h,l7.1 h.2⟩)
 .simp at h
def NG:∀(k:Nat) (n:Nd),n.wt<=k->n.fA=ab->Lx n:=by
 intro k;induction k with
 | zero=>intro n h _;cases n;simp only[Nd.wt] at h;omega
 | succ k ih =>
  intro n hk h
  rcases Ff h with ⟨h1,h2⟩ | ⟨h1,_,_,c,h2,h3⟩ | ⟨h1,_,_,_,h2⟩
  .exact Vy (.inl h1) h2
  .unfold Lx;rw[Nd.uZ,Nd.kU,h1,h2];exact(wg 35 (by decide)).nn (anN _ c (bS _) h3)
  .have dG:=Nr (a:=40) (b:=41) (by decide) (by decide) λm hm=>ih m (by have:=Ii hm;omega) (h2 m hm)
   unfold Lx;rw[Nd.uZ,Nd.kU]
   rcases h1 with h1 | h1
   .rw[h1];exact((wg 43 (by decide)).app dG).n
   .rw[h1];exact((wg 38 (by decide)).app dG).n
def Hj{n:Nd}(h:n.me=ab):n.kind=11/\dx n.aq=ab/\n.an=[]/\∃c,n.aj=[c]/\c.qo=true:=by
 simp only[Nd.me,bF,cn] at h;refine⟨h.1.1.1.1,h.1.1.1.2,ke.1 (by omega),?_⟩
 match hq:n.aj,h.1.2 with
 | [c],_=>exact⟨c,rfl,by have:=h.2;rw[hq] at this;exact this⟩
 | [],e=>simp at e
 | _::_::_,e=>simp at e;omega
def anO{n:Nd}(h:n.me=ab):Lx n:=by
 obtain⟨k,h1,_,c,h2,h3⟩:=Hj h;unfold Lx;rw[Nd.uZ,Nd.kU,k,h2];exact((xJ h1).sign (by decide)).nn (NG _ c (bS _) (GP h3))
def FK{n:Nd}(h:n.jN=ab):(n.kind=10/\n.aq=[]/\(n.an=[]\/∃w,n.an=[w]/\dx w.aq=ab)/\∀x∈n.aj,x.me=ab)\/(n.kind=1/\n.fA=ab):=by
 unfold Nd.jN at h;split at h
 .rename_i k;simp only[bF,cn] at h;refine .inl ⟨k,h.1.1.1,?_,l7.1 h.2⟩
  match hq:n.an,h.1.1.2 with
  | [],_=>exact .inl rfl
  | [w],_=>exact .inr ⟨w,rfl,by have:=h.1.2;rw[hq] at this;simpa [iR] using this⟩
  | _::_::_,e=>simp at e;omega
 .simp only[bF,cn] at h;exact .inr h
def anP{n:Nd}(h:n.jN=ab):Lx n:=by
 rcases FK h with ⟨k,_,hn,hf⟩ | ⟨_,h⟩
 .have hk:kx (cO (eh n.aj)) (fi (gX n.aj)):=by rw[BD,FP];exact Iw λm hm=>anO (hf m hm)
  unfold Lx;rw[Nd.uZ,Nd.kU,k]
  rcases hn with hn | ⟨w,hn,hw⟩
  .rw[hn];have e1:([91]:List UInt8)++cO (eh n.aj)++[]=[91]++cO (eh n.aj):=by simp
   have e2:[bM 91]++(fi (gX n.aj)++[])++[bM 93]=[bM 91]++fi (gX n.aj)++[bM 93]:=by simp
   show kx (([91]++cO (eh n.aj))++[]++[93]) ([bM 91]++(fi (gX n.aj)++[])++[bM 93]);rw[e1,e2];exact(((wg 91 (by decide)).nn hk).sign (by decide)).n
  .rw[hn];have e1:(([91]:List UInt8)++cO (eh n.aj))++([124]++iT [w])++[93]=(([91]++cO (eh n.aj))++[124])++(iT [w]++[93]):=by simp
   have e2:[bM 91]++(fi (gX n.aj)++([bM 124]++lY [w]))++[bM 93]=(([bM 91]++fi (gX n.aj))++[bM 124])++(lY [w]++[bM 93]):=by simp
   show kx (([91]++cO (eh n.aj))++([124]++iT [w])++[93]) ([bM 91]++(fi (gX n.aj)++([bM 124]++lY [w]))++[bM 93]);rw[e1,e2];exact((((wg 91 (by decide)).nn hk).sign (by decide)).app ((Nt (by simp[iR,hw])).sign (by decide))).n
 .exact NG _ n (bS _) h
mutual
def al.WF:al->Prop
 | .mk t ks e=>j5 t.kind=ak/\(closing t.kind=0->ks=[]/\e=t.pos)/\fG ks
def fG:List al->Prop
 | []=>True
 | t::ts=>t.WF/\fG ts
end
def kz:∀{a b:List al},fG (a++b)↔fG a/\fG b
 | [],b=>by simp[fG]
 | t::ts,b=>by simp only[iv,fG,kz (a:=ts),Kk]
def A4{a r:List Tok}{t:Tok}:dn (a++t::r) a.length=t.kind:=by simp[dn]
def YJ{a r:List Tok}{t:Tok}:iG (a++t::r) a.length=t:=by simp[iG]
def WD{a r:List Tok}{t:Tok}:p_ (a++t::r) a.length=t.pos:=by simp[p_]
def Ru{c:Int}(h:closing c≠0):j5 (closing c)=ab/\closing (closing c)=0:=by
 have:c=40\/c=123\/c=91:=by
  unfold closing at h;split at h
  .rename_i k;exact .inl k
  .split at h
   .rename_i k;exact .inr k
   .exact absurd rfl h
 rcases this with rfl | rfl | rfl<;>decide
theorem SE(t:al)(ts:List al):bu (t::ts)=t.flat++bu ts:=rfl
def GU{l:List Tok}{x:Nat}:∀(k:Nat) (us:List al) (a b:List Tok) (n:Nat) (d:Int),bd us<=k->fG us->l=a++bu us++b->1<=d->iu l x (n+(bu us).length) a.length d=iu l x n (a++bu us).length d
 | _,[],a,b,n,d,_,_,_,_=>by simp[bu]
 | 0,t::ts,a,b,n,d,h,_,_,_=>by simp[bd] at h
 | k + 1, .mk t ks e :: ts, a, b, n, d, h, hw, hl, hd => by
  simp only[bd,al.many] at h;obtain⟨⟨w1,w2,w3⟩,w4⟩:=hw;rw[SE] at hl ⊢
  by_cases hc:closing t.kind=0
  .have ef:(al.mk t ks e).flat=[t]:=by simp[al.flat,hc]
   rw[ef] at hl ⊢;have hk:dn l a.length=t.kind:=by rw[hl];simp only[e9,iv];exact A4
   have HH:delta l a.length=0:=by unfold delta;rw[hk,hc,w1];simp
   rw[show n+([t]++bu ts).length=(n+(bu ts).length)+1 by simp;omega,uM,HH,aA (by omega),Int.add_zero]
   have:=GU (l:=l) (x:=x) k ts (a++[t]) b n d (by omega) w4 (by rw[hl];simp) hd
   rw[show(a++[t]).length=a.length+1 by simp] at this;rw[this];simp
  .have ef:(al.mk t ks e).flat=t::(bu ks++[⟨closing t.kind,[UInt8.ofNat (closing t.kind).toNat],e⟩]):=by simp[al.flat,hc]
   generalize gu:(⟨closing t.kind,[UInt8.ofNat (closing t.kind).toNat],e⟩:Tok)=c at ef;have vU:c.kind=closing t.kind:=by rw[<-gu]
   obtain⟨c1,c2⟩:=Ru hc;rw[ef] at hl ⊢;have hk:dn l a.length=t.kind:=by rw[hl];simp only[e9,iv];exact A4
   have Ew:delta l a.length=1:=D8 (by rw[hk];exact hc);have s_:dn l (a++[t]++bu ks).length=c.kind:=by
    rw[hl]
    have:a++(t::(bu ks++[c])++bu ts)++b=(a++[t]++bu ks)++c::(bu ts++b):=by simp
    rw[this];exact A4
   have Ex:delta l (a++[t]++bu ks).length = -1:=by unfold delta;rw[s_,vU,c2,c1];simp
   rw[show n+(t::(bu ks++[c])++bu ts).length=((n+(bu ts).length+1)+(bu ks).length)+1 by simp;omega,uM,Ew,aA (by omega)];have h1:=GU (l:=l) (x:=x) k ks (a++[t]) ([c]++bu ts++b) (n+(bu ts).length+1) (d+1) (by omega) w3 (by rw[hl];simp) (by omega);rw[show(a++[t]).length=a.length+1 by simp] at h1;rw[h1,uM,Ex,aA (by omega),show d+1 + -1=d by omega];have h2:=GU (l:=l) (x:=x) k ts (a++[t]++bu ks++[c]) b n d (by omega) w4 (by rw[hl];simp) hd;rw[show(a++[t]++bu ks++[c]).length=(a++[t]++bu ks).length+1 by simp;omega] at h2;rw[h2];simp
def aql{l:List Tok}{t c:Tok}{ks:List al}{a b:List Tok}(hl:l=a++[t]++bu ks++c::b)(hw:fG ks)(hc:closing t.kind≠0)(vU:c.kind=closing t.kind):partner l a.length=(a++[t]++bu ks).length:=by
 obtain⟨c1,c2⟩:=Ru hc;have hk:dn l a.length=t.kind:=by rw[hl];simp only[e9,n6];exact A4
 have Ew:delta l a.length=1:=D8 (by rw[hk];exact hc);have s_:dn l (a++[t]++bu ks).length=c.kind:=by rw[hl];exact A4
 have Ex:delta l (a++[t]++bu ks).length = -1:=by unfold delta;rw[s_,vU,c2,c1];simp
 unfold partner;rw[show l.length - a.length=((b.length+1)+(bu ks).length)+1 by rw[hl];simp;omega,uM,Ew,aA (by omega)];have h1:=GU (l:=l) (x:=a.length) _ ks (a++[t]) (c::b) (b.length+1) (0+1) (bS _) hw hl (by omega);rw[show(a++[t]).length=a.length+1 by simp] at h1;rw[h1,uM,Ex,aE (by omega)]
def Jn{l:List Tok}:∀(k:Nat) (us:List al) (a b:List Tok) (n:Nat),bd us<=k->fG us->l=a++bu us++b->(bu us).length<=n->jR l n a.length (a.length+(bu us).length)=us
 | _,[],a,b,n,_,_,_,_=>by cases n<;>simp[bu,jR]
 | 0,t::ts,a,b,n,h,_,_,_=>by simp[bd] at h
 | k + 1, .mk t ks e :: ts, a, b, n, h, hw, hl, hn => by
  simp only[bd,al.many] at h;obtain⟨⟨w1,w2,w3⟩,w4⟩:=hw;rw[SE] at hl hn ⊢
  by_cases hc:closing t.kind=0
  .have ef:(al.mk t ks e).flat=[t]:=by simp[al.flat,hc]
   obtain⟨w5,w6⟩:=w2 hc;rw[ef] at hl hn ⊢;have iq : l=a++t::(bu ts++b):=by rw[hl];simp
   have hk:dn l a.length=t.kind:=by rw[iq];exact A4
   have ht:iG l a.length=t:=by rw[iq];exact YJ
   have hp:p_ l a.length=t.pos:=by rw[iq];exact WD
   simp only[bP,gM] at hn ⊢;obtain⟨m,rfl⟩:∃m,n=m+1:=⟨n - 1,by omega⟩;rw[jR,aE (by omega),aA (by rw[hk];simpa using hc),ht,hp]
   have:=Jn (l:=l) k ts (a++[t]) b m (by omega) w4 (by rw[hl];simp) (by omega)
   rw[show(a++[t]).length=a.length+1 by simp,show a.length+1+(bu ts).length=a.length+(1+(bu ts).length) by omega] at this;rw[this,w5,w6]
  .have ef:(al.mk t ks e).flat=t::(bu ks++[⟨closing t.kind,[UInt8.ofNat (closing t.kind).toNat],e⟩]):=by simp[al.flat,hc]
   generalize gu:(⟨closing t.kind,[UInt8.ofNat (closing t.kind).toNat],e⟩:Tok)=c at ef;have vU:c.kind=closing t.kind:=by rw[<-gu]
   have xh:c.pos=e:=by rw[<-gu]
   rw[ef] at hl hn ⊢;have CG:l=a++t::(bu ks++[c]++bu ts++b):=by rw[hl];simp
   have lh:l=a++[t]++bu ks++c::(bu ts++b):=by rw[hl];simp
   have hk:dn l a.length=t.kind:=by rw[CG];exact A4
   have ht:iG l a.length=t:=by rw[CG];exact YJ
   have EL:=aql lh w3 hc vU;have hp:p_ l (a++[t]++bu ks).length=e:=by rw[<-xh,lh];exact WD
   simp only[bP,dB,eM] at hn;obtain⟨m,rfl⟩:∃m,n=m+1:=⟨n - 1,by omega⟩;rw[jR,aE (by simp),aE (by rw[hk];exact hc),ht,EL,hp];have h1:=Jn (l:=l) k ks (a++[t]) (c::(bu ts++b)) m (by omega) w3 lh (by omega);have h2:=Jn (l:=l) k ts (a++[t]++bu ks++[c]) b m (by omega) w4 (by rw[hl];simp) (by omega);have e1:(a++[t]++bu ks).length=(a++[t]).length+(bu ks).length:=bP;have e2:a.length+1=(a++[t]).length:=by simp
   have e3:(a++[t]).length+(bu ks).length+1=(a++[t]++bu ks++[c]).length:=by simp only[bP,gM]
   have e4:a.length+(t::(bu ks++[c])++bu ts).length=(a++[t]++bu ks++[c]).length+(bu ts).length:=by simp only[bP,dB,eM];omega
   rw[e1,e2,h1,e3,e4,h2]
variable{us:List al}
def YK(hw:fG us)(h:(gf (bu us)).2=ag):(gf (bu us)).1=us:=by
 unfold gf at h ⊢;split
 .rename_i h0;rw[aE h0] at h;simp at h
 .have:=Jn (l:=bu us) _ us [] [] (bu us).length (bS _) hw (by simp) (bS _)
  simpa using this
def gx:List Tok->List (Tok × List al)->List al->List al × Option Int
 | [],op,row=>match op.getLast? with | some (t,_)=>([],aa t.pos) | none=>(row,ag)
 | t :: ts, op, row =>
  if closing t.kind≠0 then(if 24<=op.length then([],aa t.pos) else gx ts (op++[(t,row)]) [])
  else if j5 t.kind=ab then
   match op.getLast? with
   | none=>([],aa t.pos)
   | some (u,ahead)=>if closing u.kind=t.kind then gx ts op.dropLast (ahead++[.mk u row t.pos]) else([],aa t.pos)
  else gx ts op (row++[.mk t [] t.pos])
def Tk.ok(dz D:af)(n:Nat):Tk->Prop
 | .ba=>True
 | .tk Z=>dz.aP Z=ag/\D.aP Z=aa n
 | .no=>False
def Tk.name:Tk->Option Nat
 | .tk Z=>aa Z
 | _=>ag
def jZ(dz D:af)(L:List (Tk × Nat)):Prop:=dz.sub D/\(∀p∈L,p.1.ok dz D p.2)/\(L.filterMap λp=>p.1.name).Nodup
variable{L:List (Tk × Nat)}{D:af}
def jZ.init(h:∀p∈L,p.1 = .ba):jZ D D L:=by
 refine⟨af.bg D,λp hp=>by rw[h p hp];trivial,?_⟩
 have:L.filterMap (λp=>p.1.name)=[]:=by
  rw[List.filterMap_eq_nil_iff];intro p hp;rw[h p hp];rfl
 rw[this];exact List.nodup_nil
variable{dz:af}
def jZ.perm{L':List (Tk × Nat)}(h:jZ dz D L)(hp:L.Perm L'):jZ dz D L' :=
 ⟨h.1,λp hm=>h.2.1 p (hp.mem_iff.2 hm),(hp.filterMap _).nodup_iff.1 h.2.2⟩
def jZ.tail{p:Tk × Nat}(h:jZ dz D (p::L)):jZ dz D L:=by
 refine⟨h.1,λq hq=>h.2.1 q (by simp[hq]),?_⟩
 have:=h.2.2
 simp only[JW] at this;split at this
 .exact this
 .exact(Qm.1 this).2
def jZ.ba{n:Nat}(h:jZ dz D L):jZ dz D ((.ba,n)::L) :=
 ⟨h.1,λq hq=>by rcases lF.1 hq with rfl | hq;exact trivial;exact h.2.1 q hq,by simpa [JW,Tk.name] using h.2.2⟩
variable{Z:Nat}
def jZ.put{tk:Tk}{n m:Nat}(h:jZ dz D ((tk,n)::L))(h0:dz.aP Z=ag)(ht:tk = .tk Z\/D.aP Z=ag):jZ dz (D.aY Z m) ((.tk Z,m)::L):=by
 have Ua:Z∉L.filterMap λp=>p.1.name:=λhm=>by
  obtain⟨⟨t,k⟩,hq,hn⟩:=Qj.1 hm;cases t with
  | no=>simp[Tk.name] at hn
  | ba=>simp[Tk.name] at hn
  | tk O =>
   simp only[Tk.name,a9] at hn;subst hn
   rcases ht with rfl | ht
   .have:=h.2.2
    simp only[JW,Tk.name] at this;exact(Qm.1 this).1 hm
   .have:=(h.2.1 (.tk O,k) (by simp[hq])).2
    rw[ht] at this;simp at this
 refine⟨⟨h.1.1,λt k hk=>?_,h.1.2.2⟩,λp hp=>?_,?_⟩
 .have aW:t≠Z:=by rintro rfl;rw[h0] at hk;simp at hk
  simp only[af.aY,aA aW];exact h.1.2.1 t k hk
 .rcases lF.1 hp with rfl | CL
  .exact⟨h0,by simp[af.aY]⟩
  .have:=h.2.1 p (by simp[CL])
   obtain⟨t,k⟩:=p;cases t with
   | no=>exact this
   | ba=>trivial
   | tk O =>
    have aW:O≠Z:=by rintro rfl;exact Ua (Qj.2 ⟨(.tk O,k),CL,rfl⟩)
    exact⟨this.1,by simp only[af.aY,aA aW];exact this.2⟩
 .simp only[JW,Tk.name];exact Qm.2 ⟨Ua,h.tail.2.2⟩
def jZ.fresh(h:jZ dz D L)(ht:D.aP Z=ag):dz.aP Z=none:=by
 cases hq:dz.aP Z with
 | none=>rfl
 | some n=>rw[h.1.2.1 Z n hq] at ht;simp at ht
variable{K:V->af->Prop}{m:List (List V)}
def Ko{tk u:Tk}{k:Nat}{n:List (List V)}(h:jZ dz D ((tk,m.length)::L))(hb:m.length+n.length<=aK)
 (hk:∀Z,jZ dz (D.aY Z (m.length+n.length)) ((.tk Z,m.length+n.length)::L)->K (.sl (.tk Z) k (m++n)) (D.aY Z (m.length+n.length))):qV D k (.sl tk k m) (.sl u k n) K:=by
 have hh:=h.2.1 (tk,m.length) (by simp);cases tk with
 | no=>exact hh.elim
 | ba=>exact GJ hb λZ bc=>hk Z (h.put (h.fresh bc) (.inr bc))
 | tk Z=>exact iy hb hh.2 (hk Z (h.put hh.1 (.inl rfl)))
def ap2{H:V->af->Prop}{k:Nat}{cs:List V}:OQ.bh D H (.my k) [.agg cs]=(cs.length=k/\bO cs=ab/\cL cs=ab/\H (.sl .ba k [cs]) D):=by
 simp only[OQ.bh,M8,zc,V.wd,V.cells,a9]
 by_cases h:cs.length=k/\bO cs=ab/\cL cs=ab
 .rw[aE h];simp[h]
 .rw[aA h];simp;intro h1 h2 h3;exact absurd ⟨h1,h2,h3⟩ h
def Jb{k:Nat}{Z:Tk}{j j' : IntKind}{b:Nat}{H:V->Prop}(h2:b<=m.length)(h:H (.sl .ba k (m.take b))):FQ k (.sl Z k m) ag (aa (.int j b)) (aa (.int j' b)) H:=.inl ⟨Z,m,0,b,rfl,Ka _,h2,rfl,⟨j,rfl⟩,⟨j',rfl⟩,h⟩
structure az where
 op:Int
 pos:Int
 name:aB
 an:List aB
 bA:List (aB × aB)
 nP:Int
 left:Nd
 right:Nd
def az.zero:az:=⟨0,0,⟨[],0⟩,[],[],0,.zero,.zero⟩
def fL(p:aB × aB):List V:=[.aF p.1.aq,.int .i64 p.1.pos,.aF p.2.aq,.int .i64 p.2.pos]
def az.cP(c:az)(pc:V):List V:=[.int .i64 c.op,.int .i64 c.pos,.aF c.name.aq,.int .i64 c.name.pos,.sl .no 2 (c.an.map aB.enc),pc,.int .i64 c.nP,
 .int .i64 c.left.kind,.int .i64 c.left.pos,.aF c.left.aq,.sl .no 2 (c.left.an.map aB.enc),.sl .no 5 (c.left.aj.map Nd.enc),.int .i64 c.right.kind,.int .i64 c.right.pos,.aF c.right.aq,.sl .no 2 (c.right.an.map aB.enc),.sl .no 5 (c.right.aj.map Nd.enc)]
def rH:List (aB × aB)->V
 | []=>.sl .ba 4 []
 | p::ps=>.sl .no 4 ((p::ps).map fL)
def az.enc(c:az):List V:=c.cP (.sl .no 4 (c.bA.map fL))
def iN:List (List UInt8 × List UInt8) :=
 [([],[]),([99,104,97,105,110],[110,119]),([112,111,119,101,114],[110,119]),([112,114,111,100,117,99,116],[110,119]),([103,114,105,100],[110,119,112]),([116,97,98,108,101],[110,119,112]),([108,97,98,101,108],[110,119]),([114,111,119],[110,119]),([108,101,113],[110,116,116]),([114,111,119,101,113],[110,114,114]),([108,97,99,107,115],[110,102]),([112,117,115,104],[]),([112,111,112],[]),([99,104,101,99,107],[]),([99,111,114,101],[]),([119,104,121],[110])]
def gC:List V:=(iN.map λp=>[V.aF p.1,V.aF p.2]).flatten
def bY(op:Int):List UInt8 × List UInt8:=if 0<=op/\op<16 then iN.getD op.toNat ([],[]) else([],[])
def pd(w:List UInt8):Nat->Nat->Int
 | 0,_=>0
 | n+1,op=>if 0<op/\(bY op).1=w then op else pd w n (op+1)
def je(w:List UInt8):Int:=pd w 16 0
def ae.gH:Nat->ae->List (aB × aB)->ae × List (aB × aB)
 | 0,i,acc=>(i,acc)
 | n + 1, i, acc =>
  if i.aG≠ag then(i,acc)
  else
   if ((i.word.2.take 60).2.word).2.at_=i.l.length then(((i.word.2.take 60).2.word).2,acc++[(i.word.1,((i.word.2.take 60).2.word).1)])
   else gH n (((i.word.2.take 60).2.word).2.take 44).2 (acc++[(i.word.1,((i.word.2.take 60).2.word).1)])
def ae.vw(r:ae)(b:Option Int):ae:=match b with | some a=>{r with aG:=aa a} | none=>r
def p9(r:ae)(c:az):ae × az :=
 let t:=(r.take 123).1
 let r1:=(r.take 123).2
 if r1.aG≠ag\/t.aj.length=0 then(r1,{c with nP:=t.tok.pos})
 else(r1.vw (t.inner.gH (t.aj.length+1) []).1.aG,{c with nP:=t.tok.pos,bA:=(t.inner.gH (t.aj.length+1) []).2})
def jw(r:ae)(c:az)(g:Nd × Int × Option Int):ae × az :=
 match g.2.2 with
 | some a=>({r with aG:=aa a},c)
 | none=>({r with at_:=g.2.1},if c.left.kind=0 then {c with left:=g.1} else {c with right:=g.1})
def dp(letter:UInt8)(x:ae × az):ae × az :=
 if x.1.aG≠ag then x
 else if letter=110 then(x.1.word.2,{x.2 with name:=x.1.word.1})
 else if letter=102 then(x.1.word.2,{x.2 with an:=[x.1.word.1]})
 else if letter=119 then({x.1 with aG:=(jS x.1.l x.1.at_ x.1.fin).2,at_:=x.1.at_+1},{x.2 with an:=(jS x.1.l x.1.at_ x.1.fin).1})
 else if letter=112 then p9 x.1 x.2
 else if letter=116 then jw x.1 x.2 (fN (ae.label (bd x.1.l)) x.1.l x.1.at_ x.1.fin)
 else if letter=114 then jw x.1 x.2 (fN (ae.row (bd x.1.l)) x.1.l x.1.at_ x.1.fin)
 else x
def iQ:List UInt8->ae × az->ae × az
 | [],x=>x
 | k::ks,x=>iQ ks (dp k x)
def w7(x:ae × az):az × Int × Int :=
 match (if x.1.aG=ag/\x.1.at_<x.1.l.length then x.1.fail else x.1).aG with
 | some a=>(.zero,2,a)
 | none=>(x.2,0,0)
def tZ(l:List al)(fin:Int):az × Int × Int :=
 match l with
 | []=>(.zero,0,0)
 | t :: _ =>
  let w:=(⟨l,0,fin,ag⟩:ae).word
  if je w.1.aq=0 then(.zero,2,t.tok.pos)
  else w7 (iQ (bY (je w.1.aq)).2 (w.2,{az.zero with op:=je w.1.aq,pos:=w.1.pos}))
def cM(s:List UInt8):az × Int × Int :=
 match (dv s).2 with
 | some a=>(.zero,1,a)
 | none => match (gx (dv s).1 [] []).2 with
  | some a=>(.zero,2,a)
  | none=>tZ (gx (dv s).1 [] []).1 s.length
structure ky(l:List al)(fin:Int)(x:ae × az):Prop where
 hl:x.1.l=l
 hf:x.1.fin=fin
 ge:0<=x.1.at_
 le:x.1.at_<=(l.length:Int)+1
 ok:x.1.aG=ag->x.1.at_<=(l.length:Int)
def afg(r:ae):r.fail.fin=r.fin:=by unfold ae.fail;split<;>rfl
def FW(r:ae)(k:Int):(r.take k).2.fin=r.fin:=by
 unfold ae.take;split
 .rfl
 .exact afg r
def aj3(n:Nat)(r:ae):l6 r (r.row n).2:=by
 unfold ae.row;split
 .rename_i hs;have h:=ue r 91;have hb:(r.take 91).2.aG=none:=by
   rcases r.uY 91 with ⟨_,_,hb,_,_⟩ | ⟨h',_⟩
   .exact hb
   .rw[hs] at h';simp at h'
  exact⟨h.1,λh1 h2=>by
   obtain⟨p1,p2,p3⟩:=h.2 h1 h2;exact⟨p1,p2,λ_=>p3 hb⟩⟩
 .exact Eh r 1
variable{c:az}{l:List al}{x:ae × az}
def ky.goes{fin:Int}(h:ky l fin x)(hb:x.1.aG=ag)(g:l6 x.1 r)(hf:r.fin=x.1.fin):ky l fin (r,c):=by
 obtain⟨h1,h2,h3,h4,h5⟩:=h;have h5:=h5 hb;obtain⟨g1,g2⟩:=g;rw[h1] at g2;have g2:=g2 h3 (by omega);exact⟨g1.trans h1,hf.trans h2,by simp only;omega,by simp only;omega,λ_=>by simp only;omega⟩
def ky.aG{l:List al}{fin:Int}{r:ae}{c c' : az}{a:Int}(h:ky l fin (r,c)):ky l fin ({r with aG:=aa a},c'):=⟨h.hl,h.hf,h.ge,h.le,λh=>by simp at h⟩
def VW{fin:Int}{one:ae->Nd × ae}(h:ky l fin (r,c))(hb:r.aG=ag)(ho:∀r,l6 r (one r).2):ky l fin (jw r c (fN one r.l r.at_ r.fin)):=by
 unfold jw fN;have he:(⟨r.l,r.at_,r.fin,ag⟩:ae)=r:=by cases r;simp only at hb;subst hb;rfl
 rw[he];cases hq:(one r).2.aG with
 | some a=>exact h.aG
 | none =>
  obtain⟨g1,g2⟩:=ho r;have h5:=h.ok hb;have h3:=h.ge;have h1:=h.hl;simp only at h5 h3 h1;rw[h1] at g2;have g2:=g2 h3 h5;exact⟨h.hl,h.hf,by simp only;omega,by simp only;omega,λ_=>by simp only;omega⟩
def ap9{fin:Int}(h:ky l fin (r,c))(hb:r.aG=ag):ky l fin (p9 r c):=by
 have h1:∀c',ky l fin ((r.take 123).2,c'):=λc' => ky.goes (x:=(r,c)) h hb (ue r 123) (FW r 123)
 unfold p9;simp only;split
 .exact h1 _
 .unfold ae.vw;split
  .exact(h1 c).aG
  .exact h1 _
def Wj{fin:Int}(h:ky l fin x)(k:UInt8):ky l fin (dp k x):=by
 obtain⟨r,c⟩:=x;unfold dp;simp only;split
 .exact h
 rename_i hb;have hb:r.aG=none:=by simpa using hb
 split
 .exact ky.goes (x:=(r,c)) h hb (yH r) (FW r 97)
 split
 .exact ky.goes (x:=(r,c)) h hb (yH r) (FW r 97)
 split
 .have h5:=h.ok hb;have h3:=h.ge;simp only at h5 h3;refine⟨h.hl,h.hf,by simp only;omega,by simp only;omega,λhn=>?_⟩;have he:(⟨r.l,r.at_,r.fin,ag⟩:ae)=r:=by cases r;simp only at hb;subst hb;rfl
  simp only[jS,he] at hn;cases hq:(r.words ak).2.aG with
  | some a=>rw[hq] at hn;simp at hn
  | none =>
   obtain⟨g1,g2⟩:=Lk r ak;have h1:=h.hl;simp only at h1;rw[h1] at g2
   have:=(g2 h3 h5)
   have:=this.2.2 hq
   simp only;omega
 split
 .exact ap9 h hb
 split
 .exact VW h hb (Lj _)
 split
 .exact VW h hb (aj3 _)
 .exact h
def Wo:∀(ks:List UInt8) (k:UInt8) (x:ae × az),iQ (ks++[k]) x=dp k (iQ ks x)
 | [],_,_=>rfl
 | _::ks,k,x=>Wo ks k _
def N'{l:List al}{fin:Int}:∀(ks:List UInt8) {x:ae × az},ky l fin x->ky l fin (iQ ks x)
 | [],_,h=>h
 | k::ks,_,h=>N' ks (Wj h k)
def Wk{k:UInt8}(h:k≠112\/x.1.aG≠ag):(dp k x).2.bA=x.2.bA:=by
 unfold dp;split
 .rfl
 rename_i hb;have hb:x.1.aG=none:=by simpa using hb
 have hk:k≠112:=by rcases h with h | h;exact h;exact absurd hb h
 split
 .rfl
 split
 .rfl
 split
 .rfl
 have hn:∀g,(jw x.1 x.2 g).2.bA=x.2.bA:=λg=>by
  unfold jw;split
  .rfl
  .simp only;split<;>rfl
 split
 .exact hn _
 split
 .exact hn _
 .rfl
def Wn:∀(ks:List UInt8) {x:ae × az},(∀k∈ks,k≠112)->(iQ ks x).2.bA=x.2.bA
 | [],_,_=>rfl
 | k::ks,x,h=>(Wn ks λj hj=>h j (by simp[hj])).trans (Wk (.inl (h k (by simp))))
def ajk(op:Int)(i:Nat)(h:(bY op).2[i]?=aa 112):∀k∈(bY op).2.take i,k≠112:=by
 unfold bY at h ⊢;split at h
 .rename_i h1;rw[aE h1];have aC:op.toNat<16:=by omega
  generalize op.toNat=n at h aC ⊢;have key:∀n<16,∀i<3,(iN.getD n ([],[])).2[i]?=aa 112->∀k∈(iN.getD n ([],[])).2.take i,k≠112:=by decide
  have hl:∀n<16,(iN.getD n ([],[])).2.length<=3:=by decide
  have:=(fv.1 h).1
  exact key n aC i (by have:=hl n aC;omega) h
 .simp at h
def Lc(op:Int):∀c∈(bY op).2,c.toNat<128:=by
 unfold bY;split
 .rename_i h1;have aC:op.toNat<16:=by omega
  generalize op.toNat=n at aC ⊢;have key:∀n<16,∀c∈(iN.getD n ([],[])).2,c.toNat<128:=by decide
  exact key n aC
 .simp
def iH(s:aN)(lat:Int)(t:List UInt8)(p kind:Int):List aQ :=
 match lb s.vars t with
 | none=>if (i_ s.bz t).isNone then [⟨3,p⟩] else [⟨4,p⟩]
 | some v => match s.vars[v]? with
  | some x=>if x.kind≠kind\/(0<=lat/\x.lat≠lat) then [⟨4,p⟩] else []
  | none=>[]
def gS(s:aN)(w:aB):List aQ:=if (i_ s.bz w.aq).isNone then(if (lb s.vars w.aq).isNone then [⟨3,w.pos⟩] else [⟨4,w.pos⟩]) else []
def awk(o:Option Int):aQ:=match o with | some p=>⟨4,p⟩ | none=>.zero
def wY(s:aN)(lat:Int)(n:Nd):Option Int:=(iZ (wy s lat.toNat) (n.aj.getD 0 kM)).2
def Aq(s:aN)(lat:Int)(n:Nd):List aQ:=if 0<n.aj.length/\0<=lat then(match wY s lat n with | some p=>[⟨4,p⟩] | none=>[]) else []
def kY(s:aN)(lat:Int)(n:Nd):List aQ:=if n.kind=1 then iH s lat n.aq n.pos 1 else if n.kind=7 then Aq s lat n else []
mutual
def f_(s:aN)(lat:Int):Nd->List aQ
 | .mk k p t ws ks=>kY s lat (.mk k p t ws ks)++if k=1\/k=7 then [] else zf s lat ks
def zf(s:aN)(lat:Int):List Nd->List aQ
 | []=>[]
 | n::ns=>f_ s lat n++zf s lat ns
end
def Nf{s:aN}{lat:Int}:∀{l:List Nd},zf s lat l=l.flatMap (f_ s lat)
 | []=>by simp[zf]
 | n::ns=>by simp[zf,Nf]
variable{lat:Int}
def Ik{s:aN}(n:Nd):f_ s lat n=kY s lat n++if n.kind=1\/n.kind=7 then [] else n.aj.flatMap (f_ s lat):=by
 cases n;rw[f_,Nf];rfl
def vG(ks:List Nd)(i:Nat):List aQ:=if (iL ((ks.take i).map Nd.aq) (ks.getD i kM).aq).isSome then [⟨4,(ks.getD i kM).pos⟩] else []
def Aw(s:aN)(lat:Int)(ks:List Nd)(i:Nat):List aQ:=vG ks i++(ks.getD i kM).aj.flatMap (kY s lat)
def pI(s:aN)(lat:Int)(ks:List Nd)(m:Nat):List aQ:=(bX m).flatMap (Aw s lat ks)
def xV(s:aN)(lat:Int)(ws:List aB):List aQ:=ws.flatMap λw=>iH s lat w.aq w.pos 2
def ph(s:aN)(lat p:Int)(n:Nd):List aQ :=
 if n.kind=1 then iH s lat n.aq n.pos 2 else if n.kind=10 then pI s lat n.aj n.aj.length++xV s lat n.an++(if 16<n.aj.length then [⟨7,p⟩] else []) else []
def c8(s:aN)(c:az):Int:=dJ (i_ s.bz c.name.aq)
def yy(n:Nd):List aQ:=if n.kind=8\/n.kind=9 then [⟨6,n.pos⟩] else []
def qq(s:aN)(c:az):List aQ :=
 if c.op=10 then iH s (-1) c.name.aq c.name.pos 2
 else if c.op=15 then iH s (-1) c.name.aq c.name.pos 1
 else if c.op=8 then gS s c.name++f_ s (c8 s c) c.left++f_ s (c8 s c) c.right++yy c.right
 else if c.op=9 then gS s c.name++ph s (c8 s c) c.pos c.left++ph s (c8 s c) c.pos c.right
 else []
def jF(s:aN)(c:az):aQ:=fI (qq s c)
def pw(Z:Nat)(l:List aQ)(s:aN)(lat p:Int):List V:=[.sl (.tk Z) 2 (l.map aQ.enc),.sl .no 3 (s.bz.map ei.enc),.sl .no 3 (s.vars.map dC.enc),.int .i64 lat,.int .i64 p]
def de(D:af)(b Z:Nat)(l:List aQ)(s:aN)(lat p:Int):af:=(D.set b (pw Z l s lat p)).aY Z l.length
section
variable {D:af} {b b' Z n:Nat} {l:List aQ} {s:aN} {lat Nh p x y:Int} {c:List V}
def JA:(de D b Z l s lat p).box b=aa (pw Z l s lat p):=by simp[de,af.set,af.aY]
def BJ(h:b' ≠ b):(de D b Z l s lat p).box b' = D.box b' := by simp[de,af.set,af.aY,h]
def PG:(de D b Z l s lat p).aP Z=aa l.length:=by simp[de,af.set,af.aY]
def Zf(h:b' ≠ b):(de D b Z l s lat p).set b' c=de (D.set b' c) b Z l s lat p:=by
 simp only[de,af.set,af.aY,af.mk.injEq,il];funext z
 by_cases h1:z=b'
 .subst h1;simp[h]
 .simp[h1]
def avS:(de D b Z l s lat p).set b [.sl (.tk Z) 2 (l.map aQ.enc),.sl .no 3 (s.bz.map ei.enc),.sl .no 3 (s.vars.map dC.enc),.int .i64 x,.int .i64 p]=de D b Z l s x p:=by
 simp only[de,pw,af.set,af.aY,af.mk.injEq,il];funext z
 by_cases h1:z=b<;>simp[h1]
def avR:((de D b Z l s lat p).aY Z (l.length+1)).set b [.sl (.tk Z) 2 (l.map aQ.enc++[[.int .i64 x,.int .i64 y]]),.sl .no 3 (s.bz.map ei.enc),.sl .no 3 (s.vars.map dC.enc),.int .i64 lat,.int .i64 p]=de D b Z (l++[⟨x,y⟩]) s lat p:=by
 simp only[de,pw,af.set,af.aY,af.mk.injEq,gy,ch,fh,aQ.enc,bP,gM,il];constructor
 .funext z
  by_cases h1:z=b<;>simp[h1]
 .funext z
  by_cases h1:z=Z<;>simp[h1]
def avT(h:D.box b=ag)(ht:D.aP Z=ag):D.sub (de D b Z l s lat p):=by
 refine⟨λx cs hx=>?_,λt m hm=>?_,λ_ _ h=>h⟩
 .have:x≠b:=by rintro rfl;rw[h] at hx;simp at hx
  rw[BJ this];exact hx
 .have:t≠Z:=by rintro rfl;rw[ht] at hm;simp at hm
  simp[de,af.set,af.aY,this];exact hm
def Ze(h:b' ≠ b)(hn:D.box b' = ag):(de D b Z l s lat p).sub (de (D.set b' c) b Z l s lat p):=by
 refine⟨λx cs hx=>?_,λt m hm=>?_,λ_ _ h=>h⟩
 .by_cases h1:x=b
  .subst h1;rw[JA] at hx ⊢;exact hx
  .rw[BJ h1] at hx ⊢
   have:x≠b' := by rintro rfl;rw[hn] at hx;simp at hx
   simp only[af.set,this,bZ];exact hx
 .simpa [de,af.set,af.aY] using hm
theorem w_f:bI ak 1 (pw Z l s lat p)=aa (.sl (.tk Z) 2 (l.map aQ.enc)):=rfl
theorem w_s:takeN 2 ((pw Z l s lat p).drop 1)=aa s.enc:=rfl
theorem w_l:bI ak 1 ((pw Z l s lat p).drop 1)=aa (.sl .no 3 (s.bz.map ei.enc)):=rfl
theorem w_v:bI ak 1 ((pw Z l s lat p).drop 2)=aa (.sl .no 3 (s.vars.map dC.enc)):=rfl
theorem w_t:bI ak 1 ((pw Z l s lat p).drop 3)=aa (.int .i64 lat):=rfl
theorem w_p:bI ak 1 ((pw Z l s lat p).drop 4)=aa (.int .i64 p):=rfl
theorem w_h:cg 1 (pw Z l s lat p)=true:=rfl
theorem au0:cg 1 ((pw Z l s lat p).drop 3)=true:=rfl
theorem w_o{v:V}:over (pw Z l s lat p) [v]=[v,.sl .no 3 (s.bz.map ei.enc),.sl .no 3 (s.vars.map dC.enc),.int .i64 lat,.int .i64 p]:=rfl
theorem au3{v:V}:setAt (pw Z l s lat p) 3 [v]=[.sl (.tk Z) 2 (l.map aQ.enc),.sl .no 3 (s.bz.map ei.enc),.sl .no 3 (s.vars.map dC.enc),v,.int .i64 p]:=rfl
variable{w:aB}
theorem x_:bI ak 1 w.enc=aa (.aF w.aq):=rfl
theorem tQ:bI ak 1 (w.enc.drop 1)=aa (.int .i64 w.pos):=rfl
theorem w_b{u v x y:V}:over [u,v,x,y] s.enc=[.sl .no 3 (s.bz.map ei.enc),.sl .no 3 (s.vars.map dC.enc),x,y]:=rfl
def kc:=ah @w_b <| ah @x_ <| ah @tQ <| ah @JA <| ah @PG <| ah @w_f <| ah @w_s <| ah @w_l <| ah @w_v <| ah @w_t <| ah @w_p <| ah @w_h <| ah @au0 <| ah @w_o @au3
end
def Zg{b O n:Nat}{l:List aQ}{s:aN}(h:O≠Z):(de D b Z l s lat p).aY O n=de (D.aY O n) b Z l s lat p:=by
 simp only[de,af.set,af.aY,af.mk.injEq,pq,il];funext z
 by_cases h1:z=O
 .subst h1;simp[h]
 .simp[h1]
def Zd{σ':af}{b:Nat}{l:List aQ}{s:aN}(h:D.sub σ'):(de D b Z l s lat p).sub (de σ' b Z l s lat p):=by
 refine⟨λx cs hx=>?_,λt m hm=>?_,h.2.2⟩
 .by_cases h1:x=b
  .subst h1;rw[JA] at hx ⊢;exact hx
  .rw[BJ h1] at hx ⊢;exact h.1 x cs hx
 .simp only[de,af.set,af.aY] at hm ⊢;split
  .rename_i e;rw[aE e] at hm;exact hm
  .rename_i e;rw[aA e] at hm;exact h.2.1 t m hm
structure Ah(D σ' : af)(Z:Nat)(tk:Tk)(n:Nat):Prop where
 box:σ'.box=D.box
 sub:D.sub σ'
 tk:tk = .ba\/∃O,tk = .tk O/\O≠Z/\σ'.aP O=aa n/\D.aP O=ag
def Ah.nil:Ah D D Z .ba 0:=⟨rfl,af.bg D,.inl rfl⟩
def Ah.app{σ':af}{b k:Nat}{tk u:Tk}{l:List aQ}{s:aN}{e:List (List V)}(h:Ah D σ' Z tk m.length)(hb:m.length+e.length<=aK)
 (hk:∀ku sJ,Ah D sJ Z ku (m++e).length->K (.sl ku k (m++e)) (de sJ b Z l s lat p)):qV (de σ' b Z l s lat p) k (.sl tk k m) (.sl u k e) K:=by
 have hl:(m++e).length=m.length+e.length:=bP;have up:∀O n,σ'.aP O=ag\/D.aP O=ag->D.sub (σ'.aY O n):=λO n hn=>⟨λx cs hx=>h.sub.1 x cs hx,λt q hq=>by
  have aW:t≠O:=by
   rintro rfl
   rcases hn with hn | hn
   .rw[h.sub.2.1 _ _ hq] at hn;simp at hn
   .rw[hq] at hn;simp at hn
  simp only[af.aY,aA aW];exact h.sub.2.1 t q hq,h.sub.2.2⟩
 rcases h.tk with rfl | ⟨O,rfl,aW,ht,h0⟩
 .refine GJ hb λO lq=>?_
  have aW:O≠Z:=by rintro rfl;rw[PG] at lq;simp at lq
  have MK : σ'.aP O=none:=by simpa [de,af.set,af.aY,aW] using lq
  rw[Zg aW];refine hk _ _ ⟨h.box,up O _ (.inl MK),.inr ⟨O,rfl,aW,by rw[hl];simp[af.aY],?_⟩⟩;cases hq:D.aP O with
  | none=>rfl
  | some n=>rw[h.sub.2.1 _ _ hq] at MK;simp at MK
 .refine iy hb (by simpa [de,af.set,af.aY,aW] using ht) ?_;rw[Zg aW];exact hk _ _ ⟨h.box,up O _ (.inr h0),.inr ⟨O,rfl,aW,by rw[hl];simp[af.aY],h0⟩⟩
section
variable {s:aN} {lat:Int}
def Dr{t:List UInt8}{p k:Int}:(iH s lat t p k).length<=1:=by
 unfold iH;split
 .split<;>simp
 .split
  .split<;>simp
  .simp
def amd{w:aB}:(gS s w).length<=1:=by unfold gS;split;(split<;>simp);simp
def GN{n:Nd}:(kY s lat n).length<=1:=by
 unfold kY;split
 .exact Dr
 .split
  .unfold Aq;split
   .cases wY s lat n<;>simp
   .simp
  .simp
mutual
def M':∀n:Nd,(f_ s lat n).length<=n.cI
 | .mk k p t ws ks => by
  have h1:=@GN s lat (.mk k p t ws ks);have h2:=Nc ks;rw[f_,bP,Nd.cI];split
  .simp;omega
  .omega
def Nc:∀l:List Nd,(zf s lat l).length<=gP l
 | []=>by simp[zf]
 | n :: ns => by
  have:=M' n;have:=Nc ns
  rw[zf,bP,gP];omega
end
def RD:∀{l:List Nd} {i:Nat} (hi:i<l.length),gP (l.take i)+l[i].cI<=gP l
 | [],i,hi=>by simp at hi
 | n::ns,0,_=>by simp[gP]
 | n :: ns, i + 1, hi => by
  have:=RD (l:=ns) (i:=i) (by simpa using hi)
  simp only[wM,gP,Gl];omega
variable{i:Nat}
def ama{l:List Nd}(hi:i<l.length):((l.take i).flatMap (f_ s lat)).length+l[i].cI<=gP l:=by
 have h1:=@Nc s lat (l.take i);rw[Nf] at h1
 have:=RD hi
 omega
def D'{U:Type}{f:U->List aQ}{m:Nat}:∀{l:List U},(∀x∈l,(f x).length<=m)->(l.flatMap f).length<=l.length*m
 | [],_=>by simp
 | x :: l, h => by
  have:=h x (by simp)
  have:=D' (m:=m) (l:=l) λy hy=>h y (by simp[hy])
  rw[qX,bP,dB,jD,yj];omega
def K_{U:Type}{f:U->List aQ}{l:List U}(hi:i<l.length):(l.take (i+1)).flatMap f=(l.take i).flatMap f++f l[i]:=by
 rw[jl hi,zS];simp
def O'{ws:List aB}:(xV s lat ws).length<=ws.length:=by
 have:=D' (f:=λw:aB=>iH s lat w.aq w.pos 2) (m:=1) (l:=ws) λ_ _=>Dr
 rw[tV] at this;exact this
def afM{ks:List Nd}{i:Nat}:(Aw s lat ks i).length<=1+(ks.getD i kM).aj.length:=by
 have:=D' (f:=kY s lat) (m:=1) (l:=(ks.getD i kM).aj) λ_ _=>GN
 have h2:(vG ks i).length<=1:=by unfold vG;split<;>simp
 rw[Aw,bP];omega
def SI{m:Nat}:pI s lat ks (m+1)=pI s lat ks m++Aw s lat ks m:=by
 simp only[pI,rP,zS,qX,Qa,eK]
def RB:∀{l:List Nd} {i:Nat} (hi:i<l.length),gP (l.take (i+1))=gP (l.take i)+l[i].cI
 | [],i,hi=>by simp at hi
 | n::ns,0,_=>by simp[gP]
 | n :: ns, i + 1, hi => by
  have:=RB (l:=ns) (i:=i) (by simpa using hi)
  simp only[wM,gP,Gl] at this ⊢;omega
def Lb{ks:List Nd}:∀{m:Nat},m<=ks.length->(pI s lat ks m).length<=gP (ks.take m)
 | 0,_=>by simp[pI]
 | m + 1, hm => by
  have h1:=Lb (ks:=ks) (m:=m) (by omega);have h2:=@afM s lat ks m;have h3:=Nd.ub ks[m];have h4:=KJ ks[m].aj;rw[r9 (by omega)] at h2;rw[SI,bP,RB (by omega)];omega
def Xa{p:Int}{n:Nd}:(ph s lat p n).length<=2*n.cI+2:=by
 have EE:=Nd.ub n;have xp:=D5 n;have h1:=Lb (s:=s) (lat:=lat) (bS n.aj.length);have h2:=RC n.aj n.aj.length;have h3:=@O' s lat n.an;have h4:=@Dr s lat n.aq n.pos 2;unfold ph;split
 .omega
 .split
  .simp only[bP]
   have:(if 16<n.aj.length then [(⟨7,p⟩:aQ)] else []).length<=1:=by split<;>simp
   omega
  .simp
end
def qG(kind:Int)(l:List al)(a fin:Int):br :=
 if a8 l a 97=ab then ⟨.mk kind (fC l a).pos (fC l a).aq [] [],a+1,ak,0⟩ else dr l a fin
def qc(l:List al)(a fin:Int):br :=
 if a8 l a 97=ak then dr l a fin
 else if a8 l (a+1) 58=ak then dr l (a+1) fin
 else if a8 l (a+2) 123=ak then dr l (a+2) fin
 else if (wholeAt nameAt (bJ l (a+2)) ab).2.aG=ab then(wholeAt nameAt (bJ l (a+2)) ab).2
 else ⟨.mk 6 (fC l a).pos (fC l a).aq (jT (wholeAt nameAt (bJ l (a+2)) ab).1) [],a+3,ak,0⟩
def iA(w:List Nd × br)(mk:List Nd->Nd)(next:Int):br:=if w.2.aG=ab then w.2 else ⟨mk w.1,next,ak,0⟩
def gY:Nat->List al->Int->Int->br
 | 0,l,a,fin=>qG 2 l a fin
 | n + 1, l, a, fin =>
  if a8 l a 97=ab then qG 2 l a fin
  else if a8 l a 123=ab then iA (wholeAt nameAt (bJ l a) ab) (λks=>.mk 3 (fC l a).pos [] (jT ks) []) (a+1)
  else if a8 l a 40=ab then iA (wholeAt (gY n) (bJ l a) ak) (λks=>.mk 4 (fC l a).pos [] [] ks) (a+1)
  else if a8 l a 91=ab then iA (wholeAt qc (bJ l a) ab) (λks=>.mk 5 (fC l a).pos [] [] ks) (a+1)
  else dr l a fin
def br.put(g:br)(f:Nd->Nd):br:=if g.aG=ab then g else {g with node:=f g.node}
def fz:Nat->List al->Int->Int->br
 | 0,l,a,fin=>qG 1 l a fin
 | n + 1, l, a, fin =>
  if a8 l a 97=ab then qG 1 l a fin
  else if a8 l a 35=ab then(gY (n+1) l (a+1) fin).put λm=>.mk 7 (fC l a).pos [] [] [m]
  else if a8 l a 43=ak/\a8 l a 38=ak then dr l a fin
  else if a8 l (a+1) 40=ak then dr l (a+1) fin
  else iA (wholeAt (fz n) (bJ l (a+1)) ak) (λks=>.mk (if a8 l a 38=ab then 9 else 8) (fC l a).pos [] [] ks) (a+2)
def np(n:Nat)(l:List al)(a fin:Int):br:=if a8 l a 43=ab\/a8 l a 38=ab then dr l a fin else fz n l a fin
def pG(n:Nat)(l:List al)(a fin:Int):br :=
 if a8 l a 97=ak then dr l a fin
 else if a8 l (a+1) 61=ak then dr l (a+1) fin
 else(np n l (a+2) fin).put λm=>.mk 11 (fC l a).pos (fC l a).aq [] [m]
def kq(l:List al)(a:Int)(ks:List Nd)(ws:List aB)(next:Int):br :=
 if next<(bJ l a).aj.length then dr (bJ l a).aj next (bJ l a).fin else ⟨.mk 10 (fC l a).pos [] ws ks,a+1,ak,0⟩
def jy(l:List al)(a:Int)(ks:List Nd)(next:Int):br :=
 if a8 (bJ l a).aj next 124=ab then
  if (nameAt (bJ l a).aj (next+1) (bJ l a).fin).aG=ab then nameAt (bJ l a).aj (next+1) (bJ l a).fin
  else kq l a ks (jT [(nameAt (bJ l a).aj (next+1) (bJ l a).fin).node]) (nameAt (bJ l a).aj (next+1) (bJ l a).fin).next
 else kq l a ks [] next
def qb(n:Nat)(l:List al)(a:Int):List Nd × br:=dq (λi=>pG n (bJ l a).aj i (bJ l a).fin) (bJ l a).aj ((bJ l a).aj.length+1) 0 []
def hZ(n:Nat)(l:List al)(a fin:Int):br :=
 if a8 l a 97=ab then fz n l a fin
 else if a8 l a 91=ak then dr l a fin
 else if 0<(bJ l a).aj.length/\a8 (bJ l a).aj 0 124=ak then
  if (qb n l a).2.aG=ab then(qb n l a).2 else jy l a (qb n l a).1 (qb n l a).2.next
 else jy l a [] 0
def sL(g:List al->Int->Int->br):Prop:=∀l a fin,(g l a fin).aG=ak->0<=a/\a+1<=(g l a fin).next/\(g l a fin).next<=(l.length:Int)
def o7{i:Int}(h:a8 l i k=ab):0<=i/\i<(l.length:Int):=by
 obtain⟨j,t,rfl,_,_,hl⟩:=iB h;omega
def GF(k:Int):sL (qG k):=λl a fin h=>by
 unfold qG at h ⊢;split
 .rename_i hk;have:=o7 hk;exact⟨this.1,by simp,by simp only;omega⟩
 .rename_i hk;rw[aA hk] at h;simp[dr] at h
def QF:sL qc:=λl a fin h=>by
 unfold qc at h ⊢;split
 .rename_i hk;rw[aE hk] at h;simp[dr] at h
 rename_i h1;rw[aA h1] at h;split
 .rename_i hk;rw[aE hk] at h;simp[dr] at h
 rename_i h2;rw[aA h2] at h;split
 .rename_i hk;rw[aE hk] at h;simp[dr] at h
 rename_i h3;rw[aA h3] at h;split
 .rename_i hk;rw[aE hk,hk] at h;simp at h
 .have:=o7 (by simpa using h3:a8 l (a+2) 123=ab)
  have:=o7 (by simpa using h1:a8 l a 97=ab)
  exact⟨this.1,by simp only;omega,by simp only;omega⟩
def H'{w:List Nd × br}{mk:List Nd->Nd}{next:Int}(h:(iA w mk next).aG=ak):(iA w mk next).next=next:=by
 unfold iA at h ⊢;split
 .rename_i hk;rw[aE hk,hk] at h;simp at h
 .rfl
def Kg:∀n,sL (gY n)
 | 0=>GF 2
 | n + 1 => λl a fin h => by
  simp only[gY] at h ⊢;split
  .rename_i hk;rw[aE hk] at h;exact GF 2 l a fin h
  rename_i h1;rw[aA h1] at h;split
  .rename_i hk;rw[aE hk] at h;have:=o7 hk;rw[H' h];omega
  rename_i h2;rw[aA h2] at h;split
  .rename_i hk;rw[aE hk] at h;have:=o7 hk;rw[H' h];omega
  rename_i h3;rw[aA h3] at h;split
  .rename_i hk;rw[aE hk] at h;have:=o7 hk;rw[H' h];omega
  .rename_i hk;rw[aA hk] at h;simp[dr] at h
def WS{g:br}{f:Nd->Nd}(h:(g.put f).aG=ak):g.aG=ak/\(g.put f).next=g.next:=by
 unfold br.put at h ⊢;split
 .rename_i hk;rw[aE hk,hk] at h;simp at h
 .rename_i hk;exact⟨by simpa using hk,rfl⟩
def DW:∀n,sL (fz n)
 | 0=>GF 1
 | n + 1 => λl a fin h => by
  simp only[fz] at h ⊢;split
  .rename_i hk;rw[aE hk] at h;exact GF 1 l a fin h
  rename_i h1;rw[aA h1] at h;split
  .rename_i hk;rw[aE hk] at h
   have:=o7 hk
   obtain⟨g1,g2⟩:=WS h
   have:=Kg (n+1) l (a+1) fin g1
   rw[g2];omega
  rename_i h2;rw[aA h2] at h;split
  .rename_i hk;rw[aE hk] at h;simp[dr] at h
  rename_i h3;rw[aA h3] at h;split
  .rename_i hk;rw[aE hk] at h;simp[dr] at h
  rename_i h4;rw[aA h4] at h
  have:=o7 (by simpa using h4:a8 l (a+1) 40=ab)
  have h5:0<=a:=by
   cases nz:a8 l a 43
   .cases mO:a8 l a 38
    .exact absurd ⟨nz,mO⟩ h3
    .exact(o7 mO).1
   .exact(o7 nz).1
  rw[H' h];omega
def ZX(n:Nat):sL (np n):=λl a fin h=>by
 unfold np at h ⊢;split
 .rename_i hk;rw[aE hk] at h;simp[dr] at h
 .rename_i hk;rw[aA hk] at h;exact DW n l a fin h
def QE(n:Nat):sL (pG n):=λl a fin h=>by
 unfold pG at h ⊢;split
 .rename_i hk;rw[aE hk] at h;simp[dr] at h
 rename_i h1;rw[aA h1] at h;split
 .rename_i hk;rw[aE hk] at h;simp[dr] at h
 rename_i h2;rw[aA h2] at h;obtain⟨g1,g2⟩:=WS h
 have:=ZX n l (a+2) fin g1
 have:=o7 (by simpa using h1:a8 l a 97=ab)
 rw[g2];omega
def px(l:List al)(a:Int):aB:=⟨(fC l a).aq,(fC l a).pos⟩
def awj(b:Option Int):Int:=match b with | some a=>a | none=>-1
def rG(l:List al)(fin:Int):Nat->Nat->List (aB × aB)->List (aB × aB) × Int
 | 0,_,acc=>(acc,-1)
 | n + 1, a, acc =>
  if a8 l (a:Nat) 97=ak then([],jP l (a:Nat) fin)
  else if a8 l ((a+1:Nat):Int) 60=ak then([],jP l ((a+1:Nat):Int) fin)
  else if a8 l ((a+2:Nat):Int) 97=ak then([],jP l ((a+2:Nat):Int) fin)
  else if a+3=l.length then(acc++[(px l (a:Nat),px l ((a+2:Nat):Int))],-1)
  else if a8 l ((a+3:Nat):Int) 44=ak then([],jP l ((a+3:Nat):Int) fin)
  else rG l fin n (a+4) (acc++[(px l (a:Nat),px l ((a+2:Nat):Int))])
def tL(t:al):List (aB × aB) × Int:=if t.aj.length=0 then([],-1) else rG t.aj t.fin (t.aj.length+1) 0 []
def jK(k:UInt8)(c:az)(l:List al)(a fin:Int):az × Int × Int :=
 if k=110\/k=102 then(if a8 l a 97=ab then(if k=102 then {c with an:=[px l a]} else {c with name:=px l a},a+1,-1) else(c,a,jP l a fin))
 else if k=119 then(if (lU l a fin).2.aG=ab then(c,a,(lU l a fin).2.pos) else({c with an:=(lU l a fin).1},a+1,-1))
 else if k=112 then(if a8 l a 123=ab then({c with bA:=(tL (bJ l a)).1,nP:=(bJ l a).tok.pos},a+1,(tL (bJ l a)).2) else(c,a,jP l a fin))
 else
  let g:=if k=114 then hZ (bd l) l a fin else fz (bd l) l a fin
  if g.aG=ab then(c,a,g.pos) else(if c.left.kind=0 then {c with left:=g.node} else {c with right:=g.node},g.next,-1)
def mV(l:List al)(fin:Int):List UInt8->az->Int->az × Int × Int
 | [],c,a=>(c,a,-1)
 | k::ks,c,a=>if 0<=(jK k c l a fin).2.2 then jK k c l a fin else mV l fin ks (jK k c l a fin).1 (jK k c l a fin).2.1
def kN(w:List UInt8):Nat->Nat->Int->Int
 | 0,_,r=>r
 | n+1,op,r=>kN w n (op+1) (if w=(bY op).1 then op else r)
def t_(l:List al)(fin:Int):az × Int × Int :=
 match l with
 | []=>(.zero,0,0)
 | t :: _ =>
  let op:=if t.tok.kind=97 then kN t.tok.aq 15 1 0 else 0
  if op=0 then(.zero,2,t.tok.pos)
  else
   let x:=mV l fin (bY op).2 {az.zero with op:=op,pos:=t.tok.pos} 1
   if 0<=x.2.2 then(.zero,2,x.2.2)
   else if x.2.1<l.length then(.zero,2,jP l x.2.1 fin)
   else(x.1,0,0)
def Bm(s:List UInt8):az × Int × Int :=
 match (dv s).2 with
 | some a=>(.zero,1,a)
 | none => match (gf (dv s).1).2 with
  | some a=>(.zero,2,a)
  | none=>t_ (gf (dv s).1).1 s.length
def xM:List (Tok × List al)->List Tok
 | []=>[]
 | (t,r)::op=>bu r++[t]++xM op
def N0:∀(op:List (Tok × List al)) (t:Tok) (r:List al),xM (op++[(t,r)])=xM op++bu r++[t]
 | [],t,r=>by simp[xM]
 | (u,q)::op,t,r=>by simp[xM,N0 op t r]
def Rv{c:Int}(h:closing c≠0):j5 c=false:=by
 unfold closing at h;split at h
 .rename_i e;subst e;decide
 .split at h
  .rename_i e;rcases e with e | e<;>subst e<;>decide
  .exact absurd rfl h
def zG{U:Type}(l:List U):l=[]\/∃ys x,l=ys++[x]:=by
 rcases P9 l with h | ⟨ys,x,h⟩
 .exact .inl h
 .exact .inr ⟨ys,x,by rw[h];simp⟩
def FY:∀(ts:List Tok) (op:List (Tok × List al)) (row:List al),(∀t∈ts,vr t)->(∀p∈op,closing p.1.kind≠0/\fG p.2)->fG row->(gx ts op row).2=ag ->
 fG (gx ts op row).1/\bu (gx ts op row).1=xM op++bu row++ts
 | [], op, row, _, ho, hr, hn => by
  rcases zG op with rfl | ⟨ys,⟨u,a⟩,rfl⟩
  .simpa [gx,xM] using hr
  .simp[gx] at hn
 | t :: ts, op, row, ht, ho, hr, hn => by
  simp only[gx] at hn ⊢;have qz:∀t∈ts,vr t:=λx hx=>ht x (by simp[hx])
  by_cases hc:closing t.kind=0
  .rw[aA (by simp[hc])] at hn ⊢;cases gu:j5 t.kind
   .rw[gu] at hn;simp only[da,bZ] at hn ⊢;obtain⟨h1,h2⟩:=FY ts op (row++[.mk t [] t.pos]) qz ho (kz.2 ⟨hr,by simp[fG,al.WF,hc,gu]⟩) hn;exact⟨h1,by rw[h2,iM];simp[bu,al.flat,hc]⟩
   .rw[gu] at hn;simp only[cm] at hn ⊢
    rcases zG op with rfl | ⟨ys,⟨u,a⟩,rfl⟩
    .simp at hn
    .simp only[Gm,JS] at hn ⊢
     by_cases hk:closing u.kind=t.kind
     .rw[aE hk] at hn ⊢;obtain⟨hu,ha⟩:=ho (u,a) (by simp);have hte:t=⟨closing u.kind,[UInt8.ofNat (closing u.kind).toNat],t.pos⟩:=by
       rcases ht t (by simp) with ⟨cZ,_⟩ | ⟨_,h2⟩
       .rw[cZ] at gu;exact absurd gu (by decide)
       .rw[hk,<-h2]
      obtain⟨h1,h2⟩:=FY ts ys (a++[.mk u row t.pos]) qz (λp hp=>ho p (by simp[hp])) (kz.2 ⟨ha,by simp[fG,al.WF,hu,hr,Rv hu]⟩) hn;refine⟨h1,?_⟩;rw[h2,iM,N0];simp only[bu,al.flat,hu,rE,C9,cm,eK];rw[<-hte];simp
     .rw[aA hk] at hn;simp at hn
  .rw[aE hc] at hn ⊢
   by_cases rh:24<=op.length
   .rw[aE rh] at hn;simp at hn
   .rw[aA rh] at hn ⊢;obtain⟨h1,h2⟩:=FY ts (op++[(t,row)]) [] qz (λp hp=>by rcases jC.1 hp with h | h;exact ho p h;simp at h;subst h;exact⟨hc,hr⟩) (by simp[fG]) hn;exact⟨h1,by rw[h2,N0];simp[bu]⟩
def Jl:∀(ts:List Tok) (op:List (Tok × List al)) (row:List al),(gx ts op row).2≠ag->(gx ts op row).1=[]
 | [], op, row, h => by
  rcases zG op with rfl | ⟨ys,⟨u,a⟩,rfl⟩
  .simp[gx] at h
  .simp[gx]
 | t :: ts, op, row, h => by
  simp only[gx] at h ⊢;split
  .rename_i hc;rw[aE hc] at h;split
   .rfl
   .rename_i rh;rw[aA rh] at h;exact Jl _ _ _ h
  .rename_i hc;rw[aA hc] at h;split
   .rename_i gu;rw[aE gu] at h
    rcases zG op with rfl | ⟨ys,⟨u,a⟩,rfl⟩
    .rfl
    .simp only[Gm,JS] at h ⊢;split
     .rename_i hk;rw[aE hk] at h;exact Jl _ _ _ h
     .rfl
   .rename_i gu;rw[aA gu] at h;exact Jl _ _ _ h
def Au(l:List Tok)(f:Int):Option Int:=if 0<=f then aa (p_ l f.toNat) else ag
def Jm(l:List Tok):∀(n i:Nat) (op:List (Tok × List al)) (row:List al) (o:List Nat),i+n=l.length->op.map (·.1)=o.map (iG l)->(gx (l.drop i) op row).2=Au l (jG l n i o)
 | 0, i, op, row, o, hi, ho => by
  rw[JT (by omega)]
  rcases zG op with rfl | ⟨ys,⟨u,a⟩,rfl⟩
  .have:o=[]:=by simpa using ho.symm
   subst this;simp[gx,jG,Au]
  .rcases zG o with rfl | ⟨zs,j,rfl⟩
   .simp at ho
   .simp only[gy,ch,fh] at ho;have hj:u=iG l j:=by have:=Zv ho rfl;simpa using this
    simp[gx,jG,Au,hj,iG,p_];cases l[j]?<;>rfl
 | n + 1, i, op, row, o, hi, ho => by
  have aC:i<l.length:=by omega
  have hti:iG l i=l[i]:=by simp[iG,aC]
  have uu:dn l i=l[i].kind:=by simp[dn,aC]
  have CM:p_ l i=l[i].pos:=by simp[p_,aC]
  have eg:op.length=o.length:=by have:=iK List.length ho;simpa using this
  rw[mJ aC];simp only[gx,jG,uu];have My:Au l (i:Nat)=aa l[i].pos:=by simp[Au,CM]
  by_cases hc:closing l[i].kind=0
  .simp only[rE,hc,Bf,Cg,bZ];cases gu:j5 l[i].kind
   .simp only[da,bZ];exact Jm l n (i+1) op _ o (by omega) ho
   .simp only[cm]
    rcases zG op with rfl | ⟨ys,⟨u,a⟩,rfl⟩
    .have:o=[]:=by simpa using ho.symm
     subst this;simp[My]
    .rcases zG o with rfl | ⟨zs,j,rfl⟩
     .simp at ho
     .simp only[gy,ch,fh] at ho;have hj:u=iG l j:=by have:=Zv ho rfl;simpa using this
      have qC:ys.map (·.1)=zs.map (iG l):=List.append_inj_left' ho rfl;have Me:dn l j=u.kind:=by rw[hj];simp only[dn,iG];cases l[j]?<;>rfl
      simp only[Gm,JS,Me]
      by_cases hk:closing u.kind=l[i].kind
      .rw[aE hk,aE hk];exact Jm l n (i+1) ys _ zs (by omega) qC
      .rw[aA hk,aA hk,My]
  .rw[aE hc]
   by_cases rh:24<=op.length
   .rw[aE rh,aE ⟨hc,by omega⟩,My]
   .rw[aA rh,aA (λh=>rh (by omega))];simp only[rE,hc,C9,cm,Rv hc,da,bZ];exact Jm l n (i+1) _ _ _ (by omega) (by simp[ho,hti])
def auh{l:List Tok}(h:∀t∈l,vr t):gx l [] []=gf l:=by
 have hf:=Jm l l.length 0 [] [] [] (by omega) rfl;rw[JV] at hf;have hr:(gf l).2=Au l (jG l l.length 0 []):=by
  unfold gf Au;split<;>rfl
 have h2:(gx l [] []).2=(gf l).2:=by rw[hf,hr]
 cases hq:(gx l [] []).2 with
 | some a =>
  have h1:=Jl l [] [] (by rw[hq];simp);have h3:(gf l).1=[]:=by
   rw[hq] at h2;unfold gf at h2 ⊢;split
   .rfl
   .rename_i hn;rw[aA hn] at h2;simp at h2
  exact Prod.ext (h1.trans h3.symm) h2
 | none =>
  obtain⟨h3,h4⟩:=FY l [] [] h (by simp) (by simp[fG]) hq;simp only[xM,bu,gN] at h4;have h5:=YK h3 (by rw[h4,<-h2,hq]);rw[h4] at h5;exact Prod.ext h5.symm h2
def Bz(s:List UInt8):gx (dv s).1 [] []=gf (dv s).1:=auh (C3 _ _ _ _ (by simp))
def ZY(n:Nat):sL (hZ n):=λl a fin h=>by
 have h3:∀ks ws next,(kq l a ks ws next).aG=ak->(kq l a ks ws next).next=a+1:=λks ws next h=>by
  unfold kq at h ⊢;split
  .rename_i hk;rw[aE hk] at h;simp[dr] at h
  .rfl
 have h2:∀ks next,(jy l a ks next).aG=ak->(jy l a ks next).next=a+1:=λks next h=>by
  unfold jy at h ⊢;split
  .rename_i hk;rw[aE hk] at h;split
   .rename_i hb;rw[aE hb,hb] at h;simp at h
   .rename_i hb;rw[aA hb] at h;exact h3 _ _ _ h
  .rename_i hk;rw[aA hk] at h;exact h3 _ _ _ h
 unfold hZ at h ⊢;split
 .rename_i hk;rw[aE hk] at h;exact DW n l a fin h
 rename_i h1;rw[aA h1] at h;split
 .rename_i hk;rw[aE hk] at h;simp[dr] at h
 rename_i h4;rw[aA h4] at h;have hk:=o7 (by simpa using h4:a8 l a 91=ab);split
 .rename_i h5;rw[aE h5] at h;split
  .rename_i hb;rw[aE hb,hb] at h;simp at h
  .rename_i hb;rw[aA hb] at h;rw[h2 _ _ h];omega
 .rename_i h5;rw[aA h5] at h;rw[h2 _ _ h];omega
def Wl(k:UInt8)(c:az)(l:List al)(a:Nat)(fin:Int):∃a' : Nat,(jK k c l a fin).2.1=(a' : Nat)/\(a<=l.length->a' <= l.length):=by
 have MD:∀kind,a8 l (a:Nat) kind=ab->∃a' : Nat,((a:Int)+1)=(a' : Nat)/\(a<=l.length->a' <= l.length):=λkind hk=>by
  have:=o7 hk
  exact⟨a+1,rfl,λ_=>by omega⟩
 have eP:∃a' : Nat,(a:Int)=(a' : Nat)/\(a<=l.length->a' <= l.length):=⟨a,rfl,id⟩;unfold jK;split
 .split
  .rename_i hk;exact MD _ hk
  .exact eP
 split
 .split
  .exact eP
  .rename_i hb;have hk:a8 l (a:Nat) 123=true:=by
    by_cases hk:a8 l (a:Nat) 123=ab
    .exact hk
    .unfold lU at hb;rw[aA hk] at hb;simp[dr] at hb
   exact MD _ hk
 split
 .split
  .rename_i hk;exact MD _ hk
  .exact eP
 have hg:sL (if k=114 then hZ (bd l) else fz (bd l)):=by split;exact ZY _;exact DW _
 have EA:=hg l (a:Nat) fin;rw[show(if k=114 then hZ (bd l) else fz (bd l)) l (a:Nat) fin=(if k=114 then hZ (bd l) l (a:Nat) fin else fz (bd l) l (a:Nat) fin) by split<;>rfl] at EA;generalize (if k=114 then hZ (bd l) l (a:Nat) fin else fz (bd l) l (a:Nat) fin)=g at EA ⊢;cases hb:g.aG
 .obtain⟨_,h1,h2⟩:=EA hb;simp only[hb,da,bZ];exact⟨g.next.toNat,by omega,λ_=>by omega⟩
 .simp only[hb,cm];exact eP
def In(N p:Int):Prop:=0<=p/\p<=N
inductive vp(N:Int):al->Prop
 | mk (t:Tok) (ks:List al) (e:Int):In N t.pos->In N e->(∀k∈ks,vp N k)->vp N (.mk t ks e)
variable{N:Int}
def vp.fin{t:al}(h:vp N t):In N t.fin:=by cases h;assumption
def vp.pos{t:al}(h:vp N t):In N t.tok.pos:=by cases h;assumption
def vp.aj{t:al}(h:vp N t):∀k∈t.aj,vp N k:=by cases h;assumption
def lZ(N:Int)(l:List al):Prop:=∀k∈l,vp N k
section
variable {N:Int} (h0:0<=N)
include h0
theorem uz:In N 0:=⟨by omega,h0⟩
variable{a:Int}
theorem tP{fin:Int}(hl:lZ N l)(hf:In N fin):In N (jP l a fin):=by
 unfold jP;split
 .cases h:l[a.toNat]? with
  | none=>exact hf
  | some t=>exact(hl t (sQ h)).pos
 .exact hf
theorem qU{fin:Int}(hl:lZ N l)(hf:In N fin):In N (dr l a fin).pos:=tP h0 hl hf
theorem Jk(hl:lZ N l):lZ N (bJ l a).aj/\In N (bJ l a).fin:=by
 unfold bJ;cases h:l[a.toNat]? with
 | none=>exact⟨by simp[lZ,al.zero,al.aj],by exact uz h0⟩
 | some t=>exact⟨(hl t (sQ h)).aj,(hl t (sQ h)).fin⟩
def wR(N:Int)(g:List al->Int->Int->br):Prop:=∀l a fin,lZ N l->In N fin->In N (g l a fin).pos
theorem Iq(k:Int):wR N (qG k):=λl a fin hl hf=>by
 unfold qG;split;exact uz h0;exact qU h0 hl hf
theorem IH:wR N nameAt:=λl a fin hl hf=>by
 unfold nameAt;split;exact uz h0;exact qU h0 hl hf
theorem O6{one:Int->br}{l:List al}(h:∀a,In N (one a).pos):∀n a out,In N (dq one l n a out).2.pos
 | 0,_,_=>uz h0
 | n + 1, a, out => by
  simp only[dq];split
  .exact h a
  .split
   .exact O6 h n _ _
   .exact h a
variable{g:List al->Int->Int->br}
theorem Dy(hg:wR N g)(hl:lZ N l)(e:Bool):In N (wholeAt g (bJ l a) e).2.pos:=by
 obtain⟨hk,hf⟩:=Jk h0 (a:=a) hl;unfold wholeAt;split
 .exact uz h0
 .simp only;split
  .exact qU h0 hk hf
  .exact O6 h0 (λa=>hg _ a _ hk hf) _ _ _
theorem Ia{w:List Nd × br}{mk:List Nd->Nd}{next:Int}(h:In N w.2.pos):In N (iA w mk next).pos:=by
 unfold iA;split;exact h;exact uz h0
theorem WR{g:br}{f:Nd->Nd}(h:In N g.pos):In N (g.put f).pos:=by
 unfold br.put;split<;>exact h
theorem asn:wR N qc:=λl a fin hl hf=>by
 unfold qc;split
 .exact qU h0 hl hf
 split
 .exact qU h0 hl hf
 split
 .exact qU h0 hl hf
 split
 .exact Dy h0 (IH h0) hl _
 .exact uz h0
theorem RO:∀n,wR N (gY n)
 | 0=>Iq h0 2
 | n + 1 => λl a fin hl hf => by
  unfold gY;split
  .exact Iq h0 2 l a fin hl hf
  split
  .exact Ia h0 (Dy h0 (IH h0) hl _)
  split
  .exact Ia h0 (Dy h0 (RO n) hl _)
  split
  .exact Ia h0 (Dy h0 (asn h0) hl _)
  .exact qU h0 hl hf
theorem Fc:∀n,wR N (fz n)
 | 0=>Iq h0 1
 | n + 1 => λl a fin hl hf => by
  unfold fz;split
  .exact Iq h0 1 l a fin hl hf
  split
  .exact WR h0 (RO h0 _ _ _ _ hl hf)
  split
  .exact qU h0 hl hf
  split
  .exact qU h0 hl hf
  .exact Ia h0 (Dy h0 (Fc n) hl _)
theorem aaS(n:Nat):wR N (np n):=λl a fin hl hf=>by
 unfold np;split;exact qU h0 hl hf;exact Fc h0 n l a fin hl hf
theorem afz(n:Nat):wR N (pG n):=λl a fin hl hf=>by
 unfold pG;split
 .exact qU h0 hl hf
 split
 .exact qU h0 hl hf
 .exact WR h0 (aaS h0 n _ _ _ hl hf)
theorem Xd(n:Nat):wR N (hZ n):=λl a fin hl hf=>by
 obtain⟨hk,se⟩:=Jk h0 (a:=a) hl;have h3:∀ks ws next,In N (kq l a ks ws next).pos:=λks ws next=>by
  unfold kq;split;exact qU h0 hk se;exact uz h0
 have h2:∀ks next,In N (jy l a ks next).pos:=λks next=>by
  unfold jy;split
  .split
   .exact IH h0 _ _ _ hk se
   .exact h3 _ _ _
  .exact h3 _ _ _
 unfold hZ;split
 .exact Fc h0 n l a fin hl hf
 split
 .exact qU h0 hl hf
 split
 .split
  .exact O6 h0 (λi=>afz h0 n _ i _ hk se) _ _ _
  .exact h2 _ _
 .exact h2 _ _
theorem Y4{fin:Int}(hl:lZ N l)(hf:In N fin):In N (lU l a fin).2.pos:=by
 unfold lU;split;exact Dy h0 (IH h0) hl _;exact qU h0 hl hf
def P3(N p:Int):Prop:=p = -1\/In N p
theorem Wd{l:List al}{fin:Int}(hl:lZ N l)(hf:In N fin):∀n a acc,P3 N (rG l fin n a acc).2
 | 0,_,_=>.inl rfl
 | n + 1, a, acc => by
  simp only[rG];split
  .refine Or.inr ?_;simp only;exact tP h0 hl hf
  split
  .refine Or.inr ?_;simp only;exact tP h0 hl hf
  split
  .refine Or.inr ?_;simp only;exact tP h0 hl hf
  split
  .exact .inl rfl
  split
  .refine Or.inr ?_;simp only;exact tP h0 hl hf
  .exact Wd hl hf n _ _
theorem ap'(hl:lZ N l):P3 N (tL (bJ l a)).2:=by
 obtain⟨hk,hf⟩:=Jk h0 (a:=a) hl;unfold tL;split
 .exact .inl rfl
 .exact Wd h0 hk hf _ _ _
theorem auk{l:List Tok}(hl:∀t∈l,In N t.pos):∀n i to,lZ N (jR l n i to):=by
 have hp:∀i,In N (p_ l i):=λi=>by
  unfold p_;cases h:l[i]? with
  | none=>exact uz h0
  | some t=>exact hl t (sQ h)
 have ht:∀i,In N (iG l i).pos:=λi=>by
  unfold iG;cases h:l[i]? with
  | none=>exact uz h0
  | some t=>exact hl t (sQ h)
 intro n;induction n with
 | zero=>intro i to;simp[jR,lZ]
 | succ n ih =>
  intro i to;simp only[jR];split
  .split
   .intro k hk
    rcases lF.1 hk with rfl | hk
    .exact .mk _ _ _ (ht i) (hp _) (ih _ _)
    .exact ih _ _ k hk
   .intro k hk
    rcases lF.1 hk with rfl | hk
    .exact .mk _ _ _ (ht i) (hp _) (by simp)
    .exact ih _ _ k hk
  .simp[lZ]
end
def Is{N:Int}:∀n (p:Nat) (s:List UInt8) (acc:List Tok),(p:Int)+s.length<=N->(∀t∈acc,In N t.pos)->(∀t∈(eY n p s acc).1,In N t.pos)/\∀a,(eY n p s acc).2=aa a->In N a
 | 0,_,_,acc,_,h=>⟨by simpa [eY] using h,by simp[eY]⟩
 | n+1,_,[],acc,_,h=>⟨by simpa [eY] using h,by simp[eY]⟩
 | n + 1, p, c :: r, acc, hp, h => by
  simp only[dB] at hp;simp only[eY];split
  .exact⟨h,by simp⟩
  split
  .rename_i hr;have hle:(dQ (c::r)).length<=(c::r).length:=(ZE _).length_le;refine Is n _ _ _ ?_ ?_
   .rw[J5];simp only[dB] at hle ⊢;omega
   .intro t ht
    rcases jC.1 ht with ht | ht
    .exact h t ht
    .rw[qj] at ht;subst ht;constructor<;>simp only<;>omega
  split
  .refine Is n _ _ _ (by omega) ?_;intro t ht
   rcases jC.1 ht with ht | ht
   .exact h t ht
   .rw[qj] at ht;subst ht;constructor<;>simp only<;>omega
  split
  .exact Is n _ _ _ (by omega) h
  .refine⟨by simp,λa ha=>?_⟩;simp only[a9] at ha;subst ha;constructor<;>omega
def Vd(s:List UInt8):(∀t∈(dv s).1,In s.length t.pos)/\∀a,(dv s).2=aa a->In s.length a:=Is _ _ _ _ (by simp) (by simp)
def Vm(s:List UInt8):lZ s.length (gf (dv s).1).1/\∀a,(gf (dv s).1).2=aa a->In s.length a:=by
 have h0:(0:Int)<=s.length:=by omega
 have h:=(Vd s).1;unfold gf;split
 .refine⟨by simp[lZ],λa ha=>?_⟩;simp only[a9] at ha;subst ha;unfold p_;cases hq:(dv s).1[(jG (dv s).1 (dv s).1.length 0 []).toNat]? with
  | none=>exact uz h0
  | some t=>exact h t (sQ hq)
 .exact⟨auk h0 h _ _ _,by simp⟩
def j9(sep:List UInt8):List (List UInt8)->List UInt8
 | []=>[]
 | x::xs=>x++xs.flatMap λy=>sep++y
def alO(sep:List UInt8)(l:List (List UInt8))(y:List UInt8):j9 sep (l++[y])=j9 sep l++(if 0<l.length then sep else [])++y:=by
 cases l with
 | nil=>simp[j9]
 | cons x xs=>simp[j9]
def Ic(l:List (List UInt8)):j9 [44] l=cO l:=by cases l<;>rfl
variable{i:Nat}{sep:List UInt8}
def alP{l:List (List UInt8)}(h:i<l.length):j9 sep (l.take (i+1))=j9 sep (l.take i)++(if 0<i then sep else [])++l[i]:=by
 rw[jl h,alO,jj,yi (J_ h)]
def alM{l:List (List UInt8)}:(j9 sep (l.take i)).length<=(j9 sep l).length:=by
 have key:∀a b:List (List UInt8),(j9 sep a).length<=(j9 sep (a++b)).length:=λa b=>by
  cases a with
  | nil=>simp[j9]
  | cons x xs=>simp[j9,zS]
 have:=key (l.take i) (l.drop i)
 rwa [rQ] at this
def kp(p:aB × aB):List UInt8:=p.1.aq++[60]++p.2.aq
def vC(l:List (List UInt8)):List UInt8:=[123]++cO l++[125]
def mW(k:UInt8)(c:az)(n:Nd):List UInt8 :=
 if k=110 then c.name.aq
 else if k=102 then cO (c.an.map aB.aq)
 else if k=119 then vC (c.an.map aB.aq)
 else if k=112 then vC (c.bA.map kp)
 else n.dy
def isTerm(k:UInt8):Bool:=k≠110&&k≠102&&k≠119&&k≠112
def zI(c:az)(x:List (List UInt8) × List Nd)(k:UInt8):List (List UInt8) × List Nd:=(x.1++[mW k c (x.2.headD .zero)],if isTerm k=ab then x.2.tail else x.2)
def lB(c:az)(ks:List UInt8):List (List UInt8) × List Nd:=ks.foldl (zI c) ([(bY c.op).1],[c.left,c.right])
def eJ(c:az):List UInt8:=j9 [32] (lB c (bY c.op).2).1
def Wv(c:az)(ks:List UInt8)(k:UInt8):lB c (ks++[k])=zI c (lB c ks) k:=by simp[lB,zT]
def kR(l:List (aB × aB)):Nat:=(l.map λp=>p.1.aq.length+p.2.aq.length+2).sum
def aqY{l:List (aB × aB)}(h:i<l.length):l[i].1.aq.length+l[i].2.aq.length+2<=kR l:=by
 induction l generalizing i with
 | nil=>simp at h
 | cons p ps ih =>
  cases i with
  | zero=>simp[kR]
  | succ i =>
   have:=ih (i:=i) (by simp at h;omega)
   simp only[kR,ch,n7,Gl] at this ⊢;omega
def WL(l:List (aB × aB)):(cO (l.map kp)).length<=kR l/\l.length<=kR l:=by
 induction l with
 | nil=>simp[cO,kR]
 | cons p ps ih =>
  have key:∀qs:List (aB × aB),((qs.map kp).flatMap λy=>44::y).length<=kR qs:=λqs=>by
   induction qs with
   | nil=>simp
   | cons q qs ih=>simp[kp,kR] at ih ⊢;omega
  have:=key ps
  have:=ih.2
  simp[cO,kp,kR] at *;omega
def az.wt(c:az):Nat:=c.name.aq.length+fu c.an+kR c.bA+c.left.wt+c.right.wt
def Oj(l:List aB):(cO (l.map aB.aq)).length<=fu l/\l.length<=fu l:=⟨Ga l,by
 induction l with
 | nil=>simp
 | cons w ws ih=>simp[fu] at ih ⊢;omega⟩
def aqH{k:UInt8}{n:Nd}(h:n.wt<=c.wt):(mW k c n).length<=c.wt+2:=by
 have h1:=(Oj c.an).1;have h2:=(WL c.bA).1;have h3:=YO n;have h4:c.wt=c.name.aq.length+fu c.an+kR c.bA+c.left.wt+c.right.wt:=rfl;unfold mW vC;split
 .omega
 split
 .omega
 split
 .simp;omega
 split
 .simp;omega
 .omega
def avm(op:Int):(bY op).1.length<=8:=by
 unfold bY;split
 .rename_i h1;have aC:op.toNat<16:=by omega
  generalize op.toNat=n at aC ⊢;have key:∀n<16,(iN.getD n ([],[])).1.length<=8:=by decide
  exact key n aC
 .simp
def JH:Nd.zero.wt=4:=by simp[Nd.zero,Nd.wt,fu,gg]
def avZ(n:Nd):4<=n.wt:=by cases n;simp only[Nd.wt];omega
def Oe(c:az)(ks:List UInt8):(∀x∈(lB c ks).1,x.length<=c.wt+8)/\(∀n∈(lB c ks).2,n.wt<=c.wt)/\(lB c ks).1.length=ks.length+1/\(lB c ks).2=[c.left,c.right].drop (ks.filter isTerm).length:=by
 have hc:c.wt=c.name.aq.length+fu c.an+kR c.bA+c.left.wt+c.right.wt:=rfl
 rcases P9 ks with rfl | ⟨ys,k,rfl⟩
 .have:=avm c.op
  refine⟨?_,?_,rfl,rfl⟩
  .intro x hx;simp[lB] at hx;subst hx;omega
  .intro n hn;simp[lB] at hn;rcases hn with rfl | rfl<;>omega
 .obtain⟨i1,i2,i3,i4⟩:=Oe c ys;rw[List.concat_eq_append,Wv];have hz:((lB c ys).2.headD .zero).wt<=c.wt:=by
   cases hq:(lB c ys).2 with
   | nil=>have:=avZ c.left;simp[JH];omega
   | cons n ns=>exact i2 n (by rw[hq];simp)
  refine⟨?_,?_,?_,?_⟩
  .intro x hx
   rcases jC.1 hx with hx | hx
   .exact i1 x hx
   .rw[qj] at hx;subst hx;have:=aqH (k:=k) hz;omega
  .intro n hn;simp only[zI] at hn;split at hn
   .exact i2 n (List.mem_of_mem_tail hn)
   .exact i2 n hn
  .simp[zI,i3]
  .simp only[zI,i4];cases h:isTerm k
   .simp[h]
   .simp[h]
termination_by ks.length
decreasing_by subst_vars;simp
def alN{B:Nat}:∀(l:List (List UInt8)),(∀x∈l,x.length<=B)->(j9 [32] l).length<=l.length*(B+1)
 | [],_=>by simp[j9]
 | x :: xs, h => by
  have hx:=h x (by simp);have key:∀ys:List (List UInt8),(∀x∈ys,x.length<=B)->(ys.flatMap λy=>[32]++y).length<=ys.length*(B+1):=λys=>by
   induction ys with
   | nil=>simp
   | cons y ys ih =>
    intro h;have h1:=h y (by simp);have h2:=ih λx hx=>h x (by simp[hx])
    simp only[qX,bP,dB,eM,jD] at h2 ⊢;omega
  have:=key xs λx hx=>h x (by simp[hx])
  simp only[j9,bP,dB,jD] at this ⊢;omega
def ajl(op:Int):∀i<(bY op).2.length,∀k,(bY op).2[i]?=aa k->isTerm k=ab->(((bY op).2.take i).filter isTerm).length<2:=by
 unfold bY;split
 .rename_i h1;have aC:op.toNat<16:=by omega
  generalize op.toNat=n at aC ⊢;have key:∀n<16,∀i<(iN.getD n ([],[])).2.length,∀k∈(iN.getD n ([],[])).2[i]?,isTerm k=ab->(((iN.getD n ([],[])).2.take i).filter isTerm).length<2:=by decide
  intro i hi k hk;exact key n aC i hi k hk
 .simp
def GO:List V:=.int .i64 0::ar 8 (.int .u64 0)
def SH:List V:=.aF []::.int .i64 0::ar 8 (.int .u64 0)
structure bN where
 v:Int
 c:bp
structure b8 where
 name:List UInt8
 a:bN
structure fp where
 fs:List b8
 tail:Int
structure d_ where
 op:Int
 lat:Int
 code:List bB
 to:bN
 a:fp
 b:fp
 v:Int
 field:List UInt8
def bp.GY{P:bp->Prop}(h:∀(a b c d e f g i:bD) (hl:[a,b,c,d,e,f,g,i].length=8),P ⟨[a,b,c,d,e,f,g,i],hl⟩)(e:bp):P e:=by
 obtain⟨w,hl⟩:=e
 match w,hl with
 | [a,b,c,d,e,f,g,i],hl=>exact h a b c d e f g i hl
def bN.enc(x:bN):List V:=.int .i64 x.v::x.c.enc
def b8.enc(x:b8):List V:=.aF x.name::x.a.enc
def fp.enc(x:fp):List V:=[.sl .no 10 (x.fs.map b8.enc),.int .i64 x.tail]
def cN(op lat:Int)(c:V)(to:bN)(fa:V)(ta:Int)(fb:V)(tb v:Int)(f:List UInt8):List V:=.int .i64 op::.int .i64 lat::c::(to.enc++[fa,.int .i64 ta,fb,.int .i64 tb,.int .i64 v,.aF f])
def d_.enc(x:d_):List V:=cN x.op x.lat (.sl .no 10 (x.code.map bB.enc)) x.to (.sl .no 10 (x.a.fs.map b8.enc)) x.a.tail (.sl .no 10 (x.b.fs.map b8.enc)) x.b.tail x.v x.field
def bN.zero:bN:=⟨0,.zero⟩
def fp.zero:fp:=⟨[],0⟩
def d_.zero:d_:=⟨0,0,[],.zero,.zero,.zero,0,[]⟩
def kf:List V:=cN 0 0 (.sl .ba 10 []) .zero (.sl .ba 10 []) 0 (.sl .ba 10 []) 0 0 []
def bN.ext'{x y:bN}(h:x.v=y.v)(k:x.c=y.c):x=y:=by cases x;cases y;simp only at h k;subst h;subst k;rfl
def b8.ext'{x y:b8}(h:x.name=y.name)(k:x.a=y.a):x=y:=by cases x;cases y;simp only at h k;subst h;subst k;rfl
instance:DecidableEq bN:=λx y=>if h:x.v=y.v/\x.c=y.c then isTrue (bN.ext' h.1 h.2) else isFalse λe=>h ⟨e▸rfl,e▸rfl⟩
instance:DecidableEq b8:=λx y=>if h:x.name=y.name/\x.a=y.a then isTrue (b8.ext' h.1 h.2) else isFalse λe=>h ⟨e▸rfl,e▸rfl⟩
section
variable {x y:bN} {n:Nat} {i:Int} {e:bp}
def bN.c_:x.enc.length=9:=by simp[bN.enc,bp.c_]
def bN.gI:cL x.enc=true:=by simp[bN.enc,cL,V.one,bp.gI]
def bN.dV:bO x.enc=true:=by simp[bN.enc,bO,V.cY,bp.dV]
def bN.dO:aX x.enc=x.enc:=by simp[bN.enc,aX,V.erase,bp.dO]
def bN.cT:bR n x.enc=true:=by simp[bN.enc,bR,V.lo,bp.cT]
def bN.fM:takeN 9 x.enc=aa x.enc:=by have:=zK (c:=x.enc);rwa [bN.c_] at this
def bN.iF:bI ab 9 x.enc=aa (.agg x.enc):=by rw[zg,bN.fM];rfl
def bN.gV:cg 9 x.enc=true:=by have:=yQ (c:=x.enc);rwa [bN.c_] at this
def bN.gv:over y.enc x.enc=x.enc:=uL (by rw[bN.c_,bN.c_])
theorem bN.OA:bI ak 1 x.enc=aa (.int .i64 x.v):=rfl
def bN.Ow:takeN 8 (x.enc.drop 1)=aa x.c.enc:=by show takeN 8 x.c.enc=_;exact bp.fM
def bN.I2:GO=bN.zero.enc:=by rw[bN.enc];show _=V.int .i64 0::bp.zero.enc;rw[<-bp.xR];rfl
def bN.b_v:over x.enc [.int .i64 i]=(bN.mk i x.c).enc:=by rw[bN.enc,p8,mU];rfl
theorem bN.DZ:cg 1 x.enc=true:=rfl
def bN.aa_:cg 8 (x.enc.drop 1)=true:=by show cg 8 x.c.enc=ab;exact bp.gV
def bN.Ku:setAt x.enc 1 e.enc=(bN.mk x.v e).enc:=by rw[bN.enc,ka,mC,bp.gv];rfl
def bN.qQ:fQ [1,1,1,1,1,1,1,1,1] x.enc y.enc=aa (decide (x=y)):=by
 rw[bN.enc,bN.enc,r5,bp.qQ,qn];congr 1;rw[<-yd];exact sV.2 ⟨λh=>bN.ext' h.1 h.2,λh=>h▸⟨rfl,rfl⟩⟩
def bN.au:=ah @bN.c_ <| ah @bN.gI <| ah @bN.dV <| ah @bN.dO <| ah @bN.cT <| ah @bN.fM <| ah @bN.iF <| ah @bN.gV <| ah @bN.gv <| ah @bN.OA <| ah @bN.Ow <| ah @bN.I2 <| ah @bN.b_v <| ah @bN.DZ <| ah @bN.aa_ <| ah @bN.Ku @bN.qQ
end
section
variable {x y:b8} {n:Nat} {t:List UInt8} {a:bN}
def b8.c_:x.enc.length=10:=by simp[b8.enc,bN.c_]
def b8.gI:cL x.enc=true:=by simp[b8.enc,cL,V.one,bN.gI]
def b8.dV:bO x.enc=true:=by simp[b8.enc,bO,V.cY,bN.dV]
def b8.dO:aX x.enc=x.enc:=by simp[b8.enc,aX,V.erase,bN.dO]
def b8.cT:bR n x.enc=true:=by simp[b8.enc,bR,V.lo,bN.cT]
def b8.fM:takeN 10 x.enc=aa x.enc:=by have:=zK (c:=x.enc);rwa [b8.c_] at this
def b8.iF:bI ab 10 x.enc=aa (.agg x.enc):=by rw[zg,b8.fM];rfl
def b8.gV:cg 10 x.enc=true:=by have:=yQ (c:=x.enc);rwa [b8.c_] at this
def b8.gv:over y.enc x.enc=x.enc:=uL (by rw[b8.c_,b8.c_])
theorem b8.uP:bI ak 1 x.enc=aa (.aF x.name):=rfl
def b8.Ov:takeN 9 (x.enc.drop 1)=aa x.a.enc:=by show takeN 9 x.a.enc=_;exact bN.fM
def b8.I2:SH=(b8.mk [] .zero).enc:=by rw[b8.enc];show _=V.aF []::bN.zero.enc;rw[<-bN.I2];rfl
def b8.Kv:over x.enc [.aF t]=(b8.mk t x.a).enc:=by rw[b8.enc,p8,mU];rfl
theorem b8.DZ:cg 1 x.enc=true:=rfl
def b8.aa':cg 9 (x.enc.drop 1)=true:=by show cg 9 x.a.enc=ab;exact bN.gV
def b8.b_a:setAt x.enc 1 a.enc=(b8.mk x.name a).enc:=by rw[b8.enc,ka,mC,bN.gv];rfl
def b8.qQ:fQ [2,1,1,1,1,1,1,1,1,1] x.enc y.enc=aa (decide (x=y)):=by
 rw[b8.enc,b8.enc,K1,bN.qQ,qn];congr 1;rw[<-yd];exact sV.2 ⟨λh=>b8.ext' h.1 h.2,λh=>h▸⟨rfl,rfl⟩⟩
def b8.au:=ah @b8.c_ <| ah @b8.gI <| ah @b8.dV <| ah @b8.dO <| ah @b8.cT <| ah @b8.fM <| ah @b8.iF <| ah @b8.gV <| ah @b8.gv <| ah @b8.uP <| ah @b8.Ov <| ah @b8.I2 <| ah @b8.Kv <| ah @b8.DZ <| ah @b8.aa' <| ah @b8.b_a @b8.qQ
end
section
variable {x:fp} {n:Nat} {u w:V}
theorem fp.c_:x.enc.length=2:=rfl
theorem fp.gI:cL x.enc=true:=rfl
theorem fp.dV:bO x.enc=true:=rfl
theorem fp.dO:aX x.enc=x.enc:=rfl
theorem fp.cT:bR n x.enc=true:=rfl
theorem fp.fM:takeN 2 x.enc=aa x.enc:=rfl
theorem fp.iF:bI ab 2 x.enc=aa (.agg x.enc):=rfl
theorem fp.gV:cg 2 x.enc=true:=rfl
theorem fp.gv:over [u,w] x.enc=x.enc:=rfl
theorem fp.FI:bI ak 1 x.enc=aa (.sl .no 10 (x.fs.map b8.enc)):=rfl
theorem fp.Oz:bI ak 1 (x.enc.drop 1)=aa (.int .i64 x.tail):=rfl
def fp.au:=ah @fp.c_ <| ah @fp.gI <| ah @fp.dV <| ah @fp.dO <| ah @fp.cT <| ah @fp.fM <| ah @fp.iF <| ah @fp.gV <| ah @fp.gv <| ah @fp.FI @fp.Oz
end
section
variable {op lat ta tb v i:Int} {c fa fb d:V} {to tp:bN} {r:fp} {f g:List UInt8} {x:d_} {n:Nat}
def tY:(cN op lat c to fa ta fb tb v f).length=18:=by simp[cN,bN.c_]
def Kr:takeN 18 (cN op lat c to fa ta fb tb v f)=aa (cN op lat c to fa ta fb tb v f):=by have:=zK (c:=cN op lat c to fa ta fb tb v f);rwa [tY] at this
def aar:cg 18 (cN op lat c to fa ta fb tb v f)=true:=by have:=yQ (c:=cN op lat c to fa ta fb tb v f);rwa [tY] at this
def aaB{V6 Nh YA YD v' : Int}{c' Sp Sw : V}{f' : List UInt8}:over (cN op lat c to fa ta fb tb v f) (cN V6 Nh c' tp Sp YA Sw YD v' f')=cN V6 Nh c' tp Sp YA Sw YD v' f' := uL (by rw[tY,tY])
def Ae(h1:c.one=ab)(h2:fa.one=ab)(h3:fb.one=ab):cL (cN op lat c to fa ta fb tb v f)=true:=by
 have h:=@bN.gI to;simp only[cN,cL,NZ,lD,h1];rw[V4,h];simp only[cL,NZ,V5,h2,h3,JJ]
def GL(h1:c.cY=ab)(h2:fa.cY=ab)(h3:fb.cY=ab):bO (cN op lat c to fa ta fb tb v f)=true:=by
 have h:=@bN.dV to;have app:∀{a b:List V},bO a=ab->bO b=ab->bO (a++b)=true:=by
  intro a;induction a with
  | nil=>intro b _ h;exact h
  | cons x a ih=>intro b h1 h2;simp only[bO,bF,iv] at h1 ⊢;exact⟨h1.1,ih h1.2 h2⟩
 simp only[cN,bO,V.cY,lD,h1];exact app h (by simp[bO,V.cY,h2,h3])
def GK:aX (cN op lat c to fa ta fb tb v f)=cN op lat c.erase to fa.erase ta fb.erase tb v f:=by
 have h:=@bN.dO to;have app:∀{a b:List V},aX (a++b)=aX a++aX b:=by
  intro a;induction a with
  | nil=>intro b;rfl
  | cons x a ih=>intro b;simp only[aX,iv,ih]
 simp only[cN,aX,V.erase,app,h]
def yt:(cN op lat c to fa ta fb tb v f).drop 12=[fa,.int .i64 ta,fb,.int .i64 tb,.int .i64 v,.aF f]:=by
 simp only[cN,DJ];exact List.drop_left' bN.c_
theorem aas:bI ak 1 (cN op lat c to fa ta fb tb v f)=aa (.int .i64 op):=rfl
theorem aat:bI ak 1 ((cN op lat c to fa ta fb tb v f).drop 1)=aa (.int .i64 lat):=rfl
theorem aay:bI ak 1 ((cN op lat c to fa ta fb tb v f).drop 2)=aa c:=rfl
def aaz:takeN 9 ((cN op lat c to fa ta fb tb v f).drop 3)=aa to.enc:=Pa bN.c_
def aau:takeN 2 ((cN op lat c to fa ta fb tb v f).drop 12)=aa [fa,.int .i64 ta]:=by rw[yt];rfl
def aav:takeN 2 ((cN op lat c to fa ta fb tb v f).drop 14)=aa [fb,.int .i64 tb]:=by rw[show 14=12+2 from rfl,<-wL,yt];rfl
def aaw:bI ak 1 ((cN op lat c to fa ta fb tb v f).drop 16)=aa (.int .i64 v):=by rw[show 16=12+4 from rfl,<-wL,yt];rfl
def aax:bI ak 1 ((cN op lat c to fa ta fb tb v f).drop 17)=aa (.aF f):=by rw[show 17=12+5 from rfl,<-wL,yt];rfl
theorem aaj:cg 1 (cN op lat c to fa ta fb tb v f)=true:=rfl
theorem aak:cg 1 ((cN op lat c to fa ta fb tb v f).drop 1)=true:=rfl
theorem aap:cg 1 ((cN op lat c to fa ta fb tb v f).drop 2)=true:=rfl
def aaq:cg 9 ((cN op lat c to fa ta fb tb v f).drop 3)=true:=by obtain⟨tv,te⟩:=to;induction te using bp.GY;rfl
def aal:cg 2 ((cN op lat c to fa ta fb tb v f).drop 12)=true:=by rw[yt];rfl
def aam:cg 2 ((cN op lat c to fa ta fb tb v f).drop 14)=true:=by rw[show 14=12+2 from rfl,<-wL,yt];rfl
def aan:cg 1 ((cN op lat c to fa ta fb tb v f).drop 16)=true:=by rw[show 16=12+4 from rfl,<-wL,yt];rfl
def aao:cg 1 ((cN op lat c to fa ta fb tb v f).drop 17)=true:=by rw[show 17=12+5 from rfl,<-wL,yt];rfl
def aaC:over (cN op lat c to fa ta fb tb v f) [.int .i64 i]=cN i lat c to fa ta fb tb v f:=by rw[cN,p8,mU];rfl
def aaD:setAt (cN op lat c to fa ta fb tb v f) 1 [.int .i64 i]=cN op i c to fa ta fb tb v f:=by rw[cN,ka,mC,p8,mU];rfl
def aaK:setAt (cN op lat c to fa ta fb tb v f) 2 [d]=cN op lat d to fa ta fb tb v f:=by rw[cN,ka,ka,mC,p8,mU];rfl
def aaL:setAt (cN op lat c to fa ta fb tb v f) 3 tp.enc=cN op lat c tp fa ta fb tb v f:=by
 rw[cN,ka,ka,ka,mC,V8 (by rw[bN.c_,bN.c_];exact bS _),bN.gv];rfl
def B3{m:List V}{k:Nat}:setAt (cN op lat c to fa ta fb tb v f) (12+k) m = .int .i64 op::.int .i64 lat::c::(to.enc++setAt [fa,.int .i64 ta,fb,.int .i64 tb,.int .i64 v,.aF f] k m):=by
 rw[show 12+k=(9+k)+1+1+1 by omega,cN,ka,ka,ka];congr 3;have key:∀(a b:List V) (n:Nat),setAt (a++b) (a.length+n) m=a++setAt b n m:=by
  intro a;induction a with
  | nil=>intro b n;rw[eM,jY];rfl
  | cons x a ih=>intro b n;rw[iv,dB,show a.length+1+n=(a.length+n)+1 by omega,ka,ih];rfl
 have:=key to.enc [fa,.int .i64 ta,fb,.int .i64 tb,.int .i64 v,.aF f] k
 rw[bN.c_] at this;exact this
def aaE:setAt (cN op lat c to fa ta fb tb v f) 12 [d,.int .i64 i]=cN op lat c to d i fb tb v f:=B3 (k:=0)
def aaG:setAt (cN op lat c to fa ta fb tb v f) 14 [d,.int .i64 i]=cN op lat c to fa ta d i v f:=B3 (k:=2)
def aaI:setAt (cN op lat c to fa ta fb tb v f) 16 [.int .i64 i]=cN op lat c to fa ta fb tb i f:=B3 (k:=4)
def aaJ:setAt (cN op lat c to fa ta fb tb v f) 17 [.aF g]=cN op lat c to fa ta fb tb v g:=B3 (k:=5)
def aaF:setAt (cN op lat c to fa ta fb tb v f) 12 r.enc=cN op lat c to (.sl .no 10 (r.fs.map b8.enc)) r.tail fb tb v f:=B3 (k:=0)
def aaH:setAt (cN op lat c to fa ta fb tb v f) 14 r.enc=cN op lat c to fa ta (.sl .no 10 (r.fs.map b8.enc)) r.tail v f:=B3 (k:=2)
def d_.dO:aX x.enc=x.enc:=GK
def d_.dV:bO x.enc=true:=GL rfl rfl rfl
def l_:=ah @tY <| ah @Kr <| ah @aar <| ah @aaB <| ah @aas <| ah @aat <| ah @aay <| ah @aaz <| ah @aau <| ah @aav <| ah @aaw <| ah @aax <| ah @aaj <| ah @aak <| ah @aap <| ah @aaq <| ah @aal <| ah @aam <| ah @aan <| ah @aao <| ah @aaC <| ah @aaD <| ah @aaK <| ah @aaL <| ah @aaE <| ah @aaG <| ah @aaI <| ah @aaJ <| ah @aaF @aaH
end
def fy(op:Int)(k:UInt8):Nat:=(bY op).2.count k
def pZ(l:List (List UInt8)):Bool:=l.all dx
def az.nN(c:az):Bool:=if fy c.op 110=0 then decide (c.name.aq=[]) else dx c.name.aq
def az.kK(c:az):Bool :=
 if 0<fy c.op 119 then decide (0<c.an.length)&&pZ (c.an.map aB.aq)
 else if 0<fy c.op 102 then decide (c.an.length=1)&&pZ (c.an.map aB.aq)
 else decide (c.an.length=0)
def pe(p:aB × aB):Bool:=dx p.1.aq&&dx p.2.aq
def az.lT(c:az):Bool:=if fy c.op 112=0 then decide (c.bA.length=0) else c.bA.all pe
def az.kt(c:az):Bool :=
 if 0<fy c.op 116 then c.left.fA&&c.right.fA
 else if 0<fy c.op 114 then c.left.jN&&c.right.jN
 else c.left.c9 .zero&&c.right.c9 .zero
def az.fS(c:az):Bool:=decide (0<=c.op/\c.op<=15)&&c.nN&&c.kK&&c.lT&&c.kt
def lW:List (aB × aB)->List (aB × aB)->Bool
 | [],[]=>ab
 | p::ps,q::qs=>decide (p.1.aq=q.1.aq)&&decide (p.2.aq=q.2.aq)&&lW ps qs
 | _,_=>ak
def az.c9(a b:az):Bool:=decide (a.op=b.op)&&decide (a.name.aq=b.name.aq)&&ey a.an b.an&&lW a.bA b.bA&&a.left.c9 b.left&&a.right.c9 b.right
def rW(s:aN)(lat:Nat)(n:Nd):bN:=if n.kind=1 then ⟨dJ (lb s.vars n.aq),.zero⟩ else ⟨-1,(iZ (wy s lat) (n.aj.getD 0 kM)).1⟩
def vN(s:aN)(lat:Nat)(k:Nd):b8:=⟨k.aq,rW s lat (k.aj.getD 0 kM)⟩
def Bv(s:aN):List aB->Int
 | []=>-1
 | w::_=>dJ (lb s.vars w.aq)
def atV{s:aN}:∀{l:List aB} (h:0<l.length),Bv s (l.take (0+1))=dJ (lb s.vars l[0].aq)
 | [],h=>by simp at h
 | _::_,_=>rfl
def mZ(s:aN)(lat:Nat)(n:Nd):fp:=if n.kind=1 then ⟨[],dJ (lb s.vars n.aq)⟩ else ⟨n.aj.map (vN s lat),Bv s n.an⟩
def YR(s:aN)(v:Option Nat):Int:=match v with | some k=>(match s.vars[k]? with | some x=>x.lat | none=>0) | none=>0
def mN(s:aN)(c:az):d_ :=
 if c.op=8 then ⟨8,c8 s c,(nq s (c8 s c) c.left).getD [],rW s (c8 s c).toNat c.right,.zero,.zero,0,[]⟩
 else if c.op=9 then ⟨9,c8 s c,[],.zero,mZ s (c8 s c).toNat c.left,mZ s (c8 s c).toNat c.right,0,[]⟩
 else ⟨10,YR s (lb s.vars c.name.aq),[],.zero,.zero,.zero,dJ (lb s.vars c.name.aq),(c.an.getD 0 ⟨[],0⟩).aq⟩
def kn(s:aN)(c:az):Bool:=decide (8<=c.op)&&decide (c.op<=10)&&c.fS&&decide ((jF s c).cls=0)
structure qi(s:aN)(c:az):Prop where
 op:8<=c.op/\c.op<=10
 q:c.fS=ab
 none:∀f∈qq s c,f.cls=0
def M5{s:aN}:kn s c=ab↔qi s c:=by
 simp only[kn,bF,cn];constructor
 .rintro⟨⟨⟨a,b⟩,d⟩,e⟩;exact⟨⟨a,b⟩,d,(Nn e).2⟩
 .rintro⟨⟨a,b⟩,d,e⟩;exact⟨⟨⟨a,b⟩,d⟩,by rw[jF,Va e];rfl⟩
section
variable {s:aN} {c:az} {lat:Int}
def auv:∀f∈iH s lat t p k,f.cls≠0:=by
 intro f hf;unfold iH at hf;split at hf
 .split at hf<;>(rw[qj.1 hf];simp)
 .split at hf
  .split at hf
   .rw[qj.1 hf];simp
   .simp at hf
  .simp at hf
variable{w:aB}
def amb:∀f∈gS s w,f.cls≠0:=by
 intro f hf;unfold gS at hf;split at hf
 .split at hf<;>(rw[qj.1 hf];simp)
 .simp at hf
def VS{l:List aQ}(h:∀f∈l,f.cls≠0)(k:∀f∈l,f.cls=0):l=[]:=by
 cases l with
 | nil=>rfl
 | cons f l=>exact absurd (k f (by simp)) (h f (by simp))
def auw(h:iH s lat t p k=[]):∃v,∃hv:v<s.vars.length,lb s.vars t=aa v/\s.vars[v].kind=k/\(0<=lat->s.vars[v].lat=lat):=by
 unfold iH at h;split at h
 .split at h<;>simp at h
 .rename_i v hv;have aC:=SA hv;rw[cS aC] at h;simp only at h;split at h
  .simp at h
  .rename_i hn;refine⟨v,aC,hv,?_,λh0=>?_⟩
   .exact Classical.byContradiction λhc=>hn (.inl hc)
   .exact Classical.byContradiction λhc=>hn (.inr ⟨h0,hc⟩)
def amf(h:gS s w=[]):∃k,i_ s.bz w.aq=aa k/\k<s.bz.length:=by
 unfold gS at h;split at h
 .split at h<;>simp at h
 .rename_i hn;cases hL:i_ s.bz w.aq with
  | none=>rw[hL] at hn;simp at hn
  | some k=>exact⟨k,rfl,(Hk hL).1⟩
def qi.amm(h:qi s c)(h9:c.op=8\/c.op=9):∃k,i_ s.bz c.name.aq=aa k/\k<s.bz.length:=by
 refine amf (VS amb λf hf=>h.none f ?_);unfold qq;rw[aA (by omega),aA (by omega)]
 by_cases h8:c.op=8
 .rw[aE h8];simp[hf]
 .rw[aA h8,aE (by omega)];simp[hf]
def qi.c8(h:qi s c)(h9:c.op=8\/c.op=9):∃k:Nat,c8 s c=k/\k<s.bz.length:=by
 obtain⟨k,e,hk⟩:=h.amm h9;exact⟨k,by rw[Go.Am.c8,e];rfl,hk⟩
def OC(h:c.fS=ab):c.nN=ab/\c.kK=ab/\c.lT=ab/\c.kt=true:=by
 simp only[az.fS,bF] at h;exact⟨h.1.1.1.2,h.1.1.2,h.1.2,h.2⟩
def qi.labels(h:qi s c)(h8:c.op=8):c.left.fA=ab/\c.right.fA=true:=by
 have:=(OC h.q).2.2.2
 rw[az.kt,h8] at this;simpa [show fy 8 116=2 from by decide] using this
def qi.rows(h:qi s c)(h9:c.op=9):c.left.jN=ab/\c.right.jN=true:=by
 have:=(OC h.q).2.2.2
 rw[az.kt,h9] at this;simpa [show fy 9 116=0 from by decide,show fy 9 114=2 from by decide] using this
def qi.one(h:qi s c)(jt:c.op=10):∃w,c.an=[w]/\dx w.aq=true:=by
 have:=(OC h.q).2.1
 rw[az.kK,jt] at this;simp only[show fy 10 119=0 from by decide,show fy 10 102=1 from by decide,Nat.lt_irrefl,bZ,Nat.zero_lt_one,cm,bF,cn] at this
 match hq:c.an,this.1 with
 | [w],_=>exact⟨w,rfl,by have:=this.2;rw[hq] at this;simpa [pZ] using this⟩
def qi.var(h:qi s c)(jt:c.op=10):∃v,∃hv:v<s.vars.length,lb s.vars c.name.aq=aa v/\s.vars[v].kind=2:=by
 have:iH s (-1) c.name.aq c.name.pos 2=[]:=VS auv λf hf=>h.none f (by unfold qq;rw[aE jt];exact hf)
 obtain⟨v,hv,h1,h2,_⟩:=auw this;exact⟨v,hv,h1,h2⟩
def qi.right(h:qi s c)(h8:c.op=8):c.right.kind=1\/c.right.kind=7:=by
 have hl:=(h.labels h8).2;rw[Nd.uC] at hl
 by_cases h1:c.right.kind=1
 .exact .inl h1
 .by_cases h7:c.right.kind=7
  .exact .inr h7
  .rw[aA h1,aA h7] at hl
   by_cases Ts:c.right.kind=8\/c.right.kind=9
   .have:=h.none ⟨6,c.right.pos⟩ (by unfold qq;rw[aA (by omega),aA (by omega),aE h8];simp[yy,Ts])
    simp at this
   .rw[aA Ts] at hl;simp at hl
end
def SG(k:Nd):Prop:=0<k.aj.length/\∀a∈k.aj,a.kind=1\/0<a.aj.length
def I5{n:Nd}(h:n.jN=ab):∀k∈n.aj,SG k:=by
 rcases FK h with ⟨_,_,_,hf⟩ | ⟨h1,h⟩
 .intro k hk;obtain⟨_,_,_,a,ha,hq⟩:=Hj (hf k hk);refine⟨by rw[ha];simp,λb hb=>?_⟩;rw[ha] at hb;obtain rfl:=qj.1 hb;have hl:=GP hq;simp only[Nd.qo,bF,nh,cn] at hq
  rcases hq.1 with h | h
  .exact .inl h
  .exact .inr (by rw[Fb hl h];omega)
 .rw[Nd.uC,aE h1] at h;intro k hk;simp only[Nd.lu,bF,cn] at h
  have:n.aj.length=0:=by have:=h.2;omega
  exact absurd (List.length_pos_of_mem hk) (by omega)
def Xb{n:Nd}(h:n.jN=ab):n.an.length<=1:=by
 rcases FK h with ⟨_,_,hn,_⟩ | ⟨h1,h⟩
 .rcases hn with h | ⟨w,h,_⟩<;>rw[h]<;>simp
 .rw[Nd.uC,aE h1] at h;simp only[Nd.lu,bF,cn] at h
  have:n.an.length=0:=by have:=h.2;omega
  omega
def Fv(r:Rl)(p:Int × Int):Rl:=if (0<=p.1/\p.1<(bG r:Nat))/\0<=p.2/\p.2<(bG r:Nat) then r.put p.1.toNat (kW (r.get p.1.toNat) p.2) else r
def sD(n:Int)(l:List (Int × Int)):Rl:=l.foldl Fv (Rl.of (min n.toNat 64:Nat) λ_=>0#64)
def apn{n:Int}{l:List (Int × Int)}(hi:i<l.length):sD n (l.take (i+1))=Fv (sD n (l.take i)) l[i]:=by
 rw[sD,sD,jl hi,zT];rfl
def dX(l:List aB):List (List UInt8):=l.map aB.aq
def BK{l:List aB}:(dX l).length=l.length:=by simp[dX]
def IV(l:List (List UInt8))(p:aB × aB):Int × Int:=(dJ (iL l p.1.aq),dJ (iL l p.2.aq))
def tN(c:az):Rl:=sU (sD (c.an.length:Nat) (c.bA.map (IV (dX c.an))))
def Dd(l:List bC):bC:=⟨ab,l.flatMap bC.bQ⟩
def qF(s:aN)(w:aB):List bC:=match i_ s.bz w.aq with | some k=>(match s.bz[k]? with | some x=>[x.shape] | none=>[]) | none=>[]
def qO(s:aN)(c:az):bC:=Dd (c.an.flatMap (qF s))
def aN.wj(s:aN):Prop:=s.ok/\∀l∈s.bz,l.shape.bQ.length<=100
def lr(op:Int):Bool:=decide (1<=op)&&decide (op<=5)
def mF(op:Int):Bool:=decide (op=6)||decide (op=7)
def tC(s:aN)(t:List UInt8):Bool:=(i_ s.bz t).isSome
def iC(s:aN)(t:List UInt8):Bool:=(i_ s.bz t).isSome||(lb s.vars t).isSome
def ek(b:Bool)(x y:Int):List aQ:=if b then [⟨x,y⟩] else []
def sd(s:aN)(c:az):List aQ :=
 if lr c.op then ek (iC s c.name.aq) 3 c.name.pos
 else ek (!iC s c.name.aq) 3 c.name.pos++ek (iC s c.name.aq&&!tC s c.name.aq) 4 c.name.pos
def tG(s:aN)(c:az)(i:Nat):List aQ :=
 let w:=c.an.getD i ⟨[],0⟩
 if c.op=3 then ek (!iC s w.aq) 3 w.pos++ek (iC s w.aq&&!tC s w.aq) 4 w.pos
 else ek ((iL ((dX c.an).take i) w.aq).isSome||(mF c.op&&iC s w.aq)) 3 w.pos
def lS(s:aN)(c:az)(m:Nat):List aQ:=(bX m).flatMap (tG s c)
def tH(c:az)(w:aB):List aQ:=ek (iL (dX c.an) w.aq).isNone 3 w.pos
def qN(c:az)(p:aB × aB):List aQ:=tH c p.1++tH c p.2
def tM(c:az):List aQ:=c.bA.flatMap (qN c)
def rF(c:az):List aQ:=if c.op=5/\c.an.length<=64 then ek (!sv (tN c)) 5 c.nP else []
def mS(s:aN)(c:az):List aQ :=
 if c.op=6\/c.op=7 then ek (decide ((64:Int) - (s.vars.length:Nat)<(c.an.length:Nat))) 7 c.pos
 else ek (decide ((if c.op=3 then(8:Int) else if c.op=4 then 8 else 64)<((if c.op=3 then(qO s c).bQ.length else c.an.length):Nat))||decide (16<=s.bz.length)) 7 c.pos
def wq(s:aN)(c:az):List aQ:=sd s c++lS s c c.an.length++tM c++rF c++mS s c
def jO(s:aN)(c:az):aQ:=if lr c.op||mF c.op then fI (wq s c) else .zero
section
variable {s:aN} {c:az}
def sG{b:Bool}{x y:Int}:(ek b x y).length<=1:=by unfold ek;split<;>simp
def akz:(sd s c).length<=2:=by
 have h1:=@sG (iC s c.name.aq) 3 c.name.pos;have h2:=@sG (!iC s c.name.aq) 3 c.name.pos;have h3:=@sG (iC s c.name.aq&&!tC s c.name.aq) 4 c.name.pos;unfold sd;split
 .omega
 .rw[bP];omega
def aon{i:Nat}:(tG s c i).length<=2:=by
 unfold tG;simp only;split
 .rw[bP];have h2:=@sG (!iC s (c.an.getD i ⟨[],0⟩).aq) 3 (c.an.getD i ⟨[],0⟩).pos;have h3:=@sG (iC s (c.an.getD i ⟨[],0⟩).aq&&!tC s (c.an.getD i ⟨[],0⟩).aq) 4 (c.an.getD i ⟨[],0⟩).pos;omega
 .exact yh sG (by omega)
def VV{m:Nat}:lS s c (m+1)=lS s c m++tG s c m:=by rw[lS,rP,zS];simp[lS]
def NS:∀{m:Nat},(lS s c m).length<=2*m
 | 0=>by simp[lS]
 | m + 1 => by
  have h1:=@NS m;have h2:=@aon s c m;rw[VV,bP];omega
def aqR{p:aB × aB}:(qN c p).length<=2:=by
 unfold qN tH;rw[bP];have h1:=@sG (iL (dX c.an) p.1.aq).isNone 3 p.1.pos;have h2:=@sG (iL (dX c.an) p.2.aq).isNone 3 p.2.pos;omega
def WJ{l:List (aB × aB)}:(l.flatMap (qN c)).length<=2*l.length:=by
 have:=D' (f:=qN c) (m:=2) (l:=l) λ_ _=>aqR
 omega
def apU:(rF c).length<=1:=by
 unfold rF;split
 .exact sG
 .simp
def amY:(mS s c).length<=1:=by unfold mS;split<;>exact sG
end
structure Rm where
 bytes:Int
 iW:Int
 cq:Int
def Rm.enc(r:Rm):List V:=[.int .i64 r.bytes,.int .i64 r.iW,.int .i64 r.cq]
section
variable {r:Rm} {n:Nat} {a b c:V}
theorem Rm.c_:r.enc.length=3:=rfl
theorem Rm.gI:cL r.enc=true:=rfl
theorem Rm.dV:bO r.enc=true:=rfl
theorem Rm.dO:aX r.enc=r.enc:=rfl
theorem Rm.cT:bR n r.enc=true:=rfl
theorem Rm.fM:takeN 3 r.enc=aa r.enc:=rfl
theorem Rm.iF:bI ab 3 r.enc=aa (.agg r.enc):=rfl
theorem Rm.gV:cg 3 r.enc=true:=rfl
theorem Rm.gv:over [a,b,c] r.enc=r.enc:=rfl
theorem Rm.r_b:bI ak 1 r.enc=aa (.int .i64 r.bytes):=rfl
theorem Rm.Ov:bI ak 1 (r.enc.drop 1)=aa (.int .i64 r.iW):=rfl
theorem Rm.FI:bI ak 1 (r.enc.drop 2)=aa (.int .i64 r.cq):=rfl
def Rm.au:=ah @Rm.c_ <| ah @Rm.gI <| ah @Rm.dV <| ah @Rm.dO <| ah @Rm.cT <| ah @Rm.fM <| ah @Rm.iF <| ah @Rm.gV <| ah @Rm.gv <| ah @Rm.r_b <| ah @Rm.Ov @Rm.FI
end
def rL(op:Int):Bool:=decide (1<=op)&&decide (op<=10)
def vu(op:Int):Bool:=decide (8<=op)&&decide (op<=10)
def jc(r:Rm)(c:az):Bool :=
 (rL c.op&&(decide (1024<((eJ c).length:Int))||decide (IntKind.i64.wrap (16383 - (eJ c).length)<r.bytes)))||(vu c.op&&decide (64<=r.iW))||(decide (c.op=11)&&decide (16<=r.cq))
def j_(s:aN)(r:Rm)(c:az):List aQ:=[jO s c,jF s c]++ek (jc r c) 7 c.pos++ek (decide (c.op=12)&&decide (r.cq<=1)) 8 c.pos
def SL(f:Int × Int):aQ:=⟨f.1,f.2⟩
def lP(s:aN)(r:Rm)(t:List UInt8):az × d_ × aQ :=
 if (cM t).2.1≠0 then(.zero,.zero,SL (cM t).2)
 else if (fI (j_ s r (cM t).1)).cls≠0 then(.zero,.zero,fI (j_ s r (cM t).1))
 else((cM t).1,if kn s (cM t).1 then mN s (cM t).1 else .zero,.zero)
def kH(Z:Nat)(l:List aQ)(s:aN)(c:az):List V:=[.sl .no 3 (s.bz.map ei.enc),.sl .no 3 (s.vars.map dC.enc),
 .int .i64 c.op,.int .i64 c.pos,.aF c.name.aq,.int .i64 c.name.pos,.sl .no 2 (c.an.map aB.enc),.sl .no 4 (c.bA.map fL),.int .i64 c.nP,
 .int .i64 c.left.kind,.int .i64 c.left.pos,.aF c.left.aq,.sl .no 2 (c.left.an.map aB.enc),.sl .no 5 (c.left.aj.map Nd.enc),.int .i64 c.right.kind,.int .i64 c.right.pos,.aF c.right.aq,.sl .no 2 (c.right.an.map aB.enc),.sl .no 5 (c.right.aj.map Nd.enc),
 .sl (.tk Z) 2 (l.map aQ.enc)]
def eX(D:af)(b Z:Nat)(l:List aQ)(s:aN)(c:az):af:=(D.set b (kH Z l s c)).aY Z l.length
section
variable {D σ' : af} {b b' Z O n:Nat} {l:List aQ} {s:aN} {c:az} {x y:Int} {d:List V}
def M7:(eX D b Z l s c).box b=aa (kH Z l s c):=by simp[eX,af.set,af.aY]
def xF(h:b' ≠ b):(eX D b Z l s c).box b' = D.box b' := by simp[eX,af.set,af.aY,h]
def UT:(eX D b Z l s c).aP Z=aa l.length:=by simp[eX,af.set,af.aY]
def US(h:b' ≠ b):(eX D b Z l s c).set b' d=eX (D.set b' d) b Z l s c:=by
 simp only[eX,af.set,af.aY,af.mk.injEq,il];funext z
 by_cases h1:z=b'
 .subst h1;simp[h]
 .simp[h1]
def alS:((eX D b Z l s c).aY Z (l.length+1)).set b ((kH Z l s c).take 19++[.sl (.tk Z) 2 (l.map aQ.enc++[[.int .i64 x,.int .i64 y]])])=eX D b Z (l++[⟨x,y⟩]) s c:=by
 simp only[eX,kH,af.set,af.aY,af.mk.injEq,gy,ch,fh,aQ.enc,bP,gM,il];constructor
 .funext z
  by_cases h1:z=b<;>simp[h1]
 .funext z
  by_cases h1:z=Z<;>simp[h1]
def alT(h:D.box b=ag)(ht:D.aP Z=ag):D.sub (eX D b Z l s c):=by
 refine⟨λx cs hx=>?_,λt m hm=>?_,λ_ _ h=>h⟩
 .have:x≠b:=by rintro rfl;rw[h] at hx;simp at hx
  rw[xF this];exact hx
 .have:t≠Z:=by rintro rfl;rw[ht] at hm;simp at hm
  simp[eX,af.set,af.aY,this];exact hm
def UR(h:b' ≠ b)(hn:D.box b' = ag):(eX D b Z l s c).sub (eX (D.set b' d) b Z l s c):=by
 refine⟨λx cs hx=>?_,λt m hm=>?_,λ_ _ h=>h⟩
 .by_cases h1:x=b
  .subst h1;rw[M7] at hx ⊢;exact hx
  .rw[xF h1] at hx ⊢
   have:x≠b' := by rintro rfl;rw[hn] at hx;simp at hx
   simp only[af.set,this,bZ];exact hx
 .simpa [eX,af.set,af.aY] using hm
theorem j_f:bI ak 1 ((kH Z l s c).drop 19)=aa (.sl (.tk Z) 2 (l.map aQ.enc)):=rfl
theorem j_s:takeN 2 (kH Z l s c)=aa s.enc:=rfl
theorem j_c:takeN 17 ((kH Z l s c).drop 2)=aa c.enc:=rfl
theorem j_l:bI ak 1 (kH Z l s c)=aa (.sl .no 3 (s.bz.map ei.enc)):=rfl
theorem j_v:bI ak 1 ((kH Z l s c).drop 1)=aa (.sl .no 3 (s.vars.map dC.enc)):=rfl
theorem j_o:bI ak 1 ((kH Z l s c).drop 2)=aa (.int .i64 c.op):=rfl
theorem j_p:bI ak 1 ((kH Z l s c).drop 3)=aa (.int .i64 c.pos):=rfl
theorem j_t:bI ak 1 ((kH Z l s c).drop 4)=aa (.aF c.name.aq):=rfl
theorem j_a:bI ak 1 ((kH Z l s c).drop 5)=aa (.int .i64 c.name.pos):=rfl
theorem j_n:bI ak 1 ((kH Z l s c).drop 6)=aa (.sl .no 2 (c.an.map aB.enc)):=rfl
theorem j_r:bI ak 1 ((kH Z l s c).drop 7)=aa (.sl .no 4 (c.bA.map fL)):=rfl
theorem j_q:bI ak 1 ((kH Z l s c).drop 8)=aa (.int .i64 c.nP):=rfl
theorem j_h:cg 1 ((kH Z l s c).drop 19)=true:=rfl
theorem j_w{v:V}:setAt (kH Z l s c) 19 [v]=(kH Z l s c).take 19++[v]:=rfl
def j0(s:aN):List V:=[.sl .no 3 (s.bz.map ei.enc),.sl .no 3 (s.vars.map dC.enc),.int .i64 0,.int .i64 0,.aF [],.int .i64 0,.sl .ba 2 [],.sl .ba 4 [],.int .i64 0,.int .i64 0,.int .i64 0,.aF [],.sl .ba 2 [],.sl .ba 5 [],.int .i64 0,.int .i64 0,.aF [],.sl .ba 2 [],.sl .ba 5 [],.sl .ba 2 []]
def jz(s:aN)(c:az):List V:=(kH 0 [] s c).take 19++[.sl .ba 2 []]
theorem alD:over [.sl .ba 3 [],.sl .ba 3 [],.int .i64 0,.int .i64 0,.aF [],.int .i64 0,.sl .ba 2 [],.sl .ba 4 [],.int .i64 0,.int .i64 0,.int .i64 0,.aF [],.sl .ba 2 [],.sl .ba 5 [],.int .i64 0,.int .i64 0,.aF [],.sl .ba 2 [],.sl .ba 5 [],.sl .ba 2 []] s.enc=j0 s:=rfl
theorem alC:cg 17 ((j0 s).drop 2)=true:=rfl
def alE:setAt (j0 s) 2 c.enc=jz s c:=by rw[az.enc,az.cP];rfl
theorem alU:(jz s c).length=20:=rfl
theorem alW:cL (jz s c)=true:=rfl
theorem alV:bO (jz s c)=true:=rfl
theorem alX:takeN 20 (jz s c)=aa (jz s c):=rfl
def UU:=ah @alD <| ah @alC <| ah @alE <| ah @alU <| ah @alW <| ah @alV @alX
def jI:=ah @M7 <| ah @UT <| ah @j_f <| ah @j_s <| ah @j_c <| ah @j_l <| ah @j_v <| ah @j_o <| ah @j_p <| ah @j_t <| ah @j_a <| ah @j_n <| ah @j_r <| ah @j_q <| ah @j_h @j_w
end
def tO(s:aN)(c:az):bC :=
 if c.op=1 then ⟨ak,[⟨1,dX c.an,.zero⟩]⟩
 else if c.op=2 then ⟨ak,[⟨2,dX c.an,.zero⟩]⟩
 else if c.op=4 then ⟨ak,[⟨3,dX c.an,tN c⟩]⟩
 else if c.op=5 then ⟨ak,[⟨4,dX c.an,tN c⟩]⟩
 else if c.op=3 then qO s c
 else ⟨ak,[]⟩
def aB.mp(Y:Int->Int)(w:aB):aB:=⟨w.aq,Y w.pos⟩
mutual
def Nd.mp(Y:Int->Int):Nd->Nd
 | .mk k p t ws ks=>.mk k (Y p) t (ws.map (aB.mp Y)) (zk Y ks)
def zk(Y:Int->Int):List Nd->List Nd
 | []=>[]
 | n::ns=>n.mp Y::zk Y ns
end
def aQ.mp(Y:Int->Int)(f:aQ):aQ:=if f.cls=0 then f else ⟨f.cls,Y f.aD⟩
def az.mp(Y:Int->Int)(c:az):az:=⟨c.op,Y c.pos,c.name.mp Y,c.an.map (aB.mp Y),c.bA.map λp=>(p.1.mp Y,p.2.mp Y),Y c.nP,c.left.mp Y,c.right.mp Y⟩
section
variable {Y:Int->Int}
def VG:∀{l:List Nd},zk Y l=l.map (Nd.mp Y)
 | []=>rfl
 | n::ns=>by rw[zk,VG];rfl
def nM(n:Nd):(n.mp Y).kind=n.kind:=by cases n;rw[Nd.mp];rfl
def Bc(n:Nd):(n.mp Y).pos=Y n.pos:=by cases n;rw[Nd.mp];rfl
def o9(n:Nd):(n.mp Y).aq=n.aq:=by cases n;rw[Nd.mp];rfl
def uG(n:Nd):(n.mp Y).an=n.an.map (aB.mp Y):=by cases n;rw[Nd.mp];rfl
def lR(n:Nd):(n.mp Y).aj=n.aj.map (Nd.mp Y):=by cases n;rw[Nd.mp,<-VG];rfl
variable{w:aB}
theorem BH:(w.mp Y).aq=w.aq:=rfl
theorem BG:(w.mp Y).pos=Y w.pos:=rfl
def OE{l:List aB}:iR (l.map (aB.mp Y))=iR l:=by simp[iR,wI,aB.mp]
def U9(n:Nd):(n.mp Y).lu=n.lu:=by simp[Nd.lu,o9,uG,lR]
def Q6(n:Nd):(n.mp Y).lG=n.lG:=by simp[Nd.lG,o9,uG]
def asi(n:Nd):(n.mp Y).qd=n.qd:=by simp[Nd.qd,nM,o9,uG,lR,OE]
def DX{f:Nd->Bool}:∀{l:List Nd},(∀n∈l,f (n.mp Y)=f n)->(l.map (Nd.mp Y)).all f=l.all f
 | [],_=>rfl
 | n::ns,h=>by rw[ch,ve,ve,h n (by simp),DX λm hm=>h m (by simp[hm])]
def Nd.ind{P:Nd->Prop}(h:∀n,(∀m∈n.aj,P m)->P n)(n:Nd):P n:=by
 obtain⟨k,hk⟩:∃k,n.cI<=k:=⟨_,bS _⟩;induction k generalizing n with
 | zero=>have:=Nd.ub n;omega
 | succ k ih=>exact h n λm hm=>ih m (by have:=rX hm;omega)
def RM(n:Nd):(n.mp Y).iY=n.iY:=by
 induction n using Nd.ind with
 | h n ih=>simp only[Nd.Al,nM,o9,uG,lR,OE,U9,Q6,aR,DX ih,DX λm _=>asi m]
def TW{f:Nd->Bool}(h:∀n,f (n.mp Y)=f n):∀{l:List Nd},vV f (l.map (Nd.mp Y))=vV f l
 | []=>rfl
 | n::_=>h n
def Il(n:Nd):(n.mp Y).fA=n.fA:=by
 induction n using Nd.ind with
 | h n ih=>simp only[Nd.uC,nM,lR,U9,Q6,aR,DX ih,TW RM]
def aaQ(n:Nd):(n.mp Y).qo=n.qo:=by simp only[Nd.qo,nM,Il]
def afu(n:Nd):(n.mp Y).me=n.me:=by simp only[Nd.me,nM,o9,uG,lR,aR,TW aaQ]
def ar_(n:Nd):(n.mp Y).jN=n.jN:=by simp only[Nd.jN,nM,o9,uG,lR,aR,OE,DX λm _=>afu m,Il]
def XL:∀{l m:List aB},ey (l.map (aB.mp Y)) m=ey l m
 | [],[]=>rfl
 | [],_::_=>rfl
 | _::_,[]=>rfl
 | w::ws,u::us=>by simp only[ch,ey,XL];rfl
def asJ(n:Nd):(n.mp Y).c9 .zero=n.c9 .zero:=by
 simp only[Nd.Di,nM,o9,uG,lR,XL];congr 1;show dP (n.aj.map (Nd.mp Y)) []=dP n.aj [];cases n.aj<;>rfl
def PH{l:List aB}:dX (l.map (aB.mp Y))=dX l:=by simp[dX,wI,aB.mp]
def arY(c:az):(c.mp Y).fS=c.fS:=by
 have e1:(c.mp Y).an.map aB.aq=c.an.map aB.aq:=by simp[az.mp,wI,aB.mp]
 have e2:(c.mp Y).nN=c.nN:=rfl;have e3:(c.mp Y).kK=c.kK:=by simp only[az.kK,e1];simp[az.mp]
 have e4:(c.mp Y).lT=c.lT:=by simp only[az.lT];simp[az.mp,wI,aB.mp];rfl
 have e5:(c.mp Y).kt=c.kt:=by simp only[az.kt];simp only[az.mp,Il,ar_,asJ]
 simp only[az.fS,e2,e3,e4,e5];rfl
def Oh{l:List (List UInt8)}:∀{ws:List aB} {s:bD},iD l s (ws.map (aB.mp Y))=((iD l s ws).1,(iD l s ws).2.map Y)
 | [],_=>rfl
 | w :: ws, s => by
  simp only[ch,iD,BH,BG];cases iL l w.aq with
  | none=>rfl
  | some k=>exact Oh
def Xn{f:bw}:∀{ks:List Nd} {s:bD},wo f s (ks.map (Nd.mp Y))=((wo f s ks).1,(wo f s ks).2.map Y)
 | [],_=>rfl
 | k :: ks, s => by
  simp only[ch,wo,o9,Bc,uG,Oh];cases iL f.an k.aq with
  | none=>rfl
  | some o =>
   simp only;cases (iD f.an 0#64 k.an).2 with
   | some p=>rfl
   | none=>exact Xn
def avU{f:bw}(n:Nd):wG f (n.mp Y)=((wG f n).1,(wG f n).2.map Y):=by
 unfold wG;rw[nM,uG,lR,Oh,Xn,qP,qP,o9,Bc];split
 .split
  .rfl
  .split
   .rfl
   .cases iL f.an n.aq<;>rfl
 .rfl
def Ay(h:i<ks.length):(ks.map (Nd.mp Y)).getD i kM=(ks.getD i kM).mp Y:=by simp[ij,h]
def avV{s:bC}(h:i<ks.length):kX s (ks.map (Nd.mp Y)) i=((kX s ks i).1,(kX s ks i).2.map Y):=by
 rw[kX,kX,Ay h,avU]
def aeA{s:bC}(h:s.bQ.length<=ks.length):wX s (ks.map (Nd.mp Y))=((wX s ks).1,(wX s ks).2.map Y):=by
 have e:∀i,i<s.bQ.length->kX s (ks.map (Nd.mp Y)) i=((kX s ks i).1,(kX s ks i).2.map Y):=λi hi=>avV (by omega)
 have e1:(bX s.bQ.length).find? (λi=>(kX s (ks.map (Nd.mp Y)) i).2.isSome)=(bX s.bQ.length).find? (λi=>(kX s ks i).2.isSome) :=
  find_congr λi hi=>by rw[e i (by simpa using hi)];simp
 unfold wX;rw[e1];cases hf:(bX s.bQ.length).find? (λi=>(kX s ks i).2.isSome) with
 | some i =>
  have hi:i<s.bQ.length:=by simpa using Ql hf
  simp only[e i hi]
 | none =>
  have e2:(λj=>if j<s.bQ.length then(kX s (ks.map (Nd.mp Y)) j).1 else 0#64)=λj=>if j<s.bQ.length then(kX s ks j).1 else 0#64:=funext λj=>by
   split
   .rename_i hj;rw[e j hj]
   .rfl
  simp only[e2];rfl
def KW{s:bC}(n:Nd):iZ s (n.mp Y)=((iZ s n).1,(iZ s n).2.map Y):=by
 have e1:qM s (n.mp Y)=qM s n:=by simp only[qM,nM,lR,aR]
 have e2:kP s (n.mp Y)=(kP s n).map (Nd.mp Y):=by unfold kP;split<;>simp[lR]
 unfold iZ;rw[e1,RM];split
 .rename_i h;rw[e2];refine aeA ?_;simp only[bF] at h;obtain⟨⟨h1,h2⟩,_⟩:=h;unfold qM at h1;unfold kP;cases ht:s.tuple with
  | true=>rw[ht] at h1;simp only[Bool.not_true,Gc,bF,cn] at h1;simp[h1.2]
  | false =>
   simp only[nR,ht,bF,nh,cn,da,false_or] at h2;simp[h2.1.2]
 .simp[Bc]
def afR{f:aQ}:(f.mp Y).cls=f.cls:=by unfold aQ.mp;split<;>rfl
def yE{x y:Int}(h:x≠0):(aQ.mk x y).mp Y=⟨x,Y y⟩:=by rw[aQ.mp,aA (by exact h)]
def wA{b:Bool}{x y:Int}(h:x≠0):ek b x (Y y)=(ek b x y).map (aQ.mp Y):=by cases b<;>simp[ek,yE h]
def Ea{U G:Type}{f:U->List aQ}{g:G->List aQ}{m:U->G}:∀{l:List U},(∀x∈l,g (m x)=(f x).map (aQ.mp Y))->(l.map m).flatMap g=(l.flatMap f).map (aQ.mp Y)
 | [],_=>rfl
 | x::l,h=>by rw[ch,qX,qX,gy,h x (by simp),Ea λy hy=>h y (by simp[hy])]
def K9{f g:Nat->List aQ}:∀{l:List Nat},(∀x∈l,g x=(f x).map (aQ.mp Y))->l.flatMap g=(l.flatMap f).map (aQ.mp Y)
 | [],_=>rfl
 | x::l,h=>by rw[qX,qX,gy,h x (by simp),K9 λy hy=>h y (by simp[hy])]
variable {s:aN} {lat:Int}
def Ju:iH s lat t (Y p) k=(iH s lat t p k).map (aQ.mp Y):=by
 unfold iH;cases lb s.vars t with
 | none=>simp only;split<;>simp[yE]
 | some v =>
  simp only;cases s.vars[v]? with
  | none=>rfl
  | some x=>simp only;split<;>simp[yE]
def ame:gS s (w.mp Y)=(gS s w).map (aQ.mp Y):=by
 unfold gS;rw[BH,BG];split
 .split<;>simp[yE]
 .rfl
def aeB{n:Nd}(h:0<n.aj.length):wY s lat (n.mp Y)=(wY s lat n).map Y:=by rw[wY,wY,lR,Ay h,KW]
def QV(n:Nd):kY s lat (n.mp Y)=(kY s lat n).map (aQ.mp Y):=by
 unfold kY;rw[nM,o9,Bc,Ju];split
 .rfl
 .split
  .unfold Aq;rw[lR,aR];split
   .rename_i h;rw[aeB h.1];cases wY s lat n<;>simp[yE]
   .rfl
  .rfl
def al8(n:Nd):f_ s lat (n.mp Y)=(f_ s lat n).map (aQ.mp Y):=by
 induction n using Nd.ind with
 | h n ih =>
  rw[Ik,Ik,nM,lR,QV,gy];congr 1;split
  .rfl
  .exact Ea ih
def aub:((ks.map (Nd.mp Y)).take i).map Nd.aq=(ks.take i).map Nd.aq:=by
 rw[<-Qg,DM];exact List.map_congr_left λn _=>o9 n
def ar4(n:Nd):ph s lat (Y p) (n.mp Y)=(ph s lat p n).map (aQ.mp Y):=by
 unfold ph;rw[nM,o9,Bc,Ju,lR,uG,aR];split
 .rfl
 .split
  .rw[gy,gy];congr 1
   .congr 1
    .refine K9 λi hi=>?_
     have hi:i<n.aj.length:=by simpa using hi
     rw[Aw,Aw,gy,Ay hi];congr 1
     .rw[vG,vG,aub,Ay hi,o9,Bc];split<;>simp[yE]
     .rw[lR];exact Ea λm _=>QV m
    .exact Ea λw _=>by rw[BH,BG,Ju]
   .split<;>simp[yE]
  .rfl
def acy:qq s (c.mp Y)=(qq s c).map (aQ.mp Y):=by
 have e:c8 s (c.mp Y)=c8 s c:=rfl;unfold qq;rw[e];simp only[az.mp,BH,BG,Ju,ame,al8,ar4];have hd:yy (c.right.mp Y)=(yy c.right).map (aQ.mp Y):=by unfold yy;rw[nM,Bc];split<;>simp[yE]
 rw[hd]
 repeat' split
 all_goals simp only[gy,fh]
def arO:tN (c.mp Y)=tN c:=by
 rw[tN,tN]
 have:(c.mp Y).bA.map (IV (dX (c.mp Y).an))=c.bA.map (IV (dX c.an)):=by
  simp only[az.mp,PH,DM];rfl
 rw[this];simp only[az.mp,aR]
def aqV:qO s (c.mp Y)=qO s c:=by
 rw[qO,qO];congr 1;simp only[az.mp,List.flatMap_map];rfl
def asO:wq s (c.mp Y)=(wq s c).map (aQ.mp Y):=by
 have h1:sd s (c.mp Y)=(sd s c).map (aQ.mp Y):=by
  show(if lr c.op then ek (iC s c.name.aq) 3 (Y c.name.pos) else ek (!iC s c.name.aq) 3 (Y c.name.pos)++ek (iC s c.name.aq&&!tC s c.name.aq) 4 (Y c.name.pos))=_;unfold sd
  by_cases h:lr c.op=ab
  .rw[aE h,aE h];exact wA (by decide)
  .rw[aA h,aA h,gy,wA (by decide),wA (by decide)]
 have h2:∀i,i<c.an.length->tG s (c.mp Y) i=(tG s c i).map (aQ.mp Y):=λi hi=>by
  have e:(c.mp Y).an.getD i ⟨[],0⟩=(c.an.getD i ⟨[],0⟩).mp Y:=by simp[az.mp,ij,hi]
  have e1:dX (c.mp Y).an=dX c.an:=PH;have e2:(c.mp Y).op=c.op:=rfl;unfold tG;rw[e,e1,e2];simp only[BH,BG];split
  .rw[gy,wA (by decide),wA (by decide)]
  .exact wA (by decide)
 have h3:tM (c.mp Y)=(tM c).map (aQ.mp Y):=by
  have e1:dX (c.mp Y).an=dX c.an:=PH;refine Ea (l:=c.bA) (f:=qN c) (g:=qN (c.mp Y)) λp _=>?_
  rw[qN,qN,tH,tH,tH,tH,e1,gy,BH,BG,BH,BG,wA (by decide),wA (by decide)]
 have h4:rF (c.mp Y)=(rF c).map (aQ.mp Y):=by
  unfold rF;rw[arO];simp only[az.mp,aR];split
  .exact wA (by decide)
  .rfl
 have h5:mS s (c.mp Y)=(mS s c).map (aQ.mp Y):=by
  unfold mS;rw[aqV];simp only[az.mp,aR];split<;>exact wA (by decide)
 have hn:(c.mp Y).an.length=c.an.length:=by simp[az.mp]
 rw[wq,wq,h1,h3,h4,h5,hn,lS,lS,K9 (f:=tG s c) λi hi=>h2 i (by simpa using hi)];simp only[gy]
def Nm{l:List aQ}:(fI l).cls=0↔∀f∈l,f.cls=0 :=
 ⟨λh=>(Nn h).2,λh=>by rw[Va h];rfl⟩
def U'{l:List aQ}:(fI (l.map (aQ.mp Y))).cls=0↔(fI l).cls=0:=by
 rw[Nm,Nm];simp[afR]
def QU{lat:Nat}{n:Nd}(h:n.kind=1\/0<n.aj.length):rW s lat (n.mp Y)=rW s lat n:=by
 unfold rW;rw[nM,o9,lR];split
 .rfl
 .rename_i h1;rw[Ay (h.resolve_left h1),KW]
def amH{lat:Nat}{n:Nd}(h:n.kind=1\/0<n.aj.length):o8 s lat (n.mp Y)=o8 s lat n:=by
 unfold o8;rw[nM,o9,lR];split
 .rfl
 .rename_i h1;rw[Ay (h.resolve_left h1),KW];simp only;cases (iZ (wy s lat) (n.aj.getD 0 kM)).2<;>rfl
def RJ{lat:Nat}:∀{l:List Nd},(∀m∈l,n9 s lat (m.mp Y)=n9 s lat m)->q_ s lat (l.map (Nd.mp Y))=q_ s lat l
 | [],_=>rfl
 | n::ns,h=>by rw[ch,q_,q_,h n (by simp),RJ λm hm=>h m (by simp[hm])]
def acI{lat:Nat}(n:Nd):n.fA=ab->n9 s lat (n.mp Y)=n9 s lat n:=by
 induction n using Nd.ind with
 | h n ih =>
  intro hq;rw[KL,KL,nM,lR];have ho:tJ (n.mp Y)=tJ n:=by simp only[tJ,nM,lR,aR]
  rw[ho];split
  .rename_i h;rw[amH ?_]
   rcases h with h | h
   .exact .inl h
   .exact .inr (by rw[Fb hq h];omega)
  .rename_i h;rw[RJ λm hm=>ih m hm (UY hq h m hm)]
def Xl{lat:Nat}{n:Nd}(h:∀k∈n.aj,0<k.aj.length/\∀a∈k.aj,a.kind=1\/0<a.aj.length):mZ s lat (n.mp Y)=mZ s lat n:=by
 unfold mZ;rw[nM,o9,lR,uG,DM];have e1:n.aj.map (vN s lat∘Nd.mp Y)=n.aj.map (vN s lat):=List.map_congr_left λk hk=>by
  obtain⟨h1,h2⟩:=h k hk;show vN s lat (k.mp Y)=_;rw[vN,vN,o9,lR,Ay h1,QU]
  have:k.aj.getD 0 kM∈k.aj:=by rw[r9 h1];exact fg _
  exact h2 _ this
 have e2:Bv s (n.an.map (aB.mp Y))=Bv s n.an:=by cases n.an<;>rfl
 rw[e1,e2]
end
def am2{r:Rm}(h:jc r c=ab):c.op≠12:=λe=>by
 simp[jc,rL,vu,e] at h
def Nu{s:aN}{r:Rm}{t:List UInt8}(h:(cM t).2.1≠0):lP s r t=(.zero,.zero,SL (cM t).2):=by rw[lP,aE h]
def Ix{s:aN}{r:Rm}{t:List UInt8}(h:(cM t).2.1=0)(h' : (fI (j_ s r (cM t).1)).cls≠0):lP s r t=(.zero,.zero,fI (j_ s r (cM t).1)):=by rw[lP,aA (by simpa using h),aE h']
def C4{s:aN}{r:Rm}{t:List UInt8}(h:(cM t).2.1=0)(h' : (fI (j_ s r (cM t).1)).cls=0):lP s r t=((cM t).1,if kn s (cM t).1 then mN s (cM t).1 else .zero,.zero):=by
 rw[lP,aA (by simpa using h),aA (by simpa using h')]
def mL{G:Type}(f:G->G->Bool):List G->List G->Bool
 | [],[]=>ab
 | x::xs,y::ys=>f x y&&mL f xs ys
 | _,_=>ak
def Kj:∀a b:List Nd,mL Nd.c9 a b=dP a b
 | [],[]=>by simp[mL,dP]
 | [],_::_=>by simp[mL,dP]
 | _::_,[]=>by simp[mL,dP]
 | x::xs,y::ys=>by simp[mL,dP,Kj xs ys]
def qg(a b:aB):Bool:=decide (a.aq=b.aq)
def Ki:∀a b:List aB,mL qg a b=ey a b
 | [],[]=>rfl
 | [],_::_=>rfl
 | _::_,[]=>rfl
 | x::xs,y::ys=>by simp[mL,ey,qg,Ki xs ys]
def at_(pre us:List al)(fin:Int)(k:Nat):ae:=⟨pre++us,((pre.length+k:Nat):Int),fin,ag⟩
variable{post pre:List al}
def pn{t:al}{fin:Int}:(at_ pre (t::post) fin 0).bW k=decide (t.tok.kind=k):=by
 simp[at_,ae.bW,ae.ok,a8]
def XZ{fin:Int}:(at_ pre [] fin 0).bW k=false:=by
 simp[at_,ae.bW,ae.ok,a8]
def nW{t:al}{fin:Int}(h:t.tok.kind=k):(at_ pre (t::post) fin 0).take k=(t,at_ (pre++[t]) post fin 0):=by
 have hs:=pn (pre:=pre) (post:=post) (t:=t) (fin:=fin) (k:=k);rw[aJ h] at hs;rw[ae.take,aE hs];simp[at_]
def sM(one:Nat->ae->G × ae)(sm:G->G->Bool)(x:G)(sh:List Sh):Prop :=
 ∀toks:List Tok,toks.map Tok.sh=sh->∃us:List al,us≠[]/\bu us=toks/\fG us /\
  ∀N,bd us<=N->∀(pre post:List al) (fin:Int),∃y,one N (at_ pre (us++post) fin 0)=(y,at_ (pre++us) post fin 0)/\sm y x=ab
variable{toks:List Tok}
def FN(h:toks.map Tok.sh=[gd t]):∃p,toks=[⟨97,t,p⟩]:=by
 match toks,h with
 | [⟨k, s, p⟩], h =>
  simp[Tok.sh,gd] at h;exact⟨p,by rw[h.1,h.2]⟩
def uU{c:UInt8}(h:toks.map Tok.sh=[bM c]):∃p,toks=[⟨(c.toNat:Nat),[c],p⟩]:=by
 match toks,h with
 | [⟨k, s, p⟩], h =>
  simp[Tok.sh,bM] at h;exact⟨p,by rw[h.1,h.2]⟩
def wb{t:Tok}(h1:closing t.kind=0)(h2:j5 t.kind=ak):bu [.mk t [] t.pos]=[t]/\fG [.mk t [] t.pos]:=by
 refine⟨by simp[bu,al.flat,h1],?_⟩;simp[fG,al.WF,h2]
def yb(w:aB):sM (λ_=>ae.word) qg w [gd w.aq]:=by
 intro toks h;obtain⟨p,rfl⟩:=FN h;obtain⟨f1,f2⟩:=wb (t:=⟨97,w.aq,p⟩) rfl rfl;refine⟨_,by simp,f1,f2,λN _ pre post fin=>⟨⟨w.aq,p⟩,?_,by simp[qg]⟩⟩
 have:=nW (pre:=pre) (post:=post) (t:=.mk ⟨97,w.aq,p⟩ [] p) (fin:=fin) (k:=97) rfl
 simp only[n6,ae.word,this];rfl
def uT{m n:Nd}(k:m.kind=n.kind)(t:m.aq=n.aq)(w:ey m.an n.an=ab)(s:dP m.aj n.aj=ab):m.c9 n=true:=by
 rw[Nd.Di,aJ k,aJ t,w,s];rfl
def Nl{n:Nd}(hk:n.kind=k)(h:n.lu=ab):sM (λ_=>ae.leaf k) Nd.c9 n [gd n.aq]:=by
 intro toks ht;obtain⟨us,h1,h2,h3,h4⟩:=yb ⟨n.aq,0⟩ toks ht;refine⟨us,h1,h2,h3,λN hN pre post fin=>?_⟩;obtain⟨y,e1,e2⟩:=h4 N hN pre post fin;refine⟨.mk k y.pos y.aq [] [],by simp only[ae.leaf,e1],?_⟩;simp only[Nd.lu,bF,cn] at h;have hn:n.an=[]:=ke.1 (by omega);have fW:n.aj=[]:=ke.1 (by omega);simp only[qg,cn] at e2;exact uT hk.symm e2 (show ey [] n.an=ab by rw[hn];rfl) (show dP [] n.aj=ab by rw[fW];simp[dP])
def Gu(post:List al):Prop:=∀t r,post=t::r->t.tok.kind≠44
def aor{fin:Int}(h:Gu post):(at_ pre post fin 0).bW 44=false:=by
 cases post with
 | nil=>exact XZ
 | cons t r=>rw[pn];exact aI (h t r rfl)
section
variable {G:Type} {one:Nat->ae->G × ae} {sm:G->G->Bool} {S:G->List Sh}
def S_:∀(xs:List G),(∀x∈xs,sM one sm x (S x))->∀toks:List Tok,toks.map Tok.sh=(xs.map S).flatMap (λy=>bM 44::y) ->
 ∃us:List al,bu us=toks/\fG us/\xs.length<=us.length/\∀N,bd us<=N->∀(pre post:List al) (fin:Int) (n:Nat) (acc:List G),xs.length<=n->Gu post ->
  ∃ys,jr (cw (one N)) n (at_ pre (us++post) fin 0,acc)=(at_ (pre++us) post fin 0,acc++ys)/\mL sm ys xs=ab
 | [], _, toks, ht => by
  have:toks=[]:=by simpa using ht
  subst this;refine⟨[],rfl,trivial,by simp,λN _ pre post fin n acc _ hp=>⟨[],?_,rfl⟩⟩;cases n with
  | zero=>simp[jr]
  | succ n=>rw[jr];simp[aor hp]
 | x :: xs, h, toks, ht => by
  simp only[ch,qX] at ht;obtain⟨t1,t3,rfl,h1,h3⟩:=jX.1 ht;obtain⟨tc,t2,rfl,hc,h2⟩:=jX.1 (show t1.map Tok.sh=[bM 44]++S x from h1);obtain⟨p,rfl⟩:=uU hc;obtain⟨f1,f2⟩:=wb (t:=⟨((44:UInt8).toNat:Nat),[44],p⟩) rfl rfl;obtain⟨ux,n1,e1,w1,b1⟩:=h x (by simp) t2 h2;obtain⟨us,e2,w2,l2,b2⟩:=S_ xs (λy hy=>h y (by simp[hy])) t3 h3;generalize hT:(al.mk ⟨((44:UInt8).toNat:Nat),[44],p⟩ [] p)=T at f1 f2;have hk:T.tok.kind=44:=by rw[<-hT];rfl
  refine⟨[T]++ux++us,?_,?_,?_,?_⟩
  .rw[iM,iM,e1,e2,<-f1,<-hT]
  .rw[kz,kz];exact⟨⟨by rw[<-hT] at f2 ⊢;exact f2,w1⟩,w2⟩
  .simp only[bP,dB,eM];omega
  .intro N hN pre post fin n acc hn hp;simp only[tF] at hN;obtain⟨n,rfl⟩:∃m,n=m+1:=⟨n - 1,by simp at hn;omega⟩;obtain⟨y,q1,q2⟩:=b1 N (by omega) (pre++[T]) (us++post) fin;obtain⟨ys,q3,q4⟩:=b2 N (by omega) (pre++[T]++ux) post fin n (acc++[y]) (by simp at hn;omega) hp;refine⟨y::ys,?_,by simp[mL,q2,q4]⟩;have es:[T]++ux++us++post=T::(ux++(us++post)):=by simp
   rw[es,jr];simp only[pn,hk,bL,cm];rw[nW hk];simp only[cw,q1];rw[show pre++([T]++ux++us)=pre++[T]++ux++us by simp,q3];simp
def Yj{x:G}{xs:List G}(h:∀y∈x::xs,sM one sm y (S y))(ht:toks.map Tok.sh=fi ((x::xs).map S)):
 ∃us:List al,us≠[]/\bu us=toks/\fG us/\∀N,bd us<=N->∀(pre post:List al) (fin:Int),Gu post ->
  ∃ys,eB (cw (one N)) (at_ pre (us++post) fin 0)=(at_ (pre++us) post fin 0,ys)/\mL sm ys (x::xs)=true:=by
 simp only[ch,fi] at ht;obtain⟨t1,t2,rfl,h1,h2⟩:=jX.1 ht;obtain⟨ux,n1,e1,w1,b1⟩:=h x (by simp) t1 h1;obtain⟨us,e2,w2,l2,b2⟩:=S_ xs (λy hy=>h y (by simp[hy])) t2 h2;refine⟨ux++us,by simp[n1],by rw[iM,e1,e2],by rw[kz];exact⟨w1,w2⟩,λN hN pre post fin hp=>?_⟩;rw[tF] at hN;obtain⟨y,q1,q2⟩:=b1 N (by omega) pre (us++post) fin;obtain⟨ys,q3,q4⟩:=b2 N (by omega) (pre++ux) post fin (at_ pre (ux++us++post) fin 0).l.length [y] (by simp[at_];omega) hp;refine⟨y::ys,?_,by simp[mL,q2,q4]⟩;unfold eB;simp only[cw,e9] at q1 q3 ⊢;rw[q1];simp only[gN];rw[q3];simp
def atk{a:UInt8}(h:closing (a.toNat:Nat)=(b.toNat:Nat)):[UInt8.ofNat (closing (a.toNat:Nat)).toNat]=[b]:=by rw[h];simp
def Kw{a:UInt8}{xs:List G}(yO:closing (a.toNat:Nat)=(b.toNat:Nat))(Et:(b.toNat:Int)≠0)(hca:j5 (a.toNat:Nat)=ak)(h:∀y∈xs,sM one sm y (S y))(he:xs=[]->e=ab)
 (ht:toks.map Tok.sh=[bM a]++fi (xs.map S)++[bM b]) :
 ∃T:al,bu [T]=toks/\fG [T]/\T.tok.kind=(a.toNat:Nat)/\∀N,bd [T]<=N+1->∀(pre post:List al) (fin:Int),
  ∃ys p,(at_ pre (T::post) fin 0).bracket (cw (one N)) (a.toNat:Nat) e=((ys,p),at_ (pre++[T]) post fin 0)/\mL sm ys xs=true:=by
 obtain⟨t1,t3,rfl,h1,h3⟩:=jX.1 ht;obtain⟨ta,t2,rfl,ha,h2⟩:=jX.1 h1;obtain⟨pa,rfl⟩:=uU ha;obtain⟨pb,rfl⟩:=uU h3;have TQ:closing (a.toNat:Nat)≠0:=by rw[yO];exact Et
 have key:∃us:List al,bu us=t2/\fG us/\∀N,bd us<=N->∀(T:al),T.aj=us->∃ys,ae.inside (cw (one N)) e T=(at_ us [] T.fin 0,ys)/\mL sm ys xs=true:=by
  cases xs with
  | nil =>
   have:t2=[]:=by simpa [fi] using h2
   subst this;refine⟨[],rfl,trivial,λN _ T hT=>⟨[],?_,rfl⟩⟩;rw[ae.inside,aE ⟨he rfl,by rw[hT];rfl⟩];simp[al.inner,at_,hT]
  | cons x xs =>
   obtain⟨us,n1,e1,w1,b1⟩:=Yj h h2;refine⟨us,e1,w1,λN hN T hT=>?_⟩;obtain⟨ys,q1,q2⟩:=b1 N hN [] [] T.fin (λt r h=>by simp at h);refine⟨ys,?_,q2⟩;rw[ae.inside,aA (λh=>n1 (by rw[<-hT];exact ke.1 h.2))]
   have:T.inner=at_ [] (us++[]) T.fin 0:=by simp[al.inner,at_,hT]
   rw[this,q1];simp
 obtain⟨us,e1,w1,b1⟩:=key;refine⟨.mk ⟨(a.toNat:Nat),[a],pa⟩ us pb,?_,?_,rfl,?_⟩
 .simp only[bu,al.flat,eK];rw[aE TQ,e1,atk yO,yO];simp
 .simp only[fG,al.WF];exact⟨⟨hca,λh=>absurd h TQ,w1⟩,trivial⟩
 .intro N hN pre post fin;obtain⟨ys,q1,q2⟩:=b1 N (by simp only[bd,al.many] at hN;omega) (.mk ⟨(a.toNat:Nat),[a],pa⟩ us pb) rfl;refine⟨ys,pa,?_,q2⟩;unfold ae.bracket;rw[nW (t:=.mk ⟨(a.toNat:Nat),[a],pa⟩ us pb) (k:=(a.toNat:Nat)) rfl];simp only[q1];have cu:(at_ (pre++[al.mk ⟨(a.toNat:Nat),[a],pa⟩ us pb]) post fin 0).ok=true:=rfl;rw[aE cu];have gu:(at_ us [] pb 0).close=at_ us [] pb 0:=by unfold ae.close;rw[aA];simp[at_]
  simp only[ae.under,al.fin,gu,al.tok];rfl
end
def akA{s:Sh}{r:List Sh}(h0:us≠[])(h:(bu us).map Tok.sh=s::r):∃t ts,us=t::ts/\t.tok.kind=s.1:=by
 cases us with
 | nil=>exact absurd rfl h0
 | cons t ts =>
  refine⟨t,ts,rfl,?_⟩;have e:bu (t::ts)=bu [t]++bu ts:=iM [t] ts;rw[e,Hm] at h;simp only[iv,ch,ig] at h;rw[<-h.1];rfl
def zy{fin:Int}{s:Sh}{r:List Sh}(h0:us≠[])(hf:bu us=toks)(h:toks.map Tok.sh=s::r):(at_ pre (us++post) fin 0).bW k=decide (s.1=k):=by
 obtain⟨t,ts,rfl,hk⟩:=akA h0 (by rw[hf];exact h);rw[iv,pn,hk]
def Bb(h:us≠[]):1<=bd us:=by
 cases us with
 | nil=>exact absurd rfl h
 | cons t ts=>simp only[bd];omega
def Dj{c:UInt8}(h:(decide (closing (c.toNat:Nat)=0)&&!j5 (c.toNat:Nat))=ab)(ht:toks.map Tok.sh=[bM c]):∃T:al,bu [T]=toks/\fG [T]/\T.tok.kind=(c.toNat:Nat):=by
 simp only[bF,cn,vb] at h;obtain⟨p,rfl⟩:=uU ht;obtain⟨f1,f2⟩:=wb (t:=⟨(c.toNat:Nat),[c],p⟩) h.1 h.2;exact⟨_,f1,f2,rfl⟩
def Y3(ht:toks.map Tok.sh=[bM 123]++lY ws++[bM 125]):
 ∃T:al,bu [T]=toks/\fG [T]/\T.tok.kind=123/\∀(pre post:List al) (fin:Int),∃ys p,(at_ pre (T::post) fin 0).words ab=((ys,p),at_ (pre++[T]) post fin 0)/\ey ys ws=true:=by
 obtain⟨T,h1,h2,h3,h4⟩:=Kw (one:=λ_=>ae.word) (sm:=qg) (S:=λw=>[gd w.aq]) (a:=123) (b:=125) (e:=true) (xs:=ws) (by decide) (by decide) (by decide) (λw _=>yb w) (λ_=>rfl) ht;refine⟨T,h1,h2,h3,λpre post fin=>?_⟩;obtain⟨ys,p,q1,q2⟩:=h4 (bd [T]) (by omega) pre post fin;rw[Ki] at q2;exact⟨ys,p,q1,q2⟩
def IK{one:Nat->ae->Nd × ae}{a:UInt8}(yO:(decide (closing (a.toNat:Nat)=(b.toNat:Nat))&&decide ((b.toNat:Int)≠0)&&!j5 (a.toNat:Nat))=ab)(h:∀y∈ks,sM one Nd.c9 y y.gW)(he:ks=[]->e=ab)
 (ht:toks.map Tok.sh=[bM a]++fi (gX ks)++[bM b]) :
 ∃T:al,bu [T]=toks/\fG [T]/\T.tok.kind=(a.toNat:Nat)/\∀N,bd [T]<=N+1->∀(pre post:List al) (fin:Int),
  ∃ys p,(at_ pre (T::post) fin 0).nodes (one N) (a.toNat:Nat) e=((ys,p),at_ (pre++[T]) post fin 0)/\dP ys ks=true:=by
 simp only[bF,cn,vb] at yO;rw[FP] at ht;obtain⟨T,h1,h2,h3,h4⟩:=Kw (one:=one) (sm:=Nd.c9) (S:=Nd.gW) (e:=e) yO.1.1 yO.1.2 yO.2 h he ht;refine⟨T,h1,h2,h3,λN hN pre post fin=>?_⟩;obtain⟨ys,p,q1,q2⟩:=h4 N hN pre post fin;rw[Kj] at q2;exact⟨ys,p,q1,q2⟩
def asl{n:Nd}(h:n.qd=ab):sM (λ_=>ae.pj) Nd.c9 n n.gW:=by
 obtain⟨k,h1,h2,h3⟩:=Xp h;intro toks ht;have e:n.gW=[gd n.aq]++[bM 58]++([bM 123]++lY n.an++[bM 125]):=by rw[Nd.kU,k];rfl
 rw[e] at ht;obtain⟨t1,t3,rfl,a1,a3⟩:=jX.1 ht;obtain⟨tw,tc,rfl,aw,ac⟩:=jX.1 a1;obtain⟨uw,n1,f1,w1,b1⟩:=yb ⟨n.aq,0⟩ tw aw;obtain⟨C,f2,w2,c2⟩:=Dj (by decide) ac;obtain⟨T,f3,w3,c3,b3⟩:=Y3 a3;refine⟨uw++[C]++[T],by simp,by rw[iM,iM,f1,f2,f3],by rw[kz,kz];exact⟨⟨w1,w2⟩,w3⟩,λN hN pre post fin=>?_⟩;obtain⟨y,q1,q2⟩:=b1 (bd uw) (bS _) pre ([C]++[T]++post) fin;obtain⟨ys,p,q3,q4⟩:=b3 (pre++uw++[C]) post fin;have q5:=nW (pre:=pre++uw) (post:=[T]++post) (t:=C) (fin:=fin) (k:=58) c2;refine⟨.mk 6 y.pos y.aq ys [],?_,?_⟩
 .have es:uw++[C]++[T]++post=uw++([C]++[T]++post):=by simp
  have uO : (at_ pre (uw++([C]++[T]++post)) fin 0).word=(y,at_ (pre++uw) ([C]++[T]++post) fin 0):=q1;have On : (at_ (pre++uw) ([C]++[T]++post) fin 0).take 58=(C,at_ (pre++uw++[C]) (T::post) fin 0):=q5;simp only[es,ae.pj,uO,On,q3];simp
 .simp only[qg,cn] at q2;exact uT k.symm q2 q4 (show dP [] n.aj=ab by rw[h3];simp[dP])
def acN:∀(k:Nat) (n:Nd),n.wt<=k->n.iY=ab->sM ae.constant Nd.c9 n n.gW:=by
 intro k;induction k with
 | zero=>intro n h _;cases n;simp only[Nd.wt] at h;omega
 | succ k ih =>
  intro n hk h toks ht
  rcases RQ h with ⟨h1,h2⟩ | ⟨h1,h2,h3,h4⟩ | ⟨h1,h2,h3,h4,h5⟩ | ⟨h1,h2,h3,h4⟩
  .have e:n.gW=[gd n.aq]:=by rw[Nd.kU,h1];rfl
   rw[e] at ht;obtain⟨us,n1,f1,w1,b1⟩:=Nl h1 h2 toks ht;refine⟨us,n1,f1,w1,λN hN pre post fin=>?_⟩;have hp:=Bb n1;obtain⟨N,rfl⟩:∃m,N=m+1:=⟨N - 1,by omega⟩;obtain⟨y,q1,q2⟩:=b1 _ hN pre post fin;refine⟨y,?_,q2⟩;have s1:=zy (pre:=pre) (post:=post) (fin:=fin) (k:=123) n1 f1 ht;have s2:=zy (pre:=pre) (post:=post) (fin:=fin) (k:=40) n1 f1 ht;have s3:=zy (pre:=pre) (post:=post) (fin:=fin) (k:=91) n1 f1 ht;rw[ae.constant,s1,s2,s3];exact q1
  .have e:n.gW=[bM 123]++lY n.an++[bM 125]:=by rw[Nd.kU,h1];rfl
   rw[e] at ht;obtain⟨T,f1,w1,c1,b1⟩:=Y3 ht;refine⟨[T],by simp,f1,w1,λN hN pre post fin=>?_⟩;have hp:=Bb (us:=[T]) (by simp);obtain⟨N,rfl⟩:∃m,N=m+1:=⟨N - 1,by omega⟩;obtain⟨ys,p,q1,q2⟩:=b1 pre post fin;refine⟨.mk 3 p [] ys [],?_,uT h1.symm h2.symm q2 (show dP [] n.aj=ab by rw[h4];simp[dP])⟩;rw[n6,ae.constant,aE (by rw[pn,c1];rfl),q1]
  .have e:n.gW=[bM 40]++fi (gX n.aj)++[bM 41]:=by rw[Nd.kU,h1];rfl
   rw[e] at ht;obtain⟨T,f1,w1,c1,b1⟩:=IK (one:=ae.constant) (e:=false) (by decide) (λm hm=>ih m (by have:=Ii hm;omega) (h5 m hm)) (λh=>absurd h h4) ht;refine⟨[T],by simp,f1,w1,λN hN pre post fin=>?_⟩;have hp:=Bb (us:=[T]) (by simp);obtain⟨N,rfl⟩:∃m,N=m+1:=⟨N - 1,by omega⟩;obtain⟨ys,p,q1,q2⟩:=b1 N hN pre post fin;refine⟨.mk 4 p [] [] ys,?_,uT h1.symm h2.symm (show ey [] n.an=ab by rw[h3];rfl) q2⟩;have uO : (at_ pre (T::post) fin 0).nodes (ae.constant N) 40 ak=((ys,p),at_ (pre++[T]) post fin 0):=q1;rw[n6,ae.constant,aA (by rw[pn,c1];decide),aE (by rw[pn,c1];rfl),uO]
  .have e:n.gW=[bM 91]++fi (gX n.aj)++[bM 93]:=by rw[Nd.kU,h1];rfl
   rw[e] at ht;obtain⟨T,f1,w1,c1,b1⟩:=IK (one:=λ_=>ae.pj) (e:=true) (by decide) (λm hm=>asl (h4 m hm)) (λ_=>rfl) ht;refine⟨[T],by simp,f1,w1,λN hN pre post fin=>?_⟩;have hp:=Bb (us:=[T]) (by simp);obtain⟨N,rfl⟩:∃m,N=m+1:=⟨N - 1,by omega⟩;obtain⟨ys,p,q1,q2⟩:=b1 N hN pre post fin;refine⟨.mk 5 p [] [] ys,?_,uT h1.symm h2.symm (show ey [] n.an=ab by rw[h3];rfl) q2⟩;have uO : (at_ pre (T::post) fin 0).nodes ae.pj 91 ab=((ys,p),at_ (pre++[T]) post fin 0):=q1;rw[n6,ae.constant,aA (by rw[pn,c1];decide),aA (by rw[pn,c1];decide),aE (by rw[pn,c1];rfl),uO]
def QW{n:Nd}(h:n.fA=ab)(hk:n.kind=1\/n.kind=7):sM ae.atom Nd.c9 n n.gW:=by
 intro toks ht
 rcases Ff h with ⟨h1,h2⟩ | ⟨h1,h2,h3,c,h4,h5⟩ | ⟨h1,_⟩
 .have e:n.gW=[gd n.aq]:=by rw[Nd.kU,h1];rfl
  rw[e] at ht;obtain⟨us,n1,f1,w1,b1⟩:=Nl h1 h2 toks ht;refine⟨us,n1,f1,w1,λN hN pre post fin=>?_⟩;obtain⟨y,q1,q2⟩:=b1 _ hN pre post fin;refine⟨y,?_,q2⟩;have s1:=zy (pre:=pre) (post:=post) (fin:=fin) (k:=35) n1 f1 ht;rw[ae.atom,s1];exact q1
 .have e:n.gW=[bM 35]++c.gW:=by rw[Nd.kU,h1,h4];rfl
  rw[e] at ht;obtain⟨t1,t2,rfl,a1,a2⟩:=jX.1 ht;obtain⟨C,f2,w2,c2⟩:=Dj (by decide) a1;obtain⟨us,n1,f1,w1,b1⟩:=acN _ c (bS _) h5 t2 a2;refine⟨[C]++us,by simp,by rw[iM,f1,f2],by rw[kz];exact⟨w2,w1⟩,λN hN pre post fin=>?_⟩;rw[tF] at hN;obtain⟨y,q1,q2⟩:=b1 N (by omega) (pre++[C]) post fin;have q5:=nW (pre:=pre) (post:=us++post) (t:=C) (fin:=fin) (k:=35) c2;refine⟨.mk 7 C.tok.pos [] [] [y],?_,uT h1.symm h2.symm (show ey [] n.an=ab by rw[h3];rfl) (show dP [y] n.aj=ab by rw[h4];simp[dP,q2])⟩;rw[e9,n6,ae.atom,aE (by rw[pn,c2];rfl),q5];simp only[q1];simp
 .omega
def al9:∀(k:Nat) (n:Nd),n.wt<=k->n.fA=ab->sM ae.label Nd.c9 n n.gW:=by
 intro k;induction k with
 | zero=>intro n h _;cases n;simp only[Nd.wt] at h;omega
 | succ k ih =>
  intro n hk h toks ht
  by_cases gF:n.kind=1\/n.kind=7
  .obtain⟨us,n1,f1,w1,b1⟩:=QW h gF toks ht;refine⟨us,n1,f1,w1,λN hN pre post fin=>?_⟩;have hp:=Bb n1;obtain⟨N,rfl⟩:∃m,N=m+1:=⟨N - 1,by omega⟩;obtain⟨y,q1,q2⟩:=b1 _ hN pre post fin;refine⟨y,?_,q2⟩;obtain⟨s,r,hs,nz,mO⟩:∃s r,toks.map Tok.sh=s::r/\s.1≠43/\s.1≠38:=by
    rw[ht,Nd.kU]
    rcases gF with e | e<;>rw[e]
    .exact⟨_,_,rfl,(by decide:(97:Int)≠43),(by decide:(97:Int)≠38)⟩
    .exact⟨_,_,rfl,(by decide:(35:Int)≠43),(by decide:(35:Int)≠38)⟩
   have s1:=zy (pre:=pre) (post:=post) (fin:=fin) (k:=43) n1 f1 hs;have s2:=zy (pre:=pre) (post:=post) (fin:=fin) (k:=38) n1 f1 hs;rw[aI nz] at s1;rw[aI mO] at s2;rw[ae.label,s1,s2];exact q1
  .rcases Ff h with ⟨h1,_⟩ | ⟨h1,_⟩ | ⟨h1,h2,h3,h4,h5⟩
   .omega
   .omega
   have td:=λm hm=>ih m (by have:=Ii hm;omega) (h5 m hm)
   rcases h1 with h1 | h1
   .have e:n.gW=[bM 43]++([bM 40]++fi (gX n.aj)++[bM 41]):=by rw[Nd.kU,h1];rfl
    rw[e] at ht;obtain⟨t1,t2,rfl,a1,a2⟩:=jX.1 ht;obtain⟨C,f2,w2,c2⟩:=Dj (by decide) a1;obtain⟨T,f1,w1,c1,b1⟩:=IK (one:=ae.label) (e:=false) (by decide) td (λh=>absurd h h4) a2;refine⟨[C]++[T],by simp,by rw[iM,f1,f2],by rw[kz];exact⟨w2,w1⟩,λN hN pre post fin=>?_⟩;rw[tF] at hN;have hp:=Bb (us:=[C]) (by simp);obtain⟨N,rfl⟩:∃m,N=m+1:=⟨N - 1,by omega⟩;obtain⟨ys,p,q1,q2⟩:=b1 N (by omega) (pre++[C]) post fin;have q5:=nW (pre:=pre) (post:=T::post) (t:=C) (fin:=fin) (k:=43) c2;refine⟨.mk 8 C.tok.pos [] [] ys,?_,uT h1.symm h2.symm (show ey [] n.an=ab by rw[h3];rfl) q2⟩;have uO : (at_ (pre++[C]) (T::post) fin 0).nodes (ae.label N) 40 ak=((ys,p),at_ (pre++[C]++[T]) post fin 0):=q1;rw[e9,n6,n6,ae.label,aE (by rw[pn,c2];rfl),q5];simp only[uO];simp
   .have e:n.gW=[bM 38]++([bM 40]++fi (gX n.aj)++[bM 41]):=by rw[Nd.kU,h1];rfl
    rw[e] at ht;obtain⟨t1,t2,rfl,a1,a2⟩:=jX.1 ht;obtain⟨C,f2,w2,c2⟩:=Dj (by decide) a1;obtain⟨T,f1,w1,c1,b1⟩:=IK (one:=ae.label) (e:=false) (by decide) td (λh=>absurd h h4) a2;refine⟨[C]++[T],by simp,by rw[iM,f1,f2],by rw[kz];exact⟨w2,w1⟩,λN hN pre post fin=>?_⟩;rw[tF] at hN;have hp:=Bb (us:=[C]) (by simp);obtain⟨N,rfl⟩:∃m,N=m+1:=⟨N - 1,by omega⟩;obtain⟨ys,p,q1,q2⟩:=b1 N (by omega) (pre++[C]) post fin;have q5:=nW (pre:=pre) (post:=T::post) (t:=C) (fin:=fin) (k:=38) c2;refine⟨.mk 9 C.tok.pos [] [] ys,?_,uT h1.symm h2.symm (show ey [] n.an=ab by rw[h3];rfl) q2⟩;have uO : (at_ (pre++[C]) (T::post) fin 0).nodes (ae.label N) 40 ak=((ys,p),at_ (pre++[C]++[T]) post fin 0):=q1;rw[e9,n6,n6,ae.label,aA (by rw[pn,c2];decide),aE (by rw[pn,c2];rfl),q5];simp only[uO];simp
def afw{n:Nd}(h:n.me=ab):sM ae.field Nd.c9 n n.gW:=by
 obtain⟨k,h1,h2,c,h3,h4⟩:=Hj h;intro toks ht;have e:n.gW=[gd n.aq]++[bM 61]++c.gW:=by rw[Nd.kU,k,h3];rfl
 rw[e] at ht;obtain⟨t1,t3,rfl,a1,a3⟩:=jX.1 ht;obtain⟨tw,tc,rfl,aw,ac⟩:=jX.1 a1;obtain⟨uw,n1,f1,w1,b1⟩:=yb ⟨n.aq,0⟩ tw aw;obtain⟨C,f2,w2,c2⟩:=Dj (by decide) ac;have hc:c.kind=1\/c.kind=7:=by simp only[Nd.qo,bF,nh,cn] at h4;exact h4.1
 obtain⟨ua,n3,f3,w3,b3⟩:=QW (GP h4) hc t3 a3;refine⟨uw++[C]++ua,by simp,by rw[iM,iM,f1,f2,f3],by rw[kz,kz];exact⟨⟨w1,w2⟩,w3⟩,λN hN pre post fin=>?_⟩;rw[tF] at hN;obtain⟨y,q1,q2⟩:=b1 (bd uw) (bS _) pre ([C]++ua++post) fin;obtain⟨z,q3,q4⟩:=b3 N (by omega) (pre++uw++[C]) post fin;have q5:=nW (pre:=pre++uw) (post:=ua++post) (t:=C) (fin:=fin) (k:=61) c2;refine⟨.mk 11 y.pos y.aq [] [z],?_,?_⟩
 .have es:uw++[C]++ua++post=uw++([C]++ua++post):=by simp
  have uO : (at_ pre (uw++([C]++ua++post)) fin 0).word=(y,at_ (pre++uw) ([C]++ua++post) fin 0):=q1;have On : (at_ (pre++uw) ([C]++ua++post) fin 0).take 61=(C,at_ (pre++uw++[C]) (ua++post) fin 0):=q5;simp only[es,ae.field,uO,On,q3];simp
 .simp only[qg,cn] at q2;exact uT k.symm q2 (show ey [] n.an=ab by rw[h2];rfl) (show dP [z] n.aj=ab by rw[h3];simp[dP,q4])
def MO(T:al):T.inner=at_ [] T.aj T.fin 0:=by simp[al.inner,at_]
def acv{fin:Int}:(at_ us [] fin 0).close=at_ us [] fin 0:=by unfold ae.close;rw[aA];simp[at_]
def afy{n:Nd}(h:n.me=ab):∃r,n.gW=gd n.aq::r:=by
 obtain⟨k,_,_,c,h3,_⟩:=Hj h;exact⟨[bM 61]++c.gW,by rw[Nd.kU,k,h3];rfl⟩
def ar8{n:Nd}(hn:n.an=[]\/∃w,n.an=[w]/\dx w.aq=ab)(hf:∀x∈n.aj,x.me=ab)
 (ht:toks.map Tok.sh=fi (gX n.aj)++(if 0<n.an.length then [bM 124]++lY n.an else [])) :
 ∃us:List al,bu us=toks/\fG us/\∀N,bd us<=N->∀T:al,T.aj=us->∃ws ks,ae.rowOf N T=((at_ us [] T.fin 0,ks),ws)/\ey ws n.an=ab/\dP ks n.aj=true:=by
 obtain⟨t1,t2,rfl,a1,a2⟩:=jX.1 ht;have VO:(n.an=[]/\t2=[])\/(∃w C uw,n.an=[w]/\uw≠[]/\bu ([C]++uw)=t2/\fG ([C]++uw)/\C.tok.kind=124/\∀(pre post:List al) (fin:Int),∃y,(at_ pre (uw++post) fin 0).word=(y,at_ (pre++uw) post fin 0)/\qg y w=ab):=by
  rcases hn with hn | ⟨w,hn,hw⟩
  .left;rw[hn] at a2;exact⟨hn,by simpa using a2⟩
  .right;have e:(if 0<n.an.length then [bM 124]++lY n.an else [])=[bM 124]++[gd w.aq]:=by rw[hn];simp[lY,fi]
   rw[e] at a2;obtain⟨tc,tw,rfl,ac,aw⟩:=jX.1 a2;obtain⟨C,f2,w2,c2⟩:=Dj (by decide) ac;obtain⟨uw,n1,f1,w1,b1⟩:=yb w tw aw;exact⟨w,C,uw,hn,n1,by rw[iM,f1,f2],by rw[kz];exact⟨w2,w1⟩,c2,λpre post fin=>b1 _ (bS _) pre post fin⟩
 have tail:∀(pre:List al) (mE : List al) (fin:Int) (ks:List Nd),(n.an=[]/\mE = []\/∃w C uw,n.an=[w]/\mE = [C]++uw/\C.tok.kind=124/\∀(pre post:List al) (fin:Int),∃y,(at_ pre (uw++post) fin 0).word=(y,at_ (pre++uw) post fin 0)/\qg y w=ab) ->
  ∃ws,(if (at_ pre mE fin 0).bW 124=ab then(((((at_ pre mE fin 0).take 124).2.word.2,ks),[((at_ pre mE fin 0).take 124).2.word.1]):(ae × List Nd) × List aB) else((at_ pre mE fin 0,ks),[]))=((at_ (pre++mE) [] fin 0,ks),ws)/\ey ws n.an=true:=by
  intro pre mE fin ks h
  rcases h with ⟨h1,rfl⟩ | ⟨w,C,uw,h1,rfl,h3,h4⟩
  .rw[XZ];exact⟨[],by simp,by rw[h1];rfl⟩
  .obtain⟨y,q1,q2⟩:=h4 (pre++[C]) [] fin;rw[eK] at q1;refine⟨[y],?_,by rw[h1];simpa [ey,qg] using q2⟩;rw[n6,pn,h3,aE (by decide),nW h3,q1];simp
 cases hk:n.aj with
 | nil =>
  rw[hk] at a1
  have:t1=[]:=by simpa [gX,fi] using a1
  subst this
  rcases VO with ⟨h1,rfl⟩ | ⟨w,C,uw,h1,h0,h2,h3,h4,h5⟩
  .refine⟨[],rfl,trivial,λN _ T hT=>⟨[],[],?_,by rw[h1];rfl,by simp[dP]⟩⟩;rw[ae.rowOf,aE (by rw[hT];rfl),MO,hT]
  .refine⟨[C]++uw,by simpa using h2,h3,λN _ T hT=>?_⟩;obtain⟨ws,q1,q2⟩:=tail [] ([C]++uw) T.fin [] (.inr ⟨w,C,uw,h1,rfl,h4,h5⟩);refine⟨ws,[],?_,q2,by simp[dP]⟩;rw[ae.rowOf,aA (by rw[hT];simp),MO,hT,ae.nQ];have hs:(at_ [] ([C]++uw) T.fin 0).bW 124=true:=by rw[n6,pn,h4];rfl
   simp only[hs,cm] at q1 ⊢;rw[q1];simp
 | cons x xs =>
  rw[hk,FP] at a1;obtain⟨us,n1,f1,w1,b1⟩:=Yj (one:=ae.field) (sm:=Nd.c9) (S:=Nd.gW) (x:=x) (xs:=xs) (λy hy=>afw (hf y (by rw[hk];exact hy))) a1;obtain⟨r,hr⟩:=afy (hf x (by rw[hk];simp));have akJ:t1.map Tok.sh=gd x.aq::(r++(xs.map Nd.gW).flatMap λy=>bM 44::y):=by rw[a1];simp[fi,hr]
  have go:∀(mE : List al),Gu mE -> (n.an=[]/\mE = []\/∃w C uw,n.an=[w]/\mE = [C]++uw/\C.tok.kind=124/\∀(pre post:List al) (fin:Int),∃y,(at_ pre (uw++post) fin 0).word=(y,at_ (pre++uw) post fin 0)/\qg y w=ab) ->
   ∀N,bd (us++mE)<=N->∀T:al,T.aj=us++mE -> ∃ws ks,ae.rowOf N T=((at_ (us++mE) [] T.fin 0,ks),ws)/\ey ws n.an=ab/\dP ks (x::xs)=true:=by
   intro mE xp hq N hN T hT;rw[tF] at hN;obtain⟨ks,q1,q2⟩:=b1 N (by omega) [] mE T.fin xp;obtain⟨ws,q3,q4⟩:=tail us mE T.fin ks hq;rw[Kj] at q2;refine⟨ws,ks,?_,q4,q2⟩;rw[ae.rowOf,aA (by rw[hT];intro h;rw[bP] at h;exact n1 (ke.1 (by omega))),MO,hT,ae.nQ];have hs:(at_ [] (us++mE) T.fin 0).bW 124=false:=by rw[zy n1 f1 akJ];rfl
   rw[gN] at q1;simp only[hs,da,bZ,q1];exact q3
  rcases VO with ⟨h1,rfl⟩ | ⟨w,C,uw,h1,h0,h2,h3,h4,h5⟩
  .refine⟨us++[],by simpa using f1,by simpa using w1,go [] (λt r h=>by simp at h) (.inl ⟨h1,rfl⟩)⟩
  .refine⟨us++([C]++uw),by rw[iM,f1,h2],by rw[kz];exact⟨w1,h3⟩,go ([C]++uw) (λt r h=>?_) (.inr ⟨w,C,uw,h1,rfl,h4,h5⟩)⟩;simp only[n6,ig] at h;rw[<-h.1,h4];decide
def asa{n:Nd}(h:n.jN=ab):sM ae.row Nd.c9 n n.gW:=by
 intro toks ht
 rcases FK h with ⟨k,h2,hn,hf⟩ | ⟨k,h⟩
 .have e:n.gW=[bM 91]++(fi (gX n.aj)++(if 0<n.an.length then [bM 124]++lY n.an else []))++[bM 93]:=by rw[Nd.kU,k];rfl
  rw[e] at ht;obtain⟨t1,t3,rfl,h1,h3⟩:=jX.1 ht;obtain⟨ta,t2,rfl,ha,dG⟩:=jX.1 h1;obtain⟨pa,rfl⟩:=uU ha;obtain⟨pb,rfl⟩:=uU h3;obtain⟨us,f1,w1,b1⟩:=ar8 hn hf dG;generalize hT:al.mk ⟨((91:UInt8).toNat:Nat),[91],pa⟩ us pb=T;have TG:T.tok.kind=91:=by rw[<-hT];rfl
  have TH:T.aj=us:=by rw[<-hT];rfl
  have hTm:bd [T]=1+bd us:=by simp only[bd,NH,TH];omega
  refine⟨[T],by simp,?_,?_,λN hN pre post fin=>?_⟩
  .rw[<-hT];have hc:closing ((91:UInt8).toNat:Nat)≠0:=by decide
   simp only[bu,al.flat,eK];rw[aE hc,f1];simp;decide +kernel
  .rw[<-hT];simp only[fG,al.WF];exact⟨⟨rfl,λh=>absurd h (by decide),w1⟩,trivial⟩
  .obtain⟨ws,ks,q1,q2,q3⟩:=b1 N (by omega) T TH;refine⟨.mk 10 T.tok.pos [] ws ks,?_,uT k.symm h2.symm q2 q3⟩;have q5:=nW (pre:=pre) (post:=post) (t:=T) (fin:=fin) (k:=91) TG;rw[n6,ae.row,aE (by rw[pn,TG];rfl),q5];simp only[q1,ae.under,acv];rfl
 .have e:n.gW=[gd n.aq]:=by rw[Nd.kU,k];rfl
  have hl:n.lu=true:=by
   rcases Ff h with ⟨_,h2⟩ | ⟨h1,_⟩ | ⟨h1,_⟩
   .exact h2
   .omega
   .omega
  rw[e] at ht;obtain⟨us,n1,f1,w1,b1⟩:=Nl k hl toks ht;refine⟨us,n1,f1,w1,λN hN pre post fin=>?_⟩;obtain⟨y,q1,q2⟩:=b1 _ hN pre post fin;refine⟨y,?_,q2⟩;have s1:=zy (pre:=pre) (post:=post) (fin:=fin) (k:=91) n1 f1 ht;rw[ae.row,s1];exact q1
def xO(p:aB × aB):List Sh:=[gd p.1.aq]++[bM 60]++[gd p.2.aq]
def Bi(k:UInt8)(c:az)(n:Nd):List Sh :=
 if k=110 then [gd c.name.aq]
 else if k=102 then lY c.an
 else if k=119 then [bM 123]++lY c.an++[bM 125]
 else if k=112 then [bM 123]++fi (c.bA.map xO)++[bM 125]
 else n.gW
def mz:List UInt8->List Nd->List (UInt8 × Nd)
 | [],_=>[]
 | k::ks,ts=>(k,ts.headD .zero)::mz ks (if isTerm k=ab then ts.tail else ts)
def Ww(c:az):∀(ks:List UInt8) (x:List (List UInt8) × List Nd),(ks.foldl (zI c) x).1=x.1++(mz ks x.2).map λq=>mW q.1 c q.2
 | [],x=>by simp[mz]
 | k :: ks, x => by
  rw[zU,Ww c ks];simp[zI,mz]
def FO(c:az):List Sh:=[gd (bY c.op).1]++((mz (bY c.op).2 [c.left,c.right]).map λq=>Bi q.1 c q.2).flatten
def Jh(c:az):eJ c=(bY c.op).1++((mz (bY c.op).2 [c.left,c.right]).map λq=>mW q.1 c q.2).flatMap λy=>[32]++y:=by
 rw[eJ,lB,Ww];rfl
def Vh{ks:List Sh}(h:mI s ks):mI ([32]++s) ks:=by
 intro n p acc hn
 rcases n with _ | n
 .simp at hn
 obtain⟨toks,e1,e2⟩:=h n (p+1) acc (by simpa using hn);refine⟨toks,?_,e2⟩;rw[n6,eY,aA (λh=>by have:=h.1;revert this;decide),I7 (by decide),aA (by simp),aA (by decide),aE (.inl (by decide)),e1]
def Vf{G:Type}{T:G->List UInt8}{S:G->List Sh}:∀{l:List G},(∀x∈l,kx (T x) (S x))->Stop ((l.map T).flatMap λy=>[32]++y)/\mI ((l.map T).flatMap λy=>[32]++y) ((l.map S).flatten)
 | [],_=>⟨trivial,lex_nil⟩
 | x :: xs, h => by
  obtain⟨h1,h2⟩:=Vf (l:=xs) λy hy=>h y (by simp[hy])
  simp only[ch,qX,lE,e9];exact⟨show fq 32=ak by decide,Vh (h x (by simp) _ _ h1 h2)⟩
def amV{p:aB × aB}(h:pe p=ab):kx (kp p) (xO p):=by
 simp only[pe,bF] at h;exact(kx.sign (xJ h.1) (by decide)).nn (xJ h.2)
def amW{ps:List (aB × aB)}(h:ps.all pe=ab):rO (vC (ps.map kp)) ([bM 123]++fi (ps.map xO)++[bM 125]) :=
 kx.sign ((wg 123 (by decide)).nn (Iw (T:=kp) (S:=xO) λp hp=>amV (l7.1 h p hp))) (by decide)
def an_(h:pZ (ws.map aB.aq)=ab):iR ws=true:=by
 simp only[pZ,List.all_map] at h;exact h
def z_(k:UInt8)(c:az)(n:Nd):Prop :=
 (k=110/\dx c.name.aq=ab)\/(k=102/\c.an.length=1/\iR c.an=ab)\/(k=119/\0<c.an.length/\iR c.an=ab)\/(k=112/\c.bA.all pe=ab)\/(k=116/\n.fA=ab)\/(k=114/\n.jN=ab)
def Wu{k:UInt8}{n:Nd}(h:z_ k c n):kx (mW k c n) (Bi k c n):=by
 rcases h with ⟨rfl,h⟩ | ⟨rfl,_,h⟩ | ⟨rfl,_,h⟩ | ⟨rfl,h⟩ | ⟨rfl,h⟩ | ⟨rfl,h⟩
 .exact xJ h
 .exact Nt h
 .exact(Ns h).n
 .exact(amW h).n
 .exact NG _ n (bS _) h
 .exact anP h
def YE(h0:dx (bY c.op).1=ab)(h:∀q∈mz (bY c.op).2 [c.left,c.right],z_ q.1 c q.2):(dv (eJ c)).2=ag/\(dv (eJ c)).1.map Tok.sh=FO c:=by
 obtain⟨h1,h2⟩:=Vf (T:=λq:UInt8 × Nd=>mW q.1 c q.2) (S:=λq=>Bi q.1 c q.2) (l:=mz (bY c.op).2 [c.left,c.right]) λq hq=>Wu (h q hq)
 have:=xJ h0 _ _ h1 h2
 rw[Jh];obtain⟨toks,e1,e2⟩:=this _ 0 [] (bS _);unfold dv;rw[e1];exact⟨rfl,by rw[FO];simpa using e2⟩
def FB(a b:aB × aB):Bool:=decide (a.1.aq=b.1.aq)&&decide (a.2.aq=b.2.aq)
def QH:∀a b:List (aB × aB),mL FB a b=lW a b
 | [],[]=>rfl
 | [],_::_=>rfl
 | _::_,[]=>rfl
 | p::ps,q::qs=>by simp only[mL,lW,FB,QH ps qs]
def aqc:∀(ps:List (aB × aB)) (p:aB × aB) (toks:List Tok),toks.map Tok.sh=fi ((p::ps).map xO) ->
 ∃us:List al,us≠[]/\bu us=toks/\fG us/\∀(n:Nat) (pre:List al) (fin:Int) (acc:List (aB × aB)),us.length<=n ->
  ∃ys r,ae.gH n (at_ pre us fin 0) acc=(r,acc++ys)/\r.aG=ag/\mL FB ys (p::ps)=true:=by
 intro ps;induction ps with
 | nil =>
  intro p toks ht;have ht:toks.map Tok.sh=[gd p.1.aq]++[bM 60]++[gd p.2.aq]:=by simpa [fi,xO] using ht
  obtain⟨t12,t3,rfl,ju,h3⟩:=jX.1 ht;obtain⟨t1,t2,rfl,h1,h2⟩:=jX.1 ju;obtain⟨p1,rfl⟩:=FN h1;obtain⟨p2,rfl⟩:=uU h2;obtain⟨p3,rfl⟩:=FN h3;obtain⟨f1,w1⟩:=wb (t:=⟨97,p.1.aq,p1⟩) rfl rfl;obtain⟨f2,w2⟩:=wb (t:=⟨((60:UInt8).toNat:Nat),[60],p2⟩) rfl rfl;obtain⟨f3,w3⟩:=wb (t:=⟨97,p.2.aq,p3⟩) rfl rfl;refine⟨[.mk ⟨97,p.1.aq,p1⟩ [] p1]++[.mk ⟨((60:UInt8).toNat:Nat),[60],p2⟩ [] p2]++[.mk ⟨97,p.2.aq,p3⟩ [] p3],by simp,by rw[iM,iM,f1,f2,f3],by rw[kz,kz];exact⟨⟨w1,w2⟩,w3⟩,λn pre fin acc hn=>?_⟩;obtain⟨m,rfl⟩:∃m,n=m+1:=⟨n - 1,by simp at hn;omega⟩;generalize En:(al.mk ⟨97,p.1.aq,p1⟩ [] p1)=T1;generalize Eo:(al.mk ⟨((60:UInt8).toNat:Nat),[60],p2⟩ [] p2)=T2;generalize Ep:(al.mk ⟨97,p.2.aq,p3⟩ [] p3)=T3;have e1:(at_ pre (T1::[T2,T3]) fin 0).take 97=(T1,at_ (pre++[T1]) [T2,T3] fin 0):=nW (by rw[<-En];rfl);have e2:(at_ (pre++[T1]) [T2,T3] fin 0).take 60=(T2,at_ (pre++[T1]++[T2]) [T3] fin 0):=nW (by rw[<-Eo];rfl);have e3:(at_ (pre++[T1]++[T2]) [T3] fin 0).take 97=(T3,at_ (pre++[T1]++[T2]++[T3]) [] fin 0):=nW (by rw[<-Ep];rfl);refine⟨[(⟨T1.tok.aq,T1.tok.pos⟩,⟨T3.tok.aq,T3.tok.pos⟩)],at_ (pre++[T1]++[T2]++[T3]) [] fin 0,?_,rfl,?_⟩
  .simp only[ae.gH,iv,gN];have Pt:(at_ pre (T1::[T2,T3]) fin 0).word=(⟨T1.tok.aq,T1.tok.pos⟩,at_ (pre++[T1]) [T2,T3] fin 0):=by rw[ae.word,e1]
   have Pu:(at_ (pre++[T1]++[T2]) [T3] fin 0).word=(⟨T3.tok.aq,T3.tok.pos⟩,at_ (pre++[T1]++[T2]++[T3]) [] fin 0):=by rw[ae.word,e3]
   rw[aA (by simp[at_])];simp only[Pt,e2,Pu];rw[aE (by simp[at_])]
  .rw[<-En,<-Ep];simp[mL,FB,al.tok]
 | cons q ps ih =>
  intro p toks ht;have ht:toks.map Tok.sh=[gd p.1.aq]++[bM 60]++[gd p.2.aq]++[bM 44]++fi ((q::ps).map xO):=by simpa [fi,xO] using ht
  obtain⟨awB,t5,rfl,akc,h5⟩:=jX.1 ht;obtain⟨t123,t4,rfl,xb,h4⟩:=jX.1 akc;obtain⟨t12,t3,rfl,ju,h3⟩:=jX.1 xb;obtain⟨t1,t2,rfl,h1,h2⟩:=jX.1 ju;obtain⟨p1,rfl⟩:=FN h1;obtain⟨p2,rfl⟩:=uU h2;obtain⟨p3,rfl⟩:=FN h3;obtain⟨p4,rfl⟩:=uU h4;obtain⟨us,n0,f5,w5,b5⟩:=ih q t5 h5;obtain⟨f1,w1⟩:=wb (t:=⟨97,p.1.aq,p1⟩) rfl rfl;obtain⟨f2,w2⟩:=wb (t:=⟨((60:UInt8).toNat:Nat),[60],p2⟩) rfl rfl;obtain⟨f3,w3⟩:=wb (t:=⟨97,p.2.aq,p3⟩) rfl rfl;obtain⟨f4,w4⟩:=wb (t:=⟨((44:UInt8).toNat:Nat),[44],p4⟩) rfl rfl;refine⟨[.mk ⟨97,p.1.aq,p1⟩ [] p1]++[.mk ⟨((60:UInt8).toNat:Nat),[60],p2⟩ [] p2]++[.mk ⟨97,p.2.aq,p3⟩ [] p3]++[.mk ⟨((44:UInt8).toNat:Nat),[44],p4⟩ [] p4]++us,by simp,by rw[iM,iM,iM,iM,f1,f2,f3,f4,f5],by rw[kz,kz,kz,kz];exact⟨⟨⟨⟨w1,w2⟩,w3⟩,w4⟩,w5⟩,λn pre fin acc hn=>?_⟩;obtain⟨m,rfl⟩:∃m,n=m+1:=⟨n - 1,by simp at hn;omega⟩;generalize En:(al.mk ⟨97,p.1.aq,p1⟩ [] p1)=T1;generalize Eo:(al.mk ⟨((60:UInt8).toNat:Nat),[60],p2⟩ [] p2)=T2;generalize Ep:(al.mk ⟨97,p.2.aq,p3⟩ [] p3)=T3;generalize hT4:(al.mk ⟨((44:UInt8).toNat:Nat),[44],p4⟩ [] p4)=T4;have e1:(at_ pre (T1::(T2::T3::T4::us)) fin 0).take 97=(T1,at_ (pre++[T1]) (T2::T3::T4::us) fin 0):=nW (by rw[<-En];rfl);have e2:(at_ (pre++[T1]) (T2::T3::T4::us) fin 0).take 60=(T2,at_ (pre++[T1]++[T2]) (T3::T4::us) fin 0):=nW (by rw[<-Eo];rfl);have e3:(at_ (pre++[T1]++[T2]) (T3::T4::us) fin 0).take 97=(T3,at_ (pre++[T1]++[T2]++[T3]) (T4::us) fin 0):=nW (by rw[<-Ep];rfl);have e4:(at_ (pre++[T1]++[T2]++[T3]) (T4::us) fin 0).take 44=(T4,at_ (pre++[T1]++[T2]++[T3]++[T4]) us fin 0):=nW (by rw[<-hT4];rfl);obtain⟨ys,r,g1,g2,g3⟩:=b5 m (pre++[T1]++[T2]++[T3]++[T4]) fin (acc++[(⟨T1.tok.aq,T1.tok.pos⟩,⟨T3.tok.aq,T3.tok.pos⟩)]) (by simp at hn;omega);refine⟨(⟨T1.tok.aq,T1.tok.pos⟩,⟨T3.tok.aq,T3.tok.pos⟩)::ys,r,?_,g2,?_⟩
  .simp only[ae.gH,iv,gN];have Pt:(at_ pre (T1::(T2::T3::T4::us)) fin 0).word=(⟨T1.tok.aq,T1.tok.pos⟩,at_ (pre++[T1]) (T2::T3::T4::us) fin 0):=by rw[ae.word,e1]
   have Pu:(at_ (pre++[T1]++[T2]) (T3::T4::us) fin 0).word=(⟨T3.tok.aq,T3.tok.pos⟩,at_ (pre++[T1]++[T2]++[T3]) (T4::us) fin 0):=by rw[ae.word,e3]
   rw[aA (by simp[at_])];simp only[Pt,e2,Pu,e4,g1];rw[aA (by simp[at_];omega)];simp
  .rw[<-En,<-Ep];simp only[mL,FB,g3,al.tok];simp
def Ge(k:UInt8)(c:az)(n:Nd)(c0 c1:az):Prop :=
 (k=110/\∃w:aB,w.aq=c.name.aq/\c1={c0 with name:=w}) \/
 ((k=102\/k=119)/\∃ws,ey ws c.an=ab/\c1={c0 with an:=ws}) \/
 (k=112/\∃ps a,lW ps c.bA=ab/\c1={c0 with bA:=ps,nP:=a}) \/
 ((k=116\/k=114)/\∃m:Nd,m.c9 n=ab/\c1=if c0.left.kind=0 then {c0 with left:=m} else {c0 with right:=m})
def ZK(k:UInt8)(c:az)(n:Nd)(toks:List Tok):Prop :=
 ∃us:List al,us≠[]/\bu us=toks/\fG us/\∀(pre post:List al) (fin:Int) (c0:az),(k=112->c0.bA=[])->∃c1,dp k (at_ pre (us++post) fin 0,c0)=(at_ (pre++us) post fin 0,c1)/\Ge k c n c0 c1
theorem Ks{fin:Int}:(⟨(at_ pre us fin 0).l,(at_ pre us fin 0).at_,(at_ pre us fin 0).fin,ag⟩:ae)=at_ pre us fin 0:=rfl
def aaM{T:al}{fin:Int}:({at_ pre (T::us) fin 0 with at_:=(at_ pre (T::us) fin 0).at_+1}:ae)=at_ (pre++[T]) us fin 0:=by simp[at_]
def aqh{k:UInt8}{n:Nd}(h:z_ k c n)(ht:toks.map Tok.sh=Bi k c n):ZK k c n toks:=by
 rcases h with ⟨rfl,h⟩ | ⟨rfl,h1,h⟩ | ⟨rfl,h1,h⟩ | ⟨rfl,h⟩ | ⟨rfl,h⟩ | ⟨rfl,h⟩
 .obtain⟨us,n1,f1,w1,b1⟩:=yb c.name toks ht;refine⟨us,n1,f1,w1,λpre post fin c0 _=>?_⟩;obtain⟨y,q1,q2⟩:=b1 (bd us) (bS _) pre post fin;refine⟨{c0 with name:=y},?_,.inl ⟨rfl,y,by simpa [qg] using q2,rfl⟩⟩;have q1:(at_ pre (us++post) fin 0).word=(y,at_ (pre++us) post fin 0):=q1;have hb:(at_ pre (us++post) fin 0).aG=none:=rfl;simp[dp,hb,q1]
 .obtain⟨w,hw⟩:∃w,c.an=[w]:=by
   match hc:c.an,h1 with
   | [w],_=>exact⟨w,rfl⟩
  have ht:toks.map Tok.sh=[gd w.aq]:=by rw[ht];simp[Bi,lY,hw,fi]
  obtain⟨us,n1,f1,w1,b1⟩:=yb w toks ht;refine⟨us,n1,f1,w1,λpre post fin c0 _=>?_⟩;obtain⟨y,q1,q2⟩:=b1 (bd us) (bS _) pre post fin;refine⟨{c0 with an:=[y]},?_,.inr (.inl ⟨.inl rfl,[y],?_,rfl⟩)⟩
  .have q1:(at_ pre (us++post) fin 0).word=(y,at_ (pre++us) post fin 0):=q1;have hb:(at_ pre (us++post) fin 0).aG=none:=rfl;simp[dp,hb,q1]
  .rw[hw];simpa [ey,qg] using q2
 .obtain⟨T,f1,w1,k1,b1⟩:=Kw (one:=λ_=>ae.word) (sm:=qg) (S:=λw=>[gd w.aq]) (a:=123) (b:=125) (e:=false) (xs:=c.an) (by decide) (by decide) (by decide) (λw _=>yb w) (λe=>by rw[e] at h1;simp at h1) (toks:=toks) ht;refine⟨[T],by simp,f1,w1,λpre post fin c0 _=>?_⟩;obtain⟨ys,p,q1,q2⟩:=b1 (bd [T]) (by omega) pre post fin;rw[Ki] at q2;have q1:(at_ pre (T::post) fin 0).words ak=((ys,p),at_ (pre++[T]) post fin 0):=q1;refine⟨{c0 with an:=ys},?_,.inr (.inl ⟨.inr rfl,ys,q2,rfl⟩)⟩;have hb:(at_ pre (T::post) fin 0).aG=none:=rfl;have hw:jS (at_ pre (T::post) fin 0).l (at_ pre (T::post) fin 0).at_ (at_ pre (T::post) fin 0).fin=(ys,ag):=by
   unfold jS;rw[Ks,q1];rfl
  have vI:dp 119 (at_ pre ([T]++post) fin 0,c0)=({at_ pre (T::post) fin 0 with aG:=(jS (at_ pre (T::post) fin 0).l (at_ pre (T::post) fin 0).at_ (at_ pre (T::post) fin 0).fin).2,at_:=(at_ pre (T::post) fin 0).at_+1},{c0 with an:=(jS (at_ pre (T::post) fin 0).l (at_ pre (T::post) fin 0).at_ (at_ pre (T::post) fin 0).fin).1}):=rfl;rw[vI,hw,<-aaM];rfl
 .have ht:toks.map Tok.sh=[bM 123]++fi (c.bA.map xO)++[bM 125]:=ht;obtain⟨t1,t3,rfl,h1,h3⟩:=jX.1 ht;obtain⟨ta,t2,rfl,ha,h2⟩:=jX.1 h1;obtain⟨pa,rfl⟩:=uU ha;obtain⟨pb,rfl⟩:=uU h3;have key:∃us:List al,bu us=t2/\fG us/\((us=[]/\c.bA=[])\/us≠[]/\∀fin,∃ys r,ae.gH (us.length+1) (at_ [] us fin 0) []=(r,ys)/\r.aG=ag/\lW ys c.bA=ab):=by
   cases hc:c.bA with
   | nil =>
    rw[hc] at h2
    have:t2=[]:=by simpa [fi] using h2
    exact⟨[],by rw[this];rfl,trivial,.inl ⟨rfl,rfl⟩⟩
   | cons p ps =>
    rw[hc] at h2;obtain⟨us,n1,f1,w1,b1⟩:=aqc ps p t2 h2;refine⟨us,f1,w1,.inr ⟨n1,λfin=>?_⟩⟩;obtain⟨ys,r,q1,q2,q3⟩:=b1 (us.length+1) [] fin [] (by omega);exact⟨ys,r,by rw[q1];rfl,q2,by rw[<-QH];exact q3⟩
  obtain⟨us,f1,w1,hk⟩:=key;refine⟨[.mk ⟨((123:UInt8).toNat:Nat),[123],pa⟩ us pb],by simp,?_,?_,λpre post fin c0 hp=>?_⟩
  .simp only[bu,al.flat,eK];rw[aE (by decide),f1];rfl
  .simp only[fG,al.WF];exact⟨⟨by decide,λh=>absurd h (by decide),w1⟩,trivial⟩
  .have hp:=hp rfl;have vH:∀x:ae × az,x.1.aG=ag->dp 112 x=p9 x.1 x.2:=λx hx=>by simp[dp,hx]
   have fZ:(at_ pre (al.mk ⟨((123:UInt8).toNat:Nat),[123],pa⟩ us pb::post) fin 0).take 123=(.mk ⟨((123:UInt8).toNat:Nat),[123],pa⟩ us pb,at_ (pre++[.mk ⟨((123:UInt8).toNat:Nat),[123],pa⟩ us pb]) post fin 0):=nW rfl;rw[vH _ rfl];unfold p9;simp only[iv,gN,fZ,al.aj,al.tok]
   rcases hk with ⟨rfl,hc⟩ | ⟨n1,hk⟩
   .rw[aE (.inr rfl)];refine⟨_,rfl,.inr (.inr (.inl ⟨rfl,[],pa,by rw[hc];rfl,?_⟩))⟩;cases c0;simp only at hp;subst hp;rfl
   .have hl:us.length≠0:=λh=>n1 (ke.1 h)
    rw[aA (by simp[at_,hl])];obtain⟨ys,r,q1,q2,q3⟩:=hk pb;have dG:(al.mk ⟨((123:UInt8).toNat:Nat),[123],pa⟩ us pb).inner=at_ [] us pb 0:=by simp[al.inner,at_,al.aj,al.fin]
    rw[dG,q1];simp only[q2,ae.vw];exact⟨_,rfl,.inr (.inr (.inl ⟨rfl,ys,pa,q3,rfl⟩))⟩
 .obtain⟨us,n1,f1,w1,b1⟩:=al9 _ n (bS _) h toks ht;refine⟨us,n1,f1,w1,λpre post fin c0 _=>?_⟩;have hm:bd us<=bd (at_ pre (us++post) fin 0).l:=by simp only[at_,tF];omega
  obtain⟨y,q1,q2⟩:=b1 _ hm pre post fin;have G_:∀x:ae × az,x.1.aG=ag->dp 116 x=jw x.1 x.2 (fN (ae.label (bd x.1.l)) x.1.l x.1.at_ x.1.fin):=λx hx=>by simp[dp,hx]
  rw[G_ _ rfl];unfold fN;rw[Ks,q1];refine⟨_,?_,.inr (.inr (.inr ⟨.inl rfl,y,q2,rfl⟩))⟩;simp[jw,at_]
 .obtain⟨us,n1,f1,w1,b1⟩:=asa h toks ht;refine⟨us,n1,f1,w1,λpre post fin c0 _=>?_⟩;have hm:bd us<=bd (at_ pre (us++post) fin 0).l:=by simp only[at_,tF];omega
  obtain⟨y,q1,q2⟩:=b1 _ hm pre post fin;have Ap:∀x:ae × az,x.1.aG=ag->dp 114 x=jw x.1 x.2 (fN (ae.row (bd x.1.l)) x.1.l x.1.at_ x.1.fin):=λx hx=>by simp[dp,hx]
  rw[Ap _ rfl];unfold fN;rw[Ks,q1];refine⟨_,?_,.inr (.inr (.inr ⟨.inr rfl,y,q2,rfl⟩))⟩;simp[jw,at_]
def Gf(c:az):List (UInt8 × Nd)->az->az->Prop
 | [],c0,c1=>c1=c0
 | q::qs,c0,c2=>∃c1,Ge q.1 c q.2 c0 c1/\Gf c qs c1 c2
def aev{k:UInt8}{n:Nd}{c0 c1:az}(hk:k≠112)(h:Ge k c n c0 c1):c1.bA=c0.bA:=by
 rcases h with ⟨_,w,_,rfl⟩ | ⟨_,w,_,rfl⟩ | ⟨h,_⟩ | ⟨_,m,_,rfl⟩
 .rfl
 .rfl
 .exact absurd h hk
 .split<;>rfl
def Wp{c:az}:∀(qs:List (UInt8 × Nd)),(∀q∈qs,z_ q.1 c q.2)->(qs.map (·.1)).count 112<=1->∀toks:List Tok,toks.map Tok.sh=(qs.map λq=>Bi q.1 c q.2).flatten ->
 ∃us:List al,bu us=toks/\fG us/\∀(pre:List al) (fin:Int) (c0:az),(112∈qs.map (·.1)->c0.bA=[])->∃c1,iQ (qs.map (·.1)) (at_ pre us fin 0,c0)=(at_ (pre++us) [] fin 0,c1)/\Gf c qs c0 c1
 | [], _, _, toks, ht => by
  have:toks=[]:=by simpa using ht
  subst this;exact⟨[],rfl,trivial,λpre fin c0 _=>⟨c0,by simp[iQ],rfl⟩⟩
 | q :: qs, h, hc, toks, ht => by
  simp only[ch,lE] at ht;obtain⟨t1,t2,rfl,h1,h2⟩:=jX.1 ht;obtain⟨u1,_,f1,w1,b1⟩:=aqh (h q (by simp)) h1;have hc2:(qs.map (·.1)).count 112<=1:=by
   rw[ch,List.count_cons] at hc;omega
  obtain⟨u2,f2,w2,b2⟩:=Wp qs (λx hx=>h x (by simp[hx])) hc2 t2 h2;refine⟨u1++u2,by rw[iM,f1,f2],by rw[kz];exact⟨w1,w2⟩,λpre fin c0 hp=>?_⟩;obtain⟨c1,e1,g1⟩:=b1 pre u2 fin c0 (λe=>hp (by simp[e]));obtain⟨c2,e2,g2⟩:=b2 (pre++u1) fin c1 (λhm=>by
   by_cases e:q.1=112
   .exfalso
    rw[ch,e,P5] at hc
    have:(qs.map (·.1)).count 112=0:=by omega
    exact P6.1 this hm
   .rw[aev e g1];exact hp (by simp only[ch,lF];exact .inr hm))
  exact⟨c2,by simp only[ch,iQ,e1,e2,e9],c1,g1,g2⟩
def Np:∀(ks:List UInt8) (ts:List Nd),(mz ks ts).map (·.1)=ks
 | [],_=>rfl
 | k::ks,ts=>by simp only[mz,ch,Np ks]
def Fa:List (List UInt8):=[[110,119],[110,119,112],[110,116,116],[110,114,114],[110,102],[],[110]]
def Ee{op:Int}(h1:1<=op)(h2:op<=15):(bY op).2∈Fa/\dx (bY op).1=ab/\je (bY op).1=op:=by
 have key:∀n:Nat,n<15->(bY ((n+1:Nat):Int)).2∈Fa/\dx (bY ((n+1:Nat):Int)).1=ab/\je (bY ((n+1:Nat):Int)).1=((n+1:Nat):Int):=by decide +kernel
 have:=key (op.toNat - 1) (by omega)
 rwa [show((op.toNat - 1+1:Nat):Int)=op by omega] at this
def FL:∀a b:List aB,ey a b=decide (a.map aB.aq=b.map aB.aq)
 | [],[]=>by simp[ey]
 | [],_::_=>by simp[ey]
 | _::_,[]=>by simp[ey]
 | w::ws,u::us=>by simp[ey,FL ws us]
def m_(l:List al)(a fin k:Int):(⟨l,a,fin,ag⟩:ae).bW k=a8 l a k:=by simp[ae.bW,ae.ok]
theorem Dl(l:List al)(a fin:Int)(b:Option Int):(⟨l,a,fin,b⟩:ae).spot=jP l a fin:=rfl
variable{a:Int}
def mD{fin:Int}(h:a8 l a k=ab):(⟨l,a,fin,ag⟩:ae).take k=(bJ l a,⟨l,a+1,fin,ag⟩):=by
 obtain⟨j,t,rfl,hj,_,hl⟩:=iB h;simp[ae.take,m_,h,bJ,hj,ij]
def nd{fin:Int}(h:a8 l a k=ak):(⟨l,a,fin,ag⟩:ae).take k=(.zero,⟨l,a,fin,aa (jP l a fin)⟩):=by
 simp[ae.take,m_,h,ae.fail,Dl]
def wC(h:a8 l a k=ab):(bJ l a).tok=fC l a:=by
 obtain⟨j,t,rfl,hj,_,_⟩:=iB h;simp[bJ,fC,hj]
def Tb{step:ae × List G->ae × List G}{a:ae × List G}(h:a.1.aG≠ag):∀n,jr step n a=a
 | 0=>rfl
 | n + 1 => by
  have:a.1.bW 44=false:=by
   simp only[ae.bW,ae.ok];cases hb:a.1.aG with
   | none=>exact absurd hb h
   | some _=>simp
  simp[jr,this]
def Tc{step:ae × List G->ae × List G}{a:ae × List G}(h:a.1.bW 44=ak):∀n,jr step n a=a
 | 0=>rfl
 | n+1=>by simp[jr,h]
def VM{fin:Int}(h:a8 l a 97=ab):nameAt l a fin=⟨.mk 0 (fC l a).pos (fC l a).aq [] [],a+1,ak,0⟩:=by simp[nameAt,h]
def VL{fin:Int}(h:a8 l a 97=ak):nameAt l a fin=dr l a fin:=by simp[nameAt,h]
def O7(l:List al)(fin:Int):∀(m n:Nat) (a:Nat) (out:List Nd) (ws:List aB),ws=jT out->l.length+1<=m+a->l.length<=n+a->a<=l.length ->
 (dq (λi=>nameAt l i fin) l m a out).2.aG=ab/\(jr gK n (gK (⟨l,a,fin,ag⟩,ws))).1.aG=aa (dq (λi=>nameAt l i fin) l m a out).2.pos \/
 (dq (λi=>nameAt l i fin) l m a out).2.aG=ak/\jr gK n (gK (⟨l,a,fin,ag⟩,ws))=(⟨l,(dq (λi=>nameAt l i fin) l m a out).2.next,fin,ag⟩,jT (dq (λi=>nameAt l i fin) l m a out).1)
 | 0,n,a,out,ws,AR,hm,hn,ha=>by omega
 | m + 1, n, a, out, ws, AR, hm, hn, ha => by
  cases hk:a8 l a 97
  .left;have e:gK (⟨l,a,fin,ag⟩,ws)=(⟨l,a,fin,aa (jP l a fin)⟩,ws++[⟨[],0⟩]):=by simp[gK,ae.word,nd hk,al.zero,al.tok]
   rw[e,Tb (by simp)];simp[dq,VL hk,dr]
  .obtain⟨j,t,hj,_,_,hl⟩:=iB hk;have e:gK (⟨l,a,fin,ag⟩,ws)=(⟨l,(a:Int)+1,fin,ag⟩,ws++[⟨(fC l a).aq,(fC l a).pos⟩]):=by simp[gK,ae.word,mD hk,wC hk]
   rw[e];simp only[dq,VM hk,da,bZ];cases mf:a8 l ((a:Int)+1) 44
   .right;rw[Tc (by simp[m_,mf])];simp[AR,jT,Nd.aq,Nd.pos]
   .obtain⟨j2,t2,AH,_,_,lh⟩:=iB mf;obtain⟨n,rfl⟩:∃k,n=k+1:=⟨n - 1,by omega⟩;simp only[jr,m_,mf,cm,mD mf];have ih:=O7 l fin m n (a+2) (out++[.mk 0 (fC l a).pos (fC l a).aq [] []]) (ws++[⟨(fC l a).aq,(fC l a).pos⟩]) (by simp[AR,jT,Nd.aq,Nd.pos]) (by omega) (by omega) (by omega);rw[show(a:Int)+1+1=((a+2:Nat):Int) by omega];exact ih
def avp(l:List al)(a fin:Int) :
 (lU l a fin).2.aG=ab/\jS l a fin=([],aa (lU l a fin).2.pos)\/(lU l a fin).2.aG=ak/\jS l a fin=((lU l a fin).1,ag):=by
 cases h:a8 l a 123
 .left;have e:(⟨l,a,fin,ag⟩:ae).words ak=(([],0),⟨l,a,fin,aa (jP l a fin)⟩):=by
   simp[ae.words,ae.bracket,nd h,ae.ok]
  simp[lU,h,dr,jS,e]
 .have ht:∃t,bJ l a=t:=⟨_,rfl⟩;obtain⟨t,ht⟩:=ht;have hw:(⟨l,a,fin,ag⟩:ae).words ak=(((eB gK t.inner).2,t.tok.pos),(⟨l,a+1,fin,ag⟩:ae).under (eB gK t.inner).1):=by
   simp[ae.words,ae.bracket,mD h,ae.ok,ae.inside,ht]
  have hs:=O7 t.aj t.fin (t.aj.length+1) t.aj.length 0 [] [] rfl (by omega) (by omega) (by omega);have hg:eB gK t.inner=jr gK t.aj.length (gK (⟨t.aj,((0:Nat):Int),t.fin,ag⟩,[])):=rfl;rw[<-hg] at hs;have hr:lU l a fin=(jT (wholeAt nameAt t ak).1,(wholeAt nameAt t ak).2):=by simp[lU,h,ht]
  have kj:wholeAt nameAt t ak=if (dq (λi=>nameAt t.aj i t.fin) t.aj (t.aj.length+1) ((0:Nat):Int) []).2.aG=ak/\(dq (λi=>nameAt t.aj i t.fin) t.aj (t.aj.length+1) ((0:Nat):Int) []).2.next<t.aj.length then([],dr t.aj (dq (λi=>nameAt t.aj i t.fin) t.aj (t.aj.length+1) ((0:Nat):Int) []).2.next t.fin)
   else dq (λi=>nameAt t.aj i t.fin) t.aj (t.aj.length+1) ((0:Nat):Int) []:=by simp[wholeAt]
  generalize dq (λi=>nameAt t.aj i t.fin) t.aj (t.aj.length+1) ((0:Nat):Int) []=S at hs kj;generalize eB gK t.inner=G'' at hs hw
  rcases hs with ⟨h1,h2⟩ | ⟨h1,h2⟩
  .left;rw[h1] at kj;simp only[qh,Cg,bZ] at kj;refine⟨by rw[hr,kj];exact h1,?_⟩;rw[hr,kj];have hc:G''.1.close=G''.1:=by simp[ae.close,ae.ok,h2]
   simp[jS,hw,ae.under,hc,h2]
  .rw[h1] at kj;simp only[pq] at kj;rw[h2] at hw
   by_cases hn:S.2.next<t.aj.length
   .left;rw[aE hn] at kj;refine⟨by rw[hr,kj];rfl,?_⟩;rw[hr,kj];simp[jS,hw,ae.under,ae.close,ae.ok,hn,ae.fail,Dl,dr]
   .right;rw[aA hn] at kj;refine⟨by rw[hr,kj];exact h1,?_⟩;rw[hr,kj];simp[jS,hw,ae.under,ae.close,hn]
def Alike(one:ae->Nd × ae)(g:List al->Int->Int->br):Prop:=∀(l:List al) (a fin:Int),
 (g l a fin).aG=ab/\(one ⟨l,a,fin,ag⟩).2.aG=aa (g l a fin).pos\/(g l a fin).aG=ak/\one ⟨l,a,fin,ag⟩=((g l a fin).node,⟨l,(g l a fin).next,fin,ag⟩)
def O4{one:ae->Nd × ae}{g:List al->Int->Int->br}(H:Alike one g)(yP:sL g)(l:List al)(fin:Int):∀(m n:Nat) (a:Nat) (out:List Nd),l.length+1<=m+a->l.length<=n+a->a<=l.length ->
 (dq (λi=>g l i fin) l m a out).2.aG=ab/\(jr (cw one) n (cw one (⟨l,a,fin,ag⟩,out))).1.aG=aa (dq (λi=>g l i fin) l m a out).2.pos \/
 (dq (λi=>g l i fin) l m a out).2.aG=ak/\jr (cw one) n (cw one (⟨l,a,fin,ag⟩,out))=(⟨l,(dq (λi=>g l i fin) l m a out).2.next,fin,ag⟩,(dq (λi=>g l i fin) l m a out).1)
 | 0,n,a,out,hm,hn,ha=>by omega
 | m + 1, n, a, out, hm, hn, ha => by
  rcases H l a fin with ⟨h1,h2⟩ | ⟨h1,h2⟩
  .left;have e:(cw one (⟨l,a,fin,ag⟩,out)).1.aG=aa (g l a fin).pos:=h2;rw[Tb (by rw[e];simp)];simp only[dq,h1,cm];exact⟨trivial,e⟩
  .have hA:=yP l a fin h1;have e:cw one (⟨l,a,fin,ag⟩,out)=(⟨l,(g l a fin).next,fin,ag⟩,out++[(g l a fin).node]):=by simp[cw,h2]
   rw[e];simp only[dq,h1,da,bZ];cases mf:a8 l (g l a fin).next 44
   .right;rw[Tc (by simp[m_,mf])];simp[h1]
   .obtain⟨b,hb⟩:=wK (show 0<=(g l a fin).next by omega);obtain⟨j2,t2,AH,_,_,lh⟩:=iB mf;obtain⟨n,rfl⟩:∃k,n=k+1:=⟨n - 1,by omega⟩;simp only[jr,m_,mf,cm,mD mf];have ih:=O4 H yP l fin m n (b+1) (out++[(g l a fin).node]) (by omega) (by omega) (by omega);rw[show(g l a fin).next+1=((b+1:Nat):Int) by omega];exact ih
variable{g:List al->Int->Int->br}
def avj(t:al)(empty:Bool)(h:¬(empty=ab/\t.aj.length=0)):wholeAt g t empty=if (dq (λi=>g t.aj i t.fin) t.aj (t.aj.length+1) ((0:Nat):Int) []).2.aG=ak/\(dq (λi=>g t.aj i t.fin) t.aj (t.aj.length+1) ((0:Nat):Int) []).2.next<t.aj.length then([],dr t.aj (dq (λi=>g t.aj i t.fin) t.aj (t.aj.length+1) ((0:Nat):Int) []).2.next t.fin)
 else dq (λi=>g t.aj i t.fin) t.aj (t.aj.length+1) ((0:Nat):Int) []:=by
 unfold wholeAt;rw[aA h];simp
def Re{step:ae × List G->ae × List G}{conv:List Nd->List G}(hc:conv []=[]){fin:Int}{kind:Int}(hk:a8 l a kind=ab)(empty:Bool)
 (hs:∀t:al,(dq (λi=>g t.aj i t.fin) t.aj (t.aj.length+1) ((0:Nat):Int) []).2.aG=ab/\(eB step t.inner).1.aG=aa (dq (λi=>g t.aj i t.fin) t.aj (t.aj.length+1) ((0:Nat):Int) []).2.pos \/
   (dq (λi=>g t.aj i t.fin) t.aj (t.aj.length+1) ((0:Nat):Int) []).2.aG=ak/\eB step t.inner=(⟨t.aj,(dq (λi=>g t.aj i t.fin) t.aj (t.aj.length+1) ((0:Nat):Int) []).2.next,t.fin,ag⟩,conv (dq (λi=>g t.aj i t.fin) t.aj (t.aj.length+1) ((0:Nat):Int) []).1)) :
 (wholeAt g (bJ l a) empty).2.aG=ab/\((⟨l,a,fin,ag⟩:ae).bracket step kind empty).2.aG=aa (wholeAt g (bJ l a) empty).2.pos \/
 (wholeAt g (bJ l a) empty).2.aG=ak/\(⟨l,a,fin,ag⟩:ae).bracket step kind empty=((conv (wholeAt g (bJ l a) empty).1,(fC l a).pos),⟨l,a+1,fin,ag⟩):=by
 have fZ:(bJ l a).tok=fC l a:=wC hk;have hb:(⟨l,a,fin,ag⟩:ae).bracket step kind empty=(((ae.inside step empty (bJ l a)).2,(fC l a).pos),(⟨l,a+1,fin,ag⟩:ae).under (ae.inside step empty (bJ l a)).1):=by
  simp[ae.bracket,mD hk,ae.ok,fZ]
 rw[hb];have hs:=hs (bJ l a);generalize bJ l a=t at hs ⊢
 by_cases he:empty=ab/\t.aj.length=0
 .right;have e1:ae.inside step empty t=(t.inner,[]):=by unfold ae.inside;rw[aE he]
  have e2:wholeAt g t empty=([],⟨.zero,0,ak,0⟩):=by unfold wholeAt;rw[aE he]
  rw[e1,e2];refine⟨rfl,?_⟩;simp[ae.under,ae.close,al.inner,he.2,hc]
 .have e1:ae.inside step empty t=eB step t.inner:=by unfold ae.inside;rw[aA he]
  rw[e1];have kj:=avj (g:=g) t empty he;generalize dq (λi=>g t.aj i t.fin) t.aj (t.aj.length+1) ((0:Nat):Int) []=S at hs kj;generalize eB step t.inner=G'' at hs ⊢
  rcases hs with ⟨h1,h2⟩ | ⟨h1,h2⟩
  .left;rw[h1] at kj;simp only[qh,Cg,bZ] at kj;rw[kj];have hc:G''.1.close=G''.1:=by simp[ae.close,ae.ok,h2]
   exact⟨h1,by simp[ae.under,hc,h2]⟩
  .rw[h1] at kj;simp only[pq] at kj;rw[h2]
   by_cases hn:S.2.next<t.aj.length
   .left;rw[aE hn] at kj;rw[kj];exact⟨rfl,by simp[ae.under,ae.close,ae.ok,hn,ae.fail,Dl,dr]⟩
   .right;rw[aA hn] at kj;rw[kj];exact⟨h1,by simp[ae.under,ae.close,hn]⟩
def NT{one:ae->Nd × ae}(H:Alike one g)(yP:sL g){fin kind:Int}(hk:a8 l a kind=ab)(empty:Bool):
 (wholeAt g (bJ l a) empty).2.aG=ab/\((⟨l,a,fin,ag⟩:ae).nodes one kind empty).2.aG=aa (wholeAt g (bJ l a) empty).2.pos \/
 (wholeAt g (bJ l a) empty).2.aG=ak/\(⟨l,a,fin,ag⟩:ae).nodes one kind empty=(((wholeAt g (bJ l a) empty).1,(fC l a).pos),⟨l,a+1,fin,ag⟩) :=
 Re (conv:=id) rfl hk empty λt=>O4 H yP t.aj t.fin (t.aj.length+1) t.aj.length 0 [] (by omega) (by omega) (by omega)
def Y2{fin:Int}(hk:a8 l a 123=ab)(empty:Bool):
 (wholeAt nameAt (bJ l a) empty).2.aG=ab/\((⟨l,a,fin,ag⟩:ae).words empty).2.aG=aa (wholeAt nameAt (bJ l a) empty).2.pos \/
 (wholeAt nameAt (bJ l a) empty).2.aG=ak/\(⟨l,a,fin,ag⟩:ae).words empty=((jT (wholeAt nameAt (bJ l a) empty).1,(fC l a).pos),⟨l,a+1,fin,ag⟩) :=
 Re (conv:=jT) rfl hk empty λt=>O7 t.aj t.fin (t.aj.length+1) t.aj.length 0 [] [] rfl (by omega) (by omega) (by omega)
def C2(k:Int):Alike (ae.leaf k) (qG k):=λl a fin=>by
 unfold qG;cases h:a8 l a 97
 .left;simp[ae.leaf,ae.word,nd h,dr]
 .right;simp[ae.leaf,ae.word,mD h,wC h]
def asj:Alike ae.pj qc:=λl a fin=>by
 unfold qc ae.pj;cases h:a8 l a 97
 .left;have hb:∀r:ae,r.aG≠ag->((r.take 58).2.words ab).2.aG=r.aG:=λr hr=>by
   obtain⟨x,hx⟩:∃x,r.aG=aa x:=by cases hq:r.aG with | none=>exact absurd hq hr | some x=>exact⟨x,rfl⟩
   have e:r.take 58=(.zero,r):=by simp[ae.take,ae.bW,ae.ok,hx,ae.fail]
   have e2:r.take 123=(.zero,r):=by simp[ae.take,ae.bW,ae.ok,hx,ae.fail]
   simp[e,ae.words,ae.bracket,e2,ae.ok,hx]
  simp only[ae.word,nd h,cm];exact⟨rfl,hb _ (by simp)⟩
 simp only[ae.word,mD h,qh,bZ];cases h2:a8 l (a+1) 58
 .left;simp only[nd h2,cm];refine⟨rfl,?_⟩;simp[ae.words,ae.bracket,ae.take,ae.bW,ae.ok,ae.fail,dr]
 simp only[mD h2,qh,bZ];have e2:a+1+1=a+2:=by omega
 rw[e2];cases h3:a8 l (a+2) 123
 .left;simp only[cm];refine⟨rfl,?_⟩;simp[ae.words,ae.bracket,nd h3,ae.ok,dr]
 simp only[qh,bZ]
 rcases Y2 (fin:=fin) h3 ab with ⟨p1,p2⟩ | ⟨p1,p2⟩
 .left;rw[aE p1];exact⟨p1,p2⟩
 .right;rw[p1];simp only[da,bZ];refine⟨trivial,?_⟩;rw[p2];simp[wC h];omega
def su{k':Int}(h:a8 l a k=ab)(aW:k≠k'):a8 l a k' = false:=by
 cases hq:a8 l a k' with
 | false=>rfl
 | true =>
  obtain⟨j,t,rfl,hj,hk,_⟩:=iB h;obtain⟨j',t',e,gG,kh,_⟩:=iB hq;obtain rfl:j' = j:=by omega
  rw[hj] at gG;simp only[a9] at gG;subst gG;exact absurd (hk.symm.trans kh) aW
def RN:∀n,Alike (ae.constant n) (gY n)
 | 0=>C2 2
 | n + 1 => λl a fin => by
  simp only[gY,ae.constant,m_];cases cZ:a8 l a 97
  case true =>
   simp only[su cZ (show(97:Int)≠123 by decide),su cZ (show(97:Int)≠40 by decide),su cZ (show(97:Int)≠91 by decide),da,bZ,cm];exact C2 2 l a fin
  simp only[da,bZ];cases xb:a8 l a 123
  case true =>
   simp only[cm]
   rcases Y2 (fin:=fin) xb ab with ⟨p1,p2⟩ | ⟨p1,p2⟩
   .left;unfold iA;rw[aE p1];exact⟨p1,p2⟩
   .right;unfold iA;rw[p1,p2];exact⟨rfl,rfl⟩
  simp only[da,bZ];cases sa:a8 l a 40
  case true =>
   simp only[cm]
   rcases NT (RN n) (Kg n) (fin:=fin) sa ak with ⟨p1,p2⟩ | ⟨p1,p2⟩
   .left;unfold iA;rw[aE p1];exact⟨p1,p2⟩
   .right;unfold iA;rw[p1,p2];exact⟨rfl,rfl⟩
  simp only[da,bZ];cases s5:a8 l a 91
  case true =>
   simp only[cm]
   rcases NT asj QF (fin:=fin) s5 ab with ⟨p1,p2⟩ | ⟨p1,p2⟩
   .left;unfold iA;rw[aE p1];exact⟨p1,p2⟩
   .right;unfold iA;rw[p1,p2];exact⟨rfl,rfl⟩
  simp only[da,bZ];left;simp[ae.leaf,ae.word,nd cZ,dr]
def abo{step:ae × List G->ae × List G}{fin kind:Int}(h:a8 l a kind=ak):(⟨l,a,fin,ag⟩:ae).bracket step kind e=(([],0),⟨l,a,fin,aa (jP l a fin)⟩):=by
 simp[ae.bracket,nd h,ae.ok]
def acO{n:Nat}{fin:Int}(f:Nd->Nd):
 ((gY n l a fin).put f).aG=ab/\(ae.constant n ⟨l,a,fin,ag⟩).2.aG=aa ((gY n l a fin).put f).pos\/((gY n l a fin).put f).aG=ak/\(f (ae.constant n ⟨l,a,fin,ag⟩).1,(ae.constant n ⟨l,a,fin,ag⟩).2)=(((gY n l a fin).put f).node,⟨l,((gY n l a fin).put f).next,fin,ag⟩):=by
 unfold br.put
 rcases RN n l a fin with ⟨p1,p2⟩ | ⟨p1,p2⟩
 .left;rw[aE p1];exact⟨p1,p2⟩
 .right;rw[p1,p2];exact⟨rfl,rfl⟩
def GM(n:Nat)(l:List al)(a fin:Int):br:=if a8 l a 35=ab then(gY n l (a+1) fin).put λm=>.mk 7 (fC l a).pos [] [] [m] else qG 1 l a fin
def QT(n:Nat):Alike (ae.atom n) (GM n):=λl a fin=>by
 unfold GM;simp only[ae.atom,m_];cases ny:a8 l a 35
 .simp only[da,bZ];exact C2 1 l a fin
 .simp only[cm,mD ny,wC ny]
  rcases acO (n:=n) (l:=l) (a:=a+1) (fin:=fin) (λm=>.mk 7 (fC l a).pos [] [] [m]) with ⟨p1,p2⟩ | ⟨p1,p2⟩
  .exact .inl ⟨p1,p2⟩
  .exact .inr ⟨p1,p2⟩
def Na:∀n,Alike (ae.label n) (fz n)
 | 0=>C2 1
 | n + 1 => λl a fin => by
  have sign:∀(k:Int),a8 l a k=ab->∀kd,(kd=8\/kd=9) ->
   let x:Nd × ae:=(.mk kd ((⟨l,a,fin,ag⟩:ae).take k).1.tok.pos [] [] (((⟨l,a,fin,ag⟩:ae).take k).2.nodes (ae.label n) 40 ak).1.1,(((⟨l,a,fin,ag⟩:ae).take k).2.nodes (ae.label n) 40 ak).2)
   let g:=if a8 l (a+1) 40=ak then dr l (a+1) fin else iA (wholeAt (fz n) (bJ l (a+1)) ak) (λks=>.mk kd (fC l a).pos [] [] ks) (a+2)
   g.aG=ab/\x.2.aG=aa g.pos\/g.aG=ak/\x=(g.node,⟨l,g.next,fin,ag⟩):=λk hk kd _=>by
   simp only[mD hk,wC hk];cases sa:a8 l (a+1) 40
   .left;simp only[cm];unfold ae.nodes;rw[abo sa];exact⟨rfl,rfl⟩
   .simp only[qh,bZ];have e2:a+1+1=a+2:=by omega
    rcases NT (Na n) (DW n) (fin:=fin) sa ak with ⟨p1,p2⟩ | ⟨p1,p2⟩
    .left;unfold iA;rw[aE p1];exact⟨p1,p2⟩
    .right;unfold iA;rw[p1,p2,e2];exact⟨rfl,rfl⟩
  simp only[fz,ae.label,m_];cases cZ:a8 l a 97
  case true =>
   simp only[su cZ (show(97:Int)≠43 by decide),su cZ (show(97:Int)≠38 by decide),da,bZ,cm]
   have:=QT (n+1) l a fin
   unfold GM at this;rw[su cZ (show(97:Int)≠35 by decide)] at this;exact this
  simp only[da,bZ];cases ny:a8 l a 35
  case true =>
   simp only[su ny (show(35:Int)≠43 by decide),su ny (show(35:Int)≠38 by decide),da,bZ,cm]
   have:=QT (n+1) l a fin
   unfold GM at this;rw[aE ny] at this;exact this
  simp only[da,bZ];cases nz:a8 l a 43
  case true =>
   simp only[qh,Cg,bZ,cm,su nz (show(43:Int)≠38 by decide),da];exact sign 43 nz 8 (.inl rfl)
  simp only[da,bZ,pq];cases mO:a8 l a 38
  case true =>
   simp only[qh,bZ,cm];exact sign 38 mO 9 (.inr rfl)
  simp only[da,bZ,cm];left;refine⟨rfl,?_⟩;simp[ae.atom,m_,ny,ae.leaf,ae.word,nd cZ,dr]
def aaR(n:Nat)(l:List al)(a fin:Int):(np n l a fin).aG=ab/\(ae.atom n ⟨l,a,fin,ag⟩).2.aG=aa (np n l a fin).pos\/(np n l a fin).aG=ak/\ae.atom n ⟨l,a,fin,ag⟩=((np n l a fin).node,⟨l,(np n l a fin).next,fin,ag⟩)\/n=0/\a8 l a 35=true:=by
 cases n with
 | zero =>
  cases ny:a8 l a 35
  .unfold np fz
   by_cases h:a8 l a 43=ab\/a8 l a 38=ab
   .left;rw[aE h];have cZ:a8 l a 97=false:=by rcases h with h | h<;>exact su h (by decide)
    exact⟨rfl,by simp[ae.atom,m_,ny,ae.leaf,ae.word,nd cZ,dr]⟩
   .rw[aA h]
    have:=C2 1 l a fin
    simp only[ae.atom,m_,ny,da,bZ]
    rcases this with h | h
    .exact .inl h
    .exact .inr (.inl h)
  .exact .inr (.inr ⟨rfl,rfl⟩)
 | succ n =>
  unfold np
  by_cases h:a8 l a 43=ab\/a8 l a 38=ab
  .left;rw[aE h];have cZ:a8 l a 97=false:=by rcases h with h | h<;>exact su h (by decide)
   have ny:a8 l a 35=false:=by rcases h with h | h<;>exact su h (by decide)
   exact⟨rfl,by simp[ae.atom,m_,ny,ae.leaf,ae.word,nd cZ,dr]⟩
  .rw[aA h];have nz:a8 l a 43=false:=by cases hq:a8 l a 43 with | false=>rfl | true=>exact absurd (.inl hq) h
   have mO:a8 l a 38=false:=by cases hq:a8 l a 38 with | false=>rfl | true=>exact absurd (.inr hq) h
   have:=Na (n+1) l a fin
   simp only[ae.label,m_,nz,mO,da,bZ] at this
   rcases this with h | h
   .exact .inl h
   .exact .inr (.inl h)
def afv(n:Nat):Alike (ae.field (n+1)) (pG (n+1)):=λl a fin=>by
 have gF:∀(b:Int),∀r:ae,r.aG=aa b->∀m,(ae.atom m r).2.aG=aa b:=λb r hr m=>by
  have e:∀k,r.bW k=false:=λk=>by simp[ae.bW,ae.ok,hr]
  have e2:r.take 97=(.zero,r):=by simp[ae.take,e,ae.fail,hr]
  simp[ae.atom,e,ae.leaf,ae.word,e2,hr]
 unfold pG ae.field;cases h:a8 l a 97
 .left;simp only[ae.word,nd h,cm];refine⟨rfl,gF _ _ ?_ _⟩;simp[ae.take,ae.bW,ae.ok,ae.fail,dr]
 simp only[ae.word,mD h,qh,bZ];cases h2:a8 l (a+1) 61
 .left;simp only[nd h2,cm];exact⟨rfl,gF _ _ rfl _⟩
 simp only[mD h2,qh,bZ];have e2:a+1+1=a+2:=by omega
 rw[e2];unfold br.put
 rcases aaR (n+1) l (a+2) fin with ⟨p1,p2⟩ | ⟨p1,p2⟩ | ⟨h0,_⟩
 .left;rw[aE p1];exact⟨p1,p2⟩
 .right;rw[p1,p2,wC h];exact⟨rfl,rfl⟩
 .omega
def Xc{fin:Int}{nx:Int}{X:(ae × List Nd) × List aB}(r1:ae)(hr:r1=⟨(bJ l a).aj,nx,(bJ l a).fin,ag⟩)
 (hX:X=if r1.bW 124=ab then(((r1.take 124).2.word.2,ks),[(r1.take 124).2.word.1]) else((r1,ks),[])) :
 (jy l a ks nx).aG=ab/\((⟨l,a+1,fin,ag⟩:ae).under X.1.1).aG=aa (jy l a ks nx).pos \/
 (jy l a ks nx).aG=ak/\((Nd.mk 10 (fC l a).pos [] X.2 X.1.2,(⟨l,a+1,fin,ag⟩:ae).under X.1.1):Nd × ae)=((jy l a ks nx).node,⟨l,(jy l a ks nx).next,fin,ag⟩):=by
 subst hr;unfold jy;simp only[m_] at hX;cases nw:a8 (bJ l a).aj nx 124
 .rw[nw] at hX;simp only[da,bZ] at hX ⊢;subst hX;unfold kq
  by_cases hn:nx<(bJ l a).aj.length
  .left;rw[aE hn];exact⟨rfl,by simp[ae.under,ae.close,ae.ok,hn,ae.fail,Dl,dr]⟩
  .right;rw[aA hn];exact⟨rfl,by simp[ae.under,ae.close,hn]⟩
 .rw[nw] at hX;simp only[cm,mD nw] at hX ⊢;cases cZ:a8 (bJ l a).aj (nx+1) 97
  .left;have e:nameAt (bJ l a).aj (nx+1) (bJ l a).fin=dr (bJ l a).aj (nx+1) (bJ l a).fin:=VL cZ;rw[e];simp only[dr,cm];subst hX;exact⟨trivial,by simp[ae.word,nd cZ,ae.under,ae.close,ae.ok]⟩
  .rw[VM cZ];simp only[da,bZ];have hw:(⟨(bJ l a).aj,nx+1,(bJ l a).fin,ag⟩:ae).word=(⟨(fC (bJ l a).aj (nx+1)).aq,(fC (bJ l a).aj (nx+1)).pos⟩,⟨(bJ l a).aj,nx+1+1,(bJ l a).fin,ag⟩):=by
    simp[ae.word,mD cZ,wC cZ]
   rw[hw] at hX;subst hX;unfold kq
   by_cases hn:nx+1+1<(bJ l a).aj.length
   .left;rw[aE hn];exact⟨rfl,by simp[ae.under,ae.close,ae.ok,hn,ae.fail,Dl,dr]⟩
   .right;rw[aA hn];exact⟨rfl,by simp[ae.under,ae.close,hn,jT,Nd.aq,Nd.pos]⟩
def ar'(n:Nat):Alike (ae.row (n+1)) (hZ (n+1)):=λl a fin=>by
 unfold hZ;simp only[ae.row,m_];cases cZ:a8 l a 97
 case true =>
  simp only[su cZ (show(97:Int)≠91 by decide),da,bZ,cm]
  have:=C2 1 l a fin
  simp only[fz,cZ,cm];exact this
 simp only[da,bZ];cases s5:a8 l a 91
 case false =>
  left;simp only[da,bZ,cm];exact⟨rfl,by simp[ae.leaf,ae.word,nd cZ,dr]⟩
 simp only[qh,bZ,cm,mD s5,wC s5];have dG:(bJ l a).inner=⟨(bJ l a).aj,0,(bJ l a).fin,ag⟩:=rfl
 by_cases gi:0<(bJ l a).aj.length/\a8 (bJ l a).aj 0 124=ak
 .rw[aE gi];have hX:ae.rowOf (n+1) (bJ l a)=if (eB (cw (ae.field (n+1))) (bJ l a).inner).1.bW 124=ab then((((eB (cw (ae.field (n+1))) (bJ l a).inner).1.take 124).2.word.2,(eB (cw (ae.field (n+1))) (bJ l a).inner).2),[((eB (cw (ae.field (n+1))) (bJ l a).inner).1.take 124).2.word.1]) else(eB (cw (ae.field (n+1))) (bJ l a).inner,[]):=by
   unfold ae.rowOf ae.nQ;rw[aA (by omega)]
   have:(bJ l a).inner.bW 124=false:=by rw[dG,m_];exact gi.2
   simp[this]
  have hs:(qb (n+1) l a).2.aG=ab/\(eB (cw (ae.field (n+1))) (bJ l a).inner).1.aG=aa (qb (n+1) l a).2.pos\/(qb (n+1) l a).2.aG=ak/\eB (cw (ae.field (n+1))) (bJ l a).inner=(⟨(bJ l a).aj,(qb (n+1) l a).2.next,(bJ l a).fin,ag⟩,(qb (n+1) l a).1) :=
   O4 (afv n) (QE (n+1)) (bJ l a).aj (bJ l a).fin ((bJ l a).aj.length+1) (bJ l a).aj.length 0 [] (by omega) (by omega) (by omega)
  generalize eB (cw (ae.field (n+1))) (bJ l a).inner=G'' at hX hs;generalize qb (n+1) l a=S at hs ⊢
  rcases hs with ⟨p1,p2⟩ | ⟨p1,p2⟩
  .left;rw[aE p1];have lJ:G''.1.bW 124=false:=by simp[ae.bW,ae.ok,p2]
   rw[hX,lJ];simp only[da,bZ];have hc:G''.1.close=G''.1:=by simp[ae.close,ae.ok,p2]
   exact⟨p1,by simp[ae.under,hc,p2]⟩
  .rw[p1];simp only[da,bZ];rw[p2] at hX;exact Xc _ rfl hX
 .rw[aA gi];refine Xc (ks:=[]) (nx:=0) (bJ l a).inner dG ?_;unfold ae.rowOf ae.nQ
  by_cases hk:(bJ l a).aj.length=0
  .rw[aE hk]
   have:(bJ l a).inner.bW 124=false:=by rw[dG,m_];simp[ke.1 hk,a8]
   rw[this];simp
  .rw[aA hk];have h0:a8 (bJ l a).aj 0 124=true:=by
    cases hq:a8 (bJ l a).aj 0 124 with
    | true=>rfl
    | false=>exact absurd ⟨by omega,hq⟩ gi
   have:(bJ l a).inner.bW 124=true:=by rw[dG,m_];exact h0
   simp only[this,cm]
def W4{one:ae->Nd × ae}(H:Alike one g)(l:List al)(a fin:Int):
 (g l a fin).aG=ab/\fN one l a fin=(.zero,0,aa (g l a fin).pos)\/(g l a fin).aG=ak/\fN one l a fin=((g l a fin).node,(g l a fin).next,ag):=by
 unfold fN
 rcases H l a fin with ⟨p1,p2⟩ | ⟨p1,p2⟩
 .left;rw[p2];exact⟨p1,rfl⟩
 .right;rw[p2];exact⟨p1,rfl⟩
def F9{fin:Int}(h:a8 l a 97=ab):(⟨l,a,fin,ag⟩:ae).word=(px l a,⟨l,a+1,fin,ag⟩):=by
 simp[ae.word,mD h,wC h,px]
def F8{fin:Int}(h:a8 l a 97=ak):(⟨l,a,fin,ag⟩:ae).word=(⟨[],0⟩,⟨l,a,fin,aa (jP l a fin)⟩):=by
 simp[ae.word,nd h,al.zero,al.tok]
def Jg{fin b:Int}:(⟨l,a,fin,aa b⟩:ae).take k=(.zero,⟨l,a,fin,aa b⟩):=by
 simp[ae.take,ae.bW,ae.ok,ae.fail]
def Y0{fin b:Int}:(⟨l,a,fin,aa b⟩:ae).word=(⟨[],0⟩,⟨l,a,fin,aa b⟩):=by
 simp[ae.word,Jg,al.zero,al.tok]
def zq{i:ae}{b:Int}(h:i.aG=aa b):∀n acc,(ae.gH n i acc).1.aG=aa b
 | 0,_=>h
 | n+1,_=>by simp[ae.gH,h]
section
variable {N:Int} (h0:0<=N)
include h0
theorem Wh{l:List al}{fin:Int}(hl:lZ N l)(hf:In N fin):∀(n a:Nat) (acc:List (aB × aB)),l.length<n+a->a<=l.length ->
 (rG l fin n a acc).2 = -1/\(ae.gH n ⟨l,a,fin,ag⟩ acc).1.aG=ag/\(ae.gH n ⟨l,a,fin,ag⟩ acc).2=(rG l fin n a acc).1 \/
 In N (rG l fin n a acc).2/\(ae.gH n ⟨l,a,fin,ag⟩ acc).1.aG=aa (rG l fin n a acc).2
 | 0,a,acc,hn,ha=>by omega
 | n + 1, a, acc, hn, ha => by
  simp only[ae.gH,rG,rE,Bf,bZ];cases h1:a8 l (a:Nat) 97
  .right;simp only[cm,F8 h1,Jg,Y0];refine⟨tP h0 hl hf,?_⟩;split
   .rfl
   .exact zq rfl _ _
  simp only[F9 h1,qh,bZ];cases h2:a8 l ((a+1:Nat):Int) 60
  .right;have xc : a8 l ((a:Int)+1) 60=false:=h2;simp only[cm,nd xc,Y0,Jg];refine⟨tP h0 hl hf,?_⟩;split
   .rfl
   .exact zq rfl _ _
  have xc : a8 l ((a:Int)+1) 60=true:=h2;simp only[mD xc,qh,bZ];rw[show(a:Int)+1+1=((a+2:Nat):Int) by omega];cases h3:a8 l ((a+2:Nat):Int) 97
  .right;simp only[cm,F8 h3,Jg];refine⟨tP h0 hl hf,?_⟩;split
   .rfl
   .exact zq rfl _ _
  have lh:=(o7 h3).2;simp only[F9 h3,qh,bZ];rw[show((a+2:Nat):Int)+1=((a+3:Nat):Int) by omega]
  by_cases db:a+3=l.length
  .left;rw[aE db,aE (show((a+3:Nat):Int)=(l.length:Int) by omega)];exact⟨rfl,rfl,rfl⟩
  rw[aA db,aA (show ¬((a+3:Nat):Int)=(l.length:Int) by omega)];cases h4:a8 l ((a+3:Nat):Int) 44
  .right;simp only[cm,nd h4];exact⟨tP h0 hl hf,zq rfl _ _⟩
  simp only[mD h4,qh,bZ];rw[show((a+3:Nat):Int)+1=((a+4:Nat):Int) by omega];exact Wh hl hf n (a+4) _ (by omega) (by omega)
def PA(l:List al)(fin:Int)(P:ae × az)(R:az × Int × Int):Prop :=
 0<=R.2.2/\P.1.aG=aa R.2.2\/R.2.2<0/\P=(⟨l,R.2.1,fin,ag⟩,R.1)
def Ir(ks:List UInt8):Prop:=∀k∈ks,k=110\/k=102\/k=119\/k=112\/k=116\/k=114
theorem aqg{fin:Int}(hl:lZ N l)(hf:In N fin)(hm:0<bd l){k:UInt8}(c:az)(a:Nat)(hk:k=110\/k=102\/k=119\/k=112\/k=116\/k=114)(hp:k=112->c.bA=[]):
 PA l fin (dp k (⟨l,a,fin,ag⟩,c)) (jK k c l a fin):=by
 have hs:∀b,In N (jP l b fin):=λb=>tP h0 hl hf
 rcases hk with rfl | rfl | rfl | rfl | rfl | rfl
 .simp only[dp,jK];cases h:a8 l (a:Nat) 97
  .left;simp[F8 h];exact(hs _).1
  .right;simp[F9 h]
 .simp only[dp,jK];cases h:a8 l (a:Nat) 97
  .left;simp[F8 h];exact(hs _).1
  .right;simp[F9 h]
 .have hi:=Y4 h0 (a:=(a:Nat)) hl hf
  rcases avp l (a:Nat) fin with ⟨p1,p2⟩ | ⟨p1,p2⟩
  .left;simp[dp,jK,p1,p2];exact hi.1
  .right;simp[dp,jK,p1,p2]
 .have hp:=hp rfl;cases h:a8 l (a:Nat) 123
  .left;simp[dp,jK,p9,nd h,h];exact(hs _).1
  .obtain⟨hk,se⟩:=Jk h0 (a:=(a:Nat)) hl;have ha:=Wh h0 hk se ((bJ l (a:Nat)).aj.length+1) 0 [] (by omega) (by omega);have dG:(bJ l (a:Nat)).inner=⟨(bJ l (a:Nat)).aj,((0:Nat):Int),(bJ l (a:Nat)).fin,ag⟩:=rfl
   by_cases hz:(bJ l (a:Nat)).aj.length=0
   .right;simp only[dp,jK,p9,mD h,h,tL];simp[hz,hp]
   .simp only[dp,jK,p9,mD h,h,tL,dG];generalize ae.gH ((bJ l (a:Nat)).aj.length+1) ⟨(bJ l (a:Nat)).aj,((0:Nat):Int),(bJ l (a:Nat)).fin,ag⟩ []=G'' at ha ⊢;generalize rG (bJ l (a:Nat)).aj (bJ l (a:Nat)).fin ((bJ l (a:Nat)).aj.length+1) 0 []=F at ha ⊢
    rcases ha with ⟨p1,p2,p3⟩ | ⟨p1,p2⟩
    .right;simp[hz,p1,p2,p3,ae.vw]
    .left
     have:=p1.1
     simp[hz,p2,ae.vw];exact this
 .have hi:=Fc h0 (bd l) l (a:Nat) fin hl hf;obtain⟨m,hm⟩:∃m,bd l=m+1:=⟨bd l - 1,by omega⟩;rw[hm] at hi;have e1:jK 116 c l (a:Nat) fin=if (fz (bd l) l (a:Nat) fin).aG=ab then(c,(a:Int),(fz (bd l) l (a:Nat) fin).pos) else(if c.left.kind=0 then {c with left:=(fz (bd l) l (a:Nat) fin).node} else {c with right:=(fz (bd l) l (a:Nat) fin).node},(fz (bd l) l (a:Nat) fin).next,-1):=rfl
  have e2:dp 116 (⟨l,a,fin,ag⟩,c)=jw ⟨l,a,fin,ag⟩ c (fN (ae.label (bd l)) l (a:Nat) fin):=rfl;rw[e1,e2,hm];have ha:=W4 (Na (m+1)) l (a:Nat) fin;generalize fN (ae.label (m+1)) l (a:Nat) fin=T at ha ⊢;generalize fz (m+1) l (a:Nat) fin=g at ha hi ⊢
  rcases ha with ⟨p1,p2⟩ | ⟨p1,p2⟩
  .left;rw[aE p1,p2];exact⟨hi.1,rfl⟩
  .right;rw[aA (by simp[p1]),p2];exact⟨show(-1:Int)<0 by decide,rfl⟩
 .have hi:=Xd h0 (bd l) l (a:Nat) fin hl hf;obtain⟨m,hm⟩:∃m,bd l=m+1:=⟨bd l - 1,by omega⟩;rw[hm] at hi;have e1:jK 114 c l (a:Nat) fin=if (hZ (bd l) l (a:Nat) fin).aG=ab then(c,(a:Int),(hZ (bd l) l (a:Nat) fin).pos) else(if c.left.kind=0 then {c with left:=(hZ (bd l) l (a:Nat) fin).node} else {c with right:=(hZ (bd l) l (a:Nat) fin).node},(hZ (bd l) l (a:Nat) fin).next,-1):=rfl
  have e2:dp 114 (⟨l,a,fin,ag⟩,c)=jw ⟨l,a,fin,ag⟩ c (fN (ae.row (bd l)) l (a:Nat) fin):=rfl;rw[e1,e2,hm];have ha:=W4 (ar' m) l (a:Nat) fin;generalize fN (ae.row (m+1)) l (a:Nat) fin=T at ha ⊢;generalize hZ (m+1) l (a:Nat) fin=g at ha hi ⊢
  rcases ha with ⟨p1,p2⟩ | ⟨p1,p2⟩
  .left;rw[aE p1,p2];exact⟨hi.1,rfl⟩
  .right;rw[aA (by simp[p1]),p2];exact⟨show(-1:Int)<0 by decide,rfl⟩
theorem IW{b:Int}:∀(ks:List UInt8) (x:ae × az),x.1.aG=aa b->(iQ ks x).1.aG=aa b
 | [],_,h=>h
 | k :: ks, x, h => by
  simp only[iQ];exact IW ks _ (by simp[dp,h])
theorem aqf{k:UInt8}{fin:Int}(hk:k≠112):(jK k c l a fin).1.bA=c.bA:=by
 unfold jK;split
 .split
  .split<;>rfl
  .rfl
 split
 .split<;>rfl
 generalize (if k=114 then hZ (bd l) l a fin else fz (bd l) l a fin)=g;simp only[];cases g.aG
 .simp only[da,bZ];split<;>rfl
 .rfl
theorem Oa{l:List al}{fin:Int}(hl:lZ N l)(hf:In N fin)(hm:0<bd l):∀(ks:List UInt8) (c:az) (a:Nat),Ir ks->ks.count 112<=1->(112∈ks->c.bA=[]) ->
 PA l fin (iQ ks (⟨l,a,fin,ag⟩,c)) (mV l fin ks c a)
 | [],c,a,_,_,_=>.inr ⟨by simp[mV],rfl⟩
 | k :: ks, c, a, hk, hc, hp => by
  have h1:=aqg h0 hl hf hm c a (hk k (by simp)) (λh=>hp (by simp[h]));obtain⟨a',yM,_⟩:=Wl k c l a fin;have HX:=aqf h0 (k:=k) (c:=c) (l:=l) (a:=(a:Nat)) (fin:=fin);simp only[iQ,mV];generalize jK k c l (a:Nat) fin=R at h1 yM HX ⊢
  rcases h1 with ⟨p1,p2⟩ | ⟨p1,p2⟩
  .rw[aE p1];exact .inl ⟨p1,IW h0 ks _ p2⟩
  .rw[aA (by omega),p2,yM]
   by_cases e:k=112
   .have hn:ks.count 112=0:=by rw[e] at hc;rw[P5] at hc;omega
    exact Oa hl hf hm ks _ a' (λk h=>hk k (by simp[h])) (by omega) (λh=>absurd h (P6.1 hn))
   .refine Oa hl hf hm ks _ a' (λk h=>hk k (by simp[h])) ?_ (λh=>?_)
    .rw[List.count_cons_of_ne e] at hc;exact hc
    .rw[HX e];exact hp (by simp[h])
end
def VZ{w:List UInt8}:∀n op,(∀k:Nat,op<=k->k<op+n->0<k->(bY k).1≠w)->pd w n op=0
 | 0,_,_=>rfl
 | n + 1, op, h => by
  simp only[pd];rw[aA (λ⟨x,y⟩=>h op (by omega) (by omega) x y)];exact VZ n (op+1) λk a b c=>h k (by omega) (by omega) c
def V7{w:List UInt8}(r:Int):∀n op,(∀k:Nat,op<=k->k<op+n->(bY k).1≠w)->kN w n op r=r
 | 0,_,_=>rfl
 | n + 1, op, h => by
  simp only[kN];rw[aA (λe=>h op (by omega) (by omega) e.symm)];exact V7 r n (op+1) λk a b=>h k (by omega) (by omega)
def aoK(w:List UInt8):je w=kN w 15 1 0:=by
 by_cases h:∃k:Nat,k<16/\0<k/\(bY k).1=w
 .obtain⟨k,h1,h2,rfl⟩:=h;have key:∀k:Nat,k<16->0<k->pd (bY k).1 16 0=kN (bY k).1 15 1 0:=by decide +kernel
  exact key k h1 h2
 .have hn:∀k:Nat,k<16->0<k->(bY k).1≠w:=λk h1 h2 e=>h ⟨k,h1,h2,e⟩
  unfold je;rw[VZ 16 0 (λk _ h1 h2=>hn k (by omega) h2),V7 0 15 1 (λk h1 h2=>hn k (by omega) (by omega))]
def Ho(op:Int):Ir (bY op).2/\(bY op).2.count 112<=1:=by
 unfold bY Ir;split
 .rename_i h1;have aC:op.toNat<16:=by omega
  generalize op.toNat=n at aC ⊢;have key:∀n<16,(∀k∈(iN.getD n ([],[])).2,k=110\/k=102\/k=119\/k=112\/k=116\/k=114)/\(iN.getD n ([],[])).2.count 112<=1:=by decide +kernel
  exact key n aC
 .simp
def acD(h0:0<=N){fin:Int}(hl:lZ N l)(hf:In N fin):tZ l fin=t_ l fin:=by
 cases l with
 | nil=>rfl
 | cons t ts =>
  have hm:0<bd (t::ts):=by have:=gm (t::ts);simp at this;omega
  have hk:a8 (t::ts) ((0:Nat):Int) 97=decide (t.tok.kind=97):=by simp[a8]
  unfold tZ t_;simp only
  by_cases cZ:t.tok.kind=97
  .have s9:a8 (t::ts) 0 97=true:=by have:=hk;simp only[cZ,bL] at this;exact this
   have hw:(⟨t::ts,0,fin,ag⟩:ae).word=(⟨t.tok.aq,t.tok.pos⟩,⟨t::ts,((1:Nat):Int),fin,ag⟩):=by
    rw[F9 s9];rfl
   simp only[hw,aE cZ,<-aoK];generalize je t.tok.aq=op
   by_cases hz:op=0
   .rw[aE hz,aE hz]
   .rw[aA hz,aA hz];obtain⟨f1,f2⟩:=Ho op;have EL:=Oa h0 hl hf hm (bY op).2 {az.zero with op:=op,pos:=t.tok.pos} 1 f1 f2 (λ_=>rfl);rw[show((1:Nat):Int)=1 from rfl] at EL ⊢;generalize mV (t::ts) fin (bY op).2 {az.zero with op:=op,pos:=t.tok.pos} 1=R at EL ⊢
    rcases EL with ⟨p1,p2⟩ | ⟨p1,p2⟩
    .rw[aE p1];unfold w7;simp[p2]
    .rw[aA (by omega),p2];unfold w7
     by_cases db:R.2.1<((t::ts).length:Int)
     .rw[aE db];simp only[pq,aE db,ae.fail,Dl]
     .rw[aA db];simp only[pq,aA db]
  .have s9:a8 (t::ts) 0 97=false:=by have:=hk;simp only[cZ,c7] at this;exact this
   rw[F8 s9,aA cZ]
   have:je []=0:=by decide +kernel
   simp only[this,cm]
def W6(s:List UInt8):cM s=Bm s:=by
 unfold cM Bm;rw[Bz];have h:=(Vm s).1;rw[acD (N:=s.length) (by omega) h ⟨by omega,by omega⟩]
 all_goals rcases(dv s).2 with _ | a<;>first | rfl | (cases (gf (dv s).1).2<;>rfl)
def Of(h:c.fS=ab)(h1:1<=c.op):∀q∈mz (bY c.op).2 [c.left,c.right],z_ q.1 c q.2:=by
 simp only[az.fS,bF,cn] at h;obtain⟨⟨⟨⟨h0,hn⟩,lJ⟩,hp⟩,ht⟩:=h;obtain⟨hk,_,_⟩:=Ee h1 h0.2;simp only[az.nN,az.kK,az.lT,az.kt,fy] at hn lJ hp ht;have nm:∀l,pZ (l.map aB.aq)=ab->iR l=true:=λl h=>an_ h
 simp only[Fa,lF,Gp,Fx] at hk
 rcases hk with e | e | e | e | e | e | e
 all_goals simp[e] at hn lJ hp ht
 all_goals simp[e,mz,isTerm,z_]
 .exact⟨hn,lJ.1,nm _ lJ.2⟩
 .exact⟨hn,⟨lJ.1,nm _ lJ.2⟩,hp⟩
 .exact⟨hn,ht.1,ht.2⟩
 .exact⟨hn,ht.1,ht.2⟩
 .exact⟨hn,lJ.1,nm _ lJ.2⟩
 .exact hn
mutual
def Nd.zw:∀(n m:Nd),n.c9 m=ab->m.c9 n=ab
 | .mk k p t ws ks, m, h => by
  rw[Nd.Di] at h;simp only[bF,cn] at h;obtain⟨⟨⟨h1,h2⟩,h3⟩,h4⟩:=h;refine uT h1.symm h2.symm ?_ (XU ks m.aj h4);rw[FL] at h3 ⊢;simp only[cn] at h3 ⊢;exact h3.symm
def XU:∀(a b:List Nd),dP a b=ab->dP b a=ab
 | [],[],_=>by simp[dP]
 | [],_::_,h=>by simp[dP] at h
 | _::_,[],h=>by simp[dP] at h
 | n :: ns, m :: ms, h => by
  simp only[dP,bF] at h ⊢;exact⟨Nd.zw n m h.1,XU ns ms h.2⟩
end
def XF:∀(a b:List (aB × aB)),lW a b=ab->lW b a=ab
 | [],[],_=>rfl
 | [],_::_,h=>by simp[lW] at h
 | _::_,[],h=>by simp[lW] at h
 | p :: ps, q :: qs, h => by
  simp only[lW,bF,cn] at h ⊢;exact⟨⟨h.1.1.symm,h.1.2.symm⟩,XF ps qs h.2⟩
def az.zw{a b:az}(h:a.c9 b=ab):b.c9 a=true:=by
 unfold az.c9 at h ⊢;rw[FL] at h ⊢;simp only[bF,cn] at h ⊢;obtain⟨⟨⟨⟨⟨h1,h2⟩,h3⟩,h4⟩,h5⟩,h6⟩:=h;exact⟨⟨⟨⟨⟨h1.symm,h2.symm⟩,h3.symm⟩,XF _ _ h4⟩,Nd.zw _ _ h5⟩,Nd.zw _ _ h6⟩
def UW{m n:Nd}(h:m.c9 n=ab):m.kind=n.kind:=by
 rw[Nd.Di] at h;simp only[bF,cn] at h;exact h.1.1.1
def UZ{n:Nd}(h:n.fA=ab):n.kind≠0:=by
 rcases Ff h with ⟨h,_⟩ | ⟨h,_⟩ | ⟨h,_⟩<;>omega
def Xf{n:Nd}(h:n.jN=ab):n.kind≠0:=by
 rcases FK h with ⟨h,_⟩ | ⟨h,_⟩<;>omega
def aey{d:az}(h:c.fS=ab)(h1:1<=c.op)(he:Gf c (mz (bY c.op).2 [c.left,c.right]) {az.zero with op:=c.op,pos:=p} d):d.c9 c=true:=by
 simp only[az.fS,bF,cn] at h;obtain⟨⟨⟨⟨h0,hn⟩,lJ⟩,hp⟩,ht⟩:=h;obtain⟨hk,_,_⟩:=Ee h1 h0.2;simp only[az.nN,az.kK,az.lT,az.kt,fy] at hn lJ hp ht;simp only[Fa,lF,Gp,Fx] at hk;have zl:∀n:Nd,n.c9 .zero=ab->Nd.zero.c9 n=true:=λn h=>Nd.zw _ _ h
 have hz:(Nd.zero).kind=0:=rfl;have w0:c.an=[]->ey [] c.an=true:=λe=>by rw[e];rfl
 have p0:c.bA=[]->lW [] c.bA=true:=λe=>by rw[e];rfl
 rcases hk with e | e | e | e | e | e | e
 all_goals simp[e] at hn lJ hp ht
 all_goals simp[e,mz,isTerm,Gf,Ge] at he
 .obtain⟨c1,⟨w,a1,rfl⟩,ws,a2,rfl⟩:=he;simp[az.c9,a1,a2,az.zero,p0 hp,zl _ ht.1,zl _ ht.2]
 .obtain⟨c1,⟨w,a1,rfl⟩,c2,⟨ws,a2,rfl⟩,ps,a3,⟨a,rfl⟩⟩:=he;simp[az.c9,a1,a2,a3,az.zero,zl _ ht.1,zl _ ht.2]
 .obtain⟨c1,⟨w,a1,rfl⟩,c2,⟨m,a2,rfl⟩,m2,a3,rfl⟩:=he
  have:=UW a2
  have:=UZ ht.1
  have hm:m.kind≠0:=by omega
  simp[az.c9,a1,a2,a3,az.zero,hz,hm,w0 lJ,p0 hp]
 .obtain⟨c1,⟨w,a1,rfl⟩,c2,⟨m,a2,rfl⟩,m2,a3,rfl⟩:=he
  have:=UW a2
  have:=Xf ht.1
  have hm:m.kind≠0:=by omega
  simp[az.c9,a1,a2,a3,az.zero,hz,hm,w0 lJ,p0 hp]
 .obtain⟨c1,⟨w,a1,rfl⟩,ws,a2,rfl⟩:=he;simp[az.c9,a1,a2,az.zero,p0 hp,zl _ ht.1,zl _ ht.2]
 .subst he;simp[az.c9,az.zero,hn,w0 lJ,p0 hp,zl _ ht.1,zl _ ht.2]
 .obtain⟨w,a1,rfl⟩:=he;simp[az.c9,a1,az.zero,w0 lJ,p0 hp,zl _ ht.1,zl _ ht.2]
def acB(h:c.fS=ab)(h1:1<=c.op)(ht:toks.map Tok.sh=FO c):
 ∃us:List al,bu us=toks/\fG us/\∀fin:Int,∃d:az,tZ us fin=(d,0,0)/\d.c9 c=true:=by
 have uf:c.op<=15:=by simp only[az.fS,bF,cn] at h;exact h.1.1.1.1.2
 obtain⟨_,k2,k3⟩:=Ee h1 uf;unfold FO at ht;obtain⟨t1,t2,rfl,a1,a2⟩:=jX.1 ht;obtain⟨u1,n1,f1,w1,b1⟩:=yb ⟨(bY c.op).1,0⟩ t1 a1;obtain⟨u2,f2,w2,b2⟩:=Wp (mz (bY c.op).2 [c.left,c.right]) (Of h h1) (by rw[Np];exact(Ho c.op).2) t2 a2;refine⟨u1++u2,by rw[iM,f1,f2],by rw[kz];exact⟨w1,w2⟩,λfin=>?_⟩;obtain⟨y,q1,q2⟩:=b1 (bd u1) (bS _) [] u2 fin;have q1:(at_ [] (u1++u2) fin 0).word=(y,at_ u1 u2 fin 0):=q1;have q2:y.aq=(bY c.op).1:=by simpa [qg] using q2
 obtain⟨d,e1,e2⟩:=b2 u1 fin {az.zero with op:=c.op,pos:=y.pos} (λ_=>rfl);rw[Np] at e1;refine⟨d,?_,aey h h1 e2⟩;have hq:(⟨u1++u2,0,fin,ag⟩:ae).word=(y,at_ u1 u2 fin 0):=q1;obtain⟨t,ts,hu⟩:∃t ts,u1++u2=t::ts:=by
  cases u1 with
  | nil=>exact absurd rfl n1
  | cons t r=>exact⟨t,r++u2,rfl⟩
 rw[hu] at hq ⊢;unfold tZ;simp only[hq,q2,k3];rw[aA (by omega),e1];unfold w7;simp[at_]
end Go.Am
