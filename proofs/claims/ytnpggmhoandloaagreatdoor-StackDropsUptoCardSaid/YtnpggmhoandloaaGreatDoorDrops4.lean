/-
  Part 4 of the proof of StackDropsUptoCardSaid: a logic over the model, the forms of the functions that the law reaches, and what they compute.
-/
import Derived.Test.YtnpggmhoandloaaGreatDoorDrops3
set_option linter.unusedVariables false
set_option linter.unusedSimpArgs false
set_option linter.defProp false
set_option linter.unusedSectionVars false
set_option maxRecDepth 4000
set_option maxHeartbeats 4000000
open Option renaming some->U,none->ae
open Bool renaming true->aa,false->ak
open List renaming replicate->aA,range->cc,getD->gU,zipWith->lg
open Eq renaming mpr->eN
open Ne renaming symm->fm
namespace Go.Am
variable{p:Int}{ws:List au}
def aoD(h:hH ws=aa):(Nd.mk 3 p [] ws []).il=true:=by
 rw[Nd.y8];simp[Nd.kind,Nd.al,Nd.aj,Nd.ah,h]
variable{ks:List Nd}
def aoE(h:∀x∈ks,x.il=aa)(h0:0<ks.length):(Nd.mk 4 p [] [] ks).il=true:=by
 rw[Nd.y8];simp[Nd.kB,Nd.kind,Nd.al,Nd.aj,Nd.ah];exact⟨h0,h⟩
def aoB(h:∀x∈ks,x.o5=aa):(Nd.mk 5 p [] [] ks).il=true:=by
 rw[Nd.y8];simp[Nd.kB,Nd.kind,Nd.al,Nd.aj,Nd.ah];exact h
def Vh{n:Nd}(hk:n.kind=2)(h:n.kl=aa):n.il=true:=by rw[Nd.y8,aD hk];exact h
def M6{n:Nd}(hk:n.kind=1)(h:n.kl=aa):n.eU=true:=by rw[Nd.s9,aD hk];exact h
def aoA{c:Nd}(h:c.il=aa):(Nd.mk 7 p [] [] [c]).eU=true:=by
 rw[Nd.s9];simp[Nd.kB,Nd.kind,Nd.al,Nd.aj,Nd.ah,uF,h]
variable{k:Int}
def Vg(hk:k=8\/k=9)(h:∀x∈ks,x.eU=aa)(h0:0<ks.length):(Nd.mk k p [] [] ks).eU=true:=by
 rw[Nd.s9]
 rcases hk with rfl | rfl
 all_goals
  simp[Nd.kB,Nd.kind,Nd.al,Nd.aj,Nd.ah];exact⟨h0,h⟩
def qq{t:ar}(hg:t.Good)(hk:t.tok.kind=k)(gd:k≠97):t.tok.al=[UInt8.ofNat k.toNat]:=by
 rcases((xz _).1 hg).1 with ⟨h,_⟩ | ⟨_,h⟩
 .omega
 .rw[h,hk]
def N3{t:ar}(hg:t.Good):t.tok.al.length<=16:=aq' ((xz _).1 hg).1
def SW(w:au):Nat:=w.al.length+1
def SN(n:Nd):Nat:=n.wt+1
def vm:Sound ab.word au.al (λw=>dy w.al=aa) SW:=by
 intro r hg hb;obtain⟨t1,t2⟩:=nq (show(r.take 97).2.aE=ae from hb);have lx:=(t1.kc hg).1;refine⟨[(r.take 97).1],t1,aq5 t2,?_,?_⟩
 .rcases((xz _).1 lx).1 with ⟨_,h⟩ | ⟨h,_⟩
  .exact h
  .exact absurd t2 h
 .have:=N3 lx
  rw[tI];simp only[SW,ab.word];omega
def DV(hk:k=1\/k=2):Sound (ab.leaf k) Nd.da (λn=>n.kind=k/\n.kl=aa) SN:=by
 intro r hg hb;obtain⟨seg,e1,e2,e3,e4⟩:=vm r hg hb;refine⟨seg,e1,?_,⟨rfl,?_⟩,?_⟩
 .rw[e2];simp only[ab.leaf];rw[Nd.da,aD hk]
 .simp only[ab.leaf,Nd.kl,Nd.al,Nd.aj,Nd.ah];rw[e3];rfl
 .simp only[SW] at e4;simp only[ab.leaf,SN,Nd.wt,eB,fk,eC,rA];obtain⟨t1,t2⟩:=nq (show(r.take 97).2.aE=ae from hb);have hl:=N3 (t1.kc hg).1;have h0:26<=iN seg:=by
   obtain⟨pre,post,q1,q2,q3⟩:=e1.ex
   rcases seg with _ | ⟨t,ts⟩
   .exfalso
    obtain⟨p,q,r1,r2,r3⟩:=t1.ex
    have:r.word.2.at_=(r.take 97).2.at_:=rfl
    simp only[bI,ei,gv] at q3 r3;omega
   .simp only[iN,a9];omega
  have:r.word.1.al.length<=16:=hl
  omega
theorem asV(l:List au):(l.map SW).sum=eB l:=rfl
def Xu(l:List Nd):(l.map SN).sum=fk l:=by rw[EK];rfl
def Nj{l:List au}(h:∀w∈l,dy w.al=aa):hH l=true:=lf.2 h
variable{e:Bool}{r:ab}
def Oj(hg:ec r.l)(hb:(r.words e).2.aE=ae):
 ∃t,ib r (r.words e).2 [t]/\t.Good/\eW (bj [t])=[123]++ia (r.words e).1.1++[125]/\hH (r.words e).1.1=aa/\eB (r.words e).1.1+26<=iN [t]:=by
 obtain⟨t,h1,h2,h3,h4,h5,_⟩:=Jb (one:=ab.word) vm (k:=123) (e:=e) hg hb;have lx:=(h1.kc hg).1;refine⟨t,h1,lx,?_,Nj h4,?_⟩
 .rw[B7 (by rw[h2];decide),h3,qq lx h2 (by decide),h2];rfl
 .rw[asV] at h5;rw[tI];have e:eB (r.words e).1.1=eB (r.bracket (b_ ab.word) 123 e).1.1:=rfl;omega
def Hw{one:ab->Nd × ab}{Q:Nd->Prop}(hs:Sound one Nd.da Q SN)(hk:k=40\/k=91)(hg:ec r.l)(hb:(r.nodes one k e).2.aE=ae):
 ∃t,ib r (r.nodes one k e).2 [t]/\t.Good/\eW (bj [t])=[UInt8.ofNat k.toNat]++cz (dD (r.nodes one k e).1.1)++[UInt8.ofNat (closing k).toNat]/\(∀x∈(r.nodes one k e).1.1,Q x)/\fk (r.nodes one k e).1.1+26<=iN [t] /\
  (e=ak->0<(r.nodes one k e).1.1.length):=by
 obtain⟨t,h1,h2,h3,h4,h5,h6⟩:=Jb hs (k:=k) (e:=e) hg hb;have lx:=(h1.kc hg).1;refine⟨t,h1,lx,?_,h4,?_,h6⟩
 .rw[B7 (by rw[h2];rcases hk with rfl | rfl<;>decide),h3,qq lx h2 (by omega),h2,AB];rfl
 .rw[Xu] at h5;rw[tI];have e:fk (r.nodes one k e).1.1=fk (r.bracket (b_ one) k e).1.1:=rfl;omega
def apv:Sound ab.ng Nd.da (λn=>n.o5=aa) SN:=by
 intro r hg hb;have b8 : ((r.word.2.take 58).2.words aa).2.aE=none:=hb;have l1:r.word.2.l=r.l:=r.ft 97;have l2:(r.word.2.take 58).2.l=r.l:=(ab.ft _ 58).trans l1;obtain⟨t,h1,h2,h3,h4,h5⟩:=Oj (by rw[l2];exact hg) b8;obtain⟨c1,c2⟩:=nq h1.b;obtain⟨seg,e1,e2,e3,e4⟩:=vm r hg c1.b;have mq:=(c1.kc (by rw[l1];exact hg)).1;refine⟨seg++[(r.word.2.take 58).1]++[t],(e1.trans c1).trans h1,?_,?_,?_⟩
 .rw[wN (by rw[c2];decide) (by rw[c2];rfl),e2,h3,qq mq c2 (by decide)];simp only[ab.ng];rw[Nd.da];simp
 .simp only[ab.ng,Nd.o5,Nd.kind,Nd.al,Nd.aj,Nd.ah];rw[e3,h4];rfl
 .simp only[ab.ng,SN,Nd.wt,fk,wJ,tI];simp only[SW] at e4;simp only[tI] at h5;omega
def Qn:∀n,Sound (ab.constant n) Nd.da (λm=>m.il=aa) SN
 | 0 => λr hg hb => by
  obtain⟨seg,e1,e2,⟨e3,e5⟩,e4⟩:=DV (.inr rfl) r hg hb;refine⟨seg,e1,e2,?_,e4⟩;exact Vh e3 e5
 | n + 1 => λr hg hb => by
  simp only[ab.constant] at hb ⊢;split
  .rename_i hs;rw[aD hs] at hb;obtain⟨t,h1,h2,h3,h4,h5⟩:=Oj hg hb;refine⟨[t],h1,?_,?_,?_⟩
   .rw[h3,Nd.da];simp
   .exact aoD h4
   .simp only[SN,Nd.wt,fk,ei];omega
  .rename_i hs;rw[aB hs] at hb;split
   .rename_i hs;rw[aD hs] at hb;obtain⟨t,h1,h2,h3,h4,h5,h6⟩:=Hw (Qn n) (.inl rfl) hg hb;refine⟨[t],h1,?_,?_,?_⟩
    .rw[h3,Nd.da];simp only[show(closing 40).toNat=41 from rfl];rfl
    .exact aoE h4 (h6 rfl)
    .simp only[SN,Nd.wt,eB,eC,rA,ei];omega
   .rename_i hs;rw[aB hs] at hb;split
    .rename_i hs;rw[aD hs] at hb;obtain⟨t,h1,h2,h3,h4,h5,h6⟩:=Hw apv (.inr rfl) hg hb;refine⟨[t],h1,?_,?_,?_⟩
     .rw[h3,Nd.da];simp only[show(closing 91).toNat=93 from rfl];rfl
     .exact aoB h4
     .simp only[SN,Nd.wt,eB,eC,rA,ei];omega
    .rename_i hs;rw[aB hs] at hb;obtain⟨seg,e1,e2,⟨e3,e5⟩,e4⟩:=DV (.inr rfl) r hg hb;refine⟨seg,e1,e2,?_,e4⟩;exact Vh e3 e5
def PC(n:Nat):Sound (ab.atom n) Nd.da (λm=>m.ph=aa) SN:=by
 intro r hg hb;simp only[ab.atom] at hb ⊢;split
 .rename_i hs;rw[aD hs] at hb;have l1:(r.take 35).2.l=r.l:=r.ft 35;obtain⟨seg,e1,e2,e3,e4⟩:=Qn n (r.take 35).2 (by rw[l1];exact hg) hb;obtain⟨c1,c2⟩:=nq e1.b;have mq:=(c1.kc hg).1;refine⟨[(r.take 35).1]++seg,c1.trans e1,?_,?_,?_⟩
  .have:=wN (t:=(r.take 35).1) (by rw[c2];decide) (by rw[c2];rfl) [] seg
   rw[fY] at this;rw[this,qq mq c2 (by decide),e2,Nd.da];simp[bj,eW,iO,dD,qc]
  .simp only[Nd.ph,aoA e3,Nd.kind];rfl
  .simp only[SN,Nd.wt,eB,fk,eC,rA,ei,wJ,tI] at e4 ⊢;omega
 .rename_i hs;rw[aB hs] at hb;obtain⟨seg,e1,e2,⟨e3,e5⟩,e4⟩:=DV (.inl rfl) r hg hb;refine⟨seg,e1,e2,?_,e4⟩;simp only[Nd.ph,M6 e3 e5,e3];rfl
def Fw{n:Nd}(h:n.ph=aa):n.eU=true:=by simp only[Nd.ph,bA] at h;exact h.2
def Ha:∀n,Sound (ab.label n) Nd.da (λm=>m.eU=aa) SN
 | 0 => λr hg hb => by
  obtain⟨seg,e1,e2,⟨e3,e5⟩,e4⟩:=DV (.inl rfl) r hg hb;refine⟨seg,e1,e2,?_,e4⟩;exact M6 e3 e5
 | n + 1 => λr hg hb => by
  simp only[ab.label] at hb ⊢;split
  .rename_i hs;rw[aD hs] at hb;have l1:(r.take 43).2.l=r.l:=r.ft 43;obtain⟨t,h1,h2,h3,h4,h5,h6⟩:=Hw (Ha n) (.inl rfl) (by rw[l1];exact hg) hb;obtain⟨c1,c2⟩:=nq h1.b;have mq:=(c1.kc hg).1;refine⟨[(r.take 43).1]++[t],c1.trans h1,?_,?_,?_⟩
   .have:=wN (t:=(r.take 43).1) (by rw[c2];decide) (by rw[c2];rfl) [] [t]
    rw[fY] at this;rw[this,qq mq c2 (by decide),h3,Nd.da];simp only[show(closing 40).toNat=41 from rfl];rfl
   .exact Vg (.inl rfl) h4 (h6 rfl)
   .simp only[SN,Nd.wt,eB,eC,rA,ei,wJ,tI] at h5 ⊢;omega
  .rename_i hs;rw[aB hs] at hb;split
   .rename_i hs;rw[aD hs] at hb;have l1:(r.take 38).2.l=r.l:=r.ft 38;obtain⟨t,h1,h2,h3,h4,h5,h6⟩:=Hw (Ha n) (.inl rfl) (by rw[l1];exact hg) hb;obtain⟨c1,c2⟩:=nq h1.b;have mq:=(c1.kc hg).1;refine⟨[(r.take 38).1]++[t],c1.trans h1,?_,?_,?_⟩
    .have:=wN (t:=(r.take 38).1) (by rw[c2];decide) (by rw[c2];rfl) [] [t]
     rw[fY] at this;rw[this,qq mq c2 (by decide),h3,Nd.da];simp only[show(closing 40).toNat=41 from rfl];rfl
    .exact Vg (.inr rfl) h4 (h6 rfl)
    .simp only[SN,Nd.wt,eB,eC,rA,ei,wJ,tI] at h5 ⊢;omega
   .rename_i hs;rw[aB hs] at hb;obtain⟨seg,e1,e2,e3,e4⟩:=PC (n+1) r hg hb;exact⟨seg,e1,e2,Fw e3,e4⟩
def adL(n:Nat):Sound (ab.field n) Nd.da (λm=>m.lr=aa) SN:=by
 intro r hg hb;have b8 : ((r.word.2.take 61).2.atom n).2.aE=none:=hb;have l1:r.word.2.l=r.l:=r.ft 97;have l2:(r.word.2.take 61).2.l=r.l:=(ab.ft _ 61).trans l1;obtain⟨sg,h1,h2,h3,h4⟩:=PC n (r.word.2.take 61).2 (by rw[l2];exact hg) b8;obtain⟨c1,c2⟩:=nq h1.b;obtain⟨seg,e1,e2,e3,e4⟩:=vm r hg c1.b;have mq:=(c1.kc (by rw[l1];exact hg)).1;refine⟨seg++[(r.word.2.take 61).1]++sg,(e1.trans c1).trans h1,?_,?_,?_⟩
 .rw[wN (by rw[c2];decide) (by rw[c2];rfl),e2,h2,qq mq c2 (by decide)];simp only[ab.field];rw[Nd.da];simp[dD,qc]
 .simp only[ab.field,Nd.lr,Nd.kind,Nd.al,Nd.aj,Nd.ah,uF];rw[e3,h3];rfl
 .simp only[ab.field,SN,Nd.wt,fk,eB,eC,rA,wJ,tI] at h4 ⊢;simp only[SW] at e4;omega
def aoC(h1:ws.length<=1)(h2:hH ws=aa)(h3:∀x∈ks,x.lr=aa):(Nd.mk 10 p [] ws ks).iW=true:=by
 unfold Nd.iW;simp[Nd.kind,Nd.al,Nd.aj,Nd.ah,h2];exact⟨aP (by omega),h3⟩
def S4(t:ar):ib t.inner t.inner []:=⟨⟨[],t.ah,rfl,rfl,rfl⟩,rfl,rfl,rfl⟩
def Q0{n:Nat}{t:ar}(hg:ec t.ah){a:ab × List Nd}(ha:a=if t.inner.bR 124=aa then(t.inner,[]) else dJ (b_ (ab.field n)) t.inner)(hb:a.1.aE=ae):
 ∃seg,ib t.inner a.1 seg/\eW (bj seg)=cz (dD a.2)/\(∀x∈a.2,x.lr=aa)/\fk a.2<=iN seg:=by
 split at ha
 .subst ha;exact⟨[],S4 t,rfl,by simp,by simp[fk]⟩
 .subst ha;obtain⟨seg,e1,e2⟩:=Wx (adL n) (r:=t.inner) hg hb;refine⟨seg,e1,?_,e2.q,?_⟩
  .rw[e2.t,AB]
  .have:=e2.s;rwa [Xu] at this
def apd{n:Nat}{t:ar}(hg:ec t.ah)(hb:(ab.rowOf n t).1.1.aE=ae):
 ∃seg,ib t.inner (ab.rowOf n t).1.1 seg/\eW (bj seg)=cz (dD (ab.rowOf n t).1.2)++(if 0<(ab.rowOf n t).2.length then [124]++ia (ab.rowOf n t).2 else []) /\
  (∀x∈(ab.rowOf n t).1.2,x.lr=aa)/\(ab.rowOf n t).2.length<=1/\hH (ab.rowOf n t).2=aa/\fk (ab.rowOf n t).1.2+eB (ab.rowOf n t).2<=iN seg:=by
 unfold ab.rowOf at hb ⊢;split
 .exact⟨[],S4 t,rfl,by simp,by simp,rfl,by simp[fk,eB]⟩
 rename_i aQ;rw[aB aQ] at hb;unfold ab.mD at hb ⊢;simp only at hb ⊢;generalize ha:(if t.inner.bR 124=aa then(t.inner,[]) else dJ (b_ (ab.field n)) t.inner)=a at hb ⊢;split
 .rename_i hs;rw[aD hs] at hb;have hba:a.1.aE=none:=by
   simp only[ab.bR,ab.ok,bA,Cx] at hs;exact hs.1
  obtain⟨seg,e1,e2,e3,e4⟩:=Q0 hg ha.symm hba;have l1:a.1.l=t.inner.l:=e1.l;have l2:(a.1.take 124).2.l=t.inner.l:=(ab.ft _ 124).trans l1;obtain⟨sw,w1,w2,w3,w4⟩:=vm (a.1.take 124).2 (by rw[l2];exact hg) hb;obtain⟨c1,c2⟩:=nq w1.b;have mq:=(c1.kc (by rw[l1];exact hg)).1;refine⟨seg++[(a.1.take 124).1]++sw,(e1.trans c1).trans w1,?_,e3,by simp,?_,?_⟩
  .rw[wN (by rw[c2];decide) (by rw[c2];rfl),e2,qq mq c2 (by decide),w2];simp[ia,cz]
  .simp only[hH,tR,OI,vp];exact w3
  .simp only[wJ,tI,eB,bX,eC,mO,rA];simp only[SW] at w4;omega
 .rename_i hs;rw[aB hs] at hb;obtain⟨seg,e1,e2,e3,e4⟩:=Q0 hg ha.symm hb;exact⟨seg,e1,by simpa using e2,e3,by simp,rfl,by simpa [eB] using e4⟩
def VC(n:Nat):Sound (ab.row n) Nd.da (λm=>m.iW=aa) SN:=by
 intro r hg hb;simp only[ab.row] at hb ⊢;split
 .rename_i hs;rw[aD hs] at hb;have fg:(r.take 91).2.aE=none:=by
   rcases r.tJ 91 with ⟨_,_,h,_⟩ | ⟨h,_⟩
   .exact h
   .rw[hs] at h;simp at h
  obtain⟨c1,c2⟩:=nq fg;have mq:=(c1.kc hg).1;have v8:ec (r.take 91).1.ah:=((xz _).1 mq).2.2;have dw:(ab.rowOf n (r.take 91).1).1.1.close.aE=none:=hb;obtain⟨seg,e1,e2,e3,e4,e5,e6⟩:=apd (n:=n) v8 (Jl dw).1;have K_:=Pj e1 dw;subst K_;refine⟨[(r.take 91).1],⟨c1.ex,c1.l,c1.b,hb⟩,?_,aoC e4 e5 e3,?_⟩
  .rw[B7 (by rw[c2];decide),qq mq c2 (by decide),c2,e2,Nd.da];simp only[show(closing 91).toNat=93 from rfl];simp
  .simp only[SN,Nd.wt,tI,ei];omega
 .rename_i hs;rw[aB hs] at hb;obtain⟨seg,e1,e2,⟨e3,e5⟩,e4⟩:=DV (.inl rfl) r hg hb;refine⟨seg,e1,e2,?_,e4⟩
  have:=M6 e3 e5
  show(r.leaf 1).1.iW=aa;unfold Nd.iW;rw[e3,this];rfl
abbrev Sh:=Int × List UInt8
def Tok.sh(t:Tok):Sh:=(t.kind,t.al)
def bE(c:UInt8):Sh:=((c.toNat:Nat),[c])
def fA(t:List UInt8):Sh:=(97,t)
def ep:List (List Sh)->List Sh
 | []=>[]
 | x::xs=>x++xs.flatMap λy=>bE 44::y
def Gw:List (List Sh)->List Sh
 | []=>[]
 | x::_=>x
def k_(ws:List au):List Sh:=ep (ws.map λw=>[fA w.al])
mutual
def Nd.gj:Nd->List Sh
 | .mk k _ t ws ks =>
  if k=1\/k=2 then [fA t]
  else if k=3 then [bE 123]++k_ ws++[bE 125]
  else if k=4 then [bE 40]++ep (gk ks)++[bE 41]
  else if k=5 then [bE 91]++ep (gk ks)++[bE 93]
  else if k=6 then [fA t]++[bE 58]++([bE 123]++k_ ws++[bE 125])
  else if k=7 then [bE 35]++Gw (gk ks)
  else if k=8 then [bE 43]++([bE 40]++ep (gk ks)++[bE 41])
  else if k=9 then [bE 38]++([bE 40]++ep (gk ks)++[bE 41])
  else if k=10 then [bE 91]++(ep (gk ks)++(if 0<ws.length then [bE 124]++k_ ws else []))++[bE 93]
  else if k=11 then [fA t]++[bE 61]++Gw (gk ks)
  else []
def gk:List Nd->List (List Sh)
 | []=>[]
 | n::ns=>n.gj::gk ns
end
def Eo:∀l,gk l=l.map Nd.gj
 | []=>rfl
 | n::ns=>by simp[gk,Eo ns]
def lQ(s:List UInt8)(ks:List Sh):Prop:=∀(n p:Nat) (acc:List Tok),s.length<=n->∃toks,e9 n p s acc=(acc++toks,ae)/\toks.map Tok.sh=ks
def Stop:List UInt8->Prop
 | []=>True
 | c::_=>gy c=ak
def lex_nil:lQ [] []:=λn p acc _=>⟨[],by cases n<;>simp[e9],rfl⟩
variable{s:List UInt8}
def HT{c:UInt8}(h:gy c=ak):fj (c::s)=[]:=by simp[fj,h]
def TA{c:UInt8}(h1:mc (c.toNat:Nat)=aa)(h2:gy c=ak)(h3:c.toNat≠45){ks:List Sh}(h:lQ s ks):lQ ([c]++s) ([bE c]++ks):=by
 intro n p acc hn
 rcases n with _ | n
 .simp at hn
 obtain⟨toks,e1,e2⟩:=h n (p+1) (acc++[⟨(c.toNat:Nat),[c],p⟩]) (by simpa using hn);refine⟨⟨(c.toNat:Nat),[c],p⟩::toks,?_,by simp[Tok.sh,bE,e2]⟩;rw[mN,e9];rw[aB (λh=>h3 h.1),HT h2,aB (by simp),aD h1,e1];simp
def WN{O:Type}{f:O->Bool}:∀{t s:List O},t.all f=aa->(∀c r,s=c::r->f c=ak)->(t++s).takeWhile f=t
 | [], s, _, h => by
  cases s with
  | nil=>rfl
  | cons c r=>simp[h c r rfl]
 | x :: t, s, ht, h => by
  simp only[tR,bA] at ht;simp[ht.1,WN ht.2 h]
variable{t:List UInt8}
def alA(h:dy t=aa):t.all gy=aa/\(∃c r,t=c::r/\uV c=aa):=by
 unfold dy at h
 rcases t with _ | ⟨c,r⟩
 .simp at h
 .simp only[bA] at h;refine⟨?_,c,r,rfl,h.2.1⟩;simp only[tR,bA];refine⟨?_,h.2.2⟩
  have:=h.2.1
  simp only[uV,gy,yd,uB] at this ⊢
  simp_all
def Ty(ht:dy t=aa){ks:List Sh}(hs:Stop s)(h:lQ s ks):lQ (t++s) ([fA t]++ks):=by
 intro n p acc hn;obtain⟨dj,c,r,rfl,hc⟩:=alA ht
 rcases n with _ | n
 .simp at hn
 have cS:fj (c::r++s)=c::r:=WN dj λc' r' e=>by subst e;exact hs
 obtain⟨toks,e1,e2⟩:=h n (p+(c::r).length) (acc++[⟨97,c::r,p⟩]) (by simp at hn ⊢;omega);refine⟨⟨97,c::r,p⟩::toks,?_,by simp[Tok.sh,fA,e2]⟩;have Gf:c.toNat≠45:=λe=>by
  simp only[uV,yd,e] at hc;revert hc;decide
 rw[gE] at cS ⊢;rw[e9,aB (λh=>Gf h.1),cS,aD ⟨by simp,ht⟩];rw[show(c::(r++s)).drop (c::r).length=s by rw[<-gE,List.drop_left],e1];simp
def jD(tx:List UInt8)(sh:List Sh):Prop:=∀s ks,Stop s->lQ s ks->lQ (tx++s) (sh++ks)
def qx(tx:List UInt8)(sh:List Sh):Prop:=∀s ks,lQ s ks->lQ (tx++s) (sh++ks)
def qx.n{k:List Sh}(h:qx t k):jD t k:=λs ks _ hl=>h s ks hl
def uW(c:UInt8)(h:(mc (c.toNat:Nat)&&!gy c&&decide (c.toNat≠45))=aa):qx [c] [bE c]:=λ_ _ hl=>by
 simp only[bA,tP,b7] at h;exact TA h.1.1 h.1.2 h.2 hl
def wx(h:dy t=aa):jD t [fA t]:=λ_ _ hs hl=>Ty h hs hl
def qx.app{a b:List UInt8}{x y:List Sh}(h:qx a x)(k:qx b y):qx (a++b) (x++y):=λs ks hl=>by
 rw[dZ,dZ];exact h _ _ (k _ _ hl)
def jD.sign{a:List UInt8}{c:UInt8}{x:List Sh}(h:jD a x)(hc:(mc (c.toNat:Nat)&&!gy c&&decide (c.toNat≠45))=aa):qx (a++[c]) (x++[bE c]):=λs ks hl=>by
 rw[dZ,dZ]
 have:=hc
 simp only[bA,tP,b7] at this;exact h _ _ this.1.2 (uW c hc _ _ hl)
def qx.nn{a b:List UInt8}{x y:List Sh}(h:qx a x)(k:jD b y):jD (a++b) (x++y):=λs ks hs hl=>by
 rw[dZ,dZ];exact h _ _ (k _ _ hs hl)
def TC{G:Type}{T:G->List UInt8}{S:G->List Sh}:∀{l:List G},(∀x∈l,jD (T x) (S x))->∀s ks,Stop s->lQ s ks->Stop ((l.map T).flatMap (λy=>44::y)++s)/\lQ ((l.map T).flatMap (λy=>44::y)++s) ((l.map S).flatMap (λy=>bE 44::y)++ks)
 | [],_,s,ks,hs,hl=>⟨hs,hl⟩
 | x :: xs, h, s, ks, hs, hl => by
  obtain⟨h1,h2⟩:=TC (l:=xs) (λy hy=>h y (by simp[hy])) s ks hs hl;simp only[bX,pY,dZ,gE];refine⟨rfl,?_⟩;exact uW 44 (by decide) _ _ (h x (by simp) _ _ h1 h2)
variable{G:Type}
def Hj{T:G->List UInt8}{S:G->List Sh}{l:List G}(h:∀x∈l,jD (T x) (S x)):jD (cz (l.map T)) (ep (l.map S)):=by
 intro s ks hs hl;cases l with
 | nil=>exact hl
 | cons x xs =>
  obtain⟨h1,h2⟩:=TC (l:=xs) (λy hy=>h y (by simp[hy])) s ks hs hl;simp only[bX,cz,ep,dZ];exact h x (by simp) _ _ h1 h2
def L6(h:hH ws=aa):jD (ia ws) (k_ ws):=Hj (T:=au.al) (S:=λw=>[fA w.al]) λw hw=>wx (lf.1 h w hw)
def L5(h:hH ws=aa):qx ([123]++ia ws++[125]) ([bE 123]++k_ ws++[bE 125]):=jD.sign ((uW 123 (by decide)).nn (L6 h)) (by decide)
variable{b:UInt8}
def L4{a:UInt8}(ha:(mc (a.toNat:Nat)&&!gy a&&decide (a.toNat≠45))=aa)(hb:(mc (b.toNat:Nat)&&!gy b&&decide (b.toNat≠45))=aa)(h:∀n∈ks,jD n.da n.gj):
 qx ([a]++cz (dD ks)++[b]) ([bE a]++ep (gk ks)++[bE b]):=by
 rw[AB,Eo];exact jD.sign ((uW a ha).nn (Hj h)) hb
def Nd.tK(n:Nd):n.da=if n.kind=1\/n.kind=2 then n.al else if n.kind=3 then [123]++ia n.aj++[125] else if n.kind=4 then [40]++cz (dD n.ah)++[41] else if n.kind=5 then [91]++cz (dD n.ah)++[93]
 else if n.kind=6 then n.al++[58,123]++ia n.aj++[125] else if n.kind=7 then [35]++qc (dD n.ah) else if n.kind=8 then [43,40]++cz (dD n.ah)++[41] else if n.kind=9 then [38,40]++cz (dD n.ah)++[41]
 else if n.kind=10 then([91]++cz (dD n.ah))++(if 0<n.aj.length then [124]++ia n.aj else [])++[93] else if n.kind=11 then n.al++[61]++qc (dD n.ah) else []:=by cases n;rw[Nd.da];rfl
def Nd.j5(n:Nd):n.gj=if n.kind=1\/n.kind=2 then [fA n.al] else if n.kind=3 then [bE 123]++k_ n.aj++[bE 125] else if n.kind=4 then [bE 40]++ep (gk n.ah)++[bE 41] else if n.kind=5 then [bE 91]++ep (gk n.ah)++[bE 93]
 else if n.kind=6 then [fA n.al]++[bE 58]++([bE 123]++k_ n.aj++[bE 125]) else if n.kind=7 then [bE 35]++Gw (gk n.ah) else if n.kind=8 then [bE 43]++([bE 40]++ep (gk n.ah)++[bE 41]) else if n.kind=9 then [bE 38]++([bE 40]++ep (gk n.ah)++[bE 41])
 else if n.kind=10 then [bE 91]++(ep (gk n.ah)++(if 0<n.aj.length then [bE 124]++k_ n.aj else []))++[bE 93] else if n.kind=11 then [fA n.al]++[bE 61]++Gw (gk n.ah) else []:=by cases n;rw[Nd.gj];rfl
def G8{n m:Nd}(hm:m∈n.ah):m.wt+5<=n.wt:=by
 have h1:=Iq hm;have h2:fk n.ah+4<=n.wt:=by cases n;simp only[Nd.wt,Nd.ah];omega
 omega
def Lx(n:Nd):Prop:=jD n.da n.gj
def TV{n:Nd}(hk:n.kind=1\/n.kind=2)(h:n.kl=aa):Lx n:=by
 unfold Lx;rw[Nd.tK,Nd.j5,aD hk,aD hk];simp only[Nd.kl,bA] at h;exact wx h.1
def VJ{n:Nd}(h:n.o5=aa):n.kind=6/\dy n.al=aa/\hH n.aj=aa/\n.ah=[]:=by
 simp only[Nd.o5,bA,b7] at h;exact⟨h.1.1.1,h.1.1.2,h.1.2,jq.1 (by omega)⟩
def alf{n:Nd}(h:n.o5=aa):Lx n:=by
 obtain⟨k,h1,h2,_⟩:=VJ h;unfold Lx;rw[Nd.tK,Nd.j5];simp only[k,show ¬((6:Int)=1\/(6:Int)=2) by omega,show ¬(6:Int)=3 by omega,show ¬(6:Int)=4 by omega,show ¬(6:Int)=5 by omega,ck,cC];have e:n.al++[58,123]++ia n.aj++[125]=(n.al++[58])++([123]++ia n.aj++[125]):=by simp
 rw[e];exact(((wx h1).sign (by decide)).app (L5 h2)).n
def Qm{n:Nd}(h:n.il=aa):(n.kind=2/\n.kl=aa)\/(n.kind=3/\n.al=[]/\hH n.aj=aa/\n.ah=[])\/(n.kind=4/\n.al=[]/\n.aj=[]/\n.ah≠[]/\∀x∈n.ah,x.il=aa)\/(n.kind=5/\n.al=[]/\n.aj=[]/\∀x∈n.ah,x.o5=aa):=by
 rw[Nd.y8] at h;split at h
 .rename_i k;exact .inl ⟨k,h⟩
 split at h
 .rename_i k;simp only[bA,b7] at h;exact .inr (.inl ⟨k,h.1.1,h.1.2,jq.1 (by omega)⟩)
 split at h
 .rename_i k;simp only[Nd.kB,bA,b7] at h;exact .inr (.inr (.inl ⟨k,h.1.1.1,jq.1 (by omega),λe=>by rw[e] at h;simp at h,lf.1 h.2⟩))
 split at h
 .rename_i k;simp only[Nd.kB,bA,b7] at h;exact .inr (.inr (.inr ⟨k,h.1.1,jq.1 (by omega),lf.1 h.2⟩))
 .simp at h
def alc:∀(k:Nat) (n:Nd),n.wt<=k->n.il=aa->Lx n:=by
 intro k;induction k with
 | zero=>intro n h _;cases n;simp only[Nd.wt] at h;omega
 | succ k ih =>
  intro n hk h
  rcases Qm h with ⟨h1,h2⟩ | ⟨h1,_,h2,_⟩ | ⟨h1,_,_,_,h2⟩ | ⟨h1,_,_,h2⟩
  .exact TV (.inr h1) h2
  .unfold Lx;rw[Nd.tK,Nd.j5,h1];exact(L5 h2).n
  .unfold Lx;rw[Nd.tK,Nd.j5,h1];exact(L4 (by decide) (by decide) λm hm=>ih m (by have:=G8 hm;omega) (h2 m hm)).n
  .unfold Lx;rw[Nd.tK,Nd.j5,h1];exact(L4 (by decide) (by decide) λm hm=>alf (h2 m hm)).n
def DT{n:Nd}(h:n.eU=aa):(n.kind=1/\n.kl=aa)\/(n.kind=7/\n.al=[]/\n.aj=[]/\∃c,n.ah=[c]/\c.il=aa)\/((n.kind=8\/n.kind=9)/\n.al=[]/\n.aj=[]/\n.ah≠[]/\∀x∈n.ah,x.eU=aa):=by
 rw[Nd.s9] at h;split at h
 .rename_i k;exact .inl ⟨k,h⟩
 split at h
 .rename_i k;simp only[Nd.kB,bA,b7] at h;refine .inr (.inl ⟨k,h.1.1.1,jq.1 (by omega),?_⟩)
  match hq:n.ah,h.1.2 with
  | [c],_=>exact⟨c,rfl,by have:=h.2;rw[hq] at this;exact this⟩
  | [],e=>simp at e
  | _::_::_,e=>simp at e;omega
 split at h
 .rename_i k;simp only[Nd.kB,bA,b7] at h;exact .inr (.inr ⟨k,h.1.1.1,jq.1 (by omega),λe=>by rw[e] at h;simp at h,lf.1 h.2⟩)
 .simp at h
def Mi:∀(k:Nat) (n:Nd),n.wt<=k->n.eU=aa->Lx n:=by
 intro k;induction k with
 | zero=>intro n h _;cases n;simp only[Nd.wt] at h;omega
 | succ k ih =>
  intro n hk h
  rcases DT h with ⟨h1,h2⟩ | ⟨h1,_,_,c,h2,h3⟩ | ⟨h1,_,_,_,h2⟩
  .exact TV (.inl h1) h2
  .unfold Lx;rw[Nd.tK,Nd.j5,h1,h2];exact(uW 35 (by decide)).nn (alc _ c (bL _) h3)
  .have ey:=L4 (a:=40) (b:=41) (by decide) (by decide) λm hm=>ih m (by have:=G8 hm;omega) (h2 m hm)
   unfold Lx;rw[Nd.tK,Nd.j5]
   rcases h1 with h1 | h1
   .rw[h1];exact((uW 43 (by decide)).app ey).n
   .rw[h1];exact((uW 38 (by decide)).app ey).n
def F1{n:Nd}(h:n.lr=aa):n.kind=11/\dy n.al=aa/\n.aj=[]/\∃c,n.ah=[c]/\c.ph=true:=by
 simp only[Nd.lr,bA,b7] at h;refine⟨h.1.1.1.1,h.1.1.1.2,jq.1 (by omega),?_⟩
 match hq:n.ah,h.1.2 with
 | [c],_=>exact⟨c,rfl,by have:=h.2;rw[hq] at this;exact this⟩
 | [],e=>simp at e
 | _::_::_,e=>simp at e;omega
def ald{n:Nd}(h:n.lr=aa):Lx n:=by
 obtain⟨k,h1,_,c,h2,h3⟩:=F1 h;unfold Lx;rw[Nd.tK,Nd.j5,k,h2];exact((wx h1).sign (by decide)).nn (Mi _ c (bL _) (Fw h3))
def Ei{n:Nd}(h:n.iW=aa):(n.kind=10/\n.al=[]/\(n.aj=[]\/∃w,n.aj=[w]/\dy w.al=aa)/\∀x∈n.ah,x.lr=aa)\/(n.kind=1/\n.eU=aa):=by
 unfold Nd.iW at h;split at h
 .rename_i k;simp only[bA,b7] at h;refine .inl ⟨k,h.1.1.1,?_,lf.1 h.2⟩
  match hq:n.aj,h.1.1.2 with
  | [],_=>exact .inl rfl
  | [w],_=>exact .inr ⟨w,rfl,by have:=h.1.2;rw[hq] at this;simpa [hH] using this⟩
  | _::_::_,e=>simp at e;omega
 .simp only[bA,b7] at h;exact .inr h
def ale{n:Nd}(h:n.iW=aa):Lx n:=by
 rcases Ei h with ⟨k,_,hn,hf⟩ | ⟨_,h⟩
 .have hk:jD (cz (dD n.ah)) (ep (gk n.ah)):=by rw[AB,Eo];exact Hj λm hm=>ald (hf m hm)
  unfold Lx;rw[Nd.tK,Nd.j5,k]
  rcases hn with hn | ⟨w,hn,hw⟩
  .rw[hn];have e1:([91]:List UInt8)++cz (dD n.ah)++[]=[91]++cz (dD n.ah):=by simp
   have e2:[bE 91]++(ep (gk n.ah)++[])++[bE 93]=[bE 91]++ep (gk n.ah)++[bE 93]:=by simp
   show jD (([91]++cz (dD n.ah))++[]++[93]) ([bE 91]++(ep (gk n.ah)++[])++[bE 93]);rw[e1,e2];exact(((uW 91 (by decide)).nn hk).sign (by decide)).n
  .rw[hn];have e1:(([91]:List UInt8)++cz (dD n.ah))++([124]++ia [w])++[93]=(([91]++cz (dD n.ah))++[124])++(ia [w]++[93]):=by simp
   have e2:[bE 91]++(ep (gk n.ah)++([bE 124]++k_ [w]))++[bE 93]=(([bE 91]++ep (gk n.ah))++[bE 124])++(k_ [w]++[bE 93]):=by simp
   show jD (([91]++cz (dD n.ah))++([124]++ia [w])++[93]) ([bE 91]++(ep (gk n.ah)++([bE 124]++k_ [w]))++[bE 93]);rw[e1,e2];exact((((uW 91 (by decide)).nn hk).sign (by decide)).app ((L6 (by simp[hH,hw])).sign (by decide))).n
 .exact Mi _ n (bL _) h
mutual
def ar.WF:ar->Prop
 | .mk t ks e=>kG t.kind=ak/\(closing t.kind=0->ks=[]/\e=t.pos)/\fe ks
def fe:List ar->Prop
 | []=>True
 | t::ts=>t.WF/\fe ts
end
def jH:∀{a b:List ar},fe (a++b)↔fe a/\fe b
 | [],b=>by simp[fe]
 | t::ts,b=>by simp only[gE,fe,jH (a:=ts),I2]
def zT{a r:List Tok}{t:Tok}:eK (a++t::r) a.length=t.kind:=by simp[eK]
def WW{a r:List Tok}{t:Tok}:iY (a++t::r) a.length=t:=by simp[iY]
def U3{a r:List Tok}{t:Tok}:qm (a++t::r) a.length=t.pos:=by simp[qm]
def P3{c:Int}(h:closing c≠0):kG (closing c)=aa/\closing (closing c)=0:=by
 have:c=40\/c=123\/c=91:=by
  unfold closing at h;split at h
  .rename_i k;exact .inl k
  .split at h
   .rename_i k;exact .inr k
   .exact absurd rfl h
 rcases this with rfl | rfl | rfl<;>decide
theorem Q6(t:ar)(ts:List ar):bj (t::ts)=t.flat++bj ts:=rfl
def Fz{l:List Tok}{x:Nat}:∀(k:Nat) (us:List ar) (a b:List Tok) (n:Nat) (d:Int),a9 us<=k->fe us->l=a++bj us++b->1<=d->jj l x (n+(bj us).length) a.length d=jj l x n (a++bj us).length d
 | _,[],a,b,n,d,_,_,_,_=>by simp[bj]
 | 0,t::ts,a,b,n,d,h,_,_,_=>by simp[a9] at h
 | k + 1, .mk t ks e :: ts, a, b, n, d, h, hw, hl, hd => by
  simp only[a9,ar.many] at h;obtain⟨⟨w1,w2,w3⟩,w4⟩:=hw;rw[Q6] at hl ⊢
  by_cases hc:closing t.kind=0
  .have ef:(ar.mk t ks e).flat=[t]:=by simp[ar.flat,hc]
   rw[ef] at hl ⊢;have hk:eK l a.length=t.kind:=by rw[hl];simp only[dZ,gE];exact zT
   have Gs:delta l a.length=0:=by unfold delta;rw[hk,hc,w1];simp
   rw[show n+([t]++bj ts).length=(n+(bj ts).length)+1 by simp;omega,tu,Gs,aB (by omega),Int.add_zero]
   have:=Fz (l:=l) (x:=x) k ts (a++[t]) b n d (by omega) w4 (by rw[hl];simp) hd
   rw[show(a++[t]).length=a.length+1 by simp] at this;rw[this];simp
  .have ef:(ar.mk t ks e).flat=t::(bj ks++[⟨closing t.kind,[UInt8.ofNat (closing t.kind).toNat],e⟩]):=by simp[ar.flat,hc]
   generalize gH:(⟨closing t.kind,[UInt8.ofNat (closing t.kind).toNat],e⟩:Tok)=c at ef;have Dh:c.kind=closing t.kind:=by rw[<-gH]
   obtain⟨c1,c2⟩:=P3 hc;rw[ef] at hl ⊢;have hk:eK l a.length=t.kind:=by rw[hl];simp only[dZ,gE];exact zT
   have KA:delta l a.length=1:=CR (by rw[hk];exact hc);have rM:eK l (a++[t]++bj ks).length=c.kind:=by
    rw[hl]
    have:a++(t::(bj ks++[c])++bj ts)++b=(a++[t]++bj ks)++c::(bj ts++b):=by simp
    rw[this];exact zT
   have KB:delta l (a++[t]++bj ks).length = -1:=by unfold delta;rw[rM,Dh,c2,c1];simp
   rw[show n+(t::(bj ks++[c])++bj ts).length=((n+(bj ts).length+1)+(bj ks).length)+1 by simp;omega,tu,KA,aB (by omega)];have h1:=Fz (l:=l) (x:=x) k ks (a++[t]) ([c]++bj ts++b) (n+(bj ts).length+1) (d+1) (by omega) w3 (by rw[hl];simp) (by omega);rw[show(a++[t]).length=a.length+1 by simp] at h1;rw[h1,tu,KB,aB (by omega),show d+1 + -1=d by omega];have h2:=Fz (l:=l) (x:=x) k ts (a++[t]++bj ks++[c]) b n d (by omega) w4 (by rw[hl];simp) hd;rw[show(a++[t]++bj ks++[c]).length=(a++[t]++bj ks).length+1 by simp;omega] at h2;rw[h2];simp
def anK{l:List Tok}{t c:Tok}{ks:List ar}{a b:List Tok}(hl:l=a++[t]++bj ks++c::b)(hw:fe ks)(hc:closing t.kind≠0)(Dh:c.kind=closing t.kind):partner l a.length=(a++[t]++bj ks).length:=by
 obtain⟨c1,c2⟩:=P3 hc;have hk:eK l a.length=t.kind:=by rw[hl];simp only[dZ,mN];exact zT
 have KA:delta l a.length=1:=CR (by rw[hk];exact hc);have rM:eK l (a++[t]++bj ks).length=c.kind:=by rw[hl];exact zT
 have KB:delta l (a++[t]++bj ks).length = -1:=by unfold delta;rw[rM,Dh,c2,c1];simp
 unfold partner;rw[show l.length - a.length=((b.length+1)+(bj ks).length)+1 by rw[hl];simp;omega,tu,KA,aB (by omega)];have h1:=Fz (l:=l) (x:=a.length) _ ks (a++[t]) (c::b) (b.length+1) (0+1) (bL _) hw hl (by omega);rw[show(a++[t]).length=a.length+1 by simp] at h1;rw[h1,tu,KB,aD (by omega)]
def Ia{l:List Tok}:∀(k:Nat) (us:List ar) (a b:List Tok) (n:Nat),a9 us<=k->fe us->l=a++bj us++b->(bj us).length<=n->nr l n a.length (a.length+(bj us).length)=us
 | _,[],a,b,n,_,_,_,_=>by cases n<;>simp[bj,nr]
 | 0,t::ts,a,b,n,h,_,_,_=>by simp[a9] at h
 | k + 1, .mk t ks e :: ts, a, b, n, h, hw, hl, hn => by
  simp only[a9,ar.many] at h;obtain⟨⟨w1,w2,w3⟩,w4⟩:=hw;rw[Q6] at hl hn ⊢
  by_cases hc:closing t.kind=0
  .have ef:(ar.mk t ks e).flat=[t]:=by simp[ar.flat,hc]
   obtain⟨w5,w6⟩:=w2 hc;rw[ef] at hl hn ⊢;have gz : l=a++t::(bj ts++b):=by rw[hl];simp
   have hk:eK l a.length=t.kind:=by rw[gz];exact zT
   have ht:iY l a.length=t:=by rw[gz];exact WW
   have hp:qm l a.length=t.pos:=by rw[gz];exact U3
   simp only[bI,gv] at hn ⊢;obtain⟨m,rfl⟩:∃m,n=m+1:=⟨n - 1,by omega⟩;rw[nr,aD (by omega),aB (by rw[hk];simpa using hc),ht,hp]
   have:=Ia (l:=l) k ts (a++[t]) b m (by omega) w4 (by rw[hl];simp) (by omega)
   rw[show(a++[t]).length=a.length+1 by simp,show a.length+1+(bj ts).length=a.length+(1+(bj ts).length) by omega] at this;rw[this,w5,w6]
  .have ef:(ar.mk t ks e).flat=t::(bj ks++[⟨closing t.kind,[UInt8.ofNat (closing t.kind).toNat],e⟩]):=by simp[ar.flat,hc]
   generalize gH:(⟨closing t.kind,[UInt8.ofNat (closing t.kind).toNat],e⟩:Tok)=c at ef;have Dh:c.kind=closing t.kind:=by rw[<-gH]
   have vZ:c.pos=e:=by rw[<-gH]
   rw[ef] at hl hn ⊢;have By:l=a++t::(bj ks++[c]++bj ts++b):=by rw[hl];simp
   have kK:l=a++[t]++bj ks++c::(bj ts++b):=by rw[hl];simp
   have hk:eK l a.length=t.kind:=by rw[By];exact zT
   have ht:iY l a.length=t:=by rw[By];exact WW
   have Dx:=anK kK w3 hc Dh;have hp:qm l (a++[t]++bj ks).length=e:=by rw[<-vZ,kK];exact U3
   simp only[bI,db,ei] at hn;obtain⟨m,rfl⟩:∃m,n=m+1:=⟨n - 1,by omega⟩;rw[nr,aD (by simp),aD (by rw[hk];exact hc),ht,Dx,hp];have h1:=Ia (l:=l) k ks (a++[t]) (c::(bj ts++b)) m (by omega) w3 kK (by omega);have h2:=Ia (l:=l) k ts (a++[t]++bj ks++[c]) b m (by omega) w4 (by rw[hl];simp) (by omega);have e1:(a++[t]++bj ks).length=(a++[t]).length+(bj ks).length:=bI;have e2:a.length+1=(a++[t]).length:=by simp
   have e3:(a++[t]).length+(bj ks).length+1=(a++[t]++bj ks++[c]).length:=by simp only[bI,gv]
   have e4:a.length+(t::(bj ks++[c])++bj ts).length=(a++[t]++bj ks++[c]).length+(bj ts).length:=by simp only[bI,db,ei];omega
   rw[e1,e2,h1,e3,e4,h2]
variable{us:List ar}
def WX(hw:fe us)(h:(gQ (bj us)).2=ae):(gQ (bj us)).1=us:=by
 unfold gQ at h ⊢;split
 .rename_i h0;rw[aD h0] at h;simp at h
 .have:=Ia (l:=bj us) _ us [] [] (bj us).length (bL _) hw (by simp) (bL _)
  simpa using this
def fP:List Tok->List (Tok × List ar)->List ar->List ar × Option Int
 | [],op,row=>match op.getLast? with | some (t,_)=>([],U t.pos) | none=>(row,ae)
 | t :: ts, op, row =>
  if closing t.kind≠0 then(if 24<=op.length then([],U t.pos) else fP ts (op++[(t,row)]) [])
  else if kG t.kind=aa then
   match op.getLast? with
   | none=>([],U t.pos)
   | some (u,ahead)=>if closing u.kind=t.kind then fP ts op.dropLast (ahead++[.mk u row t.pos]) else([],U t.pos)
  else fP ts op (row++[.mk t [] t.pos])
def Tk.ok(cY D:ag)(n:Nat):Tk->Prop
 | .aW=>True
 | .tk Z=>cY.aJ Z=ae/\D.aJ Z=U n
 | .no=>False
def Tk.name:Tk->Option Nat
 | .tk Z=>U Z
 | _=>ae
def jd(cY D:ag)(L:List (Tk × Nat)):Prop:=cY.sub D/\(∀p∈L,p.1.ok cY D p.2)/\(L.filterMap λp=>p.1.name).Nodup
variable{L:List (Tk × Nat)}{D:ag}
def jd.init(h:∀p∈L,p.1 = .aW):jd D D L:=by
 refine⟨ag.bd D,λp hp=>by rw[h p hp];trivial,?_⟩
 have:L.filterMap (λp=>p.1.name)=[]:=by
  rw[List.filterMap_eq_nil_iff];intro p hp;rw[h p hp];rfl
 rw[this];exact List.nodup_nil
variable{cY:ag}
def jd.perm{L':List (Tk × Nat)}(h:jd cY D L)(hp:L.Perm L'):jd cY D L' :=
 ⟨h.1,λp hm=>h.2.1 p (hp.mem_iff.2 hm),(hp.filterMap _).nodup_iff.1 h.2.2⟩
def jd.tail{p:Tk × Nat}(h:jd cY D (p::L)):jd cY D L:=by
 refine⟨h.1,λq hq=>h.2.1 q (by simp[hq]),?_⟩
 have:=h.2.2
 simp only[IG] at this;split at this
 .exact this
 .exact(O1.1 this).2
def jd.aW{n:Nat}(h:jd cY D L):jd cY D ((.aW,n)::L) :=
 ⟨h.1,λq hq=>by rcases kA.1 hq with rfl | hq;exact trivial;exact h.2.1 q hq,by simpa [IG,Tk.name] using h.2.2⟩
variable{Z:Nat}
def jd.put{tk:Tk}{n m:Nat}(h:jd cY D ((tk,n)::L))(h0:cY.aJ Z=ae)(ht:tk = .tk Z\/D.aJ Z=ae):jd cY (D.aR Z m) ((.tk Z,m)::L):=by
 have Sr:Z∉L.filterMap λp=>p.1.name:=λhm=>by
  obtain⟨⟨t,k⟩,hq,hn⟩:=OY.1 hm;cases t with
  | no=>simp[Tk.name] at hn
  | aW=>simp[Tk.name] at hn
  | tk υ =>
   simp only[Tk.name,aY] at hn;subst hn
   rcases ht with rfl | ht
   .have:=h.2.2
    simp only[IG,Tk.name] at this;exact(O1.1 this).1 hm
   .have:=(h.2.1 (.tk υ,k) (by simp[hq])).2
    rw[ht] at this;simp at this
 refine⟨⟨h.1.1,λt k hk=>?_,h.1.2.2⟩,λp hp=>?_,?_⟩
 .have aQ:t≠Z:=by rintro rfl;rw[h0] at hk;simp at hk
  simp only[ag.aR,aB aQ];exact h.1.2.1 t k hk
 .rcases kA.1 hp with rfl | Sw
  .exact⟨h0,by simp[ag.aR]⟩
  .have:=h.2.1 p (by simp[Sw])
   obtain⟨t,k⟩:=p;cases t with
   | no=>exact this
   | aW=>trivial
   | tk υ =>
    have aQ:υ≠Z:=by rintro rfl;exact Sr (OY.2 ⟨(.tk υ,k),Sw,rfl⟩)
    exact⟨this.1,by simp only[ag.aR,aB aQ];exact this.2⟩
 .simp only[IG,Tk.name];exact O1.2 ⟨Sr,h.tail.2.2⟩
def jd.fresh(h:jd cY D L)(ht:D.aJ Z=ae):cY.aJ Z=none:=by
 cases hq:cY.aJ Z with
 | none=>rfl
 | some n=>rw[h.1.2.1 Z n hq] at ht;simp at ht
variable{K:V->ag->Prop}{m:List (List V)}
def I6{tk u:Tk}{k:Nat}{n:List (List V)}(h:jd cY D ((tk,m.length)::L))(hb:m.length+n.length<=aM)
 (hk:∀Z,jd cY (D.aR Z (m.length+n.length)) ((.tk Z,m.length+n.length)::L)->K (.sl (.tk Z) k (m++n)) (D.aR Z (m.length+n.length))):pT D k (.sl tk k m) (.sl u k n) K:=by
 have hh:=h.2.1 (tk,m.length) (by simp);cases tk with
 | no=>exact hh.elim
 | aW=>exact Fp hb λZ bp=>hk Z (h.put (h.fresh bp) (.inr bp))
 | tk Z=>exact jI hb hh.2 (hk Z (h.put hh.1 (.inl rfl)))
def anp{H:V->ag->Prop}{k:Nat}{cs:List V}:OQ.a7 D H (.lE k) [.agg cs]=(cs.length=k/\bH cs=aa/\cB cs=aa/\H (.sl .aW k [cs]) D):=by
 simp only[OQ.a7,LM,x_,V.wd,V.cells,aY]
 by_cases h:cs.length=k/\bH cs=aa/\cB cs=aa
 .rw[aD h];simp[h]
 .rw[aB h];simp;intro h1 h2 h3;exact absurd ⟨h1,h2,h3⟩ h
def HY{k:Nat}{Z:Tk}{j j' : IntKind}{b:Nat}{H:V->Prop}(h2:b<=m.length)(h:H (.sl .aW k (m.take b))):Ep k (.sl Z k m) ae (U (.int j b)) (U (.int j' b)) H:=.inl ⟨Z,m,0,b,rfl,IU _,h2,rfl,⟨j,rfl⟩,⟨j',rfl⟩,h⟩
structure aq where
 op:Int
 pos:Int
 name:au
 aj:List au
 bh:List (au × au)
 mC:Int
 left:Nd
 right:Nd
def aq.zero:aq:=⟨0,0,⟨[],0⟩,[],[],0,.zero,.zero⟩
def e_(p:au × au):List V:=[.aF p.1.al,.int .i64 p.1.pos,.aF p.2.al,.int .i64 p.2.pos]
def aq.cM(c:aq)(pc:V):List V:=[.int .i64 c.op,.int .i64 c.pos,.aF c.name.al,.int .i64 c.name.pos,.sl .no 2 (c.aj.map au.enc),pc,.int .i64 c.mC,
 .int .i64 c.left.kind,.int .i64 c.left.pos,.aF c.left.al,.sl .no 2 (c.left.aj.map au.enc),.sl .no 5 (c.left.ah.map Nd.enc),.int .i64 c.right.kind,.int .i64 c.right.pos,.aF c.right.al,.sl .no 2 (c.right.aj.map au.enc),.sl .no 5 (c.right.ah.map Nd.enc)]
def ql:List (au × au)->V
 | []=>.sl .aW 4 []
 | p::ps=>.sl .no 4 ((p::ps).map e_)
def aq.enc(c:aq):List V:=c.cM (.sl .no 4 (c.bh.map e_))
def jL:List (List UInt8 × List UInt8) :=
 [([],[]),([99,104,97,105,110],[110,119]),([112,111,119,101,114],[110,119]),([112,114,111,100,117,99,116],[110,119]),([103,114,105,100],[110,119,112]),([116,97,98,108,101],[110,119,112]),([108,97,98,101,108],[110,119]),([114,111,119],[110,119]),([108,101,113],[110,116,116]),([114,111,119,101,113],[110,114,114]),([108,97,99,107,115],[110,102]),([112,117,115,104],[]),([112,111,112],[]),([99,104,101,99,107],[]),([99,111,114,101],[]),([119,104,121],[110])]
def fL:List V:=(jL.map λp=>[V.aF p.1,V.aF p.2]).flatten
def cn(op:Int):List UInt8 × List UInt8:=if 0<=op/\op<16 then jL.getD op.toNat ([],[]) else([],[])
def mY(w:List UInt8):Nat->Nat->Int
 | 0,_=>0
 | n+1,op=>if 0<op/\(cn op).1=w then op else mY w n (op+1)
def iC(w:List UInt8):Int:=mY w 16 0
def ab.fT:Nat->ab->List (au × au)->ab × List (au × au)
 | 0,i,acc=>(i,acc)
 | n + 1, i, acc =>
  if i.aE≠ae then(i,acc)
  else
   if ((i.word.2.take 60).2.word).2.at_=i.l.length then(((i.word.2.take 60).2.word).2,acc++[(i.word.1,((i.word.2.take 60).2.word).1)])
   else fT n (((i.word.2.take 60).2.word).2.take 44).2 (acc++[(i.word.1,((i.word.2.take 60).2.word).1)])
def ab.ue(r:ab)(b:Option Int):ab:=match b with | some a=>{r with aE:=U a} | none=>r
def oH(r:ab)(c:aq):ab × aq :=
 let t:=(r.take 123).1
 let r1:=(r.take 123).2
 if r1.aE≠ae\/t.ah.length=0 then(r1,{c with mC:=t.tok.pos})
 else(r1.ue (t.inner.fT (t.ah.length+1) []).1.aE,{c with mC:=t.tok.pos,bh:=(t.inner.fT (t.ah.length+1) []).2})
def iM(r:ab)(c:aq)(g:Nd × Int × Option Int):ab × aq :=
 match g.2.2 with
 | some a=>({r with aE:=U a},c)
 | none=>({r with at_:=g.2.1},if c.left.kind=0 then {c with left:=g.1} else {c with right:=g.1})
def c9(letter:UInt8)(x:ab × aq):ab × aq :=
 if x.1.aE≠ae then x
 else if letter=110 then(x.1.word.2,{x.2 with name:=x.1.word.1})
 else if letter=102 then(x.1.word.2,{x.2 with aj:=[x.1.word.1]})
 else if letter=119 then({x.1 with aE:=(iZ x.1.l x.1.at_ x.1.fin).2,at_:=x.1.at_+1},{x.2 with aj:=(iZ x.1.l x.1.at_ x.1.fin).1})
 else if letter=112 then oH x.1 x.2
 else if letter=116 then iM x.1 x.2 (fi (ab.label (a9 x.1.l)) x.1.l x.1.at_ x.1.fin)
 else if letter=114 then iM x.1 x.2 (fi (ab.row (a9 x.1.l)) x.1.l x.1.at_ x.1.fin)
 else x
def hD:List UInt8->ab × aq->ab × aq
 | [],x=>x
 | k::ks,x=>hD ks (c9 k x)
def vN(x:ab × aq):aq × Int × Int :=
 match (if x.1.aE=ae/\x.1.at_<x.1.l.length then x.1.fail else x.1).aE with
 | some a=>(.zero,2,a)
 | none=>(x.2,0,0)
def sD(l:List ar)(fin:Int):aq × Int × Int :=
 match l with
 | []=>(.zero,0,0)
 | t :: _ =>
  let w:=(⟨l,0,fin,ae⟩:ab).word
  if iC w.1.al=0 then(.zero,2,t.tok.pos)
  else vN (hD (cn (iC w.1.al)).2 (w.2,{aq.zero with op:=iC w.1.al,pos:=w.1.pos}))
def cV(s:List UInt8):aq × Int × Int :=
 match (dG s).2 with
 | some a=>(.zero,1,a)
 | none => match (fP (dG s).1 [] []).2 with
  | some a=>(.zero,2,a)
  | none=>sD (fP (dG s).1 [] []).1 s.length
structure jG(l:List ar)(fin:Int)(x:ab × aq):Prop where
 hl:x.1.l=l
 hf:x.1.fin=fin
 ge:0<=x.1.at_
 le:x.1.at_<=(l.length:Int)+1
 ok:x.1.aE=ae->x.1.at_<=(l.length:Int)
def adp(r:ab):r.fail.fin=r.fin:=by unfold ab.fail;split<;>rfl
def Ew(r:ab)(k:Int):(r.take k).2.fin=r.fin:=by
 unfold ab.take;split
 .rfl
 .exact adp r
def ahC(n:Nat)(r:ab):lb r (r.row n).2:=by
 unfold ab.row;split
 .rename_i hs;have h:=sJ r 91;have hb:(r.take 91).2.aE=none:=by
   rcases r.tJ 91 with ⟨_,_,hb,_,_⟩ | ⟨h',_⟩
   .exact hb
   .rw[hs] at h';simp at h'
  exact⟨h.1,λh1 h2=>by
   obtain⟨p1,p2,p3⟩:=h.2 h1 h2;exact⟨p1,p2,λ_=>p3 hb⟩⟩
 .exact C5 r 1
variable{c:aq}{l:List ar}{x:ab × aq}
def jG.goes{fin:Int}(h:jG l fin x)(hb:x.1.aE=ae)(g:lb x.1 r)(hf:r.fin=x.1.fin):jG l fin (r,c):=by
 obtain⟨h1,h2,h3,h4,h5⟩:=h;have h5:=h5 hb;obtain⟨g1,g2⟩:=g;rw[h1] at g2;have g2:=g2 h3 (by omega);exact⟨g1.trans h1,hf.trans h2,by simp only;omega,by simp only;omega,λ_=>by simp only;omega⟩
def jG.aE{l:List ar}{fin:Int}{r:ab}{c c' : aq}{a:Int}(h:jG l fin (r,c)):jG l fin ({r with aE:=U a},c'):=⟨h.hl,h.hf,h.ge,h.le,λh=>by simp at h⟩
def Uk{fin:Int}{one:ab->Nd × ab}(h:jG l fin (r,c))(hb:r.aE=ae)(ho:∀r,lb r (one r).2):jG l fin (iM r c (fi one r.l r.at_ r.fin)):=by
 unfold iM fi;have he:(⟨r.l,r.at_,r.fin,ae⟩:ab)=r:=by cases r;simp only at hb;subst hb;rfl
 rw[he];cases hq:(one r).2.aE with
 | some a=>exact h.aE
 | none =>
  obtain⟨g1,g2⟩:=ho r;have h5:=h.ok hb;have h3:=h.ge;have h1:=h.hl;simp only at h5 h3 h1;rw[h1] at g2;have g2:=g2 h3 h5;exact⟨h.hl,h.hf,by simp only;omega,by simp only;omega,λ_=>by simp only;omega⟩
def anv{fin:Int}(h:jG l fin (r,c))(hb:r.aE=ae):jG l fin (oH r c):=by
 have h1:∀c',jG l fin ((r.take 123).2,c'):=λc' => jG.goes (x:=(r,c)) h hb (sJ r 123) (Ew r 123)
 unfold oH;simp only;split
 .exact h1 _
 .unfold ab.ue;split
  .exact(h1 c).aE
  .exact h1 _
def UK{fin:Int}(h:jG l fin x)(k:UInt8):jG l fin (c9 k x):=by
 obtain⟨r,c⟩:=x;unfold c9;simp only;split
 .exact h
 rename_i hb;have hb:r.aE=none:=by simpa using hb
 split
 .exact jG.goes (x:=(r,c)) h hb (xy r) (Ew r 97)
 split
 .exact jG.goes (x:=(r,c)) h hb (xy r) (Ew r 97)
 split
 .have h5:=h.ok hb;have h3:=h.ge;simp only at h5 h3;refine⟨h.hl,h.hf,by simp only;omega,by simp only;omega,λhn=>?_⟩;have he:(⟨r.l,r.at_,r.fin,ae⟩:ab)=r:=by cases r;simp only at hb;subst hb;rfl
  simp only[iZ,he] at hn;cases hq:(r.words ak).2.aE with
  | some a=>rw[hq] at hn;simp at hn
  | none =>
   obtain⟨g1,g2⟩:=JZ r ak;have h1:=h.hl;simp only at h1;rw[h1] at g2
   have:=(g2 h3 h5)
   have:=this.2.2 hq
   simp only;omega
 split
 .exact anv h hb
 split
 .exact Uk h hb (JY _)
 split
 .exact Uk h hb (ahC _)
 .exact h
def UO:∀(ks:List UInt8) (k:UInt8) (x:ab × aq),hD (ks++[k]) x=c9 k (hD ks x)
 | [],_,_=>rfl
 | _::ks,k,x=>UO ks k _
def MN{l:List ar}{fin:Int}:∀(ks:List UInt8) {x:ab × aq},jG l fin x->jG l fin (hD ks x)
 | [],_,h=>h
 | k::ks,_,h=>MN ks (UK h k)
def UL{k:UInt8}(h:k≠112\/x.1.aE≠ae):(c9 k x).2.bh=x.2.bh:=by
 unfold c9;split
 .rfl
 rename_i hb;have hb:x.1.aE=none:=by simpa using hb
 have hk:k≠112:=by rcases h with h | h;exact h;exact absurd hb h
 split
 .rfl
 split
 .rfl
 split
 .rfl
 have hn:∀g,(iM x.1 x.2 g).2.bh=x.2.bh:=λg=>by
  unfold iM;split
  .rfl
  .simp only;split<;>rfl
 split
 .exact hn _
 split
 .exact hn _
 .rfl
def UN:∀(ks:List UInt8) {x:ab × aq},(∀k∈ks,k≠112)->(hD ks x).2.bh=x.2.bh
 | [],_,_=>rfl
 | k::ks,x,h=>(UN ks λj hj=>h j (by simp[hj])).trans (UL (.inl (h k (by simp))))
def agX(op:Int)(i:Nat)(h:(cn op).2[i]?=U 112):∀k∈(cn op).2.take i,k≠112:=by
 unfold cn at h ⊢;split at h
 .rename_i h1;rw[aD h1];have az:op.toNat<16:=by omega
  generalize op.toNat=n at h az ⊢;have key:∀n<16,∀i<3,(jL.getD n ([],[])).2[i]?=U 112->∀k∈(jL.getD n ([],[])).2.take i,k≠112:=by decide
  have hl:∀n<16,(jL.getD n ([],[])).2.length<=3:=by decide
  have:=(eX.1 h).1
  exact key n az i (by have:=hl n az;omega) h
 .simp at h
def JS(op:Int):∀c∈(cn op).2,c.toNat<128:=by
 unfold cn;split
 .rename_i h1;have az:op.toNat<16:=by omega
  generalize op.toNat=n at az ⊢;have key:∀n<16,∀c∈(jL.getD n ([],[])).2,c.toNat<128:=by decide
  exact key n az
 .simp
def gR(s:aI)(lat:Int)(t:List UInt8)(p kind:Int):List aL :=
 match kb s.vars t with
 | none=>if (iq s.bu t).isNone then [⟨3,p⟩] else [⟨4,p⟩]
 | some v => match s.vars[v]? with
  | some x=>if x.kind≠kind\/(0<=lat/\x.lat≠lat) then [⟨4,p⟩] else []
  | none=>[]
def gg(s:aI)(w:au):List aL:=if (iq s.bu w.al).isNone then(if (kb s.vars w.al).isNone then [⟨3,w.pos⟩] else [⟨4,w.pos⟩]) else []
def atc(o:Option Int):aL:=match o with | some p=>⟨4,p⟩ | none=>.zero
def vL(s:aI)(lat:Int)(n:Nd):Option Int:=(im (vf s lat.toNat) (n.ah.getD 0 jX)).2
def zb(s:aI)(lat:Int)(n:Nd):List aL:=if 0<n.ah.length/\0<=lat then(match vL s lat n with | some p=>[⟨4,p⟩] | none=>[]) else []
def j8(s:aI)(lat:Int)(n:Nd):List aL:=if n.kind=1 then gR s lat n.al n.pos 1 else if n.kind=7 then zb s lat n else []
mutual
def fz(s:aI)(lat:Int):Nd->List aL
 | .mk k p t ws ks=>j8 s lat (.mk k p t ws ks)++if k=1\/k=7 then [] else ya s lat ks
def ya(s:aI)(lat:Int):List Nd->List aL
 | []=>[]
 | n::ns=>fz s lat n++ya s lat ns
end
def LS{s:aI}{lat:Int}:∀{l:List Nd},ya s lat l=l.flatMap (fz s lat)
 | []=>by simp[ya]
 | n::ns=>by simp[ya,LS]
variable{lat:Int}
def G_{s:aI}(n:Nd):fz s lat n=j8 s lat n++if n.kind=1\/n.kind=7 then [] else n.ah.flatMap (fz s lat):=by
 cases n;rw[fz,LS];rfl
def uo(ks:List Nd)(i:Nat):List aL:=if (gY ((ks.take i).map Nd.al) (ks.getD i jX).al).isSome then [⟨4,(ks.getD i jX).pos⟩] else []
def zi(s:aI)(lat:Int)(ks:List Nd)(i:Nat):List aL:=uo ks i++(ks.getD i jX).ah.flatMap (j8 s lat)
def nN(s:aI)(lat:Int)(ks:List Nd)(m:Nat):List aL:=(cc m).flatMap (zi s lat ks)
def wK(s:aI)(lat:Int)(ws:List au):List aL:=ws.flatMap λw=>gR s lat w.al w.pos 2
def nd(s:aI)(lat p:Int)(n:Nd):List aL :=
 if n.kind=1 then gR s lat n.al n.pos 2 else if n.kind=10 then nN s lat n.ah n.ah.length++wK s lat n.aj++(if 16<n.ah.length then [⟨7,p⟩] else []) else []
def cJ(s:aI)(c:aq):Int:=de (iq s.bu c.name.al)
def xm(n:Nd):List aL:=if n.kind=8\/n.kind=9 then [⟨6,n.pos⟩] else []
def qF(s:aI)(c:aq):List aL :=
 if c.op=10 then gR s (-1) c.name.al c.name.pos 2
 else if c.op=15 then gR s (-1) c.name.al c.name.pos 1
 else if c.op=8 then gg s c.name++fz s (cJ s c) c.left++fz s (cJ s c) c.right++xm c.right
 else if c.op=9 then gg s c.name++nd s (cJ s c) c.pos c.left++nd s (cJ s c) c.pos c.right
 else []
def jJ(s:aI)(c:aq):aL:=fS (qF s c)
def nz(Z:Nat)(l:List aL)(s:aI)(lat p:Int):List V:=[.sl (.tk Z) 2 (l.map aL.enc),.sl .no 3 (s.bu.map dT.enc),.sl .no 3 (s.vars.map dU.enc),.int .i64 lat,.int .i64 p]
def cQ(D:ag)(b Z:Nat)(l:List aL)(s:aI)(lat p:Int):ag:=(D.set b (nz Z l s lat p)).aR Z l.length
section
variable {D:ag} {b b' Z n:Nat} {l:List aL} {s:aI} {lat LV p x y:Int} {c:List V}
def Ip:(cQ D b Z l s lat p).box b=U (nz Z l s lat p):=by simp[cQ,ag.set,ag.aR]
def AG(h:b' ≠ b):(cQ D b Z l s lat p).box b' = D.box b' := by simp[cQ,ag.set,ag.aR,h]
def Om:(cQ D b Z l s lat p).aJ Z=U l.length:=by simp[cQ,ag.set,ag.aR]
def Xq(h:b' ≠ b):(cQ D b Z l s lat p).set b' c=cQ (D.set b' c) b Z l s lat p:=by
 simp only[cQ,ag.set,ag.aR,ag.mk.injEq,gw];funext z
 by_cases h1:z=b'
 .subst h1;simp[h]
 .simp[h1]
def asP:(cQ D b Z l s lat p).set b [.sl (.tk Z) 2 (l.map aL.enc),.sl .no 3 (s.bu.map dT.enc),.sl .no 3 (s.vars.map dU.enc),.int .i64 x,.int .i64 p]=cQ D b Z l s x p:=by
 simp only[cQ,nz,ag.set,ag.aR,ag.mk.injEq,gw];funext z
 by_cases h1:z=b<;>simp[h1]
def asO:((cQ D b Z l s lat p).aR Z (l.length+1)).set b [.sl (.tk Z) 2 (l.map aL.enc++[[.int .i64 x,.int .i64 y]]),.sl .no 3 (s.bu.map dT.enc),.sl .no 3 (s.vars.map dU.enc),.int .i64 lat,.int .i64 p]=cQ D b Z (l++[⟨x,y⟩]) s lat p:=by
 simp only[cQ,nz,ag.set,ag.aR,ag.mk.injEq,fX,bX,eC,aL.enc,bI,gv,gw];constructor
 .funext z
  by_cases h1:z=b<;>simp[h1]
 .funext z
  by_cases h1:z=Z<;>simp[h1]
def asQ(h:D.box b=ae)(ht:D.aJ Z=ae):D.sub (cQ D b Z l s lat p):=by
 refine⟨λx cs hx=>?_,λt m hm=>?_,λ_ _ h=>h⟩
 .have:x≠b:=by rintro rfl;rw[h] at hx;simp at hx
  rw[AG this];exact hx
 .have:t≠Z:=by rintro rfl;rw[ht] at hm;simp at hm
  simp[cQ,ag.set,ag.aR,this];exact hm
def Xp(h:b' ≠ b)(hn:D.box b' = ae):(cQ D b Z l s lat p).sub (cQ (D.set b' c) b Z l s lat p):=by
 refine⟨λx cs hx=>?_,λt m hm=>?_,λ_ _ h=>h⟩
 .by_cases h1:x=b
  .subst h1;rw[Ip] at hx ⊢;exact hx
  .rw[AG h1] at hx ⊢
   have:x≠b' := by rintro rfl;rw[hn] at hx;simp at hx
   simp only[ag.set,this,ck];exact hx
 .simpa [cQ,ag.set,ag.aR] using hm
theorem w_f:bD ak 1 (nz Z l s lat p)=U (.sl (.tk Z) 2 (l.map aL.enc)):=rfl
theorem w_s:takeN 2 ((nz Z l s lat p).drop 1)=U s.enc:=rfl
theorem w_l:bD ak 1 ((nz Z l s lat p).drop 1)=U (.sl .no 3 (s.bu.map dT.enc)):=rfl
theorem w_v:bD ak 1 ((nz Z l s lat p).drop 2)=U (.sl .no 3 (s.vars.map dU.enc)):=rfl
theorem w_t:bD ak 1 ((nz Z l s lat p).drop 3)=U (.int .i64 lat):=rfl
theorem w_p:bD ak 1 ((nz Z l s lat p).drop 4)=U (.int .i64 p):=rfl
theorem w_h:bW 1 (nz Z l s lat p)=true:=rfl
theorem arW:bW 1 ((nz Z l s lat p).drop 3)=true:=rfl
theorem w_o{v:V}:over (nz Z l s lat p) [v]=[v,.sl .no 3 (s.bu.map dT.enc),.sl .no 3 (s.vars.map dU.enc),.int .i64 lat,.int .i64 p]:=rfl
theorem arZ{v:V}:setAt (nz Z l s lat p) 3 [v]=[.sl (.tk Z) 2 (l.map aL.enc),.sl .no 3 (s.bu.map dT.enc),.sl .no 3 (s.vars.map dU.enc),v,.int .i64 p]:=rfl
variable{w:au}
theorem wS:bD ak 1 w.enc=U (.aF w.al):=rfl
theorem sk:bD ak 1 (w.enc.drop 1)=U (.int .i64 w.pos):=rfl
theorem w_b{u v x y:V}:over [u,v,x,y] s.enc=[.sl .no 3 (s.bu.map dT.enc),.sl .no 3 (s.vars.map dU.enc),x,y]:=rfl
def jo:=af @w_b <| af @wS <| af @sk <| af @Ip <| af @Om <| af @w_f <| af @w_s <| af @w_l <| af @w_v <| af @w_t <| af @w_p <| af @w_h <| af @arW <| af @w_o @arZ
end
def Xr{b υ n:Nat}{l:List aL}{s:aI}(h:υ≠Z):(cQ D b Z l s lat p).aR υ n=cQ (D.aR υ n) b Z l s lat p:=by
 simp only[cQ,ag.set,ag.aR,ag.mk.injEq,qt,gw];funext z
 by_cases h1:z=υ
 .subst h1;simp[h]
 .simp[h1]
def Xo{σ':ag}{b:Nat}{l:List aL}{s:aI}(h:D.sub σ'):(cQ D b Z l s lat p).sub (cQ σ' b Z l s lat p):=by
 refine⟨λx cs hx=>?_,λt m hm=>?_,h.2.2⟩
 .by_cases h1:x=b
  .subst h1;rw[Ip] at hx ⊢;exact hx
  .rw[AG h1] at hx ⊢;exact h.1 x cs hx
 .simp only[cQ,ag.set,ag.aR] at hm ⊢;split
  .rename_i e;rw[aD e] at hm;exact hm
  .rename_i e;rw[aB e] at hm;exact h.2.1 t m hm
structure Ah(D σ' : ag)(Z:Nat)(tk:Tk)(n:Nat):Prop where
 box:σ'.box=D.box
 sub:D.sub σ'
 tk:tk = .aW\/∃υ,tk = .tk υ/\υ≠Z/\σ'.aJ υ=U n/\D.aJ υ=ae
def Ah.nil:Ah D D Z .aW 0:=⟨rfl,ag.bd D,.inl rfl⟩
def Ah.app{σ':ag}{b k:Nat}{tk u:Tk}{l:List aL}{s:aI}{e:List (List V)}(h:Ah D σ' Z tk m.length)(hb:m.length+e.length<=aM)
 (hk:∀kx rp,Ah D rp Z kx (m++e).length->K (.sl kx k (m++e)) (cQ rp b Z l s lat p)):pT (cQ σ' b Z l s lat p) k (.sl tk k m) (.sl u k e) K:=by
 have hl:(m++e).length=m.length+e.length:=bI;have up:∀υ n,σ'.aJ υ=ae\/D.aJ υ=ae->D.sub (σ'.aR υ n):=λυ n hn=>⟨λx cs hx=>h.sub.1 x cs hx,λt q hq=>by
  have aQ:t≠υ:=by
   rintro rfl
   rcases hn with hn | hn
   .rw[h.sub.2.1 _ _ hq] at hn;simp at hn
   .rw[hq] at hn;simp at hn
  simp only[ag.aR,aB aQ];exact h.sub.2.1 t q hq,h.sub.2.2⟩
 rcases h.tk with rfl | ⟨υ,rfl,aQ,ht,h0⟩
 .refine Fp hb λυ kh=>?_
  have aQ:υ≠Z:=by rintro rfl;rw[Om] at kh;simp at kh
  have Ll : σ'.aJ υ=none:=by simpa [cQ,ag.set,ag.aR,aQ] using kh
  rw[Xr aQ];refine hk _ _ ⟨h.box,up υ _ (.inl Ll),.inr ⟨υ,rfl,aQ,by rw[hl];simp[ag.aR],?_⟩⟩;cases hq:D.aJ υ with
  | none=>rfl
  | some n=>rw[h.sub.2.1 _ _ hq] at Ll;simp at Ll
 .refine jI hb (by simpa [cQ,ag.set,ag.aR,aQ] using ht) ?_;rw[Xr aQ];exact hk _ _ ⟨h.box,up υ _ (.inr h0),.inr ⟨υ,rfl,aQ,by rw[hl];simp[ag.aR],h0⟩⟩
section
variable {s:aI} {lat:Int}
def B'{t:List UInt8}{p k:Int}:(gR s lat t p k).length<=1:=by
 unfold gR;split
 .split<;>simp
 .split
  .split<;>simp
  .simp
def ajN{w:au}:(gg s w).length<=1:=by unfold gg;split;(split<;>simp);simp
def Fu{n:Nd}:(j8 s lat n).length<=1:=by
 unfold j8;split
 .exact B'
 .split
  .unfold zb;split
   .cases vL s lat n<;>simp
   .simp
  .simp
mutual
def LP:∀n:Nd,(fz s lat n).length<=n.cw
 | .mk k p t ws ks => by
  have h1:=@Fu s lat (.mk k p t ws ks);have h2:=LR ks;rw[fz,bI,Nd.cw];split
  .simp;omega
  .omega
def LR:∀l:List Nd,(ya s lat l).length<=f_ l
 | []=>by simp[ya]
 | n :: ns => by
  have:=LP n;have:=LR ns
  rw[ya,bI,f_];omega
end
def Qa:∀{l:List Nd} {i:Nat} (hi:i<l.length),f_ (l.take i)+l[i].cw<=f_ l
 | [],i,hi=>by simp at hi
 | n::ns,0,_=>by simp[f_]
 | n :: ns, i + 1, hi => by
  have:=Qa (l:=ns) (i:=i) (by simpa using hi)
  simp only[vw,f_,EW];omega
variable{i:Nat}
def ajL{l:List Nd}(hi:i<l.length):((l.take i).flatMap (fz s lat)).length+l[i].cw<=f_ l:=by
 have h1:=@LR s lat (l.take i);rw[LS] at h1
 have:=Qa hi
 omega
def CY{O:Type}{f:O->List aL}{m:Nat}:∀{l:List O},(∀x∈l,(f x).length<=m)->(l.flatMap f).length<=l.length*m
 | [],_=>by simp
 | x :: l, h => by
  have:=h x (by simp)
  have:=CY (m:=m) (l:=l) λy hy=>h y (by simp[hy])
  rw[pY,bI,db,iQ,w9];omega
def JN{O:Type}{f:O->List aL}{l:List O}(hi:i<l.length):(l.take (i+1)).flatMap f=(l.take i).flatMap f++f l[i]:=by
 rw[jr hi,yN];simp
def NX{ws:List au}:(wK s lat ws).length<=ws.length:=by
 have:=CY (f:=λw:au=>gR s lat w.al w.pos 2) (m:=1) (l:=ws) λ_ _=>B'
 rw[tX] at this;exact this
def adV{ks:List Nd}{i:Nat}:(zi s lat ks i).length<=1+(ks.getD i jX).ah.length:=by
 have:=CY (f:=j8 s lat) (m:=1) (l:=(ks.getD i jX).ah) λ_ _=>Fu
 have h2:(uo ks i).length<=1:=by unfold uo;split<;>simp
 rw[zi,bI];omega
def Q_{m:Nat}:nN s lat ks (m+1)=nN s lat ks m++zi s lat ks m:=by
 simp only[nN,tV,yN,pY,OS,eg]
def P_:∀{l:List Nd} {i:Nat} (hi:i<l.length),f_ (l.take (i+1))=f_ (l.take i)+l[i].cw
 | [],i,hi=>by simp at hi
 | n::ns,0,_=>by simp[f_]
 | n :: ns, i + 1, hi => by
  have:=P_ (l:=ns) (i:=i) (by simpa using hi)
  simp only[vw,f_,EW] at this ⊢;omega
def JP{ks:List Nd}:∀{m:Nat},m<=ks.length->(nN s lat ks m).length<=f_ (ks.take m)
 | 0,_=>by simp[nN]
 | m + 1, hm => by
  have h1:=JP (ks:=ks) (m:=m) (by omega);have h2:=@adV s lat ks m;have h3:=Nd.sE ks[m];have h4:=Jp ks[m].ah;rw[qM (by omega)] at h2;rw[Q_,bI,P_ (by omega)];omega
def Vv{p:Int}{n:Nd}:(nd s lat p n).length<=2*n.cw+2:=by
 have Dq:=Nd.sE n;have v_:=CO n;have h1:=JP (s:=s) (lat:=lat) (bL n.ah.length);have h2:=P' n.ah n.ah.length;have h3:=@NX s lat n.aj;have h4:=@B' s lat n.al n.pos 2;unfold nd;split
 .omega
 .split
  .simp only[bI]
   have:(if 16<n.ah.length then [(⟨7,p⟩:aL)] else []).length<=1:=by split<;>simp
   omega
  .simp
end
def td(kind:Int)(l:List ar)(a fin:Int):ca :=
 if bx l a 97=aa then ⟨.mk kind (fB l a).pos (fB l a).al [] [],a+1,ak,0⟩ else dL l a fin
def An(l:List ar)(a fin:Int):ca :=
 if bx l a 97=ak then dL l a fin
 else if bx l (a+1) 58=ak then dL l (a+1) fin
 else if bx l (a+2) 123=ak then dL l (a+2) fin
 else if (wholeAt nameAt (bG l (a+2)) aa).2.aE=aa then(wholeAt nameAt (bG l (a+2)) aa).2
 else ⟨.mk 6 (fB l a).pos (fB l a).al (sn (wholeAt nameAt (bG l (a+2)) aa).1) [],a+3,ak,0⟩
def mw(w:List Nd × ca)(mk:List Nd->Nd)(next:Int):ca:=if w.2.aE=aa then w.2 else ⟨mk w.1,next,ak,0⟩
def p9:Nat->List ar->Int->Int->ca
 | 0,l,a,fin=>td 2 l a fin
 | n + 1, l, a, fin =>
  if bx l a 97=aa then td 2 l a fin
  else if bx l a 123=aa then mw (wholeAt nameAt (bG l a) aa) (λks=>.mk 3 (fB l a).pos [] (sn ks) []) (a+1)
  else if bx l a 40=aa then mw (wholeAt (p9 n) (bG l a) ak) (λks=>.mk 4 (fB l a).pos [] [] ks) (a+1)
  else if bx l a 91=aa then mw (wholeAt An (bG l a) aa) (λks=>.mk 5 (fB l a).pos [] [] ks) (a+1)
  else dL l a fin
def ca.put(g:ca)(f:Nd->Nd):ca:=if g.aE=aa then g else {g with node:=f g.node}
def iT:Nat->List ar->Int->Int->ca
 | 0,l,a,fin=>td 1 l a fin
 | n + 1, l, a, fin =>
  if bx l a 97=aa then td 1 l a fin
  else if bx l a 35=aa then(p9 (n+1) l (a+1) fin).put λm=>.mk 7 (fB l a).pos [] [] [m]
  else if bx l a 43=ak/\bx l a 38=ak then dL l a fin
  else if bx l (a+1) 40=ak then dL l (a+1) fin
  else mw (wholeAt (iT n) (bG l (a+1)) ak) (λks=>.mk (if bx l a 38=aa then 9 else 8) (fB l a).pos [] [] ks) (a+2)
def rC(n:Nat)(l:List ar)(a fin:Int):ca:=if bx l a 43=aa\/bx l a 38=aa then dL l a fin else iT n l a fin
def zg(n:Nat)(l:List ar)(a fin:Int):ca :=
 if bx l a 97=ak then dL l a fin
 else if bx l (a+1) 61=ak then dL l (a+1) fin
 else(rC n l (a+2) fin).put λm=>.mk 11 (fB l a).pos (fB l a).al [] [m]
def wG(l:List ar)(a:Int)(ks:List Nd)(ws:List au)(next:Int):ca :=
 if next<(bG l a).ah.length then dL (bG l a).ah next (bG l a).fin else ⟨.mk 10 (fB l a).pos [] ws ks,a+1,ak,0⟩
def rk(l:List ar)(a:Int)(ks:List Nd)(next:Int):ca :=
 if bx (bG l a).ah next 124=aa then
  if (nameAt (bG l a).ah (next+1) (bG l a).fin).aE=aa then nameAt (bG l a).ah (next+1) (bG l a).fin
  else wG l a ks (sn [(nameAt (bG l a).ah (next+1) (bG l a).fin).node]) (nameAt (bG l a).ah (next+1) (bG l a).fin).next
 else wG l a ks [] next
def u_(n:Nat)(l:List ar)(a:Int):List Nd × ca:=fV (λi=>zg n (bG l a).ah i (bG l a).fin) (bG l a).ah ((bG l a).ah.length+1) 0 []
def lK(n:Nat)(l:List ar)(a fin:Int):ca :=
 if bx l a 97=aa then iT n l a fin
 else if bx l a 91=ak then dL l a fin
 else if 0<(bG l a).ah.length/\bx (bG l a).ah 0 124=ak then
  if (u_ n l a).2.aE=aa then(u_ n l a).2 else rk l a (u_ n l a).1 (u_ n l a).2.next
 else rk l a [] 0
def tO(g:List ar->Int->Int->ca):Prop:=∀l a fin,(g l a fin).aE=ak->0<=a/\a+1<=(g l a fin).next/\(g l a fin).next<=(l.length:Int)
def qi{i:Int}(h:bx l i k=aa):0<=i/\i<(l.length:Int):=by
 obtain⟨j,t,rfl,_,_,hl⟩:=x9 h;omega
def Fl(k:Int):tO (td k):=λl a fin h=>by
 unfold td at h ⊢;split
 .rename_i hk;have:=qi hk;exact⟨this.1,by simp,by simp only;omega⟩
 .rename_i hk;rw[aB hk] at h;simp[dL] at h
def X8:tO An:=λl a fin h=>by
 unfold An at h ⊢;split
 .rename_i hk;rw[aD hk] at h;simp[dL] at h
 rename_i h1;rw[aB h1] at h;split
 .rename_i hk;rw[aD hk] at h;simp[dL] at h
 rename_i h2;rw[aB h2] at h;split
 .rename_i hk;rw[aD hk] at h;simp[dL] at h
 rename_i h3;rw[aB h3] at h;split
 .rename_i hk;rw[aD hk,hk] at h;simp at h
 .have:=qi (by simpa using h3:bx l (a+2) 123=aa)
  have:=qi (by simpa using h1:bx l a 97=aa)
  exact⟨this.1,by simp only;omega,by simp only;omega⟩
def G1{w:List Nd × ca}{mk:List Nd->Nd}{next:Int}(h:(mw w mk next).aE=ak):(mw w mk next).next=next:=by
 unfold mw at h ⊢;split
 .rename_i hk;rw[aD hk,hk] at h;simp at h
 .rfl
def Pf:∀n,tO (p9 n)
 | 0=>Fl 2
 | n + 1 => λl a fin h => by
  simp only[p9] at h ⊢;split
  .rename_i hk;rw[aD hk] at h;exact Fl 2 l a fin h
  rename_i h1;rw[aB h1] at h;split
  .rename_i hk;rw[aD hk] at h;have:=qi hk;rw[G1 h];omega
  rename_i h2;rw[aB h2] at h;split
  .rename_i hk;rw[aD hk] at h;have:=qi hk;rw[G1 h];omega
  rename_i h3;rw[aB h3] at h;split
  .rename_i hk;rw[aD hk] at h;have:=qi hk;rw[G1 h];omega
  .rename_i hk;rw[aB hk] at h;simp[dL] at h
def Vd{g:ca}{f:Nd->Nd}(h:(g.put f).aE=ak):g.aE=ak/\(g.put f).next=g.next:=by
 unfold ca.put at h ⊢;split
 .rename_i hk;rw[aD hk,hk] at h;simp at h
 .rename_i hk;exact⟨by simpa using hk,rfl⟩
def Fk:∀n,tO (iT n)
 | 0=>Fl 1
 | n + 1 => λl a fin h => by
  simp only[iT] at h ⊢;split
  .rename_i hk;rw[aD hk] at h;exact Fl 1 l a fin h
  rename_i h1;rw[aB h1] at h;split
  .rename_i hk;rw[aD hk] at h
   have:=qi hk
   obtain⟨g1,g2⟩:=Vd h
   have:=Pf (n+1) l (a+1) fin g1
   rw[g2];omega
  rename_i h2;rw[aB h2] at h;split
  .rename_i hk;rw[aD hk] at h;simp[dL] at h
  rename_i h3;rw[aB h3] at h;split
  .rename_i hk;rw[aD hk] at h;simp[dL] at h
  rename_i h4;rw[aB h4] at h
  have:=qi (by simpa using h4:bx l (a+1) 40=aa)
  have h5:0<=a:=by
   cases vT:bx l a 43
   .cases xA:bx l a 38
    .exact absurd ⟨vT,xA⟩ h3
    .exact(qi xA).1
   .exact(qi vT).1
  rw[G1 h];omega
def X5(n:Nat):tO (rC n):=λl a fin h=>by
 unfold rC at h ⊢;split
 .rename_i hk;rw[aD hk] at h;simp[dL] at h
 .rename_i hk;rw[aB hk] at h;exact Fk n l a fin h
def X6(n:Nat):tO (zg n):=λl a fin h=>by
 unfold zg at h ⊢;split
 .rename_i hk;rw[aD hk] at h;simp[dL] at h
 rename_i h1;rw[aB h1] at h;split
 .rename_i hk;rw[aD hk] at h;simp[dL] at h
 rename_i h2;rw[aB h2] at h;obtain⟨g1,g2⟩:=Vd h
 have:=X5 n l (a+2) fin g1
 have:=qi (by simpa using h1:bx l a 97=aa)
 rw[g2];omega
def yG(l:List ar)(a:Int):au:=⟨(fB l a).al,(fB l a).pos⟩
def atb(b:Option Int):Int:=match b with | some a=>a | none=>-1
def uZ(l:List ar)(fin:Int):Nat->Nat->List (au × au)->List (au × au) × Int
 | 0,_,acc=>(acc,-1)
 | n + 1, a, acc =>
  if bx l (a:Nat) 97=ak then([],np l (a:Nat) fin)
  else if bx l ((a+1:Nat):Int) 60=ak then([],np l ((a+1:Nat):Int) fin)
  else if bx l ((a+2:Nat):Int) 97=ak then([],np l ((a+2:Nat):Int) fin)
  else if a+3=l.length then(acc++[(yG l (a:Nat),yG l ((a+2:Nat):Int))],-1)
  else if bx l ((a+3:Nat):Int) 44=ak then([],np l ((a+3:Nat):Int) fin)
  else uZ l fin n (a+4) (acc++[(yG l (a:Nat),yG l ((a+2:Nat):Int))])
def BX(t:ar):List (au × au) × Int:=if t.ah.length=0 then([],-1) else uZ t.ah t.fin (t.ah.length+1) 0 []
def lJ(k:UInt8)(c:aq)(l:List ar)(a fin:Int):aq × Int × Int :=
 if k=110\/k=102 then(if bx l a 97=aa then(if k=102 then {c with aj:=[yG l a]} else {c with name:=yG l a},a+1,-1) else(c,a,np l a fin))
 else if k=119 then(if (ri l a fin).2.aE=aa then(c,a,(ri l a fin).2.pos) else({c with aj:=(ri l a fin).1},a+1,-1))
 else if k=112 then(if bx l a 123=aa then({c with bh:=(BX (bG l a)).1,mC:=(bG l a).tok.pos},a+1,(BX (bG l a)).2) else(c,a,np l a fin))
 else
  let g:=if k=114 then lK (a9 l) l a fin else iT (a9 l) l a fin
  if g.aE=aa then(c,a,g.pos) else(if c.left.kind=0 then {c with left:=g.node} else {c with right:=g.node},g.next,-1)
def u7(l:List ar)(fin:Int):List UInt8->aq->Int->aq × Int × Int
 | [],c,a=>(c,a,-1)
 | k::ks,c,a=>if 0<=(lJ k c l a fin).2.2 then lJ k c l a fin else u7 l fin ks (lJ k c l a fin).1 (lJ k c l a fin).2.1
def Af(w:List UInt8):Nat->Nat->Int->Int
 | 0,_,r=>r
 | n+1,op,r=>Af w n (op+1) (if w=(cn op).1 then op else r)
def um(l:List ar)(fin:Int):aq × Int × Int :=
 match l with
 | []=>(.zero,0,0)
 | t :: _ =>
  let op:=if t.tok.kind=97 then Af t.tok.al 15 1 0 else 0
  if op=0 then(.zero,2,t.tok.pos)
  else
   let x:=u7 l fin (cn op).2 {aq.zero with op:=op,pos:=t.tok.pos} 1
   if 0<=x.2.2 then(.zero,2,x.2.2)
   else if x.2.1<l.length then(.zero,2,np l x.2.1 fin)
   else(x.1,0,0)
def Nb(s:List UInt8):aq × Int × Int :=
 match (dG s).2 with
 | some a=>(.zero,1,a)
 | none => match (gQ (dG s).1).2 with
  | some a=>(.zero,2,a)
  | none=>um (gQ (dG s).1).1 s.length
def wA:List (Tok × List ar)->List Tok
 | []=>[]
 | (t,r)::op=>bj r++[t]++wA op
def MC:∀(op:List (Tok × List ar)) (t:Tok) (r:List ar),wA (op++[(t,r)])=wA op++bj r++[t]
 | [],t,r=>by simp[wA]
 | (u,q)::op,t,r=>by simp[wA,MC op t r]
def P4{c:Int}(h:closing c≠0):kG c=false:=by
 unfold closing at h;split at h
 .rename_i e;subst e;decide
 .split at h
  .rename_i e;rcases e with e | e<;>subst e<;>decide
  .exact absurd rfl h
def yA{O:Type}(l:List O):l=[]\/∃ys x,l=ys++[x]:=by
 rcases ON l with h | ⟨ys,x,h⟩
 .exact .inl h
 .exact .inr ⟨ys,x,by rw[h];simp⟩
def Ez:∀(ts:List Tok) (op:List (Tok × List ar)) (row:List ar),(∀t∈ts,uc t)->(∀p∈op,closing p.1.kind≠0/\fe p.2)->fe row->(fP ts op row).2=ae ->
 fe (fP ts op row).1/\bj (fP ts op row).1=wA op++bj row++ts
 | [], op, row, _, ho, hr, hn => by
  rcases yA op with rfl | ⟨ys,⟨u,a⟩,rfl⟩
  .simpa [fP,wA] using hr
  .simp[fP] at hn
 | t :: ts, op, row, ht, ho, hr, hn => by
  simp only[fP] at hn ⊢;have pC:∀t∈ts,uc t:=λx hx=>ht x (by simp[hx])
  by_cases hc:closing t.kind=0
  .rw[aB (by simp[hc])] at hn ⊢;cases gH:kG t.kind
   .rw[gH] at hn;simp only[di,ck] at hn ⊢;obtain⟨h1,h2⟩:=Ez ts op (row++[.mk t [] t.pos]) pC ho (jH.2 ⟨hr,by simp[fe,ar.WF,hc,gH]⟩) hn;exact⟨h1,by rw[h2,g_];simp[bj,ar.flat,hc]⟩
   .rw[gH] at hn;simp only[cC] at hn ⊢
    rcases yA op with rfl | ⟨ys,⟨u,a⟩,rfl⟩
    .simp at hn
    .simp only[EX,ID] at hn ⊢
     by_cases hk:closing u.kind=t.kind
     .rw[aD hk] at hn ⊢;obtain⟨hu,ha⟩:=ho (u,a) (by simp);have hte:t=⟨closing u.kind,[UInt8.ofNat (closing u.kind).toNat],t.pos⟩:=by
       rcases ht t (by simp) with ⟨gd,_⟩ | ⟨_,h2⟩
       .rw[gd] at gH;exact absurd gH (by decide)
       .rw[hk,<-h2]
      obtain⟨h1,h2⟩:=Ez ts ys (a++[.mk u row t.pos]) pC (λp hp=>ho p (by simp[hp])) (jH.2 ⟨ha,by simp[fe,ar.WF,hu,hr,P4 hu]⟩) hn;refine⟨h1,?_⟩;rw[h2,g_,MC];simp only[bj,ar.flat,hu,ne_eq,Un,cC,eg];rw[<-hte];simp
     .rw[aB hk] at hn;simp at hn
  .rw[aD hc] at hn ⊢
   by_cases sL:24<=op.length
   .rw[aD sL] at hn;simp at hn
   .rw[aB sL] at hn ⊢;obtain⟨h1,h2⟩:=Ez ts (op++[(t,row)]) [] pC (λp hp=>by rcases jE.1 hp with h | h;exact ho p h;simp at h;subst h;exact⟨hc,hr⟩) (by simp[fe]) hn;exact⟨h1,by rw[h2,MC];simp[bj]⟩
def H_:∀(ts:List Tok) (op:List (Tok × List ar)) (row:List ar),(fP ts op row).2≠ae->(fP ts op row).1=[]
 | [], op, row, h => by
  rcases yA op with rfl | ⟨ys,⟨u,a⟩,rfl⟩
  .simp[fP] at h
  .simp[fP]
 | t :: ts, op, row, h => by
  simp only[fP] at h ⊢;split
  .rename_i hc;rw[aD hc] at h;split
   .rfl
   .rename_i sL;rw[aB sL] at h;exact H_ _ _ _ h
  .rename_i hc;rw[aB hc] at h;split
   .rename_i gH;rw[aD gH] at h
    rcases yA op with rfl | ⟨ys,⟨u,a⟩,rfl⟩
    .rfl
    .simp only[EX,ID] at h ⊢;split
     .rename_i hk;rw[aD hk] at h;exact H_ _ _ _ h
     .rfl
   .rename_i gH;rw[aB gH] at h;exact H_ _ _ _ h
def zf(l:List Tok)(f:Int):Option Int:=if 0<=f then U (qm l f.toNat) else ae
def H'(l:List Tok):∀(n i:Nat) (op:List (Tok × List ar)) (row:List ar) (o:List Nat),i+n=l.length->op.map (·.1)=o.map (iY l)->(fP (l.drop i) op row).2=zf l (po l n i o)
 | 0, i, op, row, o, hi, ho => by
  rw[OL (by omega)]
  rcases yA op with rfl | ⟨ys,⟨u,a⟩,rfl⟩
  .have:o=[]:=by simpa using ho.symm
   subst this;simp[fP,po,zf]
  .rcases yA o with rfl | ⟨zs,j,rfl⟩
   .simp at ho
   .simp only[fX,bX,eC] at ho;have hj:u=iY l j:=by have:=XG ho rfl;simpa using this
    simp[fP,po,zf,hj,iY,qm];cases l[j]?<;>rfl
 | n + 1, i, op, row, o, hi, ho => by
  have az:i<l.length:=by omega
  have hti:iY l i=l[i]:=by simp[iY,az]
  have qT:eK l i=l[i].kind:=by simp[eK,az]
  have BD:qm l i=l[i].pos:=by simp[qm,az]
  have dB:op.length=o.length:=by have:=gX List.length ho;simpa using this
  rw[mi az];simp only[fP,po,qT];have La:zf l (i:Nat)=U l[i].pos:=by simp[zf,BD]
  by_cases hc:closing l[i].kind=0
  .simp only[ne_eq,hc,Hx,CW,ck];cases gH:kG l[i].kind
   .simp only[di,ck];exact H' l n (i+1) op _ o (by omega) ho
   .simp only[cC]
    rcases yA op with rfl | ⟨ys,⟨u,a⟩,rfl⟩
    .have:o=[]:=by simpa using ho.symm
     subst this;simp[La]
    .rcases yA o with rfl | ⟨zs,j,rfl⟩
     .simp at ho
     .simp only[fX,bX,eC] at ho;have hj:u=iY l j:=by have:=XG ho rfl;simpa using this
      have pE:ys.map (·.1)=zs.map (iY l):=List.append_inj_left' ho rfl;have KR:eK l j=u.kind:=by rw[hj];simp only[eK,iY];cases l[j]?<;>rfl
      simp only[EX,ID,KR]
      by_cases hk:closing u.kind=l[i].kind
      .rw[aD hk,aD hk];exact H' l n (i+1) ys _ zs (by omega) pE
      .rw[aB hk,aB hk,La]
  .rw[aD hc]
   by_cases sL:24<=op.length
   .rw[aD sL,aD ⟨hc,by omega⟩,La]
   .rw[aB sL,aB (λh=>sL (by omega))];simp only[ne_eq,hc,Un,cC,P4 hc,di,ck];exact H' l n (i+1) _ _ _ (by omega) (by simp[ho,hti])
def arb{l:List Tok}(h:∀t∈l,uc t):fP l [] []=gQ l:=by
 have hf:=H' l l.length 0 [] [] [] (by omega) rfl;rw[IF] at hf;have hr:(gQ l).2=zf l (po l l.length 0 []):=by
  unfold gQ zf;split<;>rfl
 have h2:(fP l [] []).2=(gQ l).2:=by rw[hf,hr]
 cases hq:(fP l [] []).2 with
 | some a =>
  have h1:=H_ l [] [] (by rw[hq];simp);have h3:(gQ l).1=[]:=by
   rw[hq] at h2;unfold gQ at h2 ⊢;split
   .rfl
   .rename_i hn;rw[aB hn] at h2;simp at h2
  exact Prod.ext (h1.trans h3.symm) h2
 | none =>
  obtain⟨h3,h4⟩:=Ez l [] [] h (by simp) (by simp[fe]) hq;simp only[wA,bj,fY] at h4;have h5:=WX h3 (by rw[h4,<-h2,hq]);rw[h4] at h5;exact Prod.ext h5.symm h2
def Az(s:List UInt8):fP (dG s).1 [] []=gQ (dG s).1:=arb (BQ _ _ _ _ (by simp))
def X7(n:Nat):tO (lK n):=λl a fin h=>by
 have h3:∀ks ws next,(wG l a ks ws next).aE=ak->(wG l a ks ws next).next=a+1:=λks ws next h=>by
  unfold wG at h ⊢;split
  .rename_i hk;rw[aD hk] at h;simp[dL] at h
  .rfl
 have h2:∀ks next,(rk l a ks next).aE=ak->(rk l a ks next).next=a+1:=λks next h=>by
  unfold rk at h ⊢;split
  .rename_i hk;rw[aD hk] at h;split
   .rename_i hb;rw[aD hb,hb] at h;simp at h
   .rename_i hb;rw[aB hb] at h;exact h3 _ _ _ h
  .rename_i hk;rw[aB hk] at h;exact h3 _ _ _ h
 unfold lK at h ⊢;split
 .rename_i hk;rw[aD hk] at h;exact Fk n l a fin h
 rename_i h1;rw[aB h1] at h;split
 .rename_i hk;rw[aD hk] at h;simp[dL] at h
 rename_i h4;rw[aB h4] at h;have hk:=qi (by simpa using h4:bx l a 91=aa);split
 .rename_i h5;rw[aD h5] at h;split
  .rename_i hb;rw[aD hb,hb] at h;simp at h
  .rename_i hb;rw[aB hb] at h;rw[h2 _ _ h];omega
 .rename_i h5;rw[aB h5] at h;rw[h2 _ _ h];omega
def anD(k:UInt8)(c:aq)(l:List ar)(a:Nat)(fin:Int):∃a' : Nat,(lJ k c l a fin).2.1=(a' : Nat)/\(a<=l.length->a' <= l.length):=by
 have Le:∀kind,bx l (a:Nat) kind=aa->∃a' : Nat,((a:Int)+1)=(a' : Nat)/\(a<=l.length->a' <= l.length):=λkind hk=>by
  have:=qi hk
  exact⟨a+1,rfl,λ_=>by omega⟩
 have dV:∃a' : Nat,(a:Int)=(a' : Nat)/\(a<=l.length->a' <= l.length):=⟨a,rfl,id⟩;unfold lJ;split
 .split
  .rename_i hk;exact Le _ hk
  .exact dV
 split
 .split
  .exact dV
  .rename_i hb;have hk:bx l (a:Nat) 123=true:=by
    by_cases hk:bx l (a:Nat) 123=aa
    .exact hk
    .unfold ri at hb;rw[aB hk] at hb;simp[dL] at hb
   exact Le _ hk
 split
 .split
  .rename_i hk;exact Le _ hk
  .exact dV
 have hg:tO (if k=114 then lK (a9 l) else iT (a9 l)):=by split;exact X7 _;exact Fk _
 have Dk:=hg l (a:Nat) fin;rw[show(if k=114 then lK (a9 l) else iT (a9 l)) l (a:Nat) fin=(if k=114 then lK (a9 l) l (a:Nat) fin else iT (a9 l) l (a:Nat) fin) by split<;>rfl] at Dk;generalize (if k=114 then lK (a9 l) l (a:Nat) fin else iT (a9 l) l (a:Nat) fin)=g at Dk ⊢;cases hb:g.aE
 .obtain⟨_,h1,h2⟩:=Dk hb;simp only[hb,di,ck];exact⟨g.next.toNat,by omega,λ_=>by omega⟩
 .simp only[hb,cC];exact dV
def In(N p:Int):Prop:=0<=p/\p<=N
inductive t_(N:Int):ar->Prop
 | mk (t:Tok) (ks:List ar) (e:Int):In N t.pos->In N e->(∀k∈ks,t_ N k)->t_ N (.mk t ks e)
variable{N:Int}
def t_.fin{t:ar}(h:t_ N t):In N t.fin:=by cases h;assumption
def t_.pos{t:ar}(h:t_ N t):In N t.tok.pos:=by cases h;assumption
def t_.ah{t:ar}(h:t_ N t):∀k∈t.ah,t_ N k:=by cases h;assumption
def la(N:Int)(l:List ar):Prop:=∀k∈l,t_ N k
section
variable {N:Int} (h0:0<=N)
include h0
theorem sX:In N 0:=⟨by omega,h0⟩
variable{a:Int}
theorem si{fin:Int}(hl:la N l)(hf:In N fin):In N (np l a fin):=by
 unfold np;split
 .cases h:l[a.toNat]? with
  | none=>exact hf
  | some t=>exact(hl t (rz h)).pos
 .exact hf
theorem pS{fin:Int}(hl:la N l)(hf:In N fin):In N (dL l a fin).pos:=si h0 hl hf
theorem H9(hl:la N l):la N (bG l a).ah/\In N (bG l a).fin:=by
 unfold bG;cases h:l[a.toNat]? with
 | none=>exact⟨by simp[la,ar.zero,ar.ah],by exact sX h0⟩
 | some t=>exact⟨(hl t (rz h)).ah,(hl t (rz h)).fin⟩
def vD(N:Int)(g:List ar->Int->Int->ca):Prop:=∀l a fin,la N l->In N fin->In N (g l a fin).pos
theorem Hd(k:Int):vD N (td k):=λl a fin hl hf=>by
 unfold td;split;exact sX h0;exact pS h0 hl hf
theorem Hs:vD N nameAt:=λl a fin hl hf=>by
 unfold nameAt;split;exact sX h0;exact pS h0 hl hf
theorem NR{one:Int->ca}{l:List ar}(h:∀a,In N (one a).pos):∀n a out,In N (fV one l n a out).2.pos
 | 0,_,_=>sX h0
 | n + 1, a, out => by
  simp only[fV];split
  .exact h a
  .split
   .exact NR h n _ _
   .exact h a
variable{g:List ar->Int->Int->ca}
theorem Cf(hg:vD N g)(hl:la N l)(e:Bool):In N (wholeAt g (bG l a) e).2.pos:=by
 obtain⟨hk,hf⟩:=H9 h0 (a:=a) hl;unfold wholeAt;split
 .exact sX h0
 .simp only;split
  .exact pS h0 hk hf
  .exact NR h0 (λa=>hg _ a _ hk hf) _ _ _
theorem G2{w:List Nd × ca}{mk:List Nd->Nd}{next:Int}(h:In N w.2.pos):In N (mw w mk next).pos:=by
 unfold mw;split;exact h;exact sX h0
theorem Vc{g:ca}{f:Nd->Nd}(h:In N g.pos):In N (g.put f).pos:=by
 unfold ca.put;split<;>exact h
theorem apt:vD N An:=λl a fin hl hf=>by
 unfold An;split
 .exact pS h0 hl hf
 split
 .exact pS h0 hl hf
 split
 .exact pS h0 hl hf
 split
 .exact Cf h0 (Hs h0) hl _
 .exact sX h0
theorem Qk:∀n,vD N (p9 n)
 | 0=>Hd h0 2
 | n + 1 => λl a fin hl hf => by
  unfold p9;split
  .exact Hd h0 2 l a fin hl hf
  split
  .exact G2 h0 (Cf h0 (Hs h0) hl _)
  split
  .exact G2 h0 (Cf h0 (Qk n) hl _)
  split
  .exact G2 h0 (Cf h0 (apt h0) hl _)
  .exact pS h0 hl hf
theorem DR:∀n,vD N (iT n)
 | 0=>Hd h0 1
 | n + 1 => λl a fin hl hf => by
  unfold iT;split
  .exact Hd h0 1 l a fin hl hf
  split
  .exact Vc h0 (Qk h0 _ _ _ _ hl hf)
  split
  .exact pS h0 hl hf
  split
  .exact pS h0 hl hf
  .exact G2 h0 (Cf h0 (DR n) hl _)
theorem Y0(n:Nat):vD N (rC n):=λl a fin hl hf=>by
 unfold rC;split;exact pS h0 hl hf;exact DR h0 n l a fin hl hf
theorem adJ(n:Nat):vD N (zg n):=λl a fin hl hf=>by
 unfold zg;split
 .exact pS h0 hl hf
 split
 .exact pS h0 hl hf
 .exact Vc h0 (Y0 h0 n _ _ _ hl hf)
theorem Vy(n:Nat):vD N (lK n):=λl a fin hl hf=>by
 obtain⟨hk,qS⟩:=H9 h0 (a:=a) hl;have h3:∀ks ws next,In N (wG l a ks ws next).pos:=λks ws next=>by
  unfold wG;split;exact pS h0 hk qS;exact sX h0
 have h2:∀ks next,In N (rk l a ks next).pos:=λks next=>by
  unfold rk;split
  .split
   .exact Hs h0 _ _ _ hk qS
   .exact h3 _ _ _
  .exact h3 _ _ _
 unfold lK;split
 .exact DR h0 n l a fin hl hf
 split
 .exact pS h0 hl hf
 split
 .split
  .exact NR h0 (λi=>adJ h0 n _ i _ hk qS) _ _ _
  .exact h2 _ _
 .exact h2 _ _
theorem Xd{fin:Int}(hl:la N l)(hf:In N fin):In N (ri l a fin).2.pos:=by
 unfold ri;split;exact Cf h0 (Hs h0) hl _;exact pS h0 hl hf
def OG(N p:Int):Prop:=p = -1\/In N p
theorem UE{l:List ar}{fin:Int}(hl:la N l)(hf:In N fin):∀n a acc,OG N (uZ l fin n a acc).2
 | 0,_,_=>.inl rfl
 | n + 1, a, acc => by
  simp only[uZ];split
  .refine Or.inr ?_;simp only;exact si h0 hl hf
  split
  .refine Or.inr ?_;simp only;exact si h0 hl hf
  split
  .refine Or.inr ?_;simp only;exact si h0 hl hf
  split
  .exact .inl rfl
  split
  .refine Or.inr ?_;simp only;exact si h0 hl hf
  .exact UE hl hf n _ _
theorem anx(hl:la N l):OG N (BX (bG l a)).2:=by
 obtain⟨hk,hf⟩:=H9 h0 (a:=a) hl;unfold BX;split
 .exact .inl rfl
 .exact UE h0 hk hf _ _ _
theorem ard{l:List Tok}(hl:∀t∈l,In N t.pos):∀n i to,la N (nr l n i to):=by
 have hp:∀i,In N (qm l i):=λi=>by
  unfold qm;cases h:l[i]? with
  | none=>exact sX h0
  | some t=>exact hl t (rz h)
 have ht:∀i,In N (iY l i).pos:=λi=>by
  unfold iY;cases h:l[i]? with
  | none=>exact sX h0
  | some t=>exact hl t (rz h)
 intro n;induction n with
 | zero=>intro i to;simp[nr,la]
 | succ n ih =>
  intro i to;simp only[nr];split
  .split
   .intro k hk
    rcases kA.1 hk with rfl | hk
    .exact .mk _ _ _ (ht i) (hp _) (ih _ _)
    .exact ih _ _ k hk
   .intro k hk
    rcases kA.1 hk with rfl | hk
    .exact .mk _ _ _ (ht i) (hp _) (by simp)
    .exact ih _ _ k hk
  .simp[la]
end
def Hf{N:Int}:∀n (p:Nat) (s:List UInt8) (acc:List Tok),(p:Int)+s.length<=N->(∀t∈acc,In N t.pos)->(∀t∈(e9 n p s acc).1,In N t.pos)/\∀a,(e9 n p s acc).2=U a->In N a
 | 0,_,_,acc,_,h=>⟨by simpa [e9] using h,by simp[e9]⟩
 | n+1,_,[],acc,_,h=>⟨by simpa [e9] using h,by simp[e9]⟩
 | n + 1, p, c :: r, acc, hp, h => by
  simp only[db] at hp;simp only[e9];split
  .exact⟨h,by simp⟩
  split
  .rename_i hr;have hle:(fj (c::r)).length<=(c::r).length:=(XO _).length_le;refine Hf n _ _ _ ?_ ?_
   .rw[IM];simp only[db] at hle ⊢;omega
   .intro t ht
    rcases jE.1 ht with ht | ht
    .exact h t ht
    .rw[o_] at ht;subst ht;constructor<;>simp only<;>omega
  split
  .refine Hf n _ _ _ (by omega) ?_;intro t ht
   rcases jE.1 ht with ht | ht
   .exact h t ht
   .rw[o_] at ht;subst ht;constructor<;>simp only<;>omega
  split
  .exact Hf n _ _ _ (by omega) h
  .refine⟨by simp,λa ha=>?_⟩;simp only[aY] at ha;subst ha;constructor<;>omega
def Tw(s:List UInt8):(∀t∈(dG s).1,In s.length t.pos)/\∀a,(dG s).2=U a->In s.length a:=Hf _ _ _ _ (by simp) (by simp)
def TG(s:List UInt8):la s.length (gQ (dG s).1).1/\∀a,(gQ (dG s).1).2=U a->In s.length a:=by
 have h0:(0:Int)<=s.length:=by omega
 have h:=(Tw s).1;unfold gQ;split
 .refine⟨by simp[la],λa ha=>?_⟩;simp only[aY] at ha;subst ha;unfold qm;cases hq:(dG s).1[(po (dG s).1 (dG s).1.length 0 []).toNat]? with
  | none=>exact sX h0
  | some t=>exact h t (rz hq)
 .exact⟨ard h0 h _ _ _,by simp⟩
def ji(sep:List UInt8):List (List UInt8)->List UInt8
 | []=>[]
 | x::xs=>x++xs.flatMap λy=>sep++y
def ajo(sep:List UInt8)(l:List (List UInt8))(y:List UInt8):ji sep (l++[y])=ji sep l++(if 0<l.length then sep else [])++y:=by
 cases l with
 | nil=>simp[ji]
 | cons x xs=>simp[ji]
def G4(l:List (List UInt8)):ji [44] l=cz l:=by cases l<;>rfl
variable{i:Nat}{sep:List UInt8}
def ajp{l:List (List UInt8)}(h:i<l.length):ji sep (l.take (i+1))=ji sep (l.take i)++(if 0<i then sep else [])++l[i]:=by
 rw[jr h,ajo,iP,w8 (IS h)]
def ajm{l:List (List UInt8)}:(ji sep (l.take i)).length<=(ji sep l).length:=by
 have key:∀a b:List (List UInt8),(ji sep a).length<=(ji sep (a++b)).length:=λa b=>by
  cases a with
  | nil=>simp[ji]
  | cons x xs=>simp[ji,yN]
 have:=key (l.take i) (l.drop i)
 rwa [qy] at this
def jy(p:au × au):List UInt8:=p.1.al++[60]++p.2.al
def uh(l:List (List UInt8)):List UInt8:=[123]++cz l++[125]
def l9(k:UInt8)(c:aq)(n:Nd):List UInt8 :=
 if k=110 then c.name.al
 else if k=102 then cz (c.aj.map au.al)
 else if k=119 then uh (c.aj.map au.al)
 else if k=112 then uh (c.bh.map jy)
 else n.da
def isTerm(k:UInt8):Bool:=k≠110&&k≠102&&k≠119&&k≠112
def yC(c:aq)(x:List (List UInt8) × List Nd)(k:UInt8):List (List UInt8) × List Nd:=(x.1++[l9 k c (x.2.headD .zero)],if isTerm k=aa then x.2.tail else x.2)
def kt(c:aq)(ks:List UInt8):List (List UInt8) × List Nd:=ks.foldl (yC c) ([(cn c.op).1],[c.left,c.right])
def dS(c:aq):List UInt8:=ji [32] (kt c (cn c.op).2).1
def UU(c:aq)(ks:List UInt8)(k:UInt8):kt c (ks++[k])=yC c (kt c ks) k:=by simp[kt,AS]
def jZ(l:List (au × au)):Nat:=(l.map λp=>p.1.al.length+p.2.al.length+2).sum
def aob{l:List (au × au)}(h:i<l.length):l[i].1.al.length+l[i].2.al.length+2<=jZ l:=by
 induction l generalizing i with
 | nil=>simp at h
 | cons p ps ih =>
  cases i with
  | zero=>simp[jZ]
  | succ i =>
   have:=ih (i:=i) (by simp at h;omega)
   simp only[jZ,bX,mO,EW] at this ⊢;omega
def U9(l:List (au × au)):(cz (l.map jy)).length<=jZ l/\l.length<=jZ l:=by
 induction l with
 | nil=>simp[cz,jZ]
 | cons p ps ih =>
  have key:∀qs:List (au × au),((qs.map jy).flatMap λy=>44::y).length<=jZ qs:=λqs=>by
   induction qs with
   | nil=>simp
   | cons q qs ih=>simp[jy,jZ] at ih ⊢;omega
  have:=key ps
  have:=ih.2
  simp[cz,jy,jZ] at *;omega
def aq.wt(c:aq):Nat:=c.name.al.length+eB c.aj+jZ c.bh+c.left.wt+c.right.wt
def MW(l:List au):(cz (l.map au.al)).length<=eB l/\l.length<=eB l:=⟨EJ l,by
 induction l with
 | nil=>simp
 | cons w ws ih=>simp[eB] at ih ⊢;omega⟩
def anZ{k:UInt8}{n:Nd}(h:n.wt<=c.wt):(l9 k c n).length<=c.wt+2:=by
 have h1:=(MW c.aj).1;have h2:=(U9 c.bh).1;have h3:=W0 n;have h4:c.wt=c.name.al.length+eB c.aj+jZ c.bh+c.left.wt+c.right.wt:=rfl;unfold l9 uh;split
 .omega
 split
 .omega
 split
 .simp;omega
 split
 .simp;omega
 .omega
def ash(op:Int):(cn op).1.length<=8:=by
 unfold cn;split
 .rename_i h1;have az:op.toNat<16:=by omega
  generalize op.toNat=n at az ⊢;have key:∀n<16,(jL.getD n ([],[])).1.length<=8:=by decide
  exact key n az
 .simp
def Iu:Nd.zero.wt=4:=by simp[Nd.zero,Nd.wt,eB,fk]
def asW(n:Nd):4<=n.wt:=by cases n;simp only[Nd.wt];omega
def MR(c:aq)(ks:List UInt8):(∀x∈(kt c ks).1,x.length<=c.wt+8)/\(∀n∈(kt c ks).2,n.wt<=c.wt)/\(kt c ks).1.length=ks.length+1/\(kt c ks).2=[c.left,c.right].drop (ks.filter isTerm).length:=by
 have hc:c.wt=c.name.al.length+eB c.aj+jZ c.bh+c.left.wt+c.right.wt:=rfl
 rcases ON ks with rfl | ⟨ys,k,rfl⟩
 .have:=ash c.op
  refine⟨?_,?_,rfl,rfl⟩
  .intro x hx;simp[kt] at hx;subst hx;omega
  .intro n hn;simp[kt] at hn;rcases hn with rfl | rfl<;>omega
 .obtain⟨i1,i2,i3,i4⟩:=MR c ys;rw[List.concat_eq_append,UU];have hz:((kt c ys).2.headD .zero).wt<=c.wt:=by
   cases hq:(kt c ys).2 with
   | nil=>have:=asW c.left;simp[Iu];omega
   | cons n ns=>exact i2 n (by rw[hq];simp)
  refine⟨?_,?_,?_,?_⟩
  .intro x hx
   rcases jE.1 hx with hx | hx
   .exact i1 x hx
   .rw[o_] at hx;subst hx;have:=anZ (k:=k) hz;omega
  .intro n hn;simp only[yC] at hn;split at hn
   .exact i2 n (List.mem_of_mem_tail hn)
   .exact i2 n hn
  .simp[yC,i3]
  .simp only[yC,i4];cases h:isTerm k
   .simp[h]
   .simp[h]
termination_by ks.length
decreasing_by subst_vars;simp
def ajn{B:Nat}:∀(l:List (List UInt8)),(∀x∈l,x.length<=B)->(ji [32] l).length<=l.length*(B+1)
 | [],_=>by simp[ji]
 | x :: xs, h => by
  have hx:=h x (by simp);have key:∀ys:List (List UInt8),(∀x∈ys,x.length<=B)->(ys.flatMap λy=>[32]++y).length<=ys.length*(B+1):=λys=>by
   induction ys with
   | nil=>simp
   | cons y ys ih =>
    intro h;have h1:=h y (by simp);have h2:=ih λx hx=>h x (by simp[hx])
    simp only[pY,bI,db,ei,iQ] at h2 ⊢;omega
  have:=key xs λx hx=>h x (by simp[hx])
  simp only[ji,bI,db,iQ] at this ⊢;omega
def agY(op:Int):∀i<(cn op).2.length,∀k,(cn op).2[i]?=U k->isTerm k=aa->(((cn op).2.take i).filter isTerm).length<2:=by
 unfold cn;split
 .rename_i h1;have az:op.toNat<16:=by omega
  generalize op.toNat=n at az ⊢;have key:∀n<16,∀i<(jL.getD n ([],[])).2.length,∀k∈(jL.getD n ([],[])).2[i]?,isTerm k=aa->(((jL.getD n ([],[])).2.take i).filter isTerm).length<2:=by decide
  intro i hi k hk;exact key n az i hi k hk
 .simp
def Fv:List V:=.int .i64 0::aA 8 (.int .u64 0)
def Q9:List V:=.aF []::.int .i64 0::aA 8 (.int .u64 0)
structure bF where
 v:Int
 c:bg
structure bU where
 name:List UInt8
 a:bF
structure ek where
 fs:List bU
 tail:Int
structure eG where
 op:Int
 lat:Int
 code:List bt
 to:bF
 a:ek
 b:ek
 v:Int
 field:List UInt8
def bg.Jg{P:bg->Prop}(h:∀(a b c d e f g i:bz) (hl:[a,b,c,d,e,f,g,i].length=8),P ⟨[a,b,c,d,e,f,g,i],hl⟩)(e:bg):P e:=by
 obtain⟨w,hl⟩:=e
 match w,hl with
 | [a,b,c,d,e,f,g,i],hl=>exact h a b c d e f g i hl
def bF.enc(x:bF):List V:=.int .i64 x.v::x.c.enc
def bU.enc(x:bU):List V:=.aF x.name::x.a.enc
def ek.enc(x:ek):List V:=[.sl .no 10 (x.fs.map bU.enc),.int .i64 x.tail]
def cy(op lat:Int)(c:V)(to:bF)(fa:V)(ta:Int)(fb:V)(tb v:Int)(f:List UInt8):List V:=.int .i64 op::.int .i64 lat::c::(to.enc++[fa,.int .i64 ta,fb,.int .i64 tb,.int .i64 v,.aF f])
def eG.enc(x:eG):List V:=cy x.op x.lat (.sl .no 10 (x.code.map bt.enc)) x.to (.sl .no 10 (x.a.fs.map bU.enc)) x.a.tail (.sl .no 10 (x.b.fs.map bU.enc)) x.b.tail x.v x.field
def bF.zero:bF:=⟨0,.zero⟩
def ek.zero:ek:=⟨[],0⟩
def eG.zero:eG:=⟨0,0,[],.zero,.zero,.zero,0,[]⟩
def jt:List V:=cy 0 0 (.sl .aW 10 []) .zero (.sl .aW 10 []) 0 (.sl .aW 10 []) 0 0 []
def bF.ext'{x y:bF}(h:x.v=y.v)(k:x.c=y.c):x=y:=by cases x;cases y;simp only at h k;subst h;subst k;rfl
def bU.ext'{x y:bU}(h:x.name=y.name)(k:x.a=y.a):x=y:=by cases x;cases y;simp only at h k;subst h;subst k;rfl
instance:DecidableEq bF:=λx y=>if h:x.v=y.v/\x.c=y.c then isTrue (bF.ext' h.1 h.2) else isFalse λe=>h ⟨e▸rfl,e▸rfl⟩
instance:DecidableEq bU:=λx y=>if h:x.name=y.name/\x.a=y.a then isTrue (bU.ext' h.1 h.2) else isFalse λe=>h ⟨e▸rfl,e▸rfl⟩
section
variable {x y:bF} {n:Nat} {i:Int} {e:bg}
def bF.cN:x.enc.length=9:=by simp[bF.enc,bg.cN]
def bF.fU:cB x.enc=true:=by simp[bF.enc,cB,V.one,bg.fU]
def bF.dq:bH x.enc=true:=by simp[bF.enc,bH,V.cG,bg.dq]
def bF.dk:bw x.enc=x.enc:=by simp[bF.enc,bw,V.erase,bg.dk]
def bF.cE:bQ n x.enc=true:=by simp[bF.enc,bQ,V.lo,bg.cE]
def bF.fh:takeN 9 x.enc=U x.enc:=by have:=yE (c:=x.enc);rwa [bF.cN] at this
def bF.gN:bD aa 9 x.enc=U (.agg x.enc):=by rw[yb,bF.fh];rfl
def bF.gi:bW 9 x.enc=true:=by have:=xC (c:=x.enc);rwa [bF.cN] at this
def bF.fO:over y.enc x.enc=x.enc:=tt (by rw[bF.cN,bF.cN])
theorem bF.Na:bD ak 1 x.enc=U (.int .i64 x.v):=rfl
def bF.M8:takeN 8 (x.enc.drop 1)=U x.c.enc:=by show takeN 8 x.c.enc=_;exact bg.fh
def bF.HQ:Fv=bF.zero.enc:=by rw[bF.enc];show _=V.int .i64 0::bg.zero.enc;rw[<-bg.wF];rfl
def bF.Zk:over x.enc [.int .i64 i]=(bF.mk i x.c).enc:=by rw[bF.enc,oD,l8];rfl
theorem bF.CG:bW 1 x.enc=true:=rfl
def bF.Zh:bW 8 (x.enc.drop 1)=true:=by show bW 8 x.c.enc=aa;exact bg.gi
def bF.I_:setAt x.enc 1 e.enc=(bF.mk x.v e).enc:=by rw[bF.enc,jl,lM,bg.fO];rfl
def bF.pQ:fE [1,1,1,1,1,1,1,1,1] x.enc y.enc=U (decide (x=y)):=by
 rw[bF.enc,bF.enc,xr,bg.pQ,vF];congr 1;rw[<-wW];exact rE.2 ⟨λh=>bF.ext' h.1 h.2,λh=>h▸⟨rfl,rfl⟩⟩
def bF.an:=af @bF.cN <| af @bF.fU <| af @bF.dq <| af @bF.dk <| af @bF.cE <| af @bF.fh <| af @bF.gN <| af @bF.gi <| af @bF.fO <| af @bF.Na <| af @bF.M8 <| af @bF.HQ <| af @bF.Zk <| af @bF.CG <| af @bF.Zh <| af @bF.I_ @bF.pQ
end
section
variable {x y:bU} {n:Nat} {t:List UInt8} {a:bF}
def bU.cN:x.enc.length=10:=by simp[bU.enc,bF.cN]
def bU.fU:cB x.enc=true:=by simp[bU.enc,cB,V.one,bF.fU]
def bU.dq:bH x.enc=true:=by simp[bU.enc,bH,V.cG,bF.dq]
def bU.dk:bw x.enc=x.enc:=by simp[bU.enc,bw,V.erase,bF.dk]
def bU.cE:bQ n x.enc=true:=by simp[bU.enc,bQ,V.lo,bF.cE]
def bU.fh:takeN 10 x.enc=U x.enc:=by have:=yE (c:=x.enc);rwa [bU.cN] at this
def bU.gN:bD aa 10 x.enc=U (.agg x.enc):=by rw[yb,bU.fh];rfl
def bU.gi:bW 10 x.enc=true:=by have:=xC (c:=x.enc);rwa [bU.cN] at this
def bU.fO:over y.enc x.enc=x.enc:=tt (by rw[bU.cN,bU.cN])
theorem bU.tB:bD ak 1 x.enc=U (.aF x.name):=rfl
def bU.M7:takeN 9 (x.enc.drop 1)=U x.a.enc:=by show takeN 9 x.a.enc=_;exact bF.fh
def bU.HQ:Q9=(bU.mk [] .zero).enc:=by rw[bU.enc];show _=V.aF []::bF.zero.enc;rw[<-bF.HQ];rfl
def bU.I':over x.enc [.aF t]=(bU.mk t x.a).enc:=by rw[bU.enc,oD,l8];rfl
theorem bU.CG:bW 1 x.enc=true:=rfl
def bU.Zi:bW 9 (x.enc.drop 1)=true:=by show bW 9 x.a.enc=aa;exact bF.gi
def bU.Ze:setAt x.enc 1 a.enc=(bU.mk x.name a).enc:=by rw[bU.enc,jl,lM,bF.fO];rfl
def bU.pQ:fE [2,1,1,1,1,1,1,1,1,1] x.enc y.enc=U (decide (x=y)):=by
 rw[bU.enc,bU.enc,QN,bF.pQ,vF];congr 1;rw[<-wW];exact rE.2 ⟨λh=>bU.ext' h.1 h.2,λh=>h▸⟨rfl,rfl⟩⟩
def bU.an:=af @bU.cN <| af @bU.fU <| af @bU.dq <| af @bU.dk <| af @bU.cE <| af @bU.fh <| af @bU.gN <| af @bU.gi <| af @bU.fO <| af @bU.tB <| af @bU.M7 <| af @bU.HQ <| af @bU.I' <| af @bU.CG <| af @bU.Zi <| af @bU.Ze @bU.pQ
end
section
variable {x:ek} {n:Nat} {u w:V}
theorem ek.cN:x.enc.length=2:=rfl
theorem ek.fU:cB x.enc=true:=rfl
theorem ek.dq:bH x.enc=true:=rfl
theorem ek.dk:bw x.enc=x.enc:=rfl
theorem ek.cE:bQ n x.enc=true:=rfl
theorem ek.fh:takeN 2 x.enc=U x.enc:=rfl
theorem ek.gN:bD aa 2 x.enc=U (.agg x.enc):=rfl
theorem ek.gi:bW 2 x.enc=true:=rfl
theorem ek.fO:over [u,w] x.enc=x.enc:=rfl
theorem ek.Eg:bD ak 1 x.enc=U (.sl .no 10 (x.fs.map bU.enc)):=rfl
theorem ek.M':bD ak 1 (x.enc.drop 1)=U (.int .i64 x.tail):=rfl
def ek.an:=af @ek.cN <| af @ek.fU <| af @ek.dq <| af @ek.dk <| af @ek.cE <| af @ek.fh <| af @ek.gN <| af @ek.gi <| af @ek.fO <| af @ek.Eg @ek.M'
end
section
variable {op lat ta tb v i:Int} {c fa fb d:V} {to tp:bF} {r:ek} {f g:List UInt8} {x:eG} {n:Nat}
def sC:(cy op lat c to fa ta fb tb v f).length=18:=by simp[cy,bF.cN]
def I7:takeN 18 (cy op lat c to fa ta fb tb v f)=U (cy op lat c to fa ta fb tb v f):=by have:=yE (c:=cy op lat c to fa ta fb tb v f);rwa [sC] at this
def Yz:bW 18 (cy op lat c to fa ta fb tb v f)=true:=by have:=xC (c:=cy op lat c to fa ta fb tb v f);rwa [sC] at this
def YJ{Uv LV WM WQ v' : Int}{c' QS QY : V}{f' : List UInt8}:over (cy op lat c to fa ta fb tb v f) (cy Uv LV c' tp QS WM QY WQ v' f')=cy Uv LV c' tp QS WM QY WQ v' f' := tt (by rw[sC,sC])
def yY(h1:c.one=aa)(h2:fa.one=aa)(h3:fb.one=aa):cB (cy op lat c to fa ta fb tb v f)=true:=by
 have h:=@bF.fU to;simp only[cy,cB,MB,pW,h1];rw[Ut,h];simp only[cB,MB,Uu,h2,h3,Iv]
def Fs(h1:c.cG=aa)(h2:fa.cG=aa)(h3:fb.cG=aa):bH (cy op lat c to fa ta fb tb v f)=true:=by
 have h:=@bF.dq to;have app:∀{a b:List V},bH a=aa->bH b=aa->bH (a++b)=true:=by
  intro a;induction a with
  | nil=>intro b _ h;exact h
  | cons x a ih=>intro b h1 h2;simp only[bH,bA,gE] at h1 ⊢;exact⟨h1.1,ih h1.2 h2⟩
 simp only[cy,bH,V.cG,pW,h1];exact app h (by simp[bH,V.cG,h2,h3])
def Fq:bw (cy op lat c to fa ta fb tb v f)=cy op lat c.erase to fa.erase ta fb.erase tb v f:=by
 have h:=@bF.dk to;have app:∀{a b:List V},bw (a++b)=bw a++bw b:=by
  intro a;induction a with
  | nil=>intro b;rfl
  | cons x a ih=>intro b;simp only[bw,gE,ih]
 simp only[cy,bw,V.erase,app,h]
def xi:(cy op lat c to fa ta fb tb v f).drop 12=[fa,.int .i64 ta,fb,.int .i64 tb,.int .i64 v,.aF f]:=by
 simp only[cy,Cq];exact List.drop_left' bF.cN
theorem YA:bD ak 1 (cy op lat c to fa ta fb tb v f)=U (.int .i64 op):=rfl
theorem YB:bD ak 1 ((cy op lat c to fa ta fb tb v f).drop 1)=U (.int .i64 lat):=rfl
theorem YG:bD ak 1 ((cy op lat c to fa ta fb tb v f).drop 2)=U c:=rfl
def YH:takeN 9 ((cy op lat c to fa ta fb tb v f).drop 3)=U to.enc:=NY bF.cN
def YC:takeN 2 ((cy op lat c to fa ta fb tb v f).drop 12)=U [fa,.int .i64 ta]:=by rw[xi];rfl
def YD:takeN 2 ((cy op lat c to fa ta fb tb v f).drop 14)=U [fb,.int .i64 tb]:=by rw[show 14=12+2 from rfl,<-wZ,xi];rfl
def YE:bD ak 1 ((cy op lat c to fa ta fb tb v f).drop 16)=U (.int .i64 v):=by rw[show 16=12+4 from rfl,<-wZ,xi];rfl
def YF:bD ak 1 ((cy op lat c to fa ta fb tb v f).drop 17)=U (.aF f):=by rw[show 17=12+5 from rfl,<-wZ,xi];rfl
theorem Yr:bW 1 (cy op lat c to fa ta fb tb v f)=true:=rfl
theorem Ys:bW 1 ((cy op lat c to fa ta fb tb v f).drop 1)=true:=rfl
theorem Yx:bW 1 ((cy op lat c to fa ta fb tb v f).drop 2)=true:=rfl
def Yy:bW 9 ((cy op lat c to fa ta fb tb v f).drop 3)=true:=by obtain⟨tv,te⟩:=to;induction te using bg.Jg;rfl
def Yt:bW 2 ((cy op lat c to fa ta fb tb v f).drop 12)=true:=by rw[xi];rfl
def Yu:bW 2 ((cy op lat c to fa ta fb tb v f).drop 14)=true:=by rw[show 14=12+2 from rfl,<-wZ,xi];rfl
def Yv:bW 1 ((cy op lat c to fa ta fb tb v f).drop 16)=true:=by rw[show 16=12+4 from rfl,<-wZ,xi];rfl
def Yw:bW 1 ((cy op lat c to fa ta fb tb v f).drop 17)=true:=by rw[show 17=12+5 from rfl,<-wZ,xi];rfl
def YK:over (cy op lat c to fa ta fb tb v f) [.int .i64 i]=cy i lat c to fa ta fb tb v f:=by rw[cy,oD,l8];rfl
def YL:setAt (cy op lat c to fa ta fb tb v f) 1 [.int .i64 i]=cy op i c to fa ta fb tb v f:=by rw[cy,jl,lM,oD,l8];rfl
def YS:setAt (cy op lat c to fa ta fb tb v f) 2 [d]=cy op lat d to fa ta fb tb v f:=by rw[cy,jl,jl,lM,oD,l8];rfl
def YT:setAt (cy op lat c to fa ta fb tb v f) 3 tp.enc=cy op lat c tp fa ta fb tb v f:=by
 rw[cy,jl,jl,jl,lM,Ux (by rw[bF.cN,bF.cN];exact bL _),bF.fO];rfl
def A4{m:List V}{k:Nat}:setAt (cy op lat c to fa ta fb tb v f) (12+k) m = .int .i64 op::.int .i64 lat::c::(to.enc++setAt [fa,.int .i64 ta,fb,.int .i64 tb,.int .i64 v,.aF f] k m):=by
 rw[show 12+k=(9+k)+1+1+1 by omega,cy,jl,jl,jl];congr 3;have key:∀(a b:List V) (n:Nat),setAt (a++b) (a.length+n) m=a++setAt b n m:=by
  intro a;induction a with
  | nil=>intro b n;rw[ei,jc];rfl
  | cons x a ih=>intro b n;rw[gE,db,show a.length+1+n=(a.length+n)+1 by omega,jl,ih];rfl
 have:=key to.enc [fa,.int .i64 ta,fb,.int .i64 tb,.int .i64 v,.aF f] k
 rw[bF.cN] at this;exact this
def YM:setAt (cy op lat c to fa ta fb tb v f) 12 [d,.int .i64 i]=cy op lat c to d i fb tb v f:=A4 (k:=0)
def YO:setAt (cy op lat c to fa ta fb tb v f) 14 [d,.int .i64 i]=cy op lat c to fa ta d i v f:=A4 (k:=2)
def YQ:setAt (cy op lat c to fa ta fb tb v f) 16 [.int .i64 i]=cy op lat c to fa ta fb tb i f:=A4 (k:=4)
def YR:setAt (cy op lat c to fa ta fb tb v f) 17 [.aF g]=cy op lat c to fa ta fb tb v g:=A4 (k:=5)
def YN:setAt (cy op lat c to fa ta fb tb v f) 12 r.enc=cy op lat c to (.sl .no 10 (r.fs.map bU.enc)) r.tail fb tb v f:=A4 (k:=0)
def YP:setAt (cy op lat c to fa ta fb tb v f) 14 r.enc=cy op lat c to fa ta (.sl .no 10 (r.fs.map bU.enc)) r.tail v f:=A4 (k:=2)
def eG.dk:bw x.enc=x.enc:=Fq
def eG.dq:bH x.enc=true:=Fs rfl rfl rfl
def lj:=af @sC <| af @I7 <| af @Yz <| af @YJ <| af @YA <| af @YB <| af @YG <| af @YH <| af @YC <| af @YD <| af @YE <| af @YF <| af @Yr <| af @Ys <| af @Yx <| af @Yy <| af @Yt <| af @Yu <| af @Yv <| af @Yw <| af @YK <| af @YL <| af @YS <| af @YT <| af @YM <| af @YO <| af @YQ <| af @YR <| af @YN @YP
end
def eR(op:Int)(k:UInt8):Nat:=(cn op).2.count k
def n8(l:List (List UInt8)):Bool:=l.all dy
def aq.mB(c:aq):Bool:=if eR c.op 110=0 then decide (c.name.al=[]) else dy c.name.al
def aq.jW(c:aq):Bool :=
 if 0<eR c.op 119 then decide (0<c.aj.length)&&n8 (c.aj.map au.al)
 else if 0<eR c.op 102 then decide (c.aj.length=1)&&n8 (c.aj.map au.al)
 else decide (c.aj.length=0)
def mZ(p:au × au):Bool:=dy p.1.al&&dy p.2.al
def aq.kW(c:aq):Bool:=if eR c.op 112=0 then decide (c.bh.length=0) else c.bh.all mZ
def aq.jA(c:aq):Bool :=
 if 0<eR c.op 116 then c.left.eU&&c.right.eU
 else if 0<eR c.op 114 then c.left.iW&&c.right.iW
 else c.left.cI .zero&&c.right.cI .zero
def aq.fq(c:aq):Bool:=decide (0<=c.op/\c.op<=15)&&c.mB&&c.jW&&c.kW&&c.jA
def kZ:List (au × au)->List (au × au)->Bool
 | [],[]=>aa
 | p::ps,q::qs=>decide (p.1.al=q.1.al)&&decide (p.2.al=q.2.al)&&kZ ps qs
 | _,_=>ak
def aq.cI(a b:aq):Bool:=decide (a.op=b.op)&&decide (a.name.al=b.name.al)&&dt a.aj b.aj&&kZ a.bh b.bh&&a.left.cI b.left&&a.right.cI b.right
def qD(s:aI)(lat:Nat)(n:Nd):bF:=if n.kind=1 then ⟨de (kb s.vars n.al),.zero⟩ else ⟨-1,(im (vf s lat) (n.ah.getD 0 jX)).1⟩
def uv(s:aI)(lat:Nat)(k:Nd):bU:=⟨k.al,qD s lat (k.ah.getD 0 jX)⟩
def Aw(s:aI):List au->Int
 | []=>-1
 | w::_=>de (kb s.vars w.al)
def aqR{s:aI}:∀{l:List au} (h:0<l.length),Aw s (l.take (0+1))=de (kb s.vars l[0].al)
 | [],h=>by simp at h
 | _::_,_=>rfl
def ma(s:aI)(lat:Nat)(n:Nd):ek:=if n.kind=1 then ⟨[],de (kb s.vars n.al)⟩ else ⟨n.ah.map (uv s lat),Aw s n.aj⟩
def W2(s:aI)(v:Option Nat):Int:=match v with | some k=>(match s.vars[k]? with | some x=>x.lat | none=>0) | none=>0
def lT(s:aI)(c:aq):eG :=
 if c.op=8 then ⟨8,cJ s c,(ml s (cJ s c) c.left).getD [],qD s (cJ s c).toNat c.right,.zero,.zero,0,[]⟩
 else if c.op=9 then ⟨9,cJ s c,[],.zero,ma s (cJ s c).toNat c.left,ma s (cJ s c).toNat c.right,0,[]⟩
 else ⟨10,W2 s (kb s.vars c.name.al),[],.zero,.zero,.zero,de (kb s.vars c.name.al),(c.aj.getD 0 ⟨[],0⟩).al⟩
def jw(s:aI)(c:aq):Bool:=decide (8<=c.op)&&decide (c.op<=10)&&c.fq&&decide ((jJ s c).cls=0)
structure o9(s:aI)(c:aq):Prop where
 op:8<=c.op/\c.op<=10
 q:c.fq=aa
 none:∀f∈qF s c,f.cls=0
def LI{s:aI}:jw s c=aa↔o9 s c:=by
 simp only[jw,bA,b7];constructor
 .rintro⟨⟨⟨a,b⟩,d⟩,e⟩;exact⟨⟨a,b⟩,d,(L1 e).2⟩
 .rintro⟨⟨a,b⟩,d,e⟩;exact⟨⟨⟨a,b⟩,d⟩,by rw[jJ,Tu e];rfl⟩
section
variable {s:aI} {c:aq} {lat:Int}
def aru:∀f∈gR s lat t p k,f.cls≠0:=by
 intro f hf;unfold gR at hf;split at hf
 .split at hf<;>(rw[o_.1 hf];simp)
 .split at hf
  .split at hf
   .rw[o_.1 hf];simp
   .simp at hf
  .simp at hf
variable{w:au}
def ajM:∀f∈gg s w,f.cls≠0:=by
 intro f hf;unfold gg at hf;split at hf
 .split at hf<;>(rw[o_.1 hf];simp)
 .simp at hf
def Ug{l:List aL}(h:∀f∈l,f.cls≠0)(k:∀f∈l,f.cls=0):l=[]:=by
 cases l with
 | nil=>rfl
 | cons f l=>exact absurd (k f (by simp)) (h f (by simp))
def arv(h:gR s lat t p k=[]):∃v,∃hv:v<s.vars.length,kb s.vars t=U v/\s.vars[v].kind=k/\(0<=lat->s.vars[v].lat=lat):=by
 unfold gR at h;split at h
 .split at h<;>simp at h
 .rename_i v hv;have az:=Q2 hv;rw[cH az] at h;simp only at h;split at h
  .simp at h
  .rename_i hn;refine⟨v,az,hv,?_,λh0=>?_⟩
   .exact Classical.byContradiction λhc=>hn (.inl hc)
   .exact Classical.byContradiction λhc=>hn (.inr ⟨h0,hc⟩)
def ajP(h:gg s w=[]):∃k,iq s.bu w.al=U k/\k<s.bu.length:=by
 unfold gg at h;split at h
 .split at h<;>simp at h
 .rename_i hn;cases hL:iq s.bu w.al with
  | none=>rw[hL] at hn;simp at hn
  | some k=>exact⟨k,rfl,(F4 hL).1⟩
def o9.ajV(h:o9 s c)(h9:c.op=8\/c.op=9):∃k,iq s.bu c.name.al=U k/\k<s.bu.length:=by
 refine ajP (Ug ajM λf hf=>h.none f ?_);unfold qF;rw[aB (by omega),aB (by omega)]
 by_cases h8:c.op=8
 .rw[aD h8];simp[hf]
 .rw[aB h8,aD (by omega)];simp[hf]
def o9.cJ(h:o9 s c)(h9:c.op=8\/c.op=9):∃k:Nat,cJ s c=k/\k<s.bu.length:=by
 obtain⟨k,e,hk⟩:=h.ajV h9;exact⟨k,by rw[Go.Am.cJ,e];rfl,hk⟩
def Ng(h:c.fq=aa):c.mB=aa/\c.jW=aa/\c.kW=aa/\c.jA=true:=by
 simp only[aq.fq,bA] at h;exact⟨h.1.1.1.2,h.1.1.2,h.1.2,h.2⟩
def o9.labels(h:o9 s c)(h8:c.op=8):c.left.eU=aa/\c.right.eU=true:=by
 have:=(Ng h.q).2.2.2
 rw[aq.jA,h8] at this;simpa [show eR 8 116=2 from by decide] using this
def o9.rows(h:o9 s c)(h9:c.op=9):c.left.iW=aa/\c.right.iW=true:=by
 have:=(Ng h.q).2.2.2
 rw[aq.jA,h9] at this;simpa [show eR 9 116=0 from by decide,show eR 9 114=2 from by decide] using this
def o9.one(h:o9 s c)(iH:c.op=10):∃w,c.aj=[w]/\dy w.al=true:=by
 have:=(Ng h.q).2.1
 rw[aq.jW,iH] at this;simp only[show eR 10 119=0 from by decide,show eR 10 102=1 from by decide,Nat.lt_irrefl,ck,Nat.zero_lt_one,cC,bA,b7] at this
 match hq:c.aj,this.1 with
 | [w],_=>exact⟨w,rfl,by have:=this.2;rw[hq] at this;simpa [n8] using this⟩
def o9.var(h:o9 s c)(iH:c.op=10):∃v,∃hv:v<s.vars.length,kb s.vars c.name.al=U v/\s.vars[v].kind=2:=by
 have:gR s (-1) c.name.al c.name.pos 2=[]:=Ug aru λf hf=>h.none f (by unfold qF;rw[aD iH];exact hf)
 obtain⟨v,hv,h1,h2,_⟩:=arv this;exact⟨v,hv,h1,h2⟩
def o9.right(h:o9 s c)(h8:c.op=8):c.right.kind=1\/c.right.kind=7:=by
 have hl:=(h.labels h8).2;rw[Nd.s9] at hl
 by_cases h1:c.right.kind=1
 .exact .inl h1
 .by_cases h7:c.right.kind=7
  .exact .inr h7
  .rw[aB h1,aB h7] at hl
   by_cases RO:c.right.kind=8\/c.right.kind=9
   .have:=h.none ⟨6,c.right.pos⟩ (by unfold qF;rw[aB (by omega),aB (by omega),aD h8];simp[xm,RO])
    simp at this
   .rw[aB RO] at hl;simp at hl
end
def Q8(k:Nd):Prop:=0<k.ah.length/\∀a∈k.ah,a.kind=1\/0<a.ah.length
def HS{n:Nd}(h:n.iW=aa):∀k∈n.ah,Q8 k:=by
 rcases Ei h with ⟨_,_,_,hf⟩ | ⟨h1,h⟩
 .intro k hk;obtain⟨_,_,_,a,ha,hq⟩:=F1 (hf k hk);refine⟨by rw[ha];simp,λb hb=>?_⟩;rw[ha] at hb;obtain rfl:=o_.1 hb;have hl:=Fw hq;simp only[Nd.ph,bA,mg,b7] at hq
  rcases hq.1 with h | h
  .exact .inl h
  .exact .inr (by rw[DQ hl h];omega)
 .rw[Nd.s9,aD h1] at h;intro k hk;simp only[Nd.kl,bA,b7] at h
  have:n.ah.length=0:=by have:=h.2;omega
  exact absurd (List.length_pos_of_mem hk) (by omega)
def Vw{n:Nd}(h:n.iW=aa):n.aj.length<=1:=by
 rcases Ei h with ⟨_,_,hn,_⟩ | ⟨h1,h⟩
 .rcases hn with h | ⟨w,h,_⟩<;>rw[h]<;>simp
 .rw[Nd.s9,aD h1] at h;simp only[Nd.kl,bA,b7] at h
  have:n.aj.length=0:=by have:=h.2;omega
  omega
def D9(r:Rl)(p:Int × Int):Rl:=if (0<=p.1/\p.1<(bK r:Nat))/\0<=p.2/\p.2<(bK r:Nat) then r.put p.1.toNat (j6 (r.get p.1.toNat) p.2) else r
def rh(n:Int)(l:List (Int × Int)):Rl:=l.foldl D9 (Rl.of (min n.toNat 64:Nat) λ_=>0#64)
def amU{n:Int}{l:List (Int × Int)}(hi:i<l.length):rh n (l.take (i+1))=D9 (rh n (l.take i)) l[i]:=by
 rw[rh,rh,jr hi,AS];rfl
def du(l:List au):List (List UInt8):=l.map au.al
def AI{l:List au}:(du l).length=l.length:=by simp[du]
def HG(l:List (List UInt8))(p:au × au):Int × Int:=(de (gY l p.1.al),de (gY l p.2.al))
def sd(c:aq):Rl:=rD (rh (c.aj.length:Nat) (c.bh.map (HG (du c.aj))))
def BY(l:List bC):bC:=⟨aa,l.flatMap bC.bM⟩
def pF(s:aI)(w:au):List bC:=match iq s.bu w.al with | some k=>(match s.bu[k]? with | some x=>[x.shape] | none=>[]) | none=>[]
def pO(s:aI)(c:aq):bC:=BY (c.aj.flatMap (pF s))
def aI.uY(s:aI):Prop:=s.ok/\∀l∈s.bu,l.shape.bM.length<=100
def lY(op:Int):Bool:=decide (1<=op)&&decide (op<=5)
def ny(op:Int):Bool:=decide (op=6)||decide (op=7)
def r5(s:aI)(t:List UInt8):Bool:=(iq s.bu t).isSome
def gJ(s:aI)(t:List UInt8):Bool:=(iq s.bu t).isSome||(kb s.vars t).isSome
def dK(b:Bool)(x y:Int):List aL:=if b then [⟨x,y⟩] else []
def qR(s:aI)(c:aq):List aL :=
 if lY c.op then dK (gJ s c.name.al) 3 c.name.pos
 else dK (!gJ s c.name.al) 3 c.name.pos++dK (gJ s c.name.al&&!r5 s c.name.al) 4 c.name.pos
def r8(s:aI)(c:aq)(i:Nat):List aL :=
 let w:=c.aj.getD i ⟨[],0⟩
 if c.op=3 then dK (!gJ s w.al) 3 w.pos++dK (gJ s w.al&&!r5 s w.al) 4 w.pos
 else dK ((gY ((du c.aj).take i) w.al).isSome||(ny c.op&&gJ s w.al)) 3 w.pos
def kV(s:aI)(c:aq)(m:Nat):List aL:=(cc m).flatMap (r8 s c)
def r9(c:aq)(w:au):List aL:=dK (gY (du c.aj) w.al).isNone 3 w.pos
def pN(c:aq)(p:au × au):List aL:=r9 c p.1++r9 c p.2
def sc(c:aq):List aL:=c.bh.flatMap (pN c)
def qk(c:aq):List aL:=if c.op=5/\c.aj.length<=64 then dK (!ra (sd c)) 5 c.mC else []
def lZ(s:aI)(c:aq):List aL :=
 if c.op=6\/c.op=7 then dK (decide ((64:Int) - (s.vars.length:Nat)<(c.aj.length:Nat))) 7 c.pos
 else dK (decide ((if c.op=3 then(8:Int) else if c.op=4 then 8 else 64)<((if c.op=3 then(pO s c).bM.length else c.aj.length):Nat))||decide (16<=s.bu.length)) 7 c.pos
def vb(s:aI)(c:aq):List aL:=qR s c++kV s c c.aj.length++sc c++qk c++lZ s c
def ku(s:aI)(c:aq):aL:=if lY c.op||ny c.op then fS (vb s c) else .zero
section
variable {s:aI} {c:aq}
def rm{b:Bool}{x y:Int}:(dK b x y).length<=1:=by unfold dK;split<;>simp
def aia:(qR s c).length<=2:=by
 have h1:=@rm (gJ s c.name.al) 3 c.name.pos;have h2:=@rm (!gJ s c.name.al) 3 c.name.pos;have h3:=@rm (gJ s c.name.al&&!r5 s c.name.al) 4 c.name.pos;unfold qR;split
 .omega
 .rw[bI];omega
def alQ{i:Nat}:(r8 s c i).length<=2:=by
 unfold r8;simp only;split
 .rw[bI];have h2:=@rm (!gJ s (c.aj.getD i ⟨[],0⟩).al) 3 (c.aj.getD i ⟨[],0⟩).pos;have h3:=@rm (gJ s (c.aj.getD i ⟨[],0⟩).al&&!r5 s (c.aj.getD i ⟨[],0⟩).al) 4 (c.aj.getD i ⟨[],0⟩).pos;omega
 .exact w7 rm (by omega)
def Uj{m:Nat}:kV s c (m+1)=kV s c m++r8 s c m:=by rw[kV,tV,yN];simp[kV]
def Mt:∀{m:Nat},(kV s c m).length<=2*m
 | 0=>by simp[kV]
 | m + 1 => by
  have h1:=@Mt m;have h2:=@alQ s c m;rw[Uj,bI];omega
def an8{p:au × au}:(pN c p).length<=2:=by
 unfold pN r9;rw[bI];have h1:=@rm (gY (du c.aj) p.1.al).isNone 3 p.1.pos;have h2:=@rm (gY (du c.aj) p.2.al).isNone 3 p.2.pos;omega
def U7{l:List (au × au)}:(l.flatMap (pN c)).length<=2*l.length:=by
 have:=CY (f:=pN c) (m:=2) (l:=l) λ_ _=>an8
 omega
def ani:(qk c).length<=1:=by
 unfold qk;split
 .exact rm
 .simp
def ako:(lZ s c).length<=1:=by unfold lZ;split<;>exact rm
end
structure Rm where
 bytes:Int
 pg:Int
 eZ:Int
def Rm.enc(r:Rm):List V:=[.int .i64 r.bytes,.int .i64 r.pg,.int .i64 r.eZ]
section
variable {r:Rm} {n:Nat} {a b c:V}
theorem Rm.cN:r.enc.length=3:=rfl
theorem Rm.fU:cB r.enc=true:=rfl
theorem Rm.dq:bH r.enc=true:=rfl
theorem Rm.dk:bw r.enc=r.enc:=rfl
theorem Rm.cE:bQ n r.enc=true:=rfl
theorem Rm.fh:takeN 3 r.enc=U r.enc:=rfl
theorem Rm.gN:bD aa 3 r.enc=U (.agg r.enc):=rfl
theorem Rm.gi:bW 3 r.enc=true:=rfl
theorem Rm.fO:over [a,b,c] r.enc=r.enc:=rfl
theorem Rm.r_b:bD ak 1 r.enc=U (.int .i64 r.bytes):=rfl
theorem Rm.M7:bD ak 1 (r.enc.drop 1)=U (.int .i64 r.pg):=rfl
theorem Rm.Eg:bD ak 1 (r.enc.drop 2)=U (.int .i64 r.eZ):=rfl
def Rm.an:=af @Rm.cN <| af @Rm.fU <| af @Rm.dq <| af @Rm.dk <| af @Rm.cE <| af @Rm.fh <| af @Rm.gN <| af @Rm.gi <| af @Rm.fO <| af @Rm.r_b <| af @Rm.M7 @Rm.Eg
end
def tH(op:Int):Bool:=decide (1<=op)&&decide (op<=10)
def vG(op:Int):Bool:=decide (8<=op)&&decide (op<=10)
def km(r:Rm)(c:aq):Bool :=
 (tH c.op&&(decide (1024<((dS c).length:Int))||decide (IntKind.i64.wrap (16383 - (dS c).length)<r.bytes)))||(vG c.op&&decide (64<=r.pg))||(decide (c.op=11)&&decide (16<=r.eZ))
def kS(s:aI)(r:Rm)(c:aq):List aL:=[ku s c,jJ s c]++dK (km r c) 7 c.pos++dK (decide (c.op=12)&&decide (r.eZ<=1)) 8 c.pos
def Rc(f:Int × Int):aL:=⟨f.1,f.2⟩
def lG(s:aI)(r:Rm)(t:List UInt8):aq × eG × aL :=
 if (cV t).2.1≠0 then(.zero,.zero,Rc (cV t).2)
 else if (fS (kS s r (cV t).1)).cls≠0 then(.zero,.zero,fS (kS s r (cV t).1))
 else((cV t).1,if jw s (cV t).1 then lT s (cV t).1 else .zero,.zero)
def jT(Z:Nat)(l:List aL)(s:aI)(c:aq):List V:=[.sl .no 3 (s.bu.map dT.enc),.sl .no 3 (s.vars.map dU.enc),
 .int .i64 c.op,.int .i64 c.pos,.aF c.name.al,.int .i64 c.name.pos,.sl .no 2 (c.aj.map au.enc),.sl .no 4 (c.bh.map e_),.int .i64 c.mC,
 .int .i64 c.left.kind,.int .i64 c.left.pos,.aF c.left.al,.sl .no 2 (c.left.aj.map au.enc),.sl .no 5 (c.left.ah.map Nd.enc),.int .i64 c.right.kind,.int .i64 c.right.pos,.aF c.right.al,.sl .no 2 (c.right.aj.map au.enc),.sl .no 5 (c.right.ah.map Nd.enc),
 .sl (.tk Z) 2 (l.map aL.enc)]
def dX(D:ag)(b Z:Nat)(l:List aL)(s:aI)(c:aq):ag:=(D.set b (jT Z l s c)).aR Z l.length
section
variable {D σ' : ag} {b b' Z υ n:Nat} {l:List aL} {s:aI} {c:aq} {x y:Int} {d:List V}
def LJ:(dX D b Z l s c).box b=U (jT Z l s c):=by simp[dX,ag.set,ag.aR]
def wo(h:b' ≠ b):(dX D b Z l s c).box b' = D.box b' := by simp[dX,ag.set,ag.aR,h]
def Tc:(dX D b Z l s c).aJ Z=U l.length:=by simp[dX,ag.set,ag.aR]
def Tb(h:b' ≠ b):(dX D b Z l s c).set b' d=dX (D.set b' d) b Z l s c:=by
 simp only[dX,ag.set,ag.aR,ag.mk.injEq,gw];funext z
 by_cases h1:z=b'
 .subst h1;simp[h]
 .simp[h1]
def ajs:((dX D b Z l s c).aR Z (l.length+1)).set b ((jT Z l s c).take 19++[.sl (.tk Z) 2 (l.map aL.enc++[[.int .i64 x,.int .i64 y]])])=dX D b Z (l++[⟨x,y⟩]) s c:=by
 simp only[dX,jT,ag.set,ag.aR,ag.mk.injEq,fX,bX,eC,aL.enc,bI,gv,gw];constructor
 .funext z
  by_cases h1:z=b<;>simp[h1]
 .funext z
  by_cases h1:z=Z<;>simp[h1]
def ajt(h:D.box b=ae)(ht:D.aJ Z=ae):D.sub (dX D b Z l s c):=by
 refine⟨λx cs hx=>?_,λt m hm=>?_,λ_ _ h=>h⟩
 .have:x≠b:=by rintro rfl;rw[h] at hx;simp at hx
  rw[wo this];exact hx
 .have:t≠Z:=by rintro rfl;rw[ht] at hm;simp at hm
  simp[dX,ag.set,ag.aR,this];exact hm
def Ta(h:b' ≠ b)(hn:D.box b' = ae):(dX D b Z l s c).sub (dX (D.set b' d) b Z l s c):=by
 refine⟨λx cs hx=>?_,λt m hm=>?_,λ_ _ h=>h⟩
 .by_cases h1:x=b
  .subst h1;rw[LJ] at hx ⊢;exact hx
  .rw[wo h1] at hx ⊢
   have:x≠b' := by rintro rfl;rw[hn] at hx;simp at hx
   simp only[ag.set,this,ck];exact hx
 .simpa [dX,ag.set,ag.aR] using hm
theorem j_f:bD ak 1 ((jT Z l s c).drop 19)=U (.sl (.tk Z) 2 (l.map aL.enc)):=rfl
theorem j_s:takeN 2 (jT Z l s c)=U s.enc:=rfl
theorem j_c:takeN 17 ((jT Z l s c).drop 2)=U c.enc:=rfl
theorem j_l:bD ak 1 (jT Z l s c)=U (.sl .no 3 (s.bu.map dT.enc)):=rfl
theorem j_v:bD ak 1 ((jT Z l s c).drop 1)=U (.sl .no 3 (s.vars.map dU.enc)):=rfl
theorem j_o:bD ak 1 ((jT Z l s c).drop 2)=U (.int .i64 c.op):=rfl
theorem j_p:bD ak 1 ((jT Z l s c).drop 3)=U (.int .i64 c.pos):=rfl
theorem j_t:bD ak 1 ((jT Z l s c).drop 4)=U (.aF c.name.al):=rfl
theorem j_a:bD ak 1 ((jT Z l s c).drop 5)=U (.int .i64 c.name.pos):=rfl
theorem j_n:bD ak 1 ((jT Z l s c).drop 6)=U (.sl .no 2 (c.aj.map au.enc)):=rfl
theorem j_r:bD ak 1 ((jT Z l s c).drop 7)=U (.sl .no 4 (c.bh.map e_)):=rfl
theorem j_q:bD ak 1 ((jT Z l s c).drop 8)=U (.int .i64 c.mC):=rfl
theorem j_h:bW 1 ((jT Z l s c).drop 19)=true:=rfl
theorem j_w{v:V}:setAt (jT Z l s c) 19 [v]=(jT Z l s c).take 19++[v]:=rfl
def j0(s:aI):List V:=[.sl .no 3 (s.bu.map dT.enc),.sl .no 3 (s.vars.map dU.enc),.int .i64 0,.int .i64 0,.aF [],.int .i64 0,.sl .aW 2 [],.sl .aW 4 [],.int .i64 0,.int .i64 0,.int .i64 0,.aF [],.sl .aW 2 [],.sl .aW 5 [],.int .i64 0,.int .i64 0,.aF [],.sl .aW 2 [],.sl .aW 5 [],.sl .aW 2 []]
def jz(s:aI)(c:aq):List V:=(jT 0 [] s c).take 19++[.sl .aW 2 []]
theorem ajd:over [.sl .aW 3 [],.sl .aW 3 [],.int .i64 0,.int .i64 0,.aF [],.int .i64 0,.sl .aW 2 [],.sl .aW 4 [],.int .i64 0,.int .i64 0,.int .i64 0,.aF [],.sl .aW 2 [],.sl .aW 5 [],.int .i64 0,.int .i64 0,.aF [],.sl .aW 2 [],.sl .aW 5 [],.sl .aW 2 []] s.enc=j0 s:=rfl
theorem ajc:bW 17 ((j0 s).drop 2)=true:=rfl
def aje:setAt (j0 s) 2 c.enc=jz s c:=by rw[aq.enc,aq.cM];rfl
theorem aju:(jz s c).length=20:=rfl
theorem ajw:cB (jz s c)=true:=rfl
theorem ajv:bH (jz s c)=true:=rfl
theorem ajx:takeN 20 (jz s c)=U (jz s c):=rfl
def Td:=af @ajd <| af @ajc <| af @aje <| af @aju <| af @ajw <| af @ajv @ajx
def iS:=af @LJ <| af @Tc <| af @j_f <| af @j_s <| af @j_c <| af @j_l <| af @j_v <| af @j_o <| af @j_p <| af @j_t <| af @j_a <| af @j_n <| af @j_r <| af @j_q <| af @j_h @j_w
end
def se(s:aI)(c:aq):bC :=
 if c.op=1 then ⟨ak,[⟨1,du c.aj,.zero⟩]⟩
 else if c.op=2 then ⟨ak,[⟨2,du c.aj,.zero⟩]⟩
 else if c.op=4 then ⟨ak,[⟨3,du c.aj,sd c⟩]⟩
 else if c.op=5 then ⟨ak,[⟨4,du c.aj,sd c⟩]⟩
 else if c.op=3 then pO s c
 else ⟨ak,[]⟩
def au.mp(Y:Int->Int)(w:au):au:=⟨w.al,Y w.pos⟩
mutual
def Nd.mp(Y:Int->Int):Nd->Nd
 | .mk k p t ws ks=>.mk k (Y p) t (ws.map (au.mp Y)) (yh Y ks)
def yh(Y:Int->Int):List Nd->List Nd
 | []=>[]
 | n::ns=>n.mp Y::yh Y ns
end
def aL.mp(Y:Int->Int)(f:aL):aL:=if f.cls=0 then f else ⟨f.cls,Y f.aC⟩
def aq.mp(Y:Int->Int)(c:aq):aq:=⟨c.op,Y c.pos,c.name.mp Y,c.aj.map (au.mp Y),c.bh.map λp=>(p.1.mp Y,p.2.mp Y),Y c.mC,c.left.mp Y,c.right.mp Y⟩
section
variable {Y:Int->Int}
def T7:∀{l:List Nd},yh Y l=l.map (Nd.mp Y)
 | []=>rfl
 | n::ns=>by rw[yh,T7];rfl
def mA(n:Nd):(n.mp Y).kind=n.kind:=by cases n;rw[Nd.mp];rfl
def Ab(n:Nd):(n.mp Y).pos=Y n.pos:=by cases n;rw[Nd.mp];rfl
def mX(n:Nd):(n.mp Y).al=n.al:=by cases n;rw[Nd.mp];rfl
def th(n:Nd):(n.mp Y).aj=n.aj.map (au.mp Y):=by cases n;rw[Nd.mp];rfl
def kU(n:Nd):(n.mp Y).ah=n.ah.map (Nd.mp Y):=by cases n;rw[Nd.mp,<-T7];rfl
variable{w:au}
theorem AE:(w.mp Y).al=w.al:=rfl
theorem AD:(w.mp Y).pos=Y w.pos:=rfl
def Ni{l:List au}:hH (l.map (au.mp Y))=hH l:=by simp[hH,vr,au.mp]
def Tr(n:Nd):(n.mp Y).kl=n.kl:=by simp[Nd.kl,mX,th,kU]
def PK(n:Nd):(n.mp Y).kB=n.kB:=by simp[Nd.kB,mX,th]
def apo(n:Nd):(n.mp Y).o5=n.o5:=by simp[Nd.o5,mA,mX,th,kU,Ni]
def CE{f:Nd->Bool}:∀{l:List Nd},(∀n∈l,f (n.mp Y)=f n)->(l.map (Nd.mp Y)).all f=l.all f
 | [],_=>rfl
 | n::ns,h=>by rw[bX,tR,tR,h n (by simp),CE λm hm=>h m (by simp[hm])]
def Nd.ind{P:Nd->Prop}(h:∀n,(∀m∈n.ah,P m)->P n)(n:Nd):P n:=by
 obtain⟨k,hk⟩:∃k,n.cw<=k:=⟨_,bL _⟩;induction k generalizing n with
 | zero=>have:=Nd.sE n;omega
 | succ k ih=>exact h n λm hm=>ih m (by have:=qG hm;omega)
def Qi(n:Nd):(n.mp Y).il=n.il:=by
 induction n using Nd.ind with
 | h n ih=>simp only[Nd.y8,mA,mX,th,kU,Ni,Tr,PK,aO,CE ih,CE λm _=>apo m]
def Sf{f:Nd->Bool}(h:∀n,f (n.mp Y)=f n):∀{l:List Nd},uF f (l.map (Nd.mp Y))=uF f l
 | []=>rfl
 | n::_=>h n
def G'(n:Nd):(n.mp Y).eU=n.eU:=by
 induction n using Nd.ind with
 | h n ih=>simp only[Nd.s9,mA,kU,Tr,PK,aO,CE ih,Sf Qi]
def YY(n:Nd):(n.mp Y).ph=n.ph:=by simp only[Nd.ph,mA,G']
def adE(n:Nd):(n.mp Y).lr=n.lr:=by simp only[Nd.lr,mA,mX,th,kU,aO,Sf YY]
def aph(n:Nd):(n.mp Y).iW=n.iW:=by simp only[Nd.iW,mA,mX,th,kU,aO,Ni,CE λm _=>adE m,G']
def V2:∀{l m:List au},dt (l.map (au.mp Y)) m=dt l m
 | [],[]=>rfl
 | [],_::_=>rfl
 | _::_,[]=>rfl
 | w::ws,u::us=>by simp only[bX,dt,V2];rfl
def apL(n:Nd):(n.mp Y).cI .zero=n.cI .zero:=by
 simp only[Nd.Aq,mA,mX,th,kU,V2];congr 1;show cX (n.ah.map (Nd.mp Y)) []=cX n.ah [];cases n.ah<;>rfl
def On{l:List au}:du (l.map (au.mp Y))=du l:=by simp[du,vr,au.mp]
def ao8(c:aq):(c.mp Y).fq=c.fq:=by
 have e1:(c.mp Y).aj.map au.al=c.aj.map au.al:=by simp[aq.mp,vr,au.mp]
 have e2:(c.mp Y).mB=c.mB:=rfl;have e3:(c.mp Y).jW=c.jW:=by simp only[aq.jW,e1];simp[aq.mp]
 have e4:(c.mp Y).kW=c.kW:=by simp only[aq.kW];simp[aq.mp,vr,au.mp];rfl
 have e5:(c.mp Y).jA=c.jA:=by simp only[aq.jA];simp only[aq.mp,G',aph,apL]
 simp only[aq.fq,e2,e3,e4,e5];rfl
def MU{l:List (List UInt8)}:∀{ws:List au} {s:bz},gK l s (ws.map (au.mp Y))=((gK l s ws).1,(gK l s ws).2.map Y)
 | [],_=>rfl
 | w :: ws, s => by
  simp only[bX,gK,AE,AD];cases gY l w.al with
  | none=>rfl
  | some k=>exact MU
def VH{f:bn}:∀{ks:List Nd} {s:bz},va f s (ks.map (Nd.mp Y))=((va f s ks).1,(va f s ks).2.map Y)
 | [],_=>rfl
 | k :: ks, s => by
  simp only[bX,va,mX,Ab,th,MU];cases gY f.aj k.al with
  | none=>rfl
  | some o =>
   simp only;cases (gK f.aj 0#64 k.aj).2 with
   | some p=>rfl
   | none=>exact VH
def asR{f:bn}(n:Nd):vn f (n.mp Y)=((vn f n).1,(vn f n).2.map Y):=by
 unfold vn;rw[mA,th,kU,MU,VH,pP,pP,mX,Ab];split
 .split
  .rfl
  .split
   .rfl
   .cases gY f.aj n.al<;>rfl
 .rfl
def zk(h:i<ks.length):(ks.map (Nd.mp Y)).getD i jX=(ks.getD i jX).mp Y:=by simp[gU,h]
def asS{s:bC}(h:i<ks.length):j7 s (ks.map (Nd.mp Y)) i=((j7 s ks i).1,(j7 s ks i).2.map Y):=by
 rw[j7,j7,zk h,asR]
def acH{s:bC}(h:s.bM.length<=ks.length):vK s (ks.map (Nd.mp Y))=((vK s ks).1,(vK s ks).2.map Y):=by
 have e:∀i,i<s.bM.length->j7 s (ks.map (Nd.mp Y)) i=((j7 s ks i).1,(j7 s ks i).2.map Y):=λi hi=>asS (by omega)
 have e1:(cc s.bM.length).find? (λi=>(j7 s (ks.map (Nd.mp Y)) i).2.isSome)=(cc s.bM.length).find? (λi=>(j7 s ks i).2.isSome) :=
  find_congr λi hi=>by rw[e i (by simpa using hi)];simp
 unfold vK;rw[e1];cases hf:(cc s.bM.length).find? (λi=>(j7 s ks i).2.isSome) with
 | some i =>
  have hi:i<s.bM.length:=by simpa using O0 hf
  simp only[e i hi]
 | none =>
  have e2:(λj=>if j<s.bM.length then(j7 s (ks.map (Nd.mp Y)) j).1 else 0#64)=λj=>if j<s.bM.length then(j7 s ks j).1 else 0#64:=funext λj=>by
   split
   .rename_i hj;rw[e j hj]
   .rfl
  simp only[e2];rfl
def JA{s:bC}(n:Nd):im s (n.mp Y)=((im s n).1,(im s n).2.map Y):=by
 have e1:pM s (n.mp Y)=pM s n:=by simp only[pM,mA,kU,aO]
 have e2:jY s (n.mp Y)=(jY s n).map (Nd.mp Y):=by unfold jY;split<;>simp[kU]
 unfold im;rw[e1,Qi];split
 .rename_i h;rw[e2];refine acH ?_;simp only[bA] at h;obtain⟨⟨h1,h2⟩,_⟩:=h;unfold pM at h1;unfold jY;cases ht:s.tuple with
  | true=>rw[ht] at h1;simp only[Bool.not_true,EN,bA,b7] at h1;simp[h1.2]
  | false =>
   simp only[mF,ht,bA,mg,b7,di,false_or] at h2;simp[h2.1.2]
 .simp[Ab]
def ad0{f:aL}:(f.mp Y).cls=f.cls:=by unfold aL.mp;split<;>rfl
def xu{x y:Int}(h:x≠0):(aL.mk x y).mp Y=⟨x,Y y⟩:=by rw[aL.mp,aB (by exact h)]
def vh{b:Bool}{x y:Int}(h:x≠0):dK b x (Y y)=(dK b x y).map (aL.mp Y):=by cases b<;>simp[dK,xu h]
def CZ{O G:Type}{f:O->List aL}{g:G->List aL}{m:O->G}:∀{l:List O},(∀x∈l,g (m x)=(f x).map (aL.mp Y))->(l.map m).flatMap g=(l.flatMap f).map (aL.mp Y)
 | [],_=>rfl
 | x::l,h=>by rw[bX,pY,pY,fX,h x (by simp),CZ λy hy=>h y (by simp[hy])]
def JM{f g:Nat->List aL}:∀{l:List Nat},(∀x∈l,g x=(f x).map (aL.mp Y))->l.flatMap g=(l.flatMap f).map (aL.mp Y)
 | [],_=>rfl
 | x::l,h=>by rw[pY,pY,fX,h x (by simp),JM λy hy=>h y (by simp[hy])]
variable {s:aI} {lat:Int}
def Ij:gR s lat t (Y p) k=(gR s lat t p k).map (aL.mp Y):=by
 unfold gR;cases kb s.vars t with
 | none=>simp only;split<;>simp[xu]
 | some v =>
  simp only;cases s.vars[v]? with
  | none=>rfl
  | some x=>simp only;split<;>simp[xu]
def ajO:gg s (w.mp Y)=(gg s w).map (aL.mp Y):=by
 unfold gg;rw[AE,AD];split
 .split<;>simp[xu]
 .rfl
def acI{n:Nd}(h:0<n.ah.length):vL s lat (n.mp Y)=(vL s lat n).map Y:=by rw[vL,vL,kU,zk h,JA]
def Py(n:Nd):j8 s lat (n.mp Y)=(j8 s lat n).map (aL.mp Y):=by
 unfold j8;rw[mA,mX,Ab,Ij];split
 .rfl
 .split
  .unfold zb;rw[kU,aO];split
   .rename_i h;rw[acI h.1];cases vL s lat n<;>simp[xu]
   .rfl
  .rfl
def ajH(n:Nd):fz s lat (n.mp Y)=(fz s lat n).map (aL.mp Y):=by
 induction n using Nd.ind with
 | h n ih =>
  rw[G_,G_,mA,kU,Py,fX];congr 1;split
  .rfl
  .exact CZ ih
def aq6:((ks.map (Nd.mp Y)).take i).map Nd.al=(ks.take i).map Nd.al:=by
 rw[<-List.map_take,Ct];exact List.map_congr_left λn _=>mX n
def apb(n:Nd):nd s lat (Y p) (n.mp Y)=(nd s lat p n).map (aL.mp Y):=by
 unfold nd;rw[mA,mX,Ab,Ij,kU,th,aO];split
 .rfl
 .split
  .rw[fX,fX];congr 1
   .congr 1
    .refine JM λi hi=>?_
     have hi:i<n.ah.length:=by simpa using hi
     rw[zi,zi,fX,zk hi];congr 1
     .rw[uo,uo,aq6,zk hi,mX,Ab];split<;>simp[xu]
     .rw[kU];exact CZ λm _=>Py m
    .exact CZ λw _=>by rw[AE,AD,Ij]
   .split<;>simp[xu]
  .rfl
def aaF:qF s (c.mp Y)=(qF s c).map (aL.mp Y):=by
 have e:cJ s (c.mp Y)=cJ s c:=rfl;unfold qF;rw[e];simp only[aq.mp,AE,AD,Ij,ajO,ajH,apb];have hd:xm (c.right.mp Y)=(xm c.right).map (aL.mp Y):=by unfold xm;rw[mA,Ab];split<;>simp[xu]
 rw[hd]
 repeat' split
 all_goals simp only[fX,eC]
def ao0:sd (c.mp Y)=sd c:=by
 rw[sd,sd]
 have:(c.mp Y).bh.map (HG (du (c.mp Y).aj))=c.bh.map (HG (du c.aj)):=by
  simp only[aq.mp,On,Ct];rfl
 rw[this];simp only[aq.mp,aO]
def an_:pO s (c.mp Y)=pO s c:=by
 rw[pO,pO];congr 1;simp only[aq.mp,List.flatMap_map];rfl
def apQ:vb s (c.mp Y)=(vb s c).map (aL.mp Y):=by
 have h1:qR s (c.mp Y)=(qR s c).map (aL.mp Y):=by
  show(if lY c.op then dK (gJ s c.name.al) 3 (Y c.name.pos) else dK (!gJ s c.name.al) 3 (Y c.name.pos)++dK (gJ s c.name.al&&!r5 s c.name.al) 4 (Y c.name.pos))=_;unfold qR
  by_cases h:lY c.op=aa
  .rw[aD h,aD h];exact vh (by decide)
  .rw[aB h,aB h,fX,vh (by decide),vh (by decide)]
 have h2:∀i,i<c.aj.length->r8 s (c.mp Y) i=(r8 s c i).map (aL.mp Y):=λi hi=>by
  have e:(c.mp Y).aj.getD i ⟨[],0⟩=(c.aj.getD i ⟨[],0⟩).mp Y:=by simp[aq.mp,gU,hi]
  have e1:du (c.mp Y).aj=du c.aj:=On;have e2:(c.mp Y).op=c.op:=rfl;unfold r8;rw[e,e1,e2];simp only[AE,AD];split
  .rw[fX,vh (by decide),vh (by decide)]
  .exact vh (by decide)
 have h3:sc (c.mp Y)=(sc c).map (aL.mp Y):=by
  have e1:du (c.mp Y).aj=du c.aj:=On;refine CZ (l:=c.bh) (f:=pN c) (g:=pN (c.mp Y)) λp _=>?_
  rw[pN,pN,r9,r9,r9,r9,e1,fX,AE,AD,AE,AD,vh (by decide),vh (by decide)]
 have h4:qk (c.mp Y)=(qk c).map (aL.mp Y):=by
  unfold qk;rw[ao0];simp only[aq.mp,aO];split
  .exact vh (by decide)
  .rfl
 have h5:lZ s (c.mp Y)=(lZ s c).map (aL.mp Y):=by
  unfold lZ;rw[an_];simp only[aq.mp,aO];split<;>exact vh (by decide)
 have hn:(c.mp Y).aj.length=c.aj.length:=by simp[aq.mp]
 rw[vb,vb,h1,h3,h4,h5,hn,kV,kV,JM (f:=r8 s c) λi hi=>h2 i (by simpa using hi)];simp only[fX]
def L0{l:List aL}:(fS l).cls=0↔∀f∈l,f.cls=0 :=
 ⟨λh=>(L1 h).2,λh=>by rw[Tu h];rfl⟩
def Tt{l:List aL}:(fS (l.map (aL.mp Y))).cls=0↔(fS l).cls=0:=by
 rw[L0,L0];simp[ad0]
def Px{lat:Nat}{n:Nd}(h:n.kind=1\/0<n.ah.length):qD s lat (n.mp Y)=qD s lat n:=by
 unfold qD;rw[mA,mX,kU];split
 .rfl
 .rename_i h1;rw[zk (h.resolve_left h1),JA]
def aka{lat:Nat}{n:Nd}(h:n.kind=1\/0<n.ah.length):mW s lat (n.mp Y)=mW s lat n:=by
 unfold mW;rw[mA,mX,kU];split
 .rfl
 .rename_i h1;rw[zk (h.resolve_left h1),JA];simp only;cases (im (vf s lat) (n.ah.getD 0 jX)).2<;>rfl
def Qg{lat:Nat}:∀{l:List Nd},(∀m∈l,mQ s lat (m.mp Y)=mQ s lat m)->p8 s lat (l.map (Nd.mp Y))=p8 s lat l
 | [],_=>rfl
 | n::ns,h=>by rw[bX,p8,p8,h n (by simp),Qg λm hm=>h m (by simp[hm])]
def aaQ{lat:Nat}(n:Nd):n.eU=aa->mQ s lat (n.mp Y)=mQ s lat n:=by
 induction n using Nd.ind with
 | h n ih =>
  intro hq;rw[Jr,Jr,mA,kU];have ho:r_ (n.mp Y)=r_ n:=by simp only[r_,mA,kU,aO]
  rw[ho];split
  .rename_i h;rw[aka ?_]
   rcases h with h | h
   .exact .inl h
   .exact .inr (by rw[DQ hq h];omega)
  .rename_i h;rw[Qg λm hm=>ih m hm (Tf hq h m hm)]
def VF{lat:Nat}{n:Nd}(h:∀k∈n.ah,0<k.ah.length/\∀a∈k.ah,a.kind=1\/0<a.ah.length):ma s lat (n.mp Y)=ma s lat n:=by
 unfold ma;rw[mA,mX,kU,th,Ct];have e1:n.ah.map (uv s lat∘Nd.mp Y)=n.ah.map (uv s lat):=List.map_congr_left λk hk=>by
  obtain⟨h1,h2⟩:=h k hk;show uv s lat (k.mp Y)=_;rw[uv,uv,mX,kU,zk h1,Px]
  have:k.ah.getD 0 jX∈k.ah:=by rw[qM h1];exact fu _
  exact h2 _ this
 have e2:Aw s (n.aj.map (au.mp Y))=Aw s n.aj:=by cases n.aj<;>rfl
 rw[e1,e2]
end
def aks{r:Rm}(h:km r c=aa):c.op≠12:=λe=>by
 simp[km,tH,vG,e] at h
def Hk{s:aI}{r:Rm}{t:List UInt8}(h:(cV t).2.1≠0):lG s r t=(.zero,.zero,Rc (cV t).2):=by rw[lG,aD h]
def Hl{s:aI}{r:Rm}{t:List UInt8}(h:(cV t).2.1=0)(h' : (fS (kS s r (cV t).1)).cls≠0):lG s r t=(.zero,.zero,fS (kS s r (cV t).1)):=by rw[lG,aB (by simpa using h),aD h']
def DY{s:aI}{r:Rm}{t:List UInt8}(h:(cV t).2.1=0)(h' : (fS (kS s r (cV t).1)).cls=0):lG s r t=((cV t).1,if jw s (cV t).1 then lT s (cV t).1 else .zero,.zero):=by
 rw[lG,aB (by simpa using h),aB (by simpa using h')]
def lS{G:Type}(f:G->G->Bool):List G->List G->Bool
 | [],[]=>aa
 | x::xs,y::ys=>f x y&&lS f xs ys
 | _,_=>ak
def I0:∀a b:List Nd,lS Nd.cI a b=cX a b
 | [],[]=>by simp[lS,cX]
 | [],_::_=>by simp[lS,cX]
 | _::_,[]=>by simp[lS,cX]
 | x::xs,y::ys=>by simp[lS,cX,I0 xs ys]
def o8(a b:au):Bool:=decide (a.al=b.al)
def IZ:∀a b:List au,lS o8 a b=dt a b
 | [],[]=>rfl
 | [],_::_=>rfl
 | _::_,[]=>rfl
 | x::xs,y::ys=>by simp[lS,dt,o8,IZ xs ys]
def at_(pre us:List ar)(fin:Int)(k:Nat):ab:=⟨pre++us,((pre.length+k:Nat):Int),fin,ae⟩
variable{post pre:List ar}
def nj{t:ar}{fin:Int}:(at_ pre (t::post) fin 0).bR k=decide (t.tok.kind=k):=by
 simp[at_,ab.bR,ab.ok,bx]
def Wb{fin:Int}:(at_ pre [] fin 0).bR k=false:=by
 simp[at_,ab.bR,ab.ok,bx]
def mI{t:ar}{fin:Int}(h:t.tok.kind=k):(at_ pre (t::post) fin 0).take k=(t,at_ (pre++[t]) post fin 0):=by
 have hs:=nj (pre:=pre) (post:=post) (t:=t) (fin:=fin) (k:=k);rw[aP h] at hs;rw[ab.take,aD hs];simp[at_]
def rr(one:Nat->ab->G × ab)(sm:G->G->Bool)(x:G)(sh:List Sh):Prop :=
 ∀toks:List Tok,toks.map Tok.sh=sh->∃us:List ar,us≠[]/\bj us=toks/\fe us /\
  ∀N,a9 us<=N->∀(pre post:List ar) (fin:Int),∃y,one N (at_ pre (us++post) fin 0)=(y,at_ (pre++us) post fin 0)/\sm y x=aa
variable{toks:List Tok}
def Em(h:toks.map Tok.sh=[fA t]):∃p,toks=[⟨97,t,p⟩]:=by
 match toks,h with
 | [⟨k, s, p⟩], h =>
  simp[Tok.sh,fA] at h;exact⟨p,by rw[h.1,h.2]⟩
def tG{c:UInt8}(h:toks.map Tok.sh=[bE c]):∃p,toks=[⟨(c.toNat:Nat),[c],p⟩]:=by
 match toks,h with
 | [⟨k, s, p⟩], h =>
  simp[Tok.sh,bE] at h;exact⟨p,by rw[h.1,h.2]⟩
def uR{t:Tok}(h1:closing t.kind=0)(h2:kG t.kind=ak):bj [.mk t [] t.pos]=[t]/\fe [.mk t [] t.pos]:=by
 refine⟨by simp[bj,ar.flat,h1],?_⟩;simp[fe,ar.WF,h2]
def wT(w:au):rr (λ_=>ab.word) o8 w [fA w.al]:=by
 intro toks h;obtain⟨p,rfl⟩:=Em h;obtain⟨f1,f2⟩:=uR (t:=⟨97,w.al,p⟩) rfl rfl;refine⟨_,by simp,f1,f2,λN _ pre post fin=>⟨⟨w.al,p⟩,?_,by simp[o8]⟩⟩
 have:=mI (pre:=pre) (post:=post) (t:=.mk ⟨97,w.al,p⟩ [] p) (fin:=fin) (k:=97) rfl
 simp only[mN,ab.word,this];rfl
def tF{m n:Nd}(k:m.kind=n.kind)(t:m.al=n.al)(w:dt m.aj n.aj=aa)(s:cX m.ah n.ah=aa):m.cI n=true:=by
 rw[Nd.Aq,aP k,aP t,w,s];rfl
def LZ{n:Nd}(hk:n.kind=k)(h:n.kl=aa):rr (λ_=>ab.leaf k) Nd.cI n [fA n.al]:=by
 intro toks ht;obtain⟨us,h1,h2,h3,h4⟩:=wT ⟨n.al,0⟩ toks ht;refine⟨us,h1,h2,h3,λN hN pre post fin=>?_⟩;obtain⟨y,e1,e2⟩:=h4 N hN pre post fin;refine⟨.mk k y.pos y.al [] [],by simp only[ab.leaf,e1],?_⟩;simp only[Nd.kl,bA,b7] at h;have hn:n.aj=[]:=jq.1 (by omega);have fM:n.ah=[]:=jq.1 (by omega);simp only[o8,b7] at e2;exact tF hk.symm e2 (show dt [] n.aj=aa by rw[hn];rfl) (show cX [] n.ah=aa by rw[fM];simp[cX])
def E8(post:List ar):Prop:=∀t r,post=t::r->t.tok.kind≠44
def alU{fin:Int}(h:E8 post):(at_ pre post fin 0).bR 44=false:=by
 cases post with
 | nil=>exact Wb
 | cons t r=>rw[nj];exact aK (h t r rfl)
section
variable {G:Type} {one:Nat->ab->G × ab} {sm:G->G->Bool} {S:G->List Sh}
def Rx:∀(xs:List G),(∀x∈xs,rr one sm x (S x))->∀toks:List Tok,toks.map Tok.sh=(xs.map S).flatMap (λy=>bE 44::y) ->
 ∃us:List ar,bj us=toks/\fe us/\xs.length<=us.length/\∀N,a9 us<=N->∀(pre post:List ar) (fin:Int) (n:Nat) (acc:List G),xs.length<=n->E8 post ->
  ∃ys,iG (b_ (one N)) n (at_ pre (us++post) fin 0,acc)=(at_ (pre++us) post fin 0,acc++ys)/\lS sm ys xs=aa
 | [], _, toks, ht => by
  have:toks=[]:=by simpa using ht
  subst this;refine⟨[],rfl,trivial,by simp,λN _ pre post fin n acc _ hp=>⟨[],?_,rfl⟩⟩;cases n with
  | zero=>simp[iG]
  | succ n=>rw[iG];simp[alU hp]
 | x :: xs, h, toks, ht => by
  simp only[bX,pY] at ht;obtain⟨t1,t3,rfl,h1,h3⟩:=jb.1 ht;obtain⟨tc,t2,rfl,hc,h2⟩:=jb.1 (show t1.map Tok.sh=[bE 44]++S x from h1);obtain⟨p,rfl⟩:=tG hc;obtain⟨f1,f2⟩:=uR (t:=⟨((44:UInt8).toNat:Nat),[44],p⟩) rfl rfl;obtain⟨ux,n1,e1,w1,b1⟩:=h x (by simp) t2 h2;obtain⟨us,e2,w2,l2,b2⟩:=Rx xs (λy hy=>h y (by simp[hy])) t3 h3;generalize hT:(ar.mk ⟨((44:UInt8).toNat:Nat),[44],p⟩ [] p)=T at f1 f2;have hk:T.tok.kind=44:=by rw[<-hT];rfl
  refine⟨[T]++ux++us,?_,?_,?_,?_⟩
  .rw[g_,g_,e1,e2,<-f1,<-hT]
  .rw[jH,jH];exact⟨⟨by rw[<-hT] at f2 ⊢;exact f2,w1⟩,w2⟩
  .simp only[bI,db,ei];omega
  .intro N hN pre post fin n acc hn hp;simp only[r7] at hN;obtain⟨n,rfl⟩:∃m,n=m+1:=⟨n - 1,by simp at hn;omega⟩;obtain⟨y,q1,q2⟩:=b1 N (by omega) (pre++[T]) (us++post) fin;obtain⟨ys,q3,q4⟩:=b2 N (by omega) (pre++[T]++ux) post fin n (acc++[y]) (by simp at hn;omega) hp;refine⟨y::ys,?_,by simp[lS,q2,q4]⟩;have es:[T]++ux++us++post=T::(ux++(us++post)):=by simp
   rw[es,iG];simp only[nj,hk,bS,cC];rw[mI hk];simp only[b_,q1];rw[show pre++([T]++ux++us)=pre++[T]++ux++us by simp,q3];simp
def Ww{x:G}{xs:List G}(h:∀y∈x::xs,rr one sm y (S y))(ht:toks.map Tok.sh=ep ((x::xs).map S)):
 ∃us:List ar,us≠[]/\bj us=toks/\fe us/\∀N,a9 us<=N->∀(pre post:List ar) (fin:Int),E8 post ->
  ∃ys,dJ (b_ (one N)) (at_ pre (us++post) fin 0)=(at_ (pre++us) post fin 0,ys)/\lS sm ys (x::xs)=true:=by
 simp only[bX,ep] at ht;obtain⟨t1,t2,rfl,h1,h2⟩:=jb.1 ht;obtain⟨ux,n1,e1,w1,b1⟩:=h x (by simp) t1 h1;obtain⟨us,e2,w2,l2,b2⟩:=Rx xs (λy hy=>h y (by simp[hy])) t2 h2;refine⟨ux++us,by simp[n1],by rw[g_,e1,e2],by rw[jH];exact⟨w1,w2⟩,λN hN pre post fin hp=>?_⟩;rw[r7] at hN;obtain⟨y,q1,q2⟩:=b1 N (by omega) pre (us++post) fin;obtain⟨ys,q3,q4⟩:=b2 N (by omega) (pre++ux) post fin (at_ pre (ux++us++post) fin 0).l.length [y] (by simp[at_];omega) hp;refine⟨y::ys,?_,by simp[lS,q2,q4]⟩;unfold dJ;simp only[b_,dZ] at q1 q3 ⊢;rw[q1];simp only[fY];rw[q3];simp
def aqj{a:UInt8}(h:closing (a.toNat:Nat)=(b.toNat:Nat)):[UInt8.ofNat (closing (a.toNat:Nat)).toNat]=[b]:=by rw[h];simp
def Ja{a:UInt8}{xs:List G}(xB:closing (a.toNat:Nat)=(b.toNat:Nat))(De:(b.toNat:Int)≠0)(hca:kG (a.toNat:Nat)=ak)(h:∀y∈xs,rr one sm y (S y))(he:xs=[]->e=aa)
 (ht:toks.map Tok.sh=[bE a]++ep (xs.map S)++[bE b]) :
 ∃T:ar,bj [T]=toks/\fe [T]/\T.tok.kind=(a.toNat:Nat)/\∀N,a9 [T]<=N+1->∀(pre post:List ar) (fin:Int),
  ∃ys p,(at_ pre (T::post) fin 0).bracket (b_ (one N)) (a.toNat:Nat) e=((ys,p),at_ (pre++[T]) post fin 0)/\lS sm ys xs=true:=by
 obtain⟨t1,t3,rfl,h1,h3⟩:=jb.1 ht;obtain⟨ta,t2,rfl,ha,h2⟩:=jb.1 h1;obtain⟨pa,rfl⟩:=tG ha;obtain⟨pb,rfl⟩:=tG h3;have R_:closing (a.toNat:Nat)≠0:=by rw[xB];exact De
 have key:∃us:List ar,bj us=t2/\fe us/\∀N,a9 us<=N->∀(T:ar),T.ah=us->∃ys,ab.inside (b_ (one N)) e T=(at_ us [] T.fin 0,ys)/\lS sm ys xs=true:=by
  cases xs with
  | nil =>
   have:t2=[]:=by simpa [ep] using h2
   subst this;refine⟨[],rfl,trivial,λN _ T hT=>⟨[],?_,rfl⟩⟩;rw[ab.inside,aD ⟨he rfl,by rw[hT];rfl⟩];simp[ar.inner,at_,hT]
  | cons x xs =>
   obtain⟨us,n1,e1,w1,b1⟩:=Ww h h2;refine⟨us,e1,w1,λN hN T hT=>?_⟩;obtain⟨ys,q1,q2⟩:=b1 N hN [] [] T.fin (λt r h=>by simp at h);refine⟨ys,?_,q2⟩;rw[ab.inside,aB (λh=>n1 (by rw[<-hT];exact jq.1 h.2))]
   have:T.inner=at_ [] (us++[]) T.fin 0:=by simp[ar.inner,at_,hT]
   rw[this,q1];simp
 obtain⟨us,e1,w1,b1⟩:=key;refine⟨.mk ⟨(a.toNat:Nat),[a],pa⟩ us pb,?_,?_,rfl,?_⟩
 .simp only[bj,ar.flat,eg];rw[aD R_,e1,aqj xB,xB];simp
 .simp only[fe,ar.WF];exact⟨⟨hca,λh=>absurd h R_,w1⟩,trivial⟩
 .intro N hN pre post fin;obtain⟨ys,q1,q2⟩:=b1 N (by simp only[a9,ar.many] at hN;omega) (.mk ⟨(a.toNat:Nat),[a],pa⟩ us pb) rfl;refine⟨ys,pa,?_,q2⟩;unfold ab.bracket;rw[mI (t:=.mk ⟨(a.toNat:Nat),[a],pa⟩ us pb) (k:=(a.toNat:Nat)) rfl];simp only[q1];have b9:(at_ (pre++[ar.mk ⟨(a.toNat:Nat),[a],pa⟩ us pb]) post fin 0).ok=true:=rfl;rw[aD b9];have gH:(at_ us [] pb 0).close=at_ us [] pb 0:=by unfold ab.close;rw[aB];simp[at_]
  simp only[ab.under,ar.fin,gH,ar.tok];rfl
end
def aib{s:Sh}{r:List Sh}(h0:us≠[])(h:(bj us).map Tok.sh=s::r):∃t ts,us=t::ts/\t.tok.kind=s.1:=by
 cases us with
 | nil=>exact absurd rfl h0
 | cons t ts =>
  refine⟨t,ts,rfl,?_⟩;have e:bj (t::ts)=bj [t]++bj ts:=g_ [t] ts;rw[e,F5] at h;simp only[gE,bX,gu] at h;rw[<-h.1];rfl
def yr{fin:Int}{s:Sh}{r:List Sh}(h0:us≠[])(hf:bj us=toks)(h:toks.map Tok.sh=s::r):(at_ pre (us++post) fin 0).bR k=decide (s.1=k):=by
 obtain⟨t,ts,rfl,hk⟩:=aib h0 (by rw[hf];exact h);rw[gE,nj,hk]
def Aa(h:us≠[]):1<=a9 us:=by
 cases us with
 | nil=>exact absurd rfl h
 | cons t ts=>simp only[a9];omega
def B3{c:UInt8}(h:(decide (closing (c.toNat:Nat)=0)&&!kG (c.toNat:Nat))=aa)(ht:toks.map Tok.sh=[bE c]):∃T:ar,bj [T]=toks/\fe [T]/\T.tok.kind=(c.toNat:Nat):=by
 simp only[bA,b7,tP] at h;obtain⟨p,rfl⟩:=tG ht;obtain⟨f1,f2⟩:=uR (t:=⟨(c.toNat:Nat),[c],p⟩) h.1 h.2;exact⟨_,f1,f2,rfl⟩
def Xc(ht:toks.map Tok.sh=[bE 123]++k_ ws++[bE 125]):
 ∃T:ar,bj [T]=toks/\fe [T]/\T.tok.kind=123/\∀(pre post:List ar) (fin:Int),∃ys p,(at_ pre (T::post) fin 0).words aa=((ys,p),at_ (pre++[T]) post fin 0)/\dt ys ws=true:=by
 obtain⟨T,h1,h2,h3,h4⟩:=Ja (one:=λ_=>ab.word) (sm:=o8) (S:=λw=>[fA w.al]) (a:=123) (b:=125) (e:=true) (xs:=ws) (by decide) (by decide) (by decide) (λw _=>wT w) (λ_=>rfl) ht;refine⟨T,h1,h2,h3,λpre post fin=>?_⟩;obtain⟨ys,p,q1,q2⟩:=h4 (a9 [T]) (by omega) pre post fin;rw[IZ] at q2;exact⟨ys,p,q1,q2⟩
def Hv{one:Nat->ab->Nd × ab}{a:UInt8}(xB:(decide (closing (a.toNat:Nat)=(b.toNat:Nat))&&decide ((b.toNat:Int)≠0)&&!kG (a.toNat:Nat))=aa)(h:∀y∈ks,rr one Nd.cI y y.gj)(he:ks=[]->e=aa)
 (ht:toks.map Tok.sh=[bE a]++ep (gk ks)++[bE b]) :
 ∃T:ar,bj [T]=toks/\fe [T]/\T.tok.kind=(a.toNat:Nat)/\∀N,a9 [T]<=N+1->∀(pre post:List ar) (fin:Int),
  ∃ys p,(at_ pre (T::post) fin 0).nodes (one N) (a.toNat:Nat) e=((ys,p),at_ (pre++[T]) post fin 0)/\cX ys ks=true:=by
 simp only[bA,b7,tP] at xB;rw[Eo] at ht;obtain⟨T,h1,h2,h3,h4⟩:=Ja (one:=one) (sm:=Nd.cI) (S:=Nd.gj) (e:=e) xB.1.1 xB.1.2 xB.2 h he ht;refine⟨T,h1,h2,h3,λN hN pre post fin=>?_⟩;obtain⟨ys,p,q1,q2⟩:=h4 N hN pre post fin;rw[I0] at q2;exact⟨ys,p,q1,q2⟩
def apr{n:Nd}(h:n.o5=aa):rr (λ_=>ab.ng) Nd.cI n n.gj:=by
 obtain⟨k,h1,h2,h3⟩:=VJ h;intro toks ht;have e:n.gj=[fA n.al]++[bE 58]++([bE 123]++k_ n.aj++[bE 125]):=by rw[Nd.j5,k];rfl
 rw[e] at ht;obtain⟨t1,t3,rfl,a1,a3⟩:=jb.1 ht;obtain⟨tw,tc,rfl,aw,ac⟩:=jb.1 a1;obtain⟨uw,n1,f1,w1,b1⟩:=wT ⟨n.al,0⟩ tw aw;obtain⟨C,f2,w2,c2⟩:=B3 (by decide) ac;obtain⟨T,f3,w3,c3,b3⟩:=Xc a3;refine⟨uw++[C]++[T],by simp,by rw[g_,g_,f1,f2,f3],by rw[jH,jH];exact⟨⟨w1,w2⟩,w3⟩,λN hN pre post fin=>?_⟩;obtain⟨y,q1,q2⟩:=b1 (a9 uw) (bL _) pre ([C]++[T]++post) fin;obtain⟨ys,p,q3,q4⟩:=b3 (pre++uw++[C]) post fin;have q5:=mI (pre:=pre++uw) (post:=[T]++post) (t:=C) (fin:=fin) (k:=58) c2;refine⟨.mk 6 y.pos y.al ys [],?_,?_⟩
 .have es:uw++[C]++[T]++post=uw++([C]++[T]++post):=by simp
  have tA : (at_ pre (uw++([C]++[T]++post)) fin 0).word=(y,at_ (pre++uw) ([C]++[T]++post) fin 0):=q1;have M0 : (at_ (pre++uw) ([C]++[T]++post) fin 0).take 58=(C,at_ (pre++uw++[C]) (T::post) fin 0):=q5;simp only[es,ab.ng,tA,M0,q3];simp
 .simp only[o8,b7] at q2;exact tF k.symm q2 q4 (show cX [] n.ah=aa by rw[h3];simp[cX])
def aaV:∀(k:Nat) (n:Nd),n.wt<=k->n.il=aa->rr ab.constant Nd.cI n n.gj:=by
 intro k;induction k with
 | zero=>intro n h _;cases n;simp only[Nd.wt] at h;omega
 | succ k ih =>
  intro n hk h toks ht
  rcases Qm h with ⟨h1,h2⟩ | ⟨h1,h2,h3,h4⟩ | ⟨h1,h2,h3,h4,h5⟩ | ⟨h1,h2,h3,h4⟩
  .have e:n.gj=[fA n.al]:=by rw[Nd.j5,h1];rfl
   rw[e] at ht;obtain⟨us,n1,f1,w1,b1⟩:=LZ h1 h2 toks ht;refine⟨us,n1,f1,w1,λN hN pre post fin=>?_⟩;have hp:=Aa n1;obtain⟨N,rfl⟩:∃m,N=m+1:=⟨N - 1,by omega⟩;obtain⟨y,q1,q2⟩:=b1 _ hN pre post fin;refine⟨y,?_,q2⟩;have s1:=yr (pre:=pre) (post:=post) (fin:=fin) (k:=123) n1 f1 ht;have s2:=yr (pre:=pre) (post:=post) (fin:=fin) (k:=40) n1 f1 ht;have s3:=yr (pre:=pre) (post:=post) (fin:=fin) (k:=91) n1 f1 ht;rw[ab.constant,s1,s2,s3];exact q1
  .have e:n.gj=[bE 123]++k_ n.aj++[bE 125]:=by rw[Nd.j5,h1];rfl
   rw[e] at ht;obtain⟨T,f1,w1,c1,b1⟩:=Xc ht;refine⟨[T],by simp,f1,w1,λN hN pre post fin=>?_⟩;have hp:=Aa (us:=[T]) (by simp);obtain⟨N,rfl⟩:∃m,N=m+1:=⟨N - 1,by omega⟩;obtain⟨ys,p,q1,q2⟩:=b1 pre post fin;refine⟨.mk 3 p [] ys [],?_,tF h1.symm h2.symm q2 (show cX [] n.ah=aa by rw[h4];simp[cX])⟩;rw[mN,ab.constant,aD (by rw[nj,c1];rfl),q1]
  .have e:n.gj=[bE 40]++ep (gk n.ah)++[bE 41]:=by rw[Nd.j5,h1];rfl
   rw[e] at ht;obtain⟨T,f1,w1,c1,b1⟩:=Hv (one:=ab.constant) (e:=false) (by decide) (λm hm=>ih m (by have:=G8 hm;omega) (h5 m hm)) (λh=>absurd h h4) ht;refine⟨[T],by simp,f1,w1,λN hN pre post fin=>?_⟩;have hp:=Aa (us:=[T]) (by simp);obtain⟨N,rfl⟩:∃m,N=m+1:=⟨N - 1,by omega⟩;obtain⟨ys,p,q1,q2⟩:=b1 N hN pre post fin;refine⟨.mk 4 p [] [] ys,?_,tF h1.symm h2.symm (show dt [] n.aj=aa by rw[h3];rfl) q2⟩;have tA : (at_ pre (T::post) fin 0).nodes (ab.constant N) 40 ak=((ys,p),at_ (pre++[T]) post fin 0):=q1;rw[mN,ab.constant,aB (by rw[nj,c1];decide),aD (by rw[nj,c1];rfl),tA]
  .have e:n.gj=[bE 91]++ep (gk n.ah)++[bE 93]:=by rw[Nd.j5,h1];rfl
   rw[e] at ht;obtain⟨T,f1,w1,c1,b1⟩:=Hv (one:=λ_=>ab.ng) (e:=true) (by decide) (λm hm=>apr (h4 m hm)) (λ_=>rfl) ht;refine⟨[T],by simp,f1,w1,λN hN pre post fin=>?_⟩;have hp:=Aa (us:=[T]) (by simp);obtain⟨N,rfl⟩:∃m,N=m+1:=⟨N - 1,by omega⟩;obtain⟨ys,p,q1,q2⟩:=b1 N hN pre post fin;refine⟨.mk 5 p [] [] ys,?_,tF h1.symm h2.symm (show dt [] n.aj=aa by rw[h3];rfl) q2⟩;have tA : (at_ pre (T::post) fin 0).nodes ab.ng 91 aa=((ys,p),at_ (pre++[T]) post fin 0):=q1;rw[mN,ab.constant,aB (by rw[nj,c1];decide),aB (by rw[nj,c1];decide),aD (by rw[nj,c1];rfl),tA]
def Pz{n:Nd}(h:n.eU=aa)(hk:n.kind=1\/n.kind=7):rr ab.atom Nd.cI n n.gj:=by
 intro toks ht
 rcases DT h with ⟨h1,h2⟩ | ⟨h1,h2,h3,c,h4,h5⟩ | ⟨h1,_⟩
 .have e:n.gj=[fA n.al]:=by rw[Nd.j5,h1];rfl
  rw[e] at ht;obtain⟨us,n1,f1,w1,b1⟩:=LZ h1 h2 toks ht;refine⟨us,n1,f1,w1,λN hN pre post fin=>?_⟩;obtain⟨y,q1,q2⟩:=b1 _ hN pre post fin;refine⟨y,?_,q2⟩;have s1:=yr (pre:=pre) (post:=post) (fin:=fin) (k:=35) n1 f1 ht;rw[ab.atom,s1];exact q1
 .have e:n.gj=[bE 35]++c.gj:=by rw[Nd.j5,h1,h4];rfl
  rw[e] at ht;obtain⟨t1,t2,rfl,a1,a2⟩:=jb.1 ht;obtain⟨C,f2,w2,c2⟩:=B3 (by decide) a1;obtain⟨us,n1,f1,w1,b1⟩:=aaV _ c (bL _) h5 t2 a2;refine⟨[C]++us,by simp,by rw[g_,f1,f2],by rw[jH];exact⟨w2,w1⟩,λN hN pre post fin=>?_⟩;rw[r7] at hN;obtain⟨y,q1,q2⟩:=b1 N (by omega) (pre++[C]) post fin;have q5:=mI (pre:=pre) (post:=us++post) (t:=C) (fin:=fin) (k:=35) c2;refine⟨.mk 7 C.tok.pos [] [] [y],?_,tF h1.symm h2.symm (show dt [] n.aj=aa by rw[h3];rfl) (show cX [y] n.ah=aa by rw[h4];simp[cX,q2])⟩;rw[dZ,mN,ab.atom,aD (by rw[nj,c2];rfl),q5];simp only[q1];simp
 .omega
def ajI:∀(k:Nat) (n:Nd),n.wt<=k->n.eU=aa->rr ab.label Nd.cI n n.gj:=by
 intro k;induction k with
 | zero=>intro n h _;cases n;simp only[Nd.wt] at h;omega
 | succ k ih =>
  intro n hk h toks ht
  by_cases fp:n.kind=1\/n.kind=7
  .obtain⟨us,n1,f1,w1,b1⟩:=Pz h fp toks ht;refine⟨us,n1,f1,w1,λN hN pre post fin=>?_⟩;have hp:=Aa n1;obtain⟨N,rfl⟩:∃m,N=m+1:=⟨N - 1,by omega⟩;obtain⟨y,q1,q2⟩:=b1 _ hN pre post fin;refine⟨y,?_,q2⟩;obtain⟨s,r,hs,vT,xA⟩:∃s r,toks.map Tok.sh=s::r/\s.1≠43/\s.1≠38:=by
    rw[ht,Nd.j5]
    rcases fp with e | e<;>rw[e]
    .exact⟨_,_,rfl,(by decide:(97:Int)≠43),(by decide:(97:Int)≠38)⟩
    .exact⟨_,_,rfl,(by decide:(35:Int)≠43),(by decide:(35:Int)≠38)⟩
   have s1:=yr (pre:=pre) (post:=post) (fin:=fin) (k:=43) n1 f1 hs;have s2:=yr (pre:=pre) (post:=post) (fin:=fin) (k:=38) n1 f1 hs;rw[aK vT] at s1;rw[aK xA] at s2;rw[ab.label,s1,s2];exact q1
  .rcases DT h with ⟨h1,_⟩ | ⟨h1,_⟩ | ⟨h1,h2,h3,h4,h5⟩
   .omega
   .omega
   have rN:=λm hm=>ih m (by have:=G8 hm;omega) (h5 m hm)
   rcases h1 with h1 | h1
   .have e:n.gj=[bE 43]++([bE 40]++ep (gk n.ah)++[bE 41]):=by rw[Nd.j5,h1];rfl
    rw[e] at ht;obtain⟨t1,t2,rfl,a1,a2⟩:=jb.1 ht;obtain⟨C,f2,w2,c2⟩:=B3 (by decide) a1;obtain⟨T,f1,w1,c1,b1⟩:=Hv (one:=ab.label) (e:=false) (by decide) rN (λh=>absurd h h4) a2;refine⟨[C]++[T],by simp,by rw[g_,f1,f2],by rw[jH];exact⟨w2,w1⟩,λN hN pre post fin=>?_⟩;rw[r7] at hN;have hp:=Aa (us:=[C]) (by simp);obtain⟨N,rfl⟩:∃m,N=m+1:=⟨N - 1,by omega⟩;obtain⟨ys,p,q1,q2⟩:=b1 N (by omega) (pre++[C]) post fin;have q5:=mI (pre:=pre) (post:=T::post) (t:=C) (fin:=fin) (k:=43) c2;refine⟨.mk 8 C.tok.pos [] [] ys,?_,tF h1.symm h2.symm (show dt [] n.aj=aa by rw[h3];rfl) q2⟩;have tA : (at_ (pre++[C]) (T::post) fin 0).nodes (ab.label N) 40 ak=((ys,p),at_ (pre++[C]++[T]) post fin 0):=q1;rw[dZ,mN,mN,ab.label,aD (by rw[nj,c2];rfl),q5];simp only[tA];simp
   .have e:n.gj=[bE 38]++([bE 40]++ep (gk n.ah)++[bE 41]):=by rw[Nd.j5,h1];rfl
    rw[e] at ht;obtain⟨t1,t2,rfl,a1,a2⟩:=jb.1 ht;obtain⟨C,f2,w2,c2⟩:=B3 (by decide) a1;obtain⟨T,f1,w1,c1,b1⟩:=Hv (one:=ab.label) (e:=false) (by decide) rN (λh=>absurd h h4) a2;refine⟨[C]++[T],by simp,by rw[g_,f1,f2],by rw[jH];exact⟨w2,w1⟩,λN hN pre post fin=>?_⟩;rw[r7] at hN;have hp:=Aa (us:=[C]) (by simp);obtain⟨N,rfl⟩:∃m,N=m+1:=⟨N - 1,by omega⟩;obtain⟨ys,p,q1,q2⟩:=b1 N (by omega) (pre++[C]) post fin;have q5:=mI (pre:=pre) (post:=T::post) (t:=C) (fin:=fin) (k:=38) c2;refine⟨.mk 9 C.tok.pos [] [] ys,?_,tF h1.symm h2.symm (show dt [] n.aj=aa by rw[h3];rfl) q2⟩;have tA : (at_ (pre++[C]) (T::post) fin 0).nodes (ab.label N) 40 ak=((ys,p),at_ (pre++[C]++[T]) post fin 0):=q1;rw[dZ,mN,mN,ab.label,aB (by rw[nj,c2];decide),aD (by rw[nj,c2];rfl),q5];simp only[tA];simp
def adG{n:Nd}(h:n.lr=aa):rr ab.field Nd.cI n n.gj:=by
 obtain⟨k,h1,h2,c,h3,h4⟩:=F1 h;intro toks ht;have e:n.gj=[fA n.al]++[bE 61]++c.gj:=by rw[Nd.j5,k,h3];rfl
 rw[e] at ht;obtain⟨t1,t3,rfl,a1,a3⟩:=jb.1 ht;obtain⟨tw,tc,rfl,aw,ac⟩:=jb.1 a1;obtain⟨uw,n1,f1,w1,b1⟩:=wT ⟨n.al,0⟩ tw aw;obtain⟨C,f2,w2,c2⟩:=B3 (by decide) ac;have hc:c.kind=1\/c.kind=7:=by simp only[Nd.ph,bA,mg,b7] at h4;exact h4.1
 obtain⟨ua,n3,f3,w3,b3⟩:=Pz (Fw h4) hc t3 a3;refine⟨uw++[C]++ua,by simp,by rw[g_,g_,f1,f2,f3],by rw[jH,jH];exact⟨⟨w1,w2⟩,w3⟩,λN hN pre post fin=>?_⟩;rw[r7] at hN;obtain⟨y,q1,q2⟩:=b1 (a9 uw) (bL _) pre ([C]++ua++post) fin;obtain⟨z,q3,q4⟩:=b3 N (by omega) (pre++uw++[C]) post fin;have q5:=mI (pre:=pre++uw) (post:=ua++post) (t:=C) (fin:=fin) (k:=61) c2;refine⟨.mk 11 y.pos y.al [] [z],?_,?_⟩
 .have es:uw++[C]++ua++post=uw++([C]++ua++post):=by simp
  have tA : (at_ pre (uw++([C]++ua++post)) fin 0).word=(y,at_ (pre++uw) ([C]++ua++post) fin 0):=q1;have M0 : (at_ (pre++uw) ([C]++ua++post) fin 0).take 61=(C,at_ (pre++uw++[C]) (ua++post) fin 0):=q5;simp only[es,ab.field,tA,M0,q3];simp
 .simp only[o8,b7] at q2;exact tF k.symm q2 (show dt [] n.aj=aa by rw[h2];rfl) (show cX [z] n.ah=aa by rw[h3];simp[cX,q4])
def Lp(T:ar):T.inner=at_ [] T.ah T.fin 0:=by simp[ar.inner,at_]
def aaC{fin:Int}:(at_ us [] fin 0).close=at_ us [] fin 0:=by unfold ab.close;rw[aB];simp[at_]
def adI{n:Nd}(h:n.lr=aa):∃r,n.gj=fA n.al::r:=by
 obtain⟨k,_,_,c,h3,_⟩:=F1 h;exact⟨[bE 61]++c.gj,by rw[Nd.j5,k,h3];rfl⟩
def apf{n:Nd}(hn:n.aj=[]\/∃w,n.aj=[w]/\dy w.al=aa)(hf:∀x∈n.ah,x.lr=aa)
 (ht:toks.map Tok.sh=ep (gk n.ah)++(if 0<n.aj.length then [bE 124]++k_ n.aj else [])) :
 ∃us:List ar,bj us=toks/\fe us/\∀N,a9 us<=N->∀T:ar,T.ah=us->∃ws ks,ab.rowOf N T=((at_ us [] T.fin 0,ks),ws)/\dt ws n.aj=aa/\cX ks n.ah=true:=by
 obtain⟨t1,t2,rfl,a1,a2⟩:=jb.1 ht;have Uc:(n.aj=[]/\t2=[])\/(∃w C uw,n.aj=[w]/\uw≠[]/\bj ([C]++uw)=t2/\fe ([C]++uw)/\C.tok.kind=124/\∀(pre post:List ar) (fin:Int),∃y,(at_ pre (uw++post) fin 0).word=(y,at_ (pre++uw) post fin 0)/\o8 y w=aa):=by
  rcases hn with hn | ⟨w,hn,hw⟩
  .left;rw[hn] at a2;exact⟨hn,by simpa using a2⟩
  .right;have e:(if 0<n.aj.length then [bE 124]++k_ n.aj else [])=[bE 124]++[fA w.al]:=by rw[hn];simp[k_,ep]
   rw[e] at a2;obtain⟨tc,tw,rfl,ac,aw⟩:=jb.1 a2;obtain⟨C,f2,w2,c2⟩:=B3 (by decide) ac;obtain⟨uw,n1,f1,w1,b1⟩:=wT w tw aw;exact⟨w,C,uw,hn,n1,by rw[g_,f1,f2],by rw[jH];exact⟨w2,w1⟩,c2,λpre post fin=>b1 _ (bL _) pre post fin⟩
 have tail:∀(pre:List ar) (lO : List ar) (fin:Int) (ks:List Nd),(n.aj=[]/\lO = []\/∃w C uw,n.aj=[w]/\lO = [C]++uw/\C.tok.kind=124/\∀(pre post:List ar) (fin:Int),∃y,(at_ pre (uw++post) fin 0).word=(y,at_ (pre++uw) post fin 0)/\o8 y w=aa) ->
  ∃ws,(if (at_ pre lO fin 0).bR 124=aa then(((((at_ pre lO fin 0).take 124).2.word.2,ks),[((at_ pre lO fin 0).take 124).2.word.1]):(ab × List Nd) × List au) else((at_ pre lO fin 0,ks),[]))=((at_ (pre++lO) [] fin 0,ks),ws)/\dt ws n.aj=true:=by
  intro pre lO fin ks h
  rcases h with ⟨h1,rfl⟩ | ⟨w,C,uw,h1,rfl,h3,h4⟩
  .rw[Wb];exact⟨[],by simp,by rw[h1];rfl⟩
  .obtain⟨y,q1,q2⟩:=h4 (pre++[C]) [] fin;rw[eg] at q1;refine⟨[y],?_,by rw[h1];simpa [dt,o8] using q2⟩;rw[mN,nj,h3,aD (by decide),mI h3,q1];simp
 cases hk:n.ah with
 | nil =>
  rw[hk] at a1
  have:t1=[]:=by simpa [gk,ep] using a1
  subst this
  rcases Uc with ⟨h1,rfl⟩ | ⟨w,C,uw,h1,h0,h2,h3,h4,h5⟩
  .refine⟨[],rfl,trivial,λN _ T hT=>⟨[],[],?_,by rw[h1];rfl,by simp[cX]⟩⟩;rw[ab.rowOf,aD (by rw[hT];rfl),Lp,hT]
  .refine⟨[C]++uw,by simpa using h2,h3,λN _ T hT=>?_⟩;obtain⟨ws,q1,q2⟩:=tail [] ([C]++uw) T.fin [] (.inr ⟨w,C,uw,h1,rfl,h4,h5⟩);refine⟨ws,[],?_,q2,by simp[cX]⟩;rw[ab.rowOf,aB (by rw[hT];simp),Lp,hT,ab.mD];have hs:(at_ [] ([C]++uw) T.fin 0).bR 124=true:=by rw[mN,nj,h4];rfl
   simp only[hs,cC] at q1 ⊢;rw[q1];simp
 | cons x xs =>
  rw[hk,Eo] at a1;obtain⟨us,n1,f1,w1,b1⟩:=Ww (one:=ab.field) (sm:=Nd.cI) (S:=Nd.gj) (x:=x) (xs:=xs) (λy hy=>adG (hf y (by rw[hk];exact hy))) a1;obtain⟨r,hr⟩:=adI (hf x (by rw[hk];simp));have aik:t1.map Tok.sh=fA x.al::(r++(xs.map Nd.gj).flatMap λy=>bE 44::y):=by rw[a1];simp[ep,hr]
  have go:∀(lO : List ar),E8 lO -> (n.aj=[]/\lO = []\/∃w C uw,n.aj=[w]/\lO = [C]++uw/\C.tok.kind=124/\∀(pre post:List ar) (fin:Int),∃y,(at_ pre (uw++post) fin 0).word=(y,at_ (pre++uw) post fin 0)/\o8 y w=aa) ->
   ∀N,a9 (us++lO)<=N->∀T:ar,T.ah=us++lO -> ∃ws ks,ab.rowOf N T=((at_ (us++lO) [] T.fin 0,ks),ws)/\dt ws n.aj=aa/\cX ks (x::xs)=true:=by
   intro lO v_ hq N hN T hT;rw[r7] at hN;obtain⟨ks,q1,q2⟩:=b1 N (by omega) [] lO T.fin v_;obtain⟨ws,q3,q4⟩:=tail us lO T.fin ks hq;rw[I0] at q2;refine⟨ws,ks,?_,q4,q2⟩;rw[ab.rowOf,aB (by rw[hT];intro h;rw[bI] at h;exact n1 (jq.1 (by omega))),Lp,hT,ab.mD];have hs:(at_ [] (us++lO) T.fin 0).bR 124=false:=by rw[yr n1 f1 aik];rfl
   rw[fY] at q1;simp only[hs,di,ck,q1];exact q3
  rcases Uc with ⟨h1,rfl⟩ | ⟨w,C,uw,h1,h0,h2,h3,h4,h5⟩
  .refine⟨us++[],by simpa using f1,by simpa using w1,go [] (λt r h=>by simp at h) (.inl ⟨h1,rfl⟩)⟩
  .refine⟨us++([C]++uw),by rw[g_,f1,h2],by rw[jH];exact⟨w1,h3⟩,go ([C]++uw) (λt r h=>?_) (.inr ⟨w,C,uw,h1,rfl,h4,h5⟩)⟩;simp only[mN,gu] at h;rw[<-h.1,h4];decide
def apj{n:Nd}(h:n.iW=aa):rr ab.row Nd.cI n n.gj:=by
 intro toks ht
 rcases Ei h with ⟨k,h2,hn,hf⟩ | ⟨k,h⟩
 .have e:n.gj=[bE 91]++(ep (gk n.ah)++(if 0<n.aj.length then [bE 124]++k_ n.aj else []))++[bE 93]:=by rw[Nd.j5,k];rfl
  rw[e] at ht;obtain⟨t1,t3,rfl,h1,h3⟩:=jb.1 ht;obtain⟨ta,t2,rfl,ha,ey⟩:=jb.1 h1;obtain⟨pa,rfl⟩:=tG ha;obtain⟨pb,rfl⟩:=tG h3;obtain⟨us,f1,w1,b1⟩:=apf hn hf ey;generalize hT:ar.mk ⟨((91:UInt8).toNat:Nat),[91],pa⟩ us pb=T;have R2:T.tok.kind=91:=by rw[<-hT];rfl
  have R3:T.ah=us:=by rw[<-hT];rfl
  have hTm:a9 [T]=1+a9 us:=by simp only[a9,Mj,R3];omega
  refine⟨[T],by simp,?_,?_,λN hN pre post fin=>?_⟩
  .rw[<-hT];have hc:closing ((91:UInt8).toNat:Nat)≠0:=by decide
   simp only[bj,ar.flat,eg];rw[aD hc,f1];simp;decide +kernel
  .rw[<-hT];simp only[fe,ar.WF];exact⟨⟨rfl,λh=>absurd h (by decide),w1⟩,trivial⟩
  .obtain⟨ws,ks,q1,q2,q3⟩:=b1 N (by omega) T R3;refine⟨.mk 10 T.tok.pos [] ws ks,?_,tF k.symm h2.symm q2 q3⟩;have q5:=mI (pre:=pre) (post:=post) (t:=T) (fin:=fin) (k:=91) R2;rw[mN,ab.row,aD (by rw[nj,R2];rfl),q5];simp only[q1,ab.under,aaC];rfl
 .have e:n.gj=[fA n.al]:=by rw[Nd.j5,k];rfl
  have hl:n.kl=true:=by
   rcases DT h with ⟨_,h2⟩ | ⟨h1,_⟩ | ⟨h1,_⟩
   .exact h2
   .omega
   .omega
  rw[e] at ht;obtain⟨us,n1,f1,w1,b1⟩:=LZ k hl toks ht;refine⟨us,n1,f1,w1,λN hN pre post fin=>?_⟩;obtain⟨y,q1,q2⟩:=b1 _ hN pre post fin;refine⟨y,?_,q2⟩;have s1:=yr (pre:=pre) (post:=post) (fin:=fin) (k:=91) n1 f1 ht;rw[ab.row,s1];exact q1
def wC(p:au × au):List Sh:=[fA p.1.al]++[bE 60]++[fA p.2.al]
def Ag(k:UInt8)(c:aq)(n:Nd):List Sh :=
 if k=110 then [fA c.name.al]
 else if k=102 then k_ c.aj
 else if k=119 then [bE 123]++k_ c.aj++[bE 125]
 else if k=112 then [bE 123]++ep (c.bh.map wC)++[bE 125]
 else n.gj
def lF:List UInt8->List Nd->List (UInt8 × Nd)
 | [],_=>[]
 | k::ks,ts=>(k,ts.headD .zero)::lF ks (if isTerm k=aa then ts.tail else ts)
def UW(c:aq):∀(ks:List UInt8) (x:List (List UInt8) × List Nd),(ks.foldl (yC c) x).1=x.1++(lF ks x.2).map λq=>l9 q.1 c q.2
 | [],x=>by simp[lF]
 | k :: ks, x => by
  rw[yO,UW c ks];simp[yC,lF]
def En(c:aq):List Sh:=[fA (cn c.op).1]++((lF (cn c.op).2 [c.left,c.right]).map λq=>Ag q.1 c q.2).flatten
def H6(c:aq):dS c=(cn c.op).1++((lF (cn c.op).2 [c.left,c.right]).map λq=>l9 q.1 c q.2).flatMap λy=>[32]++y:=by
 rw[dS,kt,UW];rfl
def TB{ks:List Sh}(h:lQ s ks):lQ ([32]++s) ks:=by
 intro n p acc hn
 rcases n with _ | n
 .simp at hn
 obtain⟨toks,e1,e2⟩:=h n (p+1) acc (by simpa using hn);refine⟨toks,?_,e2⟩;rw[mN,e9,aB (λh=>by have:=h.1;revert this;decide),HT (by decide),aB (by simp),aB (by decide),aD (.inl (by decide)),e1]
def Tz{G:Type}{T:G->List UInt8}{S:G->List Sh}:∀{l:List G},(∀x∈l,jD (T x) (S x))->Stop ((l.map T).flatMap λy=>[32]++y)/\lQ ((l.map T).flatMap λy=>[32]++y) ((l.map S).flatten)
 | [],_=>⟨trivial,lex_nil⟩
 | x :: xs, h => by
  obtain⟨h1,h2⟩:=Tz (l:=xs) λy hy=>h y (by simp[hy])
  simp only[bX,pY,kz,dZ];exact⟨show gy 32=ak by decide,TB (h x (by simp) _ _ h1 h2)⟩
def akm{p:au × au}(h:mZ p=aa):jD (jy p) (wC p):=by
 simp only[mZ,bA] at h;exact(jD.sign (wx h.1) (by decide)).nn (wx h.2)
def akn{ps:List (au × au)}(h:ps.all mZ=aa):qx (uh (ps.map jy)) ([bE 123]++ep (ps.map wC)++[bE 125]) :=
 jD.sign ((uW 123 (by decide)).nn (Hj (T:=jy) (S:=wC) λp hp=>akm (lf.1 h p hp))) (by decide)
def alC(h:n8 (ws.map au.al)=aa):hH ws=true:=by
 simp only[n8,List.all_map] at h;exact h
def yT(k:UInt8)(c:aq)(n:Nd):Prop :=
 (k=110/\dy c.name.al=aa)\/(k=102/\c.aj.length=1/\hH c.aj=aa)\/(k=119/\0<c.aj.length/\hH c.aj=aa)\/(k=112/\c.bh.all mZ=aa)\/(k=116/\n.eU=aa)\/(k=114/\n.iW=aa)
def UT{k:UInt8}{n:Nd}(h:yT k c n):jD (l9 k c n) (Ag k c n):=by
 rcases h with ⟨rfl,h⟩ | ⟨rfl,_,h⟩ | ⟨rfl,_,h⟩ | ⟨rfl,h⟩ | ⟨rfl,h⟩ | ⟨rfl,h⟩
 .exact wx h
 .exact L6 h
 .exact(L5 h).n
 .exact(akn h).n
 .exact Mi _ n (bL _) h
 .exact ale h
def WR(h0:dy (cn c.op).1=aa)(h:∀q∈lF (cn c.op).2 [c.left,c.right],yT q.1 c q.2):(dG (dS c)).2=ae/\(dG (dS c)).1.map Tok.sh=En c:=by
 obtain⟨h1,h2⟩:=Tz (T:=λq:UInt8 × Nd=>l9 q.1 c q.2) (S:=λq=>Ag q.1 c q.2) (l:=lF (cn c.op).2 [c.left,c.right]) λq hq=>UT (h q hq)
 have:=wx h0 _ _ h1 h2
 rw[H6];obtain⟨toks,e1,e2⟩:=this _ 0 [] (bL _);unfold dG;rw[e1];exact⟨rfl,by rw[En];simpa using e2⟩
def Ec(a b:au × au):Bool:=decide (a.1.al=b.1.al)&&decide (a.2.al=b.2.al)
def Ph:∀a b:List (au × au),lS Ec a b=kZ a b
 | [],[]=>rfl
 | [],_::_=>rfl
 | _::_,[]=>rfl
 | p::ps,q::qs=>by simp only[lS,kZ,Ec,Ph ps qs]
def anB:∀(ps:List (au × au)) (p:au × au) (toks:List Tok),toks.map Tok.sh=ep ((p::ps).map wC) ->
 ∃us:List ar,us≠[]/\bj us=toks/\fe us/\∀(n:Nat) (pre:List ar) (fin:Int) (acc:List (au × au)),us.length<=n ->
  ∃ys r,ab.fT n (at_ pre us fin 0) acc=(r,acc++ys)/\r.aE=ae/\lS Ec ys (p::ps)=true:=by
 intro ps;induction ps with
 | nil =>
  intro p toks ht;have ht:toks.map Tok.sh=[fA p.1.al]++[bE 60]++[fA p.2.al]:=by simpa [ep,wC] using ht
  obtain⟨t12,t3,rfl,mn,h3⟩:=jb.1 ht;obtain⟨t1,t2,rfl,h1,h2⟩:=jb.1 mn;obtain⟨p1,rfl⟩:=Em h1;obtain⟨p2,rfl⟩:=tG h2;obtain⟨p3,rfl⟩:=Em h3;obtain⟨f1,w1⟩:=uR (t:=⟨97,p.1.al,p1⟩) rfl rfl;obtain⟨f2,w2⟩:=uR (t:=⟨((60:UInt8).toNat:Nat),[60],p2⟩) rfl rfl;obtain⟨f3,w3⟩:=uR (t:=⟨97,p.2.al,p3⟩) rfl rfl;refine⟨[.mk ⟨97,p.1.al,p1⟩ [] p1]++[.mk ⟨((60:UInt8).toNat:Nat),[60],p2⟩ [] p2]++[.mk ⟨97,p.2.al,p3⟩ [] p3],by simp,by rw[g_,g_,f1,f2,f3],by rw[jH,jH];exact⟨⟨w1,w2⟩,w3⟩,λn pre fin acc hn=>?_⟩;obtain⟨m,rfl⟩:∃m,n=m+1:=⟨n - 1,by simp at hn;omega⟩;generalize C':(ar.mk ⟨97,p.1.al,p1⟩ [] p1)=T1;generalize Da:(ar.mk ⟨((60:UInt8).toNat:Nat),[60],p2⟩ [] p2)=T2;generalize Db:(ar.mk ⟨97,p.2.al,p3⟩ [] p3)=T3;have e1:(at_ pre (T1::[T2,T3]) fin 0).take 97=(T1,at_ (pre++[T1]) [T2,T3] fin 0):=mI (by rw[<-C'];rfl);have e2:(at_ (pre++[T1]) [T2,T3] fin 0).take 60=(T2,at_ (pre++[T1]++[T2]) [T3] fin 0):=mI (by rw[<-Da];rfl);have e3:(at_ (pre++[T1]++[T2]) [T3] fin 0).take 97=(T3,at_ (pre++[T1]++[T2]++[T3]) [] fin 0):=mI (by rw[<-Db];rfl);refine⟨[(⟨T1.tok.al,T1.tok.pos⟩,⟨T3.tok.al,T3.tok.pos⟩)],at_ (pre++[T1]++[T2]++[T3]) [] fin 0,?_,rfl,?_⟩
  .simp only[ab.fT,gE,fY];have Oe:(at_ pre (T1::[T2,T3]) fin 0).word=(⟨T1.tok.al,T1.tok.pos⟩,at_ (pre++[T1]) [T2,T3] fin 0):=by rw[ab.word,e1]
   have Of:(at_ (pre++[T1]++[T2]) [T3] fin 0).word=(⟨T3.tok.al,T3.tok.pos⟩,at_ (pre++[T1]++[T2]++[T3]) [] fin 0):=by rw[ab.word,e3]
   rw[aB (by simp[at_])];simp only[Oe,e2,Of];rw[aD (by simp[at_])]
  .rw[<-C',<-Db];simp[lS,Ec,ar.tok]
 | cons q ps ih =>
  intro p toks ht;have ht:toks.map Tok.sh=[fA p.1.al]++[bE 60]++[fA p.2.al]++[bE 44]++ep ((q::ps).map wC):=by simpa [ep,wC] using ht
  obtain⟨ats,t5,rfl,ahN,h5⟩:=jb.1 ht;obtain⟨t123,t4,rfl,J3,h4⟩:=jb.1 ahN;obtain⟨t12,t3,rfl,mn,h3⟩:=jb.1 J3;obtain⟨t1,t2,rfl,h1,h2⟩:=jb.1 mn;obtain⟨p1,rfl⟩:=Em h1;obtain⟨p2,rfl⟩:=tG h2;obtain⟨p3,rfl⟩:=Em h3;obtain⟨p4,rfl⟩:=tG h4;obtain⟨us,n0,f5,w5,b5⟩:=ih q t5 h5;obtain⟨f1,w1⟩:=uR (t:=⟨97,p.1.al,p1⟩) rfl rfl;obtain⟨f2,w2⟩:=uR (t:=⟨((60:UInt8).toNat:Nat),[60],p2⟩) rfl rfl;obtain⟨f3,w3⟩:=uR (t:=⟨97,p.2.al,p3⟩) rfl rfl;obtain⟨f4,w4⟩:=uR (t:=⟨((44:UInt8).toNat:Nat),[44],p4⟩) rfl rfl;refine⟨[.mk ⟨97,p.1.al,p1⟩ [] p1]++[.mk ⟨((60:UInt8).toNat:Nat),[60],p2⟩ [] p2]++[.mk ⟨97,p.2.al,p3⟩ [] p3]++[.mk ⟨((44:UInt8).toNat:Nat),[44],p4⟩ [] p4]++us,by simp,by rw[g_,g_,g_,g_,f1,f2,f3,f4,f5],by rw[jH,jH,jH,jH];exact⟨⟨⟨⟨w1,w2⟩,w3⟩,w4⟩,w5⟩,λn pre fin acc hn=>?_⟩;obtain⟨m,rfl⟩:∃m,n=m+1:=⟨n - 1,by simp at hn;omega⟩;generalize C':(ar.mk ⟨97,p.1.al,p1⟩ [] p1)=T1;generalize Da:(ar.mk ⟨((60:UInt8).toNat:Nat),[60],p2⟩ [] p2)=T2;generalize Db:(ar.mk ⟨97,p.2.al,p3⟩ [] p3)=T3;generalize hT4:(ar.mk ⟨((44:UInt8).toNat:Nat),[44],p4⟩ [] p4)=T4;have e1:(at_ pre (T1::(T2::T3::T4::us)) fin 0).take 97=(T1,at_ (pre++[T1]) (T2::T3::T4::us) fin 0):=mI (by rw[<-C'];rfl);have e2:(at_ (pre++[T1]) (T2::T3::T4::us) fin 0).take 60=(T2,at_ (pre++[T1]++[T2]) (T3::T4::us) fin 0):=mI (by rw[<-Da];rfl);have e3:(at_ (pre++[T1]++[T2]) (T3::T4::us) fin 0).take 97=(T3,at_ (pre++[T1]++[T2]++[T3]) (T4::us) fin 0):=mI (by rw[<-Db];rfl);have e4:(at_ (pre++[T1]++[T2]++[T3]) (T4::us) fin 0).take 44=(T4,at_ (pre++[T1]++[T2]++[T3]++[T4]) us fin 0):=mI (by rw[<-hT4];rfl);obtain⟨ys,r,g1,g2,g3⟩:=b5 m (pre++[T1]++[T2]++[T3]++[T4]) fin (acc++[(⟨T1.tok.al,T1.tok.pos⟩,⟨T3.tok.al,T3.tok.pos⟩)]) (by simp at hn;omega);refine⟨(⟨T1.tok.al,T1.tok.pos⟩,⟨T3.tok.al,T3.tok.pos⟩)::ys,r,?_,g2,?_⟩
  .simp only[ab.fT,gE,fY];have Oe:(at_ pre (T1::(T2::T3::T4::us)) fin 0).word=(⟨T1.tok.al,T1.tok.pos⟩,at_ (pre++[T1]) (T2::T3::T4::us) fin 0):=by rw[ab.word,e1]
   have Of:(at_ (pre++[T1]++[T2]) (T3::T4::us) fin 0).word=(⟨T3.tok.al,T3.tok.pos⟩,at_ (pre++[T1]++[T2]++[T3]) (T4::us) fin 0):=by rw[ab.word,e3]
   rw[aB (by simp[at_])];simp only[Oe,e2,Of,e4,g1];rw[aB (by simp[at_];omega)];simp
  .rw[<-C',<-Db];simp only[lS,Ec,g3,ar.tok];simp
def EP(k:UInt8)(c:aq)(n:Nd)(c0 c1:aq):Prop :=
 (k=110/\∃w:au,w.al=c.name.al/\c1={c0 with name:=w}) \/
 ((k=102\/k=119)/\∃ws,dt ws c.aj=aa/\c1={c0 with aj:=ws}) \/
 (k=112/\∃ps a,kZ ps c.bh=aa/\c1={c0 with bh:=ps,mC:=a}) \/
 ((k=116\/k=114)/\∃m:Nd,m.cI n=aa/\c1=if c0.left.kind=0 then {c0 with left:=m} else {c0 with right:=m})
def XV(k:UInt8)(c:aq)(n:Nd)(toks:List Tok):Prop :=
 ∃us:List ar,us≠[]/\bj us=toks/\fe us/\∀(pre post:List ar) (fin:Int) (c0:aq),(k=112->c0.bh=[])->∃c1,c9 k (at_ pre (us++post) fin 0,c0)=(at_ (pre++us) post fin 0,c1)/\EP k c n c0 c1
theorem I8{fin:Int}:(⟨(at_ pre us fin 0).l,(at_ pre us fin 0).at_,(at_ pre us fin 0).fin,ae⟩:ab)=at_ pre us fin 0:=rfl
def YU{T:ar}{fin:Int}:({at_ pre (T::us) fin 0 with at_:=(at_ pre (T::us) fin 0).at_+1}:ab)=at_ (pre++[T]) us fin 0:=by simp[at_]
def anG{k:UInt8}{n:Nd}(h:yT k c n)(ht:toks.map Tok.sh=Ag k c n):XV k c n toks:=by
 rcases h with ⟨rfl,h⟩ | ⟨rfl,h1,h⟩ | ⟨rfl,h1,h⟩ | ⟨rfl,h⟩ | ⟨rfl,h⟩ | ⟨rfl,h⟩
 .obtain⟨us,n1,f1,w1,b1⟩:=wT c.name toks ht;refine⟨us,n1,f1,w1,λpre post fin c0 _=>?_⟩;obtain⟨y,q1,q2⟩:=b1 (a9 us) (bL _) pre post fin;refine⟨{c0 with name:=y},?_,.inl ⟨rfl,y,by simpa [o8] using q2,rfl⟩⟩;have q1:(at_ pre (us++post) fin 0).word=(y,at_ (pre++us) post fin 0):=q1;have hb:(at_ pre (us++post) fin 0).aE=none:=rfl;simp[c9,hb,q1]
 .obtain⟨w,hw⟩:∃w,c.aj=[w]:=by
   match hc:c.aj,h1 with
   | [w],_=>exact⟨w,rfl⟩
  have ht:toks.map Tok.sh=[fA w.al]:=by rw[ht];simp[Ag,k_,hw,ep]
  obtain⟨us,n1,f1,w1,b1⟩:=wT w toks ht;refine⟨us,n1,f1,w1,λpre post fin c0 _=>?_⟩;obtain⟨y,q1,q2⟩:=b1 (a9 us) (bL _) pre post fin;refine⟨{c0 with aj:=[y]},?_,.inr (.inl ⟨.inl rfl,[y],?_,rfl⟩)⟩
  .have q1:(at_ pre (us++post) fin 0).word=(y,at_ (pre++us) post fin 0):=q1;have hb:(at_ pre (us++post) fin 0).aE=none:=rfl;simp[c9,hb,q1]
  .rw[hw];simpa [dt,o8] using q2
 .obtain⟨T,f1,w1,k1,b1⟩:=Ja (one:=λ_=>ab.word) (sm:=o8) (S:=λw=>[fA w.al]) (a:=123) (b:=125) (e:=false) (xs:=c.aj) (by decide) (by decide) (by decide) (λw _=>wT w) (λe=>by rw[e] at h1;simp at h1) (toks:=toks) ht;refine⟨[T],by simp,f1,w1,λpre post fin c0 _=>?_⟩;obtain⟨ys,p,q1,q2⟩:=b1 (a9 [T]) (by omega) pre post fin;rw[IZ] at q2;have q1:(at_ pre (T::post) fin 0).words ak=((ys,p),at_ (pre++[T]) post fin 0):=q1;refine⟨{c0 with aj:=ys},?_,.inr (.inl ⟨.inr rfl,ys,q2,rfl⟩)⟩;have hb:(at_ pre (T::post) fin 0).aE=none:=rfl;have hw:iZ (at_ pre (T::post) fin 0).l (at_ pre (T::post) fin 0).at_ (at_ pre (T::post) fin 0).fin=(ys,ae):=by
   unfold iZ;rw[I8,q1];rfl
  have za:c9 119 (at_ pre ([T]++post) fin 0,c0)=({at_ pre (T::post) fin 0 with aE:=(iZ (at_ pre (T::post) fin 0).l (at_ pre (T::post) fin 0).at_ (at_ pre (T::post) fin 0).fin).2,at_:=(at_ pre (T::post) fin 0).at_+1},{c0 with aj:=(iZ (at_ pre (T::post) fin 0).l (at_ pre (T::post) fin 0).at_ (at_ pre (T::post) fin 0).fin).1}):=rfl;rw[za,hw,<-YU];rfl
 .have ht:toks.map Tok.sh=[bE 123]++ep (c.bh.map wC)++[bE 125]:=ht;obtain⟨t1,t3,rfl,h1,h3⟩:=jb.1 ht;obtain⟨ta,t2,rfl,ha,h2⟩:=jb.1 h1;obtain⟨pa,rfl⟩:=tG ha;obtain⟨pb,rfl⟩:=tG h3;have key:∃us:List ar,bj us=t2/\fe us/\((us=[]/\c.bh=[])\/us≠[]/\∀fin,∃ys r,ab.fT (us.length+1) (at_ [] us fin 0) []=(r,ys)/\r.aE=ae/\kZ ys c.bh=aa):=by
   cases hc:c.bh with
   | nil =>
    rw[hc] at h2
    have:t2=[]:=by simpa [ep] using h2
    exact⟨[],by rw[this];rfl,trivial,.inl ⟨rfl,rfl⟩⟩
   | cons p ps =>
    rw[hc] at h2;obtain⟨us,n1,f1,w1,b1⟩:=anB ps p t2 h2;refine⟨us,f1,w1,.inr ⟨n1,λfin=>?_⟩⟩;obtain⟨ys,r,q1,q2,q3⟩:=b1 (us.length+1) [] fin [] (by omega);exact⟨ys,r,by rw[q1];rfl,q2,by rw[<-Ph];exact q3⟩
  obtain⟨us,f1,w1,hk⟩:=key;refine⟨[.mk ⟨((123:UInt8).toNat:Nat),[123],pa⟩ us pb],by simp,?_,?_,λpre post fin c0 hp=>?_⟩
  .simp only[bj,ar.flat,eg];rw[aD (by decide),f1];rfl
  .simp only[fe,ar.WF];exact⟨⟨by decide,λh=>absurd h (by decide),w1⟩,trivial⟩
  .have hp:=hp rfl;have y_:∀x:ab × aq,x.1.aE=ae->c9 112 x=oH x.1 x.2:=λx hx=>by simp[c9,hx]
   have uO:(at_ pre (ar.mk ⟨((123:UInt8).toNat:Nat),[123],pa⟩ us pb::post) fin 0).take 123=(.mk ⟨((123:UInt8).toNat:Nat),[123],pa⟩ us pb,at_ (pre++[.mk ⟨((123:UInt8).toNat:Nat),[123],pa⟩ us pb]) post fin 0):=mI rfl;rw[y_ _ rfl];unfold oH;simp only[gE,fY,uO,ar.ah,ar.tok]
   rcases hk with ⟨rfl,hc⟩ | ⟨n1,hk⟩
   .rw[aD (.inr rfl)];refine⟨_,rfl,.inr (.inr (.inl ⟨rfl,[],pa,by rw[hc];rfl,?_⟩))⟩;cases c0;simp only at hp;subst hp;rfl
   .have hl:us.length≠0:=λh=>n1 (jq.1 h)
    rw[aB (by simp[at_,hl])];obtain⟨ys,r,q1,q2,q3⟩:=hk pb;have ey:(ar.mk ⟨((123:UInt8).toNat:Nat),[123],pa⟩ us pb).inner=at_ [] us pb 0:=by simp[ar.inner,at_,ar.ah,ar.fin]
    rw[ey,q1];simp only[q2,ab.ue];exact⟨_,rfl,.inr (.inr (.inl ⟨rfl,ys,pa,q3,rfl⟩))⟩
 .obtain⟨us,n1,f1,w1,b1⟩:=ajI _ n (bL _) h toks ht;refine⟨us,n1,f1,w1,λpre post fin c0 _=>?_⟩;have hm:a9 us<=a9 (at_ pre (us++post) fin 0).l:=by simp only[at_,r7];omega
  obtain⟨y,q1,q2⟩:=b1 _ hm pre post fin;have FQ:∀x:ab × aq,x.1.aE=ae->c9 116 x=iM x.1 x.2 (fi (ab.label (a9 x.1.l)) x.1.l x.1.at_ x.1.fin):=λx hx=>by simp[c9,hx]
  rw[FQ _ rfl];unfold fi;rw[I8,q1];refine⟨_,?_,.inr (.inr (.inr ⟨.inl rfl,y,q2,rfl⟩))⟩;simp[iM,at_]
 .obtain⟨us,n1,f1,w1,b1⟩:=apj h toks ht;refine⟨us,n1,f1,w1,λpre post fin c0 _=>?_⟩;have hm:a9 us<=a9 (at_ pre (us++post) fin 0).l:=by simp only[at_,r7];omega
  obtain⟨y,q1,q2⟩:=b1 _ hm pre post fin;have FP:∀x:ab × aq,x.1.aE=ae->c9 114 x=iM x.1 x.2 (fi (ab.row (a9 x.1.l)) x.1.l x.1.at_ x.1.fin):=λx hx=>by simp[c9,hx]
  rw[FP _ rfl];unfold fi;rw[I8,q1];refine⟨_,?_,.inr (.inr (.inr ⟨.inr rfl,y,q2,rfl⟩))⟩;simp[iM,at_]
def ER(c:aq):List (UInt8 × Nd)->aq->aq->Prop
 | [],c0,c1=>c1=c0
 | q::qs,c0,c2=>∃c1,EP q.1 c q.2 c0 c1/\ER c qs c1 c2
def acC{k:UInt8}{n:Nd}{c0 c1:aq}(hk:k≠112)(h:EP k c n c0 c1):c1.bh=c0.bh:=by
 rcases h with ⟨_,w,_,rfl⟩ | ⟨_,w,_,rfl⟩ | ⟨h,_⟩ | ⟨_,m,_,rfl⟩
 .rfl
 .rfl
 .exact absurd h hk
 .split<;>rfl
def UP{c:aq}:∀(qs:List (UInt8 × Nd)),(∀q∈qs,yT q.1 c q.2)->(qs.map (·.1)).count 112<=1->∀toks:List Tok,toks.map Tok.sh=(qs.map λq=>Ag q.1 c q.2).flatten ->
 ∃us:List ar,bj us=toks/\fe us/\∀(pre:List ar) (fin:Int) (c0:aq),(112∈qs.map (·.1)->c0.bh=[])->∃c1,hD (qs.map (·.1)) (at_ pre us fin 0,c0)=(at_ (pre++us) [] fin 0,c1)/\ER c qs c0 c1
 | [], _, _, toks, ht => by
  have:toks=[]:=by simpa using ht
  subst this;exact⟨[],rfl,trivial,λpre fin c0 _=>⟨c0,by simp[hD],rfl⟩⟩
 | q :: qs, h, hc, toks, ht => by
  simp only[bX,kz] at ht;obtain⟨t1,t2,rfl,h1,h2⟩:=jb.1 ht;obtain⟨u1,_,f1,w1,b1⟩:=anG (h q (by simp)) h1;have hc2:(qs.map (·.1)).count 112<=1:=by
   rw[bX,List.count_cons] at hc;omega
  obtain⟨u2,f2,w2,b2⟩:=UP qs (λx hx=>h x (by simp[hx])) hc2 t2 h2;refine⟨u1++u2,by rw[g_,f1,f2],by rw[jH];exact⟨w1,w2⟩,λpre fin c0 hp=>?_⟩;obtain⟨c1,e1,g1⟩:=b1 pre u2 fin c0 (λe=>hp (by simp[e]));obtain⟨c2,e2,g2⟩:=b2 (pre++u1) fin c1 (λhm=>by
   by_cases e:q.1=112
   .exfalso
    rw[bX,e,OJ] at hc
    have:(qs.map (·.1)).count 112=0:=by omega
    exact OK.1 this hm
   .rw[acC e g1];exact hp (by simp only[bX,kA];exact .inr hm))
  exact⟨c2,by simp only[bX,hD,e1,e2,dZ],c1,g1,g2⟩
def L3:∀(ks:List UInt8) (ts:List Nd),(lF ks ts).map (·.1)=ks
 | [],_=>rfl
 | k::ks,ts=>by simp only[lF,bX,L3 ks]
def DO:List (List UInt8):=[[110,119],[110,119,112],[110,116,116],[110,114,114],[110,102],[],[110]]
def C2{op:Int}(h1:1<=op)(h2:op<=15):(cn op).2∈DO/\dy (cn op).1=aa/\iC (cn op).1=op:=by
 have key:∀n:Nat,n<15->(cn ((n+1:Nat):Int)).2∈DO/\dy (cn ((n+1:Nat):Int)).1=aa/\iC (cn ((n+1:Nat):Int)).1=((n+1:Nat):Int):=by decide +kernel
 have:=key (op.toNat - 1) (by omega)
 rwa [show((op.toNat - 1+1:Nat):Int)=op by omega] at this
def Ek:∀a b:List au,dt a b=decide (a.map au.al=b.map au.al)
 | [],[]=>by simp[dt]
 | [],_::_=>by simp[dt]
 | _::_,[]=>by simp[dt]
 | w::ws,u::us=>by simp[dt,Ek ws us]
def mb(l:List ar)(a fin k:Int):(⟨l,a,fin,ae⟩:ab).bR k=bx l a k:=by simp[ab.bR,ab.ok]
theorem B4(l:List ar)(a fin:Int)(b:Option Int):(⟨l,a,fin,b⟩:ab).spot=np l a fin:=rfl
variable{a:Int}
def lN{fin:Int}(h:bx l a k=aa):(⟨l,a,fin,ae⟩:ab).take k=(bG l a,⟨l,a+1,fin,ae⟩):=by
 obtain⟨j,t,rfl,hj,_,hl⟩:=x9 h;simp[ab.take,mb,h,bG,hj,gU]
def me{fin:Int}(h:bx l a k=ak):(⟨l,a,fin,ae⟩:ab).take k=(.zero,⟨l,a,fin,U (np l a fin)⟩):=by
 simp[ab.take,mb,h,ab.fail,B4]
def vj(h:bx l a k=aa):(bG l a).tok=fB l a:=by
 obtain⟨j,t,rfl,hj,_,_⟩:=x9 h;simp[bG,fB,hj]
def Rz{step:ab × List G->ab × List G}{a:ab × List G}(h:a.1.aE≠ae):∀n,iG step n a=a
 | 0=>rfl
 | n + 1 => by
  have:a.1.bR 44=false:=by
   simp only[ab.bR,ab.ok];cases hb:a.1.aE with
   | none=>exact absurd hb h
   | some _=>simp
  simp[iG,this]
def RA{step:ab × List G->ab × List G}{a:ab × List G}(h:a.1.bR 44=ak):∀n,iG step n a=a
 | 0=>rfl
 | n+1=>by simp[iG,h]
def Ub{fin:Int}(h:bx l a 97=aa):nameAt l a fin=⟨.mk 0 (fB l a).pos (fB l a).al [] [],a+1,ak,0⟩:=by simp[nameAt,h]
def Ua{fin:Int}(h:bx l a 97=ak):nameAt l a fin=dL l a fin:=by simp[nameAt,h]
def NS(l:List ar)(fin:Int):∀(m n:Nat) (a:Nat) (out:List Nd) (ws:List au),ws=sn out->l.length+1<=m+a->l.length<=n+a->a<=l.length ->
 (fV (λi=>nameAt l i fin) l m a out).2.aE=aa/\(iG fW n (fW (⟨l,a,fin,ae⟩,ws))).1.aE=U (fV (λi=>nameAt l i fin) l m a out).2.pos \/
 (fV (λi=>nameAt l i fin) l m a out).2.aE=ak/\iG fW n (fW (⟨l,a,fin,ae⟩,ws))=(⟨l,(fV (λi=>nameAt l i fin) l m a out).2.next,fin,ae⟩,sn (fV (λi=>nameAt l i fin) l m a out).1)
 | 0,n,a,out,ws,zJ,hm,hn,ha=>by omega
 | m + 1, n, a, out, ws, zJ, hm, hn, ha => by
  cases hk:bx l a 97
  .left;have e:fW (⟨l,a,fin,ae⟩,ws)=(⟨l,a,fin,U (np l a fin)⟩,ws++[⟨[],0⟩]):=by simp[fW,ab.word,me hk,ar.zero,ar.tok]
   rw[e,Rz (by simp)];simp[fV,Ua hk,dL]
  .obtain⟨j,t,hj,_,_,hl⟩:=x9 hk;have e:fW (⟨l,a,fin,ae⟩,ws)=(⟨l,(a:Int)+1,fin,ae⟩,ws++[⟨(fB l a).al,(fB l a).pos⟩]):=by simp[fW,ab.word,lN hk,vj hk]
   rw[e];simp only[fV,Ub hk,di,ck];cases vU:bx l ((a:Int)+1) 44
   .right;rw[RA (by simp[mb,vU])];simp[zJ,sn,Nd.al,Nd.pos]
   .obtain⟨j2,t2,hj2,_,_,kK⟩:=x9 vU;obtain⟨n,rfl⟩:∃k,n=k+1:=⟨n - 1,by omega⟩;simp only[iG,mb,vU,cC,lN vU];have ih:=NS l fin m n (a+2) (out++[.mk 0 (fB l a).pos (fB l a).al [] []]) (ws++[⟨(fB l a).al,(fB l a).pos⟩]) (by simp[zJ,sn,Nd.al,Nd.pos]) (by omega) (by omega) (by omega);rw[show(a:Int)+1+1=((a+2:Nat):Int) by omega];exact ih
def asm(l:List ar)(a fin:Int) :
 (ri l a fin).2.aE=aa/\iZ l a fin=([],U (ri l a fin).2.pos)\/(ri l a fin).2.aE=ak/\iZ l a fin=((ri l a fin).1,ae):=by
 cases h:bx l a 123
 .left;have e:(⟨l,a,fin,ae⟩:ab).words ak=(([],0),⟨l,a,fin,U (np l a fin)⟩):=by
   simp[ab.words,ab.bracket,me h,ab.ok]
  simp[ri,h,dL,iZ,e]
 .have ht:∃t,bG l a=t:=⟨_,rfl⟩;obtain⟨t,ht⟩:=ht;have hw:(⟨l,a,fin,ae⟩:ab).words ak=(((dJ fW t.inner).2,t.tok.pos),(⟨l,a+1,fin,ae⟩:ab).under (dJ fW t.inner).1):=by
   simp[ab.words,ab.bracket,lN h,ab.ok,ab.inside,ht]
  have hs:=NS t.ah t.fin (t.ah.length+1) t.ah.length 0 [] [] rfl (by omega) (by omega) (by omega);have hg:dJ fW t.inner=iG fW t.ah.length (fW (⟨t.ah,((0:Nat):Int),t.fin,ae⟩,[])):=rfl;rw[<-hg] at hs;have hr:ri l a fin=(sn (wholeAt nameAt t ak).1,(wholeAt nameAt t ak).2):=by simp[ri,h,ht]
  have ju:wholeAt nameAt t ak=if (fV (λi=>nameAt t.ah i t.fin) t.ah (t.ah.length+1) ((0:Nat):Int) []).2.aE=ak/\(fV (λi=>nameAt t.ah i t.fin) t.ah (t.ah.length+1) ((0:Nat):Int) []).2.next<t.ah.length then([],dL t.ah (fV (λi=>nameAt t.ah i t.fin) t.ah (t.ah.length+1) ((0:Nat):Int) []).2.next t.fin)
   else fV (λi=>nameAt t.ah i t.fin) t.ah (t.ah.length+1) ((0:Nat):Int) []:=by simp[wholeAt]
  generalize fV (λi=>nameAt t.ah i t.fin) t.ah (t.ah.length+1) ((0:Nat):Int) []=S at hs ju;generalize dJ fW t.inner=G'' at hs hw
  rcases hs with ⟨h1,h2⟩ | ⟨h1,h2⟩
  .left;rw[h1] at ju;simp only[pX,CW,ck] at ju;refine⟨by rw[hr,ju];exact h1,?_⟩;rw[hr,ju];have hc:G''.1.close=G''.1:=by simp[ab.close,ab.ok,h2]
   simp[iZ,hw,ab.under,hc,h2]
  .rw[h1] at ju;simp only[qt] at ju;rw[h2] at hw
   by_cases hn:S.2.next<t.ah.length
   .left;rw[aD hn] at ju;refine⟨by rw[hr,ju];rfl,?_⟩;rw[hr,ju];simp[iZ,hw,ab.under,ab.close,ab.ok,hn,ab.fail,B4,dL]
   .right;rw[aB hn] at ju;refine⟨by rw[hr,ju];exact h1,?_⟩;rw[hr,ju];simp[iZ,hw,ab.under,ab.close,hn]
def Alike(one:ab->Nd × ab)(g:List ar->Int->Int->ca):Prop:=∀(l:List ar) (a fin:Int),
 (g l a fin).aE=aa/\(one ⟨l,a,fin,ae⟩).2.aE=U (g l a fin).pos\/(g l a fin).aE=ak/\one ⟨l,a,fin,ae⟩=((g l a fin).node,⟨l,(g l a fin).next,fin,ae⟩)
def NP{one:ab->Nd × ab}{g:List ar->Int->Int->ca}(H:Alike one g)(Gk:tO g)(l:List ar)(fin:Int):∀(m n:Nat) (a:Nat) (out:List Nd),l.length+1<=m+a->l.length<=n+a->a<=l.length ->
 (fV (λi=>g l i fin) l m a out).2.aE=aa/\(iG (b_ one) n (b_ one (⟨l,a,fin,ae⟩,out))).1.aE=U (fV (λi=>g l i fin) l m a out).2.pos \/
 (fV (λi=>g l i fin) l m a out).2.aE=ak/\iG (b_ one) n (b_ one (⟨l,a,fin,ae⟩,out))=(⟨l,(fV (λi=>g l i fin) l m a out).2.next,fin,ae⟩,(fV (λi=>g l i fin) l m a out).1)
 | 0,n,a,out,hm,hn,ha=>by omega
 | m + 1, n, a, out, hm, hn, ha => by
  rcases H l a fin with ⟨h1,h2⟩ | ⟨h1,h2⟩
  .left;have e:(b_ one (⟨l,a,fin,ae⟩,out)).1.aE=U (g l a fin).pos:=h2;rw[Rz (by rw[e];simp)];simp only[fV,h1,cC];exact⟨trivial,e⟩
  .have hA:=Gk l a fin h1;have e:b_ one (⟨l,a,fin,ae⟩,out)=(⟨l,(g l a fin).next,fin,ae⟩,out++[(g l a fin).node]):=by simp[b_,h2]
   rw[e];simp only[fV,h1,di,ck];cases vU:bx l (g l a fin).next 44
   .right;rw[RA (by simp[mb,vU])];simp[h1]
   .obtain⟨b,hb⟩:=Co (show 0<=(g l a fin).next by omega);obtain⟨j2,t2,hj2,_,_,kK⟩:=x9 vU;obtain⟨n,rfl⟩:∃k,n=k+1:=⟨n - 1,by omega⟩;simp only[iG,mb,vU,cC,lN vU];have ih:=NP H Gk l fin m n (b+1) (out++[(g l a fin).node]) (by omega) (by omega) (by omega);rw[show(g l a fin).next+1=((b+1:Nat):Int) by omega];exact ih
variable{g:List ar->Int->Int->ca}
def ase(t:ar)(empty:Bool)(h:¬(empty=aa/\t.ah.length=0)):wholeAt g t empty=if (fV (λi=>g t.ah i t.fin) t.ah (t.ah.length+1) ((0:Nat):Int) []).2.aE=ak/\(fV (λi=>g t.ah i t.fin) t.ah (t.ah.length+1) ((0:Nat):Int) []).2.next<t.ah.length then([],dL t.ah (fV (λi=>g t.ah i t.fin) t.ah (t.ah.length+1) ((0:Nat):Int) []).2.next t.fin)
 else fV (λi=>g t.ah i t.fin) t.ah (t.ah.length+1) ((0:Nat):Int) []:=by
 unfold wholeAt;rw[aB h];simp
def PS{step:ab × List G->ab × List G}{conv:List Nd->List G}(hc:conv []=[]){fin:Int}{kind:Int}(hk:bx l a kind=aa)(empty:Bool)
 (hs:∀t:ar,(fV (λi=>g t.ah i t.fin) t.ah (t.ah.length+1) ((0:Nat):Int) []).2.aE=aa/\(dJ step t.inner).1.aE=U (fV (λi=>g t.ah i t.fin) t.ah (t.ah.length+1) ((0:Nat):Int) []).2.pos \/
   (fV (λi=>g t.ah i t.fin) t.ah (t.ah.length+1) ((0:Nat):Int) []).2.aE=ak/\dJ step t.inner=(⟨t.ah,(fV (λi=>g t.ah i t.fin) t.ah (t.ah.length+1) ((0:Nat):Int) []).2.next,t.fin,ae⟩,conv (fV (λi=>g t.ah i t.fin) t.ah (t.ah.length+1) ((0:Nat):Int) []).1)) :
 (wholeAt g (bG l a) empty).2.aE=aa/\((⟨l,a,fin,ae⟩:ab).bracket step kind empty).2.aE=U (wholeAt g (bG l a) empty).2.pos \/
 (wholeAt g (bG l a) empty).2.aE=ak/\(⟨l,a,fin,ae⟩:ab).bracket step kind empty=((conv (wholeAt g (bG l a) empty).1,(fB l a).pos),⟨l,a+1,fin,ae⟩):=by
 have uO:(bG l a).tok=fB l a:=vj hk;have hb:(⟨l,a,fin,ae⟩:ab).bracket step kind empty=(((ab.inside step empty (bG l a)).2,(fB l a).pos),(⟨l,a+1,fin,ae⟩:ab).under (ab.inside step empty (bG l a)).1):=by
  simp[ab.bracket,lN hk,ab.ok,uO]
 rw[hb];have hs:=hs (bG l a);generalize bG l a=t at hs ⊢
 by_cases he:empty=aa/\t.ah.length=0
 .right;have e1:ab.inside step empty t=(t.inner,[]):=by unfold ab.inside;rw[aD he]
  have e2:wholeAt g t empty=([],⟨.zero,0,ak,0⟩):=by unfold wholeAt;rw[aD he]
  rw[e1,e2];refine⟨rfl,?_⟩;simp[ab.under,ab.close,ar.inner,he.2,hc]
 .have e1:ab.inside step empty t=dJ step t.inner:=by unfold ab.inside;rw[aB he]
  rw[e1];have ju:=ase (g:=g) t empty he;generalize fV (λi=>g t.ah i t.fin) t.ah (t.ah.length+1) ((0:Nat):Int) []=S at hs ju;generalize dJ step t.inner=G'' at hs ⊢
  rcases hs with ⟨h1,h2⟩ | ⟨h1,h2⟩
  .left;rw[h1] at ju;simp only[pX,CW,ck] at ju;rw[ju];have hc:G''.1.close=G''.1:=by simp[ab.close,ab.ok,h2]
   exact⟨h1,by simp[ab.under,hc,h2]⟩
  .rw[h1] at ju;simp only[qt] at ju;rw[h2]
   by_cases hn:S.2.next<t.ah.length
   .left;rw[aD hn] at ju;rw[ju];exact⟨rfl,by simp[ab.under,ab.close,ab.ok,hn,ab.fail,B4,dL]⟩
   .right;rw[aB hn] at ju;rw[ju];exact⟨h1,by simp[ab.under,ab.close,hn]⟩
def Mu{one:ab->Nd × ab}(H:Alike one g)(Gk:tO g){fin kind:Int}(hk:bx l a kind=aa)(empty:Bool):
 (wholeAt g (bG l a) empty).2.aE=aa/\((⟨l,a,fin,ae⟩:ab).nodes one kind empty).2.aE=U (wholeAt g (bG l a) empty).2.pos \/
 (wholeAt g (bG l a) empty).2.aE=ak/\(⟨l,a,fin,ae⟩:ab).nodes one kind empty=(((wholeAt g (bG l a) empty).1,(fB l a).pos),⟨l,a+1,fin,ae⟩) :=
 PS (conv:=id) rfl hk empty λt=>NP H Gk t.ah t.fin (t.ah.length+1) t.ah.length 0 [] (by omega) (by omega) (by omega)
def Xb{fin:Int}(hk:bx l a 123=aa)(empty:Bool):
 (wholeAt nameAt (bG l a) empty).2.aE=aa/\((⟨l,a,fin,ae⟩:ab).words empty).2.aE=U (wholeAt nameAt (bG l a) empty).2.pos \/
 (wholeAt nameAt (bG l a) empty).2.aE=ak/\(⟨l,a,fin,ae⟩:ab).words empty=((sn (wholeAt nameAt (bG l a) empty).1,(fB l a).pos),⟨l,a+1,fin,ae⟩) :=
 PS (conv:=sn) rfl hk empty λt=>NS t.ah t.fin (t.ah.length+1) t.ah.length 0 [] [] rfl (by omega) (by omega) (by omega)
def BP(k:Int):Alike (ab.leaf k) (td k):=λl a fin=>by
 unfold td;cases h:bx l a 97
 .left;simp[ab.leaf,ab.word,me h,dL]
 .right;simp[ab.leaf,ab.word,lN h,vj h]
def apq:Alike ab.ng An:=λl a fin=>by
 unfold An ab.ng;cases h:bx l a 97
 .left;have hb:∀r:ab,r.aE≠ae->((r.take 58).2.words aa).2.aE=r.aE:=λr hr=>by
   obtain⟨x,hx⟩:∃x,r.aE=U x:=by cases hq:r.aE with | none=>exact absurd hq hr | some x=>exact⟨x,rfl⟩
   have e:r.take 58=(.zero,r):=by simp[ab.take,ab.bR,ab.ok,hx,ab.fail]
   have e2:r.take 123=(.zero,r):=by simp[ab.take,ab.bR,ab.ok,hx,ab.fail]
   simp[e,ab.words,ab.bracket,e2,ab.ok,hx]
  simp only[ab.word,me h,cC];exact⟨rfl,hb _ (by simp)⟩
 simp only[ab.word,lN h,pX,ck];cases h2:bx l (a+1) 58
 .left;simp only[me h2,cC];refine⟨rfl,?_⟩;simp[ab.words,ab.bracket,ab.take,ab.bR,ab.ok,ab.fail,dL]
 simp only[lN h2,pX,ck];have e2:a+1+1=a+2:=by omega
 rw[e2];cases h3:bx l (a+2) 123
 .left;simp only[cC];refine⟨rfl,?_⟩;simp[ab.words,ab.bracket,me h3,ab.ok,dL]
 simp only[pX,ck]
 rcases Xb (fin:=fin) h3 aa with ⟨p1,p2⟩ | ⟨p1,p2⟩
 .left;rw[aD p1];exact⟨p1,p2⟩
 .right;rw[p1];simp only[di,ck];refine⟨trivial,?_⟩;rw[p2];simp[vj h];omega
def q_{k':Int}(h:bx l a k=aa)(aQ:k≠k'):bx l a k' = false:=by
 cases hq:bx l a k' with
 | false=>rfl
 | true =>
  obtain⟨j,t,rfl,hj,hk,_⟩:=x9 h;obtain⟨j',t',e,gI,jR,_⟩:=x9 hq;obtain rfl:j' = j:=by omega
  rw[hj] at gI;simp only[aY] at gI;subst gI;exact absurd (hk.symm.trans jR) aQ
def Qj:∀n,Alike (ab.constant n) (p9 n)
 | 0=>BP 2
 | n + 1 => λl a fin => by
  simp only[p9,ab.constant,mb];cases gd:bx l a 97
  case true =>
   simp only[q_ gd (show(97:Int)≠123 by decide),q_ gd (show(97:Int)≠40 by decide),q_ gd (show(97:Int)≠91 by decide),di,ck,cC];exact BP 2 l a fin
  simp only[di,ck];cases J3:bx l a 123
  case true =>
   simp only[cC]
   rcases Xb (fin:=fin) J3 aa with ⟨p1,p2⟩ | ⟨p1,p2⟩
   .left;unfold mw;rw[aD p1];exact⟨p1,p2⟩
   .right;unfold mw;rw[p1,p2];exact⟨rfl,rfl⟩
  simp only[di,ck];cases Ge:bx l a 40
  case true =>
   simp only[cC]
   rcases Mu (Qj n) (Pf n) (fin:=fin) Ge ak with ⟨p1,p2⟩ | ⟨p1,p2⟩
   .left;unfold mw;rw[aD p1];exact⟨p1,p2⟩
   .right;unfold mw;rw[p1,p2];exact⟨rfl,rfl⟩
  simp only[di,ck];cases Gg:bx l a 91
  case true =>
   simp only[cC]
   rcases Mu apq X8 (fin:=fin) Gg aa with ⟨p1,p2⟩ | ⟨p1,p2⟩
   .left;unfold mw;rw[aD p1];exact⟨p1,p2⟩
   .right;unfold mw;rw[p1,p2];exact⟨rfl,rfl⟩
  simp only[di,ck];left;simp[ab.leaf,ab.word,me gd,dL]
def Zz{step:ab × List G->ab × List G}{fin kind:Int}(h:bx l a kind=ak):(⟨l,a,fin,ae⟩:ab).bracket step kind e=(([],0),⟨l,a,fin,U (np l a fin)⟩):=by
 simp[ab.bracket,me h,ab.ok]
def aaW{n:Nat}{fin:Int}(f:Nd->Nd):
 ((p9 n l a fin).put f).aE=aa/\(ab.constant n ⟨l,a,fin,ae⟩).2.aE=U ((p9 n l a fin).put f).pos\/((p9 n l a fin).put f).aE=ak/\(f (ab.constant n ⟨l,a,fin,ae⟩).1,(ab.constant n ⟨l,a,fin,ae⟩).2)=(((p9 n l a fin).put f).node,⟨l,((p9 n l a fin).put f).next,fin,ae⟩):=by
 unfold ca.put
 rcases Qj n l a fin with ⟨p1,p2⟩ | ⟨p1,p2⟩
 .left;rw[aD p1];exact⟨p1,p2⟩
 .right;rw[p1,p2];exact⟨rfl,rfl⟩
def Ft(n:Nat)(l:List ar)(a fin:Int):ca:=if bx l a 35=aa then(p9 n l (a+1) fin).put λm=>.mk 7 (fB l a).pos [] [] [m] else td 1 l a fin
def Pw(n:Nat):Alike (ab.atom n) (Ft n):=λl a fin=>by
 unfold Ft;simp only[ab.atom,mb];cases rI:bx l a 35
 .simp only[di,ck];exact BP 1 l a fin
 .simp only[cC,lN rI,vj rI]
  rcases aaW (n:=n) (l:=l) (a:=a+1) (fin:=fin) (λm=>.mk 7 (fB l a).pos [] [] [m]) with ⟨p1,p2⟩ | ⟨p1,p2⟩
  .exact .inl ⟨p1,p2⟩
  .exact .inr ⟨p1,p2⟩
def LQ:∀n,Alike (ab.label n) (iT n)
 | 0=>BP 1
 | n + 1 => λl a fin => by
  have sign:∀(k:Int),bx l a k=aa->∀kd,(kd=8\/kd=9) ->
   let x:Nd × ab:=(.mk kd ((⟨l,a,fin,ae⟩:ab).take k).1.tok.pos [] [] (((⟨l,a,fin,ae⟩:ab).take k).2.nodes (ab.label n) 40 ak).1.1,(((⟨l,a,fin,ae⟩:ab).take k).2.nodes (ab.label n) 40 ak).2)
   let g:=if bx l (a+1) 40=ak then dL l (a+1) fin else mw (wholeAt (iT n) (bG l (a+1)) ak) (λks=>.mk kd (fB l a).pos [] [] ks) (a+2)
   g.aE=aa/\x.2.aE=U g.pos\/g.aE=ak/\x=(g.node,⟨l,g.next,fin,ae⟩):=λk hk kd _=>by
   simp only[lN hk,vj hk];cases Ge:bx l (a+1) 40
   .left;simp only[cC];unfold ab.nodes;rw[Zz Ge];exact⟨rfl,rfl⟩
   .simp only[pX,ck];have e2:a+1+1=a+2:=by omega
    rcases Mu (LQ n) (Fk n) (fin:=fin) Ge ak with ⟨p1,p2⟩ | ⟨p1,p2⟩
    .left;unfold mw;rw[aD p1];exact⟨p1,p2⟩
    .right;unfold mw;rw[p1,p2,e2];exact⟨rfl,rfl⟩
  simp only[iT,ab.label,mb];cases gd:bx l a 97
  case true =>
   simp only[q_ gd (show(97:Int)≠43 by decide),q_ gd (show(97:Int)≠38 by decide),di,ck,cC]
   have:=Pw (n+1) l a fin
   unfold Ft at this;rw[q_ gd (show(97:Int)≠35 by decide)] at this;exact this
  simp only[di,ck];cases rI:bx l a 35
  case true =>
   simp only[q_ rI (show(35:Int)≠43 by decide),q_ rI (show(35:Int)≠38 by decide),di,ck,cC]
   have:=Pw (n+1) l a fin
   unfold Ft at this;rw[aD rI] at this;exact this
  simp only[di,ck];cases vT:bx l a 43
  case true =>
   simp only[pX,CW,ck,cC,q_ vT (show(43:Int)≠38 by decide),di];exact sign 43 vT 8 (.inl rfl)
  simp only[di,ck,qt];cases xA:bx l a 38
  case true =>
   simp only[pX,ck,cC];exact sign 38 xA 9 (.inr rfl)
  simp only[di,ck,cC];left;refine⟨rfl,?_⟩;simp[ab.atom,mb,rI,ab.leaf,ab.word,me gd,dL]
def YZ(n:Nat)(l:List ar)(a fin:Int):(rC n l a fin).aE=aa/\(ab.atom n ⟨l,a,fin,ae⟩).2.aE=U (rC n l a fin).pos\/(rC n l a fin).aE=ak/\ab.atom n ⟨l,a,fin,ae⟩=((rC n l a fin).node,⟨l,(rC n l a fin).next,fin,ae⟩)\/n=0/\bx l a 35=true:=by
 cases n with
 | zero =>
  cases rI:bx l a 35
  .unfold rC iT
   by_cases h:bx l a 43=aa\/bx l a 38=aa
   .left;rw[aD h];have gd:bx l a 97=false:=by rcases h with h | h<;>exact q_ h (by decide)
    exact⟨rfl,by simp[ab.atom,mb,rI,ab.leaf,ab.word,me gd,dL]⟩
   .rw[aB h]
    have:=BP 1 l a fin
    simp only[ab.atom,mb,rI,di,ck]
    rcases this with h | h
    .exact .inl h
    .exact .inr (.inl h)
  .exact .inr (.inr ⟨rfl,rfl⟩)
 | succ n =>
  unfold rC
  by_cases h:bx l a 43=aa\/bx l a 38=aa
  .left;rw[aD h];have gd:bx l a 97=false:=by rcases h with h | h<;>exact q_ h (by decide)
   have rI:bx l a 35=false:=by rcases h with h | h<;>exact q_ h (by decide)
   exact⟨rfl,by simp[ab.atom,mb,rI,ab.leaf,ab.word,me gd,dL]⟩
  .rw[aB h];have vT:bx l a 43=false:=by cases hq:bx l a 43 with | false=>rfl | true=>exact absurd (.inl hq) h
   have xA:bx l a 38=false:=by cases hq:bx l a 38 with | false=>rfl | true=>exact absurd (.inr hq) h
   have:=LQ (n+1) l a fin
   simp only[ab.label,mb,vT,xA,di,ck] at this
   rcases this with h | h
   .exact .inl h
   .exact .inr (.inl h)
def adF(n:Nat):Alike (ab.field (n+1)) (zg (n+1)):=λl a fin=>by
 have fp:∀(b:Int),∀r:ab,r.aE=U b->∀m,(ab.atom m r).2.aE=U b:=λb r hr m=>by
  have e:∀k,r.bR k=false:=λk=>by simp[ab.bR,ab.ok,hr]
  have e2:r.take 97=(.zero,r):=by simp[ab.take,e,ab.fail,hr]
  simp[ab.atom,e,ab.leaf,ab.word,e2,hr]
 unfold zg ab.field;cases h:bx l a 97
 .left;simp only[ab.word,me h,cC];refine⟨rfl,fp _ _ ?_ _⟩;simp[ab.take,ab.bR,ab.ok,ab.fail,dL]
 simp only[ab.word,lN h,pX,ck];cases h2:bx l (a+1) 61
 .left;simp only[me h2,cC];exact⟨rfl,fp _ _ rfl _⟩
 simp only[lN h2,pX,ck];have e2:a+1+1=a+2:=by omega
 rw[e2];unfold ca.put
 rcases YZ (n+1) l (a+2) fin with ⟨p1,p2⟩ | ⟨p1,p2⟩ | ⟨h0,_⟩
 .left;rw[aD p1];exact⟨p1,p2⟩
 .right;rw[p1,p2,vj h];exact⟨rfl,rfl⟩
 .omega
def Vx{fin:Int}{nx:Int}{X:(ab × List Nd) × List au}(r1:ab)(hr:r1=⟨(bG l a).ah,nx,(bG l a).fin,ae⟩)
 (hX:X=if r1.bR 124=aa then(((r1.take 124).2.word.2,ks),[(r1.take 124).2.word.1]) else((r1,ks),[])) :
 (rk l a ks nx).aE=aa/\((⟨l,a+1,fin,ae⟩:ab).under X.1.1).aE=U (rk l a ks nx).pos \/
 (rk l a ks nx).aE=ak/\((Nd.mk 10 (fB l a).pos [] X.2 X.1.2,(⟨l,a+1,fin,ae⟩:ab).under X.1.1):Nd × ab)=((rk l a ks nx).node,⟨l,(rk l a ks nx).next,fin,ae⟩):=by
 subst hr;unfold rk;simp only[mb] at hX;cases J4:bx (bG l a).ah nx 124
 .rw[J4] at hX;simp only[di,ck] at hX ⊢;subst hX;unfold wG
  by_cases hn:nx<(bG l a).ah.length
  .left;rw[aD hn];exact⟨rfl,by simp[ab.under,ab.close,ab.ok,hn,ab.fail,B4,dL]⟩
  .right;rw[aB hn];exact⟨rfl,by simp[ab.under,ab.close,hn]⟩
 .rw[J4] at hX;simp only[cC,lN J4] at hX ⊢;cases gd:bx (bG l a).ah (nx+1) 97
  .left;have e:nameAt (bG l a).ah (nx+1) (bG l a).fin=dL (bG l a).ah (nx+1) (bG l a).fin:=Ua gd;rw[e];simp only[dL,cC];subst hX;exact⟨trivial,by simp[ab.word,me gd,ab.under,ab.close,ab.ok]⟩
  .rw[Ub gd];simp only[di,ck];have hw:(⟨(bG l a).ah,nx+1,(bG l a).fin,ae⟩:ab).word=(⟨(fB (bG l a).ah (nx+1)).al,(fB (bG l a).ah (nx+1)).pos⟩,⟨(bG l a).ah,nx+1+1,(bG l a).fin,ae⟩):=by
    simp[ab.word,lN gd,vj gd]
   rw[hw] at hX;subst hX;unfold wG
   by_cases hn:nx+1+1<(bG l a).ah.length
   .left;rw[aD hn];exact⟨rfl,by simp[ab.under,ab.close,ab.ok,hn,ab.fail,B4,dL]⟩
   .right;rw[aB hn];exact⟨rfl,by simp[ab.under,ab.close,hn,sn,Nd.al,Nd.pos]⟩
def api(n:Nat):Alike (ab.row (n+1)) (lK (n+1)):=λl a fin=>by
 unfold lK;simp only[ab.row,mb];cases gd:bx l a 97
 case true =>
  simp only[q_ gd (show(97:Int)≠91 by decide),di,ck,cC]
  have:=BP 1 l a fin
  simp only[iT,gd,cC];exact this
 simp only[di,ck];cases Gg:bx l a 91
 case false =>
  left;simp only[di,ck,cC];exact⟨rfl,by simp[ab.leaf,ab.word,me gd,dL]⟩
 simp only[pX,ck,cC,lN Gg,vj Gg];have ey:(bG l a).inner=⟨(bG l a).ah,0,(bG l a).fin,ae⟩:=rfl
 by_cases iJ:0<(bG l a).ah.length/\bx (bG l a).ah 0 124=ak
 .rw[aD iJ];have hX:ab.rowOf (n+1) (bG l a)=if (dJ (b_ (ab.field (n+1))) (bG l a).inner).1.bR 124=aa then((((dJ (b_ (ab.field (n+1))) (bG l a).inner).1.take 124).2.word.2,(dJ (b_ (ab.field (n+1))) (bG l a).inner).2),[((dJ (b_ (ab.field (n+1))) (bG l a).inner).1.take 124).2.word.1]) else(dJ (b_ (ab.field (n+1))) (bG l a).inner,[]):=by
   unfold ab.rowOf ab.mD;rw[aB (by omega)]
   have:(bG l a).inner.bR 124=false:=by rw[ey,mb];exact iJ.2
   simp[this]
  have hs:(u_ (n+1) l a).2.aE=aa/\(dJ (b_ (ab.field (n+1))) (bG l a).inner).1.aE=U (u_ (n+1) l a).2.pos\/(u_ (n+1) l a).2.aE=ak/\dJ (b_ (ab.field (n+1))) (bG l a).inner=(⟨(bG l a).ah,(u_ (n+1) l a).2.next,(bG l a).fin,ae⟩,(u_ (n+1) l a).1) :=
   NP (adF n) (X6 (n+1)) (bG l a).ah (bG l a).fin ((bG l a).ah.length+1) (bG l a).ah.length 0 [] (by omega) (by omega) (by omega)
  generalize dJ (b_ (ab.field (n+1))) (bG l a).inner=G'' at hX hs;generalize u_ (n+1) l a=S at hs ⊢
  rcases hs with ⟨p1,p2⟩ | ⟨p1,p2⟩
  .left;rw[aD p1];have kM:G''.1.bR 124=false:=by simp[ab.bR,ab.ok,p2]
   rw[hX,kM];simp only[di,ck];have hc:G''.1.close=G''.1:=by simp[ab.close,ab.ok,p2]
   exact⟨p1,by simp[ab.under,hc,p2]⟩
  .rw[p1];simp only[di,ck];rw[p2] at hX;exact Vx _ rfl hX
 .rw[aB iJ];refine Vx (ks:=[]) (nx:=0) (bG l a).inner ey ?_;unfold ab.rowOf ab.mD
  by_cases hk:(bG l a).ah.length=0
  .rw[aD hk]
   have:(bG l a).inner.bR 124=false:=by rw[ey,mb];simp[jq.1 hk,bx]
   rw[this];simp
  .rw[aB hk];have h0:bx (bG l a).ah 0 124=true:=by
    cases hq:bx (bG l a).ah 0 124 with
    | true=>rfl
    | false=>exact absurd ⟨by omega,hq⟩ iJ
   have:(bG l a).inner.bR 124=true:=by rw[ey,mb];exact h0
   simp only[this,cC]
def Vp{one:ab->Nd × ab}(H:Alike one g)(l:List ar)(a fin:Int):
 (g l a fin).aE=aa/\fi one l a fin=(.zero,0,U (g l a fin).pos)\/(g l a fin).aE=ak/\fi one l a fin=((g l a fin).node,(g l a fin).next,ae):=by
 unfold fi
 rcases H l a fin with ⟨p1,p2⟩ | ⟨p1,p2⟩
 .left;rw[p2];exact⟨p1,rfl⟩
 .right;rw[p2];exact⟨p1,rfl⟩
def EH{fin:Int}(h:bx l a 97=aa):(⟨l,a,fin,ae⟩:ab).word=(yG l a,⟨l,a+1,fin,ae⟩):=by
 simp[ab.word,lN h,vj h,yG]
def EG{fin:Int}(h:bx l a 97=ak):(⟨l,a,fin,ae⟩:ab).word=(⟨[],0⟩,⟨l,a,fin,U (np l a fin)⟩):=by
 simp[ab.word,me h,ar.zero,ar.tok]
def H5{fin b:Int}:(⟨l,a,fin,U b⟩:ab).take k=(.zero,⟨l,a,fin,U b⟩):=by
 simp[ab.take,ab.bR,ab.ok,ab.fail]
def W_{fin b:Int}:(⟨l,a,fin,U b⟩:ab).word=(⟨[],0⟩,⟨l,a,fin,U b⟩):=by
 simp[ab.word,H5,ar.zero,ar.tok]
def yl{i:ab}{b:Int}(h:i.aE=U b):∀n acc,(ab.fT n i acc).1.aE=U b
 | 0,_=>h
 | n+1,_=>by simp[ab.fT,h]
section
variable {N:Int} (h0:0<=N)
include h0
theorem UI{l:List ar}{fin:Int}(hl:la N l)(hf:In N fin):∀(n a:Nat) (acc:List (au × au)),l.length<n+a->a<=l.length ->
 (uZ l fin n a acc).2 = -1/\(ab.fT n ⟨l,a,fin,ae⟩ acc).1.aE=ae/\(ab.fT n ⟨l,a,fin,ae⟩ acc).2=(uZ l fin n a acc).1 \/
 In N (uZ l fin n a acc).2/\(ab.fT n ⟨l,a,fin,ae⟩ acc).1.aE=U (uZ l fin n a acc).2
 | 0,a,acc,hn,ha=>by omega
 | n + 1, a, acc, hn, ha => by
  simp only[ab.fT,uZ,ne_eq,Hx,ck];cases h1:bx l (a:Nat) 97
  .right;simp only[cC,EG h1,H5,W_];refine⟨si h0 hl hf,?_⟩;split
   .rfl
   .exact yl rfl _ _
  simp only[EH h1,pX,ck];cases h2:bx l ((a+1:Nat):Int) 60
  .right;have vS : bx l ((a:Int)+1) 60=false:=h2;simp only[cC,me vS,W_,H5];refine⟨si h0 hl hf,?_⟩;split
   .rfl
   .exact yl rfl _ _
  have vS : bx l ((a:Int)+1) 60=true:=h2;simp only[lN vS,pX,ck];rw[show(a:Int)+1+1=((a+2:Nat):Int) by omega];cases h3:bx l ((a+2:Nat):Int) 97
  .right;simp only[cC,EG h3,H5];refine⟨si h0 hl hf,?_⟩;split
   .rfl
   .exact yl rfl _ _
  have kK:=(qi h3).2;simp only[EH h3,pX,ck];rw[show((a+2:Nat):Int)+1=((a+3:Nat):Int) by omega]
  by_cases iu:a+3=l.length
  .left;rw[aD iu,aD (show((a+3:Nat):Int)=(l.length:Int) by omega)];exact⟨rfl,rfl,rfl⟩
  rw[aB iu,aB (show ¬((a+3:Nat):Int)=(l.length:Int) by omega)];cases h4:bx l ((a+3:Nat):Int) 44
  .right;simp only[cC,me h4];exact⟨si h0 hl hf,yl rfl _ _⟩
  simp only[lN h4,pX,ck];rw[show((a+3:Nat):Int)+1=((a+4:Nat):Int) by omega];exact UI hl hf n (a+4) _ (by omega) (by omega)
def PA(l:List ar)(fin:Int)(P:ab × aq)(R:aq × Int × Int):Prop :=
 0<=R.2.2/\P.1.aE=U R.2.2\/R.2.2<0/\P=(⟨l,R.2.1,fin,ae⟩,R.1)
def He(ks:List UInt8):Prop:=∀k∈ks,k=110\/k=102\/k=119\/k=112\/k=116\/k=114
theorem anF{fin:Int}(hl:la N l)(hf:In N fin)(hm:0<a9 l){k:UInt8}(c:aq)(a:Nat)(hk:k=110\/k=102\/k=119\/k=112\/k=116\/k=114)(hp:k=112->c.bh=[]):
 PA l fin (c9 k (⟨l,a,fin,ae⟩,c)) (lJ k c l a fin):=by
 have hs:∀b,In N (np l b fin):=λb=>si h0 hl hf
 rcases hk with rfl | rfl | rfl | rfl | rfl | rfl
 .simp only[c9,lJ];cases h:bx l (a:Nat) 97
  .left;simp[EG h];exact(hs _).1
  .right;simp[EH h]
 .simp only[c9,lJ];cases h:bx l (a:Nat) 97
  .left;simp[EG h];exact(hs _).1
  .right;simp[EH h]
 .have hi:=Xd h0 (a:=(a:Nat)) hl hf
  rcases asm l (a:Nat) fin with ⟨p1,p2⟩ | ⟨p1,p2⟩
  .left;simp[c9,lJ,p1,p2];exact hi.1
  .right;simp[c9,lJ,p1,p2]
 .have hp:=hp rfl;cases h:bx l (a:Nat) 123
  .left;simp[c9,lJ,oH,me h,h];exact(hs _).1
  .obtain⟨hk,qS⟩:=H9 h0 (a:=(a:Nat)) hl;have ha:=UI h0 hk qS ((bG l (a:Nat)).ah.length+1) 0 [] (by omega) (by omega);have ey:(bG l (a:Nat)).inner=⟨(bG l (a:Nat)).ah,((0:Nat):Int),(bG l (a:Nat)).fin,ae⟩:=rfl
   by_cases hz:(bG l (a:Nat)).ah.length=0
   .right;simp only[c9,lJ,oH,lN h,h,BX];simp[hz,hp]
   .simp only[c9,lJ,oH,lN h,h,BX,ey];generalize ab.fT ((bG l (a:Nat)).ah.length+1) ⟨(bG l (a:Nat)).ah,((0:Nat):Int),(bG l (a:Nat)).fin,ae⟩ []=G'' at ha ⊢;generalize uZ (bG l (a:Nat)).ah (bG l (a:Nat)).fin ((bG l (a:Nat)).ah.length+1) 0 []=F at ha ⊢
    rcases ha with ⟨p1,p2,p3⟩ | ⟨p1,p2⟩
    .right;simp[hz,p1,p2,p3,ab.ue]
    .left
     have:=p1.1
     simp[hz,p2,ab.ue];exact this
 .have hi:=DR h0 (a9 l) l (a:Nat) fin hl hf;obtain⟨m,hm⟩:∃m,a9 l=m+1:=⟨a9 l - 1,by omega⟩;rw[hm] at hi;have e1:lJ 116 c l (a:Nat) fin=if (iT (a9 l) l (a:Nat) fin).aE=aa then(c,(a:Int),(iT (a9 l) l (a:Nat) fin).pos) else(if c.left.kind=0 then {c with left:=(iT (a9 l) l (a:Nat) fin).node} else {c with right:=(iT (a9 l) l (a:Nat) fin).node},(iT (a9 l) l (a:Nat) fin).next,-1):=rfl
  have e2:c9 116 (⟨l,a,fin,ae⟩,c)=iM ⟨l,a,fin,ae⟩ c (fi (ab.label (a9 l)) l (a:Nat) fin):=rfl;rw[e1,e2,hm];have ha:=Vp (LQ (m+1)) l (a:Nat) fin;generalize fi (ab.label (m+1)) l (a:Nat) fin=T at ha ⊢;generalize iT (m+1) l (a:Nat) fin=g at ha hi ⊢
  rcases ha with ⟨p1,p2⟩ | ⟨p1,p2⟩
  .left;rw[aD p1,p2];exact⟨hi.1,rfl⟩
  .right;rw[aB (by simp[p1]),p2];exact⟨show(-1:Int)<0 by decide,rfl⟩
 .have hi:=Vy h0 (a9 l) l (a:Nat) fin hl hf;obtain⟨m,hm⟩:∃m,a9 l=m+1:=⟨a9 l - 1,by omega⟩;rw[hm] at hi;have e1:lJ 114 c l (a:Nat) fin=if (lK (a9 l) l (a:Nat) fin).aE=aa then(c,(a:Int),(lK (a9 l) l (a:Nat) fin).pos) else(if c.left.kind=0 then {c with left:=(lK (a9 l) l (a:Nat) fin).node} else {c with right:=(lK (a9 l) l (a:Nat) fin).node},(lK (a9 l) l (a:Nat) fin).next,-1):=rfl
  have e2:c9 114 (⟨l,a,fin,ae⟩,c)=iM ⟨l,a,fin,ae⟩ c (fi (ab.row (a9 l)) l (a:Nat) fin):=rfl;rw[e1,e2,hm];have ha:=Vp (api m) l (a:Nat) fin;generalize fi (ab.row (m+1)) l (a:Nat) fin=T at ha ⊢;generalize lK (m+1) l (a:Nat) fin=g at ha hi ⊢
  rcases ha with ⟨p1,p2⟩ | ⟨p1,p2⟩
  .left;rw[aD p1,p2];exact⟨hi.1,rfl⟩
  .right;rw[aB (by simp[p1]),p2];exact⟨show(-1:Int)<0 by decide,rfl⟩
theorem HJ{b:Int}:∀(ks:List UInt8) (x:ab × aq),x.1.aE=U b->(hD ks x).1.aE=U b
 | [],_,h=>h
 | k :: ks, x, h => by
  simp only[hD];exact HJ ks _ (by simp[c9,h])
theorem anE{k:UInt8}{fin:Int}(hk:k≠112):(lJ k c l a fin).1.bh=c.bh:=by
 unfold lJ;split
 .split
  .split<;>rfl
  .rfl
 split
 .split<;>rfl
 generalize (if k=114 then lK (a9 l) l a fin else iT (a9 l) l a fin)=g;simp only[];cases g.aE
 .simp only[di,ck];split<;>rfl
 .rfl
theorem MO{l:List ar}{fin:Int}(hl:la N l)(hf:In N fin)(hm:0<a9 l):∀(ks:List UInt8) (c:aq) (a:Nat),He ks->ks.count 112<=1->(112∈ks->c.bh=[]) ->
 PA l fin (hD ks (⟨l,a,fin,ae⟩,c)) (u7 l fin ks c a)
 | [],c,a,_,_,_=>.inr ⟨by simp[u7],rfl⟩
 | k :: ks, c, a, hk, hc, hp => by
  have h1:=anF h0 hl hf hm c a (hk k (by simp)) (λh=>hp (by simp[h]));obtain⟨a',Gj,_⟩:=anD k c l a fin;have GK:=anE h0 (k:=k) (c:=c) (l:=l) (a:=(a:Nat)) (fin:=fin);simp only[hD,u7];generalize lJ k c l (a:Nat) fin=R at h1 Gj GK ⊢
  rcases h1 with ⟨p1,p2⟩ | ⟨p1,p2⟩
  .rw[aD p1];exact .inl ⟨p1,HJ h0 ks _ p2⟩
  .rw[aB (by omega),p2,Gj]
   by_cases e:k=112
   .have hn:ks.count 112=0:=by rw[e] at hc;rw[OJ] at hc;omega
    exact MO hl hf hm ks _ a' (λk h=>hk k (by simp[h])) (by omega) (λh=>absurd h (OK.1 hn))
   .refine MO hl hf hm ks _ a' (λk h=>hk k (by simp[h])) ?_ (λh=>?_)
    .rw[List.count_cons_of_ne e] at hc;exact hc
    .rw[GK e];exact hp (by simp[h])
end
def Uo{w:List UInt8}:∀n op,(∀k:Nat,op<=k->k<op+n->0<k->(cn k).1≠w)->mY w n op=0
 | 0,_,_=>rfl
 | n + 1, op, h => by
  simp only[mY];rw[aB (λ⟨x,y⟩=>h op (by omega) (by omega) x y)];exact Uo n (op+1) λk a b c=>h k (by omega) (by omega) c
def Uw{w:List UInt8}(r:Int):∀n op,(∀k:Nat,op<=k->k<op+n->(cn k).1≠w)->Af w n op r=r
 | 0,_,_=>rfl
 | n + 1, op, h => by
  simp only[Af];rw[aB (λe=>h op (by omega) (by omega) e.symm)];exact Uw r n (op+1) λk a b=>h k (by omega) (by omega)
def amb(w:List UInt8):iC w=Af w 15 1 0:=by
 by_cases h:∃k:Nat,k<16/\0<k/\(cn k).1=w
 .obtain⟨k,h1,h2,rfl⟩:=h;have key:∀k:Nat,k<16->0<k->mY (cn k).1 16 0=Af (cn k).1 15 1 0:=by decide +kernel
  exact key k h1 h2
 .have hn:∀k:Nat,k<16->0<k->(cn k).1≠w:=λk h1 h2 e=>h ⟨k,h1,h2,e⟩
  unfold iC;rw[Uo 16 0 (λk _ h1 h2=>hn k (by omega) h2),Uw 0 15 1 (λk h1 h2=>hn k (by omega) (by omega))]
def F6(op:Int):He (cn op).2/\(cn op).2.count 112<=1:=by
 unfold cn He;split
 .rename_i h1;have az:op.toNat<16:=by omega
  generalize op.toNat=n at az ⊢;have key:∀n<16,(∀k∈(jL.getD n ([],[])).2,k=110\/k=102\/k=119\/k=112\/k=116\/k=114)/\(jL.getD n ([],[])).2.count 112<=1:=by decide +kernel
  exact key n az
 .simp
def aaL(h0:0<=N){fin:Int}(hl:la N l)(hf:In N fin):sD l fin=um l fin:=by
 cases l with
 | nil=>rfl
 | cons t ts =>
  have hm:0<a9 (t::ts):=by have:=lI (t::ts);simp at this;omega
  have hk:bx (t::ts) ((0:Nat):Int) 97=decide (t.tok.kind=97):=by simp[bx]
  unfold sD um;simp only
  by_cases gd:t.tok.kind=97
  .have rL:bx (t::ts) 0 97=true:=by have:=hk;simp only[gd,bS] at this;exact this
   have hw:(⟨t::ts,0,fin,ae⟩:ab).word=(⟨t.tok.al,t.tok.pos⟩,⟨t::ts,((1:Nat):Int),fin,ae⟩):=by
    rw[EH rL];rfl
   simp only[hw,aD gd,<-amb];generalize iC t.tok.al=op
   by_cases hz:op=0
   .rw[aD hz,aD hz]
   .rw[aB hz,aB hz];obtain⟨f1,f2⟩:=F6 op;have Dx:=MO h0 hl hf hm (cn op).2 {aq.zero with op:=op,pos:=t.tok.pos} 1 f1 f2 (λ_=>rfl);rw[show((1:Nat):Int)=1 from rfl] at Dx ⊢;generalize u7 (t::ts) fin (cn op).2 {aq.zero with op:=op,pos:=t.tok.pos} 1=R at Dx ⊢
    rcases Dx with ⟨p1,p2⟩ | ⟨p1,p2⟩
    .rw[aD p1];unfold vN;simp[p2]
    .rw[aB (by omega),p2];unfold vN
     by_cases iu:R.2.1<((t::ts).length:Int)
     .rw[aD iu];simp only[qt,aD iu,ab.fail,B4]
     .rw[aB iu];simp only[qt,aB iu]
  .have rL:bx (t::ts) 0 97=false:=by have:=hk;simp only[gd,ff] at this;exact this
   rw[EG rL,aB gd]
   have:iC []=0:=by decide +kernel
   simp only[this,cC]
def aoX(s:List UInt8):cV s=Nb s:=by
 unfold cV Nb;rw[Az];have h:=(TG s).1;rw[aaL (N:=s.length) (by omega) h ⟨by omega,by omega⟩]
 all_goals rcases(dG s).2 with _ | a<;>first | rfl | (cases (gQ (dG s).1).2<;>rfl)
def MS(h:c.fq=aa)(h1:1<=c.op):∀q∈lF (cn c.op).2 [c.left,c.right],yT q.1 c q.2:=by
 simp only[aq.fq,bA,b7] at h;obtain⟨⟨⟨⟨h0,hn⟩,kM⟩,hp⟩,ht⟩:=h;obtain⟨hk,_,_⟩:=C2 h1 h0.2;simp only[aq.mB,aq.jW,aq.kW,aq.jA,eR] at hn kM hp ht;have nm:∀l,n8 (l.map au.al)=aa->hH l=true:=λl h=>alC h
 simp only[DO,kA,EZ,D'] at hk
 rcases hk with e | e | e | e | e | e | e
 all_goals simp[e] at hn kM hp ht
 all_goals simp[e,lF,isTerm,yT]
 .exact⟨hn,kM.1,nm _ kM.2⟩
 .exact⟨hn,⟨kM.1,nm _ kM.2⟩,hp⟩
 .exact⟨hn,ht.1,ht.2⟩
 .exact⟨hn,ht.1,ht.2⟩
 .exact⟨hn,kM.1,nm _ kM.2⟩
 .exact hn
mutual
def Nd.yq:∀(n m:Nd),n.cI m=aa->m.cI n=aa
 | .mk k p t ws ks, m, h => by
  rw[Nd.Aq] at h;simp only[bA,b7] at h;obtain⟨⟨⟨h1,h2⟩,h3⟩,h4⟩:=h;refine tF h1.symm h2.symm ?_ (V8 ks m.ah h4);rw[Ek] at h3 ⊢;simp only[b7] at h3 ⊢;exact h3.symm
def V8:∀(a b:List Nd),cX a b=aa->cX b a=aa
 | [],[],_=>by simp[cX]
 | [],_::_,h=>by simp[cX] at h
 | _::_,[],h=>by simp[cX] at h
 | n :: ns, m :: ms, h => by
  simp only[cX,bA] at h ⊢;exact⟨Nd.yq n m h.1,V8 ns ms h.2⟩
end
def VZ:∀(a b:List (au × au)),kZ a b=aa->kZ b a=aa
 | [],[],_=>rfl
 | [],_::_,h=>by simp[kZ] at h
 | _::_,[],h=>by simp[kZ] at h
 | p :: ps, q :: qs, h => by
  simp only[kZ,bA,b7] at h ⊢;exact⟨⟨h.1.1.symm,h.1.2.symm⟩,VZ ps qs h.2⟩
def aq.yq{a b:aq}(h:a.cI b=aa):b.cI a=true:=by
 unfold aq.cI at h ⊢;rw[Ek] at h ⊢;simp only[bA,b7] at h ⊢;obtain⟨⟨⟨⟨⟨h1,h2⟩,h3⟩,h4⟩,h5⟩,h6⟩:=h;exact⟨⟨⟨⟨⟨h1.symm,h2.symm⟩,h3.symm⟩,VZ _ _ h4⟩,Nd.yq _ _ h5⟩,Nd.yq _ _ h6⟩
def Te{m n:Nd}(h:m.cI n=aa):m.kind=n.kind:=by
 rw[Nd.Aq] at h;simp only[bA,b7] at h;exact h.1.1.1
def Tg{n:Nd}(h:n.eU=aa):n.kind≠0:=by
 rcases DT h with ⟨h,_⟩ | ⟨h,_⟩ | ⟨h,_⟩<;>omega
def VA{n:Nd}(h:n.iW=aa):n.kind≠0:=by
 rcases Ei h with ⟨h,_⟩ | ⟨h,_⟩<;>omega
def acF{d:aq}(h:c.fq=aa)(h1:1<=c.op)(he:ER c (lF (cn c.op).2 [c.left,c.right]) {aq.zero with op:=c.op,pos:=p} d):d.cI c=true:=by
 simp only[aq.fq,bA,b7] at h;obtain⟨⟨⟨⟨h0,hn⟩,kM⟩,hp⟩,ht⟩:=h;obtain⟨hk,_,_⟩:=C2 h1 h0.2;simp only[aq.mB,aq.jW,aq.kW,aq.jA,eR] at hn kM hp ht;simp only[DO,kA,EZ,D'] at hk;have zl:∀n:Nd,n.cI .zero=aa->Nd.zero.cI n=true:=λn h=>Nd.yq _ _ h
 have hz:(Nd.zero).kind=0:=rfl;have w0:c.aj=[]->dt [] c.aj=true:=λe=>by rw[e];rfl
 have p0:c.bh=[]->kZ [] c.bh=true:=λe=>by rw[e];rfl
 rcases hk with e | e | e | e | e | e | e
 all_goals simp[e] at hn kM hp ht
 all_goals simp[e,lF,isTerm,ER,EP] at he
 .obtain⟨c1,⟨w,a1,rfl⟩,ws,a2,rfl⟩:=he;simp[aq.cI,a1,a2,aq.zero,p0 hp,zl _ ht.1,zl _ ht.2]
 .obtain⟨c1,⟨w,a1,rfl⟩,c2,⟨ws,a2,rfl⟩,ps,a3,⟨a,rfl⟩⟩:=he;simp[aq.cI,a1,a2,a3,aq.zero,zl _ ht.1,zl _ ht.2]
 .obtain⟨c1,⟨w,a1,rfl⟩,c2,⟨m,a2,rfl⟩,m2,a3,rfl⟩:=he
  have:=Te a2
  have:=Tg ht.1
  have hm:m.kind≠0:=by omega
  simp[aq.cI,a1,a2,a3,aq.zero,hz,hm,w0 kM,p0 hp]
 .obtain⟨c1,⟨w,a1,rfl⟩,c2,⟨m,a2,rfl⟩,m2,a3,rfl⟩:=he
  have:=Te a2
  have:=VA ht.1
  have hm:m.kind≠0:=by omega
  simp[aq.cI,a1,a2,a3,aq.zero,hz,hm,w0 kM,p0 hp]
 .obtain⟨c1,⟨w,a1,rfl⟩,ws,a2,rfl⟩:=he;simp[aq.cI,a1,a2,aq.zero,p0 hp,zl _ ht.1,zl _ ht.2]
 .subst he;simp[aq.cI,aq.zero,hn,w0 kM,p0 hp,zl _ ht.1,zl _ ht.2]
 .obtain⟨w,a1,rfl⟩:=he;simp[aq.cI,a1,aq.zero,w0 kM,p0 hp,zl _ ht.1,zl _ ht.2]
def aaJ(h:c.fq=aa)(h1:1<=c.op)(ht:toks.map Tok.sh=En c):
 ∃us:List ar,bj us=toks/\fe us/\∀fin:Int,∃d:aq,sD us fin=(d,0,0)/\d.cI c=true:=by
 have sK:c.op<=15:=by simp only[aq.fq,bA,b7] at h;exact h.1.1.1.1.2
 obtain⟨_,k2,k3⟩:=C2 h1 sK;unfold En at ht;obtain⟨t1,t2,rfl,a1,a2⟩:=jb.1 ht;obtain⟨u1,n1,f1,w1,b1⟩:=wT ⟨(cn c.op).1,0⟩ t1 a1;obtain⟨u2,f2,w2,b2⟩:=UP (lF (cn c.op).2 [c.left,c.right]) (MS h h1) (by rw[L3];exact(F6 c.op).2) t2 a2;refine⟨u1++u2,by rw[g_,f1,f2],by rw[jH];exact⟨w1,w2⟩,λfin=>?_⟩;obtain⟨y,q1,q2⟩:=b1 (a9 u1) (bL _) [] u2 fin;have q1:(at_ [] (u1++u2) fin 0).word=(y,at_ u1 u2 fin 0):=q1;have q2:y.al=(cn c.op).1:=by simpa [o8] using q2
 obtain⟨d,e1,e2⟩:=b2 u1 fin {aq.zero with op:=c.op,pos:=y.pos} (λ_=>rfl);rw[L3] at e1;refine⟨d,?_,acF h h1 e2⟩;have hq:(⟨u1++u2,0,fin,ae⟩:ab).word=(y,at_ u1 u2 fin 0):=q1;obtain⟨t,ts,hu⟩:∃t ts,u1++u2=t::ts:=by
  cases u1 with
  | nil=>exact absurd rfl n1
  | cons t r=>exact⟨t,r++u2,rfl⟩
 rw[hu] at hq ⊢;unfold sD;simp only[hq,q2,k3];rw[aB (by omega),e1];unfold vN;simp[at_]
end Go.Am
