/-
  Part 4 of the proof of StackNobodyUptoCardSaid: a logic over the model, the forms of the functions that the law reaches, and what they compute.
-/
import Derived.Test.YtnpggmhoandloaaGreatDoorNobody3
set_option linter.unusedVariables false
set_option linter.unusedSimpArgs false
set_option linter.defProp false
set_option linter.unusedSectionVars false
set_option maxRecDepth 4000
set_option maxHeartbeats 4000000
open Option renaming some->U,none->af
open Bool renaming true->aa,false->ak
open List renaming replicate->au,range->bU,getD->gU,zipWith->lq
open Eq renaming mpr->eQ
open Ne renaming symm->fi
namespace Go.Am
variable{p:Int}{ws:List aA}
def ao3(h:hZ ws=aa):(Nd.mk 3 p [] ws []).im=true:=by
 rw[Nd.y5];simp[Nd.kind,Nd.an,Nd.aj,Nd.ah,h]
variable{ks:List Nd}
def ao4(h:∀x∈ks,x.im=aa)(h0:0<ks.length):(Nd.mk 4 p [] [] ks).im=true:=by
 rw[Nd.y5];simp[Nd.kJ,Nd.kind,Nd.an,Nd.aj,Nd.ah];exact⟨h0,h⟩
def ao1(h:∀x∈ks,x.pd=aa):(Nd.mk 5 p [] [] ks).im=true:=by
 rw[Nd.y5];simp[Nd.kJ,Nd.kind,Nd.an,Nd.aj,Nd.ah];exact h
def Vt{n:Nd}(hk:n.kind=2)(h:n.kr=aa):n.im=true:=by rw[Nd.y5,aE hk];exact h
def M8{n:Nd}(hk:n.kind=1)(h:n.kr=aa):n.eY=true:=by rw[Nd.s_,aE hk];exact h
def ao0{c:Nd}(h:c.im=aa):(Nd.mk 7 p [] [] [c]).eY=true:=by
 rw[Nd.s_];simp[Nd.kJ,Nd.kind,Nd.an,Nd.aj,Nd.ah,uF,h]
variable{k:Int}
def Vs(hk:k=8\/k=9)(h:∀x∈ks,x.eY=aa)(h0:0<ks.length):(Nd.mk k p [] [] ks).eY=true:=by
 rw[Nd.s_]
 rcases hk with rfl | rfl
 all_goals
  simp[Nd.kJ,Nd.kind,Nd.an,Nd.aj,Nd.ah];exact⟨h0,h⟩
def qu{t:ar}(hg:t.Good)(hk:t.tok.kind=k)(gi:k≠97):t.tok.an=[UInt8.ofNat k.toNat]:=by
 rcases((xy _).1 hg).1 with ⟨h,_⟩ | ⟨_,h⟩
 .omega
 .rw[h,hk]
def N5{t:ar}(hg:t.Good):t.tok.an.length<=16:=arB ((xy _).1 hg).1
def SW(w:aA):Nat:=w.an.length+1
def SN(n:Nd):Nat:=n.wt+1
def vm:Sound ab.word aA.an (λw=>dG w.an=aa) SW:=by
 intro r hg hb;obtain⟨t1,t2⟩:=nD (show(r.take 97).2.aG=af from hb);have lA:=(t1.kl hg).1;refine⟨[(r.take 97).1],t1,ary t2,?_,?_⟩
 .rcases((xy _).1 lA).1 with ⟨_,h⟩ | ⟨h,_⟩
  .exact h
  .exact absurd t2 h
 .have:=N5 lA
  rw[tJ];simp only[SW,ab.word];omega
def DT(hk:k=1\/k=2):Sound (ab.leaf k) Nd.dc (λn=>n.kind=k/\n.kr=aa) SN:=by
 intro r hg hb;obtain⟨seg,e1,e2,e3,e4⟩:=vm r hg hb;refine⟨seg,e1,?_,⟨rfl,?_⟩,?_⟩
 .rw[e2];simp only[ab.leaf];rw[Nd.dc,aE hk]
 .simp only[ab.leaf,Nd.kr,Nd.an,Nd.aj,Nd.ah];rw[e3];rfl
 .simp only[SW] at e4;simp only[ab.leaf,SN,Nd.wt,eK,ft,eR,rB];obtain⟨t1,t2⟩:=nD (show(r.take 97).2.aG=af from hb);have hl:=N5 (t1.kl hg).1;have h0:26<=iP seg:=by
   obtain⟨pre,post,q1,q2,q3⟩:=e1.ex
   rcases seg with _ | ⟨t,ts⟩
   .exfalso
    obtain⟨p,q,r1,r2,r3⟩:=t1.ex
    have:r.word.2.at_=(r.take 97).2.at_:=rfl
    simp only[bN,eM,gC] at q3 r3;omega
   .simp only[iP,bd];omega
  have:r.word.1.an.length<=16:=hl
  omega
theorem atj(l:List aA):(l.map SW).sum=eK l:=rfl
def XJ(l:List Nd):(l.map SN).sum=ft l:=by rw[EJ];rfl
def Nl{l:List aA}(h:∀w∈l,dG w.an=aa):hZ l=true:=ln.2 h
variable{e:Bool}{r:ab}
def Ok(hg:eC r.l)(hb:(r.words e).2.aG=af):
 ∃t,ib r (r.words e).2 [t]/\t.Good/\eZ (bn [t])=[123]++ia (r.words e).1.1++[125]/\hZ (r.words e).1.1=aa/\eK (r.words e).1.1+26<=iP [t]:=by
 obtain⟨t,h1,h2,h3,h4,h5,_⟩:=Jb (one:=ab.word) vm (k:=123) (e:=e) hg hb;have lA:=(h1.kl hg).1;refine⟨t,h1,lA,?_,Nl h4,?_⟩
 .rw[B5 (by rw[h2];decide),h3,qu lA h2 (by decide),h2];rfl
 .rw[atj] at h5;rw[tJ];have e:eK (r.words e).1.1=eK (r.bracket (cc ab.word) 123 e).1.1:=rfl;omega
def Ht{one:ab->Nd × ab}{Q:Nd->Prop}(hs:Sound one Nd.dc Q SN)(hk:k=40\/k=91)(hg:eC r.l)(hb:(r.nodes one k e).2.aG=af):
 ∃t,ib r (r.nodes one k e).2 [t]/\t.Good/\eZ (bn [t])=[UInt8.ofNat k.toNat]++cB (dO (r.nodes one k e).1.1)++[UInt8.ofNat (closing k).toNat]/\(∀x∈(r.nodes one k e).1.1,Q x)/\ft (r.nodes one k e).1.1+26<=iP [t] /\
  (e=ak->0<(r.nodes one k e).1.1.length):=by
 obtain⟨t,h1,h2,h3,h4,h5,h6⟩:=Jb hs (k:=k) (e:=e) hg hb;have lA:=(h1.kl hg).1;refine⟨t,h1,lA,?_,h4,?_,h6⟩
 .rw[B5 (by rw[h2];rcases hk with rfl | rfl<;>decide),h3,qu lA h2 (by omega),h2,AA];rfl
 .rw[XJ] at h5;rw[tJ];have e:ft (r.nodes one k e).1.1=ft (r.bracket (cc one) k e).1.1:=rfl;omega
def apU:Sound ab.nw Nd.dc (λn=>n.pd=aa) SN:=by
 intro r hg hb;have b9 : ((r.word.2.take 58).2.words aa).2.aG=none:=hb;have l1:r.word.2.l=r.l:=r.fy 97;have l2:(r.word.2.take 58).2.l=r.l:=(ab.fy _ 58).trans l1;obtain⟨t,h1,h2,h3,h4,h5⟩:=Ok (by rw[l2];exact hg) b9;obtain⟨c1,c2⟩:=nD h1.b;obtain⟨seg,e1,e2,e3,e4⟩:=vm r hg c1.b;have mB:=(c1.kl (by rw[l1];exact hg)).1;refine⟨seg++[(r.word.2.take 58).1]++[t],(e1.trans c1).trans h1,?_,?_,?_⟩
 .rw[wM (by rw[c2];decide) (by rw[c2];rfl),e2,h3,qu mB c2 (by decide)];simp only[ab.nw];rw[Nd.dc];simp
 .simp only[ab.nw,Nd.pd,Nd.kind,Nd.an,Nd.aj,Nd.ah];rw[e3,h4];rfl
 .simp only[ab.nw,SN,Nd.wt,ft,wI,tJ];simp only[SW] at e4;simp only[tJ] at h5;omega
def Qv:∀n,Sound (ab.constant n) Nd.dc (λm=>m.im=aa) SN
 | 0 => λr hg hb => by
  obtain⟨seg,e1,e2,⟨e3,e5⟩,e4⟩:=DT (.inr rfl) r hg hb;refine⟨seg,e1,e2,?_,e4⟩;exact Vt e3 e5
 | n + 1 => λr hg hb => by
  simp only[ab.constant] at hb ⊢;split
  .rename_i hs;rw[aE hs] at hb;obtain⟨t,h1,h2,h3,h4,h5⟩:=Ok hg hb;refine⟨[t],h1,?_,?_,?_⟩
   .rw[h3,Nd.dc];simp
   .exact ao3 h4
   .simp only[SN,Nd.wt,ft,eM];omega
  .rename_i hs;rw[aC hs] at hb;split
   .rename_i hs;rw[aE hs] at hb;obtain⟨t,h1,h2,h3,h4,h5,h6⟩:=Ht (Qv n) (.inl rfl) hg hb;refine⟨[t],h1,?_,?_,?_⟩
    .rw[h3,Nd.dc];simp only[show(closing 40).toNat=41 from rfl];rfl
    .exact ao4 h4 (h6 rfl)
    .simp only[SN,Nd.wt,eK,eR,rB,eM];omega
   .rename_i hs;rw[aC hs] at hb;split
    .rename_i hs;rw[aE hs] at hb;obtain⟨t,h1,h2,h3,h4,h5,h6⟩:=Ht apU (.inr rfl) hg hb;refine⟨[t],h1,?_,?_,?_⟩
     .rw[h3,Nd.dc];simp only[show(closing 91).toNat=93 from rfl];rfl
     .exact ao1 h4
     .simp only[SN,Nd.wt,eK,eR,rB,eM];omega
    .rename_i hs;rw[aC hs] at hb;obtain⟨seg,e1,e2,⟨e3,e5⟩,e4⟩:=DT (.inr rfl) r hg hb;refine⟨seg,e1,e2,?_,e4⟩;exact Vt e3 e5
def PJ(n:Nat):Sound (ab.atom n) Nd.dc (λm=>m.po=aa) SN:=by
 intro r hg hb;simp only[ab.atom] at hb ⊢;split
 .rename_i hs;rw[aE hs] at hb;have l1:(r.take 35).2.l=r.l:=r.fy 35;obtain⟨seg,e1,e2,e3,e4⟩:=Qv n (r.take 35).2 (by rw[l1];exact hg) hb;obtain⟨c1,c2⟩:=nD e1.b;have mB:=(c1.kl hg).1;refine⟨[(r.take 35).1]++seg,c1.trans e1,?_,?_,?_⟩
  .have:=wM (t:=(r.take 35).1) (by rw[c2];decide) (by rw[c2];rfl) [] seg
   rw[gd] at this;rw[this,qu mB c2 (by decide),e2,Nd.dc];simp[bn,eZ,iQ,dO,qd]
  .simp only[Nd.po,ao0 e3,Nd.kind];rfl
  .simp only[SN,Nd.wt,eK,ft,eR,rB,eM,wI,tJ] at e4 ⊢;omega
 .rename_i hs;rw[aC hs] at hb;obtain⟨seg,e1,e2,⟨e3,e5⟩,e4⟩:=DT (.inl rfl) r hg hb;refine⟨seg,e1,e2,?_,e4⟩;simp only[Nd.po,M8 e3 e5,e3];rfl
def Fu{n:Nd}(h:n.po=aa):n.eY=true:=by simp only[Nd.po,bC] at h;exact h.2
def G8:∀n,Sound (ab.label n) Nd.dc (λm=>m.eY=aa) SN
 | 0 => λr hg hb => by
  obtain⟨seg,e1,e2,⟨e3,e5⟩,e4⟩:=DT (.inl rfl) r hg hb;refine⟨seg,e1,e2,?_,e4⟩;exact M8 e3 e5
 | n + 1 => λr hg hb => by
  simp only[ab.label] at hb ⊢;split
  .rename_i hs;rw[aE hs] at hb;have l1:(r.take 43).2.l=r.l:=r.fy 43;obtain⟨t,h1,h2,h3,h4,h5,h6⟩:=Ht (G8 n) (.inl rfl) (by rw[l1];exact hg) hb;obtain⟨c1,c2⟩:=nD h1.b;have mB:=(c1.kl hg).1;refine⟨[(r.take 43).1]++[t],c1.trans h1,?_,?_,?_⟩
   .have:=wM (t:=(r.take 43).1) (by rw[c2];decide) (by rw[c2];rfl) [] [t]
    rw[gd] at this;rw[this,qu mB c2 (by decide),h3,Nd.dc];simp only[show(closing 40).toNat=41 from rfl];rfl
   .exact Vs (.inl rfl) h4 (h6 rfl)
   .simp only[SN,Nd.wt,eK,eR,rB,eM,wI,tJ] at h5 ⊢;omega
  .rename_i hs;rw[aC hs] at hb;split
   .rename_i hs;rw[aE hs] at hb;have l1:(r.take 38).2.l=r.l:=r.fy 38;obtain⟨t,h1,h2,h3,h4,h5,h6⟩:=Ht (G8 n) (.inl rfl) (by rw[l1];exact hg) hb;obtain⟨c1,c2⟩:=nD h1.b;have mB:=(c1.kl hg).1;refine⟨[(r.take 38).1]++[t],c1.trans h1,?_,?_,?_⟩
    .have:=wM (t:=(r.take 38).1) (by rw[c2];decide) (by rw[c2];rfl) [] [t]
     rw[gd] at this;rw[this,qu mB c2 (by decide),h3,Nd.dc];simp only[show(closing 40).toNat=41 from rfl];rfl
    .exact Vs (.inr rfl) h4 (h6 rfl)
    .simp only[SN,Nd.wt,eK,eR,rB,eM,wI,tJ] at h5 ⊢;omega
   .rename_i hs;rw[aC hs] at hb;obtain⟨seg,e1,e2,e3,e4⟩:=PJ (n+1) r hg hb;exact⟨seg,e1,e2,Fu e3,e4⟩
def adX(n:Nat):Sound (ab.field n) Nd.dc (λm=>m.ly=aa) SN:=by
 intro r hg hb;have b9 : ((r.word.2.take 61).2.atom n).2.aG=none:=hb;have l1:r.word.2.l=r.l:=r.fy 97;have l2:(r.word.2.take 61).2.l=r.l:=(ab.fy _ 61).trans l1;obtain⟨sg,h1,h2,h3,h4⟩:=PJ n (r.word.2.take 61).2 (by rw[l2];exact hg) b9;obtain⟨c1,c2⟩:=nD h1.b;obtain⟨seg,e1,e2,e3,e4⟩:=vm r hg c1.b;have mB:=(c1.kl (by rw[l1];exact hg)).1;refine⟨seg++[(r.word.2.take 61).1]++sg,(e1.trans c1).trans h1,?_,?_,?_⟩
 .rw[wM (by rw[c2];decide) (by rw[c2];rfl),e2,h2,qu mB c2 (by decide)];simp only[ab.field];rw[Nd.dc];simp[dO,qd]
 .simp only[ab.field,Nd.ly,Nd.kind,Nd.an,Nd.aj,Nd.ah,uF];rw[e3,h3];rfl
 .simp only[ab.field,SN,Nd.wt,ft,eK,eR,rB,wI,tJ] at h4 ⊢;simp only[SW] at e4;omega
def ao2(h1:ws.length<=1)(h2:hZ ws=aa)(h3:∀x∈ks,x.ly=aa):(Nd.mk 10 p [] ws ks).iX=true:=by
 unfold Nd.iX;simp[Nd.kind,Nd.an,Nd.aj,Nd.ah,h2];exact⟨aQ (by omega),h3⟩
def Tb(t:ar):ib t.inner t.inner []:=⟨⟨[],t.ah,rfl,rfl,rfl⟩,rfl,rfl,rfl⟩
def Q6{n:Nat}{t:ar}(hg:eC t.ah){a:ab × List Nd}(ha:a=if t.inner.bT 124=aa then(t.inner,[]) else dS (cc (ab.field n)) t.inner)(hb:a.1.aG=af):
 ∃seg,ib t.inner a.1 seg/\eZ (bn seg)=cB (dO a.2)/\(∀x∈a.2,x.ly=aa)/\ft a.2<=iP seg:=by
 split at ha
 .subst ha;exact⟨[],Tb t,rfl,by simp,by simp[ft]⟩
 .subst ha;obtain⟨seg,e1,e2⟩:=WK (adX n) (r:=t.inner) hg hb;refine⟨seg,e1,?_,e2.q,?_⟩
  .rw[e2.t,AA]
  .have:=e2.s;rwa [XJ] at this
def apC{n:Nat}{t:ar}(hg:eC t.ah)(hb:(ab.rowOf n t).1.1.aG=af):
 ∃seg,ib t.inner (ab.rowOf n t).1.1 seg/\eZ (bn seg)=cB (dO (ab.rowOf n t).1.2)++(if 0<(ab.rowOf n t).2.length then [124]++ia (ab.rowOf n t).2 else []) /\
  (∀x∈(ab.rowOf n t).1.2,x.ly=aa)/\(ab.rowOf n t).2.length<=1/\hZ (ab.rowOf n t).2=aa/\ft (ab.rowOf n t).1.2+eK (ab.rowOf n t).2<=iP seg:=by
 unfold ab.rowOf at hb ⊢;split
 .exact⟨[],Tb t,rfl,by simp,by simp,rfl,by simp[ft,eK]⟩
 rename_i aX;rw[aC aX] at hb;unfold ab.mK at hb ⊢;simp only at hb ⊢;generalize ha:(if t.inner.bT 124=aa then(t.inner,[]) else dS (cc (ab.field n)) t.inner)=a at hb ⊢;split
 .rename_i hs;rw[aE hs] at hb;have hba:a.1.aG=none:=by
   simp only[ab.bT,ab.ok,bC,Cv] at hs;exact hs.1
  obtain⟨seg,e1,e2,e3,e4⟩:=Q6 hg ha.symm hba;have l1:a.1.l=t.inner.l:=e1.l;have l2:(a.1.take 124).2.l=t.inner.l:=(ab.fy _ 124).trans l1;obtain⟨sw,w1,w2,w3,w4⟩:=vm (a.1.take 124).2 (by rw[l2];exact hg) hb;obtain⟨c1,c2⟩:=nD w1.b;have mB:=(c1.kl (by rw[l1];exact hg)).1;refine⟨seg++[(a.1.take 124).1]++sw,(e1.trans c1).trans w1,?_,e3,by simp,?_,?_⟩
  .rw[wM (by rw[c2];decide) (by rw[c2];rfl),e2,qu mB c2 (by decide),w2];simp[ia,cB]
  .simp only[hZ,tT,OM,vp];exact w3
  .simp only[wI,tJ,eK,b8,eR,nM,rB];simp only[SW] at w4;omega
 .rename_i hs;rw[aC hs] at hb;obtain⟨seg,e1,e2,e3,e4⟩:=Q6 hg ha.symm hb;exact⟨seg,e1,by simpa using e2,e3,by simp,rfl,by simpa [eK] using e4⟩
def VM(n:Nat):Sound (ab.row n) Nd.dc (λm=>m.iX=aa) SN:=by
 intro r hg hb;simp only[ab.row] at hb ⊢;split
 .rename_i hs;rw[aE hs] at hb;have fv:(r.take 91).2.aG=none:=by
   rcases r.tK 91 with ⟨_,_,h,_⟩ | ⟨h,_⟩
   .exact h
   .rw[hs] at h;simp at h
  obtain⟨c1,c2⟩:=nD fv;have mB:=(c1.kl hg).1;have vZ:eC (r.take 91).1.ah:=((xy _).1 mB).2.2;have dD:(ab.rowOf n (r.take 91).1).1.1.close.aG=none:=hb;obtain⟨seg,e1,e2,e3,e4,e5,e6⟩:=apC (n:=n) vZ (Jk dD).1;have Le:=Pr e1 dD;subst Le;refine⟨[(r.take 91).1],⟨c1.ex,c1.l,c1.b,hb⟩,?_,ao2 e4 e5 e3,?_⟩
  .rw[B5 (by rw[c2];decide),qu mB c2 (by decide),c2,e2,Nd.dc];simp only[show(closing 91).toNat=93 from rfl];simp
  .simp only[SN,Nd.wt,tJ,eM];omega
 .rename_i hs;rw[aC hs] at hb;obtain⟨seg,e1,e2,⟨e3,e5⟩,e4⟩:=DT (.inl rfl) r hg hb;refine⟨seg,e1,e2,?_,e4⟩
  have:=M8 e3 e5
  show(r.leaf 1).1.iX=aa;unfold Nd.iX;rw[e3,this];rfl
abbrev Sh:=Int × List UInt8
def Tok.sh(t:Tok):Sh:=(t.kind,t.an)
def bG(c:UInt8):Sh:=((c.toNat:Nat),[c])
def fG(t:List UInt8):Sh:=(97,t)
def eG:List (List Sh)->List Sh
 | []=>[]
 | x::xs=>x++xs.flatMap λy=>bG 44::y
def Gv:List (List Sh)->List Sh
 | []=>[]
 | x::_=>x
def lg(ws:List aA):List Sh:=eG (ws.map λw=>[fG w.an])
mutual
def Nd.gn:Nd->List Sh
 | .mk k _ t ws ks =>
  if k=1\/k=2 then [fG t]
  else if k=3 then [bG 123]++lg ws++[bG 125]
  else if k=4 then [bG 40]++eG (gp ks)++[bG 41]
  else if k=5 then [bG 91]++eG (gp ks)++[bG 93]
  else if k=6 then [fG t]++[bG 58]++([bG 123]++lg ws++[bG 125])
  else if k=7 then [bG 35]++Gv (gp ks)
  else if k=8 then [bG 43]++([bG 40]++eG (gp ks)++[bG 41])
  else if k=9 then [bG 38]++([bG 40]++eG (gp ks)++[bG 41])
  else if k=10 then [bG 91]++(eG (gp ks)++(if 0<ws.length then [bG 124]++lg ws else []))++[bG 93]
  else if k=11 then [fG t]++[bG 61]++Gv (gp ks)
  else []
def gp:List Nd->List (List Sh)
 | []=>[]
 | n::ns=>n.gn::gp ns
end
def En:∀l,gp l=l.map Nd.gn
 | []=>rfl
 | n::ns=>by simp[gp,En ns]
def lV(s:List UInt8)(ks:List Sh):Prop:=∀(n p:Nat) (acc:List Tok),s.length<=n->∃toks,fe n p s acc=(acc++toks,af)/\toks.map Tok.sh=ks
def Stop:List UInt8->Prop
 | []=>True
 | c::_=>gF c=ak
def lex_nil:lV [] []:=λn p acc _=>⟨[],by cases n<;>simp[fe],rfl⟩
variable{s:List UInt8}
def HR{c:UInt8}(h:gF c=ak):fq (c::s)=[]:=by simp[fq,h]
def TK{c:UInt8}(h1:mj (c.toNat:Nat)=aa)(h2:gF c=ak)(h3:c.toNat≠45){ks:List Sh}(h:lV s ks):lV ([c]++s) ([bG c]++ks):=by
 intro n p acc hn
 rcases n with _ | n
 .simp at hn
 obtain⟨toks,e1,e2⟩:=h n (p+1) (acc++[⟨(c.toNat:Nat),[c],p⟩]) (by simpa using hn);refine⟨⟨(c.toNat:Nat),[c],p⟩::toks,?_,by simp[Tok.sh,bG,e2]⟩;rw[mU,fe];rw[aC (λh=>h3 h.1),HR h2,aC (by simp),aE h1,e1];simp
def W0{α:Type}{f:α->Bool}:∀{t s:List α},t.all f=aa->(∀c r,s=c::r->f c=ak)->(t++s).takeWhile f=t
 | [], s, _, h => by
  cases s with
  | nil=>rfl
  | cons c r=>simp[h c r rfl]
 | x :: t, s, ht, h => by
  simp only[tT,bC] at ht;simp[ht.1,W0 ht.2 h]
variable{t:List UInt8}
def alS(h:dG t=aa):t.all gF=aa/\(∃c r,t=c::r/\uV c=aa):=by
 unfold dG at h
 rcases t with _ | ⟨c,r⟩
 .simp at h
 .simp only[bC] at h;refine⟨?_,c,r,rfl,h.2.1⟩;simp only[tT,bC];refine⟨?_,h.2.2⟩
  have:=h.2.1
  simp only[uV,gF,ya,uC] at this ⊢
  simp_all
def TI(ht:dG t=aa){ks:List Sh}(hs:Stop s)(h:lV s ks):lV (t++s) ([fG t]++ks):=by
 intro n p acc hn;obtain⟨dp,c,r,rfl,hc⟩:=alS ht
 rcases n with _ | n
 .simp at hn
 have cT:fq (c::r++s)=c::r:=W0 dp λc' r' e=>by subst e;exact hs
 obtain⟨toks,e1,e2⟩:=h n (p+(c::r).length) (acc++[⟨97,c::r,p⟩]) (by simp at hn ⊢;omega);refine⟨⟨97,c::r,p⟩::toks,?_,by simp[Tok.sh,fG,e2]⟩;have Ge:c.toNat≠45:=λe=>by
  simp only[uV,ya,e] at hc;revert hc;decide
 rw[gI] at cT ⊢;rw[fe,aC (λh=>Ge h.1),cT,aE ⟨by simp,ht⟩];rw[show(c::(r++s)).drop (c::r).length=s by rw[<-gI,List.drop_left],e1];simp
def jL(tx:List UInt8)(sh:List Sh):Prop:=∀s ks,Stop s->lV s ks->lV (tx++s) (sh++ks)
def qy(tx:List UInt8)(sh:List Sh):Prop:=∀s ks,lV s ks->lV (tx++s) (sh++ks)
def qy.n{k:List Sh}(h:qy t k):jL t k:=λs ks _ hl=>h s ks hl
def uW(c:UInt8)(h:(mj (c.toNat:Nat)&&!gF c&&decide (c.toNat≠45))=aa):qy [c] [bG c]:=λ_ _ hl=>by
 simp only[bC,tR,ca] at h;exact TK h.1.1 h.1.2 h.2 hl
def wv(h:dG t=aa):jL t [fG t]:=λ_ _ hs hl=>TI h hs hl
def qy.app{a b:List UInt8}{x y:List Sh}(h:qy a x)(k:qy b y):qy (a++b) (x++y):=λs ks hl=>by
 rw[eB,eB];exact h _ _ (k _ _ hl)
def jL.sign{a:List UInt8}{c:UInt8}{x:List Sh}(h:jL a x)(hc:(mj (c.toNat:Nat)&&!gF c&&decide (c.toNat≠45))=aa):qy (a++[c]) (x++[bG c]):=λs ks hl=>by
 rw[eB,eB]
 have:=hc
 simp only[bC,tR,ca] at this;exact h _ _ this.1.2 (uW c hc _ _ hl)
def qy.nn{a b:List UInt8}{x y:List Sh}(h:qy a x)(k:jL b y):jL (a++b) (x++y):=λs ks hs hl=>by
 rw[eB,eB];exact h _ _ (k _ _ hs hl)
def TN{G:Type}{T:G->List UInt8}{S:G->List Sh}:∀{l:List G},(∀x∈l,jL (T x) (S x))->∀s ks,Stop s->lV s ks->Stop ((l.map T).flatMap (λy=>44::y)++s)/\lV ((l.map T).flatMap (λy=>44::y)++s) ((l.map S).flatMap (λy=>bG 44::y)++ks)
 | [],_,s,ks,hs,hl=>⟨hs,hl⟩
 | x :: xs, h, s, ks, hs, hl => by
  obtain⟨h1,h2⟩:=TN (l:=xs) (λy hy=>h y (by simp[hy])) s ks hs hl;simp only[b8,p7,eB,gI];refine⟨rfl,?_⟩;exact uW 44 (by decide) _ _ (h x (by simp) _ _ h1 h2)
variable{G:Type}
def Hf{T:G->List UInt8}{S:G->List Sh}{l:List G}(h:∀x∈l,jL (T x) (S x)):jL (cB (l.map T)) (eG (l.map S)):=by
 intro s ks hs hl;cases l with
 | nil=>exact hl
 | cons x xs =>
  obtain⟨h1,h2⟩:=TN (l:=xs) (λy hy=>h y (by simp[hy])) s ks hs hl;simp only[b8,cB,eG,eB];exact h x (by simp) _ _ h1 h2
def Ma(h:hZ ws=aa):jL (ia ws) (lg ws):=Hf (T:=aA.an) (S:=λw=>[fG w.an]) λw hw=>wv (ln.1 h w hw)
def L_(h:hZ ws=aa):qy ([123]++ia ws++[125]) ([bG 123]++lg ws++[bG 125]):=jL.sign ((uW 123 (by decide)).nn (Ma h)) (by decide)
variable{b:UInt8}
def L9{a:UInt8}(ha:(mj (a.toNat:Nat)&&!gF a&&decide (a.toNat≠45))=aa)(hb:(mj (b.toNat:Nat)&&!gF b&&decide (b.toNat≠45))=aa)(h:∀n∈ks,jL n.dc n.gn):
 qy ([a]++cB (dO ks)++[b]) ([bG a]++eG (gp ks)++[bG b]):=by
 rw[AA,En];exact jL.sign ((uW a ha).nn (Hf h)) hb
def Nd.tL(n:Nd):n.dc=if n.kind=1\/n.kind=2 then n.an else if n.kind=3 then [123]++ia n.aj++[125] else if n.kind=4 then [40]++cB (dO n.ah)++[41] else if n.kind=5 then [91]++cB (dO n.ah)++[93]
 else if n.kind=6 then n.an++[58,123]++ia n.aj++[125] else if n.kind=7 then [35]++qd (dO n.ah) else if n.kind=8 then [43,40]++cB (dO n.ah)++[41] else if n.kind=9 then [38,40]++cB (dO n.ah)++[41]
 else if n.kind=10 then([91]++cB (dO n.ah))++(if 0<n.aj.length then [124]++ia n.aj else [])++[93] else if n.kind=11 then n.an++[61]++qd (dO n.ah) else []:=by cases n;rw[Nd.dc];rfl
def Nd.ka(n:Nd):n.gn=if n.kind=1\/n.kind=2 then [fG n.an] else if n.kind=3 then [bG 123]++lg n.aj++[bG 125] else if n.kind=4 then [bG 40]++eG (gp n.ah)++[bG 41] else if n.kind=5 then [bG 91]++eG (gp n.ah)++[bG 93]
 else if n.kind=6 then [fG n.an]++[bG 58]++([bG 123]++lg n.aj++[bG 125]) else if n.kind=7 then [bG 35]++Gv (gp n.ah) else if n.kind=8 then [bG 43]++([bG 40]++eG (gp n.ah)++[bG 41]) else if n.kind=9 then [bG 38]++([bG 40]++eG (gp n.ah)++[bG 41])
 else if n.kind=10 then [bG 91]++(eG (gp n.ah)++(if 0<n.aj.length then [bG 124]++lg n.aj else []))++[bG 93] else if n.kind=11 then [fG n.an]++[bG 61]++Gv (gp n.ah) else []:=by cases n;rw[Nd.gn];rfl
def G4{n m:Nd}(hm:m∈n.ah):m.wt+5<=n.wt:=by
 have h1:=Iq hm;have h2:ft n.ah+4<=n.wt:=by cases n;simp only[Nd.wt,Nd.ah];omega
 omega
def Lx(n:Nd):Prop:=jL n.dc n.gn
def Ua{n:Nd}(hk:n.kind=1\/n.kind=2)(h:n.kr=aa):Lx n:=by
 unfold Lx;rw[Nd.tL,Nd.ka,aE hk,aE hk];simp only[Nd.kr,bC] at h;exact wv h.1
def VV{n:Nd}(h:n.pd=aa):n.kind=6/\dG n.an=aa/\hZ n.aj=aa/\n.ah=[]:=by
 simp only[Nd.pd,bC,ca] at h;exact⟨h.1.1.1,h.1.1.2,h.1.2,jv.1 (by omega)⟩
def alA{n:Nd}(h:n.pd=aa):Lx n:=by
 obtain⟨k,h1,h2,_⟩:=VV h;unfold Lx;rw[Nd.tL,Nd.ka];simp only[k,show ¬((6:Int)=1\/(6:Int)=2) by omega,show ¬(6:Int)=3 by omega,show ¬(6:Int)=4 by omega,show ¬(6:Int)=5 by omega,cn,cD];have e:n.an++[58,123]++ia n.aj++[125]=(n.an++[58])++([123]++ia n.aj++[125]):=by simp
 rw[e];exact(((wv h1).sign (by decide)).app (L_ h2)).n
def Qu{n:Nd}(h:n.im=aa):(n.kind=2/\n.kr=aa)\/(n.kind=3/\n.an=[]/\hZ n.aj=aa/\n.ah=[])\/(n.kind=4/\n.an=[]/\n.aj=[]/\n.ah≠[]/\∀x∈n.ah,x.im=aa)\/(n.kind=5/\n.an=[]/\n.aj=[]/\∀x∈n.ah,x.pd=aa):=by
 rw[Nd.y5] at h;split at h
 .rename_i k;exact .inl ⟨k,h⟩
 split at h
 .rename_i k;simp only[bC,ca] at h;exact .inr (.inl ⟨k,h.1.1,h.1.2,jv.1 (by omega)⟩)
 split at h
 .rename_i k;simp only[Nd.kJ,bC,ca] at h;exact .inr (.inr (.inl ⟨k,h.1.1.1,jv.1 (by omega),λe=>by rw[e] at h;simp at h,ln.1 h.2⟩))
 split at h
 .rename_i k;simp only[Nd.kJ,bC,ca] at h;exact .inr (.inr (.inr ⟨k,h.1.1,jv.1 (by omega),ln.1 h.2⟩))
 .simp at h
def alx:∀(k:Nat) (n:Nd),n.wt<=k->n.im=aa->Lx n:=by
 intro k;induction k with
 | zero=>intro n h _;cases n;simp only[Nd.wt] at h;omega
 | succ k ih =>
  intro n hk h
  rcases Qu h with ⟨h1,h2⟩ | ⟨h1,_,h2,_⟩ | ⟨h1,_,_,_,h2⟩ | ⟨h1,_,_,h2⟩
  .exact Ua (.inr h1) h2
  .unfold Lx;rw[Nd.tL,Nd.ka,h1];exact(L_ h2).n
  .unfold Lx;rw[Nd.tL,Nd.ka,h1];exact(L9 (by decide) (by decide) λm hm=>ih m (by have:=G4 hm;omega) (h2 m hm)).n
  .unfold Lx;rw[Nd.tL,Nd.ka,h1];exact(L9 (by decide) (by decide) λm hm=>alA (h2 m hm)).n
def DS{n:Nd}(h:n.eY=aa):(n.kind=1/\n.kr=aa)\/(n.kind=7/\n.an=[]/\n.aj=[]/\∃c,n.ah=[c]/\c.im=aa)\/((n.kind=8\/n.kind=9)/\n.an=[]/\n.aj=[]/\n.ah≠[]/\∀x∈n.ah,x.eY=aa):=by
 rw[Nd.s_] at h;split at h
 .rename_i k;exact .inl ⟨k,h⟩
 split at h
 .rename_i k;simp only[Nd.kJ,bC,ca] at h;refine .inr (.inl ⟨k,h.1.1.1,jv.1 (by omega),?_⟩)
  match hq:n.ah,h.1.2 with
  | [c],_=>exact⟨c,rfl,by have:=h.2;rw[hq] at this;exact this⟩
  | [],e=>simp at e
  | _::_::_,e=>simp at e;omega
 split at h
 .rename_i k;simp only[Nd.kJ,bC,ca] at h;exact .inr (.inr ⟨k,h.1.1.1,jv.1 (by omega),λe=>by rw[e] at h;simp at h,ln.1 h.2⟩)
 .simp at h
def Mm:∀(k:Nat) (n:Nd),n.wt<=k->n.eY=aa->Lx n:=by
 intro k;induction k with
 | zero=>intro n h _;cases n;simp only[Nd.wt] at h;omega
 | succ k ih =>
  intro n hk h
  rcases DS h with ⟨h1,h2⟩ | ⟨h1,_,_,c,h2,h3⟩ | ⟨h1,_,_,_,h2⟩
  .exact Ua (.inl h1) h2
  .unfold Lx;rw[Nd.tL,Nd.ka,h1,h2];exact(uW 35 (by decide)).nn (alx _ c (bP _) h3)
  .have eJ:=L9 (a:=40) (b:=41) (by decide) (by decide) λm hm=>ih m (by have:=G4 hm;omega) (h2 m hm)
   unfold Lx;rw[Nd.tL,Nd.ka]
   rcases h1 with h1 | h1
   .rw[h1];exact((uW 43 (by decide)).app eJ).n
   .rw[h1];exact((uW 38 (by decide)).app eJ).n
def FZ{n:Nd}(h:n.ly=aa):n.kind=11/\dG n.an=aa/\n.aj=[]/\∃c,n.ah=[c]/\c.po=true:=by
 simp only[Nd.ly,bC,ca] at h;refine⟨h.1.1.1.1,h.1.1.1.2,jv.1 (by omega),?_⟩
 match hq:n.ah,h.1.2 with
 | [c],_=>exact⟨c,rfl,by have:=h.2;rw[hq] at this;exact this⟩
 | [],e=>simp at e
 | _::_::_,e=>simp at e;omega
def aly{n:Nd}(h:n.ly=aa):Lx n:=by
 obtain⟨k,h1,_,c,h2,h3⟩:=FZ h;unfold Lx;rw[Nd.tL,Nd.ka,k,h2];exact((wv h1).sign (by decide)).nn (Mm _ c (bP _) (Fu h3))
def Eh{n:Nd}(h:n.iX=aa):(n.kind=10/\n.an=[]/\(n.aj=[]\/∃w,n.aj=[w]/\dG w.an=aa)/\∀x∈n.ah,x.ly=aa)\/(n.kind=1/\n.eY=aa):=by
 unfold Nd.iX at h;split at h
 .rename_i k;simp only[bC,ca] at h;refine .inl ⟨k,h.1.1.1,?_,ln.1 h.2⟩
  match hq:n.aj,h.1.1.2 with
  | [],_=>exact .inl rfl
  | [w],_=>exact .inr ⟨w,rfl,by have:=h.1.2;rw[hq] at this;simpa [hZ] using this⟩
  | _::_::_,e=>simp at e;omega
 .simp only[bC,ca] at h;exact .inr h
def alz{n:Nd}(h:n.iX=aa):Lx n:=by
 rcases Eh h with ⟨k,_,hn,hf⟩ | ⟨_,h⟩
 .have hk:jL (cB (dO n.ah)) (eG (gp n.ah)):=by rw[AA,En];exact Hf λm hm=>aly (hf m hm)
  unfold Lx;rw[Nd.tL,Nd.ka,k]
  rcases hn with hn | ⟨w,hn,hw⟩
  .rw[hn];have e1:([91]:List UInt8)++cB (dO n.ah)++[]=[91]++cB (dO n.ah):=by simp
   have e2:[bG 91]++(eG (gp n.ah)++[])++[bG 93]=[bG 91]++eG (gp n.ah)++[bG 93]:=by simp
   show jL (([91]++cB (dO n.ah))++[]++[93]) ([bG 91]++(eG (gp n.ah)++[])++[bG 93]);rw[e1,e2];exact(((uW 91 (by decide)).nn hk).sign (by decide)).n
  .rw[hn];have e1:(([91]:List UInt8)++cB (dO n.ah))++([124]++ia [w])++[93]=(([91]++cB (dO n.ah))++[124])++(ia [w]++[93]):=by simp
   have e2:[bG 91]++(eG (gp n.ah)++([bG 124]++lg [w]))++[bG 93]=(([bG 91]++eG (gp n.ah))++[bG 124])++(lg [w]++[bG 93]):=by simp
   show jL (([91]++cB (dO n.ah))++([124]++ia [w])++[93]) ([bG 91]++(eG (gp n.ah)++([bG 124]++lg [w]))++[bG 93]);rw[e1,e2];exact((((uW 91 (by decide)).nn hk).sign (by decide)).app ((Ma (by simp[hZ,hw])).sign (by decide))).n
 .exact Mm _ n (bP _) h
mutual
def ar.WF:ar->Prop
 | .mk t ks e=>kN t.kind=ak/\(closing t.kind=0->ks=[]/\e=t.pos)/\fj ks
def fj:List ar->Prop
 | []=>True
 | t::ts=>t.WF/\fj ts
end
def jO:∀{a b:List ar},fj (a++b)↔fj a/\fj b
 | [],b=>by simp[fj]
 | t::ts,b=>by simp only[gI,fj,jO (a:=ts),I2]
def zR{a r:List Tok}{t:Tok}:eP (a++t::r) a.length=t.kind:=by simp[eP]
def W8{a r:List Tok}{t:Tok}:i_ (a++t::r) a.length=t:=by simp[i_]
def Vd{a r:List Tok}{t:Tok}:qo (a++t::r) a.length=t.pos:=by simp[qo]
def P_{c:Int}(h:closing c≠0):kN (closing c)=aa/\closing (closing c)=0:=by
 have:c=40\/c=123\/c=91:=by
  unfold closing at h;split at h
  .rename_i k;exact .inl k
  .split at h
   .rename_i k;exact .inr k
   .exact absurd rfl h
 rcases this with rfl | rfl | rfl<;>decide
theorem Rb(t:ar)(ts:List ar):bn (t::ts)=t.flat++bn ts:=rfl
def Fx{l:List Tok}{x:Nat}:∀(k:Nat) (us:List ar) (a b:List Tok) (n:Nat) (d:Int),bd us<=k->fj us->l=a++bn us++b->1<=d->jn l x (n+(bn us).length) a.length d=jn l x n (a++bn us).length d
 | _,[],a,b,n,d,_,_,_,_=>by simp[bn]
 | 0,t::ts,a,b,n,d,h,_,_,_=>by simp[bd] at h
 | k + 1, .mk t ks e :: ts, a, b, n, d, h, hw, hl, hd => by
  simp only[bd,ar.many] at h;obtain⟨⟨w1,w2,w3⟩,w4⟩:=hw;rw[Rb] at hl ⊢
  by_cases hc:closing t.kind=0
  .have ef:(ar.mk t ks e).flat=[t]:=by simp[ar.flat,hc]
   rw[ef] at hl ⊢;have hk:eP l a.length=t.kind:=by rw[hl];simp only[eB,gI];exact zR
   have Gq:delta l a.length=0:=by unfold delta;rw[hk,hc,w1];simp
   rw[show n+([t]++bn ts).length=(n+(bn ts).length)+1 by simp;omega,tz,Gq,aC (by omega),Int.add_zero]
   have:=Fx (l:=l) (x:=x) k ts (a++[t]) b n d (by omega) w4 (by rw[hl];simp) hd
   rw[show(a++[t]).length=a.length+1 by simp] at this;rw[this];simp
  .have ef:(ar.mk t ks e).flat=t::(bn ks++[⟨closing t.kind,[UInt8.ofNat (closing t.kind).toNat],e⟩]):=by simp[ar.flat,hc]
   generalize gK:(⟨closing t.kind,[UInt8.ofNat (closing t.kind).toNat],e⟩:Tok)=c at ef;have Dg:c.kind=closing t.kind:=by rw[<-gK]
   obtain⟨c1,c2⟩:=P_ hc;rw[ef] at hl ⊢;have hk:eP l a.length=t.kind:=by rw[hl];simp only[eB,gI];exact zR
   have KD:delta l a.length=1:=CS (by rw[hk];exact hc);have rO:eP l (a++[t]++bn ks).length=c.kind:=by
    rw[hl]
    have:a++(t::(bn ks++[c])++bn ts)++b=(a++[t]++bn ks)++c::(bn ts++b):=by simp
    rw[this];exact zR
   have KE:delta l (a++[t]++bn ks).length = -1:=by unfold delta;rw[rO,Dg,c2,c1];simp
   rw[show n+(t::(bn ks++[c])++bn ts).length=((n+(bn ts).length+1)+(bn ks).length)+1 by simp;omega,tz,KD,aC (by omega)];have h1:=Fx (l:=l) (x:=x) k ks (a++[t]) ([c]++bn ts++b) (n+(bn ts).length+1) (d+1) (by omega) w3 (by rw[hl];simp) (by omega);rw[show(a++[t]).length=a.length+1 by simp] at h1;rw[h1,tz,KE,aC (by omega),show d+1 + -1=d by omega];have h2:=Fx (l:=l) (x:=x) k ts (a++[t]++bn ks++[c]) b n d (by omega) w4 (by rw[hl];simp) hd;rw[show(a++[t]++bn ks++[c]).length=(a++[t]++bn ks).length+1 by simp;omega] at h2;rw[h2];simp
def an8{l:List Tok}{t c:Tok}{ks:List ar}{a b:List Tok}(hl:l=a++[t]++bn ks++c::b)(hw:fj ks)(hc:closing t.kind≠0)(Dg:c.kind=closing t.kind):partner l a.length=(a++[t]++bn ks).length:=by
 obtain⟨c1,c2⟩:=P_ hc;have hk:eP l a.length=t.kind:=by rw[hl];simp only[eB,mU];exact zR
 have KD:delta l a.length=1:=CS (by rw[hk];exact hc);have rO:eP l (a++[t]++bn ks).length=c.kind:=by rw[hl];exact zR
 have KE:delta l (a++[t]++bn ks).length = -1:=by unfold delta;rw[rO,Dg,c2,c1];simp
 unfold partner;rw[show l.length - a.length=((b.length+1)+(bn ks).length)+1 by rw[hl];simp;omega,tz,KD,aC (by omega)];have h1:=Fx (l:=l) (x:=a.length) _ ks (a++[t]) (c::b) (b.length+1) (0+1) (bP _) hw hl (by omega);rw[show(a++[t]).length=a.length+1 by simp] at h1;rw[h1,tz,KE,aE (by omega)]
def H'{l:List Tok}:∀(k:Nat) (us:List ar) (a b:List Tok) (n:Nat),bd us<=k->fj us->l=a++bn us++b->(bn us).length<=n->nG l n a.length (a.length+(bn us).length)=us
 | _,[],a,b,n,_,_,_,_=>by cases n<;>simp[bn,nG]
 | 0,t::ts,a,b,n,h,_,_,_=>by simp[bd] at h
 | k + 1, .mk t ks e :: ts, a, b, n, h, hw, hl, hn => by
  simp only[bd,ar.many] at h;obtain⟨⟨w1,w2,w3⟩,w4⟩:=hw;rw[Rb] at hl hn ⊢
  by_cases hc:closing t.kind=0
  .have ef:(ar.mk t ks e).flat=[t]:=by simp[ar.flat,hc]
   obtain⟨w5,w6⟩:=w2 hc;rw[ef] at hl hn ⊢;have hC : l=a++t::(bn ts++b):=by rw[hl];simp
   have hk:eP l a.length=t.kind:=by rw[hC];exact zR
   have ht:i_ l a.length=t:=by rw[hC];exact W8
   have hp:qo l a.length=t.pos:=by rw[hC];exact Vd
   simp only[bN,gC] at hn ⊢;obtain⟨m,rfl⟩:∃m,n=m+1:=⟨n - 1,by omega⟩;rw[nG,aE (by omega),aC (by rw[hk];simpa using hc),ht,hp]
   have:=H' (l:=l) k ts (a++[t]) b m (by omega) w4 (by rw[hl];simp) (by omega)
   rw[show(a++[t]).length=a.length+1 by simp,show a.length+1+(bn ts).length=a.length+(1+(bn ts).length) by omega] at this;rw[this,w5,w6]
  .have ef:(ar.mk t ks e).flat=t::(bn ks++[⟨closing t.kind,[UInt8.ofNat (closing t.kind).toNat],e⟩]):=by simp[ar.flat,hc]
   generalize gK:(⟨closing t.kind,[UInt8.ofNat (closing t.kind).toNat],e⟩:Tok)=c at ef;have Dg:c.kind=closing t.kind:=by rw[<-gK]
   have vW:c.pos=e:=by rw[<-gK]
   rw[ef] at hl hn ⊢;have Bv:l=a++t::(bn ks++[c]++bn ts++b):=by rw[hl];simp
   have kR:l=a++[t]++bn ks++c::(bn ts++b):=by rw[hl];simp
   have hk:eP l a.length=t.kind:=by rw[Bv];exact zR
   have ht:i_ l a.length=t:=by rw[Bv];exact W8
   have Dw:=an8 kR w3 hc Dg;have hp:qo l (a++[t]++bn ks).length=e:=by rw[<-vW,kR];exact Vd
   simp only[bN,dd,eM] at hn;obtain⟨m,rfl⟩:∃m,n=m+1:=⟨n - 1,by omega⟩;rw[nG,aE (by simp),aE (by rw[hk];exact hc),ht,Dw,hp];have h1:=H' (l:=l) k ks (a++[t]) (c::(bn ts++b)) m (by omega) w3 kR (by omega);have h2:=H' (l:=l) k ts (a++[t]++bn ks++[c]) b m (by omega) w4 (by rw[hl];simp) (by omega);have e1:(a++[t]++bn ks).length=(a++[t]).length+(bn ks).length:=bN;have e2:a.length+1=(a++[t]).length:=by simp
   have e3:(a++[t]).length+(bn ks).length+1=(a++[t]++bn ks++[c]).length:=by simp only[bN,gC]
   have e4:a.length+(t::(bn ks++[c])++bn ts).length=(a++[t]++bn ks++[c]).length+(bn ts).length:=by simp only[bN,dd,eM];omega
   rw[e1,e2,h1,e3,e4,h2]
variable{us:List ar}
def W9(hw:fj us)(h:(gS (bn us)).2=af):(gS (bn us)).1=us:=by
 unfold gS at h ⊢;split
 .rename_i h0;rw[aE h0] at h;simp at h
 .have:=H' (l:=bn us) _ us [] [] (bn us).length (bP _) hw (by simp) (bP _)
  simpa using this
def fS:List Tok->List (Tok × List ar)->List ar->List ar × Option Int
 | [],op,row=>match op.getLast? with | some (t,_)=>([],U t.pos) | none=>(row,af)
 | t :: ts, op, row =>
  if closing t.kind≠0 then(if 24<=op.length then([],U t.pos) else fS ts (op++[(t,row)]) [])
  else if kN t.kind=aa then
   match op.getLast? with
   | none=>([],U t.pos)
   | some (u,ahead)=>if closing u.kind=t.kind then fS ts op.dropLast (ahead++[.mk u row t.pos]) else([],U t.pos)
  else fS ts op (row++[.mk t [] t.pos])
def Tk.ok(dr Z:ag)(n:Nat):Tk->Prop
 | .aV=>True
 | .tk Y=>dr.aK Y=af/\Z.aK Y=U n
 | .no=>False
def Tk.name:Tk->Option Nat
 | .tk Y=>U Y
 | _=>af
def jf(dr Z:ag)(L:List (Tk × Nat)):Prop:=dr.sub Z/\(∀p∈L,p.1.ok dr Z p.2)/\(L.filterMap λp=>p.1.name).Nodup
variable{L:List (Tk × Nat)}{Z:ag}
def jf.init(h:∀p∈L,p.1 = .aV):jf Z Z L:=by
 refine⟨ag.bc Z,λp hp=>by rw[h p hp];trivial,?_⟩
 have:L.filterMap (λp=>p.1.name)=[]:=by
  rw[List.filterMap_eq_nil_iff];intro p hp;rw[h p hp];rfl
 rw[this];exact List.nodup_nil
variable{dr:ag}
def jf.perm{L':List (Tk × Nat)}(h:jf dr Z L)(hp:L.Perm L'):jf dr Z L' :=
 ⟨h.1,λp hm=>h.2.1 p (hp.mem_iff.2 hm),(hp.filterMap _).nodup_iff.1 h.2.2⟩
def jf.tail{p:Tk × Nat}(h:jf dr Z (p::L)):jf dr Z L:=by
 refine⟨h.1,λq hq=>h.2.1 q (by simp[hq]),?_⟩
 have:=h.2.2
 simp only[IJ] at this;split at this
 .exact this
 .exact(O6.1 this).2
def jf.aV{n:Nat}(h:jf dr Z L):jf dr Z ((.aV,n)::L) :=
 ⟨h.1,λq hq=>by rcases kI.1 hq with rfl | hq;exact trivial;exact h.2.1 q hq,by simpa [IJ,Tk.name] using h.2.2⟩
variable{Y:Nat}
def jf.put{tk:Tk}{n m:Nat}(h:jf dr Z ((tk,n)::L))(h0:dr.aK Y=af)(ht:tk = .tk Y\/Z.aK Y=af):jf dr (Z.aY Y m) ((.tk Y,m)::L):=by
 have SA:Y∉L.filterMap λp=>p.1.name:=λhm=>by
  obtain⟨⟨t,k⟩,hq,hn⟩:=O3.1 hm;cases t with
  | no=>simp[Tk.name] at hn
  | aV=>simp[Tk.name] at hn
  | tk υ =>
   simp only[Tk.name,aZ] at hn;subst hn
   rcases ht with rfl | ht
   .have:=h.2.2
    simp only[IJ,Tk.name] at this;exact(O6.1 this).1 hm
   .have:=(h.2.1 (.tk υ,k) (by simp[hq])).2
    rw[ht] at this;simp at this
 refine⟨⟨h.1.1,λt k hk=>?_,h.1.2.2⟩,λp hp=>?_,?_⟩
 .have aX:t≠Y:=by rintro rfl;rw[h0] at hk;simp at hk
  simp only[ag.aY,aC aX];exact h.1.2.1 t k hk
 .rcases kI.1 hp with rfl | SE
  .exact⟨h0,by simp[ag.aY]⟩
  .have:=h.2.1 p (by simp[SE])
   obtain⟨t,k⟩:=p;cases t with
   | no=>exact this
   | aV=>trivial
   | tk υ =>
    have aX:υ≠Y:=by rintro rfl;exact SA (O3.2 ⟨(.tk υ,k),SE,rfl⟩)
    exact⟨this.1,by simp only[ag.aY,aC aX];exact this.2⟩
 .simp only[IJ,Tk.name];exact O6.2 ⟨SA,h.tail.2.2⟩
def jf.fresh(h:jf dr Z L)(ht:Z.aK Y=af):dr.aK Y=none:=by
 cases hq:dr.aK Y with
 | none=>rfl
 | some n=>rw[h.1.2.1 Y n hq] at ht;simp at ht
variable{K:V->ag->Prop}{m:List (List V)}
def I6{tk u:Tk}{k:Nat}{n:List (List V)}(h:jf dr Z ((tk,m.length)::L))(hb:m.length+n.length<=aO)
 (hk:∀Y,jf dr (Z.aY Y (m.length+n.length)) ((.tk Y,m.length+n.length)::L)->K (.sl (.tk Y) k (m++n)) (Z.aY Y (m.length+n.length))):pX Z k (.sl tk k m) (.sl u k n) K:=by
 have hh:=h.2.1 (tk,m.length) (by simp);cases tk with
 | no=>exact hh.elim
 | aV=>exact Fm hb λY br=>hk Y (h.put (h.fresh br) (.inr br))
 | tk Y=>exact jP hb hh.2 (hk Y (h.put hh.1 (.inl rfl)))
def anO{H:V->ag->Prop}{k:Nat}{cs:List V}:OQ.ba Z H (.lI k) [.agg cs]=(cs.length=k/\bK cs=aa/\cC cs=aa/\H (.sl .aV k [cs]) Z):=by
 simp only[OQ.ba,LR,x7,V.wd,V.cells,aZ]
 by_cases h:cs.length=k/\bK cs=aa/\cC cs=aa
 .rw[aE h];simp[h]
 .rw[aC h];simp;intro h1 h2 h3;exact absurd ⟨h1,h2,h3⟩ h
def HW{k:Nat}{Y:Tk}{j j' : IntKind}{b:Nat}{H:V->Prop}(h2:b<=m.length)(h:H (.sl .aV k (m.take b))):Eo k (.sl Y k m) af (U (.int j b)) (U (.int j' b)) H:=.inl ⟨Y,m,0,b,rfl,IW _,h2,rfl,⟨j,rfl⟩,⟨j',rfl⟩,h⟩
structure aq where
 op:Int
 pos:Int
 name:aA
 aj:List aA
 bm:List (aA × aA)
 mJ:Int
 left:Nd
 right:Nd
def aq.zero:aq:=⟨0,0,⟨[],0⟩,[],[],0,.zero,.zero⟩
def ff(p:aA × aA):List V:=[.aF p.1.an,.int .i64 p.1.pos,.aF p.2.an,.int .i64 p.2.pos]
def aq.cQ(c:aq)(pc:V):List V:=[.int .i64 c.op,.int .i64 c.pos,.aF c.name.an,.int .i64 c.name.pos,.sl .no 2 (c.aj.map aA.enc),pc,.int .i64 c.mJ,
 .int .i64 c.left.kind,.int .i64 c.left.pos,.aF c.left.an,.sl .no 2 (c.left.aj.map aA.enc),.sl .no 5 (c.left.ah.map Nd.enc),.int .i64 c.right.kind,.int .i64 c.right.pos,.aF c.right.an,.sl .no 2 (c.right.aj.map aA.enc),.sl .no 5 (c.right.ah.map Nd.enc)]
def qn:List (aA × aA)->V
 | []=>.sl .aV 4 []
 | p::ps=>.sl .no 4 ((p::ps).map ff)
def aq.enc(c:aq):List V:=c.cQ (.sl .no 4 (c.bm.map ff))
def jS:List (List UInt8 × List UInt8) :=
 [([],[]),([99,104,97,105,110],[110,119]),([112,111,119,101,114],[110,119]),([112,114,111,100,117,99,116],[110,119]),([103,114,105,100],[110,119,112]),([116,97,98,108,101],[110,119,112]),([108,97,98,101,108],[110,119]),([114,111,119],[110,119]),([108,101,113],[110,116,116]),([114,111,119,101,113],[110,114,114]),([108,97,99,107,115],[110,102]),([112,117,115,104],[]),([112,111,112],[]),([99,104,101,99,107],[]),([99,111,114,101],[]),([119,104,121],[110])]
def gh:List V:=(jS.map λp=>[V.aF p.1,V.aF p.2]).flatten
def cp(op:Int):List UInt8 × List UInt8:=if 0<=op/\op<16 then jS.getD op.toNat ([],[]) else([],[])
def nj(w:List UInt8):Nat->Nat->Int
 | 0,_=>0
 | n+1,op=>if 0<op/\(cp op).1=w then op else nj w n (op+1)
def iD(w:List UInt8):Int:=nj w 16 0
def ab.fW:Nat->ab->List (aA × aA)->ab × List (aA × aA)
 | 0,i,acc=>(i,acc)
 | n + 1, i, acc =>
  if i.aG≠af then(i,acc)
  else
   if ((i.word.2.take 60).2.word).2.at_=i.l.length then(((i.word.2.take 60).2.word).2,acc++[(i.word.1,((i.word.2.take 60).2.word).1)])
   else fW n (((i.word.2.take 60).2.word).2.take 44).2 (acc++[(i.word.1,((i.word.2.take 60).2.word).1)])
def ab.ue(r:ab)(b:Option Int):ab:=match b with | some a=>{r with aG:=U a} | none=>r
def o9(r:ab)(c:aq):ab × aq :=
 let t:=(r.take 123).1
 let r1:=(r.take 123).2
 if r1.aG≠af\/t.ah.length=0 then(r1,{c with mJ:=t.tok.pos})
 else(r1.ue (t.inner.fW (t.ah.length+1) []).1.aG,{c with mJ:=t.tok.pos,bm:=(t.inner.fW (t.ah.length+1) []).2})
def iO(r:ab)(c:aq)(g:Nd × Int × Option Int):ab × aq :=
 match g.2.2 with
 | some a=>({r with aG:=U a},c)
 | none=>({r with at_:=g.2.1},if c.left.kind=0 then {c with left:=g.1} else {c with right:=g.1})
def c_(letter:UInt8)(x:ab × aq):ab × aq :=
 if x.1.aG≠af then x
 else if letter=110 then(x.1.word.2,{x.2 with name:=x.1.word.1})
 else if letter=102 then(x.1.word.2,{x.2 with aj:=[x.1.word.1]})
 else if letter=119 then({x.1 with aG:=(ja x.1.l x.1.at_ x.1.fin).2,at_:=x.1.at_+1},{x.2 with aj:=(ja x.1.l x.1.at_ x.1.fin).1})
 else if letter=112 then o9 x.1 x.2
 else if letter=116 then iO x.1 x.2 (fp (ab.label (bd x.1.l)) x.1.l x.1.at_ x.1.fin)
 else if letter=114 then iO x.1 x.2 (fp (ab.row (bd x.1.l)) x.1.l x.1.at_ x.1.fin)
 else x
def hH:List UInt8->ab × aq->ab × aq
 | [],x=>x
 | k::ks,x=>hH ks (c_ k x)
def vK(x:ab × aq):aq × Int × Int :=
 match (if x.1.aG=af/\x.1.at_<x.1.l.length then x.1.fail else x.1).aG with
 | some a=>(.zero,2,a)
 | none=>(x.2,0,0)
def sG(l:List ar)(fin:Int):aq × Int × Int :=
 match l with
 | []=>(.zero,0,0)
 | t :: _ =>
  let w:=(⟨l,0,fin,af⟩:ab).word
  if iD w.1.an=0 then(.zero,2,t.tok.pos)
  else vK (hH (cp (iD w.1.an)).2 (w.2,{aq.zero with op:=iD w.1.an,pos:=w.1.pos}))
def cW(s:List UInt8):aq × Int × Int :=
 match (dR s).2 with
 | some a=>(.zero,1,a)
 | none => match (fS (dR s).1 [] []).2 with
  | some a=>(.zero,2,a)
  | none=>sG (fS (dR s).1 [] []).1 s.length
structure jN(l:List ar)(fin:Int)(x:ab × aq):Prop where
 hl:x.1.l=l
 hf:x.1.fin=fin
 ge:0<=x.1.at_
 le:x.1.at_<=(l.length:Int)+1
 ok:x.1.aG=af->x.1.at_<=(l.length:Int)
def adC(r:ab):r.fail.fin=r.fin:=by unfold ab.fail;split<;>rfl
def Ev(r:ab)(k:Int):(r.take k).2.fin=r.fin:=by
 unfold ab.take;split
 .rfl
 .exact adC r
def ahU(n:Nat)(r:ab):lk r (r.row n).2:=by
 unfold ab.row;split
 .rename_i hs;have h:=sM r 91;have hb:(r.take 91).2.aG=none:=by
   rcases r.tK 91 with ⟨_,_,hb,_,_⟩ | ⟨h',_⟩
   .exact hb
   .rw[hs] at h';simp at h'
  exact⟨h.1,λh1 h2=>by
   obtain⟨p1,p2,p3⟩:=h.2 h1 h2;exact⟨p1,p2,λ_=>p3 hb⟩⟩
 .exact C5 r 1
variable{c:aq}{l:List ar}{x:ab × aq}
def jN.goes{fin:Int}(h:jN l fin x)(hb:x.1.aG=af)(g:lk x.1 r)(hf:r.fin=x.1.fin):jN l fin (r,c):=by
 obtain⟨h1,h2,h3,h4,h5⟩:=h;have h5:=h5 hb;obtain⟨g1,g2⟩:=g;rw[h1] at g2;have g2:=g2 h3 (by omega);exact⟨g1.trans h1,hf.trans h2,by simp only;omega,by simp only;omega,λ_=>by simp only;omega⟩
def jN.aG{l:List ar}{fin:Int}{r:ab}{c c' : aq}{a:Int}(h:jN l fin (r,c)):jN l fin ({r with aG:=U a},c'):=⟨h.hl,h.hf,h.ge,h.le,λh=>by simp at h⟩
def Uw{fin:Int}{one:ab->Nd × ab}(h:jN l fin (r,c))(hb:r.aG=af)(ho:∀r,lk r (one r).2):jN l fin (iO r c (fp one r.l r.at_ r.fin)):=by
 unfold iO fp;have he:(⟨r.l,r.at_,r.fin,af⟩:ab)=r:=by cases r;simp only at hb;subst hb;rfl
 rw[he];cases hq:(one r).2.aG with
 | some a=>exact h.aG
 | none =>
  obtain⟨g1,g2⟩:=ho r;have h5:=h.ok hb;have h3:=h.ge;have h1:=h.hl;simp only at h5 h3 h1;rw[h1] at g2;have g2:=g2 h3 h5;exact⟨h.hl,h.hf,by simp only;omega,by simp only;omega,λ_=>by simp only;omega⟩
def anU{fin:Int}(h:jN l fin (r,c))(hb:r.aG=af):jN l fin (o9 r c):=by
 have h1:∀c',jN l fin ((r.take 123).2,c'):=λc' => jN.goes (x:=(r,c)) h hb (sM r 123) (Ev r 123)
 unfold o9;simp only;split
 .exact h1 _
 .unfold ab.ue;split
  .exact(h1 c).aG
  .exact h1 _
def UX{fin:Int}(h:jN l fin x)(k:UInt8):jN l fin (c_ k x):=by
 obtain⟨r,c⟩:=x;unfold c_;simp only;split
 .exact h
 rename_i hb;have hb:r.aG=none:=by simpa using hb
 split
 .exact jN.goes (x:=(r,c)) h hb (xx r) (Ev r 97)
 split
 .exact jN.goes (x:=(r,c)) h hb (xx r) (Ev r 97)
 split
 .have h5:=h.ok hb;have h3:=h.ge;simp only at h5 h3;refine⟨h.hl,h.hf,by simp only;omega,by simp only;omega,λhn=>?_⟩;have he:(⟨r.l,r.at_,r.fin,af⟩:ab)=r:=by cases r;simp only at hb;subst hb;rfl
  simp only[ja,he] at hn;cases hq:(r.words ak).2.aG with
  | some a=>rw[hq] at hn;simp at hn
  | none =>
   obtain⟨g1,g2⟩:=J3 r ak;have h1:=h.hl;simp only at h1;rw[h1] at g2
   have:=(g2 h3 h5)
   have:=this.2.2 hq
   simp only;omega
 split
 .exact anU h hb
 split
 .exact Uw h hb (J2 _)
 split
 .exact Uw h hb (ahU _)
 .exact h
def U1:∀(ks:List UInt8) (k:UInt8) (x:ab × aq),hH (ks++[k]) x=c_ k (hH ks x)
 | [],_,_=>rfl
 | _::ks,k,x=>U1 ks k _
def MQ{l:List ar}{fin:Int}:∀(ks:List UInt8) {x:ab × aq},jN l fin x->jN l fin (hH ks x)
 | [],_,h=>h
 | k::ks,_,h=>MQ ks (UX h k)
def UY{k:UInt8}(h:k≠112\/x.1.aG≠af):(c_ k x).2.bm=x.2.bm:=by
 unfold c_;split
 .rfl
 rename_i hb;have hb:x.1.aG=none:=by simpa using hb
 have hk:k≠112:=by rcases h with h | h;exact h;exact absurd hb h
 split
 .rfl
 split
 .rfl
 split
 .rfl
 have hn:∀g,(iO x.1 x.2 g).2.bm=x.2.bm:=λg=>by
  unfold iO;split
  .rfl
  .simp only;split<;>rfl
 split
 .exact hn _
 split
 .exact hn _
 .rfl
def U0:∀(ks:List UInt8) {x:ab × aq},(∀k∈ks,k≠112)->(hH ks x).2.bm=x.2.bm
 | [],_,_=>rfl
 | k::ks,x,h=>(U0 ks λj hj=>h j (by simp[hj])).trans (UY (.inl (h k (by simp))))
def ahe(op:Int)(i:Nat)(h:(cp op).2[i]?=U 112):∀k∈(cp op).2.take i,k≠112:=by
 unfold cp at h ⊢;split at h
 .rename_i h1;rw[aE h1];have aB:op.toNat<16:=by omega
  generalize op.toNat=n at h aB ⊢;have key:∀n<16,∀i<3,(jS.getD n ([],[])).2[i]?=U 112->∀k∈(jS.getD n ([],[])).2.take i,k≠112:=by decide
  have hl:∀n<16,(jS.getD n ([],[])).2.length<=3:=by decide
  have:=(fg.1 h).1
  exact key n aB i (by have:=hl n aB;omega) h
 .simp at h
def JV(op:Int):∀c∈(cp op).2,c.toNat<128:=by
 unfold cp;split
 .rename_i h1;have aB:op.toNat<16:=by omega
  generalize op.toNat=n at aB ⊢;have key:∀n<16,∀c∈(jS.getD n ([],[])).2,c.toNat<128:=by decide
  exact key n aB
 .simp
def gT(s:aH)(lat:Int)(t:List UInt8)(p kind:Int):List aL :=
 match kj s.vars t with
 | none=>if (iu s.bu t).isNone then [⟨3,p⟩] else [⟨4,p⟩]
 | some v => match s.vars[v]? with
  | some x=>if x.kind≠kind\/(0<=lat/\x.lat≠lat) then [⟨4,p⟩] else []
  | none=>[]
def gk(s:aH)(w:aA):List aL:=if (iu s.bu w.an).isNone then(if (kj s.vars w.an).isNone then [⟨3,w.pos⟩] else [⟨4,w.pos⟩]) else []
def atI(o:Option Int):aL:=match o with | some p=>⟨4,p⟩ | none=>.zero
def vI(s:aH)(lat:Int)(n:Nd):Option Int:=(iq (vf s lat.toNat) (n.ah.getD 0 j5)).2
def y9(s:aH)(lat:Int)(n:Nd):List aL:=if 0<n.ah.length/\0<=lat then(match vI s lat n with | some p=>[⟨4,p⟩] | none=>[]) else []
def ke(s:aH)(lat:Int)(n:Nd):List aL:=if n.kind=1 then gT s lat n.an n.pos 1 else if n.kind=7 then y9 s lat n else []
mutual
def fF(s:aH)(lat:Int):Nd->List aL
 | .mk k p t ws ks=>ke s lat (.mk k p t ws ks)++if k=1\/k=7 then [] else x8 s lat ks
def x8(s:aH)(lat:Int):List Nd->List aL
 | []=>[]
 | n::ns=>fF s lat n++x8 s lat ns
end
def LY{s:aH}{lat:Int}:∀{l:List Nd},x8 s lat l=l.flatMap (fF s lat)
 | []=>by simp[x8]
 | n::ns=>by simp[x8,LY]
variable{lat:Int}
def G6{s:aH}(n:Nd):fF s lat n=ke s lat n++if n.kind=1\/n.kind=7 then [] else n.ah.flatMap (fF s lat):=by
 cases n;rw[fF,LY];rfl
def uq(ks:List Nd)(i:Nat):List aL:=if (gY ((ks.take i).map Nd.an) (ks.getD i j5).an).isSome then [⟨4,(ks.getD i j5).pos⟩] else []
def zf(s:aH)(lat:Int)(ks:List Nd)(i:Nat):List aL:=uq ks i++(ks.getD i j5).ah.flatMap (ke s lat)
def nX(s:aH)(lat:Int)(ks:List Nd)(m:Nat):List aL:=(bU m).flatMap (zf s lat ks)
def wJ(s:aH)(lat:Int)(ws:List aA):List aL:=ws.flatMap λw=>gT s lat w.an w.pos 2
def nr(s:aH)(lat p:Int)(n:Nd):List aL :=
 if n.kind=1 then gT s lat n.an n.pos 2 else if n.kind=10 then nX s lat n.ah n.ah.length++wJ s lat n.aj++(if 16<n.ah.length then [⟨7,p⟩] else []) else []
def cM(s:aH)(c:aq):Int:=dh (iu s.bu c.name.an)
def xm(n:Nd):List aL:=if n.kind=8\/n.kind=9 then [⟨6,n.pos⟩] else []
def qF(s:aH)(c:aq):List aL :=
 if c.op=10 then gT s (-1) c.name.an c.name.pos 2
 else if c.op=15 then gT s (-1) c.name.an c.name.pos 1
 else if c.op=8 then gk s c.name++fF s (cM s c) c.left++fF s (cM s c) c.right++xm c.right
 else if c.op=9 then gk s c.name++nr s (cM s c) c.pos c.left++nr s (cM s c) c.pos c.right
 else []
def jQ(s:aH)(c:aq):aL:=fU (qF s c)
def nK(Y:Nat)(l:List aL)(s:aH)(lat p:Int):List V:=[.sl (.tk Y) 2 (l.map aL.enc),.sl .no 3 (s.bu.map dY.enc),.sl .no 3 (s.vars.map du.enc),.int .i64 lat,.int .i64 p]
def cS(Z:ag)(b Y:Nat)(l:List aL)(s:aH)(lat p:Int):ag:=(Z.set b (nK Y l s lat p)).aY Y l.length
section
variable {Z:ag} {b b' Y n:Nat} {l:List aL} {s:aH} {lat L0 p x y:Int} {c:List V}
def Ip:(cS Z b Y l s lat p).box b=U (nK Y l s lat p):=by simp[cS,ag.set,ag.aY]
def AH(h:b' ≠ b):(cS Z b Y l s lat p).box b' = Z.box b' := by simp[cS,ag.set,ag.aY,h]
def On:(cS Z b Y l s lat p).aK Y=U l.length:=by simp[cS,ag.set,ag.aY]
def XF(h:b' ≠ b):(cS Z b Y l s lat p).set b' c=cS (Z.set b' c) b Y l s lat p:=by
 simp only[cS,ag.set,ag.aY,ag.mk.injEq,ij];funext z
 by_cases h1:z=b'
 .subst h1;simp[h]
 .simp[h1]
def atd:(cS Z b Y l s lat p).set b [.sl (.tk Y) 2 (l.map aL.enc),.sl .no 3 (s.bu.map dY.enc),.sl .no 3 (s.vars.map du.enc),.int .i64 x,.int .i64 p]=cS Z b Y l s x p:=by
 simp only[cS,nK,ag.set,ag.aY,ag.mk.injEq,ij];funext z
 by_cases h1:z=b<;>simp[h1]
def atc:((cS Z b Y l s lat p).aY Y (l.length+1)).set b [.sl (.tk Y) 2 (l.map aL.enc++[[.int .i64 x,.int .i64 y]]),.sl .no 3 (s.bu.map dY.enc),.sl .no 3 (s.vars.map du.enc),.int .i64 lat,.int .i64 p]=cS Z b Y (l++[⟨x,y⟩]) s lat p:=by
 simp only[cS,nK,ag.set,ag.aY,ag.mk.injEq,f_,b8,eR,aL.enc,bN,gC,ij];constructor
 .funext z
  by_cases h1:z=b<;>simp[h1]
 .funext z
  by_cases h1:z=Y<;>simp[h1]
def ate(h:Z.box b=af)(ht:Z.aK Y=af):Z.sub (cS Z b Y l s lat p):=by
 refine⟨λx cs hx=>?_,λt m hm=>?_,λ_ _ h=>h⟩
 .have:x≠b:=by rintro rfl;rw[h] at hx;simp at hx
  rw[AH this];exact hx
 .have:t≠Y:=by rintro rfl;rw[ht] at hm;simp at hm
  simp[cS,ag.set,ag.aY,this];exact hm
def XE(h:b' ≠ b)(hn:Z.box b' = af):(cS Z b Y l s lat p).sub (cS (Z.set b' c) b Y l s lat p):=by
 refine⟨λx cs hx=>?_,λt m hm=>?_,λ_ _ h=>h⟩
 .by_cases h1:x=b
  .subst h1;rw[Ip] at hx ⊢;exact hx
  .rw[AH h1] at hx ⊢
   have:x≠b' := by rintro rfl;rw[hn] at hx;simp at hx
   simp only[ag.set,this,cn];exact hx
 .simpa [cS,ag.set,ag.aY] using hm
theorem w_f:bF ak 1 (nK Y l s lat p)=U (.sl (.tk Y) 2 (l.map aL.enc)):=rfl
theorem w_s:takeN 2 ((nK Y l s lat p).drop 1)=U s.enc:=rfl
theorem w_l:bF ak 1 ((nK Y l s lat p).drop 1)=U (.sl .no 3 (s.bu.map dY.enc)):=rfl
theorem w_v:bF ak 1 ((nK Y l s lat p).drop 2)=U (.sl .no 3 (s.vars.map du.enc)):=rfl
theorem w_t:bF ak 1 ((nK Y l s lat p).drop 3)=U (.int .i64 lat):=rfl
theorem w_p:bF ak 1 ((nK Y l s lat p).drop 4)=U (.int .i64 p):=rfl
theorem w_h:bZ 1 (nK Y l s lat p)=true:=rfl
theorem asi:bZ 1 ((nK Y l s lat p).drop 3)=true:=rfl
theorem w_o{v:V}:over (nK Y l s lat p) [v]=[v,.sl .no 3 (s.bu.map dY.enc),.sl .no 3 (s.vars.map du.enc),.int .i64 lat,.int .i64 p]:=rfl
theorem asm{v:V}:setAt (nK Y l s lat p) 3 [v]=[.sl (.tk Y) 2 (l.map aL.enc),.sl .no 3 (s.bu.map dY.enc),.sl .no 3 (s.vars.map du.enc),v,.int .i64 p]:=rfl
variable{w:aA}
theorem wS:bF ak 1 w.enc=U (.aF w.an):=rfl
theorem sr:bF ak 1 (w.enc.drop 1)=U (.int .i64 w.pos):=rfl
theorem w_b{u v x y:V}:over [u,v,x,y] s.enc=[.sl .no 3 (s.bu.map dY.enc),.sl .no 3 (s.vars.map du.enc),x,y]:=rfl
def jt:=ae @w_b <| ae @wS <| ae @sr <| ae @Ip <| ae @On <| ae @w_f <| ae @w_s <| ae @w_l <| ae @w_v <| ae @w_t <| ae @w_p <| ae @w_h <| ae @asi <| ae @w_o @asm
end
def XG{b υ n:Nat}{l:List aL}{s:aH}(h:υ≠Y):(cS Z b Y l s lat p).aY υ n=cS (Z.aY υ n) b Y l s lat p:=by
 simp only[cS,ag.set,ag.aY,ag.mk.injEq,pU,ij];funext z
 by_cases h1:z=υ
 .subst h1;simp[h]
 .simp[h1]
def XD{σ':ag}{b:Nat}{l:List aL}{s:aH}(h:Z.sub σ'):(cS Z b Y l s lat p).sub (cS σ' b Y l s lat p):=by
 refine⟨λx cs hx=>?_,λt m hm=>?_,h.2.2⟩
 .by_cases h1:x=b
  .subst h1;rw[Ip] at hx ⊢;exact hx
  .rw[AH h1] at hx ⊢;exact h.1 x cs hx
 .simp only[cS,ag.set,ag.aY] at hm ⊢;split
  .rename_i e;rw[aE e] at hm;exact hm
  .rename_i e;rw[aC e] at hm;exact h.2.1 t m hm
structure Ah(Z σ' : ag)(Y:Nat)(tk:Tk)(n:Nat):Prop where
 box:σ'.box=Z.box
 sub:Z.sub σ'
 tk:tk = .aV\/∃υ,tk = .tk υ/\υ≠Y/\σ'.aK υ=U n/\Z.aK υ=af
def Ah.nil:Ah Z Z Y .aV 0:=⟨rfl,ag.bc Z,.inl rfl⟩
def Ah.app{σ':ag}{b k:Nat}{tk u:Tk}{l:List aL}{s:aH}{e:List (List V)}(h:Ah Z σ' Y tk m.length)(hb:m.length+e.length<=aO)
 (hk:∀jJ rq,Ah Z rq Y jJ (m++e).length->K (.sl jJ k (m++e)) (cS rq b Y l s lat p)):pX (cS σ' b Y l s lat p) k (.sl tk k m) (.sl u k e) K:=by
 have hl:(m++e).length=m.length+e.length:=bN;have up:∀υ n,σ'.aK υ=af\/Z.aK υ=af->Z.sub (σ'.aY υ n):=λυ n hn=>⟨λx cs hx=>h.sub.1 x cs hx,λt q hq=>by
  have aX:t≠υ:=by
   rintro rfl
   rcases hn with hn | hn
   .rw[h.sub.2.1 _ _ hq] at hn;simp at hn
   .rw[hq] at hn;simp at hn
  simp only[ag.aY,aC aX];exact h.sub.2.1 t q hq,h.sub.2.2⟩
 rcases h.tk with rfl | ⟨υ,rfl,aX,ht,h0⟩
 .refine Fm hb λυ kq=>?_
  have aX:υ≠Y:=by rintro rfl;rw[On] at kq;simp at kq
  have Lq : σ'.aK υ=none:=by simpa [cS,ag.set,ag.aY,aX] using kq
  rw[XG aX];refine hk _ _ ⟨h.box,up υ _ (.inl Lq),.inr ⟨υ,rfl,aX,by rw[hl];simp[ag.aY],?_⟩⟩;cases hq:Z.aK υ with
  | none=>rfl
  | some n=>rw[h.sub.2.1 _ _ hq] at Lq;simp at Lq
 .refine jP hb (by simpa [cS,ag.set,ag.aY,aX] using ht) ?_;rw[XG aX];exact hk _ _ ⟨h.box,up υ _ (.inr h0),.inr ⟨υ,rfl,aX,by rw[hl];simp[ag.aY],h0⟩⟩
section
variable {s:aH} {lat:Int}
def B7{t:List UInt8}{p k:Int}:(gT s lat t p k).length<=1:=by
 unfold gT;split
 .split<;>simp
 .split
  .split<;>simp
  .simp
def aj6{w:aA}:(gk s w).length<=1:=by unfold gk;split;(split<;>simp);simp
def Fs{n:Nd}:(ke s lat n).length<=1:=by
 unfold ke;split
 .exact B7
 .split
  .unfold y9;split
   .cases vI s lat n<;>simp
   .simp
  .simp
mutual
def LV:∀n:Nd,(fF s lat n).length<=n.cy
 | .mk k p t ws ks => by
  have h1:=@Fs s lat (.mk k p t ws ks);have h2:=LX ks;rw[fF,bN,Nd.cy];split
  .simp;omega
  .omega
def LX:∀l:List Nd,(x8 s lat l).length<=gg l
 | []=>by simp[x8]
 | n :: ns => by
  have:=LV n;have:=LX ns
  rw[x8,bN,gg];omega
end
def Qi:∀{l:List Nd} {i:Nat} (hi:i<l.length),gg (l.take i)+l[i].cy<=gg l
 | [],i,hi=>by simp at hi
 | n::ns,0,_=>by simp[gg]
 | n :: ns, i + 1, hi => by
  have:=Qi (l:=ns) (i:=i) (by simpa using hi)
  simp only[vu,gg,EU];omega
variable{i:Nat}
def aj4{l:List Nd}(hi:i<l.length):((l.take i).flatMap (fF s lat)).length+l[i].cy<=gg l:=by
 have h1:=@LX s lat (l.take i);rw[LY] at h1
 have:=Qi hi
 omega
def CY{α:Type}{f:α->List aL}{m:Nat}:∀{l:List α},(∀x∈l,(f x).length<=m)->(l.flatMap f).length<=l.length*m
 | [],_=>by simp
 | x :: l, h => by
  have:=h x (by simp)
  have:=CY (m:=m) (l:=l) λy hy=>h y (by simp[hy])
  rw[p7,bN,dd,je,w9];omega
def JQ{α:Type}{f:α->List aL}{l:List α}(hi:i<l.length):(l.take (i+1)).flatMap f=(l.take i).flatMap f++f l[i]:=by
 rw[jx hi,yK];simp
def NZ{ws:List aA}:(wJ s lat ws).length<=ws.length:=by
 have:=CY (f:=λw:aA=>gT s lat w.an w.pos 2) (m:=1) (l:=ws) λ_ _=>B7
 rw[sB] at this;exact this
def ad7{ks:List Nd}{i:Nat}:(zf s lat ks i).length<=1+(ks.getD i j5).ah.length:=by
 have:=CY (f:=ke s lat) (m:=1) (l:=(ks.getD i j5).ah) λ_ _=>Fs
 have h2:(uq ks i).length<=1:=by unfold uq;split<;>simp
 rw[zf,bN];omega
def Rg{m:Nat}:nX s lat ks (m+1)=nX s lat ks m++zf s lat ks m:=by
 simp only[nX,qz,yK,p7,OV,eD]
def Qg:∀{l:List Nd} {i:Nat} (hi:i<l.length),gg (l.take (i+1))=gg (l.take i)+l[i].cy
 | [],i,hi=>by simp at hi
 | n::ns,0,_=>by simp[gg]
 | n :: ns, i + 1, hi => by
  have:=Qg (l:=ns) (i:=i) (by simpa using hi)
  simp only[vu,gg,EU] at this ⊢;omega
def JS{ks:List Nd}:∀{m:Nat},m<=ks.length->(nX s lat ks m).length<=gg (ks.take m)
 | 0,_=>by simp[nX]
 | m + 1, hm => by
  have h1:=JS (ks:=ks) (m:=m) (by omega);have h2:=@ad7 s lat ks m;have h3:=Nd.sH ks[m];have h4:=Jo ks[m].ah;rw[qN (by omega)] at h2;rw[Rg,bN,Qg (by omega)];omega
def VG{p:Int}{n:Nd}:(nr s lat p n).length<=2*n.cy+2:=by
 have Dp:=Nd.sH n;have v7:=CO n;have h1:=JS (s:=s) (lat:=lat) (bP n.ah.length);have h2:=Qh n.ah n.ah.length;have h3:=@NZ s lat n.aj;have h4:=@B7 s lat n.an n.pos 2;unfold nr;split
 .omega
 .split
  .simp only[bN]
   have:(if 16<n.ah.length then [(⟨7,p⟩:aL)] else []).length<=1:=by split<;>simp
   omega
  .simp
end
def tg(kind:Int)(l:List ar)(a fin:Int):cf :=
 if bz l a 97=aa then ⟨.mk kind (fH l a).pos (fH l a).an [] [],a+1,ak,0⟩ else dU l a fin
def Al(l:List ar)(a fin:Int):cf :=
 if bz l a 97=ak then dU l a fin
 else if bz l (a+1) 58=ak then dU l (a+1) fin
 else if bz l (a+2) 123=ak then dU l (a+2) fin
 else if (wholeAt nameAt (bI l (a+2)) aa).2.aG=aa then(wholeAt nameAt (bI l (a+2)) aa).2
 else ⟨.mk 6 (fH l a).pos (fH l a).an (su (wholeAt nameAt (bI l (a+2)) aa).1) [],a+3,ak,0⟩
def mE(w:List Nd × cf)(mk:List Nd->Nd)(next:Int):cf:=if w.2.aG=aa then w.2 else ⟨mk w.1,next,ak,0⟩
def qa:Nat->List ar->Int->Int->cf
 | 0,l,a,fin=>tg 2 l a fin
 | n + 1, l, a, fin =>
  if bz l a 97=aa then tg 2 l a fin
  else if bz l a 123=aa then mE (wholeAt nameAt (bI l a) aa) (λks=>.mk 3 (fH l a).pos [] (su ks) []) (a+1)
  else if bz l a 40=aa then mE (wholeAt (qa n) (bI l a) ak) (λks=>.mk 4 (fH l a).pos [] [] ks) (a+1)
  else if bz l a 91=aa then mE (wholeAt Al (bI l a) aa) (λks=>.mk 5 (fH l a).pos [] [] ks) (a+1)
  else dU l a fin
def cf.put(g:cf)(f:Nd->Nd):cf:=if g.aG=aa then g else {g with node:=f g.node}
def iU:Nat->List ar->Int->Int->cf
 | 0,l,a,fin=>tg 1 l a fin
 | n + 1, l, a, fin =>
  if bz l a 97=aa then tg 1 l a fin
  else if bz l a 35=aa then(qa (n+1) l (a+1) fin).put λm=>.mk 7 (fH l a).pos [] [] [m]
  else if bz l a 43=ak/\bz l a 38=ak then dU l a fin
  else if bz l (a+1) 40=ak then dU l (a+1) fin
  else mE (wholeAt (iU n) (bI l (a+1)) ak) (λks=>.mk (if bz l a 38=aa then 9 else 8) (fH l a).pos [] [] ks) (a+2)
def rE(n:Nat)(l:List ar)(a fin:Int):cf:=if bz l a 43=aa\/bz l a 38=aa then dU l a fin else iU n l a fin
def zc(n:Nat)(l:List ar)(a fin:Int):cf :=
 if bz l a 97=ak then dU l a fin
 else if bz l (a+1) 61=ak then dU l (a+1) fin
 else(rE n l (a+2) fin).put λm=>.mk 11 (fH l a).pos (fH l a).an [] [m]
def wF(l:List ar)(a:Int)(ks:List Nd)(ws:List aA)(next:Int):cf :=
 if next<(bI l a).ah.length then dU (bI l a).ah next (bI l a).fin else ⟨.mk 10 (fH l a).pos [] ws ks,a+1,ak,0⟩
def rl(l:List ar)(a:Int)(ks:List Nd)(next:Int):cf :=
 if bz (bI l a).ah next 124=aa then
  if (nameAt (bI l a).ah (next+1) (bI l a).fin).aG=aa then nameAt (bI l a).ah (next+1) (bI l a).fin
  else wF l a ks (su [(nameAt (bI l a).ah (next+1) (bI l a).fin).node]) (nameAt (bI l a).ah (next+1) (bI l a).fin).next
 else wF l a ks [] next
def u_(n:Nat)(l:List ar)(a:Int):List Nd × cf:=fY (λi=>zc n (bI l a).ah i (bI l a).fin) (bI l a).ah ((bI l a).ah.length+1) 0 []
def lO(n:Nat)(l:List ar)(a fin:Int):cf :=
 if bz l a 97=aa then iU n l a fin
 else if bz l a 91=ak then dU l a fin
 else if 0<(bI l a).ah.length/\bz (bI l a).ah 0 124=ak then
  if (u_ n l a).2.aG=aa then(u_ n l a).2 else rl l a (u_ n l a).1 (u_ n l a).2.next
 else rl l a [] 0
def tP(g:List ar->Int->Int->cf):Prop:=∀l a fin,(g l a fin).aG=ak->0<=a/\a+1<=(g l a fin).next/\(g l a fin).next<=(l.length:Int)
def qk{i:Int}(h:bz l i k=aa):0<=i/\i<(l.length:Int):=by
 obtain⟨j,t,rfl,_,_,hl⟩:=x6 h;omega
def Fk(k:Int):tP (tg k):=λl a fin h=>by
 unfold tg at h ⊢;split
 .rename_i hk;have:=qk hk;exact⟨this.1,by simp,by simp only;omega⟩
 .rename_i hk;rw[aC hk] at h;simp[dU] at h
def Yl:tP Al:=λl a fin h=>by
 unfold Al at h ⊢;split
 .rename_i hk;rw[aE hk] at h;simp[dU] at h
 rename_i h1;rw[aC h1] at h;split
 .rename_i hk;rw[aE hk] at h;simp[dU] at h
 rename_i h2;rw[aC h2] at h;split
 .rename_i hk;rw[aE hk] at h;simp[dU] at h
 rename_i h3;rw[aC h3] at h;split
 .rename_i hk;rw[aE hk,hk] at h;simp at h
 .have:=qk (by simpa using h3:bz l (a+2) 123=aa)
  have:=qk (by simpa using h1:bz l a 97=aa)
  exact⟨this.1,by simp only;omega,by simp only;omega⟩
def GX{w:List Nd × cf}{mk:List Nd->Nd}{next:Int}(h:(mE w mk next).aG=ak):(mE w mk next).next=next:=by
 unfold mE at h ⊢;split
 .rename_i hk;rw[aE hk,hk] at h;simp at h
 .rfl
def Pn:∀n,tP (qa n)
 | 0=>Fk 2
 | n + 1 => λl a fin h => by
  simp only[qa] at h ⊢;split
  .rename_i hk;rw[aE hk] at h;exact Fk 2 l a fin h
  rename_i h1;rw[aC h1] at h;split
  .rename_i hk;rw[aE hk] at h;have:=qk hk;rw[GX h];omega
  rename_i h2;rw[aC h2] at h;split
  .rename_i hk;rw[aE hk] at h;have:=qk hk;rw[GX h];omega
  rename_i h3;rw[aC h3] at h;split
  .rename_i hk;rw[aE hk] at h;have:=qk hk;rw[GX h];omega
  .rename_i hk;rw[aC hk] at h;simp[dU] at h
def Vp{g:cf}{f:Nd->Nd}(h:(g.put f).aG=ak):g.aG=ak/\(g.put f).next=g.next:=by
 unfold cf.put at h ⊢;split
 .rename_i hk;rw[aE hk,hk] at h;simp at h
 .rename_i hk;exact⟨by simpa using hk,rfl⟩
def Fj:∀n,tP (iU n)
 | 0=>Fk 1
 | n + 1 => λl a fin h => by
  simp only[iU] at h ⊢;split
  .rename_i hk;rw[aE hk] at h;exact Fk 1 l a fin h
  rename_i h1;rw[aC h1] at h;split
  .rename_i hk;rw[aE hk] at h
   have:=qk hk
   obtain⟨g1,g2⟩:=Vp h
   have:=Pn (n+1) l (a+1) fin g1
   rw[g2];omega
  rename_i h2;rw[aC h2] at h;split
  .rename_i hk;rw[aE hk] at h;simp[dU] at h
  rename_i h3;rw[aC h3] at h;split
  .rename_i hk;rw[aE hk] at h;simp[dU] at h
  rename_i h4;rw[aC h4] at h
  have:=qk (by simpa using h4:bz l (a+1) 40=aa)
  have h5:0<=a:=by
   cases vQ:bz l a 43
   .cases xz:bz l a 38
    .exact absurd ⟨vQ,xz⟩ h3
    .exact(qk xz).1
   .exact(qk vQ).1
  rw[GX h];omega
def Yi(n:Nat):tP (rE n):=λl a fin h=>by
 unfold rE at h ⊢;split
 .rename_i hk;rw[aE hk] at h;simp[dU] at h
 .rename_i hk;rw[aC hk] at h;exact Fj n l a fin h
def Yj(n:Nat):tP (zc n):=λl a fin h=>by
 unfold zc at h ⊢;split
 .rename_i hk;rw[aE hk] at h;simp[dU] at h
 rename_i h1;rw[aC h1] at h;split
 .rename_i hk;rw[aE hk] at h;simp[dU] at h
 rename_i h2;rw[aC h2] at h;obtain⟨g1,g2⟩:=Vp h
 have:=Yi n l (a+2) fin g1
 have:=qk (by simpa using h1:bz l a 97=aa)
 rw[g2];omega
def yC(l:List ar)(a:Int):aA:=⟨(fH l a).an,(fH l a).pos⟩
def atH(b:Option Int):Int:=match b with | some a=>a | none=>-1
def uZ(l:List ar)(fin:Int):Nat->Nat->List (aA × aA)->List (aA × aA) × Int
 | 0,_,acc=>(acc,-1)
 | n + 1, a, acc =>
  if bz l (a:Nat) 97=ak then([],nC l (a:Nat) fin)
  else if bz l ((a+1:Nat):Int) 60=ak then([],nC l ((a+1:Nat):Int) fin)
  else if bz l ((a+2:Nat):Int) 97=ak then([],nC l ((a+2:Nat):Int) fin)
  else if a+3=l.length then(acc++[(yC l (a:Nat),yC l ((a+2:Nat):Int))],-1)
  else if bz l ((a+3:Nat):Int) 44=ak then([],nC l ((a+3:Nat):Int) fin)
  else uZ l fin n (a+4) (acc++[(yC l (a:Nat),yC l ((a+2:Nat):Int))])
def BV(t:ar):List (aA × aA) × Int:=if t.ah.length=0 then([],-1) else uZ t.ah t.fin (t.ah.length+1) 0 []
def lN(k:UInt8)(c:aq)(l:List ar)(a fin:Int):aq × Int × Int :=
 if k=110\/k=102 then(if bz l a 97=aa then(if k=102 then {c with aj:=[yC l a]} else {c with name:=yC l a},a+1,-1) else(c,a,nC l a fin))
 else if k=119 then(if (rj l a fin).2.aG=aa then(c,a,(rj l a fin).2.pos) else({c with aj:=(rj l a fin).1},a+1,-1))
 else if k=112 then(if bz l a 123=aa then({c with bm:=(BV (bI l a)).1,mJ:=(bI l a).tok.pos},a+1,(BV (bI l a)).2) else(c,a,nC l a fin))
 else
  let g:=if k=114 then lO (bd l) l a fin else iU (bd l) l a fin
  if g.aG=aa then(c,a,g.pos) else(if c.left.kind=0 then {c with left:=g.node} else {c with right:=g.node},g.next,-1)
def u7(l:List ar)(fin:Int):List UInt8->aq->Int->aq × Int × Int
 | [],c,a=>(c,a,-1)
 | k::ks,c,a=>if 0<=(lN k c l a fin).2.2 then lN k c l a fin else u7 l fin ks (lN k c l a fin).1 (lN k c l a fin).2.1
def Ae(w:List UInt8):Nat->Nat->Int->Int
 | 0,_,r=>r
 | n+1,op,r=>Ae w n (op+1) (if w=(cp op).1 then op else r)
def uo(l:List ar)(fin:Int):aq × Int × Int :=
 match l with
 | []=>(.zero,0,0)
 | t :: _ =>
  let op:=if t.tok.kind=97 then Ae t.tok.an 15 1 0 else 0
  if op=0 then(.zero,2,t.tok.pos)
  else
   let x:=u7 l fin (cp op).2 {aq.zero with op:=op,pos:=t.tok.pos} 1
   if 0<=x.2.2 then(.zero,2,x.2.2)
   else if x.2.1<l.length then(.zero,2,nC l x.2.1 fin)
   else(x.1,0,0)
def Ng(s:List UInt8):aq × Int × Int :=
 match (dR s).2 with
 | some a=>(.zero,1,a)
 | none => match (gS (dR s).1).2 with
  | some a=>(.zero,2,a)
  | none=>uo (gS (dR s).1).1 s.length
def wz:List (Tok × List ar)->List Tok
 | []=>[]
 | (t,r)::op=>bn r++[t]++wz op
def MF:∀(op:List (Tok × List ar)) (t:Tok) (r:List ar),wz (op++[(t,r)])=wz op++bn r++[t]
 | [],t,r=>by simp[wz]
 | (u,q)::op,t,r=>by simp[wz,MF op t r]
def P'{c:Int}(h:closing c≠0):kN c=false:=by
 unfold closing at h;split at h
 .rename_i e;subst e;decide
 .split at h
  .rename_i e;rcases e with e | e<;>subst e<;>decide
  .exact absurd rfl h
def yw{α:Type}(l:List α):l=[]\/∃ys x,l=ys++[x]:=by
 rcases OS l with h | ⟨ys,x,h⟩
 .exact .inl h
 .exact .inr ⟨ys,x,by rw[h];simp⟩
def Ey:∀(ts:List Tok) (op:List (Tok × List ar)) (row:List ar),(∀t∈ts,uc t)->(∀p∈op,closing p.1.kind≠0/\fj p.2)->fj row->(fS ts op row).2=af ->
 fj (fS ts op row).1/\bn (fS ts op row).1=wz op++bn row++ts
 | [], op, row, _, ho, hr, hn => by
  rcases yw op with rfl | ⟨ys,⟨u,a⟩,rfl⟩
  .simpa [fS,wz] using hr
  .simp[fS] at hn
 | t :: ts, op, row, ht, ho, hr, hn => by
  simp only[fS] at hn ⊢;have pE:∀t∈ts,uc t:=λx hx=>ht x (by simp[hx])
  by_cases hc:closing t.kind=0
  .rw[aC (by simp[hc])] at hn ⊢;cases gK:kN t.kind
   .rw[gK] at hn;simp only[dm,cn] at hn ⊢;obtain⟨h1,h2⟩:=Ey ts op (row++[.mk t [] t.pos]) pE ho (jO.2 ⟨hr,by simp[fj,ar.WF,hc,gK]⟩) hn;exact⟨h1,by rw[h2,g_];simp[bn,ar.flat,hc]⟩
   .rw[gK] at hn;simp only[cD] at hn ⊢
    rcases yw op with rfl | ⟨ys,⟨u,a⟩,rfl⟩
    .simp at hn
    .simp only[EV,IG] at hn ⊢
     by_cases hk:closing u.kind=t.kind
     .rw[aE hk] at hn ⊢;obtain⟨hu,ha⟩:=ho (u,a) (by simp);have hte:t=⟨closing u.kind,[UInt8.ofNat (closing u.kind).toNat],t.pos⟩:=by
       rcases ht t (by simp) with ⟨gi,_⟩ | ⟨_,h2⟩
       .rw[gi] at gK;exact absurd gK (by decide)
       .rw[hk,<-h2]
      obtain⟨h1,h2⟩:=Ey ts ys (a++[.mk u row t.pos]) pE (λp hp=>ho p (by simp[hp])) (jO.2 ⟨ha,by simp[fj,ar.WF,hu,hr,P' hu]⟩) hn;refine⟨h1,?_⟩;rw[h2,g_,MF];simp only[bn,ar.flat,hu,ne_eq,Uz,cD,eD];rw[<-hte];simp
     .rw[aC hk] at hn;simp at hn
  .rw[aE hc] at hn ⊢
   by_cases sO:24<=op.length
   .rw[aE sO] at hn;simp at hn
   .rw[aC sO] at hn ⊢;obtain⟨h1,h2⟩:=Ey ts (op++[(t,row)]) [] pE (λp hp=>by rcases jw.1 hp with h | h;exact ho p h;simp at h;subst h;exact⟨hc,hr⟩) (by simp[fj]) hn;exact⟨h1,by rw[h2,MF];simp[bn]⟩
def H9:∀(ts:List Tok) (op:List (Tok × List ar)) (row:List ar),(fS ts op row).2≠af->(fS ts op row).1=[]
 | [], op, row, h => by
  rcases yw op with rfl | ⟨ys,⟨u,a⟩,rfl⟩
  .simp[fS] at h
  .simp[fS]
 | t :: ts, op, row, h => by
  simp only[fS] at h ⊢;split
  .rename_i hc;rw[aE hc] at h;split
   .rfl
   .rename_i sO;rw[aC sO] at h;exact H9 _ _ _ h
  .rename_i hc;rw[aC hc] at h;split
   .rename_i gK;rw[aE gK] at h
    rcases yw op with rfl | ⟨ys,⟨u,a⟩,rfl⟩
    .rfl
    .simp only[EV,IG] at h ⊢;split
     .rename_i hk;rw[aE hk] at h;exact H9 _ _ _ h
     .rfl
   .rename_i gK;rw[aC gK] at h;exact H9 _ _ _ h
def zb(l:List Tok)(f:Int):Option Int:=if 0<=f then U (qo l f.toNat) else af
def H_(l:List Tok):∀(n i:Nat) (op:List (Tok × List ar)) (row:List ar) (o:List Nat),i+n=l.length->op.map (·.1)=o.map (i_ l)->(fS (l.drop i) op row).2=zb l (pw l n i o)
 | 0, i, op, row, o, hi, ho => by
  rw[OP (by omega)]
  rcases yw op with rfl | ⟨ys,⟨u,a⟩,rfl⟩
  .have:o=[]:=by simpa using ho.symm
   subst this;simp[fS,pw,zb]
  .rcases yw o with rfl | ⟨zs,j,rfl⟩
   .simp at ho
   .simp only[f_,b8,eR] at ho;have hj:u=i_ l j:=by have:=XV ho rfl;simpa using this
    simp[fS,pw,zb,hj,i_,qo];cases l[j]?<;>rfl
 | n + 1, i, op, row, o, hi, ho => by
  have aB:i<l.length:=by omega
  have hti:i_ l i=l[i]:=by simp[i_,aB]
  have qU:eP l i=l[i].kind:=by simp[eP,aB]
  have Bz:qo l i=l[i].pos:=by simp[qo,aB]
  have dK:op.length=o.length:=by have:=gX List.length ho;simpa using this
  rw[mq aB];simp only[fS,pw,qU];have Lf:zb l (i:Nat)=U l[i].pos:=by simp[zb,Bz]
  by_cases hc:closing l[i].kind=0
  .simp only[ne_eq,hc,Hu,CW,cn];cases gK:kN l[i].kind
   .simp only[dm,cn];exact H_ l n (i+1) op _ o (by omega) ho
   .simp only[cD]
    rcases yw op with rfl | ⟨ys,⟨u,a⟩,rfl⟩
    .have:o=[]:=by simpa using ho.symm
     subst this;simp[Lf]
    .rcases yw o with rfl | ⟨zs,j,rfl⟩
     .simp at ho
     .simp only[f_,b8,eR] at ho;have hj:u=i_ l j:=by have:=XV ho rfl;simpa using this
      have pG:ys.map (·.1)=zs.map (i_ l):=List.append_inj_left' ho rfl;have KV:eP l j=u.kind:=by rw[hj];simp only[eP,i_];cases l[j]?<;>rfl
      simp only[EV,IG,KV]
      by_cases hk:closing u.kind=l[i].kind
      .rw[aE hk,aE hk];exact H_ l n (i+1) ys _ zs (by omega) pG
      .rw[aC hk,aC hk,Lf]
  .rw[aE hc]
   by_cases sO:24<=op.length
   .rw[aE sO,aE ⟨hc,by omega⟩,Lf]
   .rw[aC sO,aC (λh=>sO (by omega))];simp only[ne_eq,hc,Uz,cD,P' hc,dm,cn];exact H_ l n (i+1) _ _ _ (by omega) (by simp[ho,hti])
def arD{l:List Tok}(h:∀t∈l,uc t):fS l [] []=gS l:=by
 have hf:=H_ l l.length 0 [] [] [] (by omega) rfl;rw[II] at hf;have hr:(gS l).2=zb l (pw l l.length 0 []):=by
  unfold gS zb;split<;>rfl
 have h2:(fS l [] []).2=(gS l).2:=by rw[hf,hr]
 cases hq:(fS l [] []).2 with
 | some a =>
  have h1:=H9 l [] [] (by rw[hq];simp);have h3:(gS l).1=[]:=by
   rw[hq] at h2;unfold gS at h2 ⊢;split
   .rfl
   .rename_i hn;rw[aC hn] at h2;simp at h2
  exact Prod.ext (h1.trans h3.symm) h2
 | none =>
  obtain⟨h3,h4⟩:=Ey l [] [] h (by simp) (by simp[fj]) hq;simp only[wz,bn,gd] at h4;have h5:=W9 h3 (by rw[h4,<-h2,hq]);rw[h4] at h5;exact Prod.ext h5.symm h2
def Ay(s:List UInt8):fS (dR s).1 [] []=gS (dR s).1:=arD (BO _ _ _ _ (by simp))
def Yk(n:Nat):tP (lO n):=λl a fin h=>by
 have h3:∀ks ws next,(wF l a ks ws next).aG=ak->(wF l a ks ws next).next=a+1:=λks ws next h=>by
  unfold wF at h ⊢;split
  .rename_i hk;rw[aE hk] at h;simp[dU] at h
  .rfl
 have h2:∀ks next,(rl l a ks next).aG=ak->(rl l a ks next).next=a+1:=λks next h=>by
  unfold rl at h ⊢;split
  .rename_i hk;rw[aE hk] at h;split
   .rename_i hb;rw[aE hb,hb] at h;simp at h
   .rename_i hb;rw[aC hb] at h;exact h3 _ _ _ h
  .rename_i hk;rw[aC hk] at h;exact h3 _ _ _ h
 unfold lO at h ⊢;split
 .rename_i hk;rw[aE hk] at h;exact Fj n l a fin h
 rename_i h1;rw[aC h1] at h;split
 .rename_i hk;rw[aE hk] at h;simp[dU] at h
 rename_i h4;rw[aC h4] at h;have hk:=qk (by simpa using h4:bz l a 91=aa);split
 .rename_i h5;rw[aE h5] at h;split
  .rename_i hb;rw[aE hb,hb] at h;simp at h
  .rename_i hb;rw[aC hb] at h;rw[h2 _ _ h];omega
 .rename_i h5;rw[aC h5] at h;rw[h2 _ _ h];omega
def an1(k:UInt8)(c:aq)(l:List ar)(a:Nat)(fin:Int):∃a' : Nat,(lN k c l a fin).2.1=(a' : Nat)/\(a<=l.length->a' <= l.length):=by
 have Lj:∀kind,bz l (a:Nat) kind=aa->∃a' : Nat,((a:Int)+1)=(a' : Nat)/\(a<=l.length->a' <= l.length):=λkind hk=>by
  have:=qk hk
  exact⟨a+1,rfl,λ_=>by omega⟩
 have ec:∃a' : Nat,(a:Int)=(a' : Nat)/\(a<=l.length->a' <= l.length):=⟨a,rfl,id⟩;unfold lN;split
 .split
  .rename_i hk;exact Lj _ hk
  .exact ec
 split
 .split
  .exact ec
  .rename_i hb;have hk:bz l (a:Nat) 123=true:=by
    by_cases hk:bz l (a:Nat) 123=aa
    .exact hk
    .unfold rj at hb;rw[aC hk] at hb;simp[dU] at hb
   exact Lj _ hk
 split
 .split
  .rename_i hk;exact Lj _ hk
  .exact ec
 have hg:tP (if k=114 then lO (bd l) else iU (bd l)):=by split;exact Yk _;exact Fj _
 have Dj:=hg l (a:Nat) fin;rw[show(if k=114 then lO (bd l) else iU (bd l)) l (a:Nat) fin=(if k=114 then lO (bd l) l (a:Nat) fin else iU (bd l) l (a:Nat) fin) by split<;>rfl] at Dj;generalize (if k=114 then lO (bd l) l (a:Nat) fin else iU (bd l) l (a:Nat) fin)=g at Dj ⊢;cases hb:g.aG
 .obtain⟨_,h1,h2⟩:=Dj hb;simp only[hb,dm,cn];exact⟨g.next.toNat,by omega,λ_=>by omega⟩
 .simp only[hb,cD];exact ec
def In(N p:Int):Prop:=0<=p/\p<=N
inductive t_(N:Int):ar->Prop
 | mk (t:Tok) (ks:List ar) (e:Int):In N t.pos->In N e->(∀k∈ks,t_ N k)->t_ N (.mk t ks e)
variable{N:Int}
def t_.fin{t:ar}(h:t_ N t):In N t.fin:=by cases h;assumption
def t_.pos{t:ar}(h:t_ N t):In N t.tok.pos:=by cases h;assumption
def t_.ah{t:ar}(h:t_ N t):∀k∈t.ah,t_ N k:=by cases h;assumption
def lh(N:Int)(l:List ar):Prop:=∀k∈l,t_ N k
section
variable {N:Int} (h0:0<=N)
include h0
theorem s8:In N 0:=⟨by omega,h0⟩
variable{a:Int}
theorem sn{fin:Int}(hl:lh N l)(hf:In N fin):In N (nC l a fin):=by
 unfold nC;split
 .cases h:l[a.toNat]? with
  | none=>exact hf
  | some t=>exact(hl t (rA h)).pos
 .exact hf
theorem pW{fin:Int}(hl:lh N l)(hf:In N fin):In N (dU l a fin).pos:=sn h0 hl hf
theorem H8(hl:lh N l):lh N (bI l a).ah/\In N (bI l a).fin:=by
 unfold bI;cases h:l[a.toNat]? with
 | none=>exact⟨by simp[lh,ar.zero,ar.ah],by exact s8 h0⟩
 | some t=>exact⟨(hl t (rA h)).ah,(hl t (rA h)).fin⟩
def vC(N:Int)(g:List ar->Int->Int->cf):Prop:=∀l a fin,lh N l->In N fin->In N (g l a fin).pos
theorem G'(k:Int):vC N (tg k):=λl a fin hl hf=>by
 unfold tg;split;exact s8 h0;exact pW h0 hl hf
theorem Hp:vC N nameAt:=λl a fin hl hf=>by
 unfold nameAt;split;exact s8 h0;exact pW h0 hl hf
theorem NT{one:Int->cf}{l:List ar}(h:∀a,In N (one a).pos):∀n a out,In N (fY one l n a out).2.pos
 | 0,_,_=>s8 h0
 | n + 1, a, out => by
  simp only[fY];split
  .exact h a
  .split
   .exact NT h n _ _
   .exact h a
variable{g:List ar->Int->Int->cf}
theorem Cb(hg:vC N g)(hl:lh N l)(e:Bool):In N (wholeAt g (bI l a) e).2.pos:=by
 obtain⟨hk,hf⟩:=H8 h0 (a:=a) hl;unfold wholeAt;split
 .exact s8 h0
 .simp only;split
  .exact pW h0 hk hf
  .exact NT h0 (λa=>hg _ a _ hk hf) _ _ _
theorem GY{w:List Nd × cf}{mk:List Nd->Nd}{next:Int}(h:In N w.2.pos):In N (mE w mk next).pos:=by
 unfold mE;split;exact h;exact s8 h0
theorem Vo{g:cf}{f:Nd->Nd}(h:In N g.pos):In N (g.put f).pos:=by
 unfold cf.put;split<;>exact h
theorem apS:vC N Al:=λl a fin hl hf=>by
 unfold Al;split
 .exact pW h0 hl hf
 split
 .exact pW h0 hl hf
 split
 .exact pW h0 hl hf
 split
 .exact Cb h0 (Hp h0) hl _
 .exact s8 h0
theorem Qs:∀n,vC N (qa n)
 | 0=>G' h0 2
 | n + 1 => λl a fin hl hf => by
  unfold qa;split
  .exact G' h0 2 l a fin hl hf
  split
  .exact GY h0 (Cb h0 (Hp h0) hl _)
  split
  .exact GY h0 (Cb h0 (Qs n) hl _)
  split
  .exact GY h0 (Cb h0 (apS h0) hl _)
  .exact pW h0 hl hf
theorem DQ:∀n,vC N (iU n)
 | 0=>G' h0 1
 | n + 1 => λl a fin hl hf => by
  unfold iU;split
  .exact G' h0 1 l a fin hl hf
  split
  .exact Vo h0 (Qs h0 _ _ _ _ hl hf)
  split
  .exact pW h0 hl hf
  split
  .exact pW h0 hl hf
  .exact GY h0 (Cb h0 (DQ n) hl _)
theorem Zd(n:Nat):vC N (rE n):=λl a fin hl hf=>by
 unfold rE;split;exact pW h0 hl hf;exact DQ h0 n l a fin hl hf
theorem adV(n:Nat):vC N (zc n):=λl a fin hl hf=>by
 unfold zc;split
 .exact pW h0 hl hf
 split
 .exact pW h0 hl hf
 .exact Vo h0 (Zd h0 n _ _ _ hl hf)
theorem VJ(n:Nat):vC N (lO n):=λl a fin hl hf=>by
 obtain⟨hk,qT⟩:=H8 h0 (a:=a) hl;have h3:∀ks ws next,In N (wF l a ks ws next).pos:=λks ws next=>by
  unfold wF;split;exact pW h0 hk qT;exact s8 h0
 have h2:∀ks next,In N (rl l a ks next).pos:=λks next=>by
  unfold rl;split
  .split
   .exact Hp h0 _ _ _ hk qT
   .exact h3 _ _ _
  .exact h3 _ _ _
 unfold lO;split
 .exact DQ h0 n l a fin hl hf
 split
 .exact pW h0 hl hf
 split
 .split
  .exact NT h0 (λi=>adV h0 n _ i _ hk qT) _ _ _
  .exact h2 _ _
 .exact h2 _ _
theorem Xs{fin:Int}(hl:lh N l)(hf:In N fin):In N (rj l a fin).2.pos:=by
 unfold rj;split;exact Cb h0 (Hp h0) hl _;exact pW h0 hl hf
def OL(N p:Int):Prop:=p = -1\/In N p
theorem UQ{l:List ar}{fin:Int}(hl:lh N l)(hf:In N fin):∀n a acc,OL N (uZ l fin n a acc).2
 | 0,_,_=>.inl rfl
 | n + 1, a, acc => by
  simp only[uZ];split
  .refine Or.inr ?_;simp only;exact sn h0 hl hf
  split
  .refine Or.inr ?_;simp only;exact sn h0 hl hf
  split
  .refine Or.inr ?_;simp only;exact sn h0 hl hf
  split
  .exact .inl rfl
  split
  .refine Or.inr ?_;simp only;exact sn h0 hl hf
  .exact UQ hl hf n _ _
theorem anW(hl:lh N l):OL N (BV (bI l a)).2:=by
 obtain⟨hk,hf⟩:=H8 h0 (a:=a) hl;unfold BV;split
 .exact .inl rfl
 .exact UQ h0 hk hf _ _ _
theorem arF{l:List Tok}(hl:∀t∈l,In N t.pos):∀n i to,lh N (nG l n i to):=by
 have hp:∀i,In N (qo l i):=λi=>by
  unfold qo;cases h:l[i]? with
  | none=>exact s8 h0
  | some t=>exact hl t (rA h)
 have ht:∀i,In N (i_ l i).pos:=λi=>by
  unfold i_;cases h:l[i]? with
  | none=>exact s8 h0
  | some t=>exact hl t (rA h)
 intro n;induction n with
 | zero=>intro i to;simp[nG,lh]
 | succ n ih =>
  intro i to;simp only[nG];split
  .split
   .intro k hk
    rcases kI.1 hk with rfl | hk
    .exact .mk _ _ _ (ht i) (hp _) (ih _ _)
    .exact ih _ _ k hk
   .intro k hk
    rcases kI.1 hk with rfl | hk
    .exact .mk _ _ _ (ht i) (hp _) (by simp)
    .exact ih _ _ k hk
  .simp[lh]
end
def Hb{N:Int}:∀n (p:Nat) (s:List UInt8) (acc:List Tok),(p:Int)+s.length<=N->(∀t∈acc,In N t.pos)->(∀t∈(fe n p s acc).1,In N t.pos)/\∀a,(fe n p s acc).2=U a->In N a
 | 0,_,_,acc,_,h=>⟨by simpa [fe] using h,by simp[fe]⟩
 | n+1,_,[],acc,_,h=>⟨by simpa [fe] using h,by simp[fe]⟩
 | n + 1, p, c :: r, acc, hp, h => by
  simp only[dd] at hp;simp only[fe];split
  .exact⟨h,by simp⟩
  split
  .rename_i hr;have hle:(fq (c::r)).length<=(c::r).length:=(X4 _).length_le;refine Hb n _ _ _ ?_ ?_
   .rw[IQ];simp only[dd] at hle ⊢;omega
   .intro t ht
    rcases jw.1 ht with ht | ht
    .exact h t ht
    .rw[pj] at ht;subst ht;constructor<;>simp only<;>omega
  split
  .refine Hb n _ _ _ (by omega) ?_;intro t ht
   rcases jw.1 ht with ht | ht
   .exact h t ht
   .rw[pj] at ht;subst ht;constructor<;>simp only<;>omega
  split
  .exact Hb n _ _ _ (by omega) h
  .refine⟨by simp,λa ha=>?_⟩;simp only[aZ] at ha;subst ha;constructor<;>omega
def TG(s:List UInt8):(∀t∈(dR s).1,In s.length t.pos)/\∀a,(dR s).2=U a->In s.length a:=Hb _ _ _ _ (by simp) (by simp)
def TQ(s:List UInt8):lh s.length (gS (dR s).1).1/\∀a,(gS (dR s).1).2=U a->In s.length a:=by
 have h0:(0:Int)<=s.length:=by omega
 have h:=(TG s).1;unfold gS;split
 .refine⟨by simp[lh],λa ha=>?_⟩;simp only[aZ] at ha;subst ha;unfold qo;cases hq:(dR s).1[(pw (dR s).1 (dR s).1.length 0 []).toNat]? with
  | none=>exact s8 h0
  | some t=>exact h t (rA hq)
 .exact⟨arF h0 h _ _ _,by simp⟩
def jm(sep:List UInt8):List (List UInt8)->List UInt8
 | []=>[]
 | x::xs=>x++xs.flatMap λy=>sep++y
def ajG(sep:List UInt8)(l:List (List UInt8))(y:List UInt8):jm sep (l++[y])=jm sep l++(if 0<l.length then sep else [])++y:=by
 cases l with
 | nil=>simp[jm]
 | cons x xs=>simp[jm]
def G0(l:List (List UInt8)):jm [44] l=cB l:=by cases l<;>rfl
variable{i:Nat}{sep:List UInt8}
def ajH{l:List (List UInt8)}(h:i<l.length):jm sep (l.take (i+1))=jm sep (l.take i)++(if 0<i then sep else [])++l[i]:=by
 rw[jx h,ajG,iR,w8 (IV h)]
def ajE{l:List (List UInt8)}:(jm sep (l.take i)).length<=(jm sep l).length:=by
 have key:∀a b:List (List UInt8),(jm sep a).length<=(jm sep (a++b)).length:=λa b=>by
  cases a with
  | nil=>simp[jm]
  | cons x xs=>simp[jm,yK]
 have:=key (l.take i) (l.drop i)
 rwa [qA] at this
def jH(p:aA × aA):List UInt8:=p.1.an++[60]++p.2.an
def ui(l:List (List UInt8)):List UInt8:=[123]++cB l++[125]
def mf(k:UInt8)(c:aq)(n:Nd):List UInt8 :=
 if k=110 then c.name.an
 else if k=102 then cB (c.aj.map aA.an)
 else if k=119 then ui (c.aj.map aA.an)
 else if k=112 then ui (c.bm.map jH)
 else n.dc
def isTerm(k:UInt8):Bool:=k≠110&&k≠102&&k≠119&&k≠112
def yz(c:aq)(x:List (List UInt8) × List Nd)(k:UInt8):List (List UInt8) × List Nd:=(x.1++[mf k c (x.2.headD .zero)],if isTerm k=aa then x.2.tail else x.2)
def kB(c:aq)(ks:List UInt8):List (List UInt8) × List Nd:=ks.foldl (yz c) ([(cp c.op).1],[c.left,c.right])
def eb(c:aq):List UInt8:=jm [32] (kB c (cp c.op).2).1
def U7(c:aq)(ks:List UInt8)(k:UInt8):kB c (ks++[k])=yz c (kB c ks) k:=by simp[kB,AQ]
def j8(l:List (aA × aA)):Nat:=(l.map λp=>p.1.an.length+p.2.an.length+2).sum
def aoB{l:List (aA × aA)}(h:i<l.length):l[i].1.an.length+l[i].2.an.length+2<=j8 l:=by
 induction l generalizing i with
 | nil=>simp at h
 | cons p ps ih =>
  cases i with
  | zero=>simp[j8]
  | succ i =>
   have:=ih (i:=i) (by simp at h;omega)
   simp only[j8,b8,nM,EU] at this ⊢;omega
def Vj(l:List (aA × aA)):(cB (l.map jH)).length<=j8 l/\l.length<=j8 l:=by
 induction l with
 | nil=>simp[cB,j8]
 | cons p ps ih =>
  have key:∀qs:List (aA × aA),((qs.map jH).flatMap λy=>44::y).length<=j8 qs:=λqs=>by
   induction qs with
   | nil=>simp
   | cons q qs ih=>simp[jH,j8] at ih ⊢;omega
  have:=key ps
  have:=ih.2
  simp[cB,jH,j8] at *;omega
def aq.wt(c:aq):Nat:=c.name.an.length+eK c.aj+j8 c.bm+c.left.wt+c.right.wt
def MZ(l:List aA):(cB (l.map aA.an)).length<=eK l/\l.length<=eK l:=⟨EI l,by
 induction l with
 | nil=>simp
 | cons w ws ih=>simp[eK] at ih ⊢;omega⟩
def aol{k:UInt8}{n:Nd}(h:n.wt<=c.wt):(mf k c n).length<=c.wt+2:=by
 have h1:=(MZ c.aj).1;have h2:=(Vj c.bm).1;have h3:=Xb n;have h4:c.wt=c.name.an.length+eK c.aj+j8 c.bm+c.left.wt+c.right.wt:=rfl;unfold mf ui;split
 .omega
 split
 .omega
 split
 .simp;omega
 split
 .simp;omega
 .omega
def asH(op:Int):(cp op).1.length<=8:=by
 unfold cp;split
 .rename_i h1;have aB:op.toNat<16:=by omega
  generalize op.toNat=n at aB ⊢;have key:∀n<16,(jS.getD n ([],[])).1.length<=8:=by decide
  exact key n aB
 .simp
def Iu:Nd.zero.wt=4:=by simp[Nd.zero,Nd.wt,eK,ft]
def atk(n:Nd):4<=n.wt:=by cases n;simp only[Nd.wt];omega
def MU(c:aq)(ks:List UInt8):(∀x∈(kB c ks).1,x.length<=c.wt+8)/\(∀n∈(kB c ks).2,n.wt<=c.wt)/\(kB c ks).1.length=ks.length+1/\(kB c ks).2=[c.left,c.right].drop (ks.filter isTerm).length:=by
 have hc:c.wt=c.name.an.length+eK c.aj+j8 c.bm+c.left.wt+c.right.wt:=rfl
 rcases OS ks with rfl | ⟨ys,k,rfl⟩
 .have:=asH c.op
  refine⟨?_,?_,rfl,rfl⟩
  .intro x hx;simp[kB] at hx;subst hx;omega
  .intro n hn;simp[kB] at hn;rcases hn with rfl | rfl<;>omega
 .obtain⟨i1,i2,i3,i4⟩:=MU c ys;rw[List.concat_eq_append,U7];have hz:((kB c ys).2.headD .zero).wt<=c.wt:=by
   cases hq:(kB c ys).2 with
   | nil=>have:=atk c.left;simp[Iu];omega
   | cons n ns=>exact i2 n (by rw[hq];simp)
  refine⟨?_,?_,?_,?_⟩
  .intro x hx
   rcases jw.1 hx with hx | hx
   .exact i1 x hx
   .rw[pj] at hx;subst hx;have:=aol (k:=k) hz;omega
  .intro n hn;simp only[yz] at hn;split at hn
   .exact i2 n (List.mem_of_mem_tail hn)
   .exact i2 n hn
  .simp[yz,i3]
  .simp only[yz,i4];cases h:isTerm k
   .simp[h]
   .simp[h]
termination_by ks.length
decreasing_by subst_vars;simp
def ajF{B:Nat}:∀(l:List (List UInt8)),(∀x∈l,x.length<=B)->(jm [32] l).length<=l.length*(B+1)
 | [],_=>by simp[jm]
 | x :: xs, h => by
  have hx:=h x (by simp);have key:∀ys:List (List UInt8),(∀x∈ys,x.length<=B)->(ys.flatMap λy=>[32]++y).length<=ys.length*(B+1):=λys=>by
   induction ys with
   | nil=>simp
   | cons y ys ih =>
    intro h;have h1:=h y (by simp);have h2:=ih λx hx=>h x (by simp[hx])
    simp only[p7,bN,dd,eM,je] at h2 ⊢;omega
  have:=key xs λx hx=>h x (by simp[hx])
  simp only[jm,bN,dd,je] at this ⊢;omega
def ahf(op:Int):∀i<(cp op).2.length,∀k,(cp op).2[i]?=U k->isTerm k=aa->(((cp op).2.take i).filter isTerm).length<2:=by
 unfold cp;split
 .rename_i h1;have aB:op.toNat<16:=by omega
  generalize op.toNat=n at aB ⊢;have key:∀n<16,∀i<(jS.getD n ([],[])).2.length,∀k∈(jS.getD n ([],[])).2[i]?,isTerm k=aa->(((jS.getD n ([],[])).2.take i).filter isTerm).length<2:=by decide
  intro i hi k hk;exact key n aB i hi k hk
 .simp
def Ft:List V:=.int .i64 0::au 8 (.int .u64 0)
def Rf:List V:=.aF []::.int .i64 0::au 8 (.int .u64 0)
structure bH where
 v:Int
 c:bh
structure bW where
 name:List UInt8
 a:bH
structure ei where
 fs:List bW
 tail:Int
structure dQ where
 op:Int
 lat:Int
 code:List bw
 to:bH
 a:ei
 b:ei
 v:Int
 field:List UInt8
def bh.Jf{P:bh->Prop}(h:∀(a b c d e f g i:bB) (hl:[a,b,c,d,e,f,g,i].length=8),P ⟨[a,b,c,d,e,f,g,i],hl⟩)(e:bh):P e:=by
 obtain⟨w,hl⟩:=e
 match w,hl with
 | [a,b,c,d,e,f,g,i],hl=>exact h a b c d e f g i hl
def bH.enc(x:bH):List V:=.int .i64 x.v::x.c.enc
def bW.enc(x:bW):List V:=.aF x.name::x.a.enc
def ei.enc(x:ei):List V:=[.sl .no 10 (x.fs.map bW.enc),.int .i64 x.tail]
def cz(op lat:Int)(c:V)(to:bH)(fa:V)(ta:Int)(fb:V)(tb v:Int)(f:List UInt8):List V:=.int .i64 op::.int .i64 lat::c::(to.enc++[fa,.int .i64 ta,fb,.int .i64 tb,.int .i64 v,.aF f])
def dQ.enc(x:dQ):List V:=cz x.op x.lat (.sl .no 10 (x.code.map bw.enc)) x.to (.sl .no 10 (x.a.fs.map bW.enc)) x.a.tail (.sl .no 10 (x.b.fs.map bW.enc)) x.b.tail x.v x.field
def bH.zero:bH:=⟨0,.zero⟩
def ei.zero:ei:=⟨[],0⟩
def dQ.zero:dQ:=⟨0,0,[],.zero,.zero,.zero,0,[]⟩
def iJ:List V:=cz 0 0 (.sl .aV 10 []) .zero (.sl .aV 10 []) 0 (.sl .aV 10 []) 0 0 []
def bH.ext'{x y:bH}(h:x.v=y.v)(k:x.c=y.c):x=y:=by cases x;cases y;simp only at h k;subst h;subst k;rfl
def bW.ext'{x y:bW}(h:x.name=y.name)(k:x.a=y.a):x=y:=by cases x;cases y;simp only at h k;subst h;subst k;rfl
instance:DecidableEq bH:=λx y=>if h:x.v=y.v/\x.c=y.c then isTrue (bH.ext' h.1 h.2) else isFalse λe=>h ⟨e▸rfl,e▸rfl⟩
instance:DecidableEq bW:=λx y=>if h:x.name=y.name/\x.a=y.a then isTrue (bW.ext' h.1 h.2) else isFalse λe=>h ⟨e▸rfl,e▸rfl⟩
section
variable {x y:bH} {n:Nat} {i:Int} {e:bh}
def bH.cP:x.enc.length=9:=by simp[bH.enc,bh.cP]
def bH.fX:cC x.enc=true:=by simp[bH.enc,cC,V.one,bh.fX]
def bH.dw:bK x.enc=true:=by simp[bH.enc,bK,V.cI,bh.dw]
def bH.dk:bx x.enc=x.enc:=by simp[bH.enc,bx,V.erase,bh.dk]
def bH.cH:bS n x.enc=true:=by simp[bH.enc,bS,V.lo,bh.cH]
def bH.fm:takeN 9 x.enc=U x.enc:=by have:=yB (c:=x.enc);rwa [bH.cP] at this
def bH.gQ:bF aa 9 x.enc=U (.agg x.enc):=by rw[x9,bH.fm];rfl
def bH.gm:bZ 9 x.enc=true:=by have:=xC (c:=x.enc);rwa [bH.cP] at this
def bH.fR:over y.enc x.enc=x.enc:=tu (by rw[bH.cP,bH.cP])
theorem bH.Nc:bF ak 1 x.enc=U (.int .i64 x.v):=rfl
def bH.M_:takeN 8 (x.enc.drop 1)=U x.c.enc:=by show takeN 8 x.c.enc=_;exact bh.fm
def bH.HN:Ft=bH.zero.enc:=by rw[bH.enc];show _=V.int .i64 0::bh.zero.enc;rw[<-bh.wE];rfl
def bH.Zz:over x.enc [.int .i64 i]=(bH.mk i x.c).enc:=by rw[bH.enc,o8,me];rfl
theorem bH.CG:bZ 1 x.enc=true:=rfl
def bH.Zw:bZ 8 (x.enc.drop 1)=true:=by show bZ 8 x.c.enc=aa;exact bh.gm
def bH.I_:setAt x.enc 1 e.enc=(bH.mk x.v e).enc:=by rw[bH.enc,jo,lR,bh.fR];rfl
def bH.pS:fA [1,1,1,1,1,1,1,1,1] x.enc y.enc=U (decide (x=y)):=by
 rw[bH.enc,bH.enc,uu,bh.pS,rD];congr 1;rw[<-wV];exact rG.2 ⟨λh=>bH.ext' h.1 h.2,λh=>h▸⟨rfl,rfl⟩⟩
def bH.al:=ae @bH.cP <| ae @bH.fX <| ae @bH.dw <| ae @bH.dk <| ae @bH.cH <| ae @bH.fm <| ae @bH.gQ <| ae @bH.gm <| ae @bH.fR <| ae @bH.Nc <| ae @bH.M_ <| ae @bH.HN <| ae @bH.Zz <| ae @bH.CG <| ae @bH.Zw <| ae @bH.I_ @bH.pS
end
section
variable {x y:bW} {n:Nat} {t:List UInt8} {a:bH}
def bW.cP:x.enc.length=10:=by simp[bW.enc,bH.cP]
def bW.fX:cC x.enc=true:=by simp[bW.enc,cC,V.one,bH.fX]
def bW.dw:bK x.enc=true:=by simp[bW.enc,bK,V.cI,bH.dw]
def bW.dk:bx x.enc=x.enc:=by simp[bW.enc,bx,V.erase,bH.dk]
def bW.cH:bS n x.enc=true:=by simp[bW.enc,bS,V.lo,bH.cH]
def bW.fm:takeN 10 x.enc=U x.enc:=by have:=yB (c:=x.enc);rwa [bW.cP] at this
def bW.gQ:bF aa 10 x.enc=U (.agg x.enc):=by rw[x9,bW.fm];rfl
def bW.gm:bZ 10 x.enc=true:=by have:=xC (c:=x.enc);rwa [bW.cP] at this
def bW.fR:over y.enc x.enc=x.enc:=tu (by rw[bW.cP,bW.cP])
theorem bW.tC:bF ak 1 x.enc=U (.aF x.name):=rfl
def bW.M9:takeN 9 (x.enc.drop 1)=U x.a.enc:=by show takeN 9 x.a.enc=_;exact bH.fm
def bW.HN:Rf=(bW.mk [] .zero).enc:=by rw[bW.enc];show _=V.aF []::bH.zero.enc;rw[<-bH.HN];rfl
def bW.I':over x.enc [.aF t]=(bW.mk t x.a).enc:=by rw[bW.enc,o8,me];rfl
theorem bW.CG:bZ 1 x.enc=true:=rfl
def bW.Zx:bZ 9 (x.enc.drop 1)=true:=by show bZ 9 x.a.enc=aa;exact bH.gm
def bW.Zt:setAt x.enc 1 a.enc=(bW.mk x.name a).enc:=by rw[bW.enc,jo,lR,bH.fR];rfl
def bW.pS:fA [2,1,1,1,1,1,1,1,1,1] x.enc y.enc=U (decide (x=y)):=by
 rw[bW.enc,bW.enc,JI,bH.pS,rD];congr 1;rw[<-wV];exact rG.2 ⟨λh=>bW.ext' h.1 h.2,λh=>h▸⟨rfl,rfl⟩⟩
def bW.al:=ae @bW.cP <| ae @bW.fX <| ae @bW.dw <| ae @bW.dk <| ae @bW.cH <| ae @bW.fm <| ae @bW.gQ <| ae @bW.gm <| ae @bW.fR <| ae @bW.tC <| ae @bW.M9 <| ae @bW.HN <| ae @bW.I' <| ae @bW.CG <| ae @bW.Zx <| ae @bW.Zt @bW.pS
end
section
variable {x:ei} {n:Nat} {u w:V}
theorem ei.cP:x.enc.length=2:=rfl
theorem ei.fX:cC x.enc=true:=rfl
theorem ei.dw:bK x.enc=true:=rfl
theorem ei.dk:bx x.enc=x.enc:=rfl
theorem ei.cH:bS n x.enc=true:=rfl
theorem ei.fm:takeN 2 x.enc=U x.enc:=rfl
theorem ei.gQ:bF aa 2 x.enc=U (.agg x.enc):=rfl
theorem ei.gm:bZ 2 x.enc=true:=rfl
theorem ei.fR:over [u,w] x.enc=x.enc:=rfl
theorem ei.Ef:bF ak 1 x.enc=U (.sl .no 10 (x.fs.map bW.enc)):=rfl
theorem ei.Nb:bF ak 1 (x.enc.drop 1)=U (.int .i64 x.tail):=rfl
def ei.al:=ae @ei.cP <| ae @ei.fX <| ae @ei.dw <| ae @ei.dk <| ae @ei.cH <| ae @ei.fm <| ae @ei.gQ <| ae @ei.gm <| ae @ei.fR <| ae @ei.Ef @ei.Nb
end
section
variable {op lat ta tb v i:Int} {c fa fb d:V} {to tp:bH} {r:ei} {f g:List UInt8} {x:dQ} {n:Nat}
def sF:(cz op lat c to fa ta fb tb v f).length=18:=by simp[cz,bH.cP]
def I7:takeN 18 (cz op lat c to fa ta fb tb v f)=U (cz op lat c to fa ta fb tb v f):=by have:=yB (c:=cz op lat c to fa ta fb tb v f);rwa [sF] at this
def YO:bZ 18 (cz op lat c to fa ta fb tb v f)=true:=by have:=xC (c:=cz op lat c to fa ta fb tb v f);rwa [sF] at this
def YY{UH L0 WZ W2 v' : Int}{c' QY Q4 : V}{f' : List UInt8}:over (cz op lat c to fa ta fb tb v f) (cz UH L0 c' tp QY WZ Q4 W2 v' f')=cz UH L0 c' tp QY WZ Q4 W2 v' f' := tu (by rw[sF,sF])
def yY(h1:c.one=aa)(h2:fa.one=aa)(h3:fb.one=aa):cC (cz op lat c to fa ta fb tb v f)=true:=by
 have h:=@bH.fX to;simp only[cz,cC,ME,lj,h1];rw[UF,h];simp only[cC,ME,UG,h2,h3,Iw]
def Fp(h1:c.cI=aa)(h2:fa.cI=aa)(h3:fb.cI=aa):bK (cz op lat c to fa ta fb tb v f)=true:=by
 have h:=@bH.dw to;have app:∀{a b:List V},bK a=aa->bK b=aa->bK (a++b)=true:=by
  intro a;induction a with
  | nil=>intro b _ h;exact h
  | cons x a ih=>intro b h1 h2;simp only[bK,bC,gI] at h1 ⊢;exact⟨h1.1,ih h1.2 h2⟩
 simp only[cz,bK,V.cI,lj,h1];exact app h (by simp[bK,V.cI,h2,h3])
def Fo:bx (cz op lat c to fa ta fb tb v f)=cz op lat c.erase to fa.erase ta fb.erase tb v f:=by
 have h:=@bH.dk to;have app:∀{a b:List V},bx (a++b)=bx a++bx b:=by
  intro a;induction a with
  | nil=>intro b;rfl
  | cons x a ih=>intro b;simp only[bx,gI,ih]
 simp only[cz,bx,V.erase,app,h]
def xi:(cz op lat c to fa ta fb tb v f).drop 12=[fa,.int .i64 ta,fb,.int .i64 tb,.int .i64 v,.aF f]:=by
 simp only[cz,Cp];exact List.drop_left' bH.cP
theorem YP:bF ak 1 (cz op lat c to fa ta fb tb v f)=U (.int .i64 op):=rfl
theorem YQ:bF ak 1 ((cz op lat c to fa ta fb tb v f).drop 1)=U (.int .i64 lat):=rfl
theorem YV:bF ak 1 ((cz op lat c to fa ta fb tb v f).drop 2)=U c:=rfl
def YW:takeN 9 ((cz op lat c to fa ta fb tb v f).drop 3)=U to.enc:=N0 bH.cP
def YR:takeN 2 ((cz op lat c to fa ta fb tb v f).drop 12)=U [fa,.int .i64 ta]:=by rw[xi];rfl
def YS:takeN 2 ((cz op lat c to fa ta fb tb v f).drop 14)=U [fb,.int .i64 tb]:=by rw[show 14=12+2 from rfl,<-wY,xi];rfl
def YT:bF ak 1 ((cz op lat c to fa ta fb tb v f).drop 16)=U (.int .i64 v):=by rw[show 16=12+4 from rfl,<-wY,xi];rfl
def YU:bF ak 1 ((cz op lat c to fa ta fb tb v f).drop 17)=U (.aF f):=by rw[show 17=12+5 from rfl,<-wY,xi];rfl
theorem YG:bZ 1 (cz op lat c to fa ta fb tb v f)=true:=rfl
theorem YH:bZ 1 ((cz op lat c to fa ta fb tb v f).drop 1)=true:=rfl
theorem YM:bZ 1 ((cz op lat c to fa ta fb tb v f).drop 2)=true:=rfl
def YN:bZ 9 ((cz op lat c to fa ta fb tb v f).drop 3)=true:=by obtain⟨tv,te⟩:=to;induction te using bh.Jf;rfl
def YI:bZ 2 ((cz op lat c to fa ta fb tb v f).drop 12)=true:=by rw[xi];rfl
def YJ:bZ 2 ((cz op lat c to fa ta fb tb v f).drop 14)=true:=by rw[show 14=12+2 from rfl,<-wY,xi];rfl
def YK:bZ 1 ((cz op lat c to fa ta fb tb v f).drop 16)=true:=by rw[show 16=12+4 from rfl,<-wY,xi];rfl
def YL:bZ 1 ((cz op lat c to fa ta fb tb v f).drop 17)=true:=by rw[show 17=12+5 from rfl,<-wY,xi];rfl
def YZ:over (cz op lat c to fa ta fb tb v f) [.int .i64 i]=cz i lat c to fa ta fb tb v f:=by rw[cz,o8,me];rfl
def Y0:setAt (cz op lat c to fa ta fb tb v f) 1 [.int .i64 i]=cz op i c to fa ta fb tb v f:=by rw[cz,jo,lR,o8,me];rfl
def Y7:setAt (cz op lat c to fa ta fb tb v f) 2 [d]=cz op lat d to fa ta fb tb v f:=by rw[cz,jo,jo,lR,o8,me];rfl
def Y8:setAt (cz op lat c to fa ta fb tb v f) 3 tp.enc=cz op lat c tp fa ta fb tb v f:=by
 rw[cz,jo,jo,jo,lR,UJ (by rw[bH.cP,bH.cP];exact bP _),bH.fR];rfl
def AZ{m:List V}{k:Nat}:setAt (cz op lat c to fa ta fb tb v f) (12+k) m = .int .i64 op::.int .i64 lat::c::(to.enc++setAt [fa,.int .i64 ta,fb,.int .i64 tb,.int .i64 v,.aF f] k m):=by
 rw[show 12+k=(9+k)+1+1+1 by omega,cz,jo,jo,jo];congr 3;have key:∀(a b:List V) (n:Nat),setAt (a++b) (a.length+n) m=a++setAt b n m:=by
  intro a;induction a with
  | nil=>intro b n;rw[eM,jy];rfl
  | cons x a ih=>intro b n;rw[gI,dd,show a.length+1+n=(a.length+n)+1 by omega,jo,ih];rfl
 have:=key to.enc [fa,.int .i64 ta,fb,.int .i64 tb,.int .i64 v,.aF f] k
 rw[bH.cP] at this;exact this
def Y1:setAt (cz op lat c to fa ta fb tb v f) 12 [d,.int .i64 i]=cz op lat c to d i fb tb v f:=AZ (k:=0)
def Y3:setAt (cz op lat c to fa ta fb tb v f) 14 [d,.int .i64 i]=cz op lat c to fa ta d i v f:=AZ (k:=2)
def Y5:setAt (cz op lat c to fa ta fb tb v f) 16 [.int .i64 i]=cz op lat c to fa ta fb tb i f:=AZ (k:=4)
def Y6:setAt (cz op lat c to fa ta fb tb v f) 17 [.aF g]=cz op lat c to fa ta fb tb v g:=AZ (k:=5)
def Y2:setAt (cz op lat c to fa ta fb tb v f) 12 r.enc=cz op lat c to (.sl .no 10 (r.fs.map bW.enc)) r.tail fb tb v f:=AZ (k:=0)
def Y4:setAt (cz op lat c to fa ta fb tb v f) 14 r.enc=cz op lat c to fa ta (.sl .no 10 (r.fs.map bW.enc)) r.tail v f:=AZ (k:=2)
def dQ.dk:bx x.enc=x.enc:=Fo
def dQ.dw:bK x.enc=true:=Fp rfl rfl rfl
def lr:=ae @sF <| ae @I7 <| ae @YO <| ae @YY <| ae @YP <| ae @YQ <| ae @YV <| ae @YW <| ae @YR <| ae @YS <| ae @YT <| ae @YU <| ae @YG <| ae @YH <| ae @YM <| ae @YN <| ae @YI <| ae @YJ <| ae @YK <| ae @YL <| ae @YZ <| ae @Y0 <| ae @Y7 <| ae @Y8 <| ae @Y1 <| ae @Y3 <| ae @Y5 <| ae @Y6 <| ae @Y2 @Y4
end
def eW(op:Int)(k:UInt8):Nat:=(cp op).2.count k
def o6(l:List (List UInt8)):Bool:=l.all dG
def aq.mI(c:aq):Bool:=if eW c.op 110=0 then decide (c.name.an=[]) else dG c.name.an
def aq.j4(c:aq):Bool :=
 if 0<eW c.op 119 then decide (0<c.aj.length)&&o6 (c.aj.map aA.an)
 else if 0<eW c.op 102 then decide (c.aj.length=1)&&o6 (c.aj.map aA.an)
 else decide (c.aj.length=0)
def np(p:aA × aA):Bool:=dG p.1.an&&dG p.2.an
def aq.k_(c:aq):Bool:=if eW c.op 112=0 then decide (c.bm.length=0) else c.bm.all np
def aq.jI(c:aq):Bool :=
 if 0<eW c.op 116 then c.left.eY&&c.right.eY
 else if 0<eW c.op 114 then c.left.iX&&c.right.iX
 else c.left.cK .zero&&c.right.cK .zero
def aq.fx(c:aq):Bool:=decide (0<=c.op/\c.op<=15)&&c.mI&&c.j4&&c.k_&&c.jI
def lf:List (aA × aA)->List (aA × aA)->Bool
 | [],[]=>aa
 | p::ps,q::qs=>decide (p.1.an=q.1.an)&&decide (p.2.an=q.2.an)&&lf ps qs
 | _,_=>ak
def aq.cK(a b:aq):Bool:=decide (a.op=b.op)&&decide (a.name.an=b.name.an)&&dy a.aj b.aj&&lf a.bm b.bm&&a.left.cK b.left&&a.right.cK b.right
def qE(s:aH)(lat:Nat)(n:Nd):bH:=if n.kind=1 then ⟨dh (kj s.vars n.an),.zero⟩ else ⟨-1,(iq (vf s lat) (n.ah.getD 0 j5)).1⟩
def uy(s:aH)(lat:Nat)(k:Nd):bW:=⟨k.an,qE s lat (k.ah.getD 0 j5)⟩
def Av(s:aH):List aA->Int
 | []=>-1
 | w::_=>dh (kj s.vars w.an)
def ari{s:aH}:∀{l:List aA} (h:0<l.length),Av s (l.take (0+1))=dh (kj s.vars l[0].an)
 | [],h=>by simp at h
 | _::_,_=>rfl
def mh(s:aH)(lat:Nat)(n:Nd):ei:=if n.kind=1 then ⟨[],dh (kj s.vars n.an)⟩ else ⟨n.ah.map (uy s lat),Av s n.aj⟩
def Xd(s:aH)(v:Option Nat):Int:=match v with | some k=>(match s.vars[k]? with | some x=>x.lat | none=>0) | none=>0
def lZ(s:aH)(c:aq):dQ :=
 if c.op=8 then ⟨8,cM s c,(mw s (cM s c) c.left).getD [],qE s (cM s c).toNat c.right,.zero,.zero,0,[]⟩
 else if c.op=9 then ⟨9,cM s c,[],.zero,mh s (cM s c).toNat c.left,mh s (cM s c).toNat c.right,0,[]⟩
 else ⟨10,Xd s (kj s.vars c.name.an),[],.zero,.zero,.zero,dh (kj s.vars c.name.an),(c.aj.getD 0 ⟨[],0⟩).an⟩
def jE(s:aH)(c:aq):Bool:=decide (8<=c.op)&&decide (c.op<=10)&&c.fx&&decide ((jQ s c).cls=0)
structure ph(s:aH)(c:aq):Prop where
 op:8<=c.op/\c.op<=10
 q:c.fx=aa
 none:∀f∈qF s c,f.cls=0
def LN{s:aH}:jE s c=aa↔ph s c:=by
 simp only[jE,bC,ca];constructor
 .rintro⟨⟨⟨a,b⟩,d⟩,e⟩;exact⟨⟨a,b⟩,d,(L6 e).2⟩
 .rintro⟨⟨a,b⟩,d,e⟩;exact⟨⟨⟨a,b⟩,d⟩,by rw[jQ,TD e];rfl⟩
section
variable {s:aH} {c:aq} {lat:Int}
def arQ:∀f∈gT s lat t p k,f.cls≠0:=by
 intro f hf;unfold gT at hf;split at hf
 .split at hf<;>(rw[pj.1 hf];simp)
 .split at hf
  .split at hf
   .rw[pj.1 hf];simp
   .simp at hf
  .simp at hf
variable{w:aA}
def aj5:∀f∈gk s w,f.cls≠0:=by
 intro f hf;unfold gk at hf;split at hf
 .split at hf<;>(rw[pj.1 hf];simp)
 .simp at hf
def Us{l:List aL}(h:∀f∈l,f.cls≠0)(k:∀f∈l,f.cls=0):l=[]:=by
 cases l with
 | nil=>rfl
 | cons f l=>exact absurd (k f (by simp)) (h f (by simp))
def arR(h:gT s lat t p k=[]):∃v,∃hv:v<s.vars.length,kj s.vars t=U v/\s.vars[v].kind=k/\(0<=lat->s.vars[v].lat=lat):=by
 unfold gT at h;split at h
 .split at h<;>simp at h
 .rename_i v hv;have aB:=Q8 hv;rw[cL aB] at h;simp only at h;split at h
  .simp at h
  .rename_i hn;refine⟨v,aB,hv,?_,λh0=>?_⟩
   .exact Classical.byContradiction λhc=>hn (.inl hc)
   .exact Classical.byContradiction λhc=>hn (.inr ⟨h0,hc⟩)
def aj8(h:gk s w=[]):∃k,iu s.bu w.an=U k/\k<s.bu.length:=by
 unfold gk at h;split at h
 .split at h<;>simp at h
 .rename_i hn;cases hL:iu s.bu w.an with
  | none=>rw[hL] at hn;simp at hn
  | some k=>exact⟨k,rfl,(F1 hL).1⟩
def ph.akc(h:ph s c)(h9:c.op=8\/c.op=9):∃k,iu s.bu c.name.an=U k/\k<s.bu.length:=by
 refine aj8 (Us aj5 λf hf=>h.none f ?_);unfold qF;rw[aC (by omega),aC (by omega)]
 by_cases h8:c.op=8
 .rw[aE h8];simp[hf]
 .rw[aC h8,aE (by omega)];simp[hf]
def ph.cM(h:ph s c)(h9:c.op=8\/c.op=9):∃k:Nat,cM s c=k/\k<s.bu.length:=by
 obtain⟨k,e,hk⟩:=h.akc h9;exact⟨k,by rw[Go.Am.cM,e];rfl,hk⟩
def Ni(h:c.fx=aa):c.mI=aa/\c.j4=aa/\c.k_=aa/\c.jI=true:=by
 simp only[aq.fx,bC] at h;exact⟨h.1.1.1.2,h.1.1.2,h.1.2,h.2⟩
def ph.labels(h:ph s c)(h8:c.op=8):c.left.eY=aa/\c.right.eY=true:=by
 have:=(Ni h.q).2.2.2
 rw[aq.jI,h8] at this;simpa [show eW 8 116=2 from by decide] using this
def ph.rows(h:ph s c)(h9:c.op=9):c.left.iX=aa/\c.right.iX=true:=by
 have:=(Ni h.q).2.2.2
 rw[aq.jI,h9] at this;simpa [show eW 9 116=0 from by decide,show eW 9 114=2 from by decide] using this
def ph.one(h:ph s c)(iL:c.op=10):∃w,c.aj=[w]/\dG w.an=true:=by
 have:=(Ni h.q).2.1
 rw[aq.j4,iL] at this;simp only[show eW 10 119=0 from by decide,show eW 10 102=1 from by decide,Nat.lt_irrefl,cn,Nat.zero_lt_one,cD,bC,ca] at this
 match hq:c.aj,this.1 with
 | [w],_=>exact⟨w,rfl,by have:=this.2;rw[hq] at this;simpa [o6] using this⟩
def ph.var(h:ph s c)(iL:c.op=10):∃v,∃hv:v<s.vars.length,kj s.vars c.name.an=U v/\s.vars[v].kind=2:=by
 have:gT s (-1) c.name.an c.name.pos 2=[]:=Us arQ λf hf=>h.none f (by unfold qF;rw[aE iL];exact hf)
 obtain⟨v,hv,h1,h2,_⟩:=arR this;exact⟨v,hv,h1,h2⟩
def ph.right(h:ph s c)(h8:c.op=8):c.right.kind=1\/c.right.kind=7:=by
 have hl:=(h.labels h8).2;rw[Nd.s_] at hl
 by_cases h1:c.right.kind=1
 .exact .inl h1
 .by_cases h7:c.right.kind=7
  .exact .inr h7
  .rw[aC h1,aC h7] at hl
   by_cases RZ:c.right.kind=8\/c.right.kind=9
   .have:=h.none ⟨6,c.right.pos⟩ (by unfold qF;rw[aC (by omega),aC (by omega),aE h8];simp[xm,RZ])
    simp at this
   .rw[aC RZ] at hl;simp at hl
end
def Re(k:Nd):Prop:=0<k.ah.length/\∀a∈k.ah,a.kind=1\/0<a.ah.length
def HQ{n:Nd}(h:n.iX=aa):∀k∈n.ah,Re k:=by
 rcases Eh h with ⟨_,_,_,hf⟩ | ⟨h1,h⟩
 .intro k hk;obtain⟨_,_,_,a,ha,hq⟩:=FZ (hf k hk);refine⟨by rw[ha];simp,λb hb=>?_⟩;rw[ha] at hb;obtain rfl:=pj.1 hb;have hl:=Fu hq;simp only[Nd.po,bC,mn,ca] at hq
  rcases hq.1 with h | h
  .exact .inl h
  .exact .inr (by rw[DP hl h];omega)
 .rw[Nd.s_,aE h1] at h;intro k hk;simp only[Nd.kr,bC,ca] at h
  have:n.ah.length=0:=by have:=h.2;omega
  exact absurd (List.length_pos_of_mem hk) (by omega)
def VH{n:Nd}(h:n.iX=aa):n.aj.length<=1:=by
 rcases Eh h with ⟨_,_,hn,_⟩ | ⟨h1,h⟩
 .rcases hn with h | ⟨w,h,_⟩<;>rw[h]<;>simp
 .rw[Nd.s_,aE h1] at h;simp only[Nd.kr,bC,ca] at h
  have:n.aj.length=0:=by have:=h.2;omega
  omega
def D7(r:Rl)(p:Int × Int):Rl:=if (0<=p.1/\p.1<(bD r:Nat))/\0<=p.2/\p.2<(bD r:Nat) then r.put p.1.toNat (kb (r.get p.1.toNat) p.2) else r
def ri(n:Int)(l:List (Int × Int)):Rl:=l.foldl D7 (Rl.of (min n.toNat 64:Nat) λ_=>0#64)
def anf{n:Int}{l:List (Int × Int)}(hi:i<l.length):ri n (l.take (i+1))=D7 (ri n (l.take i)) l[i]:=by
 rw[ri,ri,jx hi,AQ];rfl
def dz(l:List aA):List (List UInt8):=l.map aA.an
def AJ{l:List aA}:(dz l).length=l.length:=by simp[dz]
def HC(l:List (List UInt8))(p:aA × aA):Int × Int:=(dh (gY l p.1.an),dh (gY l p.2.an))
def sj(c:aq):Rl:=rF (ri (c.aj.length:Nat) (c.bm.map (HC (dz c.aj))))
def BW(l:List bA):bA:=⟨aa,l.flatMap bA.bO⟩
def pH(s:aH)(w:aA):List bA:=match iu s.bu w.an with | some k=>(match s.bu[k]? with | some x=>[x.shape] | none=>[]) | none=>[]
def pQ(s:aH)(c:aq):bA:=BW (c.aj.flatMap (pH s))
def aH.uY(s:aH):Prop:=s.ok/\∀l∈s.bu,l.shape.bO.length<=100
def l_(op:Int):Bool:=decide (1<=op)&&decide (op<=5)
def nJ(op:Int):Bool:=decide (op=6)||decide (op=7)
def r7(s:aH)(t:List UInt8):Bool:=(iu s.bu t).isSome
def gN(s:aH)(t:List UInt8):Bool:=(iu s.bu t).isSome||(kj s.vars t).isSome
def dT(b:Bool)(x y:Int):List aL:=if b then [⟨x,y⟩] else []
def qS(s:aH)(c:aq):List aL :=
 if l_ c.op then dT (gN s c.name.an) 3 c.name.pos
 else dT (!gN s c.name.an) 3 c.name.pos++dT (gN s c.name.an&&!r7 s c.name.an) 4 c.name.pos
def sa(s:aH)(c:aq)(i:Nat):List aL :=
 let w:=c.aj.getD i ⟨[],0⟩
 if c.op=3 then dT (!gN s w.an) 3 w.pos++dT (gN s w.an&&!r7 s w.an) 4 w.pos
 else dT ((gY ((dz c.aj).take i) w.an).isSome||(nJ c.op&&gN s w.an)) 3 w.pos
def kZ(s:aH)(c:aq)(m:Nat):List aL:=(bU m).flatMap (sa s c)
def sb(c:aq)(w:aA):List aL:=dT (gY (dz c.aj) w.an).isNone 3 w.pos
def pP(c:aq)(p:aA × aA):List aL:=sb c p.1++sb c p.2
def si(c:aq):List aL:=c.bm.flatMap (pP c)
def qm(c:aq):List aL:=if c.op=5/\c.aj.length<=64 then dT (!rb (sj c)) 5 c.mJ else []
def ma(s:aH)(c:aq):List aL :=
 if c.op=6\/c.op=7 then dT (decide ((64:Int) - (s.vars.length:Nat)<(c.aj.length:Nat))) 7 c.pos
 else dT (decide ((if c.op=3 then(8:Int) else if c.op=4 then 8 else 64)<((if c.op=3 then(pQ s c).bO.length else c.aj.length):Nat))||decide (16<=s.bu.length)) 7 c.pos
def vb(s:aH)(c:aq):List aL:=qS s c++kZ s c c.aj.length++si c++qm c++ma s c
def kE(s:aH)(c:aq):aL:=if l_ c.op||nJ c.op then fU (vb s c) else .zero
section
variable {s:aH} {c:aq}
def rn{b:Bool}{x y:Int}:(dT b x y).length<=1:=by unfold dT;split<;>simp
def ait:(qS s c).length<=2:=by
 have h1:=@rn (gN s c.name.an) 3 c.name.pos;have h2:=@rn (!gN s c.name.an) 3 c.name.pos;have h3:=@rn (gN s c.name.an&&!r7 s c.name.an) 4 c.name.pos;unfold qS;split
 .omega
 .rw[bN];omega
def al9{i:Nat}:(sa s c i).length<=2:=by
 unfold sa;simp only;split
 .rw[bN];have h2:=@rn (!gN s (c.aj.getD i ⟨[],0⟩).an) 3 (c.aj.getD i ⟨[],0⟩).pos;have h3:=@rn (gN s (c.aj.getD i ⟨[],0⟩).an&&!r7 s (c.aj.getD i ⟨[],0⟩).an) 4 (c.aj.getD i ⟨[],0⟩).pos;omega
 .exact w7 rn (by omega)
def Uv{m:Nat}:kZ s c (m+1)=kZ s c m++sa s c m:=by rw[kZ,qz,yK];simp[kZ]
def Mx:∀{m:Nat},(kZ s c m).length<=2*m
 | 0=>by simp[kZ]
 | m + 1 => by
  have h1:=@Mx m;have h2:=@al9 s c m;rw[Uv,bN];omega
def aou{p:aA × aA}:(pP c p).length<=2:=by
 unfold pP sb;rw[bN];have h1:=@rn (gY (dz c.aj) p.1.an).isNone 3 p.1.pos;have h2:=@rn (gY (dz c.aj) p.2.an).isNone 3 p.2.pos;omega
def Vh{l:List (aA × aA)}:(l.flatMap (pP c)).length<=2*l.length:=by
 have:=CY (f:=pP c) (m:=2) (l:=l) λ_ _=>aou
 omega
def anH:(qm c).length<=1:=by
 unfold qm;split
 .exact rn
 .simp
def akH:(ma s c).length<=1:=by unfold ma;split<;>exact rn
end
structure Rm where
 bytes:Int
 lY:Int
 fc:Int
def Rm.enc(r:Rm):List V:=[.int .i64 r.bytes,.int .i64 r.lY,.int .i64 r.fc]
section
variable {r:Rm} {n:Nat} {a b c:V}
theorem Rm.cP:r.enc.length=3:=rfl
theorem Rm.fX:cC r.enc=true:=rfl
theorem Rm.dw:bK r.enc=true:=rfl
theorem Rm.dk:bx r.enc=r.enc:=rfl
theorem Rm.cH:bS n r.enc=true:=rfl
theorem Rm.fm:takeN 3 r.enc=U r.enc:=rfl
theorem Rm.gQ:bF aa 3 r.enc=U (.agg r.enc):=rfl
theorem Rm.gm:bZ 3 r.enc=true:=rfl
theorem Rm.fR:over [a,b,c] r.enc=r.enc:=rfl
theorem Rm.r_b:bF ak 1 r.enc=U (.int .i64 r.bytes):=rfl
theorem Rm.M9:bF ak 1 (r.enc.drop 1)=U (.int .i64 r.lY):=rfl
theorem Rm.Ef:bF ak 1 (r.enc.drop 2)=U (.int .i64 r.fc):=rfl
def Rm.al:=ae @Rm.cP <| ae @Rm.fX <| ae @Rm.dw <| ae @Rm.dk <| ae @Rm.cH <| ae @Rm.fm <| ae @Rm.gQ <| ae @Rm.gm <| ae @Rm.fR <| ae @Rm.r_b <| ae @Rm.M9 @Rm.Ef
end
def tI(op:Int):Bool:=decide (1<=op)&&decide (op<=10)
def vE(op:Int):Bool:=decide (8<=op)&&decide (op<=10)
def kt(r:Rm)(c:aq):Bool :=
 (tI c.op&&(decide (1024<((eb c).length:Int))||decide (IntKind.i64.wrap (16383 - (eb c).length)<r.bytes)))||(vE c.op&&decide (64<=r.lY))||(decide (c.op=11)&&decide (16<=r.fc))
def kX(s:aH)(r:Rm)(c:aq):List aL:=[kE s c,jQ s c]++dT (kt r c) 7 c.pos++dT (decide (c.op=12)&&decide (r.fc<=1)) 8 c.pos
def Rj(f:Int × Int):aL:=⟨f.1,f.2⟩
def lK(s:aH)(r:Rm)(t:List UInt8):aq × dQ × aL :=
 if (cW t).2.1≠0 then(.zero,.zero,Rj (cW t).2)
 else if (fU (kX s r (cW t).1)).cls≠0 then(.zero,.zero,fU (kX s r (cW t).1))
 else((cW t).1,if jE s (cW t).1 then lZ s (cW t).1 else .zero,.zero)
def jZ(Y:Nat)(l:List aL)(s:aH)(c:aq):List V:=[.sl .no 3 (s.bu.map dY.enc),.sl .no 3 (s.vars.map du.enc),
 .int .i64 c.op,.int .i64 c.pos,.aF c.name.an,.int .i64 c.name.pos,.sl .no 2 (c.aj.map aA.enc),.sl .no 4 (c.bm.map ff),.int .i64 c.mJ,
 .int .i64 c.left.kind,.int .i64 c.left.pos,.aF c.left.an,.sl .no 2 (c.left.aj.map aA.enc),.sl .no 5 (c.left.ah.map Nd.enc),.int .i64 c.right.kind,.int .i64 c.right.pos,.aF c.right.an,.sl .no 2 (c.right.aj.map aA.enc),.sl .no 5 (c.right.ah.map Nd.enc),
 .sl (.tk Y) 2 (l.map aL.enc)]
def ep(Z:ag)(b Y:Nat)(l:List aL)(s:aH)(c:aq):ag:=(Z.set b (jZ Y l s c)).aY Y l.length
section
variable {Z σ' : ag} {b b' Y υ n:Nat} {l:List aL} {s:aH} {c:aq} {x y:Int} {d:List V}
def LO:(ep Z b Y l s c).box b=U (jZ Y l s c):=by simp[ep,ag.set,ag.aY]
def wk(h:b' ≠ b):(ep Z b Y l s c).box b' = Z.box b' := by simp[ep,ag.set,ag.aY,h]
def Tm:(ep Z b Y l s c).aK Y=U l.length:=by simp[ep,ag.set,ag.aY]
def Tj(h:b' ≠ b):(ep Z b Y l s c).set b' d=ep (Z.set b' d) b Y l s c:=by
 simp only[ep,ag.set,ag.aY,ag.mk.injEq,ij];funext z
 by_cases h1:z=b'
 .subst h1;simp[h]
 .simp[h1]
def ajK:((ep Z b Y l s c).aY Y (l.length+1)).set b ((jZ Y l s c).take 19++[.sl (.tk Y) 2 (l.map aL.enc++[[.int .i64 x,.int .i64 y]])])=ep Z b Y (l++[⟨x,y⟩]) s c:=by
 simp only[ep,jZ,ag.set,ag.aY,ag.mk.injEq,f_,b8,eR,aL.enc,bN,gC,ij];constructor
 .funext z
  by_cases h1:z=b<;>simp[h1]
 .funext z
  by_cases h1:z=Y<;>simp[h1]
def ajL(h:Z.box b=af)(ht:Z.aK Y=af):Z.sub (ep Z b Y l s c):=by
 refine⟨λx cs hx=>?_,λt m hm=>?_,λ_ _ h=>h⟩
 .have:x≠b:=by rintro rfl;rw[h] at hx;simp at hx
  rw[wk this];exact hx
 .have:t≠Y:=by rintro rfl;rw[ht] at hm;simp at hm
  simp[ep,ag.set,ag.aY,this];exact hm
def Ti(h:b' ≠ b)(hn:Z.box b' = af):(ep Z b Y l s c).sub (ep (Z.set b' d) b Y l s c):=by
 refine⟨λx cs hx=>?_,λt m hm=>?_,λ_ _ h=>h⟩
 .by_cases h1:x=b
  .subst h1;rw[LO] at hx ⊢;exact hx
  .rw[wk h1] at hx ⊢
   have:x≠b' := by rintro rfl;rw[hn] at hx;simp at hx
   simp only[ag.set,this,cn];exact hx
 .simpa [ep,ag.set,ag.aY] using hm
theorem j_f:bF ak 1 ((jZ Y l s c).drop 19)=U (.sl (.tk Y) 2 (l.map aL.enc)):=rfl
theorem j_s:takeN 2 (jZ Y l s c)=U s.enc:=rfl
theorem j_c:takeN 17 ((jZ Y l s c).drop 2)=U c.enc:=rfl
theorem j_l:bF ak 1 (jZ Y l s c)=U (.sl .no 3 (s.bu.map dY.enc)):=rfl
theorem j_v:bF ak 1 ((jZ Y l s c).drop 1)=U (.sl .no 3 (s.vars.map du.enc)):=rfl
theorem j_o:bF ak 1 ((jZ Y l s c).drop 2)=U (.int .i64 c.op):=rfl
theorem j_p:bF ak 1 ((jZ Y l s c).drop 3)=U (.int .i64 c.pos):=rfl
theorem j_t:bF ak 1 ((jZ Y l s c).drop 4)=U (.aF c.name.an):=rfl
theorem j_a:bF ak 1 ((jZ Y l s c).drop 5)=U (.int .i64 c.name.pos):=rfl
theorem j_n:bF ak 1 ((jZ Y l s c).drop 6)=U (.sl .no 2 (c.aj.map aA.enc)):=rfl
theorem j_r:bF ak 1 ((jZ Y l s c).drop 7)=U (.sl .no 4 (c.bm.map ff)):=rfl
theorem j_q:bF ak 1 ((jZ Y l s c).drop 8)=U (.int .i64 c.mJ):=rfl
theorem j_h:bZ 1 ((jZ Y l s c).drop 19)=true:=rfl
theorem j_w{v:V}:setAt (jZ Y l s c) 19 [v]=(jZ Y l s c).take 19++[v]:=rfl
def j0(s:aH):List V:=[.sl .no 3 (s.bu.map dY.enc),.sl .no 3 (s.vars.map du.enc),.int .i64 0,.int .i64 0,.aF [],.int .i64 0,.sl .aV 2 [],.sl .aV 4 [],.int .i64 0,.int .i64 0,.int .i64 0,.aF [],.sl .aV 2 [],.sl .aV 5 [],.int .i64 0,.int .i64 0,.aF [],.sl .aV 2 [],.sl .aV 5 [],.sl .aV 2 []]
def jz(s:aH)(c:aq):List V:=(jZ 0 [] s c).take 19++[.sl .aV 2 []]
theorem ajv:over [.sl .aV 3 [],.sl .aV 3 [],.int .i64 0,.int .i64 0,.aF [],.int .i64 0,.sl .aV 2 [],.sl .aV 4 [],.int .i64 0,.int .i64 0,.int .i64 0,.aF [],.sl .aV 2 [],.sl .aV 5 [],.int .i64 0,.int .i64 0,.aF [],.sl .aV 2 [],.sl .aV 5 [],.sl .aV 2 []] s.enc=j0 s:=rfl
theorem aju:bZ 17 ((j0 s).drop 2)=true:=rfl
def ajw:setAt (j0 s) 2 c.enc=jz s c:=by rw[aq.enc,aq.cQ];rfl
theorem ajM:(jz s c).length=20:=rfl
theorem ajO:cC (jz s c)=true:=rfl
theorem ajN:bK (jz s c)=true:=rfl
theorem ajP:takeN 20 (jz s c)=U (jz s c):=rfl
def Tn:=ae @ajv <| ae @aju <| ae @ajw <| ae @ajM <| ae @ajO <| ae @ajN @ajP
def iT:=ae @LO <| ae @Tm <| ae @j_f <| ae @j_s <| ae @j_c <| ae @j_l <| ae @j_v <| ae @j_o <| ae @j_p <| ae @j_t <| ae @j_a <| ae @j_n <| ae @j_r <| ae @j_q <| ae @j_h @j_w
end
def sk(s:aH)(c:aq):bA :=
 if c.op=1 then ⟨ak,[⟨1,dz c.aj,.zero⟩]⟩
 else if c.op=2 then ⟨ak,[⟨2,dz c.aj,.zero⟩]⟩
 else if c.op=4 then ⟨ak,[⟨3,dz c.aj,sj c⟩]⟩
 else if c.op=5 then ⟨ak,[⟨4,dz c.aj,sj c⟩]⟩
 else if c.op=3 then pQ s c
 else ⟨ak,[]⟩
def aA.mp(O:Int->Int)(w:aA):aA:=⟨w.an,O w.pos⟩
mutual
def Nd.mp(O:Int->Int):Nd->Nd
 | .mk k p t ws ks=>.mk k (O p) t (ws.map (aA.mp O)) (yd O ks)
def yd(O:Int->Int):List Nd->List Nd
 | []=>[]
 | n::ns=>n.mp O::yd O ns
end
def aL.mp(O:Int->Int)(f:aL):aL:=if f.cls=0 then f else ⟨f.cls,O f.aD⟩
def aq.mp(O:Int->Int)(c:aq):aq:=⟨c.op,O c.pos,c.name.mp O,c.aj.map (aA.mp O),c.bm.map λp=>(p.1.mp O,p.2.mp O),O c.mJ,c.left.mp O,c.right.mp O⟩
section
variable {O:Int->Int}
def Uh:∀{l:List Nd},yd O l=l.map (Nd.mp O)
 | []=>rfl
 | n::ns=>by rw[yd,Uh];rfl
def mH(n:Nd):(n.mp O).kind=n.kind:=by cases n;rw[Nd.mp];rfl
def z_(n:Nd):(n.mp O).pos=O n.pos:=by cases n;rw[Nd.mp];rfl
def ni(n:Nd):(n.mp O).an=n.an:=by cases n;rw[Nd.mp];rfl
def ti(n:Nd):(n.mp O).aj=n.aj.map (aA.mp O):=by cases n;rw[Nd.mp];rfl
def kY(n:Nd):(n.mp O).ah=n.ah.map (Nd.mp O):=by cases n;rw[Nd.mp,<-Uh];rfl
variable{w:aA}
theorem AF:(w.mp O).an=w.an:=rfl
theorem AE:(w.mp O).pos=O w.pos:=rfl
def Nk{l:List aA}:hZ (l.map (aA.mp O))=hZ l:=by simp[hZ,vq,aA.mp]
def TA(n:Nd):(n.mp O).kr=n.kr:=by simp[Nd.kr,ni,ti,kY]
def PS(n:Nd):(n.mp O).kJ=n.kJ:=by simp[Nd.kJ,ni,ti]
def apO(n:Nd):(n.mp O).pd=n.pd:=by simp[Nd.pd,mH,ni,ti,kY,Nk]
def CE{f:Nd->Bool}:∀{l:List Nd},(∀n∈l,f (n.mp O)=f n)->(l.map (Nd.mp O)).all f=l.all f
 | [],_=>rfl
 | n::ns,h=>by rw[b8,tT,tT,h n (by simp),CE λm hm=>h m (by simp[hm])]
def Nd.ind{P:Nd->Prop}(h:∀n,(∀m∈n.ah,P m)->P n)(n:Nd):P n:=by
 obtain⟨k,hk⟩:∃k,n.cy<=k:=⟨_,bP _⟩;induction k generalizing n with
 | zero=>have:=Nd.sH n;omega
 | succ k ih=>exact h n λm hm=>ih m (by have:=qG hm;omega)
def Qq(n:Nd):(n.mp O).im=n.im:=by
 induction n using Nd.ind with
 | h n ih=>simp only[Nd.y5,mH,ni,ti,kY,Nk,TA,PS,aN,CE ih,CE λm _=>apO m]
def Sp{f:Nd->Bool}(h:∀n,f (n.mp O)=f n):∀{l:List Nd},uF f (l.map (Nd.mp O))=uF f l
 | []=>rfl
 | n::_=>h n
def G7(n:Nd):(n.mp O).eY=n.eY:=by
 induction n using Nd.ind with
 | h n ih=>simp only[Nd.s_,mH,kY,TA,PS,aN,CE ih,Sp Qq]
def Zb(n:Nd):(n.mp O).po=n.po:=by simp only[Nd.po,mH,G7]
def adQ(n:Nd):(n.mp O).ly=n.ly:=by simp only[Nd.ly,mH,ni,ti,kY,aN,Sp Zb]
def apG(n:Nd):(n.mp O).iX=n.iX:=by simp only[Nd.iX,mH,ni,ti,kY,aN,Nk,CE λm _=>adQ m,G7]
def Wc:∀{l m:List aA},dy (l.map (aA.mp O)) m=dy l m
 | [],[]=>rfl
 | [],_::_=>rfl
 | _::_,[]=>rfl
 | w::ws,u::us=>by simp only[b8,dy,Wc];rfl
def aqb(n:Nd):(n.mp O).cK .zero=n.cK .zero:=by
 simp only[Nd.Ap,mH,ni,ti,kY,Wc];congr 1;show cZ (n.ah.map (Nd.mp O)) []=cZ n.ah [];cases n.ah<;>rfl
def Oo{l:List aA}:dz (l.map (aA.mp O))=dz l:=by simp[dz,vq,aA.mp]
def apv(c:aq):(c.mp O).fx=c.fx:=by
 have e1:(c.mp O).aj.map aA.an=c.aj.map aA.an:=by simp[aq.mp,vq,aA.mp]
 have e2:(c.mp O).mI=c.mI:=rfl;have e3:(c.mp O).j4=c.j4:=by simp only[aq.j4,e1];simp[aq.mp]
 have e4:(c.mp O).k_=c.k_:=by simp only[aq.k_];simp[aq.mp,vq,aA.mp];rfl
 have e5:(c.mp O).jI=c.jI:=by simp only[aq.jI];simp only[aq.mp,G7,apG,aqb]
 simp only[aq.fx,e2,e3,e4,e5];rfl
def MX{l:List (List UInt8)}:∀{ws:List aA} {s:bB},gO l s (ws.map (aA.mp O))=((gO l s ws).1,(gO l s ws).2.map O)
 | [],_=>rfl
 | w :: ws, s => by
  simp only[b8,gO,AF,AE];cases gY l w.an with
  | none=>rfl
  | some k=>exact MX
def VT{f:bp}:∀{ks:List Nd} {s:bB},va f s (ks.map (Nd.mp O))=((va f s ks).1,(va f s ks).2.map O)
 | [],_=>rfl
 | k :: ks, s => by
  simp only[b8,va,ni,z_,ti,MX];cases gY f.aj k.an with
  | none=>rfl
  | some o =>
   simp only;cases (gO f.aj 0#64 k.aj).2 with
   | some p=>rfl
   | none=>exact VT
def atf{f:bp}(n:Nd):vn f (n.mp O)=((vn f n).1,(vn f n).2.map O):=by
 unfold vn;rw[mH,ti,kY,MX,VT,pR,pR,ni,z_];split
 .split
  .rfl
  .split
   .rfl
   .cases gY f.aj n.an<;>rfl
 .rfl
def zh(h:i<ks.length):(ks.map (Nd.mp O)).getD i j5=(ks.getD i j5).mp O:=by simp[gU,h]
def atg{s:bA}(h:i<ks.length):kc s (ks.map (Nd.mp O)) i=((kc s ks i).1,(kc s ks i).2.map O):=by
 rw[kc,kc,zh h,atf]
def acU{s:bA}(h:s.bO.length<=ks.length):vH s (ks.map (Nd.mp O))=((vH s ks).1,(vH s ks).2.map O):=by
 have e:∀i,i<s.bO.length->kc s (ks.map (Nd.mp O)) i=((kc s ks i).1,(kc s ks i).2.map O):=λi hi=>atg (by omega)
 have e1:(bU s.bO.length).find? (λi=>(kc s (ks.map (Nd.mp O)) i).2.isSome)=(bU s.bO.length).find? (λi=>(kc s ks i).2.isSome) :=
  find_congr λi hi=>by rw[e i (by simpa using hi)];simp
 unfold vH;rw[e1];cases hf:(bU s.bO.length).find? (λi=>(kc s ks i).2.isSome) with
 | some i =>
  have hi:i<s.bO.length:=by simpa using O5 hf
  simp only[e i hi]
 | none =>
  have e2:(λj=>if j<s.bO.length then(kc s (ks.map (Nd.mp O)) j).1 else 0#64)=λj=>if j<s.bO.length then(kc s ks j).1 else 0#64:=funext λj=>by
   split
   .rename_i hj;rw[e j hj]
   .rfl
  simp only[e2];rfl
def Jz{s:bA}(n:Nd):iq s (n.mp O)=((iq s n).1,(iq s n).2.map O):=by
 have e1:pO s (n.mp O)=pO s n:=by simp only[pO,mH,kY,aN]
 have e2:j6 s (n.mp O)=(j6 s n).map (Nd.mp O):=by unfold j6;split<;>simp[kY]
 unfold iq;rw[e1,Qq];split
 .rename_i h;rw[e2];refine acU ?_;simp only[bC] at h;obtain⟨⟨h1,h2⟩,_⟩:=h;unfold pO at h1;unfold j6;cases ht:s.tuple with
  | true=>rw[ht] at h1;simp only[Bool.not_true,EK,bC,ca] at h1;simp[h1.2]
  | false =>
   simp only[mN,ht,bC,mn,ca,dm,false_or] at h2;simp[h2.1.2]
 .simp[z_]
def aea{f:aL}:(f.mp O).cls=f.cls:=by unfold aL.mp;split<;>rfl
def xr{x y:Int}(h:x≠0):(aL.mk x y).mp O=⟨x,O y⟩:=by rw[aL.mp,aC (by exact h)]
def vh{b:Bool}{x y:Int}(h:x≠0):dT b x (O y)=(dT b x y).map (aL.mp O):=by cases b<;>simp[dT,xr h]
def CZ{α G:Type}{f:α->List aL}{g:G->List aL}{m:α->G}:∀{l:List α},(∀x∈l,g (m x)=(f x).map (aL.mp O))->(l.map m).flatMap g=(l.flatMap f).map (aL.mp O)
 | [],_=>rfl
 | x::l,h=>by rw[b8,p7,p7,f_,h x (by simp),CZ λy hy=>h y (by simp[hy])]
def JP{f g:Nat->List aL}:∀{l:List Nat},(∀x∈l,g x=(f x).map (aL.mp O))->l.flatMap g=(l.flatMap f).map (aL.mp O)
 | [],_=>rfl
 | x::l,h=>by rw[p7,p7,f_,h x (by simp),JP λy hy=>h y (by simp[hy])]
variable {s:aH} {lat:Int}
def Ii:gT s lat t (O p) k=(gT s lat t p k).map (aL.mp O):=by
 unfold gT;cases kj s.vars t with
 | none=>simp only;split<;>simp[xr]
 | some v =>
  simp only;cases s.vars[v]? with
  | none=>rfl
  | some x=>simp only;split<;>simp[xr]
def aj7:gk s (w.mp O)=(gk s w).map (aL.mp O):=by
 unfold gk;rw[AF,AE];split
 .split<;>simp[xr]
 .rfl
def acV{n:Nd}(h:0<n.ah.length):vI s lat (n.mp O)=(vI s lat n).map O:=by rw[vI,vI,kY,zh h,Jz]
def PG(n:Nd):ke s lat (n.mp O)=(ke s lat n).map (aL.mp O):=by
 unfold ke;rw[mH,ni,z_,Ii];split
 .rfl
 .split
  .unfold y9;rw[kY,aN];split
   .rename_i h;rw[acV h.1];cases vI s lat n<;>simp[xr]
   .rfl
  .rfl
def aj0(n:Nd):fF s lat (n.mp O)=(fF s lat n).map (aL.mp O):=by
 induction n using Nd.ind with
 | h n ih =>
  rw[G6,G6,mH,kY,PG,f_];congr 1;split
  .rfl
  .exact CZ ih
def arz:((ks.map (Nd.mp O)).take i).map Nd.an=(ks.take i).map Nd.an:=by
 rw[<-List.map_take,Cs];exact List.map_congr_left λn _=>ni n
def apA(n:Nd):nr s lat (O p) (n.mp O)=(nr s lat p n).map (aL.mp O):=by
 unfold nr;rw[mH,ni,z_,Ii,kY,ti,aN];split
 .rfl
 .split
  .rw[f_,f_];congr 1
   .congr 1
    .refine JP λi hi=>?_
     have hi:i<n.ah.length:=by simpa using hi
     rw[zf,zf,f_,zh hi];congr 1
     .rw[uq,uq,arz,zh hi,ni,z_];split<;>simp[xr]
     .rw[kY];exact CZ λm _=>PG m
    .exact CZ λw _=>by rw[AF,AE,Ii]
   .split<;>simp[xr]
  .rfl
def aaT:qF s (c.mp O)=(qF s c).map (aL.mp O):=by
 have e:cM s (c.mp O)=cM s c:=rfl;unfold qF;rw[e];simp only[aq.mp,AF,AE,Ii,aj7,aj0,apA];have hd:xm (c.right.mp O)=(xm c.right).map (aL.mp O):=by unfold xm;rw[mH,z_];split<;>simp[xr]
 rw[hd]
 repeat' split
 all_goals simp only[f_,eR]
def apl:sj (c.mp O)=sj c:=by
 rw[sj,sj]
 have:(c.mp O).bm.map (HC (dz (c.mp O).aj))=c.bm.map (HC (dz c.aj)):=by
  simp only[aq.mp,Oo,Cs];rfl
 rw[this];simp only[aq.mp,aN]
def aoy:pQ s (c.mp O)=pQ s c:=by
 rw[pQ,pQ];congr 1;simp only[aq.mp,List.flatMap_map];rfl
def aqg:vb s (c.mp O)=(vb s c).map (aL.mp O):=by
 have h1:qS s (c.mp O)=(qS s c).map (aL.mp O):=by
  show(if l_ c.op then dT (gN s c.name.an) 3 (O c.name.pos) else dT (!gN s c.name.an) 3 (O c.name.pos)++dT (gN s c.name.an&&!r7 s c.name.an) 4 (O c.name.pos))=_;unfold qS
  by_cases h:l_ c.op=aa
  .rw[aE h,aE h];exact vh (by decide)
  .rw[aC h,aC h,f_,vh (by decide),vh (by decide)]
 have h2:∀i,i<c.aj.length->sa s (c.mp O) i=(sa s c i).map (aL.mp O):=λi hi=>by
  have e:(c.mp O).aj.getD i ⟨[],0⟩=(c.aj.getD i ⟨[],0⟩).mp O:=by simp[aq.mp,gU,hi]
  have e1:dz (c.mp O).aj=dz c.aj:=Oo;have e2:(c.mp O).op=c.op:=rfl;unfold sa;rw[e,e1,e2];simp only[AF,AE];split
  .rw[f_,vh (by decide),vh (by decide)]
  .exact vh (by decide)
 have h3:si (c.mp O)=(si c).map (aL.mp O):=by
  have e1:dz (c.mp O).aj=dz c.aj:=Oo;refine CZ (l:=c.bm) (f:=pP c) (g:=pP (c.mp O)) λp _=>?_
  rw[pP,pP,sb,sb,sb,sb,e1,f_,AF,AE,AF,AE,vh (by decide),vh (by decide)]
 have h4:qm (c.mp O)=(qm c).map (aL.mp O):=by
  unfold qm;rw[apl];simp only[aq.mp,aN];split
  .exact vh (by decide)
  .rfl
 have h5:ma s (c.mp O)=(ma s c).map (aL.mp O):=by
  unfold ma;rw[aoy];simp only[aq.mp,aN];split<;>exact vh (by decide)
 have hn:(c.mp O).aj.length=c.aj.length:=by simp[aq.mp]
 rw[vb,vb,h1,h3,h4,h5,hn,kZ,kZ,JP (f:=sa s c) λi hi=>h2 i (by simpa using hi)];simp only[f_]
def L5{l:List aL}:(fU l).cls=0↔∀f∈l,f.cls=0 :=
 ⟨λh=>(L6 h).2,λh=>by rw[TD h];rfl⟩
def TC{l:List aL}:(fU (l.map (aL.mp O))).cls=0↔(fU l).cls=0:=by
 rw[L5,L5];simp[aea]
def PF{lat:Nat}{n:Nd}(h:n.kind=1\/0<n.ah.length):qE s lat (n.mp O)=qE s lat n:=by
 unfold qE;rw[mH,ni,kY];split
 .rfl
 .rename_i h1;rw[zh (h.resolve_left h1),Jz]
def akt{lat:Nat}{n:Nd}(h:n.kind=1\/0<n.ah.length):nh s lat (n.mp O)=nh s lat n:=by
 unfold nh;rw[mH,ni,kY];split
 .rfl
 .rename_i h1;rw[zh (h.resolve_left h1),Jz];simp only;cases (iq (vf s lat) (n.ah.getD 0 j5)).2<;>rfl
def Qo{lat:Nat}:∀{l:List Nd},(∀m∈l,mX s lat (m.mp O)=mX s lat m)->p_ s lat (l.map (Nd.mp O))=p_ s lat l
 | [],_=>rfl
 | n::ns,h=>by rw[b8,p_,p_,h n (by simp),Qo λm hm=>h m (by simp[hm])]
def aa3{lat:Nat}(n:Nd):n.eY=aa->mX s lat (n.mp O)=mX s lat n:=by
 induction n using Nd.ind with
 | h n ih =>
  intro hq;rw[Jq,Jq,mH,kY];have ho:sc (n.mp O)=sc n:=by simp only[sc,mH,kY,aN]
  rw[ho];split
  .rename_i h;rw[akt ?_]
   rcases h with h | h
   .exact .inl h
   .exact .inr (by rw[DP hq h];omega)
  .rename_i h;rw[Qo λm hm=>ih m hm (Tq hq h m hm)]
def VR{lat:Nat}{n:Nd}(h:∀k∈n.ah,0<k.ah.length/\∀a∈k.ah,a.kind=1\/0<a.ah.length):mh s lat (n.mp O)=mh s lat n:=by
 unfold mh;rw[mH,ni,kY,ti,Cs];have e1:n.ah.map (uy s lat∘Nd.mp O)=n.ah.map (uy s lat):=List.map_congr_left λk hk=>by
  obtain⟨h1,h2⟩:=h k hk;show uy s lat (k.mp O)=_;rw[uy,uy,ni,kY,zh h1,PF]
  have:k.ah.getD 0 j5∈k.ah:=by rw[qN h1];exact fh _
  exact h2 _ this
 have e2:Av s (n.aj.map (aA.mp O))=Av s n.aj:=by cases n.aj<;>rfl
 rw[e1,e2]
end
def akL{r:Rm}(h:kt r c=aa):c.op≠12:=λe=>by
 simp[kt,tI,vE,e] at h
def Hg{s:aH}{r:Rm}{t:List UInt8}(h:(cW t).2.1≠0):lK s r t=(.zero,.zero,Rj (cW t).2):=by rw[lK,aE h]
def Hh{s:aH}{r:Rm}{t:List UInt8}(h:(cW t).2.1=0)(h' : (fU (kX s r (cW t).1)).cls≠0):lK s r t=(.zero,.zero,fU (kX s r (cW t).1)):=by rw[lK,aC (by simpa using h),aE h']
def DW{s:aH}{r:Rm}{t:List UInt8}(h:(cW t).2.1=0)(h' : (fU (kX s r (cW t).1)).cls=0):lK s r t=((cW t).1,if jE s (cW t).1 then lZ s (cW t).1 else .zero,.zero):=by
 rw[lK,aC (by simpa using h),aC (by simpa using h')]
def lX{G:Type}(f:G->G->Bool):List G->List G->Bool
 | [],[]=>aa
 | x::xs,y::ys=>f x y&&lX f xs ys
 | _,_=>ak
def I1:∀a b:List Nd,lX Nd.cK a b=cZ a b
 | [],[]=>by simp[lX,cZ]
 | [],_::_=>by simp[lX,cZ]
 | _::_,[]=>by simp[lX,cZ]
 | x::xs,y::ys=>by simp[lX,cZ,I1 xs ys]
def pg(a b:aA):Bool:=decide (a.an=b.an)
def I0:∀a b:List aA,lX pg a b=dy a b
 | [],[]=>rfl
 | [],_::_=>rfl
 | _::_,[]=>rfl
 | x::xs,y::ys=>by simp[lX,dy,pg,I0 xs ys]
def at_(pre us:List ar)(fin:Int)(k:Nat):ab:=⟨pre++us,((pre.length+k:Nat):Int),fin,af⟩
variable{post pre:List ar}
def nz{t:ar}{fin:Int}:(at_ pre (t::post) fin 0).bT k=decide (t.tok.kind=k):=by
 simp[at_,ab.bT,ab.ok,bz]
def Wn{fin:Int}:(at_ pre [] fin 0).bT k=false:=by
 simp[at_,ab.bT,ab.ok,bz]
def mQ{t:ar}{fin:Int}(h:t.tok.kind=k):(at_ pre (t::post) fin 0).take k=(t,at_ (pre++[t]) post fin 0):=by
 have hs:=nz (pre:=pre) (post:=post) (t:=t) (fin:=fin) (k:=k);rw[aQ h] at hs;rw[ab.take,aE hs];simp[at_]
def ry(one:Nat->ab->G × ab)(sm:G->G->Bool)(x:G)(sh:List Sh):Prop :=
 ∀toks:List Tok,toks.map Tok.sh=sh->∃us:List ar,us≠[]/\bn us=toks/\fj us /\
  ∀N,bd us<=N->∀(pre post:List ar) (fin:Int),∃y,one N (at_ pre (us++post) fin 0)=(y,at_ (pre++us) post fin 0)/\sm y x=aa
variable{toks:List Tok}
def El(h:toks.map Tok.sh=[fG t]):∃p,toks=[⟨97,t,p⟩]:=by
 match toks,h with
 | [⟨k, s, p⟩], h =>
  simp[Tok.sh,fG] at h;exact⟨p,by rw[h.1,h.2]⟩
def tH{c:UInt8}(h:toks.map Tok.sh=[bG c]):∃p,toks=[⟨(c.toNat:Nat),[c],p⟩]:=by
 match toks,h with
 | [⟨k, s, p⟩], h =>
  simp[Tok.sh,bG] at h;exact⟨p,by rw[h.1,h.2]⟩
def uR{t:Tok}(h1:closing t.kind=0)(h2:kN t.kind=ak):bn [.mk t [] t.pos]=[t]/\fj [.mk t [] t.pos]:=by
 refine⟨by simp[bn,ar.flat,h1],?_⟩;simp[fj,ar.WF,h2]
def wT(w:aA):ry (λ_=>ab.word) pg w [fG w.an]:=by
 intro toks h;obtain⟨p,rfl⟩:=El h;obtain⟨f1,f2⟩:=uR (t:=⟨97,w.an,p⟩) rfl rfl;refine⟨_,by simp,f1,f2,λN _ pre post fin=>⟨⟨w.an,p⟩,?_,by simp[pg]⟩⟩
 have:=mQ (pre:=pre) (post:=post) (t:=.mk ⟨97,w.an,p⟩ [] p) (fin:=fin) (k:=97) rfl
 simp only[mU,ab.word,this];rfl
def tG{m n:Nd}(k:m.kind=n.kind)(t:m.an=n.an)(w:dy m.aj n.aj=aa)(s:cZ m.ah n.ah=aa):m.cK n=true:=by
 rw[Nd.Ap,aQ k,aQ t,w,s];rfl
def L4{n:Nd}(hk:n.kind=k)(h:n.kr=aa):ry (λ_=>ab.leaf k) Nd.cK n [fG n.an]:=by
 intro toks ht;obtain⟨us,h1,h2,h3,h4⟩:=wT ⟨n.an,0⟩ toks ht;refine⟨us,h1,h2,h3,λN hN pre post fin=>?_⟩;obtain⟨y,e1,e2⟩:=h4 N hN pre post fin;refine⟨.mk k y.pos y.an [] [],by simp only[ab.leaf,e1],?_⟩;simp only[Nd.kr,bC,ca] at h;have hn:n.aj=[]:=jv.1 (by omega);have fP:n.ah=[]:=jv.1 (by omega);simp only[pg,ca] at e2;exact tG hk.symm e2 (show dy [] n.aj=aa by rw[hn];rfl) (show cZ [] n.ah=aa by rw[fP];simp[cZ])
def E7(post:List ar):Prop:=∀t r,post=t::r->t.tok.kind≠44
def amb{fin:Int}(h:E7 post):(at_ pre post fin 0).bT 44=false:=by
 cases post with
 | nil=>exact Wn
 | cons t r=>rw[nz];exact aM (h t r rfl)
section
variable {G:Type} {one:Nat->ab->G × ab} {sm:G->G->Bool} {S:G->List Sh}
def RH:∀(xs:List G),(∀x∈xs,ry one sm x (S x))->∀toks:List Tok,toks.map Tok.sh=(xs.map S).flatMap (λy=>bG 44::y) ->
 ∃us:List ar,bn us=toks/\fj us/\xs.length<=us.length/\∀N,bd us<=N->∀(pre post:List ar) (fin:Int) (n:Nat) (acc:List G),xs.length<=n->E7 post ->
  ∃ys,iK (cc (one N)) n (at_ pre (us++post) fin 0,acc)=(at_ (pre++us) post fin 0,acc++ys)/\lX sm ys xs=aa
 | [], _, toks, ht => by
  have:toks=[]:=by simpa using ht
  subst this;refine⟨[],rfl,trivial,by simp,λN _ pre post fin n acc _ hp=>⟨[],?_,rfl⟩⟩;cases n with
  | zero=>simp[iK]
  | succ n=>rw[iK];simp[amb hp]
 | x :: xs, h, toks, ht => by
  simp only[b8,p7] at ht;obtain⟨t1,t3,rfl,h1,h3⟩:=jd.1 ht;obtain⟨tc,t2,rfl,hc,h2⟩:=jd.1 (show t1.map Tok.sh=[bG 44]++S x from h1);obtain⟨p,rfl⟩:=tH hc;obtain⟨f1,f2⟩:=uR (t:=⟨((44:UInt8).toNat:Nat),[44],p⟩) rfl rfl;obtain⟨ux,n1,e1,w1,b1⟩:=h x (by simp) t2 h2;obtain⟨us,e2,w2,l2,b2⟩:=RH xs (λy hy=>h y (by simp[hy])) t3 h3;generalize hT:(ar.mk ⟨((44:UInt8).toNat:Nat),[44],p⟩ [] p)=T at f1 f2;have hk:T.tok.kind=44:=by rw[<-hT];rfl
  refine⟨[T]++ux++us,?_,?_,?_,?_⟩
  .rw[g_,g_,e1,e2,<-f1,<-hT]
  .rw[jO,jO];exact⟨⟨by rw[<-hT] at f2 ⊢;exact f2,w1⟩,w2⟩
  .simp only[bN,dd,eM];omega
  .intro N hN pre post fin n acc hn hp;simp only[r_] at hN;obtain⟨n,rfl⟩:∃m,n=m+1:=⟨n - 1,by simp at hn;omega⟩;obtain⟨y,q1,q2⟩:=b1 N (by omega) (pre++[T]) (us++post) fin;obtain⟨ys,q3,q4⟩:=b2 N (by omega) (pre++[T]++ux) post fin n (acc++[y]) (by simp at hn;omega) hp;refine⟨y::ys,?_,by simp[lX,q2,q4]⟩;have es:[T]++ux++us++post=T::(ux++(us++post)):=by simp
   rw[es,iK];simp only[nz,hk,bM,cD];rw[mQ hk];simp only[cc,q1];rw[show pre++([T]++ux++us)=pre++[T]++ux++us by simp,q3];simp
def WJ{x:G}{xs:List G}(h:∀y∈x::xs,ry one sm y (S y))(ht:toks.map Tok.sh=eG ((x::xs).map S)):
 ∃us:List ar,us≠[]/\bn us=toks/\fj us/\∀N,bd us<=N->∀(pre post:List ar) (fin:Int),E7 post ->
  ∃ys,dS (cc (one N)) (at_ pre (us++post) fin 0)=(at_ (pre++us) post fin 0,ys)/\lX sm ys (x::xs)=true:=by
 simp only[b8,eG] at ht;obtain⟨t1,t2,rfl,h1,h2⟩:=jd.1 ht;obtain⟨ux,n1,e1,w1,b1⟩:=h x (by simp) t1 h1;obtain⟨us,e2,w2,l2,b2⟩:=RH xs (λy hy=>h y (by simp[hy])) t2 h2;refine⟨ux++us,by simp[n1],by rw[g_,e1,e2],by rw[jO];exact⟨w1,w2⟩,λN hN pre post fin hp=>?_⟩;rw[r_] at hN;obtain⟨y,q1,q2⟩:=b1 N (by omega) pre (us++post) fin;obtain⟨ys,q3,q4⟩:=b2 N (by omega) (pre++ux) post fin (at_ pre (ux++us++post) fin 0).l.length [y] (by simp[at_];omega) hp;refine⟨y::ys,?_,by simp[lX,q2,q4]⟩;unfold dS;simp only[cc,eB] at q1 q3 ⊢;rw[q1];simp only[gd];rw[q3];simp
def aqL{a:UInt8}(h:closing (a.toNat:Nat)=(b.toNat:Nat)):[UInt8.ofNat (closing (a.toNat:Nat)).toNat]=[b]:=by rw[h];simp
def Ja{a:UInt8}{xs:List G}(xB:closing (a.toNat:Nat)=(b.toNat:Nat))(Dd:(b.toNat:Int)≠0)(hca:kN (a.toNat:Nat)=ak)(h:∀y∈xs,ry one sm y (S y))(he:xs=[]->e=aa)
 (ht:toks.map Tok.sh=[bG a]++eG (xs.map S)++[bG b]) :
 ∃T:ar,bn [T]=toks/\fj [T]/\T.tok.kind=(a.toNat:Nat)/\∀N,bd [T]<=N+1->∀(pre post:List ar) (fin:Int),
  ∃ys p,(at_ pre (T::post) fin 0).bracket (cc (one N)) (a.toNat:Nat) e=((ys,p),at_ (pre++[T]) post fin 0)/\lX sm ys xs=true:=by
 obtain⟨t1,t3,rfl,h1,h3⟩:=jd.1 ht;obtain⟨ta,t2,rfl,ha,h2⟩:=jd.1 h1;obtain⟨pa,rfl⟩:=tH ha;obtain⟨pb,rfl⟩:=tH h3;have Sk:closing (a.toNat:Nat)≠0:=by rw[xB];exact Dd
 have key:∃us:List ar,bn us=t2/\fj us/\∀N,bd us<=N->∀(T:ar),T.ah=us->∃ys,ab.inside (cc (one N)) e T=(at_ us [] T.fin 0,ys)/\lX sm ys xs=true:=by
  cases xs with
  | nil =>
   have:t2=[]:=by simpa [eG] using h2
   subst this;refine⟨[],rfl,trivial,λN _ T hT=>⟨[],?_,rfl⟩⟩;rw[ab.inside,aE ⟨he rfl,by rw[hT];rfl⟩];simp[ar.inner,at_,hT]
  | cons x xs =>
   obtain⟨us,n1,e1,w1,b1⟩:=WJ h h2;refine⟨us,e1,w1,λN hN T hT=>?_⟩;obtain⟨ys,q1,q2⟩:=b1 N hN [] [] T.fin (λt r h=>by simp at h);refine⟨ys,?_,q2⟩;rw[ab.inside,aC (λh=>n1 (by rw[<-hT];exact jv.1 h.2))]
   have:T.inner=at_ [] (us++[]) T.fin 0:=by simp[ar.inner,at_,hT]
   rw[this,q1];simp
 obtain⟨us,e1,w1,b1⟩:=key;refine⟨.mk ⟨(a.toNat:Nat),[a],pa⟩ us pb,?_,?_,rfl,?_⟩
 .simp only[bn,ar.flat,eD];rw[aE Sk,e1,aqL xB,xB];simp
 .simp only[fj,ar.WF];exact⟨⟨hca,λh=>absurd h Sk,w1⟩,trivial⟩
 .intro N hN pre post fin;obtain⟨ys,q1,q2⟩:=b1 N (by simp only[bd,ar.many] at hN;omega) (.mk ⟨(a.toNat:Nat),[a],pa⟩ us pb) rfl;refine⟨ys,pa,?_,q2⟩;unfold ab.bracket;rw[mQ (t:=.mk ⟨(a.toNat:Nat),[a],pa⟩ us pb) (k:=(a.toNat:Nat)) rfl];simp only[q1];have b_:(at_ (pre++[ar.mk ⟨(a.toNat:Nat),[a],pa⟩ us pb]) post fin 0).ok=true:=rfl;rw[aE b_];have gK:(at_ us [] pb 0).close=at_ us [] pb 0:=by unfold ab.close;rw[aC];simp[at_]
  simp only[ab.under,ar.fin,gK,ar.tok];rfl
end
def aiu{s:Sh}{r:List Sh}(h0:us≠[])(h:(bn us).map Tok.sh=s::r):∃t ts,us=t::ts/\t.tok.kind=s.1:=by
 cases us with
 | nil=>exact absurd rfl h0
 | cons t ts =>
  refine⟨t,ts,rfl,?_⟩;have e:bn (t::ts)=bn [t]++bn ts:=g_ [t] ts;rw[e,F4] at h;simp only[gI,b8,gz] at h;rw[<-h.1];rfl
def yo{fin:Int}{s:Sh}{r:List Sh}(h0:us≠[])(hf:bn us=toks)(h:toks.map Tok.sh=s::r):(at_ pre (us++post) fin 0).bT k=decide (s.1=k):=by
 obtain⟨t,ts,rfl,hk⟩:=aiu h0 (by rw[hf];exact h);rw[gI,nz,hk]
def zZ(h:us≠[]):1<=bd us:=by
 cases us with
 | nil=>exact absurd rfl h
 | cons t ts=>simp only[bd];omega
def B1{c:UInt8}(h:(decide (closing (c.toNat:Nat)=0)&&!kN (c.toNat:Nat))=aa)(ht:toks.map Tok.sh=[bG c]):∃T:ar,bn [T]=toks/\fj [T]/\T.tok.kind=(c.toNat:Nat):=by
 simp only[bC,ca,tR] at h;obtain⟨p,rfl⟩:=tH ht;obtain⟨f1,f2⟩:=uR (t:=⟨(c.toNat:Nat),[c],p⟩) h.1 h.2;exact⟨_,f1,f2,rfl⟩
def Xr(ht:toks.map Tok.sh=[bG 123]++lg ws++[bG 125]):
 ∃T:ar,bn [T]=toks/\fj [T]/\T.tok.kind=123/\∀(pre post:List ar) (fin:Int),∃ys p,(at_ pre (T::post) fin 0).words aa=((ys,p),at_ (pre++[T]) post fin 0)/\dy ys ws=true:=by
 obtain⟨T,h1,h2,h3,h4⟩:=Ja (one:=λ_=>ab.word) (sm:=pg) (S:=λw=>[fG w.an]) (a:=123) (b:=125) (e:=true) (xs:=ws) (by decide) (by decide) (by decide) (λw _=>wT w) (λ_=>rfl) ht;refine⟨T,h1,h2,h3,λpre post fin=>?_⟩;obtain⟨ys,p,q1,q2⟩:=h4 (bd [T]) (by omega) pre post fin;rw[I0] at q2;exact⟨ys,p,q1,q2⟩
def Hs{one:Nat->ab->Nd × ab}{a:UInt8}(xB:(decide (closing (a.toNat:Nat)=(b.toNat:Nat))&&decide ((b.toNat:Int)≠0)&&!kN (a.toNat:Nat))=aa)(h:∀y∈ks,ry one Nd.cK y y.gn)(he:ks=[]->e=aa)
 (ht:toks.map Tok.sh=[bG a]++eG (gp ks)++[bG b]) :
 ∃T:ar,bn [T]=toks/\fj [T]/\T.tok.kind=(a.toNat:Nat)/\∀N,bd [T]<=N+1->∀(pre post:List ar) (fin:Int),
  ∃ys p,(at_ pre (T::post) fin 0).nodes (one N) (a.toNat:Nat) e=((ys,p),at_ (pre++[T]) post fin 0)/\cZ ys ks=true:=by
 simp only[bC,ca,tR] at xB;rw[En] at ht;obtain⟨T,h1,h2,h3,h4⟩:=Ja (one:=one) (sm:=Nd.cK) (S:=Nd.gn) (e:=e) xB.1.1 xB.1.2 xB.2 h he ht;refine⟨T,h1,h2,h3,λN hN pre post fin=>?_⟩;obtain⟨ys,p,q1,q2⟩:=h4 N hN pre post fin;rw[I1] at q2;exact⟨ys,p,q1,q2⟩
def apQ{n:Nd}(h:n.pd=aa):ry (λ_=>ab.nw) Nd.cK n n.gn:=by
 obtain⟨k,h1,h2,h3⟩:=VV h;intro toks ht;have e:n.gn=[fG n.an]++[bG 58]++([bG 123]++lg n.aj++[bG 125]):=by rw[Nd.ka,k];rfl
 rw[e] at ht;obtain⟨t1,t3,rfl,a1,a3⟩:=jd.1 ht;obtain⟨tw,tc,rfl,aw,ac⟩:=jd.1 a1;obtain⟨uw,n1,f1,w1,b1⟩:=wT ⟨n.an,0⟩ tw aw;obtain⟨C,f2,w2,c2⟩:=B1 (by decide) ac;obtain⟨T,f3,w3,c3,b3⟩:=Xr a3;refine⟨uw++[C]++[T],by simp,by rw[g_,g_,f1,f2,f3],by rw[jO,jO];exact⟨⟨w1,w2⟩,w3⟩,λN hN pre post fin=>?_⟩;obtain⟨y,q1,q2⟩:=b1 (bd uw) (bP _) pre ([C]++[T]++post) fin;obtain⟨ys,p,q3,q4⟩:=b3 (pre++uw++[C]) post fin;have q5:=mQ (pre:=pre++uw) (post:=[T]++post) (t:=C) (fin:=fin) (k:=58) c2;refine⟨.mk 6 y.pos y.an ys [],?_,?_⟩
 .have es:uw++[C]++[T]++post=uw++([C]++[T]++post):=by simp
  have tB : (at_ pre (uw++([C]++[T]++post)) fin 0).word=(y,at_ (pre++uw) ([C]++[T]++post) fin 0):=q1;have M4 : (at_ (pre++uw) ([C]++[T]++post) fin 0).take 58=(C,at_ (pre++uw++[C]) (T::post) fin 0):=q5;simp only[es,ab.nw,tB,M4,q3];simp
 .simp only[pg,ca] at q2;exact tG k.symm q2 q4 (show cZ [] n.ah=aa by rw[h3];simp[cZ])
def aa8:∀(k:Nat) (n:Nd),n.wt<=k->n.im=aa->ry ab.constant Nd.cK n n.gn:=by
 intro k;induction k with
 | zero=>intro n h _;cases n;simp only[Nd.wt] at h;omega
 | succ k ih =>
  intro n hk h toks ht
  rcases Qu h with ⟨h1,h2⟩ | ⟨h1,h2,h3,h4⟩ | ⟨h1,h2,h3,h4,h5⟩ | ⟨h1,h2,h3,h4⟩
  .have e:n.gn=[fG n.an]:=by rw[Nd.ka,h1];rfl
   rw[e] at ht;obtain⟨us,n1,f1,w1,b1⟩:=L4 h1 h2 toks ht;refine⟨us,n1,f1,w1,λN hN pre post fin=>?_⟩;have hp:=zZ n1;obtain⟨N,rfl⟩:∃m,N=m+1:=⟨N - 1,by omega⟩;obtain⟨y,q1,q2⟩:=b1 _ hN pre post fin;refine⟨y,?_,q2⟩;have s1:=yo (pre:=pre) (post:=post) (fin:=fin) (k:=123) n1 f1 ht;have s2:=yo (pre:=pre) (post:=post) (fin:=fin) (k:=40) n1 f1 ht;have s3:=yo (pre:=pre) (post:=post) (fin:=fin) (k:=91) n1 f1 ht;rw[ab.constant,s1,s2,s3];exact q1
  .have e:n.gn=[bG 123]++lg n.aj++[bG 125]:=by rw[Nd.ka,h1];rfl
   rw[e] at ht;obtain⟨T,f1,w1,c1,b1⟩:=Xr ht;refine⟨[T],by simp,f1,w1,λN hN pre post fin=>?_⟩;have hp:=zZ (us:=[T]) (by simp);obtain⟨N,rfl⟩:∃m,N=m+1:=⟨N - 1,by omega⟩;obtain⟨ys,p,q1,q2⟩:=b1 pre post fin;refine⟨.mk 3 p [] ys [],?_,tG h1.symm h2.symm q2 (show cZ [] n.ah=aa by rw[h4];simp[cZ])⟩;rw[mU,ab.constant,aE (by rw[nz,c1];rfl),q1]
  .have e:n.gn=[bG 40]++eG (gp n.ah)++[bG 41]:=by rw[Nd.ka,h1];rfl
   rw[e] at ht;obtain⟨T,f1,w1,c1,b1⟩:=Hs (one:=ab.constant) (e:=false) (by decide) (λm hm=>ih m (by have:=G4 hm;omega) (h5 m hm)) (λh=>absurd h h4) ht;refine⟨[T],by simp,f1,w1,λN hN pre post fin=>?_⟩;have hp:=zZ (us:=[T]) (by simp);obtain⟨N,rfl⟩:∃m,N=m+1:=⟨N - 1,by omega⟩;obtain⟨ys,p,q1,q2⟩:=b1 N hN pre post fin;refine⟨.mk 4 p [] [] ys,?_,tG h1.symm h2.symm (show dy [] n.aj=aa by rw[h3];rfl) q2⟩;have tB : (at_ pre (T::post) fin 0).nodes (ab.constant N) 40 ak=((ys,p),at_ (pre++[T]) post fin 0):=q1;rw[mU,ab.constant,aC (by rw[nz,c1];decide),aE (by rw[nz,c1];rfl),tB]
  .have e:n.gn=[bG 91]++eG (gp n.ah)++[bG 93]:=by rw[Nd.ka,h1];rfl
   rw[e] at ht;obtain⟨T,f1,w1,c1,b1⟩:=Hs (one:=λ_=>ab.nw) (e:=true) (by decide) (λm hm=>apQ (h4 m hm)) (λ_=>rfl) ht;refine⟨[T],by simp,f1,w1,λN hN pre post fin=>?_⟩;have hp:=zZ (us:=[T]) (by simp);obtain⟨N,rfl⟩:∃m,N=m+1:=⟨N - 1,by omega⟩;obtain⟨ys,p,q1,q2⟩:=b1 N hN pre post fin;refine⟨.mk 5 p [] [] ys,?_,tG h1.symm h2.symm (show dy [] n.aj=aa by rw[h3];rfl) q2⟩;have tB : (at_ pre (T::post) fin 0).nodes ab.nw 91 aa=((ys,p),at_ (pre++[T]) post fin 0):=q1;rw[mU,ab.constant,aC (by rw[nz,c1];decide),aC (by rw[nz,c1];decide),aE (by rw[nz,c1];rfl),tB]
def PH{n:Nd}(h:n.eY=aa)(hk:n.kind=1\/n.kind=7):ry ab.atom Nd.cK n n.gn:=by
 intro toks ht
 rcases DS h with ⟨h1,h2⟩ | ⟨h1,h2,h3,c,h4,h5⟩ | ⟨h1,_⟩
 .have e:n.gn=[fG n.an]:=by rw[Nd.ka,h1];rfl
  rw[e] at ht;obtain⟨us,n1,f1,w1,b1⟩:=L4 h1 h2 toks ht;refine⟨us,n1,f1,w1,λN hN pre post fin=>?_⟩;obtain⟨y,q1,q2⟩:=b1 _ hN pre post fin;refine⟨y,?_,q2⟩;have s1:=yo (pre:=pre) (post:=post) (fin:=fin) (k:=35) n1 f1 ht;rw[ab.atom,s1];exact q1
 .have e:n.gn=[bG 35]++c.gn:=by rw[Nd.ka,h1,h4];rfl
  rw[e] at ht;obtain⟨t1,t2,rfl,a1,a2⟩:=jd.1 ht;obtain⟨C,f2,w2,c2⟩:=B1 (by decide) a1;obtain⟨us,n1,f1,w1,b1⟩:=aa8 _ c (bP _) h5 t2 a2;refine⟨[C]++us,by simp,by rw[g_,f1,f2],by rw[jO];exact⟨w2,w1⟩,λN hN pre post fin=>?_⟩;rw[r_] at hN;obtain⟨y,q1,q2⟩:=b1 N (by omega) (pre++[C]) post fin;have q5:=mQ (pre:=pre) (post:=us++post) (t:=C) (fin:=fin) (k:=35) c2;refine⟨.mk 7 C.tok.pos [] [] [y],?_,tG h1.symm h2.symm (show dy [] n.aj=aa by rw[h3];rfl) (show cZ [y] n.ah=aa by rw[h4];simp[cZ,q2])⟩;rw[eB,mU,ab.atom,aE (by rw[nz,c2];rfl),q5];simp only[q1];simp
 .omega
def aj1:∀(k:Nat) (n:Nd),n.wt<=k->n.eY=aa->ry ab.label Nd.cK n n.gn:=by
 intro k;induction k with
 | zero=>intro n h _;cases n;simp only[Nd.wt] at h;omega
 | succ k ih =>
  intro n hk h toks ht
  by_cases fu:n.kind=1\/n.kind=7
  .obtain⟨us,n1,f1,w1,b1⟩:=PH h fu toks ht;refine⟨us,n1,f1,w1,λN hN pre post fin=>?_⟩;have hp:=zZ n1;obtain⟨N,rfl⟩:∃m,N=m+1:=⟨N - 1,by omega⟩;obtain⟨y,q1,q2⟩:=b1 _ hN pre post fin;refine⟨y,?_,q2⟩;obtain⟨s,r,hs,vQ,xz⟩:∃s r,toks.map Tok.sh=s::r/\s.1≠43/\s.1≠38:=by
    rw[ht,Nd.ka]
    rcases fu with e | e<;>rw[e]
    .exact⟨_,_,rfl,(by decide:(97:Int)≠43),(by decide:(97:Int)≠38)⟩
    .exact⟨_,_,rfl,(by decide:(35:Int)≠43),(by decide:(35:Int)≠38)⟩
   have s1:=yo (pre:=pre) (post:=post) (fin:=fin) (k:=43) n1 f1 hs;have s2:=yo (pre:=pre) (post:=post) (fin:=fin) (k:=38) n1 f1 hs;rw[aM vQ] at s1;rw[aM xz] at s2;rw[ab.label,s1,s2];exact q1
  .rcases DS h with ⟨h1,_⟩ | ⟨h1,_⟩ | ⟨h1,h2,h3,h4,h5⟩
   .omega
   .omega
   have rP:=λm hm=>ih m (by have:=G4 hm;omega) (h5 m hm)
   rcases h1 with h1 | h1
   .have e:n.gn=[bG 43]++([bG 40]++eG (gp n.ah)++[bG 41]):=by rw[Nd.ka,h1];rfl
    rw[e] at ht;obtain⟨t1,t2,rfl,a1,a2⟩:=jd.1 ht;obtain⟨C,f2,w2,c2⟩:=B1 (by decide) a1;obtain⟨T,f1,w1,c1,b1⟩:=Hs (one:=ab.label) (e:=false) (by decide) rP (λh=>absurd h h4) a2;refine⟨[C]++[T],by simp,by rw[g_,f1,f2],by rw[jO];exact⟨w2,w1⟩,λN hN pre post fin=>?_⟩;rw[r_] at hN;have hp:=zZ (us:=[C]) (by simp);obtain⟨N,rfl⟩:∃m,N=m+1:=⟨N - 1,by omega⟩;obtain⟨ys,p,q1,q2⟩:=b1 N (by omega) (pre++[C]) post fin;have q5:=mQ (pre:=pre) (post:=T::post) (t:=C) (fin:=fin) (k:=43) c2;refine⟨.mk 8 C.tok.pos [] [] ys,?_,tG h1.symm h2.symm (show dy [] n.aj=aa by rw[h3];rfl) q2⟩;have tB : (at_ (pre++[C]) (T::post) fin 0).nodes (ab.label N) 40 ak=((ys,p),at_ (pre++[C]++[T]) post fin 0):=q1;rw[eB,mU,mU,ab.label,aE (by rw[nz,c2];rfl),q5];simp only[tB];simp
   .have e:n.gn=[bG 38]++([bG 40]++eG (gp n.ah)++[bG 41]):=by rw[Nd.ka,h1];rfl
    rw[e] at ht;obtain⟨t1,t2,rfl,a1,a2⟩:=jd.1 ht;obtain⟨C,f2,w2,c2⟩:=B1 (by decide) a1;obtain⟨T,f1,w1,c1,b1⟩:=Hs (one:=ab.label) (e:=false) (by decide) rP (λh=>absurd h h4) a2;refine⟨[C]++[T],by simp,by rw[g_,f1,f2],by rw[jO];exact⟨w2,w1⟩,λN hN pre post fin=>?_⟩;rw[r_] at hN;have hp:=zZ (us:=[C]) (by simp);obtain⟨N,rfl⟩:∃m,N=m+1:=⟨N - 1,by omega⟩;obtain⟨ys,p,q1,q2⟩:=b1 N (by omega) (pre++[C]) post fin;have q5:=mQ (pre:=pre) (post:=T::post) (t:=C) (fin:=fin) (k:=38) c2;refine⟨.mk 9 C.tok.pos [] [] ys,?_,tG h1.symm h2.symm (show dy [] n.aj=aa by rw[h3];rfl) q2⟩;have tB : (at_ (pre++[C]) (T::post) fin 0).nodes (ab.label N) 40 ak=((ys,p),at_ (pre++[C]++[T]) post fin 0):=q1;rw[eB,mU,mU,ab.label,aC (by rw[nz,c2];decide),aE (by rw[nz,c2];rfl),q5];simp only[tB];simp
def adS{n:Nd}(h:n.ly=aa):ry ab.field Nd.cK n n.gn:=by
 obtain⟨k,h1,h2,c,h3,h4⟩:=FZ h;intro toks ht;have e:n.gn=[fG n.an]++[bG 61]++c.gn:=by rw[Nd.ka,k,h3];rfl
 rw[e] at ht;obtain⟨t1,t3,rfl,a1,a3⟩:=jd.1 ht;obtain⟨tw,tc,rfl,aw,ac⟩:=jd.1 a1;obtain⟨uw,n1,f1,w1,b1⟩:=wT ⟨n.an,0⟩ tw aw;obtain⟨C,f2,w2,c2⟩:=B1 (by decide) ac;have hc:c.kind=1\/c.kind=7:=by simp only[Nd.po,bC,mn,ca] at h4;exact h4.1
 obtain⟨ua,n3,f3,w3,b3⟩:=PH (Fu h4) hc t3 a3;refine⟨uw++[C]++ua,by simp,by rw[g_,g_,f1,f2,f3],by rw[jO,jO];exact⟨⟨w1,w2⟩,w3⟩,λN hN pre post fin=>?_⟩;rw[r_] at hN;obtain⟨y,q1,q2⟩:=b1 (bd uw) (bP _) pre ([C]++ua++post) fin;obtain⟨z,q3,q4⟩:=b3 N (by omega) (pre++uw++[C]) post fin;have q5:=mQ (pre:=pre++uw) (post:=ua++post) (t:=C) (fin:=fin) (k:=61) c2;refine⟨.mk 11 y.pos y.an [] [z],?_,?_⟩
 .have es:uw++[C]++ua++post=uw++([C]++ua++post):=by simp
  have tB : (at_ pre (uw++([C]++ua++post)) fin 0).word=(y,at_ (pre++uw) ([C]++ua++post) fin 0):=q1;have M4 : (at_ (pre++uw) ([C]++ua++post) fin 0).take 61=(C,at_ (pre++uw++[C]) (ua++post) fin 0):=q5;simp only[es,ab.field,tB,M4,q3];simp
 .simp only[pg,ca] at q2;exact tG k.symm q2 (show dy [] n.aj=aa by rw[h2];rfl) (show cZ [z] n.ah=aa by rw[h3];simp[cZ,q4])
def Lu(T:ar):T.inner=at_ [] T.ah T.fin 0:=by simp[ar.inner,at_]
def aaQ{fin:Int}:(at_ us [] fin 0).close=at_ us [] fin 0:=by unfold ab.close;rw[aC];simp[at_]
def adU{n:Nd}(h:n.ly=aa):∃r,n.gn=fG n.an::r:=by
 obtain⟨k,_,_,c,h3,_⟩:=FZ h;exact⟨[bG 61]++c.gn,by rw[Nd.ka,k,h3];rfl⟩
def apE{n:Nd}(hn:n.aj=[]\/∃w,n.aj=[w]/\dG w.an=aa)(hf:∀x∈n.ah,x.ly=aa)
 (ht:toks.map Tok.sh=eG (gp n.ah)++(if 0<n.aj.length then [bG 124]++lg n.aj else [])) :
 ∃us:List ar,bn us=toks/\fj us/\∀N,bd us<=N->∀T:ar,T.ah=us->∃ws ks,ab.rowOf N T=((at_ us [] T.fin 0,ks),ws)/\dy ws n.aj=aa/\cZ ks n.ah=true:=by
 obtain⟨t1,t2,rfl,a1,a2⟩:=jd.1 ht;have Uo:(n.aj=[]/\t2=[])\/(∃w C uw,n.aj=[w]/\uw≠[]/\bn ([C]++uw)=t2/\fj ([C]++uw)/\C.tok.kind=124/\∀(pre post:List ar) (fin:Int),∃y,(at_ pre (uw++post) fin 0).word=(y,at_ (pre++uw) post fin 0)/\pg y w=aa):=by
  rcases hn with hn | ⟨w,hn,hw⟩
  .left;rw[hn] at a2;exact⟨hn,by simpa using a2⟩
  .right;have e:(if 0<n.aj.length then [bG 124]++lg n.aj else [])=[bG 124]++[fG w.an]:=by rw[hn];simp[lg,eG]
   rw[e] at a2;obtain⟨tc,tw,rfl,ac,aw⟩:=jd.1 a2;obtain⟨C,f2,w2,c2⟩:=B1 (by decide) ac;obtain⟨uw,n1,f1,w1,b1⟩:=wT w tw aw;exact⟨w,C,uw,hn,n1,by rw[g_,f1,f2],by rw[jO];exact⟨w2,w1⟩,c2,λpre post fin=>b1 _ (bP _) pre post fin⟩
 have tail:∀(pre:List ar) (lT : List ar) (fin:Int) (ks:List Nd),(n.aj=[]/\lT = []\/∃w C uw,n.aj=[w]/\lT = [C]++uw/\C.tok.kind=124/\∀(pre post:List ar) (fin:Int),∃y,(at_ pre (uw++post) fin 0).word=(y,at_ (pre++uw) post fin 0)/\pg y w=aa) ->
  ∃ws,(if (at_ pre lT fin 0).bT 124=aa then(((((at_ pre lT fin 0).take 124).2.word.2,ks),[((at_ pre lT fin 0).take 124).2.word.1]):(ab × List Nd) × List aA) else((at_ pre lT fin 0,ks),[]))=((at_ (pre++lT) [] fin 0,ks),ws)/\dy ws n.aj=true:=by
  intro pre lT fin ks h
  rcases h with ⟨h1,rfl⟩ | ⟨w,C,uw,h1,rfl,h3,h4⟩
  .rw[Wn];exact⟨[],by simp,by rw[h1];rfl⟩
  .obtain⟨y,q1,q2⟩:=h4 (pre++[C]) [] fin;rw[eD] at q1;refine⟨[y],?_,by rw[h1];simpa [dy,pg] using q2⟩;rw[mU,nz,h3,aE (by decide),mQ h3,q1];simp
 cases hk:n.ah with
 | nil =>
  rw[hk] at a1
  have:t1=[]:=by simpa [gp,eG] using a1
  subst this
  rcases Uo with ⟨h1,rfl⟩ | ⟨w,C,uw,h1,h0,h2,h3,h4,h5⟩
  .refine⟨[],rfl,trivial,λN _ T hT=>⟨[],[],?_,by rw[h1];rfl,by simp[cZ]⟩⟩;rw[ab.rowOf,aE (by rw[hT];rfl),Lu,hT]
  .refine⟨[C]++uw,by simpa using h2,h3,λN _ T hT=>?_⟩;obtain⟨ws,q1,q2⟩:=tail [] ([C]++uw) T.fin [] (.inr ⟨w,C,uw,h1,rfl,h4,h5⟩);refine⟨ws,[],?_,q2,by simp[cZ]⟩;rw[ab.rowOf,aC (by rw[hT];simp),Lu,hT,ab.mK];have hs:(at_ [] ([C]++uw) T.fin 0).bT 124=true:=by rw[mU,nz,h4];rfl
   simp only[hs,cD] at q1 ⊢;rw[q1];simp
 | cons x xs =>
  rw[hk,En] at a1;obtain⟨us,n1,f1,w1,b1⟩:=WJ (one:=ab.field) (sm:=Nd.cK) (S:=Nd.gn) (x:=x) (xs:=xs) (λy hy=>adS (hf y (by rw[hk];exact hy))) a1;obtain⟨r,hr⟩:=adU (hf x (by rw[hk];simp));have aiC:t1.map Tok.sh=fG x.an::(r++(xs.map Nd.gn).flatMap λy=>bG 44::y):=by rw[a1];simp[eG,hr]
  have go:∀(lT : List ar),E7 lT -> (n.aj=[]/\lT = []\/∃w C uw,n.aj=[w]/\lT = [C]++uw/\C.tok.kind=124/\∀(pre post:List ar) (fin:Int),∃y,(at_ pre (uw++post) fin 0).word=(y,at_ (pre++uw) post fin 0)/\pg y w=aa) ->
   ∀N,bd (us++lT)<=N->∀T:ar,T.ah=us++lT -> ∃ws ks,ab.rowOf N T=((at_ (us++lT) [] T.fin 0,ks),ws)/\dy ws n.aj=aa/\cZ ks (x::xs)=true:=by
   intro lT v7 hq N hN T hT;rw[r_] at hN;obtain⟨ks,q1,q2⟩:=b1 N (by omega) [] lT T.fin v7;obtain⟨ws,q3,q4⟩:=tail us lT T.fin ks hq;rw[I1] at q2;refine⟨ws,ks,?_,q4,q2⟩;rw[ab.rowOf,aC (by rw[hT];intro h;rw[bN] at h;exact n1 (jv.1 (by omega))),Lu,hT,ab.mK];have hs:(at_ [] (us++lT) T.fin 0).bT 124=false:=by rw[yo n1 f1 aiC];rfl
   rw[gd] at q1;simp only[hs,dm,cn,q1];exact q3
  rcases Uo with ⟨h1,rfl⟩ | ⟨w,C,uw,h1,h0,h2,h3,h4,h5⟩
  .refine⟨us++[],by simpa using f1,by simpa using w1,go [] (λt r h=>by simp at h) (.inl ⟨h1,rfl⟩)⟩
  .refine⟨us++([C]++uw),by rw[g_,f1,h2],by rw[jO];exact⟨w1,h3⟩,go ([C]++uw) (λt r h=>?_) (.inr ⟨w,C,uw,h1,rfl,h4,h5⟩)⟩;simp only[mU,gz] at h;rw[<-h.1,h4];decide
def apI{n:Nd}(h:n.iX=aa):ry ab.row Nd.cK n n.gn:=by
 intro toks ht
 rcases Eh h with ⟨k,h2,hn,hf⟩ | ⟨k,h⟩
 .have e:n.gn=[bG 91]++(eG (gp n.ah)++(if 0<n.aj.length then [bG 124]++lg n.aj else []))++[bG 93]:=by rw[Nd.ka,k];rfl
  rw[e] at ht;obtain⟨t1,t3,rfl,h1,h3⟩:=jd.1 ht;obtain⟨ta,t2,rfl,ha,eJ⟩:=jd.1 h1;obtain⟨pa,rfl⟩:=tH ha;obtain⟨pb,rfl⟩:=tH h3;obtain⟨us,f1,w1,b1⟩:=apE hn hf eJ;generalize hT:ar.mk ⟨((91:UInt8).toNat:Nat),[91],pa⟩ us pb=T;have Sb:T.tok.kind=91:=by rw[<-hT];rfl
  have Sc:T.ah=us:=by rw[<-hT];rfl
  have hTm:bd [T]=1+bd us:=by simp only[bd,Mn,Sc];omega
  refine⟨[T],by simp,?_,?_,λN hN pre post fin=>?_⟩
  .rw[<-hT];have hc:closing ((91:UInt8).toNat:Nat)≠0:=by decide
   simp only[bn,ar.flat,eD];rw[aE hc,f1];simp;decide +kernel
  .rw[<-hT];simp only[fj,ar.WF];exact⟨⟨rfl,λh=>absurd h (by decide),w1⟩,trivial⟩
  .obtain⟨ws,ks,q1,q2,q3⟩:=b1 N (by omega) T Sc;refine⟨.mk 10 T.tok.pos [] ws ks,?_,tG k.symm h2.symm q2 q3⟩;have q5:=mQ (pre:=pre) (post:=post) (t:=T) (fin:=fin) (k:=91) Sb;rw[mU,ab.row,aE (by rw[nz,Sb];rfl),q5];simp only[q1,ab.under,aaQ];rfl
 .have e:n.gn=[fG n.an]:=by rw[Nd.ka,k];rfl
  have hl:n.kr=true:=by
   rcases DS h with ⟨_,h2⟩ | ⟨h1,_⟩ | ⟨h1,_⟩
   .exact h2
   .omega
   .omega
  rw[e] at ht;obtain⟨us,n1,f1,w1,b1⟩:=L4 k hl toks ht;refine⟨us,n1,f1,w1,λN hN pre post fin=>?_⟩;obtain⟨y,q1,q2⟩:=b1 _ hN pre post fin;refine⟨y,?_,q2⟩;have s1:=yo (pre:=pre) (post:=post) (fin:=fin) (k:=91) n1 f1 ht;rw[ab.row,s1];exact q1
def wB(p:aA × aA):List Sh:=[fG p.1.an]++[bG 60]++[fG p.2.an]
def Af(k:UInt8)(c:aq)(n:Nd):List Sh :=
 if k=110 then [fG c.name.an]
 else if k=102 then lg c.aj
 else if k=119 then [bG 123]++lg c.aj++[bG 125]
 else if k=112 then [bG 123]++eG (c.bm.map wB)++[bG 125]
 else n.gn
def lJ:List UInt8->List Nd->List (UInt8 × Nd)
 | [],_=>[]
 | k::ks,ts=>(k,ts.headD .zero)::lJ ks (if isTerm k=aa then ts.tail else ts)
def U8(c:aq):∀(ks:List UInt8) (x:List (List UInt8) × List Nd),(ks.foldl (yz c) x).1=x.1++(lJ ks x.2).map λq=>mf q.1 c q.2
 | [],x=>by simp[lJ]
 | k :: ks, x => by
  rw[yL,U8 c ks];simp[yz,lJ]
def Em(c:aq):List Sh:=[fG (cp c.op).1]++((lJ (cp c.op).2 [c.left,c.right]).map λq=>Af q.1 c q.2).flatten
def H5(c:aq):eb c=(cp c.op).1++((lJ (cp c.op).2 [c.left,c.right]).map λq=>mf q.1 c q.2).flatMap λy=>[32]++y:=by
 rw[eb,kB,U8];rfl
def TM{ks:List Sh}(h:lV s ks):lV ([32]++s) ks:=by
 intro n p acc hn
 rcases n with _ | n
 .simp at hn
 obtain⟨toks,e1,e2⟩:=h n (p+1) acc (by simpa using hn);refine⟨toks,?_,e2⟩;rw[mU,fe,aC (λh=>by have:=h.1;revert this;decide),HR (by decide),aC (by simp),aC (by decide),aE (.inl (by decide)),e1]
def TJ{G:Type}{T:G->List UInt8}{S:G->List Sh}:∀{l:List G},(∀x∈l,jL (T x) (S x))->Stop ((l.map T).flatMap λy=>[32]++y)/\lV ((l.map T).flatMap λy=>[32]++y) ((l.map S).flatten)
 | [],_=>⟨trivial,lex_nil⟩
 | x :: xs, h => by
  obtain⟨h1,h2⟩:=TJ (l:=xs) λy hy=>h y (by simp[hy])
  simp only[b8,p7,kH,eB];exact⟨show gF 32=ak by decide,TM (h x (by simp) _ _ h1 h2)⟩
def akF{p:aA × aA}(h:np p=aa):jL (jH p) (wB p):=by
 simp only[np,bC] at h;exact(jL.sign (wv h.1) (by decide)).nn (wv h.2)
def akG{ps:List (aA × aA)}(h:ps.all np=aa):qy (ui (ps.map jH)) ([bG 123]++eG (ps.map wB)++[bG 125]) :=
 jL.sign ((uW 123 (by decide)).nn (Hf (T:=jH) (S:=wB) λp hp=>akF (ln.1 h p hp))) (by decide)
def alU(h:o6 (ws.map aA.an)=aa):hZ ws=true:=by
 simp only[o6,List.all_map] at h;exact h
def yS(k:UInt8)(c:aq)(n:Nd):Prop :=
 (k=110/\dG c.name.an=aa)\/(k=102/\c.aj.length=1/\hZ c.aj=aa)\/(k=119/\0<c.aj.length/\hZ c.aj=aa)\/(k=112/\c.bm.all np=aa)\/(k=116/\n.eY=aa)\/(k=114/\n.iX=aa)
def U6{k:UInt8}{n:Nd}(h:yS k c n):jL (mf k c n) (Af k c n):=by
 rcases h with ⟨rfl,h⟩ | ⟨rfl,_,h⟩ | ⟨rfl,_,h⟩ | ⟨rfl,h⟩ | ⟨rfl,h⟩ | ⟨rfl,h⟩
 .exact wv h
 .exact Ma h
 .exact(L_ h).n
 .exact(akG h).n
 .exact Mm _ n (bP _) h
 .exact alz h
def W3(h0:dG (cp c.op).1=aa)(h:∀q∈lJ (cp c.op).2 [c.left,c.right],yS q.1 c q.2):(dR (eb c)).2=af/\(dR (eb c)).1.map Tok.sh=Em c:=by
 obtain⟨h1,h2⟩:=TJ (T:=λq:UInt8 × Nd=>mf q.1 c q.2) (S:=λq=>Af q.1 c q.2) (l:=lJ (cp c.op).2 [c.left,c.right]) λq hq=>U6 (h q hq)
 have:=wv h0 _ _ h1 h2
 rw[H5];obtain⟨toks,e1,e2⟩:=this _ 0 [] (bP _);unfold dR;rw[e1];exact⟨rfl,by rw[Em];simpa using e2⟩
def Ea(a b:aA × aA):Bool:=decide (a.1.an=b.1.an)&&decide (a.2.an=b.2.an)
def Pq:∀a b:List (aA × aA),lX Ea a b=lf a b
 | [],[]=>rfl
 | [],_::_=>rfl
 | _::_,[]=>rfl
 | p::ps,q::qs=>by simp only[lX,lf,Ea,Pq ps qs]
def anZ:∀(ps:List (aA × aA)) (p:aA × aA) (toks:List Tok),toks.map Tok.sh=eG ((p::ps).map wB) ->
 ∃us:List ar,us≠[]/\bn us=toks/\fj us/\∀(n:Nat) (pre:List ar) (fin:Int) (acc:List (aA × aA)),us.length<=n ->
  ∃ys r,ab.fW n (at_ pre us fin 0) acc=(r,acc++ys)/\r.aG=af/\lX Ea ys (p::ps)=true:=by
 intro ps;induction ps with
 | nil =>
  intro p toks ht;have ht:toks.map Tok.sh=[fG p.1.an]++[bG 60]++[fG p.2.an]:=by simpa [eG,wB] using ht
  obtain⟨t12,t3,rfl,mz,h3⟩:=jd.1 ht;obtain⟨t1,t2,rfl,h1,h2⟩:=jd.1 mz;obtain⟨p1,rfl⟩:=El h1;obtain⟨p2,rfl⟩:=tH h2;obtain⟨p3,rfl⟩:=El h3;obtain⟨f1,w1⟩:=uR (t:=⟨97,p.1.an,p1⟩) rfl rfl;obtain⟨f2,w2⟩:=uR (t:=⟨((60:UInt8).toNat:Nat),[60],p2⟩) rfl rfl;obtain⟨f3,w3⟩:=uR (t:=⟨97,p.2.an,p3⟩) rfl rfl;refine⟨[.mk ⟨97,p.1.an,p1⟩ [] p1]++[.mk ⟨((60:UInt8).toNat:Nat),[60],p2⟩ [] p2]++[.mk ⟨97,p.2.an,p3⟩ [] p3],by simp,by rw[g_,g_,f1,f2,f3],by rw[jO,jO];exact⟨⟨w1,w2⟩,w3⟩,λn pre fin acc hn=>?_⟩;obtain⟨m,rfl⟩:∃m,n=m+1:=⟨n - 1,by simp at hn;omega⟩;generalize C_:(ar.mk ⟨97,p.1.an,p1⟩ [] p1)=T1;generalize C':(ar.mk ⟨((60:UInt8).toNat:Nat),[60],p2⟩ [] p2)=T2;generalize Da:(ar.mk ⟨97,p.2.an,p3⟩ [] p3)=T3;have e1:(at_ pre (T1::[T2,T3]) fin 0).take 97=(T1,at_ (pre++[T1]) [T2,T3] fin 0):=mQ (by rw[<-C_];rfl);have e2:(at_ (pre++[T1]) [T2,T3] fin 0).take 60=(T2,at_ (pre++[T1]++[T2]) [T3] fin 0):=mQ (by rw[<-C'];rfl);have e3:(at_ (pre++[T1]++[T2]) [T3] fin 0).take 97=(T3,at_ (pre++[T1]++[T2]++[T3]) [] fin 0):=mQ (by rw[<-Da];rfl);refine⟨[(⟨T1.tok.an,T1.tok.pos⟩,⟨T3.tok.an,T3.tok.pos⟩)],at_ (pre++[T1]++[T2]++[T3]) [] fin 0,?_,rfl,?_⟩
  .simp only[ab.fW,gI,gd];have Of:(at_ pre (T1::[T2,T3]) fin 0).word=(⟨T1.tok.an,T1.tok.pos⟩,at_ (pre++[T1]) [T2,T3] fin 0):=by rw[ab.word,e1]
   have Og:(at_ (pre++[T1]++[T2]) [T3] fin 0).word=(⟨T3.tok.an,T3.tok.pos⟩,at_ (pre++[T1]++[T2]++[T3]) [] fin 0):=by rw[ab.word,e3]
   rw[aC (by simp[at_])];simp only[Of,e2,Og];rw[aE (by simp[at_])]
  .rw[<-C_,<-Da];simp[lX,Ea,ar.tok]
 | cons q ps ih =>
  intro p toks ht;have ht:toks.map Tok.sh=[fG p.1.an]++[bG 60]++[fG p.2.an]++[bG 44]++eG ((q::ps).map wB):=by simpa [eG,wB] using ht
  obtain⟨atZ,t5,rfl,ah5,h5⟩:=jd.1 ht;obtain⟨t123,t4,rfl,J6,h4⟩:=jd.1 ah5;obtain⟨t12,t3,rfl,mz,h3⟩:=jd.1 J6;obtain⟨t1,t2,rfl,h1,h2⟩:=jd.1 mz;obtain⟨p1,rfl⟩:=El h1;obtain⟨p2,rfl⟩:=tH h2;obtain⟨p3,rfl⟩:=El h3;obtain⟨p4,rfl⟩:=tH h4;obtain⟨us,n0,f5,w5,b5⟩:=ih q t5 h5;obtain⟨f1,w1⟩:=uR (t:=⟨97,p.1.an,p1⟩) rfl rfl;obtain⟨f2,w2⟩:=uR (t:=⟨((60:UInt8).toNat:Nat),[60],p2⟩) rfl rfl;obtain⟨f3,w3⟩:=uR (t:=⟨97,p.2.an,p3⟩) rfl rfl;obtain⟨f4,w4⟩:=uR (t:=⟨((44:UInt8).toNat:Nat),[44],p4⟩) rfl rfl;refine⟨[.mk ⟨97,p.1.an,p1⟩ [] p1]++[.mk ⟨((60:UInt8).toNat:Nat),[60],p2⟩ [] p2]++[.mk ⟨97,p.2.an,p3⟩ [] p3]++[.mk ⟨((44:UInt8).toNat:Nat),[44],p4⟩ [] p4]++us,by simp,by rw[g_,g_,g_,g_,f1,f2,f3,f4,f5],by rw[jO,jO,jO,jO];exact⟨⟨⟨⟨w1,w2⟩,w3⟩,w4⟩,w5⟩,λn pre fin acc hn=>?_⟩;obtain⟨m,rfl⟩:∃m,n=m+1:=⟨n - 1,by simp at hn;omega⟩;generalize C_:(ar.mk ⟨97,p.1.an,p1⟩ [] p1)=T1;generalize C':(ar.mk ⟨((60:UInt8).toNat:Nat),[60],p2⟩ [] p2)=T2;generalize Da:(ar.mk ⟨97,p.2.an,p3⟩ [] p3)=T3;generalize hT4:(ar.mk ⟨((44:UInt8).toNat:Nat),[44],p4⟩ [] p4)=T4;have e1:(at_ pre (T1::(T2::T3::T4::us)) fin 0).take 97=(T1,at_ (pre++[T1]) (T2::T3::T4::us) fin 0):=mQ (by rw[<-C_];rfl);have e2:(at_ (pre++[T1]) (T2::T3::T4::us) fin 0).take 60=(T2,at_ (pre++[T1]++[T2]) (T3::T4::us) fin 0):=mQ (by rw[<-C'];rfl);have e3:(at_ (pre++[T1]++[T2]) (T3::T4::us) fin 0).take 97=(T3,at_ (pre++[T1]++[T2]++[T3]) (T4::us) fin 0):=mQ (by rw[<-Da];rfl);have e4:(at_ (pre++[T1]++[T2]++[T3]) (T4::us) fin 0).take 44=(T4,at_ (pre++[T1]++[T2]++[T3]++[T4]) us fin 0):=mQ (by rw[<-hT4];rfl);obtain⟨ys,r,g1,g2,g3⟩:=b5 m (pre++[T1]++[T2]++[T3]++[T4]) fin (acc++[(⟨T1.tok.an,T1.tok.pos⟩,⟨T3.tok.an,T3.tok.pos⟩)]) (by simp at hn;omega);refine⟨(⟨T1.tok.an,T1.tok.pos⟩,⟨T3.tok.an,T3.tok.pos⟩)::ys,r,?_,g2,?_⟩
  .simp only[ab.fW,gI,gd];have Of:(at_ pre (T1::(T2::T3::T4::us)) fin 0).word=(⟨T1.tok.an,T1.tok.pos⟩,at_ (pre++[T1]) (T2::T3::T4::us) fin 0):=by rw[ab.word,e1]
   have Og:(at_ (pre++[T1]++[T2]) (T3::T4::us) fin 0).word=(⟨T3.tok.an,T3.tok.pos⟩,at_ (pre++[T1]++[T2]++[T3]) (T4::us) fin 0):=by rw[ab.word,e3]
   rw[aC (by simp[at_])];simp only[Of,e2,Og,e4,g1];rw[aC (by simp[at_];omega)];simp
  .rw[<-C_,<-Da];simp only[lX,Ea,g3,ar.tok];simp
def EM(k:UInt8)(c:aq)(n:Nd)(c0 c1:aq):Prop :=
 (k=110/\∃w:aA,w.an=c.name.an/\c1={c0 with name:=w}) \/
 ((k=102\/k=119)/\∃ws,dy ws c.aj=aa/\c1={c0 with aj:=ws}) \/
 (k=112/\∃ps a,lf ps c.bm=aa/\c1={c0 with bm:=ps,mJ:=a}) \/
 ((k=116\/k=114)/\∃m:Nd,m.cK n=aa/\c1=if c0.left.kind=0 then {c0 with left:=m} else {c0 with right:=m})
def X_(k:UInt8)(c:aq)(n:Nd)(toks:List Tok):Prop :=
 ∃us:List ar,us≠[]/\bn us=toks/\fj us/\∀(pre post:List ar) (fin:Int) (c0:aq),(k=112->c0.bm=[])->∃c1,c_ k (at_ pre (us++post) fin 0,c0)=(at_ (pre++us) post fin 0,c1)/\EM k c n c0 c1
theorem I8{fin:Int}:(⟨(at_ pre us fin 0).l,(at_ pre us fin 0).at_,(at_ pre us fin 0).fin,af⟩:ab)=at_ pre us fin 0:=rfl
def Y9{T:ar}{fin:Int}:({at_ pre (T::us) fin 0 with at_:=(at_ pre (T::us) fin 0).at_+1}:ab)=at_ (pre++[T]) us fin 0:=by simp[at_]
def an4{k:UInt8}{n:Nd}(h:yS k c n)(ht:toks.map Tok.sh=Af k c n):X_ k c n toks:=by
 rcases h with ⟨rfl,h⟩ | ⟨rfl,h1,h⟩ | ⟨rfl,h1,h⟩ | ⟨rfl,h⟩ | ⟨rfl,h⟩ | ⟨rfl,h⟩
 .obtain⟨us,n1,f1,w1,b1⟩:=wT c.name toks ht;refine⟨us,n1,f1,w1,λpre post fin c0 _=>?_⟩;obtain⟨y,q1,q2⟩:=b1 (bd us) (bP _) pre post fin;refine⟨{c0 with name:=y},?_,.inl ⟨rfl,y,by simpa [pg] using q2,rfl⟩⟩;have q1:(at_ pre (us++post) fin 0).word=(y,at_ (pre++us) post fin 0):=q1;have hb:(at_ pre (us++post) fin 0).aG=none:=rfl;simp[c_,hb,q1]
 .obtain⟨w,hw⟩:∃w,c.aj=[w]:=by
   match hc:c.aj,h1 with
   | [w],_=>exact⟨w,rfl⟩
  have ht:toks.map Tok.sh=[fG w.an]:=by rw[ht];simp[Af,lg,hw,eG]
  obtain⟨us,n1,f1,w1,b1⟩:=wT w toks ht;refine⟨us,n1,f1,w1,λpre post fin c0 _=>?_⟩;obtain⟨y,q1,q2⟩:=b1 (bd us) (bP _) pre post fin;refine⟨{c0 with aj:=[y]},?_,.inr (.inl ⟨.inl rfl,[y],?_,rfl⟩)⟩
  .have q1:(at_ pre (us++post) fin 0).word=(y,at_ (pre++us) post fin 0):=q1;have hb:(at_ pre (us++post) fin 0).aG=none:=rfl;simp[c_,hb,q1]
  .rw[hw];simpa [dy,pg] using q2
 .obtain⟨T,f1,w1,k1,b1⟩:=Ja (one:=λ_=>ab.word) (sm:=pg) (S:=λw=>[fG w.an]) (a:=123) (b:=125) (e:=false) (xs:=c.aj) (by decide) (by decide) (by decide) (λw _=>wT w) (λe=>by rw[e] at h1;simp at h1) (toks:=toks) ht;refine⟨[T],by simp,f1,w1,λpre post fin c0 _=>?_⟩;obtain⟨ys,p,q1,q2⟩:=b1 (bd [T]) (by omega) pre post fin;rw[I0] at q2;have q1:(at_ pre (T::post) fin 0).words ak=((ys,p),at_ (pre++[T]) post fin 0):=q1;refine⟨{c0 with aj:=ys},?_,.inr (.inl ⟨.inr rfl,ys,q2,rfl⟩)⟩;have hb:(at_ pre (T::post) fin 0).aG=none:=rfl;have hw:ja (at_ pre (T::post) fin 0).l (at_ pre (T::post) fin 0).at_ (at_ pre (T::post) fin 0).fin=(ys,af):=by
   unfold ja;rw[I8,q1];rfl
  have y8:c_ 119 (at_ pre ([T]++post) fin 0,c0)=({at_ pre (T::post) fin 0 with aG:=(ja (at_ pre (T::post) fin 0).l (at_ pre (T::post) fin 0).at_ (at_ pre (T::post) fin 0).fin).2,at_:=(at_ pre (T::post) fin 0).at_+1},{c0 with aj:=(ja (at_ pre (T::post) fin 0).l (at_ pre (T::post) fin 0).at_ (at_ pre (T::post) fin 0).fin).1}):=rfl;rw[y8,hw,<-Y9];rfl
 .have ht:toks.map Tok.sh=[bG 123]++eG (c.bm.map wB)++[bG 125]:=ht;obtain⟨t1,t3,rfl,h1,h3⟩:=jd.1 ht;obtain⟨ta,t2,rfl,ha,h2⟩:=jd.1 h1;obtain⟨pa,rfl⟩:=tH ha;obtain⟨pb,rfl⟩:=tH h3;have key:∃us:List ar,bn us=t2/\fj us/\((us=[]/\c.bm=[])\/us≠[]/\∀fin,∃ys r,ab.fW (us.length+1) (at_ [] us fin 0) []=(r,ys)/\r.aG=af/\lf ys c.bm=aa):=by
   cases hc:c.bm with
   | nil =>
    rw[hc] at h2
    have:t2=[]:=by simpa [eG] using h2
    exact⟨[],by rw[this];rfl,trivial,.inl ⟨rfl,rfl⟩⟩
   | cons p ps =>
    rw[hc] at h2;obtain⟨us,n1,f1,w1,b1⟩:=anZ ps p t2 h2;refine⟨us,f1,w1,.inr ⟨n1,λfin=>?_⟩⟩;obtain⟨ys,r,q1,q2,q3⟩:=b1 (us.length+1) [] fin [] (by omega);exact⟨ys,r,by rw[q1];rfl,q2,by rw[<-Pq];exact q3⟩
  obtain⟨us,f1,w1,hk⟩:=key;refine⟨[.mk ⟨((123:UInt8).toNat:Nat),[123],pa⟩ us pb],by simp,?_,?_,λpre post fin c0 hp=>?_⟩
  .simp only[bn,ar.flat,eD];rw[aE (by decide),f1];rfl
  .simp only[fj,ar.WF];exact⟨⟨by decide,λh=>absurd h (by decide),w1⟩,trivial⟩
  .have hp:=hp rfl;have y7:∀x:ab × aq,x.1.aG=af->c_ 112 x=o9 x.1 x.2:=λx hx=>by simp[c_,hx]
   have uO:(at_ pre (ar.mk ⟨((123:UInt8).toNat:Nat),[123],pa⟩ us pb::post) fin 0).take 123=(.mk ⟨((123:UInt8).toNat:Nat),[123],pa⟩ us pb,at_ (pre++[.mk ⟨((123:UInt8).toNat:Nat),[123],pa⟩ us pb]) post fin 0):=mQ rfl;rw[y7 _ rfl];unfold o9;simp only[gI,gd,uO,ar.ah,ar.tok]
   rcases hk with ⟨rfl,hc⟩ | ⟨n1,hk⟩
   .rw[aE (.inr rfl)];refine⟨_,rfl,.inr (.inr (.inl ⟨rfl,[],pa,by rw[hc];rfl,?_⟩))⟩;cases c0;simp only at hp;subst hp;rfl
   .have hl:us.length≠0:=λh=>n1 (jv.1 h)
    rw[aC (by simp[at_,hl])];obtain⟨ys,r,q1,q2,q3⟩:=hk pb;have eJ:(ar.mk ⟨((123:UInt8).toNat:Nat),[123],pa⟩ us pb).inner=at_ [] us pb 0:=by simp[ar.inner,at_,ar.ah,ar.fin]
    rw[eJ,q1];simp only[q2,ab.ue];exact⟨_,rfl,.inr (.inr (.inl ⟨rfl,ys,pa,q3,rfl⟩))⟩
 .obtain⟨us,n1,f1,w1,b1⟩:=aj1 _ n (bP _) h toks ht;refine⟨us,n1,f1,w1,λpre post fin c0 _=>?_⟩;have hm:bd us<=bd (at_ pre (us++post) fin 0).l:=by simp only[at_,r_];omega
  obtain⟨y,q1,q2⟩:=b1 _ hm pre post fin;have FP:∀x:ab × aq,x.1.aG=af->c_ 116 x=iO x.1 x.2 (fp (ab.label (bd x.1.l)) x.1.l x.1.at_ x.1.fin):=λx hx=>by simp[c_,hx]
  rw[FP _ rfl];unfold fp;rw[I8,q1];refine⟨_,?_,.inr (.inr (.inr ⟨.inl rfl,y,q2,rfl⟩))⟩;simp[iO,at_]
 .obtain⟨us,n1,f1,w1,b1⟩:=apI h toks ht;refine⟨us,n1,f1,w1,λpre post fin c0 _=>?_⟩;have hm:bd us<=bd (at_ pre (us++post) fin 0).l:=by simp only[at_,r_];omega
  obtain⟨y,q1,q2⟩:=b1 _ hm pre post fin;have FO:∀x:ab × aq,x.1.aG=af->c_ 114 x=iO x.1 x.2 (fp (ab.row (bd x.1.l)) x.1.l x.1.at_ x.1.fin):=λx hx=>by simp[c_,hx]
  rw[FO _ rfl];unfold fp;rw[I8,q1];refine⟨_,?_,.inr (.inr (.inr ⟨.inr rfl,y,q2,rfl⟩))⟩;simp[iO,at_]
def EN(c:aq):List (UInt8 × Nd)->aq->aq->Prop
 | [],c0,c1=>c1=c0
 | q::qs,c0,c2=>∃c1,EM q.1 c q.2 c0 c1/\EN c qs c1 c2
def acP{k:UInt8}{n:Nd}{c0 c1:aq}(hk:k≠112)(h:EM k c n c0 c1):c1.bm=c0.bm:=by
 rcases h with ⟨_,w,_,rfl⟩ | ⟨_,w,_,rfl⟩ | ⟨h,_⟩ | ⟨_,m,_,rfl⟩
 .rfl
 .rfl
 .exact absurd h hk
 .split<;>rfl
def U2{c:aq}:∀(qs:List (UInt8 × Nd)),(∀q∈qs,yS q.1 c q.2)->(qs.map (·.1)).count 112<=1->∀toks:List Tok,toks.map Tok.sh=(qs.map λq=>Af q.1 c q.2).flatten ->
 ∃us:List ar,bn us=toks/\fj us/\∀(pre:List ar) (fin:Int) (c0:aq),(112∈qs.map (·.1)->c0.bm=[])->∃c1,hH (qs.map (·.1)) (at_ pre us fin 0,c0)=(at_ (pre++us) [] fin 0,c1)/\EN c qs c0 c1
 | [], _, _, toks, ht => by
  have:toks=[]:=by simpa using ht
  subst this;exact⟨[],rfl,trivial,λpre fin c0 _=>⟨c0,by simp[hH],rfl⟩⟩
 | q :: qs, h, hc, toks, ht => by
  simp only[b8,kH] at ht;obtain⟨t1,t2,rfl,h1,h2⟩:=jd.1 ht;obtain⟨u1,_,f1,w1,b1⟩:=an4 (h q (by simp)) h1;have hc2:(qs.map (·.1)).count 112<=1:=by
   rw[b8,List.count_cons] at hc;omega
  obtain⟨u2,f2,w2,b2⟩:=U2 qs (λx hx=>h x (by simp[hx])) hc2 t2 h2;refine⟨u1++u2,by rw[g_,f1,f2],by rw[jO];exact⟨w1,w2⟩,λpre fin c0 hp=>?_⟩;obtain⟨c1,e1,g1⟩:=b1 pre u2 fin c0 (λe=>hp (by simp[e]));obtain⟨c2,e2,g2⟩:=b2 (pre++u1) fin c1 (λhm=>by
   by_cases e:q.1=112
   .exfalso
    rw[b8,e,ON] at hc
    have:(qs.map (·.1)).count 112=0:=by omega
    exact OO.1 this hm
   .rw[acP e g1];exact hp (by simp only[b8,kI];exact .inr hm))
  exact⟨c2,by simp only[b8,hH,e1,e2,eB],c1,g1,g2⟩
def L8:∀(ks:List UInt8) (ts:List Nd),(lJ ks ts).map (·.1)=ks
 | [],_=>rfl
 | k::ks,ts=>by simp only[lJ,b8,L8 ks]
def DO:List (List UInt8):=[[110,119],[110,119,112],[110,116,116],[110,114,114],[110,102],[],[110]]
def C2{op:Int}(h1:1<=op)(h2:op<=15):(cp op).2∈DO/\dG (cp op).1=aa/\iD (cp op).1=op:=by
 have key:∀n:Nat,n<15->(cp ((n+1:Nat):Int)).2∈DO/\dG (cp ((n+1:Nat):Int)).1=aa/\iD (cp ((n+1:Nat):Int)).1=((n+1:Nat):Int):=by decide +kernel
 have:=key (op.toNat - 1) (by omega)
 rwa [show((op.toNat - 1+1:Nat):Int)=op by omega] at this
def Ej:∀a b:List aA,dy a b=decide (a.map aA.an=b.map aA.an)
 | [],[]=>by simp[dy]
 | [],_::_=>by simp[dy]
 | _::_,[]=>by simp[dy]
 | w::ws,u::us=>by simp[dy,Ej ws us]
def mi(l:List ar)(a fin k:Int):(⟨l,a,fin,af⟩:ab).bT k=bz l a k:=by simp[ab.bT,ab.ok]
theorem B2(l:List ar)(a fin:Int)(b:Option Int):(⟨l,a,fin,b⟩:ab).spot=nC l a fin:=rfl
variable{a:Int}
def lS{fin:Int}(h:bz l a k=aa):(⟨l,a,fin,af⟩:ab).take k=(bI l a,⟨l,a+1,fin,af⟩):=by
 obtain⟨j,t,rfl,hj,_,hl⟩:=x6 h;simp[ab.take,mi,h,bI,hj,gU]
def ml{fin:Int}(h:bz l a k=ak):(⟨l,a,fin,af⟩:ab).take k=(.zero,⟨l,a,fin,U (nC l a fin)⟩):=by
 simp[ab.take,mi,h,ab.fail,B2]
def vj(h:bz l a k=aa):(bI l a).tok=fH l a:=by
 obtain⟨j,t,rfl,hj,_,_⟩:=x6 h;simp[bI,fH,hj]
def RJ{step:ab × List G->ab × List G}{a:ab × List G}(h:a.1.aG≠af):∀n,iK step n a=a
 | 0=>rfl
 | n + 1 => by
  have:a.1.bT 44=false:=by
   simp only[ab.bT,ab.ok];cases hb:a.1.aG with
   | none=>exact absurd hb h
   | some _=>simp
  simp[iK,this]
def RK{step:ab × List G->ab × List G}{a:ab × List G}(h:a.1.bT 44=ak):∀n,iK step n a=a
 | 0=>rfl
 | n+1=>by simp[iK,h]
def Un{fin:Int}(h:bz l a 97=aa):nameAt l a fin=⟨.mk 0 (fH l a).pos (fH l a).an [] [],a+1,ak,0⟩:=by simp[nameAt,h]
def Um{fin:Int}(h:bz l a 97=ak):nameAt l a fin=dU l a fin:=by simp[nameAt,h]
def NU(l:List ar)(fin:Int):∀(m n:Nat) (a:Nat) (out:List Nd) (ws:List aA),ws=su out->l.length+1<=m+a->l.length<=n+a->a<=l.length ->
 (fY (λi=>nameAt l i fin) l m a out).2.aG=aa/\(iK fZ n (fZ (⟨l,a,fin,af⟩,ws))).1.aG=U (fY (λi=>nameAt l i fin) l m a out).2.pos \/
 (fY (λi=>nameAt l i fin) l m a out).2.aG=ak/\iK fZ n (fZ (⟨l,a,fin,af⟩,ws))=(⟨l,(fY (λi=>nameAt l i fin) l m a out).2.next,fin,af⟩,su (fY (λi=>nameAt l i fin) l m a out).1)
 | 0,n,a,out,ws,zH,hm,hn,ha=>by omega
 | m + 1, n, a, out, ws, zH, hm, hn, ha => by
  cases hk:bz l a 97
  .left;have e:fZ (⟨l,a,fin,af⟩,ws)=(⟨l,a,fin,U (nC l a fin)⟩,ws++[⟨[],0⟩]):=by simp[fZ,ab.word,ml hk,ar.zero,ar.tok]
   rw[e,RJ (by simp)];simp[fY,Um hk,dU]
  .obtain⟨j,t,hj,_,_,hl⟩:=x6 hk;have e:fZ (⟨l,a,fin,af⟩,ws)=(⟨l,(a:Int)+1,fin,af⟩,ws++[⟨(fH l a).an,(fH l a).pos⟩]):=by simp[fZ,ab.word,lS hk,vj hk]
   rw[e];simp only[fY,Un hk,dm,cn];cases vR:bz l ((a:Int)+1) 44
   .right;rw[RK (by simp[mi,vR])];simp[zH,su,Nd.an,Nd.pos]
   .obtain⟨j2,t2,hj2,_,_,kR⟩:=x6 vR;obtain⟨n,rfl⟩:∃k,n=k+1:=⟨n - 1,by omega⟩;simp only[iK,mi,vR,cD,lS vR];have ih:=NU l fin m n (a+2) (out++[.mk 0 (fH l a).pos (fH l a).an [] []]) (ws++[⟨(fH l a).an,(fH l a).pos⟩]) (by simp[zH,su,Nd.an,Nd.pos]) (by omega) (by omega) (by omega);rw[show(a:Int)+1+1=((a+2:Nat):Int) by omega];exact ih
def asL(l:List ar)(a fin:Int) :
 (rj l a fin).2.aG=aa/\ja l a fin=([],U (rj l a fin).2.pos)\/(rj l a fin).2.aG=ak/\ja l a fin=((rj l a fin).1,af):=by
 cases h:bz l a 123
 .left;have e:(⟨l,a,fin,af⟩:ab).words ak=(([],0),⟨l,a,fin,U (nC l a fin)⟩):=by
   simp[ab.words,ab.bracket,ml h,ab.ok]
  simp[rj,h,dU,ja,e]
 .have ht:∃t,bI l a=t:=⟨_,rfl⟩;obtain⟨t,ht⟩:=ht;have hw:(⟨l,a,fin,af⟩:ab).words ak=(((dS fZ t.inner).2,t.tok.pos),(⟨l,a+1,fin,af⟩:ab).under (dS fZ t.inner).1):=by
   simp[ab.words,ab.bracket,lS h,ab.ok,ab.inside,ht]
  have hs:=NU t.ah t.fin (t.ah.length+1) t.ah.length 0 [] [] rfl (by omega) (by omega) (by omega);have hg:dS fZ t.inner=iK fZ t.ah.length (fZ (⟨t.ah,((0:Nat):Int),t.fin,af⟩,[])):=rfl;rw[<-hg] at hs;have hr:rj l a fin=(su (wholeAt nameAt t ak).1,(wholeAt nameAt t ak).2):=by simp[rj,h,ht]
  have jB:wholeAt nameAt t ak=if (fY (λi=>nameAt t.ah i t.fin) t.ah (t.ah.length+1) ((0:Nat):Int) []).2.aG=ak/\(fY (λi=>nameAt t.ah i t.fin) t.ah (t.ah.length+1) ((0:Nat):Int) []).2.next<t.ah.length then([],dU t.ah (fY (λi=>nameAt t.ah i t.fin) t.ah (t.ah.length+1) ((0:Nat):Int) []).2.next t.fin)
   else fY (λi=>nameAt t.ah i t.fin) t.ah (t.ah.length+1) ((0:Nat):Int) []:=by simp[wholeAt]
  generalize fY (λi=>nameAt t.ah i t.fin) t.ah (t.ah.length+1) ((0:Nat):Int) []=S at hs jB;generalize dS fZ t.inner=G'' at hs hw
  rcases hs with ⟨h1,h2⟩ | ⟨h1,h2⟩
  .left;rw[h1] at jB;simp only[pZ,CW,cn] at jB;refine⟨by rw[hr,jB];exact h1,?_⟩;rw[hr,jB];have hc:G''.1.close=G''.1:=by simp[ab.close,ab.ok,h2]
   simp[ja,hw,ab.under,hc,h2]
  .rw[h1] at jB;simp only[pU] at jB;rw[h2] at hw
   by_cases hn:S.2.next<t.ah.length
   .left;rw[aE hn] at jB;refine⟨by rw[hr,jB];rfl,?_⟩;rw[hr,jB];simp[ja,hw,ab.under,ab.close,ab.ok,hn,ab.fail,B2,dU]
   .right;rw[aC hn] at jB;refine⟨by rw[hr,jB];exact h1,?_⟩;rw[hr,jB];simp[ja,hw,ab.under,ab.close,hn]
def Alike(one:ab->Nd × ab)(g:List ar->Int->Int->cf):Prop:=∀(l:List ar) (a fin:Int),
 (g l a fin).aG=aa/\(one ⟨l,a,fin,af⟩).2.aG=U (g l a fin).pos\/(g l a fin).aG=ak/\one ⟨l,a,fin,af⟩=((g l a fin).node,⟨l,(g l a fin).next,fin,af⟩)
def NR{one:ab->Nd × ab}{g:List ar->Int->Int->cf}(H:Alike one g)(Gj:tP g)(l:List ar)(fin:Int):∀(m n:Nat) (a:Nat) (out:List Nd),l.length+1<=m+a->l.length<=n+a->a<=l.length ->
 (fY (λi=>g l i fin) l m a out).2.aG=aa/\(iK (cc one) n (cc one (⟨l,a,fin,af⟩,out))).1.aG=U (fY (λi=>g l i fin) l m a out).2.pos \/
 (fY (λi=>g l i fin) l m a out).2.aG=ak/\iK (cc one) n (cc one (⟨l,a,fin,af⟩,out))=(⟨l,(fY (λi=>g l i fin) l m a out).2.next,fin,af⟩,(fY (λi=>g l i fin) l m a out).1)
 | 0,n,a,out,hm,hn,ha=>by omega
 | m + 1, n, a, out, hm, hn, ha => by
  rcases H l a fin with ⟨h1,h2⟩ | ⟨h1,h2⟩
  .left;have e:(cc one (⟨l,a,fin,af⟩,out)).1.aG=U (g l a fin).pos:=h2;rw[RJ (by rw[e];simp)];simp only[fY,h1,cD];exact⟨trivial,e⟩
  .have hA:=Gj l a fin h1;have e:cc one (⟨l,a,fin,af⟩,out)=(⟨l,(g l a fin).next,fin,af⟩,out++[(g l a fin).node]):=by simp[cc,h2]
   rw[e];simp only[fY,h1,dm,cn];cases vR:bz l (g l a fin).next 44
   .right;rw[RK (by simp[mi,vR])];simp[h1]
   .obtain⟨b,hb⟩:=Co (show 0<=(g l a fin).next by omega);obtain⟨j2,t2,hj2,_,_,kR⟩:=x6 vR;obtain⟨n,rfl⟩:∃k,n=k+1:=⟨n - 1,by omega⟩;simp only[iK,mi,vR,cD,lS vR];have ih:=NR H Gj l fin m n (b+1) (out++[(g l a fin).node]) (by omega) (by omega) (by omega);rw[show(g l a fin).next+1=((b+1:Nat):Int) by omega];exact ih
variable{g:List ar->Int->Int->cf}
def asE(t:ar)(empty:Bool)(h:¬(empty=aa/\t.ah.length=0)):wholeAt g t empty=if (fY (λi=>g t.ah i t.fin) t.ah (t.ah.length+1) ((0:Nat):Int) []).2.aG=ak/\(fY (λi=>g t.ah i t.fin) t.ah (t.ah.length+1) ((0:Nat):Int) []).2.next<t.ah.length then([],dU t.ah (fY (λi=>g t.ah i t.fin) t.ah (t.ah.length+1) ((0:Nat):Int) []).2.next t.fin)
 else fY (λi=>g t.ah i t.fin) t.ah (t.ah.length+1) ((0:Nat):Int) []:=by
 unfold wholeAt;rw[aC h];simp
def PY{step:ab × List G->ab × List G}{conv:List Nd->List G}(hc:conv []=[]){fin:Int}{kind:Int}(hk:bz l a kind=aa)(empty:Bool)
 (hs:∀t:ar,(fY (λi=>g t.ah i t.fin) t.ah (t.ah.length+1) ((0:Nat):Int) []).2.aG=aa/\(dS step t.inner).1.aG=U (fY (λi=>g t.ah i t.fin) t.ah (t.ah.length+1) ((0:Nat):Int) []).2.pos \/
   (fY (λi=>g t.ah i t.fin) t.ah (t.ah.length+1) ((0:Nat):Int) []).2.aG=ak/\dS step t.inner=(⟨t.ah,(fY (λi=>g t.ah i t.fin) t.ah (t.ah.length+1) ((0:Nat):Int) []).2.next,t.fin,af⟩,conv (fY (λi=>g t.ah i t.fin) t.ah (t.ah.length+1) ((0:Nat):Int) []).1)) :
 (wholeAt g (bI l a) empty).2.aG=aa/\((⟨l,a,fin,af⟩:ab).bracket step kind empty).2.aG=U (wholeAt g (bI l a) empty).2.pos \/
 (wholeAt g (bI l a) empty).2.aG=ak/\(⟨l,a,fin,af⟩:ab).bracket step kind empty=((conv (wholeAt g (bI l a) empty).1,(fH l a).pos),⟨l,a+1,fin,af⟩):=by
 have uO:(bI l a).tok=fH l a:=vj hk;have hb:(⟨l,a,fin,af⟩:ab).bracket step kind empty=(((ab.inside step empty (bI l a)).2,(fH l a).pos),(⟨l,a+1,fin,af⟩:ab).under (ab.inside step empty (bI l a)).1):=by
  simp[ab.bracket,lS hk,ab.ok,uO]
 rw[hb];have hs:=hs (bI l a);generalize bI l a=t at hs ⊢
 by_cases he:empty=aa/\t.ah.length=0
 .right;have e1:ab.inside step empty t=(t.inner,[]):=by unfold ab.inside;rw[aE he]
  have e2:wholeAt g t empty=([],⟨.zero,0,ak,0⟩):=by unfold wholeAt;rw[aE he]
  rw[e1,e2];refine⟨rfl,?_⟩;simp[ab.under,ab.close,ar.inner,he.2,hc]
 .have e1:ab.inside step empty t=dS step t.inner:=by unfold ab.inside;rw[aC he]
  rw[e1];have jB:=asE (g:=g) t empty he;generalize fY (λi=>g t.ah i t.fin) t.ah (t.ah.length+1) ((0:Nat):Int) []=S at hs jB;generalize dS step t.inner=G'' at hs ⊢
  rcases hs with ⟨h1,h2⟩ | ⟨h1,h2⟩
  .left;rw[h1] at jB;simp only[pZ,CW,cn] at jB;rw[jB];have hc:G''.1.close=G''.1:=by simp[ab.close,ab.ok,h2]
   exact⟨h1,by simp[ab.under,hc,h2]⟩
  .rw[h1] at jB;simp only[pU] at jB;rw[h2]
   by_cases hn:S.2.next<t.ah.length
   .left;rw[aE hn] at jB;rw[jB];exact⟨rfl,by simp[ab.under,ab.close,ab.ok,hn,ab.fail,B2,dU]⟩
   .right;rw[aC hn] at jB;rw[jB];exact⟨h1,by simp[ab.under,ab.close,hn]⟩
def My{one:ab->Nd × ab}(H:Alike one g)(Gj:tP g){fin kind:Int}(hk:bz l a kind=aa)(empty:Bool):
 (wholeAt g (bI l a) empty).2.aG=aa/\((⟨l,a,fin,af⟩:ab).nodes one kind empty).2.aG=U (wholeAt g (bI l a) empty).2.pos \/
 (wholeAt g (bI l a) empty).2.aG=ak/\(⟨l,a,fin,af⟩:ab).nodes one kind empty=(((wholeAt g (bI l a) empty).1,(fH l a).pos),⟨l,a+1,fin,af⟩) :=
 PY (conv:=id) rfl hk empty λt=>NR H Gj t.ah t.fin (t.ah.length+1) t.ah.length 0 [] (by omega) (by omega) (by omega)
def Xq{fin:Int}(hk:bz l a 123=aa)(empty:Bool):
 (wholeAt nameAt (bI l a) empty).2.aG=aa/\((⟨l,a,fin,af⟩:ab).words empty).2.aG=U (wholeAt nameAt (bI l a) empty).2.pos \/
 (wholeAt nameAt (bI l a) empty).2.aG=ak/\(⟨l,a,fin,af⟩:ab).words empty=((su (wholeAt nameAt (bI l a) empty).1,(fH l a).pos),⟨l,a+1,fin,af⟩) :=
 PY (conv:=su) rfl hk empty λt=>NU t.ah t.fin (t.ah.length+1) t.ah.length 0 [] [] rfl (by omega) (by omega) (by omega)
def BN(k:Int):Alike (ab.leaf k) (tg k):=λl a fin=>by
 unfold tg;cases h:bz l a 97
 .left;simp[ab.leaf,ab.word,ml h,dU]
 .right;simp[ab.leaf,ab.word,lS h,vj h]
def apP:Alike ab.nw Al:=λl a fin=>by
 unfold Al ab.nw;cases h:bz l a 97
 .left;have hb:∀r:ab,r.aG≠af->((r.take 58).2.words aa).2.aG=r.aG:=λr hr=>by
   obtain⟨x,hx⟩:∃x,r.aG=U x:=by cases hq:r.aG with | none=>exact absurd hq hr | some x=>exact⟨x,rfl⟩
   have e:r.take 58=(.zero,r):=by simp[ab.take,ab.bT,ab.ok,hx,ab.fail]
   have e2:r.take 123=(.zero,r):=by simp[ab.take,ab.bT,ab.ok,hx,ab.fail]
   simp[e,ab.words,ab.bracket,e2,ab.ok,hx]
  simp only[ab.word,ml h,cD];exact⟨rfl,hb _ (by simp)⟩
 simp only[ab.word,lS h,pZ,cn];cases h2:bz l (a+1) 58
 .left;simp only[ml h2,cD];refine⟨rfl,?_⟩;simp[ab.words,ab.bracket,ab.take,ab.bT,ab.ok,ab.fail,dU]
 simp only[lS h2,pZ,cn];have e2:a+1+1=a+2:=by omega
 rw[e2];cases h3:bz l (a+2) 123
 .left;simp only[cD];refine⟨rfl,?_⟩;simp[ab.words,ab.bracket,ml h3,ab.ok,dU]
 simp only[pZ,cn]
 rcases Xq (fin:=fin) h3 aa with ⟨p1,p2⟩ | ⟨p1,p2⟩
 .left;rw[aE p1];exact⟨p1,p2⟩
 .right;rw[p1];simp only[dm,cn];refine⟨trivial,?_⟩;rw[p2];simp[vj h];omega
def ra{k':Int}(h:bz l a k=aa)(aX:k≠k'):bz l a k' = false:=by
 cases hq:bz l a k' with
 | false=>rfl
 | true =>
  obtain⟨j,t,rfl,hj,hk,_⟩:=x6 h;obtain⟨j',t',e,gM,jY,_⟩:=x6 hq;obtain rfl:j' = j:=by omega
  rw[hj] at gM;simp only[aZ] at gM;subst gM;exact absurd (hk.symm.trans jY) aX
def Qr:∀n,Alike (ab.constant n) (qa n)
 | 0=>BN 2
 | n + 1 => λl a fin => by
  simp only[qa,ab.constant,mi];cases gi:bz l a 97
  case true =>
   simp only[ra gi (show(97:Int)≠123 by decide),ra gi (show(97:Int)≠40 by decide),ra gi (show(97:Int)≠91 by decide),dm,cn,cD];exact BN 2 l a fin
  simp only[dm,cn];cases J6:bz l a 123
  case true =>
   simp only[cD]
   rcases Xq (fin:=fin) J6 aa with ⟨p1,p2⟩ | ⟨p1,p2⟩
   .left;unfold mE;rw[aE p1];exact⟨p1,p2⟩
   .right;unfold mE;rw[p1,p2];exact⟨rfl,rfl⟩
  simp only[dm,cn];cases Gd:bz l a 40
  case true =>
   simp only[cD]
   rcases My (Qr n) (Pn n) (fin:=fin) Gd ak with ⟨p1,p2⟩ | ⟨p1,p2⟩
   .left;unfold mE;rw[aE p1];exact⟨p1,p2⟩
   .right;unfold mE;rw[p1,p2];exact⟨rfl,rfl⟩
  simp only[dm,cn];cases Gf:bz l a 91
  case true =>
   simp only[cD]
   rcases My apP Yl (fin:=fin) Gf aa with ⟨p1,p2⟩ | ⟨p1,p2⟩
   .left;unfold mE;rw[aE p1];exact⟨p1,p2⟩
   .right;unfold mE;rw[p1,p2];exact⟨rfl,rfl⟩
  simp only[dm,cn];left;simp[ab.leaf,ab.word,ml gi,dU]
def ZM{step:ab × List G->ab × List G}{fin kind:Int}(h:bz l a kind=ak):(⟨l,a,fin,af⟩:ab).bracket step kind e=(([],0),⟨l,a,fin,U (nC l a fin)⟩):=by
 simp[ab.bracket,ml h,ab.ok]
def aa9{n:Nat}{fin:Int}(f:Nd->Nd):
 ((qa n l a fin).put f).aG=aa/\(ab.constant n ⟨l,a,fin,af⟩).2.aG=U ((qa n l a fin).put f).pos\/((qa n l a fin).put f).aG=ak/\(f (ab.constant n ⟨l,a,fin,af⟩).1,(ab.constant n ⟨l,a,fin,af⟩).2)=(((qa n l a fin).put f).node,⟨l,((qa n l a fin).put f).next,fin,af⟩):=by
 unfold cf.put
 rcases Qr n l a fin with ⟨p1,p2⟩ | ⟨p1,p2⟩
 .left;rw[aE p1];exact⟨p1,p2⟩
 .right;rw[p1,p2];exact⟨rfl,rfl⟩
def Fq(n:Nat)(l:List ar)(a fin:Int):cf:=if bz l a 35=aa then(qa n l (a+1) fin).put λm=>.mk 7 (fH l a).pos [] [] [m] else tg 1 l a fin
def PE(n:Nat):Alike (ab.atom n) (Fq n):=λl a fin=>by
 unfold Fq;simp only[ab.atom,mi];cases rK:bz l a 35
 .simp only[dm,cn];exact BN 1 l a fin
 .simp only[cD,lS rK,vj rK]
  rcases aa9 (n:=n) (l:=l) (a:=a+1) (fin:=fin) (λm=>.mk 7 (fH l a).pos [] [] [m]) with ⟨p1,p2⟩ | ⟨p1,p2⟩
  .exact .inl ⟨p1,p2⟩
  .exact .inr ⟨p1,p2⟩
def LW:∀n,Alike (ab.label n) (iU n)
 | 0=>BN 1
 | n + 1 => λl a fin => by
  have sign:∀(k:Int),bz l a k=aa->∀kd,(kd=8\/kd=9) ->
   let x:Nd × ab:=(.mk kd ((⟨l,a,fin,af⟩:ab).take k).1.tok.pos [] [] (((⟨l,a,fin,af⟩:ab).take k).2.nodes (ab.label n) 40 ak).1.1,(((⟨l,a,fin,af⟩:ab).take k).2.nodes (ab.label n) 40 ak).2)
   let g:=if bz l (a+1) 40=ak then dU l (a+1) fin else mE (wholeAt (iU n) (bI l (a+1)) ak) (λks=>.mk kd (fH l a).pos [] [] ks) (a+2)
   g.aG=aa/\x.2.aG=U g.pos\/g.aG=ak/\x=(g.node,⟨l,g.next,fin,af⟩):=λk hk kd _=>by
   simp only[lS hk,vj hk];cases Gd:bz l (a+1) 40
   .left;simp only[cD];unfold ab.nodes;rw[ZM Gd];exact⟨rfl,rfl⟩
   .simp only[pZ,cn];have e2:a+1+1=a+2:=by omega
    rcases My (LW n) (Fj n) (fin:=fin) Gd ak with ⟨p1,p2⟩ | ⟨p1,p2⟩
    .left;unfold mE;rw[aE p1];exact⟨p1,p2⟩
    .right;unfold mE;rw[p1,p2,e2];exact⟨rfl,rfl⟩
  simp only[iU,ab.label,mi];cases gi:bz l a 97
  case true =>
   simp only[ra gi (show(97:Int)≠43 by decide),ra gi (show(97:Int)≠38 by decide),dm,cn,cD]
   have:=PE (n+1) l a fin
   unfold Fq at this;rw[ra gi (show(97:Int)≠35 by decide)] at this;exact this
  simp only[dm,cn];cases rK:bz l a 35
  case true =>
   simp only[ra rK (show(35:Int)≠43 by decide),ra rK (show(35:Int)≠38 by decide),dm,cn,cD]
   have:=PE (n+1) l a fin
   unfold Fq at this;rw[aE rK] at this;exact this
  simp only[dm,cn];cases vQ:bz l a 43
  case true =>
   simp only[pZ,CW,cn,cD,ra vQ (show(43:Int)≠38 by decide),dm];exact sign 43 vQ 8 (.inl rfl)
  simp only[dm,cn,pU];cases xz:bz l a 38
  case true =>
   simp only[pZ,cn,cD];exact sign 38 xz 9 (.inr rfl)
  simp only[dm,cn,cD];left;refine⟨rfl,?_⟩;simp[ab.atom,mi,rK,ab.leaf,ab.word,ml gi,dU]
def Zc(n:Nat)(l:List ar)(a fin:Int):(rE n l a fin).aG=aa/\(ab.atom n ⟨l,a,fin,af⟩).2.aG=U (rE n l a fin).pos\/(rE n l a fin).aG=ak/\ab.atom n ⟨l,a,fin,af⟩=((rE n l a fin).node,⟨l,(rE n l a fin).next,fin,af⟩)\/n=0/\bz l a 35=true:=by
 cases n with
 | zero =>
  cases rK:bz l a 35
  .unfold rE iU
   by_cases h:bz l a 43=aa\/bz l a 38=aa
   .left;rw[aE h];have gi:bz l a 97=false:=by rcases h with h | h<;>exact ra h (by decide)
    exact⟨rfl,by simp[ab.atom,mi,rK,ab.leaf,ab.word,ml gi,dU]⟩
   .rw[aC h]
    have:=BN 1 l a fin
    simp only[ab.atom,mi,rK,dm,cn]
    rcases this with h | h
    .exact .inl h
    .exact .inr (.inl h)
  .exact .inr (.inr ⟨rfl,rfl⟩)
 | succ n =>
  unfold rE
  by_cases h:bz l a 43=aa\/bz l a 38=aa
  .left;rw[aE h];have gi:bz l a 97=false:=by rcases h with h | h<;>exact ra h (by decide)
   have rK:bz l a 35=false:=by rcases h with h | h<;>exact ra h (by decide)
   exact⟨rfl,by simp[ab.atom,mi,rK,ab.leaf,ab.word,ml gi,dU]⟩
  .rw[aC h];have vQ:bz l a 43=false:=by cases hq:bz l a 43 with | false=>rfl | true=>exact absurd (.inl hq) h
   have xz:bz l a 38=false:=by cases hq:bz l a 38 with | false=>rfl | true=>exact absurd (.inr hq) h
   have:=LW (n+1) l a fin
   simp only[ab.label,mi,vQ,xz,dm,cn] at this
   rcases this with h | h
   .exact .inl h
   .exact .inr (.inl h)
def adR(n:Nat):Alike (ab.field (n+1)) (zc (n+1)):=λl a fin=>by
 have fu:∀(b:Int),∀r:ab,r.aG=U b->∀m,(ab.atom m r).2.aG=U b:=λb r hr m=>by
  have e:∀k,r.bT k=false:=λk=>by simp[ab.bT,ab.ok,hr]
  have e2:r.take 97=(.zero,r):=by simp[ab.take,e,ab.fail,hr]
  simp[ab.atom,e,ab.leaf,ab.word,e2,hr]
 unfold zc ab.field;cases h:bz l a 97
 .left;simp only[ab.word,ml h,cD];refine⟨rfl,fu _ _ ?_ _⟩;simp[ab.take,ab.bT,ab.ok,ab.fail,dU]
 simp only[ab.word,lS h,pZ,cn];cases h2:bz l (a+1) 61
 .left;simp only[ml h2,cD];exact⟨rfl,fu _ _ rfl _⟩
 simp only[lS h2,pZ,cn];have e2:a+1+1=a+2:=by omega
 rw[e2];unfold cf.put
 rcases Zc (n+1) l (a+2) fin with ⟨p1,p2⟩ | ⟨p1,p2⟩ | ⟨h0,_⟩
 .left;rw[aE p1];exact⟨p1,p2⟩
 .right;rw[p1,p2,vj h];exact⟨rfl,rfl⟩
 .omega
def VI{fin:Int}{nx:Int}{X:(ab × List Nd) × List aA}(r1:ab)(hr:r1=⟨(bI l a).ah,nx,(bI l a).fin,af⟩)
 (hX:X=if r1.bT 124=aa then(((r1.take 124).2.word.2,ks),[(r1.take 124).2.word.1]) else((r1,ks),[])) :
 (rl l a ks nx).aG=aa/\((⟨l,a+1,fin,af⟩:ab).under X.1.1).aG=U (rl l a ks nx).pos \/
 (rl l a ks nx).aG=ak/\((Nd.mk 10 (fH l a).pos [] X.2 X.1.2,(⟨l,a+1,fin,af⟩:ab).under X.1.1):Nd × ab)=((rl l a ks nx).node,⟨l,(rl l a ks nx).next,fin,af⟩):=by
 subst hr;unfold rl;simp only[mi] at hX;cases J7:bz (bI l a).ah nx 124
 .rw[J7] at hX;simp only[dm,cn] at hX ⊢;subst hX;unfold wF
  by_cases hn:nx<(bI l a).ah.length
  .left;rw[aE hn];exact⟨rfl,by simp[ab.under,ab.close,ab.ok,hn,ab.fail,B2,dU]⟩
  .right;rw[aC hn];exact⟨rfl,by simp[ab.under,ab.close,hn]⟩
 .rw[J7] at hX;simp only[cD,lS J7] at hX ⊢;cases gi:bz (bI l a).ah (nx+1) 97
  .left;have e:nameAt (bI l a).ah (nx+1) (bI l a).fin=dU (bI l a).ah (nx+1) (bI l a).fin:=Um gi;rw[e];simp only[dU,cD];subst hX;exact⟨trivial,by simp[ab.word,ml gi,ab.under,ab.close,ab.ok]⟩
  .rw[Un gi];simp only[dm,cn];have hw:(⟨(bI l a).ah,nx+1,(bI l a).fin,af⟩:ab).word=(⟨(fH (bI l a).ah (nx+1)).an,(fH (bI l a).ah (nx+1)).pos⟩,⟨(bI l a).ah,nx+1+1,(bI l a).fin,af⟩):=by
    simp[ab.word,lS gi,vj gi]
   rw[hw] at hX;subst hX;unfold wF
   by_cases hn:nx+1+1<(bI l a).ah.length
   .left;rw[aE hn];exact⟨rfl,by simp[ab.under,ab.close,ab.ok,hn,ab.fail,B2,dU]⟩
   .right;rw[aC hn];exact⟨rfl,by simp[ab.under,ab.close,hn,su,Nd.an,Nd.pos]⟩
def apH(n:Nat):Alike (ab.row (n+1)) (lO (n+1)):=λl a fin=>by
 unfold lO;simp only[ab.row,mi];cases gi:bz l a 97
 case true =>
  simp only[ra gi (show(97:Int)≠91 by decide),dm,cn,cD]
  have:=BN 1 l a fin
  simp only[iU,gi,cD];exact this
 simp only[dm,cn];cases Gf:bz l a 91
 case false =>
  left;simp only[dm,cn,cD];exact⟨rfl,by simp[ab.leaf,ab.word,ml gi,dU]⟩
 simp only[pZ,cn,cD,lS Gf,vj Gf];have eJ:(bI l a).inner=⟨(bI l a).ah,0,(bI l a).fin,af⟩:=rfl
 by_cases lF:0<(bI l a).ah.length/\bz (bI l a).ah 0 124=ak
 .rw[aE lF];have hX:ab.rowOf (n+1) (bI l a)=if (dS (cc (ab.field (n+1))) (bI l a).inner).1.bT 124=aa then((((dS (cc (ab.field (n+1))) (bI l a).inner).1.take 124).2.word.2,(dS (cc (ab.field (n+1))) (bI l a).inner).2),[((dS (cc (ab.field (n+1))) (bI l a).inner).1.take 124).2.word.1]) else(dS (cc (ab.field (n+1))) (bI l a).inner,[]):=by
   unfold ab.rowOf ab.mK;rw[aC (by omega)]
   have:(bI l a).inner.bT 124=false:=by rw[eJ,mi];exact lF.2
   simp[this]
  have hs:(u_ (n+1) l a).2.aG=aa/\(dS (cc (ab.field (n+1))) (bI l a).inner).1.aG=U (u_ (n+1) l a).2.pos\/(u_ (n+1) l a).2.aG=ak/\dS (cc (ab.field (n+1))) (bI l a).inner=(⟨(bI l a).ah,(u_ (n+1) l a).2.next,(bI l a).fin,af⟩,(u_ (n+1) l a).1) :=
   NR (adR n) (Yj (n+1)) (bI l a).ah (bI l a).fin ((bI l a).ah.length+1) (bI l a).ah.length 0 [] (by omega) (by omega) (by omega)
  generalize dS (cc (ab.field (n+1))) (bI l a).inner=G'' at hX hs;generalize u_ (n+1) l a=S at hs ⊢
  rcases hs with ⟨p1,p2⟩ | ⟨p1,p2⟩
  .left;rw[aE p1];have kS:G''.1.bT 124=false:=by simp[ab.bT,ab.ok,p2]
   rw[hX,kS];simp only[dm,cn];have hc:G''.1.close=G''.1:=by simp[ab.close,ab.ok,p2]
   exact⟨p1,by simp[ab.under,hc,p2]⟩
  .rw[p1];simp only[dm,cn];rw[p2] at hX;exact VI _ rfl hX
 .rw[aC lF];refine VI (ks:=[]) (nx:=0) (bI l a).inner eJ ?_;unfold ab.rowOf ab.mK
  by_cases hk:(bI l a).ah.length=0
  .rw[aE hk]
   have:(bI l a).inner.bT 124=false:=by rw[eJ,mi];simp[jv.1 hk,bz]
   rw[this];simp
  .rw[aC hk];have h0:bz (bI l a).ah 0 124=true:=by
    cases hq:bz (bI l a).ah 0 124 with
    | true=>rfl
    | false=>exact absurd ⟨by omega,hq⟩ lF
   have:(bI l a).inner.bT 124=true:=by rw[eJ,mi];exact h0
   simp only[this,cD]
def Vz{one:ab->Nd × ab}(H:Alike one g)(l:List ar)(a fin:Int):
 (g l a fin).aG=aa/\fp one l a fin=(.zero,0,U (g l a fin).pos)\/(g l a fin).aG=ak/\fp one l a fin=((g l a fin).node,(g l a fin).next,af):=by
 unfold fp
 rcases H l a fin with ⟨p1,p2⟩ | ⟨p1,p2⟩
 .left;rw[p2];exact⟨p1,rfl⟩
 .right;rw[p2];exact⟨p1,rfl⟩
def EG{fin:Int}(h:bz l a 97=aa):(⟨l,a,fin,af⟩:ab).word=(yC l a,⟨l,a+1,fin,af⟩):=by
 simp[ab.word,lS h,vj h,yC]
def EF{fin:Int}(h:bz l a 97=ak):(⟨l,a,fin,af⟩:ab).word=(⟨[],0⟩,⟨l,a,fin,U (nC l a fin)⟩):=by
 simp[ab.word,ml h,ar.zero,ar.tok]
def H4{fin b:Int}:(⟨l,a,fin,U b⟩:ab).take k=(.zero,⟨l,a,fin,U b⟩):=by
 simp[ab.take,ab.bT,ab.ok,ab.fail]
def Xo{fin b:Int}:(⟨l,a,fin,U b⟩:ab).word=(⟨[],0⟩,⟨l,a,fin,U b⟩):=by
 simp[ab.word,H4,ar.zero,ar.tok]
def yi{i:ab}{b:Int}(h:i.aG=U b):∀n acc,(ab.fW n i acc).1.aG=U b
 | 0,_=>h
 | n+1,_=>by simp[ab.fW,h]
section
variable {N:Int} (h0:0<=N)
include h0
theorem UU{l:List ar}{fin:Int}(hl:lh N l)(hf:In N fin):∀(n a:Nat) (acc:List (aA × aA)),l.length<n+a->a<=l.length ->
 (uZ l fin n a acc).2 = -1/\(ab.fW n ⟨l,a,fin,af⟩ acc).1.aG=af/\(ab.fW n ⟨l,a,fin,af⟩ acc).2=(uZ l fin n a acc).1 \/
 In N (uZ l fin n a acc).2/\(ab.fW n ⟨l,a,fin,af⟩ acc).1.aG=U (uZ l fin n a acc).2
 | 0,a,acc,hn,ha=>by omega
 | n + 1, a, acc, hn, ha => by
  simp only[ab.fW,uZ,ne_eq,Hu,cn];cases h1:bz l (a:Nat) 97
  .right;simp only[cD,EF h1,H4,Xo];refine⟨sn h0 hl hf,?_⟩;split
   .rfl
   .exact yi rfl _ _
  simp only[EG h1,pZ,cn];cases h2:bz l ((a+1:Nat):Int) 60
  .right;have vP : bz l ((a:Int)+1) 60=false:=h2;simp only[cD,ml vP,Xo,H4];refine⟨sn h0 hl hf,?_⟩;split
   .rfl
   .exact yi rfl _ _
  have vP : bz l ((a:Int)+1) 60=true:=h2;simp only[lS vP,pZ,cn];rw[show(a:Int)+1+1=((a+2:Nat):Int) by omega];cases h3:bz l ((a+2:Nat):Int) 97
  .right;simp only[cD,EF h3,H4];refine⟨sn h0 hl hf,?_⟩;split
   .rfl
   .exact yi rfl _ _
  have kR:=(qk h3).2;simp only[EG h3,pZ,cn];rw[show((a+2:Nat):Int)+1=((a+3:Nat):Int) by omega]
  by_cases iv:a+3=l.length
  .left;rw[aE iv,aE (show((a+3:Nat):Int)=(l.length:Int) by omega)];exact⟨rfl,rfl,rfl⟩
  rw[aC iv,aC (show ¬((a+3:Nat):Int)=(l.length:Int) by omega)];cases h4:bz l ((a+3:Nat):Int) 44
  .right;simp only[cD,ml h4];exact⟨sn h0 hl hf,yi rfl _ _⟩
  simp only[lS h4,pZ,cn];rw[show((a+3:Nat):Int)+1=((a+4:Nat):Int) by omega];exact UU hl hf n (a+4) _ (by omega) (by omega)
def PA(l:List ar)(fin:Int)(P:ab × aq)(R:aq × Int × Int):Prop :=
 0<=R.2.2/\P.1.aG=U R.2.2\/R.2.2<0/\P=(⟨l,R.2.1,fin,af⟩,R.1)
def Ha(ks:List UInt8):Prop:=∀k∈ks,k=110\/k=102\/k=119\/k=112\/k=116\/k=114
theorem an3{fin:Int}(hl:lh N l)(hf:In N fin)(hm:0<bd l){k:UInt8}(c:aq)(a:Nat)(hk:k=110\/k=102\/k=119\/k=112\/k=116\/k=114)(hp:k=112->c.bm=[]):
 PA l fin (c_ k (⟨l,a,fin,af⟩,c)) (lN k c l a fin):=by
 have hs:∀b,In N (nC l b fin):=λb=>sn h0 hl hf
 rcases hk with rfl | rfl | rfl | rfl | rfl | rfl
 .simp only[c_,lN];cases h:bz l (a:Nat) 97
  .left;simp[EF h];exact(hs _).1
  .right;simp[EG h]
 .simp only[c_,lN];cases h:bz l (a:Nat) 97
  .left;simp[EF h];exact(hs _).1
  .right;simp[EG h]
 .have hi:=Xs h0 (a:=(a:Nat)) hl hf
  rcases asL l (a:Nat) fin with ⟨p1,p2⟩ | ⟨p1,p2⟩
  .left;simp[c_,lN,p1,p2];exact hi.1
  .right;simp[c_,lN,p1,p2]
 .have hp:=hp rfl;cases h:bz l (a:Nat) 123
  .left;simp[c_,lN,o9,ml h,h];exact(hs _).1
  .obtain⟨hk,qT⟩:=H8 h0 (a:=(a:Nat)) hl;have ha:=UU h0 hk qT ((bI l (a:Nat)).ah.length+1) 0 [] (by omega) (by omega);have eJ:(bI l (a:Nat)).inner=⟨(bI l (a:Nat)).ah,((0:Nat):Int),(bI l (a:Nat)).fin,af⟩:=rfl
   by_cases hz:(bI l (a:Nat)).ah.length=0
   .right;simp only[c_,lN,o9,lS h,h,BV];simp[hz,hp]
   .simp only[c_,lN,o9,lS h,h,BV,eJ];generalize ab.fW ((bI l (a:Nat)).ah.length+1) ⟨(bI l (a:Nat)).ah,((0:Nat):Int),(bI l (a:Nat)).fin,af⟩ []=G'' at ha ⊢;generalize uZ (bI l (a:Nat)).ah (bI l (a:Nat)).fin ((bI l (a:Nat)).ah.length+1) 0 []=F at ha ⊢
    rcases ha with ⟨p1,p2,p3⟩ | ⟨p1,p2⟩
    .right;simp[hz,p1,p2,p3,ab.ue]
    .left
     have:=p1.1
     simp[hz,p2,ab.ue];exact this
 .have hi:=DQ h0 (bd l) l (a:Nat) fin hl hf;obtain⟨m,hm⟩:∃m,bd l=m+1:=⟨bd l - 1,by omega⟩;rw[hm] at hi;have e1:lN 116 c l (a:Nat) fin=if (iU (bd l) l (a:Nat) fin).aG=aa then(c,(a:Int),(iU (bd l) l (a:Nat) fin).pos) else(if c.left.kind=0 then {c with left:=(iU (bd l) l (a:Nat) fin).node} else {c with right:=(iU (bd l) l (a:Nat) fin).node},(iU (bd l) l (a:Nat) fin).next,-1):=rfl
  have e2:c_ 116 (⟨l,a,fin,af⟩,c)=iO ⟨l,a,fin,af⟩ c (fp (ab.label (bd l)) l (a:Nat) fin):=rfl;rw[e1,e2,hm];have ha:=Vz (LW (m+1)) l (a:Nat) fin;generalize fp (ab.label (m+1)) l (a:Nat) fin=T at ha ⊢;generalize iU (m+1) l (a:Nat) fin=g at ha hi ⊢
  rcases ha with ⟨p1,p2⟩ | ⟨p1,p2⟩
  .left;rw[aE p1,p2];exact⟨hi.1,rfl⟩
  .right;rw[aC (by simp[p1]),p2];exact⟨show(-1:Int)<0 by decide,rfl⟩
 .have hi:=VJ h0 (bd l) l (a:Nat) fin hl hf;obtain⟨m,hm⟩:∃m,bd l=m+1:=⟨bd l - 1,by omega⟩;rw[hm] at hi;have e1:lN 114 c l (a:Nat) fin=if (lO (bd l) l (a:Nat) fin).aG=aa then(c,(a:Int),(lO (bd l) l (a:Nat) fin).pos) else(if c.left.kind=0 then {c with left:=(lO (bd l) l (a:Nat) fin).node} else {c with right:=(lO (bd l) l (a:Nat) fin).node},(lO (bd l) l (a:Nat) fin).next,-1):=rfl
  have e2:c_ 114 (⟨l,a,fin,af⟩,c)=iO ⟨l,a,fin,af⟩ c (fp (ab.row (bd l)) l (a:Nat) fin):=rfl;rw[e1,e2,hm];have ha:=Vz (apH m) l (a:Nat) fin;generalize fp (ab.row (m+1)) l (a:Nat) fin=T at ha ⊢;generalize lO (m+1) l (a:Nat) fin=g at ha hi ⊢
  rcases ha with ⟨p1,p2⟩ | ⟨p1,p2⟩
  .left;rw[aE p1,p2];exact⟨hi.1,rfl⟩
  .right;rw[aC (by simp[p1]),p2];exact⟨show(-1:Int)<0 by decide,rfl⟩
theorem HE{b:Int}:∀(ks:List UInt8) (x:ab × aq),x.1.aG=U b->(hH ks x).1.aG=U b
 | [],_,h=>h
 | k :: ks, x, h => by
  simp only[hH];exact HE ks _ (by simp[c_,h])
theorem an2{k:UInt8}{fin:Int}(hk:k≠112):(lN k c l a fin).1.bm=c.bm:=by
 unfold lN;split
 .split
  .split<;>rfl
  .rfl
 split
 .split<;>rfl
 generalize (if k=114 then lO (bd l) l a fin else iU (bd l) l a fin)=g;simp only[];cases g.aG
 .simp only[dm,cn];split<;>rfl
 .rfl
theorem MR{l:List ar}{fin:Int}(hl:lh N l)(hf:In N fin)(hm:0<bd l):∀(ks:List UInt8) (c:aq) (a:Nat),Ha ks->ks.count 112<=1->(112∈ks->c.bm=[]) ->
 PA l fin (hH ks (⟨l,a,fin,af⟩,c)) (u7 l fin ks c a)
 | [],c,a,_,_,_=>.inr ⟨by simp[u7],rfl⟩
 | k :: ks, c, a, hk, hc, hp => by
  have h1:=an3 h0 hl hf hm c a (hk k (by simp)) (λh=>hp (by simp[h]));obtain⟨a',Gi,_⟩:=an1 k c l a fin;have GI:=an2 h0 (k:=k) (c:=c) (l:=l) (a:=(a:Nat)) (fin:=fin);simp only[hH,u7];generalize lN k c l (a:Nat) fin=R at h1 Gi GI ⊢
  rcases h1 with ⟨p1,p2⟩ | ⟨p1,p2⟩
  .rw[aE p1];exact .inl ⟨p1,HE h0 ks _ p2⟩
  .rw[aC (by omega),p2,Gi]
   by_cases e:k=112
   .have hn:ks.count 112=0:=by rw[e] at hc;rw[ON] at hc;omega
    exact MR hl hf hm ks _ a' (λk h=>hk k (by simp[h])) (by omega) (λh=>absurd h (OO.1 hn))
   .refine MR hl hf hm ks _ a' (λk h=>hk k (by simp[h])) ?_ (λh=>?_)
    .rw[List.count_cons_of_ne e] at hc;exact hc
    .rw[GI e];exact hp (by simp[h])
end
def UA{w:List UInt8}:∀n op,(∀k:Nat,op<=k->k<op+n->0<k->(cp k).1≠w)->nj w n op=0
 | 0,_,_=>rfl
 | n + 1, op, h => by
  simp only[nj];rw[aC (λ⟨x,y⟩=>h op (by omega) (by omega) x y)];exact UA n (op+1) λk a b c=>h k (by omega) (by omega) c
def UI{w:List UInt8}(r:Int):∀n op,(∀k:Nat,op<=k->k<op+n->(cp k).1≠w)->Ae w n op r=r
 | 0,_,_=>rfl
 | n + 1, op, h => by
  simp only[Ae];rw[aC (λe=>h op (by omega) (by omega) e.symm)];exact UI r n (op+1) λk a b=>h k (by omega) (by omega)
def amB(w:List UInt8):iD w=Ae w 15 1 0:=by
 by_cases h:∃k:Nat,k<16/\0<k/\(cp k).1=w
 .obtain⟨k,h1,h2,rfl⟩:=h;have key:∀k:Nat,k<16->0<k->nj (cp k).1 16 0=Ae (cp k).1 15 1 0:=by decide +kernel
  exact key k h1 h2
 .have hn:∀k:Nat,k<16->0<k->(cp k).1≠w:=λk h1 h2 e=>h ⟨k,h1,h2,e⟩
  unfold iD;rw[UA 16 0 (λk _ h1 h2=>hn k (by omega) h2),UI 0 15 1 (λk h1 h2=>hn k (by omega) (by omega))]
def F5(op:Int):Ha (cp op).2/\(cp op).2.count 112<=1:=by
 unfold cp Ha;split
 .rename_i h1;have aB:op.toNat<16:=by omega
  generalize op.toNat=n at aB ⊢;have key:∀n<16,(∀k∈(jS.getD n ([],[])).2,k=110\/k=102\/k=119\/k=112\/k=116\/k=114)/\(jS.getD n ([],[])).2.count 112<=1:=by decide +kernel
  exact key n aB
 .simp
def aaY(h0:0<=N){fin:Int}(hl:lh N l)(hf:In N fin):sG l fin=uo l fin:=by
 cases l with
 | nil=>rfl
 | cons t ts =>
  have hm:0<bd (t::ts):=by have:=lM (t::ts);simp at this;omega
  have hk:bz (t::ts) ((0:Nat):Int) 97=decide (t.tok.kind=97):=by simp[bz]
  unfold sG uo;simp only
  by_cases gi:t.tok.kind=97
  .have rN:bz (t::ts) 0 97=true:=by have:=hk;simp only[gi,bM] at this;exact this
   have hw:(⟨t::ts,0,fin,af⟩:ab).word=(⟨t.tok.an,t.tok.pos⟩,⟨t::ts,((1:Nat):Int),fin,af⟩):=by
    rw[EG rN];rfl
   simp only[hw,aE gi,<-amB];generalize iD t.tok.an=op
   by_cases hz:op=0
   .rw[aE hz,aE hz]
   .rw[aC hz,aC hz];obtain⟨f1,f2⟩:=F5 op;have Dw:=MR h0 hl hf hm (cp op).2 {aq.zero with op:=op,pos:=t.tok.pos} 1 f1 f2 (λ_=>rfl);rw[show((1:Nat):Int)=1 from rfl] at Dw ⊢;generalize u7 (t::ts) fin (cp op).2 {aq.zero with op:=op,pos:=t.tok.pos} 1=R at Dw ⊢
    rcases Dw with ⟨p1,p2⟩ | ⟨p1,p2⟩
    .rw[aE p1];unfold vK;simp[p2]
    .rw[aC (by omega),p2];unfold vK
     by_cases iv:R.2.1<((t::ts).length:Int)
     .rw[aE iv];simp only[pU,aE iv,ab.fail,B2]
     .rw[aC iv];simp only[pU,aC iv]
  .have rN:bz (t::ts) 0 97=false:=by have:=hk;simp only[gi,fk] at this;exact this
   rw[EF rN,aC gi]
   have:iD []=0:=by decide +kernel
   simp only[this,cD]
def aph(s:List UInt8):cW s=Ng s:=by
 unfold cW Ng;rw[Ay];have h:=(TQ s).1;rw[aaY (N:=s.length) (by omega) h ⟨by omega,by omega⟩]
 all_goals rcases(dR s).2 with _ | a<;>first | rfl | (cases (gS (dR s).1).2<;>rfl)
def MV(h:c.fx=aa)(h1:1<=c.op):∀q∈lJ (cp c.op).2 [c.left,c.right],yS q.1 c q.2:=by
 simp only[aq.fx,bC,ca] at h;obtain⟨⟨⟨⟨h0,hn⟩,kS⟩,hp⟩,ht⟩:=h;obtain⟨hk,_,_⟩:=C2 h1 h0.2;simp only[aq.mI,aq.j4,aq.k_,aq.jI,eW] at hn kS hp ht;have nm:∀l,o6 (l.map aA.an)=aa->hZ l=true:=λl h=>alU h
 simp only[DO,kI,EX,D9] at hk
 rcases hk with e | e | e | e | e | e | e
 all_goals simp[e] at hn kS hp ht
 all_goals simp[e,lJ,isTerm,yS]
 .exact⟨hn,kS.1,nm _ kS.2⟩
 .exact⟨hn,⟨kS.1,nm _ kS.2⟩,hp⟩
 .exact⟨hn,ht.1,ht.2⟩
 .exact⟨hn,ht.1,ht.2⟩
 .exact⟨hn,kS.1,nm _ kS.2⟩
 .exact hn
mutual
def Nd.yn:∀(n m:Nd),n.cK m=aa->m.cK n=aa
 | .mk k p t ws ks, m, h => by
  rw[Nd.Ap] at h;simp only[bC,ca] at h;obtain⟨⟨⟨h1,h2⟩,h3⟩,h4⟩:=h;refine tG h1.symm h2.symm ?_ (Wi ks m.ah h4);rw[Ej] at h3 ⊢;simp only[ca] at h3 ⊢;exact h3.symm
def Wi:∀(a b:List Nd),cZ a b=aa->cZ b a=aa
 | [],[],_=>by simp[cZ]
 | [],_::_,h=>by simp[cZ] at h
 | _::_,[],h=>by simp[cZ] at h
 | n :: ns, m :: ms, h => by
  simp only[cZ,bC] at h ⊢;exact⟨Nd.yn n m h.1,Wi ns ms h.2⟩
end
def V':∀(a b:List (aA × aA)),lf a b=aa->lf b a=aa
 | [],[],_=>rfl
 | [],_::_,h=>by simp[lf] at h
 | _::_,[],h=>by simp[lf] at h
 | p :: ps, q :: qs, h => by
  simp only[lf,bC,ca] at h ⊢;exact⟨⟨h.1.1.symm,h.1.2.symm⟩,V' ps qs h.2⟩
def aq.yn{a b:aq}(h:a.cK b=aa):b.cK a=true:=by
 unfold aq.cK at h ⊢;rw[Ej] at h ⊢;simp only[bC,ca] at h ⊢;obtain⟨⟨⟨⟨⟨h1,h2⟩,h3⟩,h4⟩,h5⟩,h6⟩:=h;exact⟨⟨⟨⟨⟨h1.symm,h2.symm⟩,h3.symm⟩,V' _ _ h4⟩,Nd.yn _ _ h5⟩,Nd.yn _ _ h6⟩
def To{m n:Nd}(h:m.cK n=aa):m.kind=n.kind:=by
 rw[Nd.Ap] at h;simp only[bC,ca] at h;exact h.1.1.1
def Tr{n:Nd}(h:n.eY=aa):n.kind≠0:=by
 rcases DS h with ⟨h,_⟩ | ⟨h,_⟩ | ⟨h,_⟩<;>omega
def VL{n:Nd}(h:n.iX=aa):n.kind≠0:=by
 rcases Eh h with ⟨h,_⟩ | ⟨h,_⟩<;>omega
def acS{d:aq}(h:c.fx=aa)(h1:1<=c.op)(he:EN c (lJ (cp c.op).2 [c.left,c.right]) {aq.zero with op:=c.op,pos:=p} d):d.cK c=true:=by
 simp only[aq.fx,bC,ca] at h;obtain⟨⟨⟨⟨h0,hn⟩,kS⟩,hp⟩,ht⟩:=h;obtain⟨hk,_,_⟩:=C2 h1 h0.2;simp only[aq.mI,aq.j4,aq.k_,aq.jI,eW] at hn kS hp ht;simp only[DO,kI,EX,D9] at hk;have zl:∀n:Nd,n.cK .zero=aa->Nd.zero.cK n=true:=λn h=>Nd.yn _ _ h
 have hz:(Nd.zero).kind=0:=rfl;have w0:c.aj=[]->dy [] c.aj=true:=λe=>by rw[e];rfl
 have p0:c.bm=[]->lf [] c.bm=true:=λe=>by rw[e];rfl
 rcases hk with e | e | e | e | e | e | e
 all_goals simp[e] at hn kS hp ht
 all_goals simp[e,lJ,isTerm,EN,EM] at he
 .obtain⟨c1,⟨w,a1,rfl⟩,ws,a2,rfl⟩:=he;simp[aq.cK,a1,a2,aq.zero,p0 hp,zl _ ht.1,zl _ ht.2]
 .obtain⟨c1,⟨w,a1,rfl⟩,c2,⟨ws,a2,rfl⟩,ps,a3,⟨a,rfl⟩⟩:=he;simp[aq.cK,a1,a2,a3,aq.zero,zl _ ht.1,zl _ ht.2]
 .obtain⟨c1,⟨w,a1,rfl⟩,c2,⟨m,a2,rfl⟩,m2,a3,rfl⟩:=he
  have:=To a2
  have:=Tr ht.1
  have hm:m.kind≠0:=by omega
  simp[aq.cK,a1,a2,a3,aq.zero,hz,hm,w0 kS,p0 hp]
 .obtain⟨c1,⟨w,a1,rfl⟩,c2,⟨m,a2,rfl⟩,m2,a3,rfl⟩:=he
  have:=To a2
  have:=VL ht.1
  have hm:m.kind≠0:=by omega
  simp[aq.cK,a1,a2,a3,aq.zero,hz,hm,w0 kS,p0 hp]
 .obtain⟨c1,⟨w,a1,rfl⟩,ws,a2,rfl⟩:=he;simp[aq.cK,a1,a2,aq.zero,p0 hp,zl _ ht.1,zl _ ht.2]
 .subst he;simp[aq.cK,aq.zero,hn,w0 kS,p0 hp,zl _ ht.1,zl _ ht.2]
 .obtain⟨w,a1,rfl⟩:=he;simp[aq.cK,a1,aq.zero,w0 kS,p0 hp,zl _ ht.1,zl _ ht.2]
def aaW(h:c.fx=aa)(h1:1<=c.op)(ht:toks.map Tok.sh=Em c):
 ∃us:List ar,bn us=toks/\fj us/\∀fin:Int,∃d:aq,sG us fin=(d,0,0)/\d.cK c=true:=by
 have sN:c.op<=15:=by simp only[aq.fx,bC,ca] at h;exact h.1.1.1.1.2
 obtain⟨_,k2,k3⟩:=C2 h1 sN;unfold Em at ht;obtain⟨t1,t2,rfl,a1,a2⟩:=jd.1 ht;obtain⟨u1,n1,f1,w1,b1⟩:=wT ⟨(cp c.op).1,0⟩ t1 a1;obtain⟨u2,f2,w2,b2⟩:=U2 (lJ (cp c.op).2 [c.left,c.right]) (MV h h1) (by rw[L8];exact(F5 c.op).2) t2 a2;refine⟨u1++u2,by rw[g_,f1,f2],by rw[jO];exact⟨w1,w2⟩,λfin=>?_⟩;obtain⟨y,q1,q2⟩:=b1 (bd u1) (bP _) [] u2 fin;have q1:(at_ [] (u1++u2) fin 0).word=(y,at_ u1 u2 fin 0):=q1;have q2:y.an=(cp c.op).1:=by simpa [pg] using q2
 obtain⟨d,e1,e2⟩:=b2 u1 fin {aq.zero with op:=c.op,pos:=y.pos} (λ_=>rfl);rw[L8] at e1;refine⟨d,?_,acS h h1 e2⟩;have hq:(⟨u1++u2,0,fin,af⟩:ab).word=(y,at_ u1 u2 fin 0):=q1;obtain⟨t,ts,hu⟩:∃t ts,u1++u2=t::ts:=by
  cases u1 with
  | nil=>exact absurd rfl n1
  | cons t r=>exact⟨t,r++u2,rfl⟩
 rw[hu] at hq ⊢;unfold sG;simp only[hq,q2,k3];rw[aC (by omega),e1];unfold vK;simp[at_]
end Go.Am
