/-
  Part 5 of the proof of StackPlaysUptoCardSaid: a logic over the model, the forms of the functions that the law reaches, and what they compute.
-/
import Derived.Test.YtnpggmhoandloaaGreatDoorPlays4
set_option linter.unusedVariables false
set_option linter.unusedSimpArgs false
set_option linter.defProp false
set_option linter.unusedSectionVars false
set_option maxRecDepth 4000
set_option maxHeartbeats 4000000
open Option renaming some->U,none->ah
open Bool renaming true->aa,false->aq
open List renaming replicate->aj,range->bH,zipWith->ng
open Eq renaming mpr->fF
open Ne renaming symm->gM
namespace Go.Am
section
variable {Y:Int->Int} {s:aH} {c:ar}
def Ni:(iE s (c.mp Y)).cls=0↔(iE s c).cls=0:=by rw[iE,iE,agj,Yp]
def amM:gi s (c.mp Y)=gi s c:=by rw[gi,gi,as4,xM.2 Ni];rfl
theorem ad0(h:gi s c=aa):jA s (c.mp Y)=jA s c:=by
 have hF:=Kl.1 h;have e:cD s (c.mp Y)=cD s c:=rfl;unfold jA;rw[e]
 by_cases h8:c.op=8
 .have NQ : (c.mp Y).op=8:=h8;rw[aL h8,aL NQ];obtain⟨q1,q2⟩:=hF.labels h8;have k2:c.right.kind=1\/0<c.right.ae.length:=by
   rcases hF.right h8 with k | k
   .omega
   .exact .inr (by rw[Da q2 k];omega)
  have e1:kR s (cD s c) (c.mp Y).left=kR s (cD s c) c.left:=by
   show kR s (cD s c) (c.left.mp Y)=_;rw[kR,kR,Kv,agu _ q1]
  have e2:o_ s (cD s c).toNat (c.mp Y).right=o_ s (cD s c).toNat c.right:=T_ k2
  grind
 .have NQ : ¬(c.mp Y).op=8:=h8;rw[aB h8,aB NQ]
  by_cases h9:c.op=9
  .have Gy : (c.mp Y).op=9:=h9;rw[aL h9,aL Gy];obtain⟨q1,q2⟩:=hF.rows h9;have e1:kf s (cD s c).toNat (c.mp Y).left=kf s (cD s c).toNat c.left:=aa4 (Fq q1);have e2:kf s (cD s c).toNat (c.mp Y).right=kf s (cD s c).toNat c.right:=aa4 (Fq q2)
   grind
  .have Gy : ¬(c.mp Y).op=9:=h9;rw[aB h9,aB Gy];have eK:c.op=10:=by have:=hF.op;omega
   obtain⟨w,hw,_⟩:=hF.one eK;have e1:((c.mp Y).ak.getD 0 ⟨[],0⟩).an=(c.ak.getD 0 ⟨[],0⟩).an:=by simp only[ar.mp,hw];rfl
   rw[e1];rfl
def AN(s:aH)(c:ar):dJ:=if gi s c then jA s c else .zero
def T0:AN s (c.mp Y)=AN s c:=by
 unfold AN;rw[amM];split
 .rename_i h;exact ad0 h
 .rfl
def RP:∀{a b:List aC},eX a b=aa->a.map (aC.mp λ_=>0)=b.map (aC.mp λ_=>0)
 | [],[],_=>rfl
 | [],_::_,h=>by simp[eX] at h
 | _::_,[],h=>by simp[eX] at h
 | w :: ws, u :: us, h => by
  simp only[eX,bO,cU] at h;rw[cQ,cQ,RP h.2,aC.mp,aC.mp,h.1]
mutual
def RN:∀{n m:Nd},n.dm m=aa->n.mp (λ_=>0)=m.mp λ_=>0
 | .mk k p t ws ks, .mk k' p' t' ws' ks', h => by
  rw[Nd.dm] at h;simp only[bO,Nd.kind,Nd.an,Nd.ak,Nd.ae] at h;obtain⟨⟨⟨h1,h2⟩,h3⟩,h4⟩:=h;have h1:=QN h1;have h2:=QN h2;rw[Nd.mp,Nd.mp,h1,h2,RP h3,abo h4]
def abo:∀{a b:List Nd},dY a b=aa->BC (λ_=>0) a=BC (λ_=>0) b
 | [],[],_=>rfl
 | [],_::_,h=>by simp[dY] at h
 | _::_,[],h=>by simp[dY] at h
 | n :: ns, m :: ms, h => by
  simp only[dY,bO] at h;rw[BC,BC,RN h.1,abo h.2]
end
def abr:∀{a b:List (aC × aC)},mS a b=aa->a.map (λp=>(p.1.mp λ_=>0,p.2.mp λ_=>0))=b.map λp=>(p.1.mp λ_=>0,p.2.mp λ_=>0)
 | [],[],_=>rfl
 | [],_::_,h=>by simp[mS] at h
 | _::_,[],h=>by simp[mS] at h
 | p :: ps, q :: qs, h => by
  simp only[mS,bO,cU] at h;rw[cQ,cQ,abr h.2];simp only[aC.mp,h.1.1,h.1.2]
def abn{c d:ar}(h:c.dm d=aa):c.mp (λ_=>0)=d.mp λ_=>0:=by
 simp only[ar.dm,bO,cU] at h;obtain⟨⟨⟨⟨⟨h1,h2⟩,h3⟩,h4⟩,h5⟩,h6⟩:=h;simp only[ar.mp,h1,RN h5,RN h6,abr h4,RP h3];simp only[aC.mp,h2]
def abC:(iw s (c.mp Y)).cls=0↔(iw s c).cls=0:=by
 have e:(c.mp Y).op=c.op:=rfl;rw[iw,iw,e];split
 .rw[auk,Yp]
 .rfl
variable{r:Rm}
def Np:(fH (iQ s r c)).cls=0↔(iw s c).cls=0/\(iE s c).cls=0/\jw r c=aq/\¬(c.op=12/\r.eg<=1):=by
 rw[P9,iQ];simp only[lk,m_,FY,HE];constructor
 .intro h;refine⟨h _ (.inl (.inl (.inl rfl))),h _ (.inl (.inl (.inr rfl))),?_,λh2=>?_⟩
  .cases hl:jw r c with
   | false=>rfl
   | true=>have:=h ⟨7,c.pos⟩ (.inl (.inr (by rw[cY,hl];simp)));simp at this
  .have:=h ⟨8,c.pos⟩ (.inr (by rw[cY,aG h2.1,aG h2.2];simp));simp at this
 .rintro⟨h1,h2,h3,h4⟩ f (((rfl | rfl) | hf) | hf)
  .exact h1
  .exact h2
  .rw[cY,h3] at hf;simp at hf
  .have:(decide (c.op=12)&&decide (r.eg<=1))=false:=by
    cases hb:(decide (c.op=12)&&decide (r.eg<=1)) with
    | false=>rfl
    | true=>simp only[bO,cU] at hb;exact absurd hb h4
   rw[cY,this] at hf;simp at hf
def an6{c d:ar}(h:c.dm d=aa):jw r d=jw r c:=by
 have ho:c.op=d.op:=by simp only[ar.dm,bO,cU] at h;exact h.1.1.1.1.1
 rw[jw,jw,<-aug h,ho]
def ajn{c d:ar}(h:c.dm d=aa)(hf:(fH (iQ s r c)).cls=0):(fH (iQ s r d)).cls=0:=by
 have e:=abn h;have ho:c.op=d.op:=by simp only[ar.dm,bO,cU] at h;exact h.1.1.1.1.1
 obtain⟨h1,h2,h3,h4⟩:=Np.1 hf;refine Np.2 ⟨?_,?_,by rw[an6 h];exact h3,by rw[<-ho];exact h4⟩
 .rw[<-abC (Y:=λ_=>0),<-e,abC];exact h1
 .rw[<-Ni (Y:=λ_=>0),<-e,Ni];exact h2
def ad1{c d:ar}(h:c.dm d=aa):AN s d=AN s c:=by rw[<-T0 (Y:=λ_=>0) (c:=d),<-abn h,T0]
variable{t:List UInt8}
def avC(h:(lV s r t).2.2.cls=0):(dC t).2=(0,0)/\lV s r t=((dC t).1,AN s (dC t).1,.zero) /\
 ∃d,dC (dq (dC t).1)=(d,0,0)/\(dC t).1.dm d=aa/\lV s r (dq (dC t).1)=(d,AN s (dC t).1,.zero):=by
 by_cases hr:(dC t).2.1=0
 case neg=>rw[Hp hr] at h;exact absurd h hr
 by_cases hf:(fH (iQ s r (dC t).1)).cls=0
 case neg=>rw[Hq hr hf] at h;exact absurd h hf
 rcases ai4 t with ⟨c,hc⟩ | ⟨k,a,hc,hk,_⟩
 case inr=>rw[hc] at hr;simp only at hr;omega
 have hl:=EZ hr hf;rw[hc] at hf hl ⊢;obtain⟨a1,a2,_⟩:=TI hc;obtain⟨_,l2,_⟩:=asS a1;obtain⟨d,e1,e2⟩:=l2 a2;refine⟨rfl,hl,d,e1,e2,?_⟩;have h0:(dC (dq c)).2.1=0:=by rw[e1]
 have h1:(fH (iQ s r (dC (dq c)).1)).cls=0:=by rw[e1];exact ajn e2 hf
 rw[EZ h0 h1,e1];show(d,AN s d,aM.zero)=_;rw[ad1 e2]
end
structure CB(B:Nat)(c:ar):Prop where
 ns:fk c.ak<=B
 ps:c.aX.length<=B
 l:c.left.wt<=B
 r:c.right.wt<=B
 nm:c.name.an.length<=B
 pt:kz c.aX<=34*B
def Vi{r r' : af}{seg:List aA}(h:jQ r r' seg):kg seg<=kg r.l:=by
 obtain⟨pre,post,e,_,_⟩:=h.ex;rw[e,Ae,Ae];omega
theorem SF{r:af}(hg:fV r.l)(hb:r.aO=ah):r.word.1.an.length<=16:=by
 cases h:(r.take 97).2.aO with
 | none=>exact Sm ((q_ h).1.lu hg).1
 | some b =>
  have:(r.take 97).1 = .zero:=by
   unfold af.take at h ⊢
   grind
  simp[af.word,this,aA.zero,aA.tok]
def acG{r:af}(hg:fV r.l):r.word.1.an.length<=16:=by
 cases hb:r.aO with
 | none=>exact SF hg hb
 | some a =>
  have:r.cH 97=false:=by simp[af.cH,af.ok,hb]
  simp[af.word,af.take,this,aA.zero,aA.tok]
def aab{l:List (aC × aC)}{p:aC × aC}:kz (l++[p])=kz l+(p.1.an.length+p.2.an.length+2):=by simp[kz]
def ZK:∀(n:Nat) (i:af) (acc:List (aC × aC)),fV i.l->kz (af.iR n i acc).2<=kz acc+34*n
 | 0,_,_,_=>by simp[af.iR]
 | n + 1, i, acc, hg => by
  have e1:(i.word.2.take 60).2.l=i.l:=by rw[af.gW];exact af.gW i 97
  have e2:((i.word.2.take 60).2.word).2.l=i.l:=by rw[<-e1];exact af.gW _ 97
  have w1:=acG hg;have w2:((i.word.2.take 60).2.word).1.an.length<=16:=acG (by rw[e1];exact hg);simp only[af.iR];split
  .simp
  .split
   .simp only[aab];omega
   .have:=ZK n (((i.word.2.take 60).2.word).2.take 44).2 (acc++[(i.word.1,((i.word.2.take 60).2.word).1)]) (by rw[af.gW,e2];exact hg)
    simp only[aab] at this;omega
theorem avu{r:af}{k:Int}(hg:fV r.l):fV (r.take k).1.ae:=by
 cases h:(r.take k).2.aO with
 | none=>exact((A5 _).1 ((q_ h).1.lu hg).1).2.2
 | some b =>
  have:(r.take k).1.ae=[]:=by
   rcases r.xi k with ⟨_,_,hb,_⟩ | ⟨hs,_⟩
   .grind
   .simp[af.take,hs,aA.zero,aA.ae]
  rw[this];trivial
theorem ZI:∀(n:Nat) (i:af) (acc:List (aC × aC)),(af.iR n i acc).2.length<=acc.length+n
 | 0,_,_=>by simp[af.iR]
 | n + 1, i, acc => by
  simp only[af.iR];split
  .simp
  .split
   .simp
   .have:=ZI n (((i.word.2.take 60).2.word).2.take 44).2 (acc++[(i.word.1,((i.word.2.take 60).2.word).1)])
    grind
variable{B:Nat}{c:ar}
def Zl(h:CB B c){r:af}{g:Nd × Int × Option Int}(hg:g.1.wt<=B):CB B (ka r c g).2:=by
 unfold ka;cases g.2.2 with
 | some a=>exact h
 | none =>
  simp only;split
  .exact⟨h.ns,h.ps,hg,h.r,h.nm,h.pt⟩
  .exact⟨h.ns,h.ps,h.l,hg,h.nm,h.pt⟩
def aaw{one:af->Nd × af}{Q:Nd->Prop}(hs:Sound one Nd.dn Q SN){l:List aA}(hg:fV l)(a fin:Int):(gJ one l a fin).1.wt<=kg l+4:=by
 unfold gJ;cases hb:(one ⟨l,a,fin,ah⟩).2.aO with
 | some b=>simp only[LU];omega
 | none =>
  obtain⟨seg,e1,_,_,e4⟩:=hs ⟨l,a,fin,ah⟩ hg hb
  have:=Vi e1
  simp only[SN] at e4 this ⊢;omega
theorem arp{k:UInt8}{x:af × ar}(hg:fV x.1.l)(hB:kg x.1.l+20<=B)(h:CB B x.2):CB B (e_ k x).2:=by
 obtain⟨r,c⟩:=x;simp only at hg hB h;unfold e_;simp only;split
 .exact h
 rename_i hb;have hb:r.aO=none:=by grind
 split
 .exact⟨h.ns,h.ps,h.l,h.r,by have:=SF hg hb;simp only;omega,h.pt⟩
 split
 .refine⟨?_,h.ps,h.l,h.r,h.nm,h.pt⟩
  have:=SF hg hb
  simp[fk];omega
 split
 .refine⟨?_,h.ps,h.l,h.r,h.nm,h.pt⟩;show fk (kE r.l r.at_ r.fin).1<=B;unfold kE;cases hw:((⟨r.l,r.at_,r.fin,ah⟩:af).words aq).2.aO with
  | some b=>simp[fk]
  | none =>
   obtain⟨t,e1,_,_,_,e5⟩:=SG (r:=⟨r.l,r.at_,r.fin,ah⟩) hg hw
   have:=Vi e1
   grind
 split
 .unfold rK;simp only;split
  .exact⟨h.ns,h.ps,h.l,h.r,h.nm,h.pt⟩
  .have g1:=ZK ((r.take 123).1.ae.length+1) (r.take 123).1.inner [] (avu hg);have g2:=iv (r.take 123).1.ae;have g3:=(r.yA 123).1;refine⟨h.ns,?_,h.l,h.r,h.nm,by simp only[kg,kz,fp,u9] at hB g1 ⊢;omega⟩;have h1:=ZI ((r.take 123).1.ae.length+1) (r.take 123).1.inner [];have h2:=iv (r.take 123).1.ae;have h3:=(r.yA 123).1;simp only[kg,cZ] at hB h1 ⊢;omega
 split
 .exact Zl h (by have:=aaw (Kw (bj r.l)) hg r.at_ r.fin;omega)
 split
 .exact Zl h (by have:=aaw (aaQ (bj r.l)) hg r.at_ r.fin;omega)
 .exact h
def ZU{B:Nat}{l:List aA}{fin:Int}(hg:fV l)(hB:kg l+20<=B):∀(ks:List UInt8) (x:af × ar),lI l fin x->CB B x.2->CB B (jP ks x).2
 | [],_,_,h=>h
 | k::ks,x,hi,h=>ZU hg hB ks _ (ZN hi k) (arp (by rw[hi.hl];exact hg) (by rw[hi.hl];exact hB) h)
def FL(h:4<=B):CB B ar.zero:=⟨by simp[ar.zero,fk],by simp[ar.zero],by simp only[ar.zero,LU];omega,by simp only[ar.zero,LU];omega,by simp[ar.zero],by simp[ar.zero,kz]⟩
def aio{x:af × ar}(h4:4<=B)(h:CB B x.2):CB B (zf x).1:=by
 unfold zf;split
 .exact FL h4
 .exact h
def ago{l:List aA}{fin:Int}(hg:fV l)(hB:kg l+20<=B):CB B (wo l fin).1:=by
 unfold wo;split
 .exact FL (by omega)
 .rename_i t ts;simp only;split
  .exact FL (by omega)
  .refine aio (by omega) (ZU hg hB _ _ (fin:=fin) ?_ ?_)
   .exact lI.goes (x:=(⟨t::ts,0,fin,ah⟩,ar.zero)) ⟨rfl,rfl,by simp,by simp only;omega,λ_=>by simp only;omega⟩ rfl (A4 _) (H' _ 97)
   .have h:=FL (B:=B) (by omega);exact⟨h.ns,h.ps,h.l,h.r,h.nm,h.pt⟩
def Rp(s:List UInt8):CB (26*s.length+20) (dC s).1:=by
 unfold dC;rw[DF];split
 .exact FL (by omega)
 .split
  .exact FL (by omega)
  .refine ago (YG s) ?_
   have:=Qi s
   simp only[kg];omega
def kJ(s:aH)(c:ar):aH :=
 if (iw s c).cls≠0 then s
 else if gG c.op then ⟨s.bc++[⟨c.name.an,lB s c⟩],s.vars⟩
 else if dw c.op then ⟨s.bc,s.vars++c.ak.map λw=>⟨w.an,if c.op=7 then 2 else 1,bW (fD s.bc c.name.an)⟩⟩
 else s
structure Lv where
 fP:aH
 fh:List dJ
 lines:List (List UInt8)
 bytes:Int
structure gw where
 live:Lv
 eg:List Lv
def Lv.zero:Lv:=⟨⟨[],[]⟩,[],[],0⟩
def gw.zero:gw:=⟨.zero,[]⟩
def v7(l:Lv)(c:ar)(a:dJ):Lv :=
 if a.op≠0 then ⟨l.fP,l.fh++[a],l.lines++[dq c],l.bytes+((dq c).length+1:Nat)⟩
 else ⟨kJ l.fP c,l.fh,l.lines++[dq c],l.bytes+((dq c).length+1:Nat)⟩
def mQ(s:gw):Rm:=⟨s.live.bytes,(s.live.fh.length:Nat),((s.eg.length:Nat):Int)+1⟩
def sX(s:gw)(x:ar × dJ × aM):gw :=
 if x.2.2.cls≠0 then s
 else if lE x.1.op then ⟨v7 s.live x.1 x.2.1,s.eg⟩
 else if x.1.op=11 then ⟨s.live,s.eg++[s.live]⟩
 else if x.1.op=12 then(match s.eg.getLast? with | some l=>⟨l,s.eg.dropLast⟩ | none=>s)
 else s
def fc(s:gw)(t:List UInt8):ar × dJ × aM:=lV s.live.fP (mQ s) t
def lN(s:gw)(t:List UInt8):gw:=sX s (fc s t)
def mu(l:List (List UInt8)):Nat:=(l.map λt=>t.length+1).sum
variable{l:List (List UInt8)}{t:List UInt8}
def aoE:mu (l++[t])=mu l+(t.length+1):=by simp[mu]
def Di:∀{l:List (List UInt8)},l.length<=mu l
 | []=>by simp[mu]
 | t::l=>by have:=@Di l;simp only[mu,cQ,pJ,da] at this ⊢;omega
structure AF(x:dJ):Prop where
 c:x.code.length<=100000
 a:x.a.fs.length<=100000
 b:x.b.fs.length<=100000
structure Lv.ok(l:Lv):Prop where
 s:l.fP.tF
 n:l.fP.bc.length<=16
 v:l.fP.vars.length<=64
 m:l.fh.length<=64
 a:∀a∈l.fh,AF a
 b:l.bytes=(mu l.lines:Nat)
 t:mu l.lines<=16384
structure gw.ok(s:gw):Prop where
 l:s.live.ok
 f:∀l∈s.eg,l.ok
 n:s.eg.length<=15
def YX:Lv.zero.ok:=⟨⟨⟨by simp[Lv.zero],by simp[Lv.zero],by simp[Lv.zero]⟩,by simp[Lv.zero]⟩,by simp[Lv.zero],by simp[Lv.zero],by simp[Lv.zero],by simp[Lv.zero],by simp[Lv.zero,mu],by simp[Lv.zero,mu]⟩
def Sb:gw.zero.ok:=⟨YX,by simp[gw.zero],by simp[gw.zero]⟩
variable{s:aH}
def YC(h:(gG c.op||dw c.op)=aa)(hf:(iw s c).cls=0):∀f∈mI s c,f.cls=0:=λf hm=>by
 rw[iw,aL h] at hf;exact(P_ hf).2 f (by rw[xe];exact List.mem_append_right _ hm)
theorem an2(h:gG c.op=aa)(hf:(iw s c).cls=0):s.bc.length<16/\(c.op=3->(n5 s c).bI.length<=8):=by
 have hl:=YC (by rw[h];rfl) hf;have zm:¬(c.op=6\/c.op=7):=λe=>by rcases e with e | e<;>simp[gG,e] at h
 rw[mI,aB zm] at hl;have hb:∀{b:Bool},(∀f∈cY b 7 c.pos,f.cls=0)->b=false:=λ{b} hh=>by
  cases b with
  | false=>rfl
  | true=>have:=hh ⟨7,c.pos⟩ (by simp[cY]);simp at this
 have:=hb hl
 grind
def an3(h:dw c.op=aa)(hf:(iw s c).cls=0):s.vars.length+c.ak.length<=64:=by
 have hl:=YC (by rw[h];simp) hf;have zm:c.op=6\/c.op=7:=by simpa [dw] using h
 rw[mI,aL zm] at hl
 by_cases hq:(64:Int) - (s.vars.length:Nat)<(c.ak.length:Nat)
 .have:=hl ⟨7,c.pos⟩ (by simp[cY,hq]);simp at this
 .omega
theorem anu{w:aC}{x:bA}(h:x∈pq s w):∃l∈s.bc,l.shape=x:=by
 unfold pq at h
 grind
theorem auG(hs:s.tF)(hn:c.ak.length<=100000)(h3:c.op=3->(n5 s c).bI.length<=8):(lB s c).ok/\(lB s c).bI.length<=100:=by
 have one:∀(k:Int) (r:Rl),(⟨aq,[⟨k,cc c.ak,r⟩]⟩:bA).ok/\(⟨aq,[⟨k,cc c.ak,r⟩]⟩:bA).bI.length<=100:=λk r=>by
  refine⟨⟨by simp,λf hf=>?_⟩,by simp⟩;simp only[m_,FY,HE] at hf;subst hf;simp only[cc,aF];exact hn
 unfold lB;split
 .grind
 split
 .grind
 split
 .grind
 split
 .grind
 split
 .rename_i h
  have:=h3 h
  refine⟨⟨by omega,λf hf=>?_⟩,by omega⟩;simp only[n5,Fj,FX] at hf;obtain⟨x,⟨w,_,hw⟩,hf⟩:=hf;obtain⟨l,hl,rfl⟩:=anu hw;exact(hs.1.2.2 l hl).2 f hf
 .exact⟨⟨by simp,by simp⟩,by simp⟩
theorem adI(hs:s.tF)(h1:s.bc.length<=16)(h2:s.vars.length<=64)(hn:c.ak.length<=100000):(kJ s c).tF/\(kJ s c).bc.length<=16/\(kJ s c).vars.length<=64:=by
 unfold kJ;split
 .grind
 rename_i hf;have hf:(iw s c).cls=0:=Classical.byContradiction hf;split
 .rename_i h;obtain⟨a1,a2⟩:=an2 h hf;have hp:=auG hs hn a2;have e:(s.bc++[(⟨c.name.an,lB s c⟩:eh)]).length=s.bc.length+1:=by simp
  refine⟨⟨⟨by simp only;omega,hs.1.2.1,λl hl=>?_⟩,λl hl=>?_⟩,by simp only;omega,h2⟩
  .rcases lk.1 hl with hl | hl
   .exact hs.1.2.2 l hl
   .grind
  .rcases lk.1 hl with hl | hl
   .exact hs.2 l hl
   .grind
 split
 .rename_i h;have a1:=an3 h hf;refine⟨⟨⟨hs.1.1,by simp only[bL,aF];omega,hs.1.2.2⟩,hs.2⟩,h1,by simp only[bL,aF];omega⟩
 .grind
variable{r:Rm}
theorem Hr(h:(lV s r t).2.2.cls=0):(lV s r t).1=(dC t).1/\(lV s r t).2.1=(if gi s (dC t).1 then jA s (dC t).1 else .zero)/\(lV s r t).2.2 = .zero /\
 (iw s (dC t).1).cls=0/\(iE s (dC t).1).cls=0/\jw r (dC t).1=aq/\¬((dC t).1.op=12/\r.eg<=1):=by
 by_cases hr:(dC t).2.1=0
 .by_cases hf:(fH (iQ s r (dC t).1)).cls=0
  .rw[EZ hr hf]
   have:=Np.1 hf
   grind
  .rw[Hq hr hf] at h;exact absurd h hf
 .rw[Hp hr] at h;exact absurd h hr
theorem an5(h:jw r c=aq):(lE c.op=aa->(dq c).length<=1024/\r.bytes<=16383 - (dq c).length)/\(vf c.op=aa->r.fh<64)/\(c.op=11->r.eg<16):=by
 simp only[jw,Aw,LW,Gh] at h;obtain⟨⟨h1,h2⟩,h3⟩:=h;refine⟨λhs=>?_,λhs=>?_,λhs=>?_⟩
 .rcases h1 with h1 | h1
  .grind
  .rw[wrap_i64 (by omega) (by omega)] at h1;omega
 .grind
 .omega
theorem avc{l:Lv}{x:dJ}(hl:l.ok)(hn:c.ak.length<=100000)(hx:AF x)(ht:l.bytes<=16383 - (dq c).length)(hm:x.op≠0->l.fh.length<64):(v7 l c x).ok:=by
 have hb:=hl.b;have e:mu (l.lines++[dq c])=mu l.lines+((dq c).length+1):=aoE;unfold v7;split
 .rename_i h
  have:=hm h
  refine⟨hl.s,hl.n,hl.v,by simp only[bL,eZ];omega,λy hy=>?_,by simp only;rw[e];omega,by simp only;rw[e];omega⟩
  rcases lk.1 hy with hy | hy
  .exact hl.a y hy
  .grind
 .obtain⟨a1,a2,a3⟩:=adI hl.s hl.n hl.v hn;exact⟨a1,a2,a3,hl.m,hl.a,by simp only;rw[e];omega,by simp only;rw[e];omega⟩
def aei(h:(if gi s c then jA s c else dJ.zero).op≠0):vf c.op=true:=by
 split at h
 .rename_i h1
  have:=(Kl.1 h1).op
  simp[vf,this.1,this.2]
 .exact absurd rfl h
def ahA{s:gw}(hs:s.ok)(hn:(dC t).1.ak.length<=100000)(hx:AF (fc s t).2.1):(lN s t).ok:=by
 unfold lN sX;split
 .exact hs
 rename_i h0;have h0:(lV s.live.fP (mQ s) t).2.2.cls=0:=Classical.byContradiction h0;obtain⟨e1,e2,_,_,_,h5,h6⟩:=Hr h0;obtain⟨m1,m2,m3⟩:=an5 h5;have GV := hs.n;split
 .rename_i h;have h:lE (lV s.live.fP (mQ s) t).1.op=true:=h;rw[e1] at h;refine⟨avc hs.l (by rw[fc,e1];exact hn) hx (by rw[fc,e1];exact(m1 h).2) (λho=>?_),hs.f,hs.n⟩;rw[fc,e2] at ho
  have:=m2 (aei ho)
  simp only[mQ] at this;omega
 split
 .rename_i h;have h:(lV s.live.fP (mQ s) t).1.op=11:=h;rw[e1] at h
  have:=m3 h
  simp only[mQ] at this;refine⟨hs.l,λl hl=>?_,by simp only[bL,eZ];omega⟩
  rcases lk.1 hl with hl | hl
  .exact hs.f l hl
  .simp at hl;subst hl;exact hs.l
 split
 .split
  .rename_i l hl;have hm:l∈s.eg:=List.mem_of_getLast? hl;exact⟨hs.f l hm,λy hy=>hs.f y (S9 _ hy),by simp only[List.length_dropLast];omega⟩
  .exact hs
 .exact hs
structure adi(G'':Prop):Prop where
 o:G''
def jn{G'' P:Prop}(f:adi G''->P)(g:G''):P:=f ⟨g⟩
def xO(l:Lv):List V:=[.sl .no 3 (l.fP.bc.map eh.enc),.sl .no 3 (l.fP.vars.map dR.enc),.sl .no 18 (l.fh.map dJ.enc),.sl .no 1 (cu l.lines),.int .i64 l.bytes]
def nU(k:Tk)(s:gw):List V:=[.sl .no 3 (s.live.fP.bc.map eh.enc),.sl .no 3 (s.live.fP.vars.map dR.enc),.sl .no 18 (s.live.fh.map dJ.enc),.sl .no 1 (cu s.live.lines),.int .i64 s.live.bytes,.sl k 5 (s.eg.map xO)]
def adB(Z:ab)(k:Tk)(n:Nat):Prop:=match k with | .no=>False | .aY=>True | .tk t=>Z.aS t=U n
structure AJ(Z:ab)(b:Nat)(k:Tk)(s:gw):Prop where
 b:Z.box b=U (nU k s)
 t:adB Z k s.eg.length
structure Kp(Z σ' : ab)(b:Nat)(k k' : Tk):Prop where
 b:∀c,c≠b->σ'.box c=Z.box c
 t:∀t n,k≠.tk t->Z.aS t=U n->σ'.aS t=U n
 c:σ'.cI=Z.cI
 f:∀t,k' = .tk t->k = .tk t\/Z.aS t=ah
variable{b:Nat}{Z:ab}
def Kp.rfl{k:Tk}:Kp Z Z b k k:=⟨λ_ _=>Eq.refl _,λ_ _ _ h=>h,Eq.refl _,λ_ h=>.inl h⟩
def Wb:List V:=[.sl .aY 3 [],.sl .aY 3 [],.sl .aY 18 [],.sl .aY 1 [],.int .i64 0,.sl .aY 5 []]
section
variable {P:Program} {d:Option Nat} {r:List AO} {K:St->Prop} {x y:X} {st:St} {n:Bool} {H:V->Prop} {p:Pl} {o:Nat}
def QD(n:Bool)(v w:V)(K:V->Prop):Prop:=match isNil v,w with | some g,.kX=>K (.bool (if n then !g else g)) | _,_=>False
theorem ap8:de P (⟨d,.wz n x y,ah⟩::r) K st=QD n (ev st x) (ev st y) (kL P d r K st):=rfl
def apl:QD n .kX .kX H=H (.bool (!n)):=by cases n<;>rfl
def apm:QD n (.ptr p o) .kX H=H (.bool n):=by cases n<;>rfl
end
def IP:=ag @ap8 <| ag @apl @apm
section
variable {x:dJ}
def ad2(op lat:Int)(c:V)(to:bQ)(r:List V):(.int .i64 op::.int .i64 lat::c::(to.enc++r):List V).drop 12=r:=by
 obtain⟨tv,e⟩:=to;exact br.MK (P:=λe=>(.int .i64 op::.int .i64 lat::c::((bQ.mk tv e).enc++r):List V).drop 12=r) (λ_ _ _ _ _ _ _ _ _=>rfl) e
def T8(op lat:Int)(c:V)(to:bQ)(r u:List V)(k:Nat):setAt (.int .i64 op::.int .i64 lat::c::(to.enc++r):List V) (12+k) u = .int .i64 op::.int .i64 lat::c::(to.enc++setAt r k u):=by
 obtain⟨tv,e⟩:=to;refine br.MK (P:=λe=>setAt (.int .i64 op::.int .i64 lat::c::((bQ.mk tv e).enc++r):List V) (12+k) u = .int .i64 op::.int .i64 lat::c::((bQ.mk tv e).enc++setAt r k u)) (λ_ _ _ _ _ _ _ _ _=>?_) e;rw[Mg];rfl
theorem aeF:cB 1 (x.enc.drop 2)=true:=rfl
theorem aeI:bP aq 1 (x.enc.drop 2)=U (.sl .no 10 (x.code.map bF.enc)):=rfl
theorem aeO:setAt x.enc 2 [.sl .no 10 (x.code.map bF.enc)]=x.enc:=rfl
def MA:x.enc.drop 12=[.sl .no 10 (x.a.fs.map cq.enc),.int .i64 x.a.tail,.sl .no 10 (x.b.fs.map cq.enc),.int .i64 x.b.tail,.int .i64 x.v,.aQ x.field]:=ad2 ..
def aeD:cB 1 (x.enc.drop 12)=true:=by rw[MA];rfl
def aeG:bP aq 1 (x.enc.drop 12)=U (.sl .no 10 (x.a.fs.map cq.enc)):=by rw[MA];rfl
def aeM:setAt x.enc 12 [.sl .no 10 (x.a.fs.map cq.enc)]=x.enc:=T8 _ _ _ _ _ _ 0
def Ud:x.enc.drop 14=[.sl .no 10 (x.b.fs.map cq.enc),.int .i64 x.b.tail,.int .i64 x.v,.aQ x.field]:=by rw[show 14=12+2 from rfl,<-xw,MA];rfl
def aeE:cB 1 (x.enc.drop 14)=true:=by rw[Ud];rfl
def aeH:bP aq 1 (x.enc.drop 14)=U (.sl .no 10 (x.b.fs.map cq.enc)):=by rw[Ud];rfl
def aeN:setAt x.enc 14 [.sl .no 10 (x.b.fs.map cq.enc)]=x.enc:=T8 _ _ _ _ _ _ 2
def aeK:x.enc.length=18:=rk
def Ug:takeN 18 x.enc=U x.enc:=IS
def aeL:c8 x.enc=true:=wg rfl rfl rfl
def Uf:over (dj 0 0 (.sl .aY 10 []) .zero (.sl .aY 10 []) 0 (.sl .aY 10 []) 0 0 []) x.enc=x.enc:=rJ (by rw[rk];exact rk.symm)
def aeJ:bP aa 18 x.enc=U (.agg x.enc):=by rw[Bu,Ug];rfl
theorem aeP:cB 18 g_=true:=rfl
def aeQ:over g_ x.enc=x.enc:=Uf
def lK:=ag @aeP <| ag @aeQ <| ag @aeF <| ag @aeI <| ag @aeO <| ag @aeD <| ag @aeG <| ag @aeM <| ag @aeE <| ag @aeH <| ag @aeN <| ag @aeK <| ag @Ug <| ag @aeL <| ag @Uf <| ag @aeJ <| ag @dJ.dW @dJ.dT
end
def qp(l:List (List UInt8)):List UInt8:=l.flatMap λt=>t++[10]
def Ib:∀{l:List (List UInt8)},(qp l).length=mu l
 | []=>rfl
 | t::l=>by have:=@Ib l;simp only[qp,mu,o7,bL,eZ,cQ,pJ] at this ⊢;omega
def avA:qp (l++[t])=qp l++t++[10]:=by simp[qp]
def Lq{i:Nat}(h:i<l.length):qp (l.take (i+1))=qp (l.take i)++l[i]++[10]:=by rw[iB h,avA]
def aoF{a b:List (List UInt8)}:mu (a++b)=mu a+mu b:=by simp[mu]
theorem YV{l:List (List UInt8)}{i:Nat}:mu (l.take i)<=mu l:=by
 have h:=@aoF (l.take i) (l.drop i)
 simp_all
def K3:List UInt8:=[112,111,112]
def cy.up{P:Program}{f:FuncId}{as:List V}{R S:V->ab->Prop}(h:cy P f as Z R)(k:∀v σ',R v σ' -> ∃uT,bp σ' uT /\ S v uT):cy P f as Z S :=
 ⟨h.1,λE vs h1 h2 h3=>(h.2 E vs h1 h2 h3).mono λ_ _ ⟨v',x,E',σ',a,b,c,d,e,f,g⟩=>by
  obtain⟨uT,o,r⟩:=k _ _ g;exact⟨v',x,E',uT,a,b,c,d.df o,e,f,r⟩⟩
def akt:c_ Wb (nU .aY .zero):=⟨dv.no,dv.no,dv.no,dv.no,dv.rfl,dv.rfl,trivial⟩
def abA:AJ (Z.set b (nU .aY .zero)) b .aY .zero:=⟨j6,trivial⟩
def F5(Z:ab)(k:Tk):Prop:=∀t,k = .tk t->Z.aS t=ah
def Kp.sub{bx gl:ab}{k k' : Tk}(h:Z.sub bx)(hb:Z.box b=ah)(hk:F5 Z k)(h2:Kp bx gl b k k'):Z.sub gl/\F5 Z k' := by
 refine⟨⟨λc cs hc=>?_,λt n ht=>?_,λc cs hc=>?_⟩,λt e=>?_⟩
 .rw[h2.b c (λe=>by rw[e,hb] at hc;simp at hc)];exact h.1 c cs hc
 .exact h2.t t n (λe=>by rw[hk t e] at ht;simp at ht) (h.2.1 t n ht)
 .rw[h2.c];exact h.2.2 c cs hc
 .rcases h2.f t e with e1 | e1
  .exact hk t e1
  .cases hq:Z.aS t with
   | none=>rfl
   | some n=>rw[h.2.1 t n hq] at e1;simp at e1
def aca{cs:List V}(h:Z.box b=ah):Z.sub (Z.set b cs) :=
 ⟨λc ds hc=>by rw[sL (λe=>by rw[e,h] at hc;simp at hc)];exact hc,λ_ _ h=>h,λ_ _ h=>h⟩
def xS:List (List UInt8):=[[99,104,97,105,110,32,107,32,123,97,44,98,125],[112,117,115,104],[108,97,98,101,108,32,107,32,32,123,120,125],[112,111,112]]
def rn(i:Nat):gw:=(xS.take i).foldl lN .zero
def aiS{i:Nat}(h:i<xS.length):rn (i+1)=lN (rn i) xS[i]:=by rw[rn,iB h,B8];rfl
def aiT:∀i:Fin 4,(fc (rn i) (xS.getD i [])).2.2=⟨0,0⟩:=by decide +kernel
def VF:∀t∈xS,t.length<=3000:=by decide
theorem aiU:(fc (rn 4) K3).2.2=⟨8,0⟩:=by rfl
theorem aiV:qp (rn 4).live.lines=[99,104,97,105,110,32,107,32,123,97,44,98,125,10]:=by rfl
def axT:(rn 4).live.bytes=14/\(rn 4).live.fh.length=0/\(rn 4).eg.length=0:=by decide +kernel
structure Cf(n:Nd):Prop where
 k:n.ae.length<=8000
 kk:∀k∈n.ae,k.ae.length<=8000
 ns:n.ak.length<=40000
 c:n.cW<=100000
def ac2:∀l:List Nd,5*l.length<=gd l
 | []=>by simp[gd]
 | .mk _ _ _ _ _::ns=>by have:=ac2 ns;simp only[gd,Nd.wt,da];omega
def Fp{n:Nd}(h:n.wt<=39990):Cf n:=by
 have key:∀m:Nd,m.wt<=39990->m.ae.length<=8000/\m.ak.length<=40000/\gd m.ae<=m.wt:=λm hm=>by
  obtain⟨k,p,t,ws,ks⟩:=m;have h1:=ac2 ks;have h2:ws.length<=fk ws:=by
   rw[fk];induction ws with
   | nil=>simp
   | cons w ws ih=>simp only[cQ,pJ,da];have:=ih (by simp only[Nd.wt,fk,cQ,pJ] at hm ⊢;omega);omega
  simp only[Nd.wt,Nd.ae,Nd.ak] at hm ⊢;omega
 obtain⟨h1,h2,h3⟩:=key n h;exact⟨h1,λk hk=>(key k (by have:=DM hk;omega)).1,h2,by have:=Eb n;omega⟩
def v8(L:Lv)(c:ar):Lv:=v7 L c (if gi L.fP c then jA L.fP c else .zero)
def nW(L:Lv)(l:List ar):Lv:=l.foldl v8 L
def Fl(o:Option gw)(g:List ar):gw:=match o with | none=>⟨nW .zero g,[]⟩ | some S=>⟨nW S.live g,S.eg++[S.live]⟩
def tO(W:List (List ar)):Option gw:=W.foldl (λo g=>U (Fl o g)) ah
variable{W:List (List ar)}
def DD{g:List ar}:tO (W++[g])=U (Fl (tO W) g):=by simp[tO]
def avh(h:tO W=ah):W=[]:=by
 rcases B7 W with rfl | ⟨V,g,rfl⟩
 .rfl
 .rw[Iw,DD] at h;simp at h
variable{L:Lv}
def YM{l:List ar}:nW L (l++[c])=v8 (nW L l) c:=by simp[nW]
def aoc{l m:List ar}:nW L (l++m)=nW (nW L l) m:=by simp[nW]
theorem Ln:∀(n:Nat) {W:List (List ar)} {S:gw},W.length=n->tO W=U S->S.live=nW .zero W.flatten/\S.eg.length+1=W.length
 | 0,W,S,hn,h=>by rw[xx hn] at h;simp[tO] at h
 | n + 1, W, S, hn, h => by
  rcases B7 W with rfl | ⟨V,g,rfl⟩
  .grind
  rw[Iw] at hn h ⊢;rw[DD,bq] at h;subst h;cases hV:tO V with
  | none=>rw[avh hV];simp[Fl]
  | some T =>
   obtain⟨h1,h2⟩:=Ln n (by simpa using hn) hV;simp only[Fl,u0,lj,FU,eC,aoc,h1,bL,da,cZ]
   grind
def pN(W:List (List ar))(c:ar):List (List ar) :=
 if lE c.op then W.dropLast++[W.getLastD []++[c]] else if c.op=11 then W++[[]] else if c.op=12 then W.dropLast else W
def ahy(h:W≠[]):(pN W c).flatten=W.flatten++[c]/\lE c.op=aa\/∃k,(pN W c).flatten=W.flatten.take k/\lE c.op=false:=by
 obtain⟨V,g,rfl⟩:=(B7 W).resolve_left h;rw[Iw,pN];cases hs:lE c.op with
 | true=>left;simp
 | false =>
  right
  by_cases h1:c.op=11
  .exact⟨(V++[g]).flatten.length,by rw[du];simp[h1],rfl⟩
  by_cases h2:c.op=12
  .exact⟨V.flatten.length,by simp[h2],rfl⟩
  .exact⟨(V++[g]).flatten.length,by rw[du];simp[h1,h2],rfl⟩
def ahz{S:gw}(h:tO W=U S)(hf:(fc S t).2.2.cls=0):tO (pN W (fc S t).1)=U (lN S t):=by
 obtain⟨e1,e2,_,_,_,_,e7⟩:=Hr hf;have hx:(fc S t).2.1=(if gi S.live.fP (fc S t).1 then jA S.live.fP (fc S t).1 else .zero):=by rw[fc,e2,e1]
 have hp:(fc S t).1.op=12->S.eg≠[]:=λia e=>e7 ⟨by rw[fc,e1] at ia;exact ia,by simp[mQ,e]⟩
 rw[lN];generalize fc S t=X at hf hx hp;obtain⟨c,x,f⟩:=X;simp only at hf hx hp ⊢;obtain⟨V,g,rfl⟩:=(B7 W).resolve_left (λe=>by rw[e] at h;simp[tO] at h);rw[Iw] at h ⊢;rw[DD,bq] at h;rw[sX,aB (by simp[hf])];unfold pN;cases hs:lE c.op with
 | true =>
  simp only[db,FR,List.getLastD_concat,DD,bq];rw[hx,<-h];cases tO V<;>simp[Fl,YM,v8]<;>rfl
 | false =>
  simp only[dK,cz]
  by_cases h1:c.op=11
  .rw[aL h1,aL h1,DD,DD,h];rfl
  rw[aB h1,aB h1]
  by_cases h2:c.op=12
  .rw[aL h2,aL h2,FR];cases hV:tO V with
   | none=>rw[hV] at h;exact absurd (by rw[<-h];rfl) (hp h2)
   | some T=>rw[hV] at h;rw[<-h];simp[Fl]
  .rw[aB h2,aB h2,DD,h]
def au_{x:dJ}:(v7 L c x).lines=L.lines++[dq c]:=by unfold v7;split<;>rfl
def Qk:∀{l:List ar} {L:Lv},(nW L l).lines=L.lines++l.map dq
 | [],L=>by simp[nW]
 | c::l,L=>by rw[show nW L (c::l)=nW (v8 L c) l from rfl,Qk,v8,au_];simp
theorem T7(h:gi s c=aa):kJ s c=s/\(jA s c).op≠0:=by
 have h1:8<=c.op/\c.op<=10:=by simp[gi] at h;exact⟨h.1.1.1,h.1.1.2⟩
 constructor
 .unfold kJ;rw[aB (show ¬gG c.op=aa by simp[gG];omega),aB (show ¬dw c.op=aa by simp[dw];omega)];simp
 .unfold jA;split
  .simp
  .grind
def au'(h:gi L.fP c=aa):(v8 L c).fP=kJ L.fP c/\(v8 L c).fh=L.fh++[jA L.fP c]:=by rw[v8,aL h,v7,aL (T7 h).2,(T7 h).1];exact⟨rfl,rfl⟩
def ava(h:gi L.fP c=aq):(v8 L c).fP=kJ L.fP c/\(v8 L c).fh=L.fh:=by rw[v8,aB (by simp[h]),v7,aB (by simp[dJ.zero])];exact⟨rfl,rfl⟩
def Ax(v r:V):List (List V)->List (List V)->Prop
 | [],[]=>True
 | c::l,c' :: l' => pG v r c c' /\ Ax v r l l'
 | _,_=>False
def Ax.spec{v r:V}:∀{l l' : List (List V)},Ax v r l l' -> l.length=l'.length/\∀(i:Nat) c',l'[i]?=U c' -> ∃c,l[i]?=U c/\pG v r c c'
 | [],[],_=>⟨rfl,λi c' h=>by simp at h⟩
 | [],_::_,h=>h.elim
 | _::_,[],h=>h.elim
 | c :: l, d :: l', h => by
  obtain⟨h1,h2⟩:=Ax.spec h.2;refine⟨by simp[h1],λi c' hi=>?_⟩;cases i with
  | zero=>simp at hi;subst hi;exact⟨c,by simp,h.1⟩
  | succ i=>simpa using h2 i c' (by simpa using hi)
theorem akr{v r:V}:Ax v r [] []=True:=rfl
theorem akq{v r:V}{c c' : List V}{l l' : List (List V)}:Ax v r (c::l) (c' :: l')=(pG v r c c' /\ Ax v r l l'):=rfl
def Jr:=ag @akr <| ag @akq Gu
theorem a7.Jq{k:Nat}{v:V}{rows:List (List V)}{t t' : List V}{l l' : List (List V)}{K:St->Prop}(h:fI Z k v rows)(h1:c8 rows.flatten=aa)(ht:pG v (.sl .no k rows) t t')
 (CP:Ax v (.sl .no k rows) l l') (hk:∀σ',(∀dx,sT dx Z v->dx.sub σ')->K ⟨t',l',σ'⟩):a7 ⟨t,l,Z⟩ K:=by
 obtain⟨hl,GK⟩:=CP.spec;have all:∀{t t' : List V},pG v (.sl .no k rows) t t' -> t.length=t'.length/\∀(j:Nat) y,t'[j]?=U y->∃x,t[j]?=U x/\(y=x\/(x=v/\y = .sl .no k rows)\/y = .any):=by
  intro t;induction t with
  | nil=>intro t' h;cases t' with | nil=>exact⟨rfl,λj y hy=>by simp at hy⟩ | cons y ys=>exact h.elim
  | cons x xs ih =>
   intro t' h;cases t' with
   | nil=>exact h.elim
   | cons y ys =>
    obtain⟨h1,h2⟩:=h
    grind
 have au:∀{E' : Env} {σ' : ab} {a:Act},bS E' ⟨t',l,σ'⟩ a->(∀u,R E' v u->R E' (.sl .no k rows) u)->bS E' ⟨t',l',σ'⟩ a:=λ{E' σ' a} hs hv =>
  ⟨hs.ok,⟨λi c' hi=>by
   obtain⟨c,h2,h3⟩:=GK i c' hi;obtain⟨b,b1,b2,cs,e,b3,b4,b5⟩:=hs.dO.box i c h2;obtain⟨k1,k2⟩:=all h3;refine⟨b,b1,b2,cs,e,b3,by rw[<-k1];exact b4,λj y hy=>?_⟩;obtain⟨x,k3,k4⟩:=k2 j y hy;obtain⟨u,k5,k6⟩:=b5 j x k3;refine⟨u,k5,?_⟩
   rcases k4 with rfl | ⟨rfl,rfl⟩ | rfl
   .exact k6
   .exact hv u k6
   .simp only[R],λi hi=>hs.dO.none i (by rw[hl];exact hi)⟩,hs.defers,hs.slot⟩
 intro E a hs;obtain⟨ad,cap,rfl,hc,hr,hb⟩:=h
 rcases hb with h0 | ⟨b,cs,rfl,JL,hl,ir⟩
 .have e:rows=[]:=xx (by omega);subst e;have hv:∀u,R E (.raw (.slice ad ([]:List (List V)).length cap)) u->R E (.sl .no k []) u:=λu hu=>by
   simp only[R] at hu ⊢;subst hu;exact⟨_,_,rfl,hc,.inl trivial,trivial⟩
  exact⟨E,⟨t',l',Z⟩,rfl,Fr.refl E,au ⟨hs.ok,hs.dO,hs.defers,pG.RL (Env.le.refl E) hv ht hs.slot⟩ hv,hk Z λdx h=>h.sub⟩
 .obtain⟨hf,eG,s6⟩:=akp hs JL;have hv:∀u,R (E.jU b) (.raw (.slice (U ⟨b,0,ah⟩) rows.length cap)) u->R (E.jU b) (.sl .no k rows) u:=λu hu=>by
   simp only[R] at hu ⊢;subst hu;refine⟨_,_,rfl,hc,.inr ⟨b,0,rfl,Tw (cs:=cs) s6 rows 0 (λj x hx=>?_) h1 hr⟩,trivial⟩
   grind
  refine⟨E.jU b,⟨t',l',Z.del b⟩,rfl,hf,au ⟨eG.ok,eG.dO,eG.defers,pG.RL (E:=E.jU b) (Env.le.refl _) hv ht eG.slot⟩ hv,hk _ λdx h=>⟨λb' cs' cF => ?_,λt n hn=>h.sub.2.1 t n hn,h.sub.2.2⟩⟩;have bf:b' ≠ b:=by
   rintro rfl;rw[h.new b' rfl] at cF;simp at cF
  simp only[ab.del];rw[aB bf];exact h.sub.1 b' cs' cF
def fI.aph{H:V->ab->Prop}(hk:∀v' σ',fI σ' 1 v' []->sT Z σ' v' -> H v' σ'):OQ.bN Z H (.new 1) []:=by
 refine⟨[],rfl,rfl,λb hb=>hk _ _ ⟨_,0,rfl,by simp,by simp,.inl rfl⟩ ⟨?_,?_⟩⟩
 .simpa using jF (cs:=[]) hb
 .intro b' cF;simp only[tH,bq] at cF;subst cF;exact hb
def s4:List V:=[.int .i64 0,.int .i64 0,.aQ [],.int .i64 0,.sl .aY 2 [],.sl .aY 4 [],.int .i64 0,.int .i64 0,.int .i64 0,.aQ [],.sl .aY 2 [],.sl .aY 5 [],.int .i64 0,.int .i64 0,.aQ [],.sl .aY 2 [],.sl .aY 5 []]++(g_++[.int .i64 0,.int .i64 0])
def gy(a b c:List V):List V:=a++(b++c)
section
variable {a b c:List V} (ha:a.length=17) (hb:b.length=18) (hc:c.length=2)
include ha
theorem akW:setAt s4 0 a=gy a g_ [.int .i64 0,.int .i64 0]:=by rw[mT,s4,KU (by rw[ha];simp),rJ (by rw[ha];rfl)];rfl
theorem NH:(gy a b c).drop 17=b++c:=by rw[gy,L7 (by omega),L8 (by omega),gK]
theorem ak1:bP aa 17 (gy a b c)=U (.agg a):=by
 have:∀{a r:List V},takeN a.length (a++r)=U a:=by intro a r;induction a with | nil=>rfl | cons x a ih=>simp only[gY,da,takeN,ih];rfl
 rw[bP,gy,<-ha,this];rfl
include hb
theorem akX:setAt (gy a g_ c) 17 b=gy a b c:=by rw[gy,show 17=a.length+0 by rw[ha],RZ (by rw[hb,bL,show g_.length=18 from rfl];omega),mT,KU (by rw[hb];exact bU 18),rJ (by rw[hb];rfl)];rfl
theorem Wo:(gy a b c).drop 35=c:=by rw[show 35=17+18 from rfl,<-xw,NH ha,L7 (by omega),L8 (by omega),gK]
theorem ak2:bP aa 18 ((gy a b c).drop 17)=U (.agg b):=by
 have:∀{a r:List V},takeN a.length (a++r)=U a:=by intro a r;induction a with | nil=>rfl | cons x a ih=>simp only[gY,da,takeN,ih];rfl
 rw[bP,NH ha,<-hb,this];rfl
include hc
theorem akY{x y:V}:setAt (gy a b [x,y]) 35 c=gy a b c:=by rw[gy,<-eY,show 35=(a++b).length+0 by rw[bL,ha,hb],RZ (by rw[hc];simp),mT,rJ (by rw[hc];rfl),eY];rfl
theorem Jw:(gy a b c).length=37:=by rw[gy,bL,bL,ha,hb,hc]
theorem Wq:over s4 (gy a b c)=gy a b c:=rJ (by rw[Jw ha hb hc];rfl)
theorem ak3:bP aa 37 (gy a b c)=U (.agg (gy a b c)):=by
 have:∀{a:List V},takeN a.length a=U a:=by intro a;induction a with | nil=>rfl | cons x a ih=>simp only[da,takeN,ih];rfl
 rw[bP,<-Jw ha hb hc,this];rfl
end
variable{a:List V}
def Wp{b c:List V}(ha:c8 a=aa)(hb:c8 b=aa)(hc:c8 c=aa):c8 (gy a b c)=true:=by rw[gy,HD,HD,ha,hb,hc];rfl
def ak0{b c:List V}(ha:bK a=aa)(hb:bK b=aa)(hc:bK c=aa):bK (gy a b c)=true:=by
 have:∀{a b:List V},bK (a++b)=(bK a&&bK b):=by intro a b;induction a with | nil=>rfl | cons x a ih=>simp only[gY,bK,ih,LV]
 rw[gy,this,this,ha,hb,hc];rfl
def akZ{b c:List V}(ha:a9 a=a)(hb:a9 b=b)(hc:a9 c=c):a9 (gy a b c)=gy a b c:=by
 have:∀{a b:List V},a9 (a++b)=a9 a++a9 b:=by intro a b;induction a with | nil=>rfl | cons x a ih=>simp only[gY,a9,ih]
 rw[gy,this,this,ha,hb,hc]
end Go.Am
