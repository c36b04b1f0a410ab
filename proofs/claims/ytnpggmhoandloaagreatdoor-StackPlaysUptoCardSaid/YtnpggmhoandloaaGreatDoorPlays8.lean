/-
  Part 8 of the proof of StackPlaysUptoCardSaid: a logic over the model, the forms of the functions that the law reaches, and what they compute.
-/
import Derived.Test.YtnpggmhoandloaaGreatDoorProg
import Derived.ProofKit
import Derived.OpenShut
import Derived.JoinedCond
import Derived.ChangeStays
import Derived.ReadAgain
import Derived.Deep.DeepHandedRow
import Derived.Lib.LaidTab
import Derived.Stop.LaidErr
import Derived.Test.YtnpggmhoandloaaGreatDoorCards
import Derived.Test.YtnpggmhoandloaaGreatDoorTie
import Derived.Test.YtnpggmhoandloaaGreatDoorPlays7
set_option linter.unusedVariables false
set_option linter.unusedSimpArgs false
set_option linter.defProp false
set_option linter.unusedSectionVars false
set_option maxRecDepth 4000
set_option maxHeartbeats 4000000
open Option renaming some->U,none->ah
open Bool renaming true->aa,false->aq
open List renaming replicate->aj,range->bH,zipWith->ng
open Eq renaming mpr->fF
open Ne renaming symm->gM
namespace Go.Proofs.Tryz
open Go.Am
theorem VM{b:Option Int}:(kq b).cS=true:=rfl
section
variable {rd:af} {c:ar} {pc:V} {cs:List V}
variable{w:aC}
theorem agT:setAt (rd.enc++c.cJ pc) 7 w.enc=rd.enc++({c with name:=w}:ar).cJ pc:=rfl
theorem agM:cB 2 ((rd.enc++c.cJ pc).drop 7)=true:=rfl
theorem agU{ws:List aC}:setAt (rd.enc++c.cJ pc) 9 [.sl .no 2 (ws.map aC.enc)]=rd.enc++({c with ak:=ws}:ar).cJ pc:=rfl
theorem agN:cB 1 ((rd.enc++c.cJ pc).drop 9)=true:=rfl
def agR{n:Int}:setAt (rd.enc++cs) 1 [.int .i64 n]=({rd with at_:=n}:af).enc++cs:=by cases cs<;>rfl
theorem agK:cB 1 ((rd.enc++cs).drop 1)=true:=rfl
def MW:=ag @agT <| ag @agM <| ag @agU <| ag @agN <| ag @agR @agK
end
variable{c:ar}{pc:V}{r:Nat}{Z:ab}
def ari{rd:af}(h:Z.box r=U (rd.enc++c.cJ pc))(hb:rd.aO=ah)(h0:0<=rd.at_)(hlen:rd.l.length<=aJ):
 eT 101 [.ptr (.out r) 0,.int .i32 102] Z (.bw []) (Z.set r (rd.word.2.enc++({c with ak:=[rd.word.1]}:ar).cJ pc)):=by
 refine cy.le (S:=Z.set r (setAt (rd.word.2.enc++c.cJ pc) 9 [.sl .aY 2 [rd.word.1.enc]])) ?_ (bp.set ?_)
 .refine fq func101 ?_;simp only[aP,am,aT,Nat.reduceAdd];simp only[am,bu,cX,Int.reduceEq,h,nj,hb,dS];refine(Gg h h0 hlen).mono ?_;rintro v σ' ⟨rfl,rfl⟩;simp only[am,Nat.reduceAdd,aC.al,MW];refine aN rfl (ab.a8 _) ⟨rfl,rfl⟩
 .show c_ ([V.sl .no 5 (cE rd.word.2.l),.int .i64 rd.word.2.at_,.int .i64 rd.word.2.fin,.int .i64 (dS rd.word.2.aO),.int .i64 (gx rd.word.2.aO)]++_) ([V.sl .no 5 (cE rd.word.2.l),.int .i64 rd.word.2.at_,.int .i64 rd.word.2.fin,.int .i64 (dS rd.word.2.aO),.int .i64 (gx rd.word.2.aO)]++_);simp[am,ar.cJ]
theorem aro{x:af × ar}{k:UInt8}(h:Z.box r=U (x.1.enc++x.2.cJ pc))(hp:k=112->pc = .sl .aY 4 []/\x.2.aX=[])(h0:0<=x.1.at_)(hm:bj x.1.l+1<=aJ)(ha:x.1.at_<=aJ):
 eT 101 [.ptr (.out r) 0,.int .i32 (k.toNat:Nat)] Z (.bw []) (Z.set r ((e_ k x).1.enc++(e_ k x).2.cJ (if k=112/\x.1.aO=ah then tJ (e_ k x).2.aX else pc))):=by
 obtain⟨rd,c⟩:=x;simp only at h hp h0 hm ha;have hlen:=iv rd.l;have fw:∀n:UInt8,((k.toNat:Nat):Int)=(n.toNat:Nat)↔k=n:=λn=>by
  constructor
  .intro h;exact F8.1 (by omega)
  .grind
 by_cases k2:k=102/\rd.aO=ah
 .obtain⟨k2,hb⟩:=k2;subst k2
  have:=ari h hb h0 (by omega)
  simpa [e_,hb] using this
 refine fq func101 ?_;simp only[aP,am,aT,Nat.reduceAdd];simp only[am,h,nj];cases hb:rd.aO with
 | some b =>
  simp only[am,cX,Int.reduceEq,dS];refine aN rfl (ab.a8 _) ⟨rfl,?_⟩;rw[show e_ k (rd,c)=(rd,c) by simp[e_,hb],aB (by simp)];exact(ab.BN h).symm
 | none =>
  have k2:¬k=102:=λh=>k2 ⟨h,hb⟩
  simp only[am,bu,dS];have sr:e_ k (rd,c)=if k=110 then(rd.word.2,{c with name:=rd.word.1})
   else if k=119 then({rd with aO:=(kE rd.l rd.at_ rd.fin).2,at_:=rd.at_+1},{c with ak:=(kE rd.l rd.at_ rd.fin).1})
   else if k=112 then rK rd c
   else if k=116 then ka rd c (gJ (af.label (bj rd.l)) rd.l rd.at_ rd.fin)
   else if k=114 then ka rd c (gJ (af.row (bj rd.l)) rd.l rd.at_ rd.fin)
   else(rd,c):=by simp[e_,hb,k2]
  have vl:((k.toNat:Nat):Int)=110↔k=110:=fw 110;have vk:((k.toNat:Nat):Int)=102↔k=102:=fw 102;have uf:((k.toNat:Nat):Int)=119↔k=119:=fw 119;have ue:((k.toNat:Nat):Int)=112↔k=112:=fw 112;have Ja:((k.toNat:Nat):Int)=116↔k=116:=fw 116;have Cn:((k.toNat:Nat):Int)=114↔k=114:=fw 114
  by_cases k1:k=110
  .rw[aL k1] at sr;simp only[am,aG (vl.2 k1)];refine(Gg h h0 (by omega)).mono ?_;rintro v σ' ⟨rfl,rfl⟩;simp only[am,Nat.reduceAdd,aC.al,MW];refine aN rfl (ab.a8 _) ⟨rfl,?_⟩
   grind
  rw[aB k1] at sr;simp only[am,aD (λh=>k1 (vl.1 h))];simp only[am,aD (λh=>k2 (vk.1 h))]
  by_cases k3:k=119
  .rw[aL k3] at sr;simp only[am,Nat.reduceAdd,bu,Nat.reduceLT,aG (uf.2 k3),h,nj];refine bn.intro (adD hm) ?_;rw[sr,aB (by simp[k3])];generalize kE rd.l rd.at_ rd.fin=o;have w1:IntKind.i64.wrap (rd.at_+1)=rd.at_+1:=by simp only[aJ] at ha;exact wrap_i64 (by omega) (by omega)
   simp only[am,Nat.reduceAdd,kq,h,nj,MW,w1];exact aN rfl (ab.a8 _) ⟨rfl,rfl⟩
  rw[aB k3] at sr;simp only[am,aD (λh=>k3 (uf.1 h))]
  by_cases k4:k=112
  .rw[aL k4] at sr;obtain⟨rfl,hc⟩:=hp k4;simp only[am,aG (ue.2 k4)];refine(arf h hc h0 hm).mono ?_;rintro v σ' ⟨rfl,rfl⟩;simp only[am];refine aN rfl (ab.a8 _) ⟨rfl,?_⟩
   grind
  rw[aB k4] at sr;simp only[am,aD (λh=>k4 (ue.1 h))]
  by_cases k5:k=116
  .rw[aL k5] at sr;simp only[am,aG (Ja.2 k5),h,nj];refine bn.intro (adj (bU _) hm) ?_;rw[sr,aB (by simp[k4])];generalize gJ (af.label (bj rd.l)) rd.l rd.at_ rd.fin=g;simp only[am,Nd.al,VM];refine bn.intro (UN h hb) ?_;simp only[am];refine aN rfl (ab.a8 _) ⟨rfl,rfl⟩
  rw[aB k5] at sr;simp only[am,aD (λh=>k5 (Ja.1 h))]
  by_cases k6:k=114
  .rw[aL k6] at sr;simp only[am,aG (Cn.2 k6),h,nj];refine bn.intro (adz (bU _) hm) ?_;rw[sr,aB (by simp[k4])];generalize gJ (af.row (bj rd.l)) rd.l rd.at_ rd.fin=g;simp only[am,Nd.al,VM];refine bn.intro (UN h hb) ?_;simp only[am];refine aN rfl (ab.a8 _) ⟨rfl,rfl⟩
  rw[aB k6] at sr;simp only[am,aD (λh=>k6 (Cn.1 h))];refine aN rfl (ab.a8 _) ⟨rfl,?_⟩;rw[sr,aB (by simp[k4])];exact(ab.BN h).symm
def Gp(f:Int × Int):V:=.agg [.int .i64 f.1,.int .i64 f.2]
def Cg(s:List UInt8)(L:List aA)(b r:Nat):List V:=[.aQ s,.any,.ptr (.au 0) 0,.ptr (.au 1) 0,.any,.any,.sl .no 5 (cE L),.ptr (.out r) 0]++aj 64 .any++[.raw (.pointer (U ⟨b,0,ah⟩))]++aj 39 .any
variable{ps:List (aC × aC)}
def arx:(tJ ps).erase = .sl .no 4 (ps.map eJ):=by cases ps<;>rfl
theorem agF{rd:af}:takeN 17 ((rd.enc++c.cJ pc).drop 5)=U (c.cJ pc):=rfl
theorem afN:(c.cJ pc).length=17:=rfl
def afP:c8 (c.cJ (tJ ps))=true:=by cases ps<;>rfl
theorem afQ{z0 z1 z2 z3 z4 z5 z6 z7 z8 z9 SK SL SM SO SP SQ SR:V}:over [z0,z1,z2,z3,z4,z5,z6,z7,z8,z9,SK,SL,SM,SO,SP,SQ,SR] (c.cJ pc)=c.cJ pc:=rfl
theorem afR:takeN 17 (c.cJ pc)=U (c.cJ pc):=rfl
def afO:bK (c.cJ (tJ ps))=true:=by cases ps<;>rfl
def afM:a9 (c.cJ (tJ c.aX))=c.enc:=by simp only[ar.enc,ar.cJ,a9,arx];rfl
def ce:=ag @afN <| ag @afP <| ag @afQ @afR
def xr:List (List V):=[ij,[.int .i64 0,.int .i64 0]]
theorem agX(s:List UInt8)(hg:Z.cI 0=U iO)(hb:s.length+1<=aJ)(hm:bj (iT (eH s).1 [] []).1+8<=aJ):
 aR 53 [.aQ s] Z (.bw [.agg (dC s).1.enc,Gp (dC s).2]):=by
 have CP:=Qd s;refine fq func53 ?_ ⟨[40],[]⟩;simp only[aP,am,aT,Nat.reduceAdd];refine cl (anV s Z hb) ?_;generalize hR:dC s=R;unfold dC at hR;simp only[am,Nat.reduceAdd,xE];cases hl:(eH s).2 with
 | some a =>
  rw[hl] at hR;simp only[am,Nat.reduceAdd,cX,Int.reduceEq];refine aN rfl (ab.a8 _) ⟨?_,rfl⟩;rw[<-hR];rfl
 | none =>
  rw[hl] at hR;simp only[am,bu];refine cl (avJ (eH s).1 Z (by omega)) ?_;simp only[am,Nat.reduceAdd,kq];simp only at hR;cases ht:(iT (eH s).1 [] []).2 with
  | some a =>
   rw[ht] at hR;simp only[am,Nat.reduceAdd,cX,Int.reduceEq,dS];refine aN rfl (ab.a8 _) ⟨?_,rfl⟩;rw[<-hR];rfl
  | none =>
   rw[ht] at hR;simp only at hR;simp only[am,eE,bu,dS];generalize (iT (eH s).1 [] []).1=l at hm hR ⊢;have hlen:=iv l;cases l with
   | nil =>
    simp only[am,Nat.reduceAdd,bu,cZ,show(((0:Nat):Int)=0)=True by simp];refine aN rfl (ab.a8 _) ⟨?_,rfl⟩;rw[<-hR];rfl
   | cons t ts =>
    generalize hL:t::ts=L at *;have bf:¬(L.length:Int)=0:=by grind
    simp only[am,Nat.reduceAdd,aD bf];refine lT λr hr=>?_
    have um : ∀X,(Z.set r X).cI 0=U iO:=λX=>hg
    have dt : ∀X,(Z.set r X).box r=U X:=λX=>ab.fE _ _ _
    simp only[am];change cy prog 98 [.ptr (.out r) 0] (Z.set r ((⟨L,0,s.length,ah⟩:af).enc++ij)) _;have JO:wo L s.length=if kb (⟨L,0,s.length,ah⟩:af).word.1.an=0 then(.zero,2,t.tok.pos)
     else zf (jP (cm (kb (⟨L,0,s.length,ah⟩:af).word.1.an)).2 ((⟨L,0,s.length,ah⟩:af).word.2,{ar.zero with op:=kb (⟨L,0,s.length,ah⟩:af).word.1.an,pos:=(⟨L,0,s.length,ah⟩:af).word.1.pos})):=by rw[<-hL];rfl
    rw[JO] at hR;refine(Gg (dt _) (by simp) (show L.length<=aJ by omega)).mono ?_;rintro v _ ⟨rfl,rfl⟩;have hI:∀c,lI L s.length ((⟨L,0,s.length,ah⟩:af).word.2,c):=λc=>lI.goes (x:=(⟨L,0,s.length,ah⟩,c)) ⟨rfl,rfl,by simp,by simp;omega,by simp⟩ rfl (A4 _) (H' _ 97)
    generalize (⟨L,0,s.length,ah⟩:af).word.2=r1 at hI hR ⊢;generalize (⟨L,0,s.length,ah⟩:af).word.1=w at hR ⊢;simp only[am,Nat.reduceAdd,aC.enc];refine bn.intro (ao1 w.an (um _)) ?_;have e5:∀X:List V,X.length=17->setAt (r1.enc++ij) 5 X=r1.enc++X:=λX hX=>by
     match X,hX with
     | [_,_,_,_,_,_,_,_,_,_,_,_,_,_,_,_,_],_=>rfl
    have Er:cB 17 ij=true:=rfl;have d5:∀X:List V,(r1.enc++X).drop 5=X:=λX=>rfl
    generalize kb w.an=op at hR ⊢;simp only[am,Nat.reduceAdd,e5,Er,d5]
    by_cases nN:op=0
    .rw[aL nN] at hR;simp only[am,aG nN];refine lz (c:=t.enc) (by rw[<-hL];simp[qD]) ?_;simp only[am,Nat.reduceAdd,aA.fl];refine aN rfl (jF hr) ⟨?_,rfl⟩;rw[<-hR];rfl
    .rw[aB nN] at hR;simp only[am,aD nN];refine Sr ?_;simp only[am,d5];refine(QM op (um _)).mono ?_;rintro v σ' ⟨rfl,rfl⟩;simp only[am];generalize fT:(cm op).2=ks at hR ⊢;generalize Kf:((r1,{ar.zero with op:=op,pos:=w.pos}):af × ar)=x0 at hR;have WK:lI L s.length x0:=by grind
     refine⟨ks,rfl,by rw[<-fT];exact Ny op,λb i aV => aV = ⟨Cg s L b r,xr,Z.set r ((jP (ks.take i) x0).1.enc++(jP (ks.take i) x0).2.cJ (tJ (jP (ks.take i) x0).2.aX))⟩,?_,?_,?_,?_⟩
     .intro b;simp only[];refine a7.Ee (l' := xr) ?_ ?_ ?_ (by simp[Cg,xr,aj,bE,V.lo]) (by simp[xr,ij,cn,bE,V.lo]) rfl
      .simp[Cg,aj,am]
      .simp[xr,ij,am]
      .rw[<-Kf];exact bp.set (by simp[af.enc,ar.cJ,ar.zero,Nd.zero,Nd.kind,Nd.pos,Nd.an,Nd.ak,Nd.ae,jP,tJ,am])
     .rintro b i _ rfl;exact⟨rfl,by simp[Cg],by simp[Cg]⟩
     .rintro b i c _ hc rfl;simp only[Cg,aj,am];have JC:=QZ (ks.take i) WK;have rE:jP (ks.take (i+1)) x0=e_ c (jP (ks.take i) x0):=by rw[BX hc,ZS]
      have Xp:c=112->(jP (ks.take i) x0).2.aX=[]:=λh=>by
       rw[ZR (ks.take i) (by rw[<-fT];exact akd op i (by rw[fT,hc,h])),<-Kf];rfl
      rw[rE];generalize jP (ks.take i) x0=x at JC Xp ⊢;have hle:=JC.le;refine(aro (k:=c) (dt _) (λh=>by rw[Xp h];exact⟨rfl,rfl⟩) JC.ge (by rw[JC.hl];omega) (by omega)).mono ?_;rintro v _ ⟨rfl,rfl⟩;have OS:(if c=112/\x.1.aO=ah then tJ (e_ c x).2.aX else tJ x.2.aX)=tJ (e_ c x).2.aX:=by
       by_cases h:c=112/\x.1.aO=ah
       .grind
       .rw[aB h,ZO]
        grind
      rw[OS];simp only[am,cK];exact a7.Ee (l' := xr) (by simp[am]) (by simp[xr,ij,am]) bp.rfl (by simp[xr,bE,V.lo]) (by simp[xr,ij,cn,bE,V.lo]) rfl
     .rintro b _ rfl;simp only[Cg,xr,aj,am];rw[du];have NU:=QZ ks WK;generalize jP ks x0=x at NU hR ⊢;obtain⟨rd,c⟩:=x;have h1:=NU.hl;have h2:=NU.ge;simp only at h1 h2;unfold zf at hR;simp only[h1] at hR;simp only[am,nj];cases cg:rd.aO with
      | some a =>
       simp only[cg] at hR;simp only[am,Nat.reduceAdd,cX,Int.reduceEq,dS,nj,cg,ij];refine aN rfl (jF hr) ⟨?_,rfl⟩;have hR:(ar.zero,(2:Int),a)=R:=by grind
       rw[<-hR];rfl
      | none =>
       simp only[cg,qq] at hR;simp only[am,eE,bu,dS,nj]
       by_cases fA:rd.at_<L.length
       .rw[aL fA] at hR;simp only[am,aG fA];refine(Uy (dt _) h2).mono ?_;rintro v _ ⟨rfl,rfl⟩;obtain⟨a,ha⟩:∃a,rd.fail.aO=U a:=by
         have:=af.Jh rd
         cases hq:rd.fail.aO with
         | none=>exact absurd hq this
         | some a=>exact⟨a,rfl⟩
        rw[ha] at hR;simp only[am,Nat.reduceAdd,cX,Int.reduceEq,nj,ha,dS,ij];refine aN rfl (jF hr) ⟨?_,rfl⟩;rw[<-hR];rfl
       .rw[aB fA,cg] at hR;simp only[am,Nat.reduceAdd,bu,aD fA,nj,cg,dS,ij,agF,ce];refine aN ?_ (jF hr) ⟨?_,rfl⟩
        .simp[V.cS,bK,afO]
        rw[<-hR];simp[V.erase,a9,afM,Gp]
section
variable {c:ar}
theorem aq4{c d:ar}:over c.enc d.enc=d.enc:=rfl
theorem afq:bP aq 1 c.enc=U (.int .i64 c.op):=rfl
theorem afr:bP aq 1 (c.enc.drop 0)=U (.int .i64 c.op):=rfl
theorem afs:bP aq 1 (c.enc.drop 1)=U (.int .i64 c.pos):=rfl
def b7:=ag @afq <| ag @afr @afs
end
def LR(c:ar):List (List V):=[ij,[.int .i64 0,.int .i64 0],[.any,.any],[.any,.any],c.enc]
def tt(s:List UInt8)(L:List aA)(t:aA)(op:Nat)(r:Int)(Z:ab):St :=
 ⟨[.aQ s,.any,.ptr (.au 0) 0,.ptr (.au 1) 0,.any,.any,.sl .no 5 (cE L),.any,.ptr (.au 4) 0,.int .i64 (op:Nat)]++aj 109 .any,LR {ar.zero with op:=r,pos:=t.tok.pos},Z⟩
abbrev Ml(t:aA)(O'':Int):={p:Nat × Nat × Int // (if t.tok.kind=97 then lX t.tok.an p.1 p.2.1 p.2.2 else p.2.2)=O''/\p.2.1+p.1=16}
theorem Gs(op:Int):(cm op).2.length<=3:=by
 unfold cm;split
 .rename_i h1;have az:op.toNat<16:=by omega
  generalize op.toNat=n at az ⊢;have key:∀n<16,(j8.getD n ([],[])).2.length<=3:=by decide
  grind
 .simp
def zJ(s:List UInt8)(L:List aA)(ks:List UInt8)(a:Nat)(c:ar)(i:Nat)(Z:ab):St :=
 ⟨[.aQ s,.any,.ptr (.au 0) 0,.ptr (.au 1) 0,.any,.any,.sl .no 5 (cE L),.any,.ptr (.au 4) 0,.any,.int .i64 (a:Nat),.aQ ks,.int .i64 (i:Nat)]++aj 106 .any,LR c,Z⟩
abbrev Tt(L:List aA)(fin:Int)(ks:List UInt8)(X:ar × Int × Int):={p:Nat × Nat × ar // pw L fin (ks.drop p.1) p.2.2 p.2.1=X/\p.1<=ks.length}
theorem agW(s:List UInt8)(Z:ab)(hb:s.length+1<=aJ)(hm:bj (iy (eH s).1).1+8<=aJ) :
 aR 28 [.aQ s] Z (.bw [.agg (Dy s).1.enc,Gp (Dy s).2]):=by
 have CP:=Qd s;refine fq func28 ?_;simp only[aP,am,aT,Nat.reduceAdd];refine cl (anX s Z hb) ?_;generalize hR:Dy s=R;unfold Dy at hR;simp only[am,Nat.reduceAdd,xE];cases hl:(eH s).2 with
 | some a =>
  rw[hl] at hR;simp only[am,Nat.reduceAdd,cX,Int.reduceEq];refine aN rfl (ab.a8 _) ⟨?_,rfl⟩;rw[<-hR];rfl
 | none =>
  rw[hl] at hR;simp only[am,bu];refine cl (avL (eH s).1 Z (by omega)) ?_;simp only[am,Nat.reduceAdd,kq];simp only at hR;cases ht:(iy (eH s).1).2 with
  | some a =>
   rw[ht] at hR;simp only[am,Nat.reduceAdd,cX,Int.reduceEq,dS];refine aN rfl (ab.a8 _) ⟨?_,rfl⟩;rw[<-hR];rfl
  | none =>
   rw[ht] at hR;simp only at hR;simp only[am,eE,bu,dS];generalize (iy (eH s).1).1=l at hm hR ⊢;have hlen:=iv l;cases l with
   | nil =>
    simp only[am,Nat.reduceAdd,bu,cZ,show(((0:Nat):Int)=0)=True by simp];refine aN rfl (ab.a8 _) ⟨?_,rfl⟩;rw[<-hR];rfl
   | cons t ts =>
    generalize hL:t::ts=L at *;have bf:¬(L.length:Int)=0:=by grind
    simp only[am,aD bf];refine lz (c:=t.enc) (by rw[<-hL];simp[qD]) ?_;simp only[am,Nat.reduceAdd,aA.fl];have JO:wq L s.length=if (if t.tok.kind=97 then lX t.tok.an 15 1 0 else 0)=0 then(.zero,2,t.tok.pos)
     else(if 0<=(pw L s.length (cm (if t.tok.kind=97 then lX t.tok.an 15 1 0 else 0)).2 {ar.zero with op:=(if t.tok.kind=97 then lX t.tok.an 15 1 0 else 0),pos:=t.tok.pos} 1).2.2 then(.zero,2,(pw L s.length (cm (if t.tok.kind=97 then lX t.tok.an 15 1 0 else 0)).2 {ar.zero with op:=(if t.tok.kind=97 then lX t.tok.an 15 1 0 else 0),pos:=t.tok.pos} 1).2.2)
      else if (pw L s.length (cm (if t.tok.kind=97 then lX t.tok.an 15 1 0 else 0)).2 {ar.zero with op:=(if t.tok.kind=97 then lX t.tok.an 15 1 0 else 0),pos:=t.tok.pos} 1).2.1<L.length then(.zero,2,kA L (pw L s.length (cm (if t.tok.kind=97 then lX t.tok.an 15 1 0 else 0)).2 {ar.zero with op:=(if t.tok.kind=97 then lX t.tok.an 15 1 0 else 0),pos:=t.tok.pos} 1).2.1 s.length)
      else((pw L s.length (cm (if t.tok.kind=97 then lX t.tok.an 15 1 0 else 0)).2 {ar.zero with op:=(if t.tok.kind=97 then lX t.tok.an 15 1 0 else 0),pos:=t.tok.pos} 1).1,0,0)):=by rw[<-hL];rfl
    rw[JO] at hR;clear JO;generalize hO:(if t.tok.kind=97 then lX t.tok.an 15 1 0 else 0)=O'' at hR;have XA:(cE L)[0]?=U t.enc:=by rw[<-hL];simp[qD]
    refine ep (λp:Ml t O''=>tt s L t p.1.2.1 p.1.2.2 Z) (λp=>p.1.1) ?_ ?_
    .refine a7.enter ⟨(15,1,0),hO,rfl⟩ ?_ ?_ bp.rfl
     .simp[tt,aj,am]
     .simp[tt,LR,ar.enc,ar.cJ,ar.zero,Nd.zero,Nd.kind,Nd.pos,Nd.an,Nd.ak,Nd.ae,ij,am]
    .rintro⟨⟨n,op,r⟩,hO,hs⟩;simp only at hO hs;simp only[tt,LR,aj,am];have wi:IntKind.i64.wrap ((op:Int)+1)=((op+1:Nat):Int):=by rw[wrap_i64];simp
     by_cases nN:op<=15
     .obtain⟨m,rfl⟩:∃m,n=m+1:=⟨n - 1,by omega⟩;have again:∀(t1:List V) (l1:List (List V)) (r:Int),(if t.tok.kind=97 then lX t.tok.an m (op+1) r else r)=O''->c_ t1 (tt s L t (op+1) r Z).t->bX l1 (tt s L t (op+1) r Z).au->a7 ⟨t1,l1,Z⟩ λaV => ∃j:Ml t O'',aV = tt s L t j.1.2.1 j.1.2.2 Z/\j.1.1<m+1:=λt1 l1 r h ht hl =>
       a7.again (I:=λp:Ml t O''=>tt s L t p.1.2.1 p.1.2.2 Z) (μ:=λp=>p.1.1) ⟨(m,op+1,r),h,by simp only;omega⟩ (by simp) ht hl bp.rfl
      simp only[am,aG (show(op:Int)<=15 by omega)];refine lz (c:=t.enc) XA ?_;simp only[am,aA.fl]
      by_cases dy:t.tok.kind=97
      .simp only[dy,db,lX] at hO;simp only[am,aG dy];refine lz (c:=t.enc) XA ?_;simp only[am,aA.fl];refine bn.intro (TD op Z) ?_;simp only[am,aA.fl]
       by_cases hw:t.tok.an=(cm op).1
       .rw[aL hw] at hO;simp only[am,aG hw];exact again _ _ op (by rw[aL dy];exact hO) (by simp[tt,aj,am,wi]) (by simp[tt,LR,ar.enc,ar.cJ,am])
       .rw[aB hw] at hO;simp only[am,aD hw,wi];exact again _ _ r (by rw[aL dy];exact hO) (by simp[tt,aj,am]) (by simp[tt,LR,ar.enc,ar.cJ,am])
      .rw[aB dy] at hO;simp only[am,aD dy,wi];exact again _ _ r (by rw[aB dy];exact hO) (by simp[tt,aj,am]) (by simp[tt,LR,ar.enc,ar.cJ,am])
     .obtain rfl:n=0:=by omega
      have hO:r=O'':=by simpa [lX] using hO
      subst hO;simp only[am,b7,aD (show ¬(op:Int)<=15 by omega)]
      by_cases J9:r=0
      .rw[aL J9] at hR;simp only[am,Nat.reduceAdd,b7,aG J9,ij];refine aN rfl (ab.a8 _) ⟨?_,rfl⟩;rw[<-hR];rfl
      .rw[aB J9] at hR;simp only[am,b7,aD J9];refine cl (Qc r Z) ?_;generalize fT:(cm r).2=ks at hR;have mi:ks.length<=3:=by rw[<-fT];exact Gs r
       generalize hX:pw L s.length ks {ar.zero with op:=r,pos:=t.tok.pos} 1=X at hR;refine ep (λp:Tt L s.length ks X=>zJ s L ks p.1.2.1 p.1.2.2 p.1.1 Z) (λp=>ks.length - p.1.1) ?_ ?_
       .refine a7.enter ⟨(0,1,{ar.zero with op:=r,pos:=t.tok.pos}),hX,by simp⟩ ?_ ?_ bp.rfl
        .simp[zJ,aj,am]
        .simp[zJ,LR,am]
       .rintro⟨⟨i,a,c⟩,hX,hi⟩;simp only at hX hi;simp only[zJ,LR,aj,am];have wi:IntKind.i64.wrap ((i:Int)+1)=((i+1:Nat):Int):=by rw[wrap_i64];simp
        by_cases az:i<ks.length
        .simp only[am,Nat.reduceAdd,bu,Nat.reduceLT,b9,aG (show(i:Int)<ks.length by omega)];refine rF (c:=ks[i]) (by simp) ?_;simp only[am,b9];refine bn.intro (arj ks[i] c L a s.length Z hm) ?_;obtain⟨a',A7,_⟩:=ZP ks[i] c L a s.length;rw[mb az] at hX;simp only[pw] at hX;rw[A7] at hX;rw[A7];generalize ky ks[i] c L (a:Nat) s.length=Y'' at hX A7 ⊢;simp only[am,Nat.reduceAdd,b9]
         by_cases cg:0<=Y''.2.2
         .rw[aL cg] at hX;simp only[am,Nat.reduceAdd,aG cg,ij];rw[<-hX,aL cg] at hR;refine aN rfl (ab.a8 _) ⟨?_,rfl⟩;rw[<-hR];rfl
         .rw[aB cg] at hX;simp only[am,b9,aD cg];exact a7.nh (I:=λp:Tt L s.length ks X=>zJ s L ks p.1.2.1 p.1.2.2 p.1.1 Z) (μ:=λp=>ks.length - p.1.1) ⟨(i+1,a',Y''.1),hX,by simp only;omega⟩ (by simp only;omega) (by simp[zJ,aj,am,wi]) (by simp[zJ,LR,am,aq4]) bp.rfl (by simp[zJ,LR,aj,bE,V.lo]) (by simp[zJ,LR,ij,ar.enc,ar.cJ,cn,bE,V.lo])
        .obtain rfl:i=ks.length:=by omega
         rw[Az] at hX;simp only[pw] at hX;rw[<-hX] at hR;simp only[am,eE,aD (show ¬(ks.length:Int)<ks.length by omega),ij];have GW:¬(0:Int)<=-1:=by decide
         simp only[aB GW] at hR
         by_cases fA:a<L.length
         .rw[aL (by omega)] at hR;simp only[am,aG (show(a:Int)<L.length by omega)];refine lz (iN (bY fA)) ?_;simp only[am,Nat.reduceAdd,aA.fl];refine aN rfl (ab.a8 _) ⟨?_,rfl⟩;rw[<-hR];simp[kA,fA];rfl
         .rw[aB (by omega)] at hR;simp only[am,Nat.reduceAdd,b9,aD (show ¬(a:Int)<L.length by omega)];refine aN rfl (ab.a8 _) ⟨?_,rfl⟩;rw[<-hR];rfl
def ajZ:fm prog 32 (sq [rg 4 [oz 2],sq [rg 6 [om 0,nL,om 1,nL,nb .neq 7],cr 10 4 [oz 2]],sq [rg 5 [oi 0],bl 0 (sq [sq [rg 11 [om 5,om 0,nL,nb .lss 11],cx 14 0],.block 1 (sq [dg 17 [om 0,om 5,nA 2 17,nl 2,om 1,om 5,nA 2 21,nl 2,oq (.lr aa [2,1] (.s 20) (.s 24))],cr 25 4 [oz 2]]),rg 15 [ic 5]])],rg 4 [oq (.mv (.c (.bool aa)))],.ret]) [.tmp 4] 26:=fU func32
def aj0:fm prog 33 (sq [rg 4 [ox 2 5 0,ox 3 5 1,oz 2],sq [rg 7 [fo 1 2,fo 1 3,nb .neq 8,gB,ol 5 2,ol 5 3,oC 60 [13,14],nn,gZ],cr 17 4 [oz 2]],sq [rg 5 [oi 0],bl 0 (sq [sq [rg 18 [om 5,fo 3 2,nL,nb .lss 18],cx 22 0],.block 1 (sq [dg 25 [fo 3 2,om 5,nA 2 26,nl 2,fo 3 3,om 5,nA 2 31,nl 2,oq (.lr aa [2,1] (.s 29) (.s 34))],cr 35 4 [oz 2]]),rg 23 [ic 5]])],sq [rg 6 [oi 0],bl 2 (sq [sq [rg 36 [om 6,fo 4 2,nL,nb .lss 36],cx 40 2],.block 3 (sq [dg 43 [fo 4 2,om 6,nA 5 44,nl 5,fo 4 3,om 6,nA 5 49,nl 5,oC 33 [47,52],nn],cr 54 4 [oz 2]]),rg 41 [ic 6]])],rg 4 [oq (.mv (.c (.bool aa)))],.ret]) [.tmp 4] 55:=fU func33
def Pr(l:List aC)(i:Nat)(Z:ab):St :=
 ⟨[.sl .no 2 (l.map aC.enc),.sl .no 2 (l.map aC.enc),.any,.any,.any,.int .i64 (i:Nat)]++aj 20 .any,[],Z⟩
theorem awT(l:List aC)(Z:ab)(hb:l.length<=aJ):aR 32 [.sl .no 2 (l.map aC.enc),.sl .no 2 (l.map aC.enc)] Z (.bool aa):=by
 simp only[aJ] at hb;refine ajZ.fK ?_;simp only[aP,am,aT,Nat.reduceAdd,bu];refine ep (λp:{i:Nat // i<=l.length}=>Pr l p.1 Z) (λp=>l.length - p.1) ?_ ?_
 .refine a7.enter ⟨0,by simp⟩ ?_ bX.rfl bp.rfl;simp[Pr,aj,am]
 .rintro⟨i,hi⟩;simp only[Pr,aj,am,aF];refine dc ?_ ?_
  .intro az;have az:i<l.length:=by grind
   have hn:l[i]?=U l[i]:=by simp
   simp only[am];refine ix (o5 hn) ?_;simp only[am,aC.enc];refine ix (o5 hn) ?_;simp only[am,bu,aC.enc];rw[wrap_i64];exact a7.again ⟨i+1,az⟩ (by simp;omega) (by simp[am]) bX.rfl bp.rfl
  .intro az;simp only[am];exact rt
def Pt(n:Nd)(Z:ab)(i:Nat):St :=
 ⟨[.any,.any,.ptr (.au 0) 0,.ptr (.au 1) 0]++[.any,.int .i64 (i:Nat)]++aj 49 .any,[n.enc,n.enc],Z⟩
def Ps(n:Nd)(Z:ab)(i:Nat):St :=
 ⟨[.any,.any,.ptr (.au 0) 0,.ptr (.au 1) 0]++[.any,.any,.int .i64 (i:Nat)]++aj 48 .any,[n.enc,n.enc],Z⟩
def axJ:=ag @am <| ag @aT <| ag @bu <| ag @Nd.al @Nd.fl
theorem acu:∀(k:Nat) (n:Nd) (Z:ab),n.wt<=k->n.wt<=aJ->aR 33 [.agg n.enc,.agg n.enc] Z (.bool aa):=by
 intro k;induction k with
 | zero=>intro n Z h _;cases n;simp only[Nd.wt] at h;omega
 | succ k sy =>
  intro n Z hk hw;have hn:=v9 n;have jL:n.wt<2^62:=by simp only[aJ] at hw;omega
  refine aj0.fK ?_;simp only[aP,axJ,Nat.reduceAdd];refine cl (Lg _ n n _ (bU _) hw) ?_;simp only[am,Nd.HY];refine ep (λp:{i:Nat // i<=n.ak.length}=>Pt n Z p.1) (λp=>n.ak.length - p.1) ?_ ?_
  .refine a7.enter ⟨0,by simp⟩ ?_ bX.rfl bp.rfl;simp[Pt,aj,am]
  rintro⟨i,hi⟩;simp only[Pt,aj,am,Nd.fl,aF];refine dc ?_ ?_
  .intro az;have az:i<n.ak.length:=by grind
   simp only[am,Nd.fl];refine ix (o5 (bY az)) ?_;simp only[am,aC.al,Nd.fl];refine ix (o5 (bY az)) ?_;simp only[am,bu,aC.enc];rw[wrap_i64];exact a7.again ⟨i+1,az⟩ (by simp;omega) (by simp[am]) bX.rfl bp.rfl
  intro az;have az:i=n.ak.length:=by grind
  subst az;simp only[am];refine ep (λp:{i:Nat // i<=n.ae.length}=>Ps n Z p.1) (λp=>n.ae.length - p.1) ?_ ?_
  .refine a7.enter ⟨0,by simp⟩ ?_ bX.rfl bp.rfl;simp[Ps,aj,am]
  rintro⟨i,hi⟩;simp only[Ps,aj,am,Nd.fl,aF];refine dc ?_ ?_
  .intro az;have az:i<n.ae.length:=by grind
   have sj:=iI (n:=n) (dQ az);simp only[am,Nd.fl];refine ix (gH (bY az)) ?_;simp only[am,Nd.al,Nd.fl];refine ix (gH (bY az)) ?_;simp only[am,Nd.al];refine bn.intro (sy n.ae[i] _ (by omega) (by omega)) ?_;simp only[am];rw[wrap_i64];exact a7.again ⟨i+1,az⟩ (by simp;omega) (by simp[am]) bX.rfl bp.rfl
  intro az;simp only[am];exact rt
def ajA:fm prog 13 (sq [rg 4 [ox 2 17 0,ox 3 17 1,oz 2],sq [rg 6 [ol 17 2,ol 17 3,oC 31 [6,7],nn,gB,fo 1 2,fo 1 3,nb .neq 12,gZ,gB,of 2 2,nl 2,of 2 3,nl 2,oq (.lr aa [2,1] (.s 19) (.s 21)),gZ,gB,fo 6 2,fo 6 3,nb .neq 26,gZ,gB,fo 4 2,fo 4 3,oC 32 [33,35],nn,gZ],cr 38 4 [oz 2]],sq [rg 5 [oi 0],bl 0 (sq [sq [rg 39 [om 5,fo 5 2,nL,nb .lss 39],cx 43 0],.block 1 (sq [dg 46 [fo 5 2,om 5,nA 4 47,nl 4,fo 5 3,om 5,nA 4 52,nl 4,oq (.lr aa [2,1,2,1] (.s 50) (.s 55))],cr 56 4 [oz 2]]),rg 44 [ic 5]])],rg 57 [of 7 2,nl 5,of 7 3,nl 5,oC 33 [58,60],gA,of 12 2,nl 5,of 12 3,nl 5,oC 33 [64,66],gZ,o1 4],.ret]) [.tmp 4] 69:=fU func13
section
variable {c:ar}
theorem afi:bP aq 1 (c.enc.drop 2)=U (.aQ c.name.an):=rfl
theorem afD:takeN 2 (c.enc.drop 2)=U [.aQ c.name.an,.int .i64 c.name.pos]:=rfl
theorem afk:bP aq 1 (c.enc.drop 4)=U (.sl .no 2 (c.ak.map aC.enc)):=rfl
theorem afl:bP aq 1 (c.enc.drop 5)=U (.sl .no 4 (c.aX.map eJ)):=rfl
theorem afm:bP aq 1 (c.enc.drop 6)=U (.int .i64 c.qe):=rfl
def afE:takeN 5 (c.enc.drop 7)=U c.left.enc:=by rw[Nd.dk];rfl
def afC:takeN 5 (c.enc.drop 12)=U c.right.enc:=by rw[Nd.dk];rfl
def bG:=ag @afi <| ag @afD <| ag @afk <| ag @afl <| ag @afm <| ag @afE @afC
end
theorem ary{p:aC × aC}:takeN 4 (eJ p)=U (eJ p):=rfl
variable{j:Nat}
def vZ{l:List (aC × aC)}{p:aC × aC}(h:l[j]?=U p):(l.map eJ)[(j:Int).toNat]?=U (eJ p):=by simp[h]
structure FP(c:ar):Prop where
 ns:c.ak.length<=aJ
 ps:c.aX.length<=aJ
 l:c.left.wt<=aJ
 r:c.right.wt<=aJ
def Pq(c:ar)(Z:ab)(i:Nat):St :=
 ⟨[.any,.any,.ptr (.au 0) 0,.ptr (.au 1) 0]++[.any,.int .i64 (i:Nat)]++aj 104 .any,[c.enc,c.enc],Z⟩
def Pp(c:ar)(Z:ab)(i:Nat):St :=
 ⟨[.any,.any,.ptr (.au 0) 0,.ptr (.au 1) 0]++[.any,.any,.int .i64 (i:Nat)]++aj 103 .any,[c.enc,c.enc],Z⟩
theorem auc(h:FP c)(Z:ab):aR 31 [.agg c.enc,.agg c.enc] Z (.bool aa):=by
 have h1:=h.ns;have h2:=h.ps;simp only[aJ] at h1 h2;refine fq func31 ?_;simp only[aP,am,aT,Nat.reduceAdd,bu,b9,b7,bG,aF];refine ep (λp:{i:Nat // i<=c.ak.length}=>Pq c Z p.1) (λp=>c.ak.length - p.1) ?_ ?_
 .refine a7.enter ⟨0,by simp⟩ ?_ bX.rfl bp.rfl;simp[Pq,aj,am]
 rintro⟨i,hi⟩;simp only[Pq,aj,am,bG,aF];refine dc ?_ ?_
 .intro az;have az:i<c.ak.length:=by grind
  simp only[am,bG];refine ix (o5 (bY az)) ?_;simp only[am,bG,aC.enc];refine ix (o5 (bY az)) ?_;simp only[am,bu,aC.enc];rw[wrap_i64];exact a7.again ⟨i+1,az⟩ (by simp;omega) (by simp[am]) bX.rfl bp.rfl
 intro az;have az:i=c.ak.length:=by grind
 subst az;simp only[am];refine ep (λp:{i:Nat // i<=c.aX.length}=>Pp c Z p.1) (λp=>c.aX.length - p.1) ?_ ?_
 .refine a7.enter ⟨0,by simp⟩ ?_ bX.rfl bp.rfl;simp[Pp,aj,am]
 rintro⟨i,hi⟩;simp only[Pp,aj,am,bG,aF];refine dc ?_ ?_
 .intro az;have az:i<c.aX.length:=by grind
  have Ez:(0:Int)<=0:=by decide
  simp only[am,bG];refine ix (vZ (bY az)) ?_;simp only[am,cK];refine tq ?_;simp only[am,Int.reduceToNat,Nat.reduceMul,bG,eJ];refine ix (vZ (bY az)) ?_;simp only[am,cK];refine tq ?_;simp only[am,bu,Int.reduceToNat,Nat.reduceMul,bG,eJ];refine ix (vZ (bY az)) ?_;simp only[am,cK];refine tq ?_;simp only[am,Int.reduceToNat,Nat.reduceMul,bG,eJ];refine ix (vZ (bY az)) ?_;simp only[am,cK];refine tq ?_;simp only[am,bu,Int.reduceToNat,Nat.reduceMul,eJ];rw[wrap_i64];exact a7.again ⟨i+1,az⟩ (by simp;omega) (by simp[am]) bX.rfl bp.rfl
 intro az;simp only[am,Nd.al,bG];refine cl (Lg _ c.left c.left _ (bU _) h.l) ?_;simp only[am,Nd.al,bG,Nd.HY];refine cl (Lg _ c.right c.right _ (bU _) h.r) ?_;simp only[am,Nd.HY];exact rt
def PJ(c:ar)(Z:ab)(i:Nat):St :=
 ⟨[.any,.any,.ptr (.au 0) 0,.ptr (.au 1) 0]++[.any,.int .i64 (i:Nat)]++aj 63 .any,[c.enc,c.enc],Z⟩
theorem awf(h:FP c)(Z:ab):aR 13 [.agg c.enc,.agg c.enc] Z (.bool aa):=by
 have h1:=h.ns;have h2:=h.ps;simp only[aJ] at h1 h2;refine ajA.fK ?_;simp only[aP,am,aT,Nat.reduceAdd,b9];refine cl (auc h Z) ?_;simp only[am,bu,b7,bG];refine cl (awT c.ak Z (by simp only[aJ];omega)) ?_;simp only[am];refine ep (λp:{i:Nat // i<=c.aX.length}=>PJ c Z p.1) (λp=>c.aX.length - p.1) ?_ ?_
 .refine a7.enter ⟨0,by simp⟩ ?_ bX.rfl bp.rfl;simp[PJ,aj,am]
 rintro⟨i,hi⟩;simp only[PJ,aj,am,bG,aF];refine dc ?_ ?_
 .intro az;have az:i<c.aX.length:=by grind
  simp only[am,bG];refine ix (vZ (bY az)) ?_;simp only[am,bG,ary];refine ix (vZ (bY az)) ?_;simp only[am,bu,eJ];rw[wrap_i64];exact a7.again ⟨i+1,az⟩ (by simp;omega) (by simp[am]) bX.rfl bp.rfl
 intro az;simp only[am,Nd.al,bG];refine cl (acu _ c.left _ (bU _) h.l) ?_;simp only[am,Nd.al,bG];refine cl (acu _ c.right _ (bU _) h.r) ?_;simp only[am];exact rt
section
variable {c:ar}
theorem afj:bP aq 1 (c.enc.drop 3)=U (.int .i64 c.name.pos):=rfl
theorem afg:bP aq 1 (c.enc.drop 12)=U (.int .i64 c.right.kind):=rfl
theorem afh:bP aq 1 (c.enc.drop 13)=U (.int .i64 c.right.pos):=rfl
def ni:=ag @afj <| ag @afg @afh
end
def V1{l:List aM}(h:j<l.length):(l.map aM.enc)[((j:Nat):Int).toNat]?=U l[j].enc:=by simp[h]
theorem Bv(l:List aM)(Z:ab)(hl:l.length<=100000000):aR 57 [.sl .no 2 (l.map aM.enc)] Z (.agg (fH l).enc):=by
 refine fq func57 ?_;simp only[aP,am,aT,Nat.reduceAdd,aF];refine ch (l.length) (λi (x:Unit)=>⟨[.any,.any,.ptr (.au 0) 0,.ptr (.au 1) 0,.any,.any,.sl .no 2 (l.map aM.enc),.int .i64 (l.length:Nat),.int .i64 (i:Nat)]++aj 33 .any,[aM.zero.enc,(fH (l.take i)).enc],Z⟩) (λi x=>(True)) λF hF JF aZ=>⟨?_,?_,?_⟩
 .refine en aZ (()) (trivial) ?_ ?_ ?_
  all_goals simp[hF,aj,am,ba,fH,aM.zero,aM.enc]
 .rintro i x hi -;have hT:=Ys hi;simp only[hF,aj,am,cf hi];refine ix (V1 hi) ?_;simp only[am,Nat.reduceAdd,aM.al];generalize fH (l.take i)=o at hT;generalize l[i]=f at hT
  by_cases h0:f.cls=0
  .rw[j7,aL h0] at hT;simp only[am,aK,reduceCtorEq,aM.al,aG h0,bt hi];refine c7 (()) hi ?_ ?_ ?_ ?_ ?_ ?_
   .grind
   all_goals simp[hF,aj,am,ba,bE,cn,V.lo,hT,aM.bR]
  rw[j7,aB h0] at hT;simp only[am,aM.al,aD h0];have yes:qN o f=aa->fH (l.take (i+1))=f:=λh=>by rw[hT,h,aL rfl]
  have no:qN o f=aq->fH (l.take (i+1))=o:=λh=>by rw[hT,h];rfl
  by_cases h1:o.cls=0
  .have e:=yes (by simp[qN,h1]);simp only[am,aK,aM.al,aG h1,bt hi];refine c7 (()) hi ?_ ?_ ?_ ?_ ?_ ?_
   .grind
   all_goals simp[hF,aj,am,ba,bE,cn,V.lo,e,aM.bR]
  simp only[am,aM.al,aD h1]
  by_cases h2:f.cls<o.cls
  .have e:=yes (by simp[qN,h2]);simp only[am,aK,aM.al,aG h2,bt hi];refine c7 (()) hi ?_ ?_ ?_ ?_ ?_ ?_
   .grind
   all_goals simp[hF,aj,am,ba,bE,cn,V.lo,e,aM.bR]
  simp only[am,aM.al,aD h2]
  by_cases h3:f.cls=o.cls
  case neg =>
   have e:=no (by simp[qN,h1,h2,h3]);simp only[am,aK,aD h3,bt hi];refine c7 (()) hi ?_ ?_ ?_ ?_ ?_ ?_
   .grind
   all_goals simp[hF,aj,am,ba,bE,cn,V.lo,e,aM.bR]
  simp only[am,aM.al,aG h3]
  by_cases h4:f.au<o.au
  .have e:=yes (by simp[qN,h3,h4]);simp only[am,aK,aM.al,aG h4,bt hi];refine c7 (()) hi ?_ ?_ ?_ ?_ ?_ ?_
   .grind
   all_goals simp[hF,aj,am,ba,bE,cn,V.lo,e,aM.bR]
  .have e:=no (by simp[qN,h1,h2,h4]);simp only[am,aK,aD h4,bt hi];refine c7 (()) hi ?_ ?_ ?_ ?_ ?_ ?_
   .grind
   all_goals simp[hF,aj,am,ba,bE,cn,V.lo,e,aM.bR]
 .rintro x -;simp only[hF,aj,am,aK,ck,aK,aM.al,du];refine aI ?_;rfl
theorem VS(s:aH)(c:ar)(hs:s.ok)(hg:TZ Z)(hl:c.left.cW<=100000)(hr:c.right.cW<=100000)(jO:c.left.wt<=aJ)(qL:c.right.wt<=aJ):
 aR 55 [.agg s.enc,.agg c.enc] Z (.agg (iE s c).enc):=by
 refine fq func55 ?_ ⟨[10],[2]⟩;simp only[aP,am,aT,Nat.reduceAdd,Int.reduceNeg,lg,aH.al,b9,b7];intro b hb;simp only[am,Int.reduceNeg];refine a7.tok 0 λD aW=>⟨_,_,(Z.set b _).set b (rb D [] s (-1) c.pos),fG.rfl,rfl,λi c' hc=>⟨c',hc,fG.rfl⟩,rY.set j6 (by simp[rb,ji]),?_⟩
 have aW:Z.aS D=none:=aW;rw[ab.set_set,show(Z.set b (rb D [] s (-1) c.pos)).aU D 0=dP Z b D [] s (-1) c.pos from rfl];have fin:∀(L:List aM) (t:List V) (lo:List (List V)) (lat:Int),fH L=iE s c->jS (λv σ' => v = .agg (iE s c).enc/\σ' = Z) ⟨t,lo,dP Z b D L s lat c.pos⟩ (.agg (fH L).enc):=λL t lo lat h=>by
  rw[h];exact aN rfl (axn hb aW) ⟨rfl,rfl⟩
 have hv:∀{t:List UInt8} {y k lat:Int},(fY s lat t y k).length<=1:=tQ;have ax3:=@Yb s c.name;have e1:bW (fD s.bc c.name.an)=cD s c:=rfl;have az:cD s c<s.bc.length:=by
  rw[cD];cases h:fD s.bc c.name.an with
  | none=>simp only[bW];omega
  | some k=>have:=(AZ h).1;simp only[bW];omega
 simp only[am,Int.reduceNeg,b7]
 by_cases eK:c.op=10
 .simp only[am,Nat.reduceAdd,Int.reduceNeg,bG,ni,aG eK];refine cl (H_ Z b D [] s (-1) c.pos c.name.pos 2 c.name.an (by simp) hs) ?_;simp only[am,Int.reduceNeg,lg,gK];have hlen:=@tQ s (-1) c.name.an c.name.pos 2;refine cl (cy.df (as' := [.sl .no 2 ((fY s (-1) c.name.an c.name.pos 2).map aM.enc)]) (Bv (fY s (-1) c.name.an c.name.pos 2) _ (by omega)) ⟨dv.no,trivial⟩ bp.rfl) ?_;simp only[am,Int.reduceNeg,aM.al];exact fin _ _ _ _ (by rw[iE,r7];rw[aL eK])
 simp only[am,Int.reduceNeg,aD eK]
 by_cases pS:c.op=15
 .simp only[am,Nat.reduceAdd,Int.reduceNeg,bG,ni,aG pS];refine cl (H_ Z b D [] s (-1) c.pos c.name.pos 1 c.name.an (by simp) hs) ?_;simp only[am,Int.reduceNeg,lg,gK];have hlen:=@tQ s (-1) c.name.an c.name.pos 1;refine cl (cy.df (as' := [.sl .no 2 ((fY s (-1) c.name.an c.name.pos 1).map aM.enc)]) (Bv (fY s (-1) c.name.an c.name.pos 1) _ (by omega)) ⟨dv.no,trivial⟩ bp.rfl) ?_;simp only[am,Int.reduceNeg,aM.al];exact fin _ _ _ _ (by rw[iE,r7];rw[aB eK,aL pS])
 simp only[am,Int.reduceNeg,aD pS]
 by_cases h8:c.op=8
 .simp only[am,Int.reduceNeg,bG,aG h8];have l1:=@PX s (cD s c) c.left;have l2:=@PX s (cD s c) c.right;refine cl (abY Z b D [] s (-1) c.pos c.name (by simp) hs) ?_;rw[e1,gK];simp only[am,Int.reduceNeg,Nd.al,bG];refine cl (abX Z b D (fB s c.name) s (cD s c) c.pos c.left hs hg hb az (by omega) (by omega) jO) ?_;simp only[am,Int.reduceNeg,Nd.al,bG];refine cl (abX Z b D (fB s c.name++gF s (cD s c) c.left) s (cD s c) c.pos c.right hs hg hb az (by simp only[bL];omega) (by omega) qL) ?_;simp only[am,Int.reduceNeg,ni];have hlen:(fB s c.name++gF s (cD s c) c.left++gF s (cD s c) c.right).length<=200001:=by grind
  have done:∀(d:List aM) (t:List V) (lo:List (List V)),d=r8 c.right->jS (λv σ' => v = .agg (iE s c).enc/\σ' = Z) ⟨t,lo,dP Z b D ((fB s c.name++gF s (cD s c) c.left++gF s (cD s c) c.right)++d) s (cD s c) c.pos⟩ (.agg (fH ((fB s c.name++gF s (cD s c) c.left++gF s (cD s c) c.right)++d)).enc):=λd t lo hd=>fin _ _ _ _ (by rw[iE,r7,aB eK,aB pS,aL h8,hd])
  by_cases k8:c.right.kind=8\/c.right.kind=9
  .have nR:(decide (c.right.kind=8)=aa)\/(decide (c.right.kind=8)=aq/\decide (c.right.kind=9)=aa):=by grind
   rcases nR with q1 | ⟨q1,q2⟩
   case' inl=>simp only[am,Nat.reduceAdd,Int.reduceNeg,ni,q1]
   case' inr=>simp only[am,Nat.reduceAdd,Int.reduceNeg,ni,q1,q2]
   all_goals
    refine bn.intro (Ia Z b D (fB s c.name++gF s (cD s c) c.left++gF s (cD s c) c.right) s (cD s c) c.pos 6 c.right.pos (by omega)) ?_;simp only[am,Int.reduceNeg,lg];refine cl (cy.df (as' := [.sl .no 2 (((fB s c.name++gF s (cD s c) c.left++gF s (cD s c) c.right)++[(⟨6,c.right.pos⟩:aM)]).map aM.enc)]) (Bv ((fB s c.name++gF s (cD s c) c.left++gF s (cD s c) c.right)++[(⟨6,c.right.pos⟩:aM)]) _ (by simp only[bL,eZ];omega)) ⟨dv.no,trivial⟩ bp.rfl) ?_;simp only[am,Int.reduceNeg,aM.al];exact done _ _ _ (by rw[r8,aL k8])
  .simp only[am,Nat.reduceAdd,Int.reduceNeg,ni,aD (λh=>k8 (.inl h)),aD (λh=>k8 (.inr h))];refine bn.intro (DE Z b D (fB s c.name++gF s (cD s c) c.left++gF s (cD s c) c.right) s (cD s c) c.pos 6 c.right.pos (by omega)) ?_;simp only[am,Int.reduceNeg,lg];refine cl (cy.df (as' := [.sl .no 2 ((fB s c.name++gF s (cD s c) c.left++gF s (cD s c) c.right).map aM.enc)]) (Bv (fB s c.name++gF s (cD s c) c.left++gF s (cD s c) c.right) _ (by omega)) ⟨dv.no,trivial⟩ bp.rfl) ?_;simp only[am,Int.reduceNeg,aM.al]
   have:=done [] ?_ ?_ (by rw[r8,aB k8])
   .rw[eC] at this;exact this
 simp only[am,Int.reduceNeg,aD h8]
 by_cases h9:c.op=9
 .simp only[am,Int.reduceNeg,bG,aG h9];refine cl (abY Z b D [] s (-1) c.pos c.name (by simp) hs) ?_;rw[e1,gK];simp only[am,Int.reduceNeg,Nd.al,bG];refine cl (ab7 Z b D (fB s c.name) s (cD s c) c.pos c.left hs hg hb az (by omega) hl jO) ?_;simp only[am,Int.reduceNeg,Nd.al,bG];have r1:=@aaJ s (cD s c) c.pos c.left;have r2:=@aaJ s (cD s c) c.pos c.right;refine cl (ab7 Z b D (fB s c.name++pz s (cD s c) c.pos c.left) s (cD s c) c.pos c.right hs hg hb az (by simp only[bL];omega) hr qL) ?_;simp only[am,Int.reduceNeg,lg];refine cl (cy.df (as' := [.sl .no 2 ((fB s c.name++pz s (cD s c) c.pos c.left++pz s (cD s c) c.pos c.right).map aM.enc)]) (Bv (fB s c.name++pz s (cD s c) c.pos c.left++pz s (cD s c) c.pos c.right) _ (by simp only[bL];omega)) ⟨dv.no,trivial⟩ bp.rfl) ?_;simp only[am,Int.reduceNeg,aM.al];exact fin _ _ _ _ (by rw[iE,r7];rw[aB eK,aB pS,aB h8,aL h9])
 simp only[am,Int.reduceNeg,lg,aD h9];refine cl (cy.df (as' := [.sl .no 2 (([]:List aM).map aM.enc)]) (Bv ([]:List aM) _ (by simp)) ⟨dv.no,trivial⟩ bp.rfl) ?_;simp only[am,Int.reduceNeg,aM.al];exact fin _ _ _ _ (by rw[iE,r7];rw[aB eK,aB pS,aB h8,aB h9])
def np(l:List (List UInt8)):List (List V):=l.map λs=>[V.aQ s]
variable{l:List (List UInt8)}
def zd:(np l).length=l.length:=aF ..
def Vn{s:List UInt8}(h:l[j]?=U s):(np l)[(j:Int).toNat]?=U [.aQ s]:=by simp[np,h]
def Hc(l:List (List UInt8))(sep:List UInt8)(Z:ab)(i D:Nat):St :=
 ⟨[.sl .no 1 (np l),.aQ sep,.any,.any,.any,.sl (.tk D) 1 (fS (iZ sep (l.take i))),.any,.any,.int .i64 l.length,.int .i64 (i:Nat)]++aj 16 .any,[],Z.aU D (iZ sep (l.take i)).length⟩
def Qy(l:List (List UInt8))(sep:List UInt8)(Z:ab)(hl:l.length<=aJ)(hb:(iZ sep l).length<=aJ) :
 aR 117 [.sl .no 1 (np l),.aQ sep] Z (.aQ (iZ sep l)):=by
 refine fq func117 ?_;simp only[aP,am,aT,Nat.reduceAdd,zd];refine ep (λp:{p:Nat × Nat // Z.aS p.2=ah/\p.1<=l.length}=>Hc l sep Z p.1.1 p.1.2) (λp=>l.length - p.1.1) ?_ ?_
 .refine a7.uQ 0 λD aW=>⟨⟨(0,D),aW,by simp⟩,?_,rfl,rfl⟩
  simp[Hc,aj,ji,iZ,fS]
 .rintro⟨⟨i,D⟩,aW,hi⟩;simp only at aW hi;simp only[Hc,aj,am];have wi:IntKind.i64.wrap ((i:Int)+1)=((i+1:Nat):Int):=by simp only[aJ] at hl;rw[wrap_i64];simp
  by_cases az:i<l.length
  .have hs:=am4 (sep:=sep) az;have hm:=am3 (sep:=sep) (l:=l) (i:=i+1);rw[hs] at hm;simp only[bL] at hm;simp only[am,aG (show(i:Int)<l.length by omega)]
   by_cases h0:0<i
   case' pos =>
    rw[aL h0] at hs hm;simp only[am,cK,aG (show(0:Int)<i by omega)];refine⟨_,rfl,?_⟩;refine fg (by rw[ko,ko];omega) (by rw[ko,dD]) ?_;simp only[am,dU];rw[<-Gj,ko,ko,<-bL]
   case' neg =>
    rw[aB h0,eC] at hs;rw[aB h0] at hm;simp only[am,aD (show ¬(0:Int)<i by omega)]
   all_goals
    refine ix (Vn (bY az)) ?_;simp only[am,cK];refine⟨_,rfl,?_⟩;refine fg (by rw[ko,ko];simp at hm ⊢;omega) (by rw[ko,dD]) ?_;simp only[am,dU,wi];rw[<-Gj,ko,ko,<-bL,<-hs];exact a7.again (I:=λp:{p:Nat × Nat // Z.aS p.2=ah/\p.1<=l.length}=>Hc l sep Z p.1.1 p.1.2) (μ:=λp=>l.length - p.1.1) ⟨(i+1,D),aW,az⟩ (by simp;omega) (by simp[Hc,am,aj]) bX.rfl bp.rfl
  .have az:i=l.length:=by omega
   subst az;simp only[am,cK,aD (show ¬(l.length:Int)<l.length by omega),du];refine⟨_,_,rfl,?_⟩;refine aN rfl (gV aW) ⟨?_,rfl⟩;rfl
def Bo(l:List aC)(Z:ab)(i D:Nat)(au:List (List V)):St :=
 ⟨[.any,.any,.any,.sl (.tk D) 1 (np ((l.take i).map aC.an)),.any,.any,.sl .no 2 (l.map aC.enc),.int .i64 l.length,.int .i64 (i:Nat)]++aj 10 .any,au,Z.aU D i⟩
def Co{s:List UInt8}:np l++[[.aQ s]]=np (l++[s]):=by simp[np]
theorem Lr(l:List aC)(Z:ab)(hl:l.length+1<=aJ):aR 118 [.sl .no 2 (l.map aC.enc)] Z (.sl .no 1 (np (l.map aC.an))):=by
 refine fq func118 ?_;simp only[aP,am,aT,Nat.reduceAdd];refine ep (λp:{p:Nat × Nat // Z.aS p.2=ah/\p.1<=l.length}=>Bo l Z p.1.1 p.1.2 []) (λp=>l.length - p.1.1) ?_ ?_
 .refine a7.uQ 0 λD aW=>⟨⟨(0,D),aW,by simp⟩,?_,rfl,rfl⟩
  simp[Bo,aj,ji,np]
 .rintro⟨⟨i,D⟩,aW,hi⟩;simp only at aW hi;simp only[Bo,aj,am];have wi:IntKind.i64.wrap ((i:Int)+1)=((i+1:Nat):Int):=by simp only[aJ] at hl;rw[wrap_i64];simp
  by_cases az:i<l.length
  .have zH:((l.take i).map aC.an).length=i:=by grind
   have rE:(l.take i).map aC.an++[l[i].an]=(l.take (i+1)).map aC.an:=by rw[iB az,gm,DW]
   simp only[am,aG (show(i:Int)<l.length by omega)];refine ix (o5 (bY az)) ?_;simp only[am,Nat.reduceAdd,aC.enc];refine fg (by rw[zd,zH];simp;omega) (by rw[zd,zH,dD]) ?_;simp only[am,zd,dU,wi,zH];rw[Co,rE];exact a7.nh (I:=λp:{p:Nat × Nat // Z.aS p.2=ah/\p.1<=l.length}=>Bo l Z p.1.1 p.1.2 []) (μ:=λp=>l.length - p.1.1) ⟨(i+1,D),aW,az⟩ (by simp;omega) (by simp[Bo,am,aj]) (by simp[Bo,am]) bp.rfl (by simp[Bo,aj,bE,V.lo]) (by simp[Bo,cn])
  .have az:i=l.length:=by omega
   subst az;simp only[am,aD (show ¬(l.length:Int)<l.length by omega),du];refine aN rfl (gV aW) ⟨?_,rfl⟩;rfl
def Bp(l:List (aC × aC))(Z:ab)(i D:Nat)(au:List (List V)):St :=
 ⟨[.any,.any,.any,.sl (.tk D) 1 (np ((l.take i).map ja)),.any,.any,.sl .no 4 (l.map eJ),.int .i64 l.length,.int .i64 (i:Nat)]++aj 16 .any,au,Z.aU D i⟩
theorem are(l:List (aC × aC))(Z:ab)(hl:l.length+1<=aJ)(hp:kz l<=aJ):aR 120 [.sl .no 4 (l.map eJ)] Z (.sl .no 1 (np (l.map ja))):=by
 refine fq func120 ?_;simp only[aP,am,aT,Nat.reduceAdd];refine ep (λp:{p:Nat × Nat // Z.aS p.2=ah/\p.1<=l.length}=>Bp l Z p.1.1 p.1.2 []) (λp=>l.length - p.1.1) ?_ ?_
 .refine a7.uQ 0 λD aW=>⟨⟨(0,D),aW,by simp⟩,?_,rfl,rfl⟩
  simp[Bp,aj,ji,np]
 .rintro⟨⟨i,D⟩,aW,hi⟩;simp only at aW hi;simp only[Bp,aj,am];have wi:IntKind.i64.wrap ((i:Int)+1)=((i+1:Nat):Int):=by simp only[aJ] at hl;rw[wrap_i64];simp
  by_cases az:i<l.length
  .have zH:((l.take i).map ja).length=i:=by grind
   have rE:(l.take i).map ja++[ja l[i]]=(l.take (i+1)).map ja:=by rw[iB az,gm,DW]
   simp only[am,aG (show(i:Int)<l.length by omega)];refine ix (vZ (bY az)) ?_;simp only[am,cK,Nat.reduceAdd,eJ];have pk:=arZ az;refine jX ?_;simp only[am,cK,Int.reduceToNat,Nat.reduceMul];refine⟨by simp;omega,?_⟩;refine jX ?_;simp only[am,Int.reduceToNat,Nat.reduceMul];refine⟨by simp;omega,?_⟩;refine fg (by rw[zd,zH];simp;omega) (by rw[zd,zH,dD]) ?_;simp only[am,zd,dU,wi,zH];rw[show l[i].1.an++[60]++l[i].2.an=ja l[i] from rfl,Co,rE];exact a7.nh (I:=λp:{p:Nat × Nat // Z.aS p.2=ah/\p.1<=l.length}=>Bp l Z p.1.1 p.1.2 []) (μ:=λp=>l.length - p.1.1) ⟨(i+1,D),aW,az⟩ (by simp;omega) (by simp[Bp,am,aj]) (by simp[Bp,am]) bp.rfl (by simp[Bp,aj,bE,V.lo]) (by simp[Bp,cn])
  .have az:i=l.length:=by omega
   subst az;simp only[am,aD (show ¬(l.length:Int)<l.length by omega),du];refine aN rfl (gV aW) ⟨?_,rfl⟩;rfl
def Uq(l:List (List UInt8))(Z:ab)(hl:l.length<=aJ)(hb:(b_ l).length+2<=aJ):aR 119 [.sl .no 1 (np l)] Z (.aQ (y9 l)):=by
 refine fq func119 ?_;simp only[aP,am,aT,Nat.reduceAdd];refine cl (Qy l [44] Z hl (by rw[Ko];omega)) ?_;simp only[am,Ko];refine⟨by simp;omega,by simp;omega,?_⟩;refine aI ?_;rfl
def Fy(c:ar)(Z:ab)(ks:List UInt8)(b i D:Nat):St :=
 ⟨[.any,.ptr (.au 0) 0,.any,.any,.sl (.tk D) 1 (np (jj c (ks.take i)).1),.sl .no 5 ((jj c (ks.take i)).2.map Nd.enc)]++aj 15 .any++[.raw (.pointer (U ⟨b,0,ah⟩))]++aj 50 .any,[c.enc,[.aQ (cm c.op).1,.aQ ks]],Z.aU D (i+1)⟩
theorem U9(c:ar)(hg:Z.cI 0=U iO)(hw:16*c.wt+64<=aJ):aR 59 [.agg c.enc] Z (.aQ (dq c)):=by
 have JR:c.wt=c.name.an.length+fk c.ak+kz c.aX+c.left.wt+c.right.wt:=rfl;have GW:=Fk c.ak;have GY:=Q6 c.aX;refine fq func59 ?_;simp only[aP,am,aT,Nat.reduceAdd,b9,b7];refine cl (QM c.op hg) ?_;simp only[am,Nat.reduceAdd,Nd.al,bG];refine Sr ?_;simp only[am];have CD:=V8 c.op;have wK:dq c=iZ [32] (jj c (cm c.op).2).1:=rfl;have mi:=Gs c.op;generalize fT:(cm c.op).2=ks at CD wK mi;refine⟨ks,rfl,by rw[<-fT];exact Ny c.op,λb i aV => ∃D:{D:Nat // Z.aS D=ah},aV = Fy c Z ks b i D.1,?_,?_,?_,?_⟩
 .intro b;refine a7.uQ 1 λD aW=>⟨⟨D,aW⟩,?_,?_,rfl⟩
  .simp[Fy,aj,ji,np,jj];exact⟨km.tok rfl,km.le dv.no⟩
  .rfl
 .rintro b i _ ⟨D,rfl⟩;exact⟨rfl,by simp[Fy],by simp[Fy]⟩
 .rintro b i k _ hk ⟨⟨D,aW⟩,rfl⟩;have hi:i<ks.length:=(kG.1 hk).1;have sj:ks.take (i+1)=ks.take i++[k]:=by rw[BX hk]
  obtain⟨o1,o2,o3,o4⟩:=Fi c (ks.take i);have rE:=Q2 c (ks.take i) k;rw[<-sj] at rE;have qH:(np (jj c (ks.take i)).1).length=i+1:=by rw[zd,o3,o8];omega
  have fw:∀n:UInt8,((k.toNat:Nat):Int)=(n.toNat:Nat)↔k=n:=λn=>by
   constructor
   .intro h;exact F8.1 (by omega)
   .grind
  have vl:((k.toNat:Nat):Int)=110↔k=110:=fw 110;have vk:((k.toNat:Nat):Int)=102↔k=102:=fw 102;have uf:((k.toNat:Nat):Int)=119↔k=119:=fw 119;have ue:((k.toNat:Nat):Int)=112↔k=112:=fw 112;have ht:=CD i hi k hk;simp only[Fy,aj,am];generalize hX:jj c (ks.take i)=X at *;obtain⟨rows,ts⟩:=X;simp only at o1 o2 o3 o4 qH;simp only;rw[rE];simp only[Ab];have Bg:rows.length+1<=aJ:=by grind
  by_cases k1:k=110
  .have hp:ke k c (ts.headD .zero)=c.name.an:=by subst k1;rfl
   have hq:isTerm k=false:=by subst k1;rfl
   simp only[am,bG,aG (vl.2 k1),hp,hq];refine fg (by rw[qH];simp only[eZ,aJ] at *;omega) (by rw[qH,dD]) ?_;simp only[am,cK,dU,qH];rw[Co];exact a7.df (by simp[am]) (by simp[am]) bp.rfl ⟨⟨D,aW⟩,rfl⟩
  simp only[am,aD (λh=>k1 (vl.1 h))]
  by_cases k2:k=102
  .have hp:ke k c (ts.headD .zero)=b_ (c.ak.map aC.an):=by subst k2;rfl
   have hq:isTerm k=false:=by subst k2;rfl
   simp only[am,bG,aG (vk.2 k2),hp,hq];refine cl (Lr c.ak _ (by omega)) ?_;simp only[am];refine cl (Qy (c.ak.map aC.an) [44] _ (by rw[aF];omega) (by rw[Ko];omega)) ?_;simp only[am,Ko];refine fg (by rw[qH];simp only[eZ,aJ] at *;omega) (by rw[qH,dD]) ?_;simp only[am,cK,dU,qH];rw[Co];exact a7.df (by simp[am]) (by simp[am]) bp.rfl ⟨⟨D,aW⟩,rfl⟩
  simp only[am,aD (λh=>k2 (vk.1 h))]
  by_cases k3:k=119
  .have hp:ke k c (ts.headD .zero)=y9 (c.ak.map aC.an):=by subst k3;rfl
   have hq:isTerm k=false:=by subst k3;rfl
   simp only[am,bG,aG (uf.2 k3),hp,hq];refine cl (Lr c.ak _ (by omega)) ?_;simp only[am];refine cl (Uq (c.ak.map aC.an) _ (by rw[aF];omega) (by omega)) ?_;simp only[am];refine fg (by rw[qH];simp only[eZ,aJ] at *;omega) (by rw[qH,dD]) ?_;simp only[am,cK,dU,qH];rw[Co];exact a7.df (by simp[am]) (by simp[am]) bp.rfl ⟨⟨D,aW⟩,rfl⟩
  simp only[am,aD (λh=>k3 (uf.1 h))]
  by_cases k4:k=112
  .have hp:ke k c (ts.headD .zero)=y9 (c.aX.map ja):=by subst k4;rfl
   have hq:isTerm k=false:=by subst k4;rfl
   simp only[am,bG,aG (ue.2 k4),hp,hq];refine cl (are c.aX _ (by omega) (by omega)) ?_;simp only[am];refine cl (Uq (c.aX.map ja) _ (by rw[aF];omega) (by omega)) ?_;simp only[am];refine fg (by rw[qH];simp only[eZ,aJ] at *;omega) (by rw[qH,dD]) ?_;simp only[am,cK,dU,qH];rw[Co];exact a7.df (by simp[am]) (by simp[am]) bp.rfl ⟨⟨D,aW⟩,rfl⟩
  simp only[am,aD (λh=>k4 (ue.1 h))];have hq:isTerm k=true:=by simp[isTerm,k1,k2,k3,k4]
  have O7:=ht hq;obtain⟨n,ns,vN⟩:∃n ns,ts=n::ns:=by
   rw[o4]
   match (List.filter isTerm (List.take i ks)).length,O7 with
   | 0,_=>exact⟨_,_,rfl⟩
   | 1,_=>exact⟨_,_,rfl⟩
  have hnw:n.wt<=c.wt:=o2 n (by rw[vN];simp);have hp:ke k c (ts.headD .zero)=n.dn:=by rw[vN];simp[ke,k1,k2,k3,k4]
  have uA:ts.map Nd.enc=n.enc::ns.map Nd.enc:=by grind
  have zH:ts.tail=ns:=by grind
  simp only[am,hp,hq,zH,uA];refine lz (c:=n.enc) (by simp) ?_;simp only[am,Nd.al];refine cl (avB _ n _ (bU _) (by omega)) ?_;simp only[am];refine fg (by rw[qH];simp only[eZ,aJ] at *;omega) (by rw[qH,dD]) ?_;simp only[am,cK,dU,qH];refine auR (a:=1) (by simp) ?_;simp only[am,cK];rw[Co];exact a7.df (by simp[am]) (by simp[am]) bp.rfl ⟨⟨D,aW⟩,rfl⟩
 .rintro b _ ⟨⟨D,aW⟩,rfl⟩;simp only[Fy,aj,am];rw[du];obtain⟨o1,o2,o3,o4⟩:=Fi c ks;have uq:=XX _ o1;rw[o3] at uq;have J1:(iZ [32] (jj c ks).1).length<=aJ:=by
   have:(ks.length+1)*(c.wt+8+1)<=4*(c.wt+8+1):=va _ (by omega)
   omega
  refine(cy.df (Qy (jj c ks).1 [32] (Z.aU D (ks.length+1)) (by rw[o3];simp only[aJ];omega) J1) ?_ bp.rfl).mono ?_
  .simp[am]
  rintro v _ ⟨rfl,rfl⟩;simp only[am];refine aN rfl (gV aW) ⟨?_,rfl⟩;rw[wK];rfl
def ajD:fm prog 139 (sq [rg 0 [ox 1 17 0,oR 2 l8],rg 7 [fo 4 1,oC 138 [8],o1 3],rg 4 [oz 7],sq [rg 10 [fo 5 1,nL,oi 0],lp 12 0 (sq [rg 15 [oA 4 11 13,nl 4,oZ 6 [1,0,1,0],o2 4 6],dg 17 [om 4,om 3,oQ 2 2 6 0,nF 0,oC 173 [18,21],om 3,oQ 2 2 6 1,nf 0,mM [0],no,oC 173 [23,26],oW [0,0] [(0,1,22),(1,1,27)],n1 2,na 2 17,o1 4]]) 31],rg 32 [om 3,nL,om 4,oC 200 [33,34],oC 199 [35],o2 65 2],.ret]) [.cell 2 aa 65] 37:=fU func139
def ajN:fm prog 200 (sq [rg 0 [oR 4 l8],rg 8 [om 0,oC 249 [8],oR 5 l8,o2 65 5],sq [rg 10 [om 1,nL,oi 0],lp 11 0 (sq [rg 14 [oA 2 10 12,nl 2,oZ 7 [0,0],o2 2 7],rg 16 [ol 65 5,fo 0 7,oC 250 [16,18],gA,ol 65 5,fo 1 7,oC 250 [21,23],gZ],ci 25 (dg 26 [of 0 7,mM [1],no,fo 0 7,of 1 5,oP 64 1 30 29,no,fo 1 7,oC 247 [32,34],of 1 5,oP 64 1 36 27,os 1 37 35])]) 38],rg 39 [ol 65 5,o2 65 4],.ret]) [.cell 4 aa 65] 40:=fU func200
def BH(p:Int × Int):List V:=[.int .i64 p.1,.int .i64 p.2]
def aaE(r:Rl)(i:Int)(Z:ab):aR 250 [.agg r.enc,.int .i64 i] Z (.bool (decide (0<=i)&&decide (i<(bm r:Nat)))):=by
 refine fq func250 ?_;simp only[aP,am,aT,Nat.reduceAdd,Rl.al]
 by_cases h:0<=i
 .simp only[am,Rl.al,aG h];refine cl (Du r Z) ?_;simp only[am];refine aI ?_;rfl
 .simp only[am,aD h];refine aI ?_;rfl
def arX{l:List (Int × Int)}(h:j<l.length):(l.map BH)[((j:Nat):Int).toNat]?=U (BH l[j]):=by simp[h]
theorem atd(n:Int)(l:List (Int × Int))(Z:ab)(hl:l.length<=100000):aR 200 [.int .i64 n,.sl .no 2 (l.map BH)] Z (.agg (qS n l).enc):=by
 refine ajN.fK ?_;simp only[aP,am,aT,Nat.reduceAdd,Rl.al];refine cl (Ze n Z) ?_;simp only[am,aF,Rl.al,aF];refine ch (l.length) (λi (x:Unit)=>⟨[.any,.any,.any,.any,.ptr (.au 0) 0,.ptr (.au 1) 0,.any,.any,.any,.any,.sl .no 2 (l.map BH),.int .i64 (l.length:Nat),.int .i64 (i:Nat)]++aj 27 .any,[Rl.zero.enc,(qS n (l.take i)).enc],Z⟩) (λi x=>(True)) λF hF JF aZ=>⟨?_,?_,?_⟩
 .refine en aZ (()) (trivial) ?_ ?_ ?_
  all_goals simp[hF,aj,am,ba,qS]
 .rintro i x hi -;have hT:=Zr (n:=n) hi;generalize hr:qS n (l.take i)=r at hT;have hp:=@j1 r;obtain⟨p,GY⟩:∃p,l[i]=p:=⟨_,rfl⟩;rw[GY] at hT;simp only[hF,aj,am,cf hi];refine ix (arX hi) ?_;rw[GY,hr];obtain⟨a,b⟩:=p;simp only[am,Nat.reduceAdd,Rl.al,BH];refine cl (aaE r a Z) ?_
  by_cases ha:0<=a/\a<(bm r:Nat)
  .simp only[am,Rl.al,aG ha.1,aG ha.2];refine cl (aaE r b Z) ?_
   by_cases hb:0<=b/\b<(bm r:Nat)
   .obtain⟨k,rfl⟩:∃k:Nat,a=k:=⟨a.toNat,by omega⟩;have hk:k<64:=by omega
    have e:qS n (l.take (i+1))=r.put k (la (r.get k) b):=by rw[hT,vW,aL ⟨ha,hb⟩];rfl
    simp only[am,cK,aG hb.1,aG hb.2];refine jX ?_;simp only[am,iM,rh,Rl.yG hk];refine bn.intro (Hz (r.get k) b Z) ?_;simp only[am,cK];refine jX ?_;simp only[Av,Rl.yF hk,Rl.yH hk,bt hi];refine c7 (()) hi ?_ ?_ ?_ ?_ ?_ ?_
    .grind
    all_goals simp[hF,aj,am,ba,bE,cn,V.lo,e,Rl.bR]
   .have e:qS n (l.take (i+1))=r:=by rw[hT,vW,aB λh=>hb h.2]
    have cF : (decide (0<=b)&&decide (b<(bm r:Nat)))=false:=by grind
    simp only[am,aK,cF,bt hi];refine c7 (()) hi ?_ ?_ ?_ ?_ ?_ ?_
    .grind
    all_goals simp[hF,aj,am,ba,bE,cn,V.lo,e,Rl.bR]
  .have e:qS n (l.take (i+1))=r:=by rw[hT,vW,aB λh=>ha h.1]
   have A7 : (decide (0<=a)&&decide (a<(bm r:Nat)))=false:=by grind
   simp only[am,aK,A7,bt hi];refine c7 (()) hi ?_ ?_ ?_ ?_ ?_ ?_
   .grind
   all_goals simp[hF,aj,am,ba,bE,cn,V.lo,e,Rl.bR]
 .rintro x -;simp only[hF,aj,am,aK,ck,aK,Rl.al,du];exact aN (v:=.agg (qS n l).enc) Rl.dT (ab.a8 _) ⟨by simp only[V.erase,Rl.dW],rfl⟩
theorem Lm(l:List aC)(Z:ab)(hl:l.length<=100000):aR 138 [.sl .no 2 (l.map aC.enc)] Z (.sl .no 1 (cu (cc l))):=by
 refine fq func138 ?_;simp only[aP,am,aT,Nat.reduceAdd,aF];refine ch (l.length) (λi (D:Nat)=>⟨[.any,.any,.any,.sl (.tk D) 1 (cu (cc (l.take i))),.any,.any,.sl .no 2 (l.map aC.enc),.int .i64 (l.length:Nat),.int .i64 (i:Nat)]++aj 10 .any,[],Z.aU D i⟩) (λi D=>(Z.aS D=ah)) λF hF JF aZ=>⟨?_,?_,?_⟩
 .refine xP 0 λD aW=>⟨D,fF (aZ _ _) aW,?_,?_,?_⟩
  all_goals simp[hF,aj,ji,cc,cu]
 .rintro i D hi aW;have hlen:(cu (cc (l.take i))).length=i:=by rw[gk,sQ,o8];omega
  have hs:cu (cc (l.take (i+1)))=cu (cc (l.take i))++[[.aQ l[i].an]]:=by rw[iB hi];simp only[cc,cu,gm,cQ,fp]
  simp only[hF,aj,am,cf hi];refine ix (sO hi) ?_;simp only[am,aC.al,rU];refine fg (by rw[hlen];simp[aJ];omega) (by rw[hlen];exact dD) ?_;rw[hlen];simp only[am,aK,dU,bt hi,eZ];refine c7 (D) hi ?_ ?_ ?_ ?_ ?_ ?_
  .grind
  all_goals simp[hF,aj,am,ba,bE,cn,V.lo,hs]
 .rintro D aW;simp only[hF,aj,am,aK,ck,aK,du];refine aN rfl (gV aW) ⟨rfl,rfl⟩
def yq(P:aC × aC->Int × Int)(l:List (aC × aC)):List (List V):=(l.map P).map BH
def arR{P:aC × aC->Int × Int}{l:List (aC × aC)}:(yq P l).length=l.length:=by simp[yq]
def BG{l:List (aC × aC)}(h:j<l.length):(l.map eJ)[((j:Nat):Int).toNat]?=U (eJ l[j]):=by simp[h]
theorem Rr(c:ar)(Z:ab)(hn:c.ak.length<=100000)(hp:c.aX.length<=100000):aR 139 [.agg c.enc] Z (.agg (qV c).enc):=by
 refine ajD.fK ?_;simp only[aP,am,aT,Nat.reduceAdd,Rl.al];simp only[am,b9,bG];refine cl (Lm c.ak Z hn) ?_;simp only[am,aF,aF,bG];have hw:(cc c.ak).length<=100000:=by rw[sQ];exact hn
 generalize hP:zV (cc c.ak)=P;refine ch (c.aX.length) (λi (D:Nat)=>⟨[.any,.ptr (.au 0) 0,.ptr (.au 1) 0,.sl .no 1 (cu (cc c.ak)),.sl (.tk D) 2 (yq P (c.aX.take i)),.any,.any,.any,.any,.any,.any,.sl .no 4 (c.aX.map eJ),.int .i64 (c.aX.length:Nat),.int .i64 (i:Nat)]++aj 23 .any,[c.enc,Rl.zero.enc],Z.aU D i⟩) (λi D=>(Z.aS D=ah)) λF hF JF aZ=>⟨?_,?_,?_⟩
 .refine xP 0 λD aW=>⟨D,fF (aZ _ _) aW,?_,?_,?_⟩
  all_goals simp[hF,aj,ji,yq]
 .rintro i D hi aW;have hlen:(yq P (c.aX.take i)).length=i:=by rw[arR,o8];omega
  have hs:yq P (c.aX.take (i+1))=yq P (c.aX.take i)++[BH (P c.aX[i])]:=by rw[iB hi];simp only[yq,gm,cQ,fp]
  simp only[hF,aj,am,cf hi];refine ix (BG hi) ?_;simp only[am,cK,Nat.reduceAdd,eJ];refine jX ?_;simp only[am,Int.reduceToNat,Nat.reduceMul];refine bn.intro (zg (cc c.ak) c.aX[i].1.an (Z.aU D i) hw) ?_;simp only[am,cK];refine jX ?_;simp only[am,Int.reduceToNat,Nat.reduceMul];refine bn.intro (zg (cc c.ak) c.aX[i].2.an (Z.aU D i) hw) ?_;simp only[am,Nat.reduceAdd];refine qz (by rw[hlen];simp[aJ];omega) (by rw[hlen];exact dD) ?_;rw[hlen];have he:[V.int .i64 (bW (dL (cc c.ak) c.aX[i].1.an)),.int .i64 (bW (dL (cc c.ak) c.aX[i].2.an))]=BH (P c.aX[i]):=by rw[<-hP];rfl
  rw[he];simp only[am,aK,dU,bt hi,eZ];refine c7 (D) hi ?_ ?_ ?_ ?_ ?_ ?_
  .grind
  all_goals simp[hF,aj,am,ba,bE,cn,V.lo,hs,ar.enc,ar.cJ,Rl.bR]
 .rintro D aW;simp only[hF,aj,am,aK,ck,aK,gk,du];rw[sQ];refine cl (cy.df (as' := [.int .i64 (c.ak.length:Nat),.sl .no 2 (yq P c.aX)]) (show cy prog 200 [.int .i64 (c.ak.length:Nat),.sl .no 2 (yq P c.aX)] _ _ from atd (c.ak.length:Nat) (c.aX.map P) _ (by simpa using hp)) ⟨dv.rfl,dv.no,trivial⟩ bp.rfl) ?_;simp only[am,Rl.al];refine cl (UL _ _) ?_;simp only[am,Rl.al];subst hP;exact aN (v:=.agg (qV c).enc) Rl.dT (gV aW) ⟨by simp only[V.erase,Rl.dW],rfl⟩
def ajL:fm prog 198 (sq [rg 0 [oZ 2 [2,72]],rg 8 [oG [2,72] [(0,1,.c (.bool aa))],oZ 3 [2,72],o2 2 3],sq [rg 9 [om 0,nL,oi 0],lp 10 0 (sq [rg 13 [oA 2 9 11,nl 2,oZ 5 [2,72],o2 2 5],rg 15 [fo 1 5,nL,oi 0],lp 17 2 (sq [rg 20 [oA 67 16 18,nl 67,oR 7 uh,o2 67 7],dg 22 [of 1 3,mM [1],no,ol 67 7,oC 201 [24],n1 67,na 67 23,of 1 3,os 1 28 27]]) 29]) 30],rg 31 [ol 2 3,o2 2 2],.ret]) [.cell 2 aa 2] 32:=fU func198
def ajO:fm prog 201 (sq [rg 0 [ox 1 67 0,oR 2 uh],rg 3 [oq (.pd 1 []),fo 1 1,na 1 3,of 1 1,os 1 7 6],rg 8 [ol 67 1,o2 67 2],.ret]) [.cell 2 aa 67] 9:=fU func201
theorem ai7{f:bh}:cB 1 (f.enc.drop 1)=true:=rfl
theorem ai_{f:bh}:setAt f.enc 1 [.sl .no 1 (cu f.ak)]=f.enc:=by rfl
def UD(f:bh)(Z:ab)(hf:f.ak.length<=100000):aR 201 [.agg f.enc] Z (.agg f.enc):=by
 refine ajO.fK ?_;simp only[aP,am,aT,Nat.reduceAdd,bh.al];refine xD (by simp[gk,aJ];omega) ?_;simp only[am,bh.al,ai7,gK,ai_];exact aN (v:=.agg f.enc) bh.dT (ab.a8 _) ⟨by simp only[V.erase,bh.dW],rfl⟩
def auI{l:List bA}(h:j<l.length):(l.map bA.enc)[((j:Nat):Int).toNat]?=U l[j].enc:=by simp[h]
def Nk{l:List bh}(h:j<l.length):(l.map bh.enc)[((j:Nat):Int).toNat]?=U l[j].enc:=by simp[h]
def sa(l:List bh):List (List V):=l.map bh.enc
def VL{l:List bh}:(sa l).length=l.length:=by simp[sa]
def ai5{l:List bh}{f:bh}:sa (l++[f])=sa l++[f.enc]:=by simp[sa]
theorem aaa(l:List bA)(Z:ab)(hl:l.length<=100000)(hs:∀s∈l,s.bI.length<=100000/\∀f∈s.bI,f.ak.length<=100000)(hb:(l.flatMap bA.bI).length<=100000000) :
 aR 198 [.sl .no 2 (l.map bA.enc)] Z (.agg (Fj l).enc):=by
 have hT:∀{i:Nat} (hi:i<l.length),(l.take (i+1)).flatMap bA.bI=(l.take i).flatMap bA.bI++l[i].bI:=λ{i} hi=>by rw[iB hi,rX];simp
 have hL:∀{i:Nat} (hi:i<l.length),((l.take i).flatMap bA.bI).length+l[i].bI.length<=100000000:=λ{i} hi=>by
  have h1:(l.take (i+1)++l.drop (i+1)).flatMap bA.bI=l.flatMap bA.bI:=by simp
  grind
 refine ajL.fK ?_;simp only[aP,am,aT,Nat.reduceAdd,aF];obtain⟨Q,hQ⟩:∃Q:Nat->List bh,∀i,Q i=(l.take i).flatMap bA.bI:=⟨_,λ_=>rfl⟩;have mC:Q 0=[]:=by grind
 have nw:Q l.length=(Fj l).bI:=by rw[hQ,du];rfl
 refine ch (l.length) (λi (D:Nat)=>⟨[.any,.any,.ptr (.au 0) 0,.ptr (.au 1) 0,.any,.any,.any,.any,.any,.sl .no 2 (l.map bA.enc),.int .i64 (l.length:Nat),.int .i64 (i:Nat)]++aj 20 .any,[[.bool aq,.sl .aY 67 []],[.bool aa,.sl (.tk D) 67 (sa (Q i))]],Z.aU D (Q i).length⟩) (λi D=>(Z.aS D=ah)) λF hF JF aZ=>⟨?_,?_,?_⟩
 .refine Cp 0 λD aW=>⟨D,fF (aZ _ _) aW,?_,?_,?_⟩
  all_goals simp[hF,aj,ji,De,mC,sa]
 .rintro i D hi aW;have hsi:=hs _ (dQ hi);have WO:=hL hi;rw[<-hQ] at WO;have kt:Q (i+1)=Q i++l[i].bI:=by grind
  simp only[hF,aj,am,cf hi];refine ix (auI hi) ?_;simp only[am,Nat.reduceAdd,aF,bA.al,aF];generalize Q i=q at WO kt;obtain⟨W,hW⟩:∃W:Nat->List bh,∀j,W j=q++l[i].bI.take j:=⟨_,λ_=>rfl⟩;have hW0:q=W 0:=by grind
  have hWn:W l[i].bI.length=Q (i+1):=by grind
  rw[hW0];refine ch (l[i].bI.length) (λj (x:Unit)=>⟨[.any,.any,.ptr (.au 0) 0,.ptr (.au 1) 0,.any,.any,.any,.any,.any,.sl .no 2 (l.map bA.enc),.int .i64 (l.length:Nat),.int .i64 (i:Nat),.any,.any,.any,.any,.sl .no 67 (l[i].bI.map bh.enc),.int .i64 (l[i].bI.length:Nat),.int .i64 (j:Nat)]++aj 13 .any,[[.bool aq,.sl .aY 67 []],[.bool aa,.sl (.tk D) 67 (sa (W j))],l[i].enc],Z.aU D (W j).length⟩) (λj x=>(True)) λF2 bV pI dr=>⟨?_,?_,?_⟩
  .refine en dr (()) (trivial) ?_ ?_ ?_
   all_goals simp[bV,aj,am,ba]
  .rintro j x hj -;have hWs:W (j+1)=W j++[l[i].bI[j]]:=by rw[hW,hW,iB hj,eY]
   have hWl:(W j).length+1<=100000000:=by grind
   have hlen:(sa (W j)).length=(W j).length:=VL;have alm:(W (j+1)).length=(W j).length+1:=by grind
   simp only[bV,aj,am,cf hj];refine ix (Nk hj) ?_;simp only[am,Nat.reduceAdd,bh.al];refine bn.intro (UD l[i].bI[j] (Z.aU D (W j).length) (hsi.2 _ (dQ hj))) ?_;simp only[am,bh.al];refine qz (by rw[hlen];simp[aJ];omega) (by rw[hlen];exact dD) ?_;rw[hlen];simp only[am,aK,dU,bt hj,eZ];rw[<-ai5,<-hWs,<-alm];refine c7 (()) hj ?_ ?_ ?_ ?_ ?_ ?_
   .grind
   all_goals simp[bV,aj,am,ba,bE,cn,V.lo,bA.bR]
  .rintro x -;simp only[bV,aj,am,aK,ck,Nat.reduceAdd,Nat.reduceEqDiff,aK,reduceCtorEq,bt hi,hWn];refine c7 (D) hi ?_ ?_ ?_ ?_ ?_ ?_
   .grind
   all_goals simp[hF,aj,am,ba,bE,cn,V.lo]
 .rintro D aW;simp only[hF,aj,am,aK,ck,Nat.reduceAdd,aK,nw];refine aN rfl (gV aW) ⟨rfl,rfl⟩
variable{w:aC}
theorem Yc{s:aH}:(pq s w).length<=1:=by
 unfold pq
 grind
def BP(l:List bA):List (List V):=l.map bA.enc
def auE{l:List bA}{s:bA}:BP (l++[s])=BP l++[s.enc]:=by simp[BP]
def Nq{f:aC->List bA}(h:∀w,(f w).length<=1):∀{l:List aC},(l.flatMap f).length<=l.length
 | []=>by simp
 | w::ws=>by have:=Nq h (l:=ws);have:=h w;simp only[o7,bL,da];omega
def Nh{N:Nat}:∀{l:List bA},(∀s∈l,s.bI.length<=N)->(l.flatMap bA.bI).length<=l.length*N
 | [],_=>by simp
 | s :: ss, h => by
  have h1:=Nh (N:=N) (l:=ss) λx hx=>h x (by simp[hx])
  have h2:=h s (by simp);simp only[o7,bL,da,IB];omega
theorem Yd{s:aH}{x:bA}(h:x∈pq s w):∃l∈s.bc,x=l.shape:=by
 unfold pq at h
 grind
def Yf{s:aH}{k:Nat}(h:fD s.bc w.an=U k)(hk:k<s.bc.length):pq s w=[s.bc[k].shape]:=by simp only[pq,h,bY hk]
def Ye{s:aH}(h:fD s.bc w.an=ah):pq s w=[]:=by simp only[pq,h]
theorem Z'(s:aH)(c:ar)(Z:ab)(hs:s.tF)(hn:c.ak.length<=100000):aR 140 [.agg s.enc,.agg c.enc] Z (.agg (n5 s c).enc):=by
 refine fq func140 ?_;simp only[aP,am,aT,Nat.reduceAdd,aH.al];simp only[am,aF,aF,b9,bG];obtain⟨Q,hQ⟩:∃Q:Nat->List bA,∀i,Q i=(c.ak.take i).flatMap (pq s):=⟨_,λ_=>rfl⟩;have mC:Q 0=[]:=by grind
 have sb:∀i,(Q i).length<=100000:=λi=>by
  rw[hQ]
  have:=Nq (f:=pq s) (λ_=>Yc) (l:=c.ak.take i)
  grind
 refine ch (c.ak.length) (λi (D:Nat)=>⟨[.any,.any,.ptr (.au 0) 0,.ptr (.au 1) 0,.ptr (.au 2) 0,.sl (.tk D) 2 (BP (Q i)),.any,.any,.any,.any,.any,.sl .no 2 (c.ak.map aC.enc),.int .i64 (c.ak.length:Nat),.int .i64 (i:Nat)]++aj 24 .any,[s.enc,c.enc,[.bool aq,.sl .aY 67 []]],Z.aU D (Q i).length⟩) (λi D=>(Z.aS D=ah)) λF hF JF aZ=>⟨?_,?_,?_⟩
 .refine xP 0 λD aW=>⟨D,fF (aZ _ _) aW,?_,?_,?_⟩
  all_goals simp[hF,aj,ji,mC,BP]
 .rintro i D hi aW;have kt:Q (i+1)=Q i++pq s c.ak[i]:=by rw[hQ,hQ,iB hi,rX];simp
  have OJ:=sb i;simp only[hF,aj,am,cf hi];refine ix (sO hi) ?_;simp only[am,Nat.reduceAdd,aH.al,aC.al,rU];refine cl (yu s c.ak[i].an _ hs.1.1 hs.1.2.1) ?_;cases hf:fD s.bc c.ak[i].an with
  | none =>
   have e:Q (i+1)=Q i:=by rw[kt,Ye hf,eC]
   simp only[am,cX,aK,Int.reduceNeg,Int.reduceLE,bW,bt hi];refine c7 (D) hi ?_ ?_ ?_ ?_ ?_ ?_
   .grind
   all_goals simp[hF,aj,am,ba,bE,cn,V.lo,e,aH.bR,ar.enc,ar.cJ]
  | some k =>
   have hk:=(AZ hf).1;have e:Q (i+1)=Q i++[s.bc[k].shape]:=by rw[kt,Yf hf hk]
   have hlen:(BP (Q i)).length=(Q i).length:=by simp[BP]
   have e2:(Q (i+1)).length=(Q i).length+1:=by grind
   simp only[am,Int.reduceNeg,aH.al,bW,aG (show(0:Int)<=((k:Nat):Int) by omega)];refine ix (tA hk) ?_;simp only[am,Int.reduceNeg,aH.al,bA.al];refine fg (by rw[hlen];simp[aJ];omega) (by rw[hlen];exact dD) ?_;rw[hlen];simp only[am,aK,Int.reduceNeg,dU,bt hi,eZ];rw[<-auE,<-e,<-e2];refine c7 (D) hi ?_ ?_ ?_ ?_ ?_ ?_
   .grind
   all_goals simp[hF,aj,am,ba,bE,cn,V.lo,aH.bR,ar.enc,ar.cJ]
 .rintro D aW;have hq:=sb c.ak.length;have e:Q c.ak.length=c.ak.flatMap (pq s):=by grind
  have hm:∀x∈Q c.ak.length,∃l∈s.bc,x=l.shape:=λx hx=>by
   rw[e] at hx;obtain⟨w,_,hx⟩:=FX.1 hx;exact Yd hx
  have vE:=Nh (N:=100) (l:=Q c.ak.length) λx hx=>by obtain⟨l,hl,rfl⟩:=hm x hx;exact hs.2 l hl
  have OS:n5 s c=Fj (Q c.ak.length):=by rw[n5,e]
  simp only[hF,aj,am,aK,ck,aK];refine cl (cy.df (as' := [.sl .no 2 (BP (Q c.ak.length))]) (aaa (Q c.ak.length) _ (by omega) (λx hx=>by obtain⟨l,hl,rfl⟩:=hm x hx;exact hs.1.2.2 l hl) (by omega)) ⟨dv.no,trivial⟩ bp.rfl) ?_;simp only[am,bA.al];refine aN rfl (gV aW) ⟨by rw[OS];rfl,rfl⟩
def DC(ks:List UInt8)(k:UInt8)(Z:ab)(b i:Nat):St :=
 ⟨[.any,.int .i32 (k.toNat:Nat),.any,.any,.any,.int .i64 ((ks.take i).count k:Nat)]++aj 5 .any++[.raw (.pointer (U ⟨b,0,ah⟩))]++aj 9 .any,[],Z⟩
theorem E7(op:Int)(k:UInt8)(hg:Z.cI 0=U iO):aR 223 [.int .i64 op,.int .i32 (k.toNat:Nat)] Z (.int .i64 (eU op k:Nat)):=by
 refine fq func223 ?_;simp only[aP,am,aT,Nat.reduceAdd];refine Sr ?_;simp only[am];refine cl (QM op hg) ?_;simp only[am];have mi:=Gs op;have JP:eU op k=(cm op).2.count k:=rfl;generalize fT:(cm op).2=ks at mi JP;refine⟨ks,rfl,by rw[<-fT];exact Ny op,λb i aV => aV = DC ks k Z b i,?_,?_,?_,?_⟩
 .intro b;refine a7.df (t' := (DC ks k Z b 0).t) ?_ bX.rfl bp.rfl rfl;simp[DC,aj,am]
 .rintro b i _ rfl;exact⟨rfl,by simp[DC],by simp[DC]⟩
 .rintro b i c _ hc rfl;have hi:i<ks.length:=(kG.1 hc).1;have rE:(ks.take (i+1)).count k=(ks.take i).count k+(if c=k then 1 else 0):=by rw[BX hc,List.count_append,List.count_singleton];simp
  have hle:(ks.take i).count k<=3:=yT List.count_le_length (by rw[o8];omega);have fw:((c.toNat:Nat):Int)=(k.toNat:Nat)↔c=k:=by
   constructor
   .intro h;exact F8.1 (by omega)
   .grind
  simp only[DC,aj,am]
  by_cases e:c=k
  .rw[aL e] at rE;simp only[am,cK,aG (fw.2 e)];rw[wrap_i64];exact a7.df (by simp[am,rE]) bX.rfl bp.rfl rfl
  .rw[aB e] at rE;simp only[am,cK,aD (λh=>e (fw.1 h))];exact a7.df (by simp[am,rE]) bX.rfl bp.rfl rfl
 .rintro b _ rfl;simp only[DC,aj,am];rw[du];refine aI ?_;simp[V.erase,JP]
def Hd(l:List (List UInt8))(Z:ab)(i:Nat):St :=
 ⟨[.any,.any,.any,.any,.any,.sl .no 1 (np l),.int .i64 l.length,.int .i64 (i:Nat)]++aj 7 .any,[],Z⟩
theorem UM(l:List (List UInt8))(Z:ab)(hl:l.length<=aJ):aR 224 [.sl .no 1 (np l)] Z (.bool (qc l)):=by
 simp only[aJ] at hl;refine fq func224 ?_;simp only[aP,am,aT,Nat.reduceAdd,zd];refine ep (λp:{i:Nat // i<=l.length/\qc (l.take i)=aa}=>Hd l Z p.1) (λp=>l.length - p.1) ?_ ?_
 .refine a7.enter ⟨0,by simp,by simp[qc]⟩ ?_ bX.rfl bp.rfl;simp[Hd,aj,am]
 rintro⟨i,hi,ha⟩;simp only[Hd,aj,am]
 by_cases az:i<l.length
 .simp only[am,aG (show(i:Int)<l.length by omega)];refine ix (Vn (bY az)) ?_;simp only[am];refine cl (wW l[i] Z) ?_;cases hr:dp l[i]
  .simp only[am]
   have:qc l=false:=by
    rw[qc,List.all_eq_false]
    grind
   refine aI ?_;simp[V.erase,this]
  .simp only[am];rw[wrap_i64];refine a7.again (I:=λp:{i:Nat // i<=l.length/\qc (l.take i)=aa}=>Hd l Z p.1) (μ:=λp=>l.length - p.1) ⟨i+1,az,?_⟩ (by simp;omega) (by simp[Hd,am,aj]) bX.rfl bp.rfl;simp only[qc,iB az,L6,bO] at ha ⊢
   grind
 .have:i=l.length:=by omega
  subst this;rw[du] at ha;simp only[am,aD (show ¬(l.length:Int)<l.length by omega)];refine aI ?_;simp[V.erase,ha]
def ao6(c:ar)(hg:Z.cI 0=U iO):aR 178 [.agg c.enc] Z (.bool c.nY):=by
 refine fq func178 ?_;simp only[aP,am,aT,Nat.reduceAdd,b9,b7];have h:=λ(Z:ab) (hg:Z.cI 0=U iO)=>E7 c.op 110 hg
 refine cl (h Z hg) ?_;simp only[am]
 by_cases h0:eU c.op 110=0
 .simp only[am,bG,aG (show((eU c.op 110:Nat):Int)=0 by omega)];refine aI ?_;simp[V.erase,ar.nY,h0]
 .simp only[am,bG,aD (show ¬((eU c.op 110:Nat):Int)=0 by omega)];refine cl (wW c.name.an Z) ?_;simp only[am];refine aI ?_;simp[V.erase,ar.nY,h0]
theorem apc(c:ar)(hg:Z.cI 0=U iO)(hn:c.ak.length+1<=aJ):aR 179 [.agg c.enc] Z (.bool c.kW):=by
 have wJ:(c.ak.map aC.an).length<=aJ:=by grind
 have h:=λ(Z:ab) (hg:Z.cI 0=U iO)=>E7 c.op 119 hg
 have h' := λ(Z:ab) (hg:Z.cI 0=U iO)=>E7 c.op 102 hg
 refine fq func179 ?_;simp only[aP,am,aT,Nat.reduceAdd,b9,b7];refine cl (h Z hg) ?_;simp only[am]
 by_cases h0:0<eU c.op 119
 .simp only[am,aF,bG,aG (show(0:Int)<((eU c.op 119:Nat):Int) by omega),aF]
  by_cases h1:0<c.ak.length
  .simp only[am,bG,aG (show(0:Int)<((c.ak.length:Nat):Int) by omega)];refine cl (Lr c.ak Z hn) ?_;simp only[am];refine cl (UM (c.ak.map aC.an) Z wJ) ?_;simp only[am];refine aI ?_;simp[V.erase,ar.kW,h0,h1]
  .simp only[am,aD (show ¬(0:Int)<((c.ak.length:Nat):Int) by omega)];refine aI ?_;simp[V.erase,ar.kW,h0,h1]
 .simp only[am,b7,aD (show ¬(0:Int)<((eU c.op 119:Nat):Int) by omega)];refine cl (h' Z hg) ?_;simp only[am]
  by_cases h2:0<eU c.op 102
  .simp only[am,aF,bG,aG (show(0:Int)<((eU c.op 102:Nat):Int) by omega),aF]
   by_cases h1:c.ak.length=1
   .simp only[am,bG,aG (show((c.ak.length:Nat):Int)=1 by omega)];refine cl (Lr c.ak Z hn) ?_;simp only[am];refine cl (UM (c.ak.map aC.an) Z wJ) ?_;simp only[am];refine aI ?_;simp[V.erase,ar.kW,h0,h1,h2]
   .simp only[am,aD (show ¬((c.ak.length:Nat):Int)=1 by omega)];refine aI ?_;simp[V.erase,ar.kW,h0,h1,h2]
  .simp only[am,aF,bG,aD (show ¬(0:Int)<((eU c.op 102:Nat):Int) by omega),aF];have he:decide (((c.ak.length:Nat):Int)=0)=decide (c.ak.length=0):=by simp
   refine aI ?_;simp[V.erase,ar.kW,h0,h2]
def Bq(c:ar)(Z:ab)(i:Nat):St :=
 ⟨[.any,.ptr (.au 0) 0]++aj 12 .any++[.sl .no 4 (c.aX.map eJ),.int .i64 c.aX.length,.int .i64 (i:Nat)]++aj 16 .any,[c.enc],Z⟩
theorem arc(c:ar)(hg:Z.cI 0=U iO)(hn:c.aX.length+1<=aJ):aR 180 [.agg c.enc] Z (.bool c.lY):=by
 have h:=λ(Z:ab) (hg:Z.cI 0=U iO)=>E7 c.op 112 hg
 simp only[aJ] at hn;refine fq func180 ?_;simp only[aP,am,aT,Nat.reduceAdd,b9,b7];refine cl (h Z hg) ?_;simp only[am]
 by_cases h0:eU c.op 112=0
 .simp only[am,aF,bG,aF,aG (show((eU c.op 112:Nat):Int)=0 by omega)];have he:decide (((c.aX.length:Nat):Int)=0)=decide (c.aX.length=0):=by simp
  refine aI ?_;simp[V.erase,ar.lY,h0]
 simp only[am,aF,bG,aF,aD (show ¬((eU c.op 112:Nat):Int)=0 by omega)];have hq:c.lY=c.aX.all kc:=by unfold ar.lY;rw[aB h0]
 refine ep (λp:{i:Nat // i<=c.aX.length/\(c.aX.take i).all kc=aa}=>Bq c Z p.1) (λp=>c.aX.length - p.1) ?_ ?_
 .refine a7.enter ⟨0,by simp,by simp⟩ ?_ bX.rfl bp.rfl;simp[Bq,aj,am]
 rintro⟨i,hi,ha⟩;simp only[Bq,aj,am]
 by_cases az:i<c.aX.length
 .simp only[am,aG (show(i:Int)<c.aX.length by omega)];refine ix (vZ (bY az)) ?_;simp only[am,cK,Nat.reduceAdd,eJ];refine jX ?_;simp only[am,Int.reduceToNat,Nat.reduceMul];refine cl (wW c.aX[i].1.an Z) ?_;have fj:kc c.aX[i]=aq->c.lY=false:=λhf=>by
   grind
  cases hr:dp c.aX[i].1.an
  .simp only[am];refine aI ?_;simp[V.erase,fj (by simp[kc,hr])]
  .simp only[am,cK];refine jX ?_;simp only[am,Int.reduceToNat,Nat.reduceMul];refine cl (wW c.aX[i].2.an Z) ?_;cases Xr:dp c.aX[i].2.an
   .simp only[am];refine aI ?_;simp[V.erase,fj (by simp[kc,Xr])]
   .simp only[am];rw[wrap_i64];refine a7.nh (I:=λp:{i:Nat // i<=c.aX.length/\(c.aX.take i).all kc=aa}=>Bq c Z p.1) (μ:=λp=>c.aX.length - p.1) ⟨i+1,az,?_⟩ (by simp;omega) (by simp[Bq,am,aj]) (by simp[Bq,am]) bp.rfl (by simp[Bq,aj,bE,V.lo]) (by simp[Bq,ar.enc,ar.cJ,cn,bE,V.lo]);rw[iB az,L6,ha];simp[kc,hr,Xr]
 .have:i=c.aX.length:=by omega
  subst this;rw[du] at ha;simp only[am,aD (show ¬(c.aX.length:Int)<c.aX.length by omega)];refine aI ?_;simp[V.erase,hq,ha]
theorem ac7:[V.int .i64 0,.int .i64 0,.aQ [],.sl .aY 2 [],.sl .aY 5 []].map V.erase=Nd.zero.enc:=by rfl
def abx(n:Nd)(Z:ab)(hw:n.wt<=aJ):aR 226 [.agg n.enc,.agg [.int .i64 0,.int .i64 0,.aQ [],.sl .aY 2 [],.sl .aY 5 []]] Z (.bool (n.dm .zero)):=by
 refine cy.df (aue _ n .zero Z (bU _) hw) ?_ bp.rfl;simp only[c_,dv.rfl,ln,qq];rw[<-ac7];exact dv.erase (v:=.agg [.int .i64 0,.int .i64 0,.aQ [],.sl .aY 2 [],.sl .aY 5 []])
def avy(c:ar)(hg:Z.cI 0=U iO)(hl:c.left.wt<=aJ)(hr:c.right.wt<=aJ):aR 181 [.agg c.enc] Z (.bool c.kh):=by
 have h:=λ(Z:ab) (hg:Z.cI 0=U iO)=>E7 c.op 116 hg
 have h' := λ(Z:ab) (hg:Z.cI 0=U iO)=>E7 c.op 114 hg
 refine fq func181 ?_;simp only[aP,am,aT,Nat.reduceAdd,b9,b7];refine cl (h Z hg) ?_;simp only[am]
 by_cases h0:0<eU c.op 116
 .simp only[am,Nd.al,bG,aG (show(0:Int)<((eU c.op 116:Nat):Int) by omega)];refine cl (Hl _ c.left Z (bU _) hl) ?_;cases hq:c.left.ei
  .simp only[am];refine aI ?_;simp[V.erase,ar.kh,h0,hq]
  .simp only[am,Nd.al,bG];refine cl (Hl _ c.right Z (bU _) hr) ?_;simp only[am];refine aI ?_;simp[V.erase,ar.kh,h0,hq]
 simp only[am,b7,aD (show ¬(0:Int)<((eU c.op 116:Nat):Int) by omega)];refine cl (h' Z hg) ?_;simp only[am]
 by_cases h2:0<eU c.op 114
 .simp only[am,Nd.al,bG,aG (show(0:Int)<((eU c.op 114:Nat):Int) by omega)];refine cl (aaO c.left Z hl) ?_;cases hq:c.left.jl
  .simp only[am];refine aI ?_;simp[V.erase,ar.kh,h0,h2,hq]
  .simp only[am,Nd.al,bG];refine cl (aaO c.right Z hr) ?_;simp only[am];refine aI ?_;simp[V.erase,ar.kh,h0,h2,hq]
 simp only[am,Nd.al,bG,aD (show ¬(0:Int)<((eU c.op 114:Nat):Int) by omega)];refine cl (abx c.left Z hl) ?_;cases hq:c.left.dm .zero
 .simp only[am];refine aI ?_;simp[V.erase,ar.kh,h0,h2,hq]
 .simp only[am,Nd.al,bG];refine cl (abx c.right Z hr) ?_;simp only[am];refine aI ?_;simp[V.erase,ar.kh,h0,h2,hq]
def agq(c:ar)(hg:Z.cI 0=U iO)(hn:c.ak.length+1<=aJ)(hp:c.aX.length+1<=aJ)(hl:c.left.wt<=aJ)(hr:c.right.wt<=aJ):aR 113 [.agg c.enc] Z (.bool c.gj):=by
 have h1:=λ(Z:ab) (hg:Z.cI 0=U iO)=>ao6 c hg
 have h2:=λ(Z:ab) (hg:Z.cI 0=U iO)=>apc c hg hn
 have h3:=λ(Z:ab) (hg:Z.cI 0=U iO)=>arc c hg hp
 have h4:=λ(Z:ab) (hg:Z.cI 0=U iO)=>avy c hg hl hr
 refine fq func113 ?_;simp only[aP,am,aT,Nat.reduceAdd,b9,b7]
 by_cases k1:c.op<0
 .simp only[am,aG k1];refine aI ?_;simp[V.erase,ar.gj,show ¬(0<=c.op/\c.op<=15) by omega]
 simp only[am,b7,aD k1]
 by_cases k2:15<c.op
 .simp only[am,aG k2];refine aI ?_;simp[V.erase,ar.gj,show ¬(0<=c.op/\c.op<=15) by omega]
 have k3:0<=c.op/\c.op<=15:=by omega
 simp only[am,b9,aD k2];refine cl (h1 Z hg) ?_;cases q1:c.nY
 .simp only[am];refine aI ?_;simp[V.erase,ar.gj,q1]
 simp only[am,b9];refine cl (h2 Z hg) ?_;cases q2:c.kW
 .simp only[am];refine aI ?_;simp[V.erase,ar.gj,q1,q2]
 simp only[am,b9];refine cl (h3 Z hg) ?_;cases q3:c.lY
 .simp only[am];refine aI ?_;simp[V.erase,ar.gj,q1,q2,q3]
 simp only[am,b9];refine cl (h4 Z hg) ?_;simp only[am];refine aI ?_;simp[V.erase,ar.gj,q1,q2,q3,k3]
def ajw:fm prog 115 (sq [rg 0 [ox 3 2 0,ox 5 5 2,oR 6 Ch],sq [rg 11 [fo 0 5,nB .eql 1],ci 13 (sq [rg 15 [ol 2 3,fo 2 5,oC 76 [15,17],o1 14,oe 14 0,oe 14 1,ot 7 19,o1 8],rg 21 [om 8,oY Ch [(0,1,.s 21)],o2 9 6],.ret])],dA 24 [9,10] [fo 0 3,om 1,nA 3 25,nf 1,nl 2,fo 4 5,nI 5 0,nl 5,oC 184 [29,33],o1 23,oe 23 0,oe 23 1,oN,oN,oX 9 8 35,oX 10 2 36],rg 37 [ol 8 9,oY Ch [(0,1,.c (.int .i64 (-1))),(1,8,.s 37)],o2 9 6],.ret]) [.cell 6 aa 9] 39:=fU func115
def ajx:fm prog 116 (sq [rg 0 [ox 3 2 0,ox 5 5 2,oZ 6 [15,0]],rg 12 [oG [15,0] [(1,1,.c (.int .i64 (-1)))],oZ 7 [15,0],o2 2 7],sq [rg 13 [fo 0 5,nB .eql 1],ci 15 (sq [rg 17 [ol 2 3,fo 2 5,oC 76 [17,19],o1 16,oe 16 0,oe 16 1,of 1 7,os 1 23 22],rg 24 [ol 2 7,o2 2 6],.ret])],sq [rg 25 [fo 4 5,nL,oi 0],lp 27 0 (sq [rg 30 [oA 5 26 28,nl 5,oZ 9 [0,0,1,7,10],o2 5 9],dg 32 [of 0 7,mM [1],no,of 2 9,mM [1],no,ol 2 3,om 1,fo 4 9,nI 5 0,nl 5,oC 115 [36,37,41],oY Nu [(0,1,.s 35),(1,9,.s 42)],n1 10,na 10 33,of 0 7,os 1 46 45]]) 47],sq [rg 48 [fo 3 5,nL,oi 0],lp 50 2 (sq [rg 53 [oA 2 49 51,nl 2,oZ 11 [1,0],o2 2 11],rg 56 [ol 2 3,fo 0 11,oC 76 [56,58],o1 55,oe 55 0,oe 55 1,of 1 7,os 1 62 61]]) 63],rg 64 [ol 2 7,o2 2 6],.ret]) [.cell 6 aa 2] 65:=fU func116
def VI(s:aH)(lat:Nat)(n:Nd)(hs:s.ok)(hg:TZ Z)(ju:lat<s.bc.length)(hk:n.kind=1\/0<n.ae.length)(hc:n.cW<=100000)(hw:n.wt<=aJ):
 aR 115 [.agg s.enc,.int .i64 (lat:Nat),.agg n.enc] Z (.agg (o_ s lat n).enc):=by
 refine ajw.fK ?_;simp only[aP,Au,Nat.reduceAdd,Int.reduceNeg,bQ.al]
 by_cases h1:n.kind=1
 .simp only[am,Int.reduceNeg,aH.al,Nd.fl,aG h1];refine cl (yu s n.an Z hs.1 hs.2.1) ?_;simp only[am,Int.reduceNeg,bQ.al];exact aN (v:=.agg (bQ.mk (bW (jt s.vars n.an)) .zero).enc) bQ.dT (ab.a8 _) ⟨by rw[o_,aL h1];simp only[V.erase,bQ.dW],rfl⟩
 have hk:0<n.ae.length:=hk.resolve_left h1;have hm:n.ae[0]∈n.ae:=dQ _;have sk:=me hm;have sn:=iI hm;simp only[am,Nat.reduceAdd,bu,Int.reduceNeg,Nat.reduceLT,aH.al,aD h1];refine ix (tA ju) ?_;simp only[am,Int.reduceNeg,aH.al,Nd.fl];refine mG (n:=0) (by omega) (gH (j:=0) (bY hk)) ?_;simp only[am,Int.reduceNeg,bA.al,Nd.al];refine bn.intro (M' s.bc[lat].shape n.ae[0] hg (hs.2.2 _ (dQ ju)) (λm hm=>by obtain⟨a,b,c⟩:=Fh (n:=n.ae[0]) (by omega) m hm;exact⟨by omega,by omega,λq hq=>by have:=c q hq;omega⟩) (by omega)) ?_;have ee:o_ s lat n=⟨-1,(gN s.bc[lat].shape n.ae[0]).1⟩:=by rw[o_,aB h1,Fu ju,mB hk]
 generalize gN s.bc[lat].shape n.ae[0]=g at ee;obtain⟨e,o⟩:=g;cases o with
 | none =>
  simp only[am,Nat.reduceAdd,Int.reduceNeg,br.al,bQ.al,show pf ah=[.int .i64 0,.int .i64 0] from rfl];exact aN (v:=.agg (bQ.mk (-1) e).enc) bQ.dT (ab.a8 _) ⟨by rw[ee];simp only[V.erase,bQ.dW],rfl⟩
 | some q =>
  simp only[am,Nat.reduceAdd,Int.reduceNeg,br.al,bQ.al,show pf (U q)=[.int .i64 4,.int .i64 q] from rfl];exact aN (v:=.agg (bQ.mk (-1) e).enc) bQ.dT (ab.a8 _) ⟨by rw[ee];simp only[V.erase,bQ.dW],rfl⟩
theorem V_(s:aH)(lat:Nat)(n:Nd)(hs:s.ok)(hg:TZ Z)(ju:lat<s.bc.length)(hk:∀k∈n.ae,Nt k)(GW:n.ak.length<=1)(hc:n.cW<=100000)(hw:n.wt<=aJ):
 aR 116 [.agg s.enc,.int .i64 (lat:Nat),.agg n.enc] Z (.agg (kf s lat n).enc):=by
 refine ajx.fK ?_;simp only[aP,Au,Nat.reduceAdd,Int.reduceNeg,cq.al]
 by_cases h1:n.kind=1
 .simp only[am,Int.reduceNeg,aH.al,Nd.fl,aG h1];refine cl (yu s n.an Z hs.1 hs.2.1) ?_;simp only[am,Nat.reduceAdd,Int.reduceNeg];exact aN rfl (ab.a8 _) ⟨by rw[kf,aL h1];rfl,rfl⟩
 simp only[am,aF,Int.reduceNeg,Nd.fl,aF,aD h1];have x_:=xK n;obtain⟨Q,hQ⟩:∃Q:Nat->List (List V),∀i,Q i=((n.ae.take i).map (sY s lat)).map cq.enc:=⟨_,λ_=>rfl⟩;have mC:Q 0=[]:=by grind
 have nw:Q n.ae.length=(n.ae.map (sY s lat)).map cq.enc:=by grind
 have sb:∀{i:Nat},i<=n.ae.length->(Q i).length=i:=λ{i} hi=>by rw[hQ];simp;omega
 have kt:∀{i:Nat} (hi:i<n.ae.length) (h1:0<n.ae[i].ae.length),Q (i+1)=Q i++[(cq.mk n.ae[i].an (o_ s lat n.ae[i].ae[0])).enc]:=λ{i} hi h1=>by
  rw[hQ,hQ,iB hi,gm,gm,DW,DW,sY,mB h1]
 refine ch (n.ae.length) (λi (D:Nat)=>⟨[.any,.int .i64 (lat:Nat),.any,.ptr (.au 0) 0,.any,.ptr (.au 1) 0,.ptr (.au 2) 0,.ptr (.au 3) 0,.any,.any,.any,.any,.any,.any,.any,.any,.any,.any,.any,.any,.any,.any,.any,.any,.any,.any,.sl .no 5 (n.ae.map Nd.enc),.int .i64 (n.ae.length:Nat),.int .i64 (i:Nat)]++aj 36 .any,[s.enc,n.enc,[.sl .aY 10 [],.int .i64 0],[.sl (.tk D) 10 (Q i),.int .i64 (-1)]],Z.aU D i⟩) (λi D=>(Z.aS D=ah)) λF hF JF aZ=>⟨?_,?_,?_⟩
 .refine Cp 0 λD aW=>⟨D,fF (aZ _ _) aW,?_,?_,?_⟩
  all_goals simp[hF,aj,ji,De,mC]
 .rintro i D hi aW;have hm:n.ae[i]∈n.ae:=dQ _;have sk:=me hm;have sn:=iI hm;obtain⟨ur,si⟩:=hk _ hm;have uv:n.ae[i].ae[0]∈n.ae[i].ae:=dQ _;have OL:=me uv;have OM:=iI uv;have Be:TZ (Z.aU D i):=hg;have hlen:=sb (F1 hi);simp only[hF,aj,am,cf hi,Int.reduceNeg];refine ix (gH (bY hi)) ?_;simp only[Au,Nat.reduceAdd,Int.reduceNeg];refine mG (n:=0) (by omega) (gH (j:=0) (bY ur)) ?_;simp only[am,Int.reduceNeg,aH.al,Nd.al];refine bn.intro (VI s lat n.ae[i].ae[0] hs Be ju (si _ uv) (by omega) (by omega)) ?_;simp only[am,Int.reduceNeg,bQ.al,cq.al];refine qz (by rw[hlen];simp[aJ];omega) (by rw[hlen];exact dD) ?_;rw[hlen];simp only[am,aK,Int.reduceNeg,Nd.fl,dU,bt hi,eZ];refine c7 (D) hi ?_ ?_ ?_ ?_ ?_ ?_
  .grind
  all_goals simp[hF,aj,am,ba,bE,cn,V.lo,kt hi ur,aH.bR,Nd.bR]
 .rintro D aW;have hlen:=sb (bU _);have uy:=Ea n;simp only[hF,aj,am,aK,ck,aK,Int.reduceNeg,Nd.fl,aF];refine ch (n.ak.length) (λj (y:Unit)=>⟨[.any,.any,.any,.ptr (.au 0) 0,.any,.any,.ptr (.au 2) 0,.ptr (.au 3) 0,.any,.any,.any,.any,.any,.any,.any,.any,.any,.any,.any,.any,.any,.any,.any,.any,.any,.any,.any,.any,.any,.any,.any,.any,.any,.any,.any,.any,.any,.any,.any,.any,.any,.any,.any,.any,.any,.any,.any,.any,.any,.sl .no 2 (n.ak.map aC.enc),.int .i64 (n.ak.length:Nat),.int .i64 (j:Nat)]++aj 13 .any,[s.enc,n.enc,[.sl .aY 10 [],.int .i64 0],[.sl (.tk D) 10 (Q n.ae.length),.int .i64 (BV s (n.ak.take j))]],Z.aU D n.ae.length⟩) (λj y=>(True)) λF2 bV pI dr=>⟨?_,?_,?_⟩
  .refine en dr (()) (trivial) ?_ ?_ ?_
   all_goals simp[bV,aj,am,ba,BV]
  .rintro j y hj -;obtain rfl:j=0:=by omega
   have et:=acd (s:=s) hj;simp only[bV,aj,am,cf hj];refine ix (sO hj) ?_;simp only[am,Nat.reduceAdd,rU,aH.al,aC.al];refine cl (yu s n.ak[0].an _ hs.1 hs.2.1) ?_;simp only[am,aK,bt hj];refine c7 (()) hj ?_ ?_ ?_ ?_ ?_ ?_
   .grind
   all_goals simp[bV,aj,am,ba,bE,cn,V.lo,et,aH.bR,Nd.bR]
  .rintro y -;simp only[bV,aj,am,aK,ck,Nat.reduceAdd,aK,du,nw];have e:kf s lat n=⟨n.ae.map (sY s lat),BV s n.ak⟩:=by rw[kf,aB h1]
   refine aN rfl (gV aW) ⟨by rw[e];rfl,rfl⟩
def aj5:fm prog 58 (sq [rg 5 [ox 2 2 0,ox 3 17 1,oR 4 g_,oz 2],sq [rg 9 [fo 0 3,nB .lss 8,gB,fo 0 3,nB .gtr 10,gZ,gB,ol 17 3,oC 113 [18],nn,gZ,gB,ol 2 2,ol 17 3,oC 55 [23,24],ow 0 25,nB .neq 0,gZ],cr 28 29 [oY g_ [],o2 18 4,oU 5 2]],rg 31 [ol 2 2,of 2 3,nF 0,oC 76 [31,34],o1 30,oe 30 0,oe 30 1,ot 6 36,o1 7],rg 38 [fo 0 3,om 6,oY g_ [(0,1,.s 39),(1,1,.s 40)],oR 8 g_,o2 18 8],sq [rg 42 [fo 0 3],.block 0 (sq [rg 45 [oB .eql 43 8,o1 44],cd 44 (sq [rg 47 [ol 2 2,om 6,of 7 3,nl 5,oC 114 [47,48,50],o1 46,oe 46 0,oe 46 1,of 2 8,os 1 54 52],rg 55 [ol 2 2,om 6,of 12 3,nl 5,oC 115 [55,56,58],of 3 8,os 9 60 59]]) (sq [rg 62 [oB .eql 43 9,o1 61],cd 61 (dg 63 [ol 2 2,om 6,of 7 3,nl 5,oC 116 [63,64,66],mM [0],ol 2 2,om 6,of 12 3,mM [0],nl 5,oC 116 [68,69,71],of 12 8,os 2 73 67,of 14 8,os 2 74 72]) (sq [rg 76 [oB .eql 43 10,o1 75],ci 75 (dg 77 [om 7,of 1 2,mM [1],no,om 7,nA 3 79,nf 2,mM [1],no,of 4 3,mM [1,2],no,nI 2 0,nf 0,mM [1,2],no,of 16 8,os 1 89 77,of 1 8,os 1 90 83,of 17 8,os 1 91 88])])])])],rg 92 [ol 18 8,o2 18 4,oV 5 (.bool aa)],.ret]) [.cell 4 aa 18,.tmp 5] 93:=fU func58
def r5(s:aH)(c:ar):V:=.bw [.agg (if gi s c then jA s c else .zero).enc,.bool (gi s c)]
theorem ai3(s:aH)(c:ar)(hs:s.ok)(hg:TZ Z)(lv:Z.cI 0=U iO)(hn:c.ak.length+1<=aJ)(hp:c.aX.length+1<=aJ)(hl:c.left.cW<=100000)(hr:c.right.cW<=100000)(jO:c.left.wt<=aJ)(qL:c.right.wt<=aJ):
 aR 58 [.agg s.enc,.agg c.enc] Z (r5 s c):=by
 have no:∀(t:List V) (lo:List (List V)),gi s c=aq->jS (λv σ' => v=r5 s c/\σ' = Z) ⟨t,lo,Z⟩ (.bw [.agg (dj 0 0 (.sl .aY 10 []) .zero (.sl .aY 10 []) 0 (.sl .aY 10 []) 0 0 []),.bool aq]):=λt lo h=>by
  refine aN (by simp only[V.cS,bK,uZ];exact D4 rfl rfl rfl) (ab.a8 _) ⟨?_,rfl⟩;rw[r5,h];simp only[V.erase,a9,Ga];rfl
 have yes:∀(t:List V) (lo:List (List V)) (op lat:Int) (cd:V) (to:bQ) (fa:V) (ta:Int) (fb:V) (tb v:Int) (f:List UInt8),gi s c=aa->cd.cS=aa->fa.cS=aa->fb.cS=aa->dj op lat cd.erase to fa.erase ta fb.erase tb v f=(jA s c).enc->jS (λv σ' => v=r5 s c/\σ' = Z) ⟨t,lo,Z⟩ (.bw [.agg (dj op lat cd to fa ta fb tb v f),.bool aa]):=λt lo op lat cd to fa ta fb tb v f h n1 n2 n3 hx=>by
  refine aN (by simp only[V.cS,bK,uZ];exact D4 n1 n2 n3) (ab.a8 _) ⟨?_,rfl⟩;rw[r5,h];simp only[V.erase,a9,Ga,hx];rfl
 refine aj5.fK ?_;simp only[aP,am,aT,Nat.reduceAdd,aH.al,g_,b9,b7]
 by_cases o1:c.op<8
 .simp only[am,hH,aG o1];exact no _ _ (by simp[gi];omega)
 simp only[am,b7,aD o1]
 by_cases o2:10<c.op
 .simp only[am,hH,aG o2];exact no _ _ (by simp[gi];omega)
 simp only[am,b9,aD o2];refine cl (agq c lv hn hp jO qL) ?_;cases hq:c.gj with
 | false =>
  simp only[am,hH];exact no _ _ (by simp[gi,hq])
 | true =>
  simp only[am,aH.al,b9];refine cl (VS s c hs hg hl hr jO qL) ?_;simp only[am,aM.al]
  by_cases hf:(iE s c).cls=0
  case neg =>
   simp only[am,hH,aD hf];exact no _ _ (by simp[gi,hf])
  have hA:gi s c=true:=by simp only[gi,hq,hf,bu,uZ,bO,cU];omega
  have hF:=Kl.1 hA;simp only[am,aH.al,bG,aG hf];refine cl (yu s c.name.an Z hs.1 hs.2.1) ?_;simp only[am,Nat.reduceAdd,hH,b7,wg (op:=c.op) (lat:=bW (fD s.bc c.name.an)) (c:=.sl .aY 10 []) (to:=.zero) (fa:=.sl .aY 10 []) (ta:=0) (fb:=.sl .aY 10 []) (tb:=0) (v:=0) (f:=[]) rfl rfl rfl]
  by_cases h8:c.op=8
  .simp only[am,aH.al,Nd.al,bG,aG h8];obtain⟨k,hk,az⟩:=hF.cD (.inl h8);have pZ : bW (fD s.bc c.name.an)=(k:Nat):=hk;rw[pZ];refine cl (afL s k c.left hg hs jO (by omega)) ?_;simp only[am,aH.al,hH,Nd.al,bG,wv];refine cl (VI s k c.right hs hg az ?_ (by omega) qL) ?_
   .rcases hF.right h8 with h | h
    .omega
    .exact .inr (by rw[Da (hF.labels h8).2 h];omega)
   simp only[am,bQ.al,hH,wg (op:=c.op) (lat:=k) (c:=.sl .no 10 (((kR s k c.left).getD []).map bF.enc)) (to:=o_ s k c.right) (fa:=.sl .aY 10 []) (ta:=0) (fb:=.sl .aY 10 []) (tb:=0) (v:=0) (f:=[]) rfl rfl rfl];refine yes _ _ _ _ _ _ _ _ _ _ _ _ hA rfl rfl rfl ?_;rw[jA,aL h8,hk,h8];rfl
  simp only[am,aD h8]
  by_cases h9:c.op=9
  .simp only[am,aH.al,Nd.al,bG,aG h9];obtain⟨k,hk,az⟩:=hF.cD (.inr h9);have pZ : bW (fD s.bc c.name.an)=(k:Nat):=hk;rw[pZ];obtain⟨q1,q2⟩:=hF.rows h9;refine bn.intro (V_ s k c.left hs hg az (Fq q1) (Lb q1) (by omega) jO) ?_;simp only[am,aH.al,Nd.al,bG];refine bn.intro (V_ s k c.right hs hg az (Fq q2) (Lb q2) (by omega) qL) ?_;simp only[am,aH.al,fJ.al,hH,bG,wg (op:=c.op) (lat:=k) (c:=.sl .aY 10 []) (to:=.zero) (fa:=.sl .no 10 ((kf s k c.left).fs.map cq.enc)) (ta:=(kf s k c.left).tail) (fb:=.sl .no 10 ((kf s k c.right).fs.map cq.enc)) (tb:=(kf s k c.right).tail) (v:=0) (f:=[]) rfl rfl rfl];refine yes _ _ _ _ _ _ _ _ _ _ _ _ hA rfl rfl rfl ?_;rw[jA,aB h8,aL h9,hk,h9];rfl
  have eK:c.op=10:=by omega
  simp only[am,aH.al,aD h9,aG eK];obtain⟨v,hv,CX,uB⟩:=hF.var eK;obtain⟨w,hw,_⟩:=hF.one eK;rw[CX];simp only[Int.reduceNeg,bW];refine ix (xn hv) ?_;simp only[am,Int.reduceNeg,aH.al,bG];have CY:0<c.ak.length:=by grind
  refine mG (n:=0) (by omega) (sO (l:=c.ak) (j:=0) CY) ?_;simp only[am,Int.reduceNeg,rU,aH.al,hH,bG,wg (op:=c.op) (lat:=s.vars[v].lat) (c:=.sl .aY 10 []) (to:=.zero) (fa:=.sl .aY 10 []) (ta:=0) (fb:=.sl .aY 10 []) (tb:=0) (v:=v) (f:=c.ak[0].an) rfl rfl rfl];refine yes _ _ _ _ _ _ _ _ _ _ _ _ hA rfl rfl rfl ?_;rw[jA,aB h8,aB h9,CX,Sq,bY hv,mB CY,eK];rfl
def Bt(s:aH)(t:List UInt8)(Z:ab)(h2:s.bc.length<=100000):aR 65 [.agg s.enc,.aQ t] Z (.int .i64 (bW (fD s.bc t))):=by
 refine fq func65 ?_;simp only[aP,am,aT,Nat.reduceAdd,Int.reduceNeg,aH.al];have eV:∀i (hi:i<s.bc.length),E9 s.bc t i=decide (s.bc[i].name=t):=λi hi=>by simp only[E9,bY hi]
 refine ch (s.bc.length) (λi (x:Unit)=>⟨[.any,.aQ t,.ptr (.au 0) 0,.any,.any,.int .i64 (i:Nat)]++aj 16 .any,[s.enc],Z⟩) (λi x=>(∀k,k<i->E9 s.bc t k=aq)) λF hF JF aZ=>⟨?_,?_,?_⟩
 .exact en aZ (()) (by intro k h;omega)
 .rintro i x hi hJ;simp only[hF,aj,am,cf hi,Int.reduceNeg,aH.al,aF];refine ix (tA hi) ?_;simp only[am,Int.reduceNeg,aH.al]
  by_cases h:s.bc[i].name=t
  .have e:fD s.bc t=U i:=Cq hi hJ (by rw[eV i hi];exact aG h);simp only[am,aK,Int.reduceNeg,aG h];refine aI ?_;simp[V.erase,e,bW]
  .simp only[am,aK,Int.reduceNeg,aD h,bt hi];exact nx aZ (()) hi (kn hJ (by rw[eV i hi];exact aD h))
 .rintro x hJ;have e:fD s.bc t=none:=Cr hJ;simp only[hF,aj,am,aK,ck,aK,Int.reduceNeg,aH.al,aF];refine aI ?_;simp[V.erase,e,bW]
theorem K9(l:List aM)(Z:ab)(hl:l.length<=268000000):aR 63 [.sl .no 2 (l.map aM.enc)] Z (.agg (fH l).enc):=by
 refine fq func63 ?_;simp only[aP,am,aT,Nat.reduceAdd];refine ch (l.length) (λi (x:Unit)=>⟨[.sl .no 2 (l.map aM.enc),.any,.ptr (.au 0) 0,.ptr (.au 1) 0,.int .i64 (i:Nat)]++aj 42 .any,[aM.zero.enc,(fH (l.take i)).enc],Z⟩) (λi x=>(True)) λF hF JF aZ=>⟨?_,?_,?_⟩
 .refine en aZ (()) (trivial) ?_ ?_ ?_
  all_goals simp[hF,aj,am,ba,fH,aM.zero,aM.enc]
 .rintro i x hi -;have hT:=Ys hi;simp only[hF,aj,am,cf hi,aF];refine ix (V1 hi) ?_;simp only[am,Nat.reduceAdd,aM.al];generalize fH (l.take i)=o at hT;generalize l[i]=f at hT
  by_cases h0:f.cls=0
  .rw[j7,aL h0] at hT;simp only[am,aK,aG h0,bt hi];refine c7 (()) hi ?_ ?_ ?_ ?_ ?_ ?_
   .grind
   all_goals simp[hF,aj,am,ba,bE,cn,V.lo,hT,aM.bR]
  rw[j7,aB h0] at hT;simp only[am,aM.al,aD h0];have yes:qN o f=aa->fH (l.take (i+1))=f:=λh=>by rw[hT,h,aL rfl]
  have no:qN o f=aq->fH (l.take (i+1))=o:=λh=>by rw[hT,h];rfl
  by_cases h1:o.cls=0
  .have e:=yes (by simp[qN,h1]);simp only[am,aK,aM.al,aG h1,bt hi];refine c7 (()) hi ?_ ?_ ?_ ?_ ?_ ?_
   .grind
   all_goals simp[hF,aj,am,ba,bE,cn,V.lo,e,aM.bR]
  simp only[am,aM.al,aD h1]
  by_cases h2:f.cls<o.cls
  .have e:=yes (by simp[qN,h2]);simp only[am,aK,aM.al,aG h2,bt hi];refine c7 (()) hi ?_ ?_ ?_ ?_ ?_ ?_
   .grind
   all_goals simp[hF,aj,am,ba,bE,cn,V.lo,e,aM.bR]
  simp only[am,aM.al,aD h2]
  by_cases h3:f.cls=o.cls
  case neg =>
   have e:=no (by simp[qN,h1,h2,h3]);simp only[am,aK,aD h3,bt hi];refine c7 (()) hi ?_ ?_ ?_ ?_ ?_ ?_
   .grind
   all_goals simp[hF,aj,am,ba,bE,cn,V.lo,e,aM.bR]
  simp only[am,aM.al,aG h3]
  by_cases h4:f.au<o.au
  .have e:=yes (by simp[qN,h3,h4]);simp only[am,aK,aM.al,aG h4,bt hi];refine c7 (()) hi ?_ ?_ ?_ ?_ ?_ ?_
   .grind
   all_goals simp[hF,aj,am,ba,bE,cn,V.lo,e,aM.bR]
  .have e:=no (by simp[qN,h1,h2,h4]);simp only[am,aK,aD h4,bt hi];refine c7 (()) hi ?_ ?_ ?_ ?_ ?_ ?_
   .grind
   all_goals simp[hF,aj,am,ba,bE,cn,V.lo,e,aM.bR]
 .rintro x -;simp only[hF,aj,am,aK,ck,aK,aM.al,aF,du];refine aI ?_;rfl
def HX(s:aH)(t:List UInt8)(p kind lat:Int)(Z:ab)(hs:s.ok):aR 126 [.agg s.enc,.aQ t,.int .i64 p,.int .i64 kind,.int .i64 lat] Z (.sl .no 2 ((fY s lat t p kind).map aM.enc)):=by
 refine fq func126 ?_;simp only[aP,am,aT,Nat.reduceAdd,aH.al];refine cl (Al s t Z hs.2.1) ?_;cases hv:jt s.vars t with
 | none =>
  simp only[am,bu,Int.reduceNeg,Int.reduceLT,aH.al,bW];refine cl (Bt s t Z hs.1) ?_;have e:fY s lat t p kind=if (fD s.bc t).isNone then [⟨3,p⟩] else [⟨4,p⟩]:=by rw[fY,hv]
  cases hL:fD s.bc t with
  | none =>
   simp only[am,Nat.reduceAdd,bu,Int.reduceNeg,Int.reduceLT,bW];exact aN rfl (ab.a8 _) ⟨by rw[e,hL];rfl,rfl⟩
  | some k =>
   simp only[am,Nat.reduceAdd,bu,Int.reduceNeg,Int.reduceLT,bW,aD (show ¬((k:Nat):Int)<0 by omega)];exact aN rfl (ab.a8 _) ⟨by rw[e,hL];rfl,rfl⟩
 | some v =>
  have az:=Nn hv;have e:fY s lat t p kind=if s.vars[v].kind≠kind\/(0<=lat/\s.vars[v].lat≠lat) then [⟨4,p⟩] else []:=by rw[fY,hv];simp only[bY az]
  simp only[am,aH.al,bW,aD (show ¬((v:Nat):Int)<0 by omega)];refine ix (xn az) ?_
  by_cases hk:s.vars[v].kind=kind
  case neg =>
   simp only[am,Nat.reduceAdd,aH.al,aD hk];exact aN rfl (ab.a8 _) ⟨by rw[e,aL (.inl hk)];rfl,rfl⟩
  simp only[am,aH.al,aG hk]
  by_cases h0:0<=lat
  case neg =>
   simp only[am,aD h0];exact aN rfl (ab.a8 _) ⟨by rw[e,aB (λh=>h.elim (λh=>h hk) (λh=>h0 h.1))];rfl,rfl⟩
  simp only[am,aH.al,aG h0];refine ix (xn az) ?_
  by_cases hl:s.vars[v].lat=lat
  .simp only[am,aH.al,aG hl];exact aN rfl (ab.a8 _) ⟨by rw[e,aB (λh=>h.elim (λh=>h hk) (λh=>h.2 hl))];rfl,rfl⟩
  .simp only[am,Nat.reduceAdd,aH.al,aD hl];exact aN rfl (ab.a8 _) ⟨by rw[e,aL (.inr ⟨h0,hl⟩)];rfl,rfl⟩
def ajz:fm prog 125 (sq [rg 0 [ox 1 17 0,oR 2 l8],rg 8 [fo 4 1,oC 135 [9],o1 3],rg 11 [om 3,nL,oY l8 [(0,1,.s 12)],oR 4 l8,o2 65 4],sq [rg 5 [oi 0],bl 0 (sq [sq [rg 14 [om 5,fo 5 1,nL,nb .lss 14],cx 18 0],.block 1 (sq [rg 21 [om 3,fo 5 1,om 5,nA 4 23,oQ 2 2 25 0,nF 0,oC 144 [21,28],o1 6],rg 30 [om 3,fo 5 1,om 5,nA 4 32,oQ 2 2 34 1,nF 0,oC 144 [30,37],o1 7],rg 39 [om 6,nB .geq 0,gA,om 7,nB .geq 0,gZ,gA,om 6,nB .lss 64,gZ,gA,om 7,nB .lss 64,gZ],ci 52 (rg 53 [om 6,om 6,of 1 4,oP 64 1 55 54,no,om 7,oq (.zb .u64 (.s 58)),oq (.qB .shl (.c (.int .u64 1)) (.s 59)),nb .or 57,of 1 4,oP 64 1 62 53,os 1 63 61])]),rg 19 [ic 5]])],rg 64 [ol 65 4,oC 192 [64],o2 65 2],.ret]) [.cell 2 aa 65] 66:=fU func125
def Ql(s:aH)(t:List UInt8)(Z:ab)(h1:s.bc.length<=100000)(h2:s.vars.length<=100000):aR 123 [.agg s.enc,.aQ t] Z (.bool (fZ s t)):=by
 have e:∀o:Option Nat,decide (0<=bW o)=o.isSome:=λo=>by cases o<;>simp[bW]
 refine fq func123 ?_;simp only[aP,am,aT,Nat.reduceAdd,aH.al];refine cl (Bt s t Z h1) ?_;simp only[am,e];cases hl:(fD s.bc t).isSome with
 | true =>
  simp only[am];refine aI ?_;simp[V.erase,fZ,hl]
 | false =>
  simp only[am,aH.al];refine cl (Al s t Z h2) ?_;simp only[am,e];refine aI ?_;simp[V.erase,fZ,hl]
theorem Sl(l:List aC)(Z:ab)(hl:l.length<=100000):aR 135 [.sl .no 2 (l.map aC.enc)] Z (.sl .no 1 (cu (cc l))):=by
 refine fq func135 ?_;simp only[aP,am,aT,Nat.reduceAdd];refine ch (l.length) (λi (D:Nat)=>⟨[.sl .no 2 (l.map aC.enc),.any,.any,.sl (.tk D) 1 (cu (cc (l.take i))),.int .i64 (i:Nat)]++aj 15 .any,[],Z.aU D i⟩) (λi D=>(Z.aS D=ah)) λF hF JF aZ=>⟨?_,?_,?_⟩
 .refine xP 0 λD aW=>⟨D,fF (aZ _ _) aW,?_,?_,?_⟩
  all_goals simp[hF,aj,ji,cc,cu]
 .rintro i D hi aW;have hlen:(cu (cc (l.take i))).length=i:=by rw[gk,sQ,o8];omega
  have hs:cu (cc (l.take (i+1)))=cu (cc (l.take i))++[[.aQ l[i].an]]:=by rw[iB hi];simp only[cc,cu,gm,cQ,fp]
  simp only[hF,aj,am,cf hi,aF];refine ix (sO hi) ?_;simp only[am,rU];refine fg (by rw[hlen];simp[aJ];omega) (by rw[hlen];exact dD) ?_;rw[hlen];simp only[am,aK,dU,bt hi,eZ];refine c7 (D) hi ?_ ?_ ?_ ?_ ?_ ?_
  .grind
  all_goals simp[hF,aj,am,ba,bE,cn,V.lo,hs]
 .rintro D aW;simp only[hF,aj,am,aK,ck,aK,aF,du];refine aN rfl (gV aW) ⟨rfl,rfl⟩
variable{b:Nat}
def auH:jv .u64 1 ((b:Nat):Int) .shl=U (.int .u64 ((lL b).toNat:Nat)):=LJ (a:=1#64) (m:=b)
theorem Rq(c:ar)(Z:ab)(hn:c.ak.length<=100000)(hp:c.aX.length<=100000):aR 125 [.agg c.enc] Z (.agg (qV c).enc):=by
 have hw:(cc c.ak).length<=100000:=by rw[sQ];exact hn
 have jO:((cc c.ak).length:Int)=(c.ak.length:Nat):=by rw[sQ]
 have az:∀{t:List UInt8} {k:Nat},dL (cc c.ak) t=U k->k<c.ak.length:=λh=>by have:=(AZ h).1;rwa [sQ] at this
 have h0:ry c 0=Rl.zero.yw (c.ak.length:Nat):=by rfl
 refine ajz.fK ?_;simp only[aP,am,aT,Nat.reduceAdd,Rl.al,b9,bG];refine cl (Sl c.ak Z hn) ?_;simp only[am,Nat.reduceAdd,Rl.al,gk,jO];rw[<-h0];refine ch (c.aX.length) (λi (x:Unit)=>⟨[.any,.ptr (.au 0) 0,.ptr (.au 1) 0,.sl .no 1 (cu (cc c.ak)),.ptr (.au 2) 0,.int .i64 (i:Nat)]++aj 60 .any,[c.enc,Rl.zero.enc,(ry c i).enc],Z⟩) (λi x=>(True)) λF hF JF aZ=>⟨?_,?_,?_⟩
 .exact en aZ (()) (trivial)
 .rintro i x hi -;have Xo:=λa b=>@akL c i a b hi
  have nQ:=akM hi;simp only[hF,aj,am,cf hi,aF,bG];refine ix (BG hi) ?_;simp only[am,cK,eJ];refine tq ?_;simp only[am,Int.reduceToNat,Nat.reduceMul];refine cl (zZ (cc c.ak) c.aX[i].1.an Z hw) ?_;simp only[am,bG];refine ix (BG hi) ?_;simp only[am,cK,eJ];refine tq ?_;simp only[am,Int.reduceToNat,Nat.reduceMul];refine cl (zZ (cc c.ak) c.aX[i].2.an Z hw) ?_;simp only[am];generalize ry c i=r at Xo nQ;generalize hA:bW (dL (cc c.ak) c.aX[i].1.an)=A;generalize hB:bW (dL (cc c.ak) c.aX[i].2.an)=B;cases s8:dL (cc c.ak) c.aX[i].1.an with
  | none =>
   have e:ry c (i+1)=r:=nQ λa b h=>by rw[s8] at h;simp at h
   rw[s8] at hA;obtain rfl:A = -1:=hA.symm;simp only[am,cX,aK,Int.reduceNeg,Int.reduceLE,aD (show ¬(0:Int)<=-1 by decide),bt hi];refine c7 (()) hi ?_ ?_ ?_ ?_ ?_ ?_
   .grind
   all_goals simp[hF,aj,am,ba,bE,cn,V.lo,e,ar.enc,ar.cJ,Rl.bR]
  | some a =>
   rw[s8] at hA;obtain rfl:A=(a:Nat):=hA.symm;cases nC:dL (cc c.ak) c.aX[i].2.an with
   | none =>
    have e:ry c (i+1)=r:=nQ λa b _ h=>by rw[nC] at h;simp at h
    rw[nC] at hB;obtain rfl:B = -1:=hB.symm;simp only[am,cX,aK,Int.reduceNeg,Int.reduceLE,aD (show ¬(0:Int)<=-1 by decide),aG (show(0:Int)<=((a:Nat):Int) by omega),bt hi];refine c7 (()) hi ?_ ?_ ?_ ?_ ?_ ?_
    .grind
    all_goals simp[hF,aj,am,ba,bE,cn,V.lo,e,ar.enc,ar.cJ,Rl.bR]
   | some b =>
    rw[nC] at hB;obtain rfl:B=(b:Nat):=hB.symm
    by_cases ha:a<64
    .by_cases hb:b<64
     .have e:=Xo a b s8 nC ha hb (az s8) (az nC);simp only[am,cK,aG (show(0:Int)<=((a:Nat):Int) by omega),aG (show(0:Int)<=((b:Nat):Int) by omega),aG (show((a:Nat):Int)<64 by omega),aG (show((b:Nat):Int)<64 by omega)];refine jX ?_;simp only[ac4,Rl.yG ha,show IntKind.u64.wrap ((b:Nat):Int)=(b:Nat) by simp[IntKind.wrap,IntKind.signed,IntKind.bits];omega,auH];refine jX ?_;simp only[Av,Rl.yF ha,Rl.yH ha,bt hi];refine c7 (()) hi ?_ ?_ ?_ ?_ ?_ ?_
      .grind
      all_goals simp[hF,aj,am,ba,bE,cn,V.lo,e,ar.enc,ar.cJ,Rl.bR]
     .have e:ry c (i+1)=r:=nQ λx y h h' => by rw[s8] at h;rw[nC] at h';simp only[bq] at h h';omega
      simp only[am,aK,aG (show(0:Int)<=((a:Nat):Int) by omega),aG (show(0:Int)<=((b:Nat):Int) by omega),aG (show((a:Nat):Int)<64 by omega),aD (show ¬((b:Nat):Int)<64 by omega),bt hi];refine c7 (()) hi ?_ ?_ ?_ ?_ ?_ ?_
      .grind
      all_goals simp[hF,aj,am,ba,bE,cn,V.lo,e,ar.enc,ar.cJ,Rl.bR]
    .have e:ry c (i+1)=r:=nQ λx y h h' => by rw[s8] at h;simp only[bq] at h;omega
     simp only[am,aK,aG (show(0:Int)<=((a:Nat):Int) by omega),aG (show(0:Int)<=((b:Nat):Int) by omega),aD (show ¬((a:Nat):Int)<64 by omega),bt hi];refine c7 (()) hi ?_ ?_ ?_ ?_ ?_ ?_
     .grind
     all_goals simp[hF,aj,am,ba,bE,cn,V.lo,e,ar.enc,ar.cJ,Rl.bR]
 .rintro x -;simp only[hF,aj,am,aK,ck,aK,Rl.al,aF,bG];refine cl (aat _ _) ?_;rw[akK];simp only[am,Rl.al];exact aN (v:=.agg (qV c).enc) Rl.dT (ab.a8 _) ⟨by simp only[V.erase,Rl.dW],rfl⟩
def aj_:fm prog 70 (sq [rg 0 [ox 2 2 0,ox 3 17 1,oZ 4 [2,72]],rg 9 [fo 4 3,oC 135 [10],oY uh [(1,1,.s 11)],oR 5 uh,o2 67 5],sq [rg 13 [fo 0 3],.block 0 (sq [rg 17 [oB .eql 14 1,o1 16],cd 16 (rg 18 [of 0 5,od ah (.store 1 (.s 18) (.c (.int .i64 1)))]) (sq [rg 20 [oB .eql 14 2,o1 19],cd 19 (rg 21 [of 0 5,od ah (.store 1 (.s 21) (.c (.int .i64 2)))]) (sq [rg 23 [oB .eql 14 4,o1 22],cd 22 (sq [rg 24 [of 0 5,od ah (.store 1 (.s 24) (.c (.int .i64 3)))],rg 25 [ol 17 3,oC 125 [25],of 2 5,os 65 27 26]]) (sq [rg 29 [oB .eql 14 5,o1 28],cd 28 (sq [rg 30 [of 0 5,od ah (.store 1 (.s 30) (.c (.int .i64 4)))],rg 31 [ol 17 3,oC 125 [31],of 2 5,os 65 33 32]]) (sq [rg 35 [oB .eql 14 3,o1 34],cd 34 (sq [rg 36 [oG [2,72] [(0,1,.c (.bool aa))],oZ 6 [2,72],o2 2 6],sq [rg 7 [oi 0],bl 1 (sq [sq [rg 37 [om 7,fo 4 3,nL,nb .lss 37],cx 41 1],.block 2 (sq [dg 44 [ol 2 2,fo 4 3,om 7,nA 2 46,nF 0,oC 65 [44,50],o1 8],rg 52 [om 8,nB .geq 0],ci 53 (dg 54 [fo 1 6,fo 0 2,om 8,nA 3 57,nf 1,nF 1,na 67 55,of 1 6,os 1 64 63])]),rg 42 [ic 7]])],rg 65 [ol 2 6,o2 2 4],.ret]) (sq [rg 15 [oW [2,72] [],o2 2 4],.ret])])])])])])],rg 66 [ol 67 5,n1 67,oW [2,72] [(1,1,67)],o2 2 4],.ret]) [.cell 4 aa 2] 69:=fU func70
theorem akv:cB 1 (uh.drop 1)=true:=rfl
theorem akw:setAt uh 1 [.sl .no 1 (cu l)]=(⟨0,l,.zero⟩:bh).enc:=by rfl
theorem aoH{l:eh}:bP aq 1 (l.enc.drop 2)=U (.sl .no 67 (l.shape.bI.map bh.enc)):=rfl
section
variable {f:bh}
theorem ai6:cB 1 f.enc=true:=rfl
theorem ai9{k:Int}:over f.enc [.int .i64 k]=(⟨k,f.ak,f.rel⟩:bh).enc:=by rfl
def ai8:cB 65 (f.enc.drop 2)=true:=Rl.jc
def ai'{r:Rl}:setAt f.enc 2 r.enc=(⟨f.kind,f.ak,r⟩:bh).enc:=by rw[bh.enc,mz,mz,mT,Rl.iK];rfl
def vn:=ag @akv <| ag @akw <| ag @ai6 <| ag @ai9 <| ag @ai8 <| ag @ai' @bh.zov
end
def Zu(k:Int)(l:List (List UInt8))(r:Rl):bA:=⟨aq,[⟨k,l,r⟩]⟩
theorem abT(s:aH)(c:ar)(Z:ab)(hs:s.tF)(hn:c.ak.length<=100000)(hp:c.aX.length<=100000):aR 70 [.agg s.enc,.agg c.enc] Z (.agg (lB s c).enc):=by
 have fin:∀(t:List V) (lo:List (List V)) (k:Int) (r:Rl),lB s c=Zu k (cc c.ak) r->jS (λv σ' => v = .agg (lB s c).enc/\σ' = Z) ⟨t,lo,Z⟩ (.agg [.bool aq,.sl .aY 67 [(⟨k,cc c.ak,r⟩:bh).enc]]):=λt lo k r h=>by
  refine aN (by simp[V.cS,bK]) (ab.a8 _) ⟨?_,rfl⟩;rw[h,Zu];simp only[V.erase,a9];rfl
 refine aj_.fK ?_;simp only[aP,am,aT,Nat.reduceAdd,aH.al,b9,bG];refine cl (Sl c.ak Z hn) ?_;simp only[am,Nat.reduceAdd,bh.al,b7,vn]
 by_cases h1:c.op=1
 .simp only[am,Nat.reduceAdd,bh.al,aG h1,vn];exact fin _ _ _ _ (by rw[lB,aL h1];rfl)
 by_cases h2:c.op=2
 .simp only[am,Nat.reduceAdd,bh.al,aD h1,aG h2,vn];exact fin _ _ _ _ (by rw[lB,aB h1,aL h2];rfl)
 by_cases h4:c.op=4
 .simp only[am,b9,aD h1,aD h2,aG h4,vn];refine cl (Rq c Z hn hp) ?_;simp only[am,Nat.reduceAdd,Rl.al,bh.al,vn];exact fin _ _ _ _ (by rw[lB,aB h1,aB h2,aL h4];rfl)
 by_cases h5:c.op=5
 .simp only[am,b9,aD h1,aD h2,aD h4,aG h5,vn];refine cl (Rq c Z hn hp) ?_;simp only[am,Nat.reduceAdd,Rl.al,bh.al,vn];exact fin _ _ _ _ (by rw[lB,aB h1,aB h2,aB h4,aL h5];rfl)
 by_cases h3:c.op=3
 case neg =>
  simp only[am,Nat.reduceAdd,aD h1,aD h2,aD h4,aD h5,aD h3];exact aN rfl (ab.a8 _) ⟨by rw[lB,aB h1,aB h2,aB h4,aB h5,aB h3];rfl,rfl⟩
 have es:lB s c=n5 s c:=by rw[lB,aB h1,aB h2,aB h4,aB h5,aL h3]
 simp only[am,Nat.reduceAdd,aD h1,aD h2,aD h4,aD h5,aG h3];rw[es];clear fin;obtain⟨Q,hQ⟩:∃Q:Nat->List bh,∀i,Q i=((c.ak.take i).flatMap (pq s)).flatMap bA.bI:=⟨_,λ_=>rfl⟩;have mC:Q 0=[]:=by grind
 have nw:Q c.ak.length=(n5 s c).bI:=by rw[hQ,du];rfl
 have sb:∀i,(Q i).length<=10000000:=λi=>by
  rw[hQ];have h1:=Nq (f:=pq s) (λ_=>Yc) (l:=c.ak.take i);have h2:=Nh (N:=100) (l:=(c.ak.take i).flatMap (pq s)) λx hx=>by
   obtain⟨w,_,hx⟩:=FX.1 hx;obtain⟨l,hl,rfl⟩:=Yd hx;exact hs.2 l hl
  grind
 refine ch (c.ak.length) (λi (D:Nat)=>⟨[.any,.any,.ptr (.au 0) 0,.ptr (.au 1) 0,.ptr (.au 2) 0,.any,.ptr (.au 4) 0,.int .i64 (i:Nat)]++aj 61 .any,[s.enc,c.enc,[.bool aq,.sl .aY 67 []],(⟨0,cc c.ak,.zero⟩:bh).enc,[.bool aa,.sl (.tk D) 67 (sa (Q i))]],Z.aU D (Q i).length⟩) (λi D=>(Z.aS D=ah)) λF hF JF aZ=>⟨?_,?_,?_⟩
 .refine Cp 0 λD aW=>⟨D,fF (aZ _ _) aW,?_,?_,?_⟩
  all_goals simp[hF,aj,ji,De,mC,sa]
 .rintro i D hi aW;have kt:Q (i+1)=Q i++(pq s c.ak[i]).flatMap bA.bI:=by rw[hQ,hQ,iB hi,rX,rX];simp
  have OJ:=sb i;simp only[hF,aj,am,cf hi,aH.al,aF,bG];refine ix (sO hi) ?_;simp only[am,aH.al,rU];refine bn.intro (Bt s c.ak[i].an _ hs.1.1) ?_;simp only[am];generalize hA:bW (fD s.bc c.ak[i].an)=A;cases hf:fD s.bc c.ak[i].an with
  | none =>
   rw[hf] at hA;obtain rfl:A = -1:=hA.symm;have e:Q (i+1)=Q i:=by rw[kt,Ye hf];simp
   simp only[am,cX,aK,Int.reduceNeg,Int.reduceLE,aD (show ¬(0:Int)<=-1 by decide),bt hi];refine c7 (D) hi ?_ ?_ ?_ ?_ ?_ ?_
   .grind
   all_goals simp[hF,aj,am,ba,bE,cn,V.lo,e,aH.bR,ar.enc,ar.cJ,bh.bR]
  | some k =>
   rw[hf] at hA;obtain rfl:A=(k:Nat):=hA.symm;have hk:=(AZ hf).1;have e:Q (i+1)=Q i++s.bc[k].shape.bI:=by rw[kt,Yf hf hk];simp
   have hlen:(sa (Q i)).length=(Q i).length:=VL;simp only[am,aH.al,aG (show(0:Int)<=((k:Nat):Int) by omega)];have e2:(Q (i+1)).length=(Q i).length+s.bc[k].shape.bI.length:=by grind
   have e3:sa (Q i)++s.bc[k].shape.bI.map bh.enc=sa (Q (i+1)):=by rw[e];simp[sa]
   have iW:=sb (i+1);refine ix (tA hk) ?_;simp only[am,Nat.reduceAdd,aoH];refine qz (by rw[hlen,aF];simp only[aJ];omega) (by rw[hlen];exact dD) ?_;rw[hlen];simp only[am,aF,aK,aF,dU,bt hi];rw[e3,<-e2];refine c7 (D) hi ?_ ?_ ?_ ?_ ?_ ?_
   .grind
   all_goals simp[hF,aj,am,ba,bE,cn,V.lo,aH.bR,ar.enc,ar.cJ,bh.bR]
 .rintro D aW;simp only[hF,aj,am,aK,ck,Nat.reduceAdd,aK,reduceCtorEq,aF,bG,nw];refine aN rfl (gV aW) ⟨rfl,rfl⟩
def tu(Z:ab)(b D:Nat)(l:List aM)(s:aH)(c:ar)(x y:Int)(is:Bool)(hl:l.length<=100000000) :
 eT 172 [.ptr (.out b) 0,.bool is,.int .i64 x,.int .i64 y] (fN Z b D l s c) (.bw []) (fN Z b D (l++cY is x y) s c):=by
 refine fq func172 ?_;simp only[aP,am,aT,Nat.reduceAdd];cases is with
 | false =>
  simp only[am];exact aN rfl (ab.a8 _) ⟨rfl,by simp[cY]⟩
 | true =>
  simp only[am,Nat.reduceAdd,kx];refine fg (by simp[aJ];omega) (by rw[aF];exact X1) ?_;simp only[am,aF,aF,kx,eZ,am7];exact aN rfl (ab.a8 _) ⟨rfl,by simp[cY]⟩
variable{o:Option Nat}
def QT:decide (0<=bW o)=o.isSome:=by cases o<;>simp[bW]
def aqR:decide (bW o<0)=o.isNone:=by cases o with
 | none=>rfl
 | some k=>exact aD (by simp only[bW];omega)
def XU(Z:ab)(b D:Nat)(l:List aM)(s:aH)(c:ar)(t:List UInt8)(hs:s.ok) :
 eT 171 [.ptr (.out b) 0,.aQ t] (fN Z b D l s c) (.bw [.bool (lR s t),.bool (fZ s t)]) (fN Z b D l s c):=by
 refine fq func171 ?_;simp only[aP,am,aT,Nat.reduceAdd,aH.al,kx];refine cl (yu s t _ hs.1 hs.2.1) ?_;simp only[am,QT];cases hL:(fD s.bc t).isSome with
 | true =>
  simp only[am];refine aI ?_;simp[V.erase,a9,lR,fZ,hL]
 | false =>
  simp only[am,QT];refine aI ?_;simp[V.erase,a9,lR,fZ,hL]
def P5(op:Int)(Z:ab):aR 73 [.int .i64 op] Z (.bool (gG op)):=by
 refine fq func73 ?_;simp only[aP,am,aT,Nat.reduceAdd]
 by_cases h:1<=op
 .simp only[am,aG h];refine aI ?_;simp[V.erase,gG,h]
 .simp only[am,aD h];refine aI ?_;simp[V.erase,gG,h]
def Ig(op:Int)(Z:ab):aR 75 [.int .i64 op] Z (.bool (dw op)):=by
 refine fq func75 ?_;simp only[aP,am,aT,Nat.reduceAdd]
 by_cases h:op=6
 .simp only[am,aG h];refine aI ?_;simp[V.erase,dw,h]
 .simp only[am,aD h];refine aI ?_;simp[V.erase,dw,h]
def amU(Z:ab)(b D:Nat)(l:List aM)(s:aH)(c:ar)(hs:s.ok)(hl:l.length<=90000000) :
 eT 103 [.ptr (.out b) 0] (fN Z b D l s c) (.bw []) (fN Z b D (l++sd s c) s c):=by
 refine fq func103 ?_;simp only[aP,am,aT,Nat.reduceAdd,kx];refine cl (XU Z b D l s c c.name.an hs) ?_;simp only[am,Nat.reduceAdd,kx];refine cl (P5 c.op _) ?_;cases h5:gG c.op with
 | true =>
  simp only[am];refine cl (tu Z b D l s c 3 c.name.pos (fZ s c.name.an) (by omega)) ?_;simp only[am];exact aN rfl (ab.a8 _) ⟨rfl,by rw[sd,aL h5]⟩
 | false =>
  have e:sd s c=cY (!fZ s c.name.an) 3 c.name.pos++cY (fZ s c.name.an&&!lR s c.name.an) 4 c.name.pos:=by rw[sd,h5];rfl
  have hlen:=@ra (!fZ s c.name.an) 3 c.name.pos;simp only[am];refine cl (tu Z b D l s c 3 c.name.pos (!fZ s c.name.an) (by omega)) ?_;cases hv:fZ s c.name.an with
  | true =>
   rw[hv] at hlen e;simp only[am];refine cl (tu Z b D (l++cY (!aa) 3 c.name.pos) s c 4 c.name.pos (!lR s c.name.an) (by rw[bL];omega)) ?_;simp only[am];exact aN rfl (ab.a8 _) ⟨rfl,by rw[e,eY,lh];rfl⟩
  | false =>
   rw[hv] at hlen e;simp only[am];refine cl (tu Z b D (l++cY (!aq) 3 c.name.pos) s c 4 c.name.pos aq (by rw[bL];omega)) ?_;simp only[am];exact aN rfl (ab.a8 _) ⟨rfl,by rw[e,eY,FO];rfl⟩
theorem amX(Z:ab)(b D:Nat)(l:List aM)(s:aH)(c:ar)(hs:s.ok)(hl:l.length<=80000000)(hn:c.ak.length<=100000) :
 eT 104 [.ptr (.out b) 0] (fN Z b D l s c) (.bw []) (fN Z b D (l++lW s c c.ak.length) s c):=by
 refine fq func104 ?_;simp only[aP,am,aT,Nat.reduceAdd,kx];refine cl (Lm c.ak _ (by omega)) ?_;simp only[am,Nat.reduceAdd,aF,aF,kx];have hw:(cc c.ak).length=c.ak.length:=sQ;refine ch (c.ak.length) (λi (x:Unit)=>⟨[.ptr (.out b) 0,.any,.sl .no 1 (cu (cc c.ak)),.any,.any,.any,.any,.any,.any,.any,.any,.any,.any,.any,.any,.any,.any,.any,.sl .no 2 (c.ak.map aC.enc),.int .i64 (c.ak.length:Nat),.int .i64 (i:Nat)]++aj 56 .any,[],fN Z b D (l++lW s c i) s c⟩) (λi x=>(True)) λF hF JF aZ=>⟨?_,?_,?_⟩
 .refine en aZ (()) (trivial) ?_ ?_ ?_
  all_goals simp[hF,aj,am,ba,lW]
 .rintro i x hi -;have hN:=@QF s c i;have hS:=@Zj s c i;have hg:c.ak.getD i ⟨[],0⟩=c.ak[i]:=by grind
  simp only[hF,aj,am,cf hi];refine ix (sO hi) ?_;simp only[am,aC.al,rU];refine cl (XU Z b D (l++lW s c i) s c c.ak[i].an hs) ?_;simp only[am,kx]
  by_cases h3:c.op=3
  .have e:sD s c i=cY (!fZ s c.ak[i].an) 3 c.ak[i].pos++cY (fZ s c.ak[i].an&&!lR s c.ak[i].an) 4 c.ak[i].pos:=by rw[sD];simp only[hg];rw[aL h3]
   have hlen:=@ra (!fZ s c.ak[i].an) 3 c.ak[i].pos;simp only[am,tS,aG h3];refine cl (tu Z b D (l++lW s c i) s c 3 c.ak[i].pos (!fZ s c.ak[i].an) (by rw[bL];omega)) ?_;cases hv:fZ s c.ak[i].an with
   | true =>
    rw[hv] at hlen e;simp only[am,tS];refine cl (tu Z b D (l++lW s c i++cY (!aa) 3 c.ak[i].pos) s c 4 c.ak[i].pos (!lR s c.ak[i].an) (by simp only[bL];omega)) ?_;simp only[am,aK,reduceCtorEq,bt hi];rw[lh] at e;refine c7 (()) hi ?_ ?_ ?_ ?_ ?_ ?_
    .grind
    all_goals simp[hF,aj,am,ba,bE,cn,V.lo,hS,e]
   | false =>
    rw[hv] at hlen e;simp only[am,tS];refine cl (tu Z b D (l++lW s c i++cY (!aq) 3 c.ak[i].pos) s c 4 c.ak[i].pos aq (by simp only[bL];omega)) ?_;simp only[am,aK,reduceCtorEq,bt hi];rw[FO] at e;refine c7 (()) hi ?_ ?_ ?_ ?_ ?_ ?_
    .grind
    all_goals simp[hF,aj,am,ba,bE,cn,V.lo,hS,e]
  .have e:sD s c i=cY ((dL ((cc c.ak).take i) c.ak[i].an).isSome||(dw c.op&&fZ s c.ak[i].an)) 3 c.ak[i].pos:=by rw[sD];simp only[hg];rw[aB h3]
   simp only[am,cK,aD h3];refine abZ (b:=i) (by rw[gk];omega) ?_;rw[abl];simp only[am,rU];refine bn.intro (zg ((cc c.ak).take i) c.ak[i].an _ (by rw[o8];omega)) ?_;simp only[am,QT];cases hf:(dL ((cc c.ak).take i) c.ak[i].an).isSome with
   | true =>
    rw[hf] at e;simp only[am,tS];refine bn.intro (tu Z b D (l++lW s c i) s c 3 c.ak[i].pos aa (by rw[bL];omega)) ?_;simp only[am,aK,tS,bt hi];rw[S0] at e;refine c7 (()) hi ?_ ?_ ?_ ?_ ?_ ?_
    .grind
    all_goals simp[hF,aj,am,ba,bE,cn,V.lo,hS,e]
   | false =>
    rw[hf,yK] at e;simp only[am,kx];refine bn.intro (Ig c.op _) ?_;cases hv:dw c.op with
    | true =>
     rw[hv,lh] at e;simp only[am,tS];refine bn.intro (tu Z b D (l++lW s c i) s c 3 c.ak[i].pos (fZ s c.ak[i].an) (by rw[bL];omega)) ?_;simp only[am,aK,tS,bt hi];refine c7 (()) hi ?_ ?_ ?_ ?_ ?_ ?_
     .grind
     all_goals simp[hF,aj,am,ba,bE,cn,V.lo,hS,e]
    | false =>
     rw[hv,FO] at e;simp only[am,tS];refine bn.intro (tu Z b D (l++lW s c i) s c 3 c.ak[i].pos aq (by rw[bL];omega)) ?_;simp only[am,aK,tS,bt hi];refine c7 (()) hi ?_ ?_ ?_ ?_ ?_ ?_
     .grind
     all_goals simp[hF,aj,am,ba,bE,cn,V.lo,hS,e]
 .rintro x -;simp only[hF,aj,am,aK,ck,aK];exact aN rfl (ab.a8 _) ⟨rfl,rfl⟩
def XV(Z:ab)(b D b1 b2:Nat)(l:List aM)(s:aH)(c:ar)(w:aC)(n1:b1≠b)(n2:b2≠b)(h1:Z.box b1=U [.ptr (.out b) 0])(h2:Z.box b2=U [.sl .no 1 (cu (cc c.ak))])(hl:l.length<=90000000)(hn:c.ak.length<=100000) :
 eT 174 [.agg w.enc,.ptr (.out b1) 0,.ptr (.out b2) 0] (fN Z b D l s c) (.bw []) (fN Z b D (l++mL c w) s c):=by
 have e1:(fN Z b D l s c).box b1=U [.ptr (.out b) 0]:=by rw[zM n1];exact h1
 have e2:(fN Z b D l s c).box b2=U [.sl .no 1 (cu (cc c.ak))]:=by rw[zM n2];exact h2
 refine fq func174 ?_;simp only[aP,am,aT,Nat.reduceAdd,aC.al];simp only[am,rU,e1,e2];refine bn.intro (zg (cc c.ak) w.an _ (by rw[sQ];omega)) ?_;simp only[am,tS,aqR];refine bn.intro (tu Z b D l s c 3 w.pos (dL (cc c.ak) w.an).isNone (by omega)) ?_;simp only[am,tS,e1];exact aN rfl (ab.a8 _) ⟨rfl,rfl⟩
variable{i:Nat}
def arY(hi:i<c.aX.length):(c.aX.take (i+1)).flatMap (qf c)=(c.aX.take i).flatMap (qf c)++(mL c c.aX[i].1++mL c c.aX[i].2):=by rw[iB hi,rX];simp[qf]
theorem am6(Z:ab)(b D:Nat)(l:List aM)(s:aH)(c:ar)(hg:TZ Z)(hl:l.length<=80000000)(hn:c.ak.length<=100000)(hp:c.aX.length<=100000) :
 eT 105 [.ptr (.out b) 0] (fN Z b D l s c) (.bw []) (fN Z b D (l++qg c++kY c) s c):=by
 have fresh:∀{x:Nat} {dx:ab},(fN dx b D l s c).box x=ah->x≠b:=λ{x dx} h=>by rintro rfl;rw[PR] at h;simp at h
 refine fq func105 ?_ ⟨[1,2],[]⟩;simp only[aP,am,aT,Nat.reduceAdd];intro b1 dX;have n1:=fresh dX;rw[zM n1] at dX;simp only[am,Nat.reduceAdd];rw[X0 n1];have e1:(fN (Z.set b1 [.ptr (.out b) 0]) b D l s c).box b1=U [.ptr (.out b) 0]:=by rw[zM n1,j6]
 simp only[am,kx];refine cl (Lm c.ak _ (by omega)) ?_;simp only[am];intro b2 fv;have n2:=fresh fv;rw[zM n2] at fv;have Qz:b1≠b2:=by rintro rfl;rw[j6] at fv;simp at fv
 rw[sL Qz.symm] at fv;simp only[am];rw[X0 n2];have f1:((Z.set b1 [.ptr (.out b) 0]).set b2 [.sl .no 1 (cu (cc c.ak))]).box b1=U [.ptr (.out b) 0]:=by rw[sL Qz,j6]
 have f2:((Z.set b1 [.ptr (.out b) 0]).set b2 [.sl .no 1 (cu (cc c.ak))]).box b2=U [.sl .no 1 (cu (cc c.ak))]:=j6;have sv:∀{L:List aM},(fN Z b D L s c).sub (fN ((Z.set b1 [.ptr (.out b) 0]).set b2 [.sl .no 1 (cu (cc c.ak))]) b D L s c):=λ{L}=>ab.FB (XZ n1 dX) (XZ n2 (by rw[sL Qz.symm];exact fv))
 generalize yd:(Z.set b1 [V.ptr (Pl.out b) 0]).set b2 [V.sl .no 1 (cu (cc c.ak))]=gl at f1 f2 sv;have zt:TZ gl:=by rw[<-yd];exact hg
 have g1:∀{L:List aM},(fN gl b D L s c).box b1=U [.ptr (.out b) 0]:=λ{L}=>by rw[zM n1];exact f1
 have g2:∀{L:List aM},(fN gl b D L s c).box b2=U [.sl .no 1 (cu (cc c.ak))]:=λ{L}=>by rw[zM n2];exact f2
 simp only[am,Nat.reduceAdd,aF,aF,kx,g1];have hP:=λ(i:Nat)=>@K4 c (c.aX.take i)
 refine ch (c.aX.length) (λi (x:Unit)=>⟨[.any,.ptr (.out b1) 0,.ptr (.out b2) 0,.fn (.func 174) [] [.ptr (.out b1) 0,.ptr (.out b2) 0],.any,.any,.any,.any,.any,.any,.any,.any,.any,.any,.any,.any,.any,.sl .no 4 (c.aX.map eJ),.int .i64 (c.aX.length:Nat),.int .i64 (i:Nat)]++aj 37 .any,[],fN gl b D (l++(c.aX.take i).flatMap (qf c)) s c⟩) (λi x=>(True)) λF hF JF aZ=>⟨?_,?_,?_⟩
 .exact en aZ (()) (trivial)
 .rintro i x hi -;have hPi:=hP i;rw[o8] at hPi;have hS:=arY hi;have wJ:(mL c c.aX[i].1).length<=1:=ra;simp only[hF,aj,am,cf hi];refine ix (BG hi) ?_;simp only[am,cK,Nat.reduceAdd,eJ];refine jX ?_;simp only[am,Int.reduceToNat,Nat.reduceMul];refine cl (XV gl b D b1 b2 (l++(c.aX.take i).flatMap (qf c)) s c c.aX[i].1 n1 n2 f1 f2 (by rw[bL];omega) hn) ?_;simp only[am,cK];refine jX ?_;simp only[am,Int.reduceToNat,Nat.reduceMul];refine cl (XV gl b D b1 b2 (l++(c.aX.take i).flatMap (qf c)++mL c c.aX[i].1) s c c.aX[i].2 n1 n2 f1 f2 (by simp only[bL];omega) hn) ?_;simp only[am,aK,bt hi];refine c7 (()) hi ?_ ?_ ?_ ?_ ?_ ?_
  .grind
  all_goals simp[hF,aj,am,ba,bE,cn,V.lo,hS]
 .rintro x -;have WS:=hP c.aX.length;rw[o8] at WS;have hw:((cc c.ak).length:Int)=(c.ak.length:Nat):=by rw[sQ]
  have Xm:(l++qg c).length<=90000000:=by rw[bL,qg];rw[du] at WS;omega
  simp only[hF,aj,am,aK,ck,aK,kx,du,g1];have no:kY c=[]->fN Z b D (l++qg c++kY c) s c=fN Z b D (l++qg c) s c:=λh=>by rw[h,eC]
  by_cases h5:c.op=5
  case neg =>
   simp only[am,aD h5];exact aN rfl sv ⟨rfl,(no (by rw[kY,aB λh=>h5 h.1])).symm⟩
  simp only[am,gk,aG h5,g2,hw]
  by_cases zk:c.ak.length<=64
  case neg =>
   simp only[am,aD (show ¬((c.ak.length:Nat):Int)<=64 by omega)];exact aN rfl sv ⟨rfl,(no (by rw[kY,aB λh=>zk h.2])).symm⟩
  have e:kY c=cY (!lU (qV c)) 5 c.qe:=by rw[kY,aL ⟨h5,zk⟩]
  simp only[am,kx,aG (show((c.ak.length:Nat):Int)<=64 by omega),g1,b9];refine bn.intro (Rr c _ (by omega) (by omega)) ?_;simp only[am,Rl.al];refine bn.intro (Yg (qV c) zt) ?_;simp only[am,Nat.reduceAdd,kx,g1];refine bn.intro (tu gl b D (l++qg c) s c 5 c.qe (!lU (qV c)) (by omega)) ?_;simp only[am,kx,g1];rw[<-e];exact aN rfl sv ⟨rfl,rfl⟩
theorem amV(Z:ab)(b D:Nat)(l:List aM)(s:aH)(c:ar)(hs:s.tF)(hl:l.length<=90000000)(hn:c.ak.length<=100000) :
 eT 106 [.ptr (.out b) 0] (fN Z b D l s c) (.bw []) (fN Z b D (l++mI s c) s c):=by
 have h1:=hs.1.1;have h2:=hs.1.2.1;have w64:IntKind.i64.wrap (64 - (s.vars.length:Int))=64 - (s.vars.length:Nat):=wrap_i64 (by omega) (by omega);refine fq func106 ?_;simp only[aP,am,aT,Nat.reduceAdd,aF,kx];have nR:(c.op=6\/c.op=7)->(decide (c.op=6)=aa)\/(decide (c.op=6)=aq/\decide (c.op=7)=aa):=λh=>by
  grind
 by_cases zm:c.op=6\/c.op=7
 .have e:mI s c=cY (decide ((64:Int) - (s.vars.length:Nat)<(c.ak.length:Nat))) 7 c.pos:=by rw[mI,aL zm]
  rcases nR zm with k | ⟨k,k2⟩
  case' inl=>simp only[am,Nat.reduceAdd,aF,aF,kx,k,w64]
  case' inr=>simp only[am,Nat.reduceAdd,aF,aF,kx,k,k2,w64]
  all_goals
   refine bn.intro (tu Z b D l s c 7 c.pos (decide ((64:Int) - (s.vars.length:Nat)<(c.ak.length:Nat))) (by omega)) ?_;simp only[am];exact aN rfl (ab.a8 _) ⟨rfl,by rw[e]⟩
 have e0:mI s c=cY (decide ((if c.op=3 then(8:Int) else if c.op=4 then 8 else 64)<((if c.op=3 then(n5 s c).bI.length else c.ak.length):Nat))||decide (16<=s.bc.length)) 7 c.pos:=by rw[mI,aB zm]
 have M7:decide ((16:Int)<=(s.bc.length:Nat))=decide (16<=s.bc.length):=xM.2 (by omega);simp only[am,aD (λh=>zm (.inl h)),aD (λh=>zm (.inr h))];have fin:∀(n:Nat) (m:Int),mI s c=cY (decide (m<(n:Nat))||decide (16<=s.bc.length)) 7 c.pos->∀B:Bool,B=(decide (m<(n:Nat))||decide (16<=s.bc.length)) ->
  eT 172 [.ptr (.out b) 0,.bool B,.int .i64 7,.int .i64 c.pos] (fN Z b D l s c) (.bw []) (fN Z b D (l++mI s c) s c):=λn m e B hB=>by
  rw[e,hB];exact tu Z b D l s c 7 c.pos _ (by omega)
 by_cases h4:c.op=4
 .have e:mI s c=cY (decide ((8:Int)<(c.ak.length:Nat))||decide (16<=s.bc.length)) 7 c.pos:=by simp_all
  simp only[am,aG h4];cases hb:decide ((8:Int)<(c.ak.length:Nat)) with
  | true =>
   simp only[am,Nat.reduceAdd,kx];refine bn.intro (fin _ _ e aa (by rw[hb];rfl)) ?_;simp only[am];exact aN rfl (ab.a8 _) ⟨rfl,rfl⟩
  | false =>
   simp only[am,Nat.reduceAdd,aF,aF,kx,M7];refine bn.intro (fin _ _ e (decide (16<=s.bc.length)) (by rw[hb];rfl)) ?_;simp only[am];exact aN rfl (ab.a8 _) ⟨rfl,rfl⟩
 simp only[am,aD h4]
 by_cases h3:c.op=3
 .have e:mI s c=cY (decide ((8:Int)<((n5 s c).bI.length:Nat))||decide (16<=s.bc.length)) 7 c.pos:=by simp_all
  simp only[am,aH.al,kx,aG h3,b9];refine bn.intro (Z' s c _ hs hn) ?_;simp only[am,aF,bA.al,aF];cases hb:decide ((8:Int)<((n5 s c).bI.length:Nat)) with
  | true =>
   simp only[am,Nat.reduceAdd,kx];refine bn.intro (fin _ _ e aa (by rw[hb];rfl)) ?_;simp only[am];exact aN rfl (ab.a8 _) ⟨rfl,rfl⟩
  | false =>
   simp only[am,Nat.reduceAdd,aF,aF,kx,M7];refine bn.intro (fin _ _ e (decide (16<=s.bc.length)) (by rw[hb];rfl)) ?_;simp only[am];exact aN rfl (ab.a8 _) ⟨rfl,rfl⟩
 .have e:mI s c=cY (decide ((64:Int)<(c.ak.length:Nat))||decide (16<=s.bc.length)) 7 c.pos:=by simp_all
  simp only[am,aD h3];cases hb:decide ((64:Int)<(c.ak.length:Nat)) with
  | true =>
   simp only[am,Nat.reduceAdd,kx];refine bn.intro (fin _ _ e aa (by rw[hb];rfl)) ?_;simp only[am];exact aN rfl (ab.a8 _) ⟨rfl,rfl⟩
  | false =>
   simp only[am,Nat.reduceAdd,aF,aF,kx,M7];refine bn.intro (fin _ _ e (decide (16<=s.bc.length)) (by rw[hb];rfl)) ?_;simp only[am];exact aN rfl (ab.a8 _) ⟨rfl,rfl⟩
def abD(s:aH)(c:ar)(hs:s.tF)(hg:TZ Z)(hn:c.ak.length<=100000)(hp:c.aX.length<=100000):
 aR 54 [.agg s.enc,.agg c.enc] Z (.agg (iw s c).enc):=by
 refine fq func54 ?_ ⟨[20],[4]⟩;simp only[aP,am,aT,Nat.reduceAdd,aH.al];simp only[am,b9,b7];refine cl (P5 c.op _) ?_;have nR:(gG c.op=aa)\/(gG c.op=aq/\dw c.op=aq)\/(gG c.op=aq/\dw c.op=aa):=by cases gG c.op<;>cases dw c.op<;>simp
 rcases nR with h5 | ⟨h5,h6⟩ | ⟨h5,h6⟩
 case' inl=>simp only[am,aH.al,h5,b9,X2]
 case' inr.inl =>
  simp only[am,h5,b7];refine cl (Ig c.op _) ?_;simp only[am,Nat.reduceAdd,h6];exact aN rfl (ab.a8 _) ⟨by rw[iw,h5,h6];rfl,rfl⟩
 case' inr.inr =>
  simp only[am,h5,b7];refine cl (Ig c.op _) ?_;simp only[am,aH.al,h6,b9,X2]
 all_goals
  have e:fH (xe s c)=iw s c:=by rw[iw,h5];first | rfl | rw[h6];rfl
  intro b hb;have hb:Z.box b=none:=hb;simp only[am];refine a7.tok 0 λD aW=>⟨_,_,(Z.set b _).set b (lS D [] s c),fG.rfl,rfl,λi c' hc=>⟨c',hc,fG.rfl⟩,rY.set j6 (by simp[jz,lS,ji]),?_⟩
  have aW:Z.aS D=none:=aW;rw[ab.set_set,show(Z.set b (lS D [] s c)).aU D 0=fN Z b D [] s c from rfl];have l1:=@alI s c;have l2:=@QF s c c.ak.length;have l3:=@K4 c c.aX;have l4:=@Zz c;have l5:=@an1 s c;simp only[am];refine cl (amU Z b D [] s c hs.1 (by simp)) ?_;simp only[am,gK];refine cl (amX Z b D (sd s c) s c hs.1 (by omega) hn) ?_;simp only[am];refine cl (am6 Z b D (sd s c++lW s c c.ak.length) s c hg (by rw[bL];omega) hn hp) ?_;simp only[am];refine cl (amV Z b D (sd s c++lW s c c.ak.length++qg c++kY c) s c hs (by simp only[bL,qg];omega) hn) ?_;simp only[am,kx];refine cl (cy.df (as' := [.sl .no 2 ((xe s c).map aM.enc)]) (Bv (xe s c) _ (by simp only[xe,bL,qg];omega)) ⟨dv.no,trivial⟩ bp.rfl) ?_;simp only[am,aM.al];exact aN rfl (am8 hb aW) ⟨by rw[e];rfl,rfl⟩
def aj':fm prog 74 (sq [rg 0 [ox 2 2 0,ox 3 17 1,oZ 4 [2,72]],rg 6 [fo 4 3,oC 138 [7],oY uh [(1,1,.s 8)],oR 5 uh,o2 67 5],sq [rg 10 [fo 0 3],.block 0 (sq [rg 14 [oB .eql 11 1,o1 13],cd 13 (rg 15 [of 0 5,od ah (.store 1 (.s 15) (.c (.int .i64 1)))]) (sq [rg 17 [oB .eql 11 2,o1 16],cd 16 (rg 18 [of 0 5,od ah (.store 1 (.s 18) (.c (.int .i64 2)))]) (sq [rg 20 [oB .eql 11 4,o1 19],cd 19 (rg 21 [ol 17 3,oC 139 [21],of 0 5,od ah (.store 1 (.s 23) (.c (.int .i64 3))),of 2 5,os 65 24 22]) (sq [rg 26 [oB .eql 11 5,o1 25],cd 25 (rg 27 [ol 17 3,oC 139 [27],of 0 5,od ah (.store 1 (.s 29) (.c (.int .i64 4))),of 2 5,os 65 30 28]) (sq [rg 32 [oB .eql 11 3,o1 31],cd 31 (sq [rg 33 [ol 2 2,ol 17 3,oC 140 [33,34],o2 2 4],.ret]) (sq [rg 12 [oW [2,72] [],o2 2 4],.ret])])])])])])],rg 36 [ol 67 5,oC 141 [36],o2 2 4],.ret]) [.cell 4 aa 2] 38:=fU func74
def KP(f:bh)(Z:ab)(hf:f.ak.length<=100000):aR 141 [.agg f.enc] Z (.agg (bA.mk aq [f]).enc):=by
 refine fq func141 ?_;simp only[aP,am,aT,Nat.reduceAdd,bh.al];refine cl (UD f _ hf) ?_;simp only[am,Nat.reduceAdd,bh.al];exact aN rfl (ab.a8 _) ⟨rfl,rfl⟩
def auF(s:aH)(c:ar)(Z:ab)(hs:s.tF)(hn:c.ak.length<=100000)(hp:c.aX.length<=100000):aR 74 [.agg s.enc,.agg c.enc] Z (.agg (lB s c).enc):=by
 have hw:∀(k:Int) (r:Rl),(⟨k,cc c.ak,r⟩:bh).ak.length<=100000:=λk r=>by simp only[sQ];exact hn
 refine aj'.fK ?_;simp only[aP,am,aT,Nat.reduceAdd,aH.al,b9,bG];refine cl (Lm c.ak Z hn) ?_;simp only[am,Nat.reduceAdd,bh.al,b7,vn]
 by_cases h1:c.op=1
 .simp only[am,bh.al,aG h1,vn];refine cl (KP _ Z (hw _ _)) ?_;simp only[am,bA.al];exact aN rfl (ab.a8 _) ⟨by rw[lB,aL h1];rfl,rfl⟩
 by_cases h2:c.op=2
 .simp only[am,bh.al,aD h1,aG h2,vn];refine cl (KP _ Z (hw _ _)) ?_;simp only[am,bA.al];exact aN rfl (ab.a8 _) ⟨by rw[lB,aB h1,aL h2];rfl,rfl⟩
 by_cases h4:c.op=4
 .simp only[am,b9,aD h1,aD h2,aG h4];refine cl (Rr c Z hn hp) ?_;simp only[am,Rl.al,bh.al,vn];refine cl (KP _ Z (hw _ _)) ?_;simp only[am,bA.al];exact aN rfl (ab.a8 _) ⟨by rw[lB,aB h1,aB h2,aL h4];rfl,rfl⟩
 by_cases h5:c.op=5
 .simp only[am,b9,aD h1,aD h2,aD h4,aG h5];refine cl (Rr c Z hn hp) ?_;simp only[am,Rl.al,bh.al,vn];refine cl (KP _ Z (hw _ _)) ?_;simp only[am,bA.al];exact aN rfl (ab.a8 _) ⟨by rw[lB,aB h1,aB h2,aB h4,aL h5];rfl,rfl⟩
 by_cases h3:c.op=3
 .simp only[am,aH.al,b9,aD h1,aD h2,aD h4,aD h5,aG h3];refine cl (Z' s c Z hs hn) ?_;simp only[am,bA.al];exact aN rfl (ab.a8 _) ⟨by rw[lB,aB h1,aB h2,aB h4,aB h5,aL h3];rfl,rfl⟩
 .simp only[am,Nat.reduceAdd,aD h1,aD h2,aD h4,aD h5,aD h3];exact aN rfl (ab.a8 _) ⟨by rw[lB,aB h1,aB h2,aB h4,aB h5,aB h3];rfl,rfl⟩
def aum(s:bA)(Z:ab)(hs:s.ok):aR 137 [.agg s.enc] Z (.agg s.enc):=by
 refine fq func137 ?_;simp only[aP,am,aT,Nat.reduceAdd,bA.al];refine cl (cy.df (as' := [.sl .no 2 ([s].map bA.enc)]) (aaa [s] Z (by simp) (λx hx=>by simp at hx;subst hx;exact hs) (by have:=hs.1;simp;omega)) ⟨dv.no,trivial⟩ bp.rfl) ?_;simp only[am,Nat.reduceAdd,bA.al];refine aN rfl (ab.a8 _) ⟨?_,rfl⟩;simp only[Fj,o7,L_,eC];rfl
def vT(l:List eh):List (List V):=l.map eh.enc
def uS(l:List dR):List (List V):=l.map dR.enc
def Qs{l:List eh}:(vT l).length=l.length:=by simp[vT]
def acw{l:List dR}:(uS l).length=l.length:=by simp[uS]
def aoG{l:List eh}{x:eh}:vT (l++[x])=vT l++[x.enc]:=by simp[vT]
def acv{l:List dR}{x:dR}:uS (l++[x])=uS l++[x.enc]:=by simp[uS]
def aoI{l:List eh}(h:j<l.length):(l.map eh.enc)[((j:Nat):Int).toNat]?=U l[j].enc:=by simp[h]
def clO(s:aH)(Z:ab)(v:V)(σ' : ab):Prop:=∃D O,D≠O/\Z.aS D=ah/\Z.aS O=ah/\v = .agg [.sl (.tk D) 3 (vT s.bc),.sl (.tk O) 3 (uS s.vars)]/\σ' = (Z.aU D s.bc.length).aU O s.vars.length
theorem aul(s:aH)(Z:ab)(hs:s.ok):cy prog 72 [.agg s.enc] Z (clO s Z):=by
 obtain⟨h1,h2,h3⟩:=hs;refine fq func72 ?_;simp only[aP,am,aT,Nat.reduceAdd,aH.al,aF];obtain⟨Q,hQ⟩:∃Q:Nat->List eh,∀i,Q i=s.bc.take i:=⟨_,λ_=>rfl⟩;have mC:Q 0=[]:=by grind
 have nw:Q s.bc.length=s.bc:=by grind
 refine ch (s.bc.length) (λi (D:Nat)=>⟨[.any,.ptr (.au 0) 0,.ptr (.au 1) 0,.ptr (.au 2) 0,.any,.any,.any,.sl .no 3 (s.bc.map eh.enc),.int .i64 (s.bc.length:Nat),.int .i64 (i:Nat)]++aj 22 .any,[s.enc,[.sl .aY 3 [],.sl .aY 3 []],[.sl (.tk D) 3 (vT (Q i)),.sl .aY 3 []]],Z.aU D (Q i).length⟩) (λi D=>(Z.aS D=ah)) λF hF JF aZ=>⟨?_,?_,?_⟩
 .refine Cp 0 λD aW=>⟨D,fF (aZ _ _) aW,?_,?_,?_⟩
  all_goals simp[hF,aj,ji,De,mC,vT]
 .rintro i D hi aW;have kt:Q (i+1)=Q i++[s.bc[i]]:=by simp_all
  have sb:(Q i).length+1<=100001:=by grind
  have hlen:(vT (Q i)).length=(Q i).length:=Qs;have Cv:(Q (i+1)).length=(Q i).length+1:=by grind
  simp only[hF,aj,am,cf hi];refine ix (aoI hi) ?_;simp only[am,Nat.reduceAdd,aH.al,bA.al,eh.Q_,eh.Ra,eh.HP,eh.Rb];refine bn.intro (aum s.bc[i].shape (Z.aU D (Q i).length) (h3 _ (dQ hi))) ?_;simp only[am,Nat.reduceAdd,bA.al];refine qz (by rw[hlen];simp[aJ];omega) (by rw[hlen];exact dD) ?_;rw[hlen];simp only[am,aK,aH.al,dU,bt hi,eZ];rw[show V.aQ s.bc[i].name::s.bc[i].shape.enc=s.bc[i].enc from rfl,<-aoG,<-kt,<-Cv];refine c7 (D) hi ?_ ?_ ?_ ?_ ?_ ?_
  .grind
  all_goals simp[hF,aj,am,ba,bE,cn,V.lo,aH.bR]
 .rintro D aW;simp only[hF,aj,am,aK,ck,aK,aH.al,nw];refine y6 (by simp[aJ];omega) λO j_=>?_
  simp only[am,Nat.reduceAdd,aF,aF];have bf:D≠O:=λe=>by rw[<-e,dD] at j_;simp at j_
  exact aaA rfl (ab.a8 _) ⟨D,O,bf,aW,by rw[n_ bf.symm] at j_;exact j_,by simp[vT,uS],by simp⟩
variable{D:Nat}
def acb{O a d:Nat}(h1:Z.aS D=ah)(h2:Z.aS O=ah):Z.sub (((Z.aU D a).aU O b).aU D d):=by
 refine⟨λ_ _ h=>h,λt n h=>?_,λ_ _ h=>h⟩;have e1:t≠O:=λe=>by rw[e,h2] at h;simp at h
 have e2:t≠D:=λe=>by rw[e,h1] at h;simp at h
 rw[n_ e2,n_ e1,n_ e2];exact h
def agr{op:Int}(h:gG op=aa):op=1\/op=2\/op=3\/op=4\/op=5:=by simp only[gG,bO,cU] at h;omega
def H9{O a:Nat}(h1:Z.aS D=ah)(h2:Z.aS O=ah):Z.sub ((Z.aU D a).aU O b):=by
 refine⟨λ_ _ h=>h,λt n h=>?_,λ_ _ h=>h⟩;have e1:t≠O:=λe=>by rw[e,h2] at h;simp at h
 have e2:t≠D:=λe=>by rw[e,h1] at h;simp at h
 rw[n_ e1,n_ e2];exact h
theorem TE(s:aH)(c:ar)(hs:s.tF)(hg:TZ Z)(hn:c.ak.length<=100000)(hp:c.aX.length<=100000):
 aR 42 [.agg s.enc,.agg c.enc] Z (.agg (kJ s c).enc):=by
 have hl:=hs.1.1;have hv:=hs.1.2.1;refine fq func42 ?_;simp only[aP,am,aT,Nat.reduceAdd,aH.al,b9];refine(aul s Z hs.1).mono ?_;rintro v gl ⟨D,O,bf,aW,j_,rfl,rfl⟩;have t1:((Z.aU D s.bc.length).aU O s.vars.length).aS D=U s.bc.length:=by rw[n_ bf,dD]
 simp only[am,Nat.reduceAdd,aH.al,b9];refine cl (abD s c (Z:=(Z.aU D s.bc.length).aU O s.vars.length) hs hg hn hp) ?_
 by_cases hf:(iw s c).cls=0
 case neg =>
  simp only[am,Nat.reduceAdd,cX,aM.al,hf];exact aN rfl (H9 aW j_) ⟨by rw[kJ,aL hf];rfl,rfl⟩
 simp only[am,bu,aM.al,b7,hf];refine cl (P5 c.op _) ?_;cases h5:gG c.op with
 | true =>
  simp only[am,aH.al,b9,bG];refine bn.intro (auF s c ((Z.aU D s.bc.length).aU O s.vars.length) hs hn hp) ?_;simp only[am,Nat.reduceAdd,bA.al];refine qz (by rw[Qs];simp[aJ];omega) (by rw[Qs];exact t1) ?_;simp only[am,b7,bG];have uB:dw c.op=false:=by rcases agr h5 with e | e | e | e | e<;>simp[dw,e]
  refine cl (Ig c.op _) ?_;simp only[am,Nat.reduceAdd,uB];refine aN rfl ?_ ⟨?_,rfl⟩
  .exact acb aW j_
  .rw[kJ,aB (by simp[hf]),aL h5];simp[V.erase,a9,aH.enc,vT,uS,eh.enc]
 | false =>
  simp only[am,b7];refine cl (Ig c.op _) ?_;cases h2:dw c.op with
  | false =>
   simp only[am,Nat.reduceAdd];exact aN rfl (H9 aW j_) ⟨by rw[kJ,aB (by simp[hf]),aB (by simp[h5]),aB (by simp[h2])];rfl,rfl⟩
  | true =>
   simp only[am,b7];obtain⟨w,hw⟩:∃w:aC->dR,∀x,w x=⟨x.an,if c.op=7 then 2 else 1,bW (fD s.bc c.name.an)⟩:=⟨_,λ_=>rfl⟩;obtain⟨Q,hQ⟩:∃Q:Nat->List dR,∀i,Q i=s.vars++(c.ak.take i).map w:=⟨_,λ_=>rfl⟩;have mC:Q 0=s.vars:=by grind
   have nw:(⟨s.bc,Q c.ak.length⟩:aH)=kJ s c:=by
    rw[kJ,aB (by simp[hf]),aB (by simp[h5]),aL h2,hQ,du]
    simp_all
   by_cases h7:c.op=7
   case' pos=>simp only[am,aH.al,bG,aG h7]
   case' neg=>simp only[am,aH.al,bG,aD h7]
   all_goals
    refine cl (yu s c.name.an _ hs.1.1 hs.1.2.1) ?_;simp only[am,aF,aF,bG];refine ch (c.ak.length) (λi (x:Unit)=>⟨[.any,.any,.ptr (.au 0) 0,.ptr (.au 1) 0,.ptr (.au 2) 0,.ptr (.au 3) 0,.int .i64 (if c.op=7 then 2 else 1),.int .i64 (bW (fD s.bc c.name.an)),.any,.any,.any,.any,.any,.any,.any,.any,.any,.any,.any,.any,.any,.any,.any,.any,.any,.any,.any,.any,.any,.any,.any,.any,.any,.any,.any,.any,.any,.any,.any,.any,.any,.any,.any,.any,.any,.any,.any,.any,.any,.sl .no 2 (c.ak.map aC.enc),.int .i64 (c.ak.length:Nat),.int .i64 (i:Nat)]++aj 15 .any,[s.enc,c.enc,[.sl .aY 3 [],.sl .aY 3 []],[.sl (.tk D) 3 (vT s.bc),.sl (.tk O) 3 (uS (Q i))]],(Z.aU D s.bc.length).aU O (Q i).length⟩) (λi x=>(True)) λF hF JF aZ=>⟨?_,?_,?_⟩
    .refine en aZ (()) (trivial) ?_ ?_ ?_
     all_goals simp[hF,aj,am,ba,h7,mC]
    .rintro i x hi -;have kt:Q (i+1)=Q i++[w c.ak[i]]:=by rw[hQ,hQ,iB hi,gm,eY];rfl
     have sb:(Q i).length+1<=300000:=by grind
     have hlen:(uS (Q i)).length=(Q i).length:=acw;have Cv:(Q (i+1)).length=(Q i).length+1:=by grind
     simp only[hF,aj,am,cf hi];refine ix (sO hi) ?_;simp only[am,Nat.reduceAdd,aC.al,rU];refine fg (by rw[hlen];simp[aJ];omega) (by rw[hlen];exact dD) ?_;rw[hlen];simp only[am,aK,dU,bt hi,eZ];rw[show [V.aQ c.ak[i].an,V.int .i64 (if c.op=7 then 2 else 1),V.int .i64 (bW (fD s.bc c.name.an))]=(w c.ak[i]).enc by rw[hw];rfl,<-acv,<-kt,<-Cv];refine c7 (()) hi ?_ ?_ ?_ ?_ ?_ ?_
     .exact fF (aZ _ _) (trivial)
     all_goals simp[hF,aj,am,ba,bE,cn,V.lo,aH.bR,ar.enc,ar.cJ]
    .rintro x -;simp only[hF,aj,am,aK,ck,Nat.reduceAdd,aK];refine aN rfl (H9 aW j_) ⟨?_,rfl⟩;rw[<-nw];rfl
def ajS:fm prog 24 (sq [rg 0 [oZ 2 [8,8,23]],rg 0 [oZ 3 [8,8,23]],sq [rg 6 [om 0,oq (.wz aq (.s 6) (.c .kX))],cr 7 8 [ol 3 3,o2 3 2]],rg 9 [mk 0,nf 0,nf 0,nl 2,oW [0,0,1,0,7,9,0,0,0,1,7,10,0,0,1,7,10] [],oC 42 [13,14],of 0 3,os 2 16 15],sq [rg 17 [mk 0,nf 0,nF 2,nL,oi 0],lp 22 0 (sq [rg 25 [oA 18 21 23,nl 18,oR 5 g_,o2 18 5],dg 27 [of 2 3,mM [1],no,ol 18 5,oC 43 [29],n1 18,na 18 28,of 2 3,os 1 33 32]]) 34],rg 35 [ol 3 3,o2 3 2],.ret]) [.cell 2 aa 3] 36:=fU func24
def aj4:fm prog 43 (sq [rg 0 [ox 1 18 0,oR 2 g_],rg 3 [oq (.pd 10 []),fo 2 1,na 10 3,of 2 1,os 1 7 6],rg 8 [oq (.pd 10 []),of 12 1,nF 0,na 10 8,of 12 1,nf 0,os 1 14 12],rg 15 [oq (.pd 10 []),of 14 1,nF 0,na 10 15,of 14 1,nf 0,os 1 21 19],rg 22 [ol 18 1,o2 18 2],.ret]) [.cell 2 aa 18] 23:=fU func43
def U8(x:dJ)(Z:ab)(h:AF x):aR 43 [.agg x.enc] Z (.agg x.enc):=by
 obtain⟨h1,h2,h3⟩:=h;refine aj4.fK ?_;simp only[aP,am,aT,Nat.reduceAdd,lK];refine xD (by simp[aJ];omega) ?_;simp only[am,lK,gK];refine xD (by simp[aJ];omega) ?_;simp only[am,lK,gK];refine xD (by simp[aJ];omega) ?_;simp only[am,lK,gK];exact aN (v:=.agg x.enc) dJ.dT (ab.a8 _) ⟨by simp only[V.erase,dJ.dW],rfl⟩
variable{k:Tk}{s:gw}
def R_(h:Z.box b=U (nU k s))(hn:s.eg.length<=100000):aR 15 [.ptr (.out b) 0] Z (.agg (mQ s).enc):=by
 rw[nU] at h;refine fq func15 ?_;simp only[aP,am,aT,Nat.reduceAdd,IP];simp only[am,Nat.reduceAdd,aF,aF,h,wrap_i64 (x:=((s.eg.length:Nat):Int)+1) (by omega) (by omega)];exact aN rfl (ab.a8 _) ⟨rfl,rfl⟩
def YH(h:Z.box b=U (nU k s))(hn:s.live.lines.length<=100000):aR 21 [.ptr (.out b) 0] Z (.sl .no 1 (cu s.live.lines)):=by
 rw[nU] at h;refine fq func21 ?_;simp only[aP,am,aT,Nat.reduceAdd,IP];simp only[am,h];refine xD (by simp[gk,aJ];omega) ?_;simp only[am,gK];exact aN rfl (ab.a8 _) ⟨rfl,rfl⟩
def Dc(h:j<l.length):(cu l)[((j:Nat):Int).toNat]?=U [.aQ l[j]]:=by simp[cu,h]
theorem ail:fS [10]=[[.int .u8 10]]:=rfl
def avg{u:V}(hu:u.cS=aa)(hl:mu l<=1000000)(hc:aR 21 [u] Z (.sl .no 1 (cu l))):aR 11 [u] Z (.aQ (qp l)):=by
 have CP:=@Di l;refine fq func11 ?_;simp only[aP,am,aT,Nat.reduceAdd];refine⟨hu,cl hc ?_⟩;simp only[am,gk];refine ch (l.length) (λi (D:Nat)=>⟨[.any,.any,.any,.sl (.tk D) 1 (fS (qp (l.take i))),.any,.any,.any,.sl .no 1 (cu l),.int .i64 (l.length:Nat),.int .i64 (i:Nat)]++aj 12 .any,[],Z.aU D (qp (l.take i)).length⟩) (λi D=>(Z.aS D=ah)) λF hF JF aZ=>⟨?_,?_,?_⟩
 .refine xP 0 λD aW=>⟨D,fF (aZ _ _) aW,?_,?_,?_⟩
  all_goals simp[hF,aj,ji,qp,fS]
 .rintro i D hi aW;have hn:=@YV l (i+1);rw[<-Ib,Lq hi] at hn;simp only[bL,eZ] at hn;simp only[hF,aj,am,cf hi];refine ix (Dc hi) ?_;simp only[am,cK];refine⟨_,rfl,?_⟩;refine fg (by rw[ko,ko];simp[aJ];omega) (by rw[ko,dD]) ?_;simp only[am,dU];rw[<-ail,<-Gj,ko,ko,<-bL];refine fg (by rw[ko,ko];simp[aJ];omega) (by rw[ko,dD]) ?_;simp only[am,aK,dU,bt hi];rw[<-Gj,ko,ko,<-bL,<-Lq hi];exact nx aZ (D) hi (aW)
 .rintro D aW;simp only[hF,aj,am,cK,aK,ck,aK,du];refine⟨_,_,rfl,?_⟩;refine aN rfl (gV aW) ⟨?_,rfl⟩;rfl
def Mx{l:List dJ}(h:j<l.length):(l.map dJ.enc)[((j:Nat):Int).toNat]?=U l[j].enc:=by simp[h]
def ub(l:List dJ):List (List V):=l.map dJ.enc
def TW{l:List dJ}:(ub l).length=l.length:=by simp[ub]
def TV{l:List dJ}{x:dJ}:ub (l++[x])=ub l++[x.enc]:=by simp[ub]
def arS(l:Lv):V:=.agg [.sl .no 3 (l.fP.bc.map eh.enc),.sl .no 3 (l.fP.vars.map dR.enc),.sl .no 18 (l.fh.map dJ.enc)]
theorem RU{s:aH}{a b c:V}:over [a,b,c] s.enc=[.sl .no 3 (s.bc.map eh.enc),.sl .no 3 (s.vars.map dR.enc),c]:=rfl
theorem adH{s:aH}:kJ s .zero=s:=by rfl
theorem arT(h:Z.box b=U (nU k s))(hg:TZ Z)(ho:s.live.ok):aR 24 [.ptr (.out b) 0] Z (arS s.live):=by
 obtain⟨l,fr⟩:=s;have hm:=ho.m;have ha:=ho.a;simp only at hm ha;rw[nU] at h;have ca:=TE l.fP .zero (Z:=Z) ho.s hg (by simp[ar.zero]) (by simp[ar.zero]);rw[adH] at ca;refine ajS.fK ?_;simp only[aP,am,aT,Nat.reduceAdd,IP];simp only[am,h];refine cl (cy.df (as' := [.agg l.fP.enc,.agg ar.zero.enc]) ca ⟨dv.rfl,dv.erase,trivial⟩ bp.rfl) ?_;simp only[am,aF,aH.al,aF,h,RU];obtain⟨Q,hQ⟩:∃Q:Nat->List dJ,∀i,Q i=l.fh.take i:=⟨_,λ_=>rfl⟩;have mC:Q 0=[]:=by grind
 have nw:Q l.fh.length=l.fh:=by grind
 refine ch (l.fh.length) (λi (D:Nat)=>⟨[.ptr (.out b) 0,.any,.ptr (.au 0) 0,.ptr (.au 1) 0,.any,.any,.any,.any,.any,.any,.any,.any,.any,.any,.any,.any,.any,.any,.any,.any,.any,.sl .no 18 (l.fh.map dJ.enc),.int .i64 (l.fh.length:Nat),.int .i64 (i:Nat)]++aj 12 .any,[[.sl .aY 3 [],.sl .aY 3 [],.sl .aY 18 []],[.sl .no 3 (l.fP.bc.map eh.enc),.sl .no 3 (l.fP.vars.map dR.enc),.sl (.tk D) 18 (ub (Q i))]],Z.aU D (Q i).length⟩) (λi D=>(Z.aS D=ah)) λF hF JF aZ=>⟨?_,?_,?_⟩
 .refine Cp 0 λD aW=>⟨D,fF (aZ _ _) aW,?_,?_,?_⟩
  all_goals simp[hF,aj,ji,De,mC,ub]
 .rintro i D hi aW;have kt:Q (i+1)=Q i++[l.fh[i]]:=by simp_all
  have sb:(Q i).length+1<=100001:=by grind
  have hlen:(ub (Q i)).length=(Q i).length:=TW;have Cv:(Q (i+1)).length=(Q i).length+1:=by grind
  simp only[hF,aj,am,cf hi];refine ix (Mx hi) ?_;simp only[am,Nat.reduceAdd,lK];refine bn.intro (U8 l.fh[i] (Z.aU D (Q i).length) (ha _ (dQ hi))) ?_;simp only[am,lK];refine qz (by rw[hlen];simp[aJ];omega) (by rw[hlen];exact dD) ?_;rw[hlen];simp only[am,aK,dU,bt hi,eZ];rw[<-TV,<-kt,<-Cv];refine c7 (D) hi ?_ ?_ ?_ ?_ ?_ ?_
  .grind
  all_goals simp[hF,aj,am,ba,bE,cn,V.lo]
 .rintro D aW;simp only[hF,aj,am,aK,ck,Nat.reduceAdd,aK,nw];exact aN rfl (gV aW) ⟨rfl,rfl⟩
def ajX:fm prog 29 (sq [rg 0 [ox 3 2 0,ox 4 3 1,oZ 6 [0,0,1,0,7,9,0,0,0,1,7,10,0,0,1,7,10],oR 7 g_,oZ 8 [0,0]],rg 15 [om 2,oC 53 [15],o1 14,oe 14 0,oe 14 1,oZ 9 [0,0,1,0,7,9,0,0,0,1,7,10,0,0,1,7,10],oZ 10 [0,0],os 17 9 17,o2 2 10],sq [rg 19 [fo 0 10,nB .neq 0],ci 21 (sq [dg 22 [oW [0,0,1,0,7,9,0,0,0,1,7,10,0,0,1,7,10] [],oY g_ [],mM [1,2],ol 2 10,os 17 6 22,os 18 7 23,o2 2 8],.ret])],dg 25 [ol 2 3,ol 17 9,oC 54 [25,26],mM [0],ol 2 3,mM [0],ol 17 9,oC 55 [28,29],oq (.pd 2 [(.s 27),(.s 30)]),o1 11],sq [rg 32 [ol 3 4,ol 17 9,oC 56 [32,33]],ci 34 (rg 35 [om 11,fo 1 9,oG [0,0] [(0,1,.c (.int .i64 7)),(1,1,.s 37)],n1 2,na 2 35,o1 11])],sq [rg 41 [fo 0 9,nB .eql 12,gA,fo 2 4,nB .leq 1,gZ],ci 48 (rg 49 [om 11,fo 1 9,oG [0,0] [(0,1,.c (.int .i64 8)),(1,1,.s 51)],n1 2,na 2 49,o1 11])],sq [rg 55 [om 11,oC 57 [55],o2 2 10],rg 57 [fo 0 10,nB .neq 0],ci 59 (sq [dg 60 [oW [0,0,1,0,7,9,0,0,0,1,7,10,0,0,1,7,10] [],oY g_ [],mM [1,2],ol 2 10,os 17 6 60,os 18 7 61,o2 2 8],.ret])],rg 64 [ol 2 3,ol 17 9,oC 58 [64,65],o1 63,oe 63 0,oe 63 1,oR 12 g_,os 18 12 67,o1 13],dg 69 [ol 17 9,mM [1],ol 18 12,oW [0,0] [],os 17 6 69,os 18 7 70,o2 2 8],.ret]) [.cell 6 aa 17,.cell 7 aa 18,.cell 8 aa 2] 72:=fU func29
def ab_(op:Int)(Z:ab):aR 25 [.int .i64 op] Z (.bool (lE op)):=by
 refine fq func25 ?_;simp only[aP,am,aT,Nat.reduceAdd]
 by_cases h:1<=op
 .simp only[am,aG h];refine aI ?_;simp[V.erase,lE,h]
 .simp only[am,aD h];refine aI ?_;simp[V.erase,lE,h]
def TX(op:Int)(Z:ab):aR 112 [.int .i64 op] Z (.bool (vf op)):=by
 refine fq func112 ?_;simp only[aP,am,aT,Nat.reduceAdd]
 by_cases h:8<=op
 .simp only[am,aG h];refine aI ?_;simp[V.erase,vf,h]
 .simp only[am,aD h];refine aI ?_;simp[V.erase,vf,h]
def LS:=ag @am <| ag @jo <| ag @cK <| ag @eE <| ag @bu <| ag @cX <| ag @aK <| ag @Rl.al <| ag @bh.al <| ag @aH.al <| ag @bA.al <| ag @aC.al <| ag @iM <| ag @rh @yS
def an4(r:Rm)(c:ar)(lv:Z.cI 0=U iO)(hw:16*c.wt+64<=aJ):aR 56 [.agg r.enc,.agg c.enc] Z (.bool (jw r c)):=by
 have tail:∀B:Bool,(lE c.op&&(decide (1024<((dq c).length:Int))||decide (IntKind.i64.wrap (16383 - (dq c).length)<r.bytes)))=aq->B=((vf c.op&&decide (64<=r.fh))||(decide (c.op=11)&&decide (16<=r.eg)))->B=jw r c:=λB h e=>by
  rw[e,jw,h,yK]
 refine fq func56 ?_;simp only[aP,am,aT,Nat.reduceAdd,Rm.al,b9,b7];refine cl (ab_ c.op Z) ?_;cases hs:lE c.op with
 | true =>
  rw[hs,lh] at tail;simp only[am,b9];refine cl (U9 c lv hw) ?_;simp only[am];have yes:(decide (1024<((dq c).length:Int))||decide (IntKind.i64.wrap (16383 - (dq c).length)<r.bytes))=aa->jw r c=true:=λh=>by rw[jw,hs,h];rfl
  cases h1:decide (1024<((dq c).length:Int)) with
  | true =>
   simp only[am];refine aI ?_;simp[V.erase,yes (by rw[h1];rfl)]
  | false =>
   cases h2:decide (IntKind.i64.wrap (16383 - (dq c).length)<r.bytes) with
   | true =>
    simp only[am,Rm.al,h2];refine aI ?_;simp[V.erase,yes (by rw[h1,h2];rfl)]
   | false =>
    have tl:=λB=>tail B (by rw[h1,h2];rfl)
    simp only[am,Rm.al,b7,h2];refine cl (TX c.op Z) ?_;simp only[am]
    repeat' (first
     | (refine gO (λh=>?_) (λh=>?_)<;>simp only[am,h,Rm.al,b7])
     | (refine dc (λh=>?_) (λh=>?_)<;>simp only[LS,h,Nat.reduceAdd,Nat.reduceEqDiff,aF,Int.reduceNeg,dK,db,eC,Int.reduceEq,Int.reduceLT,Int.reduceLE,Int.reduceGE,Nat.reduceLT,Int.reduceToNat,Nat.reduceMul,cz,reduceCtorEq,aM.al,Rm.al,b9,b7,bG,ni,hH,g_])
     | (refine gS (λh=>?_) (λh=>?_)<;>simp only[LS,h,Nat.reduceAdd,Nat.reduceEqDiff,aF,Int.reduceNeg,dK,db,eC,Int.reduceEq,Int.reduceLT,Int.reduceLE,Int.reduceGE,Nat.reduceLT,Int.reduceToNat,Nat.reduceMul,cz,reduceCtorEq,aM.al,Rm.al,b9,b7,bG,ni,hH,g_])
    )
    all_goals refine aI ?_
    all_goals simp only[V.erase]
    all_goals refine mf V.bool (tl _ ?_)
    all_goals clear tl tail hw lv
    all_goals simp[*]
 | false =>
  have tl:=λB=>tail B (by rw[hs];rfl)
  simp only[am,b7];refine cl (TX c.op Z) ?_;simp only[am]
  repeat' (first
   | (refine gO (λh=>?_) (λh=>?_)<;>simp only[am,h,Rm.al,b7])
   | (refine dc (λh=>?_) (λh=>?_)<;>simp only[LS,h,Nat.reduceAdd,Nat.reduceEqDiff,aF,Int.reduceNeg,dK,db,eC,Int.reduceEq,Int.reduceLT,Int.reduceLE,Int.reduceGE,Nat.reduceLT,Int.reduceToNat,Nat.reduceMul,cz,reduceCtorEq,aM.al,Rm.al,b9,b7,bG,ni,hH,g_])
   | (refine gS (λh=>?_) (λh=>?_)<;>simp only[LS,h,Nat.reduceAdd,Nat.reduceEqDiff,aF,Int.reduceNeg,dK,db,eC,Int.reduceEq,Int.reduceLT,Int.reduceLE,Int.reduceGE,Nat.reduceLT,Int.reduceToNat,Nat.reduceMul,cz,reduceCtorEq,aM.al,Rm.al,b9,b7,bG,ni,hH,g_])
  )
  all_goals refine aI ?_
  all_goals simp only[V.erase]
  all_goals refine mf V.bool (tl _ ?_)
  all_goals clear tl tail hw lv
  all_goals simp[*]
def D3:c8 (dj 0 0 (.sl .aY 10 []) .zero (.sl .aY 10 []) 0 (.sl .aY 10 []) 0 0 [])=true:=wg rfl rfl rfl
theorem T5:a9 (dj 0 0 (.sl .aY 10 []) .zero (.sl .aY 10 []) 0 (.sl .aY 10 []) 0 0 [])=dJ.zero.enc:=by rfl
def T6:bK (dj 0 0 (.sl .aY 10 []) .zero (.sl .aY 10 []) 0 (.sl .aY 10 []) 0 0 [])=true:=D4 rfl rfl rfl
def IQ(x:dJ):c8 x.enc=true:=wg rfl rfl rfl
def tz(x:ar × dJ × aM):V:=.bw [.agg x.1.enc,.agg x.2.1.enc,.agg x.2.2.enc]
structure Mk(c:ar):Prop where
 n:c.ak.length<=100000
 p:c.aX.length<=100000
 l:c.left.cW<=100000
 r:c.right.cW<=100000
 wl:c.left.wt<=aJ
 wr:c.right.wt<=aJ
 w:16*c.wt+64<=aJ
def HC{t:List UInt8}(ht:t.length<=3000):Mk (dC t).1:=by
 have hb:=Rp t;generalize (dC t).1=c at hb;have h1:=hb.ns;have h2:=hb.ps;have h3:=hb.l;have h4:=hb.r;have h5:=hb.nm;have h6:=hb.pt;have h7:=(Fk c.ak).2;have h8:=Eb c.left;have h9:=Eb c.right;have jL:aJ=268435456:=rfl;have JR:c.wt=c.name.an.length+fk c.ak+kz c.aX+c.left.wt+c.right.wt:=rfl;exact⟨by omega,by omega,by omega,by omega,by omega,by omega,by omega⟩
def amW(s:aH)(r:Rm)(t:List UInt8)(hs:s.tF)(hg:TZ Z)(lv:Z.cI 0=U iO)(ht:t.length<=3000):
 aR 29 [.agg s.enc,.agg r.enc,.aQ t] Z (tz (lV s r t)):=by
 have jL:aJ=268435456:=rfl;have cw:=HC ht;have hm:=Qi t;have cg:=@Hp s r t;have fj:=@Hq s r t;have ku:=@EZ s r t;refine ajX.fK ?_;simp only[aP,am,aT,Nat.reduceAdd,aH.al,Rm.al,g_];refine cl (agX t lv (by omega) (by rw[DF];omega)) ?_;generalize dC t=R at cw cg fj ku;generalize lV s r t=X at cg fj ku;obtain⟨c,k,a⟩:=R;simp only at cw cg fj ku;obtain⟨Y'',hY⟩:∃Y'':dJ,Y''=(if gi s c=aa then jA s c else .zero):=⟨_,rfl⟩;rw[<-hY] at ku;obtain⟨A,hA⟩:∃A:List V,A=Y''.enc:=⟨_,rfl⟩;have a1:A.length=18:=by rw[hA];exact rk
 have a2:takeN 18 A=U A:=by rw[hA];exact IS
 have a3:c8 A=true:=by rw[hA];exact IQ Y''
 have a4:bK A=true:=by rw[hA];exact dJ.dT
 have a5:over (dj 0 0 (.sl .aY 10 []) .zero (.sl .aY 10 []) 0 (.sl .aY 10 []) 0 0 []) A=A:=by rw[hA];exact rJ (by rw[rk];exact rk.symm)
 have a6:a9 A=Y''.enc:=by rw[hA];exact dJ.dW
 have hT:r5 s c = .bw [.agg A,.bool (gi s c)]:=by rw[r5,hA,hY]
 have cA:=ai3 s c (Z:=Z) hs.1 hg lv (by have:=cw.n;omega) (by have:=cw.p;omega) cw.l cw.r cw.wl cw.wr;rw[hT] at cA;have aO:∀(t:List V) (lo:List (List V)) (f:aM),X=(.zero,.zero,f)->jS (λv σ' => v=tz X/\σ' = Z) ⟨t,lo,Z⟩ (.bw [.agg ij,.agg (dj 0 0 (.sl .aY 10 []) .zero (.sl .aY 10 []) 0 (.sl .aY 10 []) 0 0 []),.agg f.enc]):=λt lo f h=>by
  refine aN (by simp only[V.cS,bK,T6];rfl) (ab.a8 _) ⟨?_,rfl⟩;rw[h,tz];simp only[V.erase,a9,T5];rfl
 simp only[am,Nat.reduceAdd,b9,Gp]
 by_cases hk:k=0
 case neg =>
  simp only[am,Nat.reduceAdd,hH,aD hk,D3];exact aO _ _ ⟨k,a⟩ (cg hk)
 simp only[am,aH.al,b9,aG hk];refine bn.intro (abD s c hs hg cw.n cw.p) ?_;simp only[am,aH.al,b9];refine bn.intro (VS s c hs.1 hg cw.l cw.r cw.wl cw.wr) ?_;simp only[am,aM.al,aH.al,Rm.al,b9];refine cl (an4 r c lv cw.w) ?_;have nR:(∃L,iQ s r c=L/\jw r c=aa/\c.op≠12/\L=[iw s c,iE s c]++[⟨7,c.pos⟩])\/(∃L,iQ s r c=L/\jw r c=aq/\c.op=12/\r.eg<=1/\L=[iw s c,iE s c]++[⟨8,c.pos⟩]) \/
  (∃L,iQ s r c=L/\jw r c=aq/\c.op=12/\¬r.eg<=1/\L=[iw s c,iE s c])\/(∃L,iQ s r c=L/\jw r c=aq/\c.op≠12/\L=[iw s c,iE s c]):=by
  cases hl:jw r c with
  | true =>
   have hp:=YD hl;exact .inl ⟨_,rfl,rfl,hp,by simp[iQ,hl,cY,hp]⟩
  | false =>
   by_cases ia:c.op=12
   .by_cases hf:r.eg<=1
    .exact .inr (.inl ⟨_,rfl,rfl,ia,hf,by simp[iQ,hl,cY,ia,hf]⟩)
    .exact .inr (.inr (.inl ⟨_,rfl,rfl,ia,hf,by simp[iQ,hl,cY,hf]⟩))
   .exact .inr (.inr (.inr ⟨_,rfl,rfl,ia,by simp[iQ,hl,cY,ia]⟩))
 rcases nR with ⟨L,hL,e1,e2,e3⟩ | ⟨L,hL,e1,e2,e4,e3⟩ | ⟨L,hL,e1,e2,e4,e3⟩ | ⟨L,hL,e1,e2,e3⟩
 case' inl =>
  simp only[am,Nat.reduceAdd,b7,e1];refine xD (by simp[aJ]) ?_;simp only[am,b7,aD e2]
 case' inr.inl =>
  simp only[am,Nat.reduceAdd,Rm.al,b7,e1,aG e2,aG e4];refine xD (by simp[aJ]) ?_;simp only[am]
 case' inr.inr.inl =>
  simp only[am,Rm.al,b7,e1,aG e2,aD e4]
 case' inr.inr.inr =>
  simp only[am,b7,e1,aD e2]
 all_goals
  rw[hL] at fj ku;refine cl (cy.df (as' := [.sl .no 2 (L.map aM.enc)]) (Bv L _ (by rw[e3];simp)) ⟨by rw[e3];exact dv.no,trivial⟩ bp.rfl) ?_;generalize fH L=f at fj ku;simp only[am,aM.al]
  by_cases hf:f.cls=0
  .simp only[am,aH.al,b9,aG hf];refine cl cA ?_;simp only[am,Nat.reduceAdd,b9,hH,a1,a2,a3,a5];refine aN (by simp only[V.cS,bK,a4];rfl) (ab.a8 _) ⟨?_,rfl⟩;rw[ku hk hf,tz];simp only[V.erase,a9,a6];rfl
  .simp only[am,Nat.reduceAdd,aM.al,hH,aD hf,D3];exact aO _ _ f (fj hk hf)
theorem Ue{x:dJ}:bP aq 1 x.enc=U (.int .i64 x.op):=rfl
def avb(c:ar)(x:dJ)(h:Z.box b=U (nU k s))(ho:s.live.ok)(hg:TZ Z)(lv:Z.cI 0=U iO)
 (hn:c.ak.length<=100000) (hp:c.aX.length<=100000) (hw:16*c.wt+64<=aJ) (hx:AF x) (ht:(dq c).length<=100000) :
 eT 30 [.ptr (.out b) 0,.agg c.enc,.agg x.enc] Z (.bw []) (Z.set b (nU k ⟨v7 s.live c x,s.eg⟩)):=by
 obtain⟨l,fr⟩:=s;have CP:=@Di l.lines;have h1:=ho.m;have h2:=ho.b;have h3:=ho.t;have hs:=ho.s;simp only at h1 h2 h3 hs;rw[nU] at h;simp only at h;refine fq func30 ?_;simp only[aP,am,aT,Nat.reduceAdd,b9,lK];refine cl (U9 c lv hw) ?_;simp only[am,cK,gk,h];refine Li (by simp[gk]) ?_;rw[yQ (by simp[gk])];simp only[am];refine xD (by simp[gk,aJ];omega) ?_;simp only[am,h];have e1:cu l.lines++[[V.aQ (dq c)]]=cu (l.lines++[dq c]):=by simp[cu]
 have e2:IntKind.i64.wrap (l.bytes+IntKind.i64.wrap (((dq c).length:Nat)+1))=l.bytes+((dq c).length+1:Nat):=by
  rw[wrap_i64 (x:=((dq c).length:Nat)+1),wrap_i64];simp
 rw[e1,e2]
 by_cases nN:x.op=0
 .simp only[am,bu,b9,Ue,nN];refine bn.intro (TE l.fP c (Z:=_) hs hg hn hp) ?_;simp only[am,aH.al];refine aN rfl (ab.a8 _) ⟨rfl,?_⟩;rw[v7,aB (by simp[nN])];rfl
 .simp only[am,cK,aF,cX,aF,Ue,nN];refine Li (by simp) ?_;rw[yQ (by simp)];simp only[am,lK];refine bn.intro (U8 x _ hx) ?_;simp only[am,lK];refine adW (by simp[aJ];omega) ?_;simp only[am];refine aN rfl (ab.a8 _) ⟨rfl,?_⟩;rw[v7,aL nN];simp[nU]
structure adb(A:List V):Prop where
 len:A.length=18
 tk:takeN 18 A=U A
 one:c8 A=aa
 cS:bK A=aa
 ov:over (dj 0 0 (.sl .aY 10 []) .zero (.sl .aY 10 []) 0 (.sl .aY 10 []) 0 0 []) A=A
def TY(x:dJ):adb x.enc:=⟨rk,IS,IQ x,dJ.dT,rJ (by rw[rk];exact rk.symm)⟩
def V0{f:aM}{x y:Int}:hZ [1,1] f.enc [.int .i64 x,.int .i64 y]=U (decide (f=⟨x,y⟩)):=aM.sI (g:=⟨x,y⟩)
def ajE:fm prog 14 (sq [rg 4 [ox 2 18 0,ox 3 18 1,oz 2],rg 5 [fo 0 2,fo 0 3,nb .eql 6,gA,fo 1 2,fo 1 3,nb .eql 12,gZ,gA,fo 2 2,fo 2 3,oC 34 [19,21],gZ,gA,of 3 2,nl 9,of 3 3,nl 9,oq (.lr aq [1,1,1,1,1,1,1,1,1] (.s 26) (.s 28)),gZ,gA,of 12 2,nl 2,of 12 3,nl 2,oC 35 [33,35],gZ,gA,of 14 2,nl 2,of 14 3,nl 2,oC 35 [40,42],gZ,gA,fo 16 2,fo 16 3,nb .eql 47,gZ,gA,fo 17 2,fo 17 3,nE .eql 54,gZ,o1 4],.ret]) [.tmp 4] 59:=fU func14
def aj1:fm prog 35 (sq [rg 4 [ox 2 2 0,ox 3 2 1,oz 2],sq [rg 6 [fo 1 2,fo 1 3,nb .neq 7,gB,fo 0 2,nL,fo 0 3,nL,nb .neq 14,gZ],cr 19 4 [oz 2]],sq [rg 5 [oi 0],bl 0 (sq [sq [rg 20 [om 5,fo 0 2,nL,nb .lss 20],cx 24 0],.block 1 (sq [dg 27 [fo 0 2,om 5,nA 10 28,nl 10,fo 0 3,om 5,nA 10 33,nl 10,oq (.lr aa [2,1,1,1,1,1,1,1,1,1] (.s 31) (.s 36))],cr 37 4 [oz 2]]),rg 25 [ic 5]])],rg 4 [oq (.mv (.c (.bool aa)))],.ret]) [.tmp 4] 38:=fU func35
def VX{l:List cq}(h:j<l.length):(l.map cq.enc)[((j:Nat):Int).toNat]?=U l[j].enc:=by simp[h]
def aaC(t:fJ)(Z:ab)(hl:t.fs.length<=100000):aR 35 [.agg t.enc,.agg t.enc] Z (.bool aa):=by
 refine aj1.fK ?_;simp only[aP,am,aT,Nat.reduceAdd,bu,fJ.al,aF];refine ch (t.fs.length) (λi (x:Unit)=>⟨[.any,.any,.ptr (.au 0) 0,.ptr (.au 1) 0,.any,.int .i64 (i:Nat)]++aj 32 .any,[t.enc,t.enc],Z⟩) (λi x=>(True)) λF hF JF aZ=>⟨?_,?_,?_⟩
 .exact en aZ (()) (trivial)
 .rintro i x hi -;simp only[hF,aj,am,cf hi,fJ.al,aF];refine ix (VX hi) ?_;simp only[am,cq.al,fJ.al];refine ix (VX hi) ?_;simp only[am,bu,aK,cq.al,bt hi];exact nx aZ (()) hi (trivial)
 .rintro x -;simp only[hF,aj,am,aK,ck,aK,fJ.al,aF];exact rt
theorem ags(s:aH)(c:ar)(hl:c.left.cW<=100000):(jA s c).code.length<=100000:=by
 rw[jA];split
 .have:=agv s (cD s c) c.left;simp only;omega
 .grind
theorem aa5{s:aH}{lat:Nat}{n:Nd}(h:n.cW<=100000):(kf s lat n).fs.length<=100000:=by
 have:=xK n
 rw[kf];split
 .simp
 .grind
def VY(s:aH)(c:ar)(hl:c.left.cW<=100000)(hr:c.right.cW<=100000):(jA s c).a.fs.length<=100000/\(jA s c).b.fs.length<=100000:=by
 rw[jA];split
 .simp[fJ.zero]
 .split
  .exact⟨aa5 hl,aa5 hr⟩
  .simp[fJ.zero]
def aaq(x:dJ)(Z:ab)(hc:x.code.length<=100000)(ha:x.a.fs.length<=100000)(hb:x.b.fs.length<=100000):aR 14 [.agg x.enc,.agg x.enc] Z (.bool aa):=by
 obtain⟨op,lat,code,to,a,b,v,field⟩:=x;show cy prog 14 [.agg (dj op lat (.sl .no 10 (code.map bF.enc)) to (.sl .no 10 (a.fs.map cq.enc)) a.tail (.sl .no 10 (b.fs.map cq.enc)) b.tail v field),.agg (dj op lat (.sl .no 10 (code.map bF.enc)) to (.sl .no 10 (a.fs.map cq.enc)) a.tail (.sl .no 10 (b.fs.map cq.enc)) b.tail v field)] Z _;refine ajE.fK ?_;simp only[aP,am,aT,Nat.reduceAdd];simp only[am,bu,hH];refine cl (auh code code Z hc hc) ?_;simp only[am,bu,bQ.al,hH];refine cl (aaC a Z ha) ?_;simp only[am,hH];refine cl (aaC b Z hb) ?_;simp only[am,bu,hH];exact rt
def ajy:fm prog 12 (sq [rg 0 [oZ 4 [0,0,1,0,7,9,0,0,0,1,7,10,0,0,1,7,10],oR 5 g_,oZ 6 [0,0]],sq [rg 11 [om 0,oq (.wz aq (.s 11) (.c .kX))],cr 12 13 [oW [0,0,1,0,7,9,0,0,0,1,7,10,0,0,1,7,10] [],oY g_ [],oW [0,0] [],os 17 4 13,os 18 5 14,o2 2 6]],dA 17 [7,8,9] [mk 0,nf 0,nf 0,mM [1],nl 2,om 0,oC 15 [22],om 1,oC 29 [21,23,24],o1 16,oe 16 0,oe 16 1,oe 16 2,oN,oN,oN,oX 7 17 26,oX 8 18 27,oX 9 2 28],sq [rg 29 [fo 0 9,nB .neq 0],ci 31 (sq [dg 32 [ol 17 7,mM [1],ol 18 8,mM [1,2],ol 2 9,os 17 4 32,os 18 5 33,o2 2 6],.ret])],.block 0 (sq [rg 36 [fo 0 7,oC 25 [37],o1 35],cd 35 (rg 39 [om 0,ol 17 7,ol 18 8,oC 30 [39,40,41]]) (sq [rg 44 [fo 0 7,nB .eql 11,o1 43],cd 43 (.sM (dg 47 [om 0,mk 0,nF 5,mk 0,nf 0,nl 5,oW [8,8,23,6,0] [(0,5,55)],n1 5,na 5 51,ok 47,nf 5,os 1 60 58])) (sq [rg 62 [fo 0 7,nB .eql 12,o1 61],ci 61 (sq [rg 65 [mk 0,nF 5,nL,nB .sub 1,o1 10],rg 71 [om 0,mk 0,nF 5,om 10,nA 5 75,nf 0,nl 5,ok 71,nf 0,os 5 81 79],rg 82 [om 0,mk 0,nF 5,om 10,om 10,oq (.qZ 5 (.s 86) ah (U (.s 87)) (U (.s 88))),ok 82,nf 5,os 1 91 89]])])])]),dg 92 [ol 17 7,mM [1],ol 18 8,mM [1,2],ol 2 9,os 17 4 92,os 18 5 93,o2 2 6],.ret]) [.cell 4 aa 17,.cell 5 aa 18,.cell 6 aa 2] 95:=fU func12 ⟨[],[9]⟩
theorem Qh{t:List UInt8}(ht:t.length<=3000)(h:(fc s t).2.2.cls=0):Mk (fc s t).1/\AF (fc s t).2.1/\(dq (fc s t).1).length<=2*t.length/\((fc s t).1.op=12->s.eg≠[]):=by
 obtain⟨e1,e2,_,_,_,_,e7⟩:=Hr h;have cw:=HC ht;have ha:dC t=((dC t).1,0,0):=by
  obtain⟨a1,_⟩:=avC h
  grind
 refine⟨by rw[fc,e1];exact cw,?_,by rw[fc,e1];exact(TI ha).2.2,λia e=>e7 ⟨by rw[fc,e1] at ia;exact ia,by simp[mQ,e]⟩⟩;rw[fc,e2];split
 .exact⟨ags _ _ cw.l,(VY _ _ cw.l cw.r).1,(VY _ _ cw.l cw.r).2⟩
 .exact⟨by simp[dJ.zero],by simp[dJ.zero,fJ.zero],by simp[dJ.zero,fJ.zero]⟩
def adY{u:Tk}{m n:List (List V)}{K:V->ab->Prop}(hk:k = .aY\/k = .tk D)(hb:m.length+n.length<=aJ)(ht:Z.aS D=U m.length)(h:K (.sl (.tk D) r (m++n)) (Z.aU D (m.length+n.length))):B0 Z r (.sl k r m) (.sl u r n) K:=by
 rcases hk with rfl | rfl
 .exact TU hb ht h
 .exact qz hb ht h
theorem M1(t:List UInt8)(h:AJ Z b k s)(ho:s.ok)(hg:TZ Z)(lv:Z.cI 0=U iO)(ht:t.length<=3000):
 cy prog 12 [.ptr (.out b) 0,.aQ t] Z λv σ' => v=tz (fc s t)/\∃k',AJ σ' b k' (lN s t)/\Kp Z σ' b k k' := by
 have cj:=amW s.live.fP (mQ s) t (Z:=Z) ho.l.s hg lv ht;have hlen:=Qh (s:=s) ht;have hd:lN s t=sX s (fc s t):=rfl;rw[show lV s.live.fP (mQ s) t=fc s t from rfl] at cj;rw[hd];have bC:=ho.n;generalize fc s t=X at cj hlen;obtain⟨c,x,f⟩:=X;simp only[tz] at cj hlen ⊢;have hb:=h.b;rw[nU] at hb;refine ajy.fK ?_;simp only[aP,am,aT,Nat.reduceAdd,bu,Nat.reduceLT,IP];simp only[am,hb];refine bn.intro (R_ h.b (by omega)) ?_;simp only[am,Rm.al];refine bn.intro cj ?_;simp only[am,Nat.reduceAdd,aM.al,b9,lK];refine⟨by rw[hb];rfl,?_⟩;have fin:∀{t:List V} {lo:List (List V)} {σ' : ab} {k' : Tk} {s' : gw},s' = sX s (c,x,f)->AJ σ' b k' s' -> Kp Z σ' b k k' -> jS (λv σ' => v = .bw [.agg c.enc,.agg x.enc,.agg f.enc]/\∃k',AJ σ' b k' (sX s (c,x,f))/\Kp Z σ' b k k') ⟨t,lo,σ'⟩ (.bw [.agg c.enc,.agg x.enc,.agg f.enc]):=λ{t lo σ' k' s'} e h1 h2=>by
  refine aN (by simp only[V.cS,bK,dJ.dT];rfl) (ab.a8 _) ⟨?_,k',by rw[<-e];exact h1,h2⟩;simp only[V.erase,a9,dJ.dW];rfl
 by_cases hf:f.cls=0
 case neg =>
  simp only[am,cX,aM.al,b9,lK,hf];exact fin (by rw[sX,aL hf]) h Kp.rfl
 obtain⟨cw,hx,wK,bf⟩:=hlen hf;simp only[am,bu,b7,hf];refine cl (ab_ c.op _) ?_;cases fM:lE c.op with
 | true =>
  simp only[am,b9,lK];refine cl (avb c x h.b ho.l hg lv cw.n cw.p cw.w hx (by omega)) ?_;simp only[am,aM.al,b9,lK];refine fin (k' := k) (s' := ⟨v7 s.live c x,s.eg⟩) (by rw[sX,aB (by simp[hf]),aL fM]) ⟨j6,?_⟩ ⟨λc hc=>sL hc,λ_ _ _ h=>h,rfl,λ_ h=>.inl h⟩;exact h.t
 | false =>
  simp only[am,b7]
  by_cases pR:c.op=11
  .simp only[am,bu,pR];have up:∀{K:St->Prop} {t:List V} {lo:List (List V)},(∀D bx,bx.aS D=U s.eg.length->bx.box=Z.box->bx.cI=Z.cI->(∀t' n,k≠.tk t' -> Z.aS t' = U n->bx.aS t' = U n/\t' ≠ D)->(k = .tk D\/Z.aS D=ah)->(k = .aY\/k = .tk D)->K ⟨t,lo,bx⟩)->a7 ⟨t,lo,Z⟩ K:=λ{K t lo} hk=>by
    have ht:=h.t;cases k with
    | no=>exact ht.elim
    | aY=>exact a7.tok s.eg.length λD aW=>⟨t,lo,Z,fG.rfl,rfl,λ_ c' hc=>⟨c',hc,fG.rfl⟩,rY.rfl,hk D _ dD rfl rfl (λt' n _ tm => by
     have:t' ≠ D:=λe=>by rw[e,aW] at tm;simp at tm
     exact⟨by rw[n_ this];exact tm,this⟩) (.inr aW) (.inl rfl)⟩
    | tk D=>exact a7.df c_.rfl bX.rfl bp.rfl (hk D Z ht rfl rfl (λt' n hn tm => ⟨tm,λe=>hn (by rw[e])⟩) (.inl rfl) (.inr rfl))
   refine up λD bx u1 u2 u3 u4 u5 u6=>?_
   have dX:bx.box b=U _:=(congrFun u2 b).trans hb;simp only[am,Nat.reduceAdd,dX];refine adY u6 (by simp[aJ];omega) (by simp;exact u1) ?_;simp only[am,aF,aM.al,aF,b9,lK,dX];have al6:∀t' n,k≠.tk t' -> Z.aS t' = U n->((bx.aU D (s.eg.length+1)).aS t')=U n:=λt' n hn tm => by
    obtain⟨a1,a2⟩:=u4 t' n hn tm;rw[n_ a2];exact a1
   refine fin (k' := .tk D) (s' := ⟨s.live,s.eg++[s.live]⟩) (by rw[sX,aB (by simp[hf]),aB (by simp[fM]),aL pR]) ⟨?_,?_⟩ ⟨λc hc=>?_,al6,u3,λt' e=>?_⟩
   .rw[j6];simp[nU,xO]
   .show(bx.aU D (s.eg.length+1)).aS D=U (s.eg++[s.live]).length;rw[dD];simp
   .rw[sL hc];exact congrFun u2 c
   .grind
  .simp only[am,cX,b7,pR]
   by_cases ia:c.op=12
   .simp only[am,bu,ia];have bf:=bf ia;obtain⟨fr,l,nD⟩:∃fr l,s.eg=fr++[l]:=⟨s.eg.dropLast,s.eg.getLast bf,(List.dropLast_concat_getLast bf).symm⟩;have pg:sX s (c,x,f)=⟨l,fr⟩:=by
     rw[sX,aB (by simp[hf]),aB (by simp[fM]),aB pR,aL ia,nD];simp
    have x6:fr.length<=100:=by grind
    have hmp:s.eg.map xO=fr.map xO++[xO l]:=by grind
    rw[hmp] at hb;have hw:IntKind.i64.wrap (((fr.map xO++[xO l]).length:Nat) - 1)=((fr.length:Nat):Int):=by
     simp only[bL,aF,eZ];rw[wrap_i64];omega
    simp only[am,hb,hw];refine mG (c:=xO l) (by omega) (by simp) ?_;simp only[am,cK,Nat.reduceAdd,xO,hb];refine Li (by simp) ?_;rw[show fr.length=(fr.map xO).length by simp,List.take_left];simp only[am,aF,aM.al,aF,b9,lK];refine fin (k' := .aY) (s' := ⟨l,fr⟩) pg.symm ⟨?_,trivial⟩ ⟨λc hc=>?_,λ_ _ _ h=>h,rfl,λt' e=>by simp at e⟩
    .rw[j6];simp[nU]
    .rw[sL hc]
   .simp only[am,cX,aM.al,b9,lK,ia];exact fin (by simp[sX,hf,fM,pR,ia]) h Kp.rfl
def axK:=ag @am <| ag @aT <| ag @bu @gk
def abm(l:List (List UInt8))(Z:ab)(hl:l.length<=100000):aR 20 [.sl .no 1 (cu l),.sl .no 1 (cu l)] Z (.bool aa):=by
 refine fq func20 ?_;simp only[aP,axK,Nat.reduceAdd];refine ch (l.length) (λi (x:Unit)=>⟨[.sl .no 1 (cu l),.sl .no 1 (cu l),.any,.any,.any,.int .i64 (i:Nat)]++aj 20 .any,[],Z⟩) (λi x=>(True)) λF hF JF aZ=>⟨?_,?_,?_⟩
 .exact en aZ (()) (trivial)
 .rintro i x hi -;simp only[hF,aj,am,cf hi,gk];refine ix (Dc hi) ?_;simp only[am];refine ix (Dc hi) ?_;simp only[am,bu,aK,bt hi];exact nx aZ (()) hi (trivial)
 .rintro x -;simp only[hF,aj,am,aK,ck,aK,gk];exact aN rfl (ab.a8 _) ⟨rfl,rfl⟩
def axL:=ag @am <| ag @aT <| ag @bu @bA.al
def axM:=ag @am <| ag @bu <| ag @bh.al @bA.al
theorem aub(x:bA)(Z:ab)(hx:x.ok):aR 71 [.agg x.enc,.agg x.enc] Z (.bool aa):=by
 obtain⟨h1,h2⟩:=hx;refine fq func71 ?_;simp only[aP,axL,Nat.reduceAdd,aF];refine ch (x.bI.length) (λi (y:Unit)=>⟨[.any,.any,.ptr (.au 0) 0,.ptr (.au 1) 0,.any,.int .i64 (i:Nat)]++aj 54 .any,[x.enc,x.enc],Z⟩) (λi y=>(True)) λF hF JF aZ=>⟨?_,?_,?_⟩
 .exact en aZ (()) (trivial)
 .rintro i y hi -;simp only[hF,aj,am,cf hi,Nat.reduceAdd,bu,Nat.reduceLT,bA.al,aF];refine ix (Nk hi) ?_;simp only[am,bh.al,bA.al];refine ix (Nk hi) ?_;simp only[axM,Nat.reduceAdd];refine cl (abm x.bI[i].ak Z (h2 _ (dQ hi))) ?_;simp only[am,Rl.al,bh.al];refine cl (aaZ x.bI[i].rel x.bI[i].rel Z) ?_;simp only[am,bu,aK,bt hi];refine c7 (()) hi ?_ ?_ ?_ ?_ ?_ ?_
  .grind
  all_goals simp[hF,aj,am,ba,bE,cn,V.lo,bA.bR]
 .rintro y -;simp only[hF,aj,am,aK,ck,aK,bA.al,aF];exact aN rfl (ab.a8 _) ⟨rfl,rfl⟩
def acx{l:List dR}(h:j<l.length):(l.map dR.enc)[((j:Nat):Int).toNat]?=U l[j].enc:=by simp[h]
def awj{v:dR}:hZ [2,1,1] v.enc v.enc=U true:=by rw[dR.enc,Nc,xR,xR,Nb,ve,ve,ve];simp
def axN:=ag @am <| ag @aT <| ag @bu @aH.al
def aud(s:aH)(Z:ab)(hs:s.ok):aR 41 [.agg s.enc,.agg s.enc] Z (.bool aa):=by
 obtain⟨h1,h2,h3⟩:=hs;refine fq func41 ?_;simp only[aP,axN,Nat.reduceAdd,aF];refine ch (s.bc.length) (λi (y:Unit)=>⟨[.any,.any,.ptr (.au 0) 0,.ptr (.au 1) 0,.any,.int .i64 (i:Nat)]++aj 71 .any,[s.enc,s.enc],Z⟩) (λi y=>(True)) λF hF JF aZ=>⟨?_,?_,?_⟩
 .exact en aZ (()) (trivial)
 .rintro i y hi -;simp only[hF,aj,am,cf hi,aH.al,aF];refine ix (tA hi) ?_;simp only[am,aH.al];refine ix (tA hi) ?_;simp only[am,bu,aH.al];refine ix (tA hi) ?_;simp only[am,aH.al];refine ix (tA hi) ?_;simp only[am,aH.al,bA.al];refine bn.intro (aub s.bc[i].shape Z (h3 _ (dQ hi))) ?_;simp only[am,aK,bt hi];exact nx aZ (()) hi (trivial)
 .rintro y -;simp only[hF,aj,am,aK,ck,aK,aH.al,aF];refine ch (s.vars.length) (λi (x:Unit)=>⟨[.any,.any,.ptr (.au 0) 0,.ptr (.au 1) 0,.any,.any,.int .i64 (i:Nat)]++aj 70 .any,[s.enc,s.enc],Z⟩) (λi x=>(True)) λF2 bV pI dr=>⟨?_,?_,?_⟩
  .refine en dr (()) (trivial) ?_ ?_ ?_
   all_goals simp[bV,aj,am,ba]
  .rintro i x hj -;simp only[bV,aj,am,cf hj,aH.al,aF];refine ix (acx hj) ?_;simp only[am,aH.al,dR.HP];refine ix (acx hj) ?_;simp only[am,aK,dR.HP,awj,bt hj];refine nx dr (()) hj (trivial) ?_ ?_ ?_
   all_goals simp[bV,aj,am,ba]
  .rintro x -;simp only[bV,aj,am,aK,ck,aK,aH.al,aF];exact aN rfl (ab.a8 _) ⟨rfl,rfl⟩
def Ci(l:List (List UInt8)):Bool:=decide (60<l.length)||l.any λt=>decide (1500<t.length)
theorem ae1(h:Ci l=aq):l.length<=60/\∀t∈l,t.length<=1500:=by
 simp only[Ci,Aw,Gh,List.any_eq_false,cU] at h
 grind
def adV(hi:i<l.length){p:List UInt8->Bool}:(l.take (i+1)).any p=((l.take i).any p||p l[i]):=by rw[iB hi,S8];simp
def ae0(l:List (List UInt8))(Z:ab):aR 8 [.sl .no 1 (cu l)] Z (.bool (Ci l)):=by
 refine fq func8 ?_;simp only[aP,am,aT,Nat.reduceAdd,gk]
 by_cases h:60<l.length
 .simp only[am,aG (show(60:Int)<l.length by omega)];exact aN rfl (ab.a8 _) ⟨by rw[Ci,aG h];rfl,rfl⟩
 simp only[am,gk,aD (show ¬(60:Int)<l.length by omega)];refine ch (l.length) (λi (x:Unit)=>⟨[.any,.any,.any,.any,.any,.any,.any,.any,.sl .no 1 (cu l),.int .i64 (l.length:Nat),.int .i64 (i:Nat)]++aj 7 .any,[],Z⟩) (λi x=>((l.take i).any (λt=>decide (1500<t.length))=aq)) λF hF JF aZ=>⟨?_,?_,?_⟩
 .exact en aZ (()) (rfl)
 .rintro i x hi hx;simp only[hF,aj,am,cf hi];refine ix (Dc hi) ?_;simp only[am]
  by_cases hq:1500<l[i].length
  .simp only[am,aK,aG (show(1500:Int)<l[i].length by omega)];refine aN rfl (ab.a8 _) ⟨?_,rfl⟩
   have:l.any (λt=>decide (1500<t.length))=true:=xu.2 ⟨l[i],dQ hi,aG hq⟩
   rw[Ci,this,Bool.or_true];rfl
  .simp only[am,aK,aD (show ¬(1500:Int)<l[i].length by omega),bt hi];exact nx aZ (()) hi (by rw[adV hi,hx,aD hq];rfl)
 .rintro x hx;simp only[hF,aj,am,aK,ck,aK];rw[du] at hx;exact aN rfl (ab.a8 _) ⟨by rw[Ci,hx,aD h];rfl,rfl⟩
def lZ(l:Lv):List V:=[.sl .no 3 (l.fP.bc.map eh.enc),.sl .no 3 (l.fP.vars.map dR.enc),.sl .no 18 (l.fh.map dJ.enc)]
def arU(l:Lv)(Z:ab)(ho:l.ok):aR 23 [.agg (lZ l),.agg (lZ l)] Z (.bool aa):=by
 have hm:=ho.m;have ha:=ho.a;have Uu:=aud l.fP Z ho.s.1;rw[aH.enc] at Uu;have hp:∀{n:Nat},lZ l=lZ l:=rfl;refine fq func23 ?_;simp only[aP,am,aT,Nat.reduceAdd];simp only[lZ];simp only[am,Nat.reduceAdd];refine cl (Uu) ?_;simp only[am,aF,bu,aF];refine ch (l.fh.length) (λi (x:Unit)=>⟨[.any,.any,.ptr (.au 0) 0,.ptr (.au 1) 0,.any,.any,.any,.any,.any,.any,.any,.any,.any,.any,.any,.any,.any,.any,.any,.any,.any,.any,.any,.int .i64 (l.fh.length:Nat),.int .i64 (i:Nat)]++aj 15 .any,[lZ l,lZ l],Z⟩) (λi x=>(True)) λF hF JF aZ=>⟨?_,?_,?_⟩
 .refine en aZ (()) (trivial) ?_ ?_ ?_
  all_goals simp[hF,aj,am,ba,lZ]
 .rintro i x hi -;have ci:=ha _ (dQ hi);simp only[hF,aj,am,cf hi];simp only[lZ];simp only[am];refine ix (Mx hi) ?_;simp only[am,lK];refine ix (Mx hi) ?_;simp only[am,lK];refine bn.intro (aaq l.fh[i] Z ci.c ci.a ci.b) ?_;simp only[am,aK,bt hi];refine nx aZ (()) hi (trivial) ?_ ?_ ?_
  all_goals simp[hF,aj,am,ba,lZ]
 .rintro x -;simp only[hF,aj,am,aK,ck,aK];exact aN rfl (ab.a8 _) ⟨rfl,rfl⟩
def auS(Z:ab):cy prog 10 [] Z λv σ' => ∃b,v = .ptr (.out b) 0/\Z.box b=ah/\σ' = Z.set b Wb:=by
 refine fq func10 ?_ ⟨[2],[]⟩;simp only[aP,am,aT,Nat.reduceAdd];intro b hb;simp only[am];exact aN rfl (ab.a8 _) ⟨b,rfl,hb,rfl⟩
def fn9:fm prog 9 (sq [rg 0 [oz 2],rg 10 [oC 10 [],o1 1],sq [rg 11 [oq (.pd 1 [(.c (.aQ [99,104,97,105,110,32,107,32,123,97,44,98,125])),(.c (.aQ [112,117,115,104])),(.c (.aQ [108,97,98,101,108,32,107,32,32,123,120,125])),(.c (.aQ [112,111,112]))]),nL,oi 0],lp 12 0 (sq [rg 15 [oA 1 11 13,no,o1 3],rg 18 [om 1,om 3,oC 12 [18,19],o1 17,oe 17 0,oe 17 1,oe 17 2,oZ 4 [0,0,1,0,7,9,0,0,0,1,7,10,0,0,1,7,10],oR 5 g_,oZ 6 [0,0],os 17 4 21,os 18 5 22,o2 2 6],rg 24 [ol 2 6,oW [0,0] [],oq (.lr aa [1,1] (.s 24) (.s 25))],cr 26 0 [oz 2]]) 27],rg 29 [om 1,oc 12 [.s 29,.c (.aQ [112,111,112])],o1 28,oe 28 0,oe 28 1,oe 28 2,oZ 7 [0,0,1,0,7,9,0,0,0,1,7,10,0,0,1,7,10],oR 8 g_,oZ 9 [0,0],os 17 7 31,os 18 8 32,o2 2 9],rg 34 [om 1,oC 11 [34],oq (.vg .eql (.s 35) (.c (.aQ [99,104,97,105,110,32,107,32,123,97,44,98,125,10]))),gA,ol 2 9,oG [0,0] [(0,1,.c (.int .i64 8))],oq (.lr aq [1,1] (.s 38) (.s 39)),gZ,gA,om 1,oC 15 [43],oG [0,0,0] [(0,1,.c (.int .i64 14)),(2,1,.c (.int .i64 1))],oq (.lr aq [1,1,1] (.s 44) (.s 45)),gZ,o1 0],.ret]) [.tmp 0] 48:=fU func9
def X4(Z:ab):cy prog 10 [] Z λv σ' => ∃b,v = .ptr (.out b) 0/\Z.box b=ah/\σ' = Z.set b (nU .aY .zero) :=
 cy.up (auS Z) λv σ' ⟨b,h1,h2,h3⟩=>⟨_,by rw[h3];exact bp.set akt,b,h1,h2,rfl⟩
def M0{t:List UInt8}(hs:s.ok)(ht:t.length<=3000):(lN s t).ok:=by
 by_cases h:(fc s t).2.2.cls=0
 .exact ahA hs (HC ht).n (Qh ht h).2.1
 .rw[lN,sX,aL h];exact hs
def V5:∀{l:List (List UInt8)} {s:gw},s.ok->(∀t∈l,t.length<=3000)->(l.foldl lN s).ok
 | [],_,hs,_=>hs
 | t::l,_,hs,h=>V5 (l:=l) (M0 hs (h t (by simp))) λx hx=>h x (by simp[hx])
def Qj(h:s.ok):s.live.lines.length<=100000:=by
 have h1:=@Di s.live.lines;have h2:=h.l.t;omega
def X5(h:Z.box b=U (nU k s))(ho:s.ok):aR 11 [.ptr (.out b) 0] Z (.aQ (qp s.live.lines)) :=
 avg rfl (by have:=ho.l.t;omega) (YH h (Qj ho))
def Jf:(rn i).ok:=V5 Sb λt ht=>VF t (B' ht)
def TJ(hg:TZ Z)(lv:Z.cI 0=U iO):aR 9 [] Z (.bool aa):=by
 refine fn9.fK ?_;simp only[aP,am,aT,Nat.reduceAdd];refine(X4 Z).mono ?_;rintro v bx ⟨b,rfl,hb,rfl⟩;simp only[am,Nat.reduceAdd];refine ch (4) (λi (x:ab × Tk)=>⟨[.any,.ptr (.out b) 0,.any,.any,.any,.any,.any,.any,.any,.any,.any,.sl .aY 1 (cu xS),.int .i64 4,.int .i64 (i:Nat)]++aj 34 .any,[],x.1⟩) (λi x=>(AJ x.1 b x.2 (rn i)/\Z.sub x.1/\F5 Z x.2/\x.1.cI=Z.cI)) λF hF JF aZ=>⟨?_,?_,?_⟩
 .refine en aZ ((Z.set b (nU .aY .zero),.aY)) (⟨abA,aca hb,by simp[F5],rfl⟩) ?_ ?_ ?_
  all_goals simp[hF,aj,am,ba,xS,cu]
 .rintro i ⟨gl,k⟩ hi ⟨h1,h2,h3,h4⟩;simp only at h1 h2 h3 h4;have fL : i<xS.length:=hi;have hf:=aiT ⟨i,hi⟩;rw[mB fL] at hf;have cd:=M1 xS[i] h1 Jf (show TZ gl from by rw[TZ,h4];exact hg) (by rw[h4];exact lv) (VF _ (dQ fL));generalize fc (rn i) xS[i]=X at cd hf;obtain⟨c,y,f⟩:=X;simp only at hf;subst hf;simp only[tz] at cd;simp only[hF,aj,am];simp only[am,aG (show((i:Nat):Int)<4 by omega)];refine ix (Dc fL) ?_;simp only[am];refine cd.mono ?_;rintro v xq ⟨rfl,k',h5,h6⟩;simp only[am,Nat.reduceAdd,aM.al,b9,lK];simp only[am,bu,aK,V0,bt hi];obtain⟨h7,h8⟩:=Kp.sub h2 hb h3 h6;refine c7 ((xq,k')) hi ?_ ?_ ?_ ?_ ?_ ?_
  .exact fF (aZ _ _) (⟨by rw[aiS fL];exact h5,h7,h8,h6.c.trans h4⟩)
  all_goals simp[hF,aj,am,ba,bE,cn,V.lo,ar.enc,ar.cJ]
 .rintro⟨gl,k⟩ ⟨h1,h2,h3,h4⟩;simp only[hF,aj,am];simp only[am,aK,aD (show ¬(((4:Nat):Int)<4) by decide)];have cd:=M1 K3 h1 Jf (show TZ gl from by rw[TZ,h4];exact hg) (by rw[h4];exact lv) (by decide);have hf:=aiU;have hd:lN (rn 4) K3=rn 4:=by rfl
  rw[hd] at cd;generalize fc (rn 4) K3=X at cd hf;obtain⟨c,y,f⟩:=X;simp only at hf;subst hf;simp only[tz] at cd;refine cd.mono ?_;rintro v xq ⟨rfl,k',h5,h6⟩;simp only[am,Nat.reduceAdd,aM.al,b9,lK];have ct:=X5 h5.b Jf;have cr:=R_ h5.b (by have:=Jf (i:=4) |>.n;omega);rw[aiV] at ct;refine cl ct ?_;simp only[am,bu,aM.al];simp only[am,bu,V0];have er:mQ (rn 4)=⟨14,0,1⟩:=by rfl
  rw[er] at cr;refine cl cr ?_;simp only[am,bu,Rm.enc];exact aN rfl (Kp.sub h2 hb h3 h6).1 ⟨rfl,rfl⟩
end Go.Proofs.Tryz
namespace Go.Am
open Go.ChangeShapes Go.WideShapes Go.ChangeAt Go.RowKit
structure B3{H:Type}(B:DataW H->Nat)(BA:List (DataW H)->Nat):Prop where
 aQ:∀b,B (.lit (.string b))=b.length+1
 int:∀k n,B (.lit (.int k n))=1
 bool:∀b,B (.lit (.bool b))=1
 nil:B .nil=1
 slice:∀e s,B (.slice e s)=BA e+BA s+1
 agg:∀p,B (.agg p)=BA p+1
 no:BA []=0
 cons:∀d r,BA (d::r)=B d+BA r
def xQ(W:World):Env:=⟨W,λ_=>.const,λ_=>ah,λ_=>ah⟩
section
variable {H:Type} {enc:TypeId × Value->H} {P:Program} {W:World} {sp:Nat->Bool} {B:DataW H->Nat} {BA:List (DataW H)->Nat}
variable{cs:List Value}{t:TypeId}
def asP{n:Nat}{x:DataW H × List MemPlace}(ht:P.underlying t=U .string)(hB:B3 B BA)(h:DataW.trod enc P W 0 sp aa n t cs=U x):
 ∃s:List UInt8,RL (xQ W) [.aQ s] cs/\(∀v∈cs,v.oneCell' = aa)/\s.length+1=B x.1:=by
 obtain⟨s,rfl,rfl,_⟩:=DataW.trod_string ht h;exact⟨s.data.toList,by simp[RL,R],by simp[Value.oneCell'],(hB.aQ _).symm⟩
theorem aau{G:Type}(ea:G->List V)(sz:G->Nat){e:TypeId}{k n:Nat}(hB:B3 B BA)(hk:P.cellsOf e=k)(hlen:∀y,(ea y).length=k)
 (nz:∀cs x,DataW.trod enc P W 0 sp aa n e cs=U x->∃y:G,RL (xQ W) (ea y) cs/\(∀v∈cs,v.oneCell' = aa)/\sz y<=B x.1) {b o:Nat} :
 ∀(xN:List (DataW H × List MemPlace)) (i:Nat),(∀j,j<xN.length->(W.cells? 0 (Addr.add ⟨b,o,ah⟩ ((i+j)*k)) k).bind (DataW.trod enc P W 0 sp aa n e)=xN[j]?) ->
  ∃l:List G,l.length=xN.length/\iC (xQ W).nl k (l.map ea) b (o+i*k)/\(l.map sz).sum<=BA (xN.map (·.1))
 | [],i,_=>⟨[],rfl,by simp[iC],by simp⟩
 | x :: xN, i, h => by
  obtain⟨l,h1,h2,h3⟩:=aau ea sz hB hk hlen nz xN (i+1) λj hj=>by
   have:=h (j+1) (by simp;omega)
   rw[show i+(j+1)=i+1+j by omega] at this;simpa using this
  have h0:=h 0 (by simp);simp only[yS,adm] at h0;obtain⟨cs,hc,hr⟩:=jH.1 h0;obtain⟨y,k1,k2,k3⟩:=nz cs x hr;obtain⟨_,hl,s6⟩:=World.cells?_some hc;refine⟨y::l,by simp[h1],?_,?_⟩
  .simp only[cQ,iC];refine⟨hlen y,D0 k1 k2 (λj v hv=>?_) (λ_ _=>trivial),by rw[show o+i*k+k=o+(i+1)*k by rw[lH];omega];exact h2⟩;have hj:j<k:=by grind
   have:=s6 j hj
   rw[rj,rj] at this;show W.cell? _=_
   grind
  .simp only[cQ,pJ,hB.cons];omega
variable{e:TypeId}{fuel:Nat}{G:Type}
theorem asO(ea:G->List V)(sz:G->Nat){k:Nat}(hB:B3 B BA)(ht:P.underlying t=U (.slice e))(hk:P.cellsOf e=k)(iH:0<k)(hlen:∀y,(ea y).length=k)
 (nz:∀n,n<fuel->∀cs x,DataW.trod enc P W 0 sp aa n e cs=U x->∃y:G,RL (xQ W) (ea y) cs/\(∀v∈cs,v.oneCell' = aa)/\sz y<=B x.1)
 {cs:List Value} {x:DataW H × List MemPlace} (h:DataW.trod enc P W 0 sp aa fuel t cs=U x) :
 ∃l:List G,RL (xQ W) [.sl .no k (l.map ea)] cs/\(∀v∈cs,v.oneCell' = aa)/\(l.map sz).sum+1<=B x.1:=by
 rcases DataW.trod_slice ht h with ⟨rfl,rfl⟩ | ⟨a,len,cap,elems,rest,n,rfl,rfl,rfl,_,hle,_,hl,W9,_,_⟩
 .refine⟨[],?_,by simp[Value.oneCell'],by simp[hB.nil]⟩;simp only[RL,R,fp,ln];exact⟨ah,0,rfl,by simp,by simp,trivial⟩
 .have ha:elems=[]\/∃b o,a=⟨b,o,ah⟩:=by
   cases elems with
   | nil=>exact .inl rfl
   | cons y ys =>
    right;have h0:=W9 0 (by rw[<-hl];simp);simp only[adm] at h0;obtain⟨cs',hc,_⟩:=jH.1 h0;obtain⟨_,jM,s6⟩:=World.cells?_some hc;have h1:=s6 0 (by rw[hk];exact iH);have h2:cs'[0]?=U (cs'[0]'(by rw[jM,hk];exact iH)):=bY _;rw[h2] at h1;obtain⟨b,o,s⟩:=a;refine⟨b,o,?_⟩;simp only[World.cell?] at h1;cases s with
    | none=>rfl
    | some s =>
     split at h1
     .simp[Addr.add] at h1
     .grind
  rcases ha with rfl | ⟨b,o,rfl⟩
  .refine⟨[],?_,by simp[Value.oneCell'],by simp[hB.slice]⟩;simp only[cZ] at hl;subst hl;simp only[RL,R,fp,ln];exact⟨U a,cap,rfl,by simp,by simp,trivial⟩
  .obtain⟨l,h1,h2,h3⟩:=aau (B:=B) (BA:=BA) (sp:=sp) (enc:=enc) (P:=P) (W:=W) (n:=n) ea sz hB hk hlen (nz n (Nat.lt_succ_self n)) elems 0 (λj hj=>by
    have:=W9 j (by omega)
    rw[hk] at this;rw[mc];exact this)
   refine⟨l,?_,by simp[Value.oneCell'],?_⟩
   .simp only[RL,R,aF,ln];exact⟨U ⟨b,o,ah⟩,cap,by rw[h1,hl],by omega,.inr ⟨b,o,rfl,by simpa using h2⟩,trivial⟩
   .rw[hB.slice];omega
end
variable{H:Type}{P:Program}{W:World}{args:Array Value}{before:List MemPlace}{f:Func}{tb:TypeId}
theorem arP{enc:TypeId × Value->H}{s:ChangeSpec}{ds:List (DataW H)}
 (hl:laidOutB P=aa) (hm:mapsRowed P=aa) (hz:((bH P.types.size).all λt=>match P.underlying t with | some (.slice e)=>decide (0<P.cellsOf e) | _=>aa)=aa)
 (b8:f.resultTypes=#[tb]) (EI:P.underlying tb=U .bool) (J6:∀t∈f.params.toList,t<P.types.size) (EL:s.vars=[]) (x6:(s.fn H ds).results=[.lit (.bool aa)]/\(s.fn H ds).args=ds/\(s.fn H ds).vars=[])
 (hW:DataW.Whole enc P f.params.toList s.vars aq W args.toList ds [] before) {W' : World} (hos:W'.os=W.os) (ame:W'.output=W.output) (axX:∀a,W'.frozen? a=W.frozen? a) (nQ:∀b,b<W.heap.size->W'.heap[b]?=W.heap[b]?) :
 s.post enc P f aq aa aq aq W args (.bool aa) W' := by
 have GF := hW;obtain⟨p,q,hA,hV,rfl,Ox,zC⟩:=hW;rw[EL] at hV;obtain⟨_,rfl⟩:=trodVars_none hV;have al0:W.keptBut W' (λ_=>False):=by
  refine⟨hos,ame,λi hi=>?_⟩
  grind
 simp only[eC] at GF;have pg:s.fn H (ds++[])=s.fn H ds:=by simp
 refine post_of_same (pa:=p) (pv:=[]) GF (λb Lj hd=>?_) (λLj hs=>?_) (λLj hs=>?_) (by simp) (World.keptBut_mono (λ_ h=>h.elim) al0) ?_ (ok_one b8 rfl (okWide_bool_mk EI _))
 .rw[pg,x6.1,b8];exact trodAll_cons_mk (shut_bool EI _) trodAll_mk0
 .rw[pg,x6.2.1];have az:=DataW.TrodAll.lt hA;have key:∀(ts:List TypeId) (vs:List Value) (ds:List (DataW H)) (ps:List MemPlace),(∀t∈ts,t<P.types.size)->DataW.TrodAll enc P W 0 (λ_=>aa) aa ts vs ds ps->(∀x∈ps,x.block<W.heap.size)->(∀x∈ps,Lj x.block=aa)->DataW.TrodAll enc P W' 0 Lj aa ts vs ds ps:=by
   intro ts;induction ts with
   | nil=>intro vs ds ps _ h _ _;cases vs<;>cases ds<;>first | exact h | exact h.elim
   | cons t ts ih =>
    intro vs ds ps hT h az hs;cases vs with
    | nil=>exact h.elim
    | cons v vs =>
     cases ds with
     | nil=>exact h.elim
     | cons d ds =>
      obtain⟨p,q,⟨n,h1⟩,h2,rfl⟩:=h;refine⟨p,q,⟨n,?_⟩,ih vs ds q (λt ht=>hT t (by simp[ht])) h2 (λx hx=>az x (by simp[hx])) (λx hx=>hs x (by simp[hx])),rfl⟩;refine DataW.trod_stays (kids_rows hl hm) (λ{t e} ht he=>slices_full_of P hz t e ht he) (by simp) (hT t (by simp)) h1 (λx hx=>?_) (λx hx=>hs x (by simp[hx]));have hb:=az x (by simp[hx]);cases x with
      | cell b off=>exact D8 (nQ b hb)
      | map b=>exact nQ b hb
  grind
 .rw[pg,x6.2.2,EL];rfl
 .omega
def arO{enc:TypeId × Value->H}{s:ChangeSpec}{ds:List (DataW H)}
 (hl:laidOutB P=aa) (hm:mapsRowed P=aa) (hz:((bH P.types.size).all λt=>match P.underlying t with | some (.slice e)=>decide (0<P.cellsOf e) | _=>aa)=aa)
 (b8:f.resultTypes=#[tb]) (EI:P.underlying tb=U .bool) (J6:∀t∈f.params.toList,t<P.types.size) (EL:s.vars=[]) (x6:(s.fn H ds).results=[.lit (.bool aa)]/\(s.fn H ds).args=ds/\(s.fn H ds).vars=[])
 (hW:DataW.Whole enc P f.params.toList s.vars aq W args.toList ds [] before) {E' : Env} (bC:Fr (xQ W) E') :
 s.post enc P f aq aa aq aq W args (.bool aa) E'.w :=
 arP hl hm hz b8 EI J6 EL x6 hW bC.os bC.output bC.jU λb hb=>(bC.same b hb (.inl rfl)).1
section
variable {P:Program} {W:World} {r:Reach} {b:Nat} {t:TypeId} {v:Value} {E:Env}
variable{e:TypeId}
def avW{x:V}(ht:P.underlying t=U (.slice e))(hv:Value.okWide P W r b t v)(h:RL E [x] v.cells.toList):R E x v:=by
 obtain⟨a,len,cap,rfl⟩:=okWide_slice ht hv;simpa [Value.cells,RL] using h
end
def tP(s:List UInt8):Value:=.string ⟨s.toArray⟩
section
variable {H:Type} {enc:TypeId × Value->H} {P:Program} {W:World}
def ZG(ps:List (List UInt8 × List UInt8)):DataW H:=.agg (ps.map λp=>.agg [.lit (.string p.1),.lit (.string p.2)])
variable{G:Type}
def YI{l:List G}(h:l.length=2):∃a b,l=[a,b]:=by
 match l,h with
 | [a,b],_=>exact⟨a,b,rfl⟩
def acq{s:ByteArray}{l:List UInt8}(h:s.data.toList=l):Value.string s=tP l:=by subst h;simp[tP]
theorem chunks{G:Type}{k:Nat}(f:Nat->List G):∀(n:Nat) (cs:List G),cs.length=n*k->(∀i,i<n->(cs.drop (i*k)).take k=f i)->cs=((bH n).map f).flatten
 | 0,cs,hl,_=>by simp at hl;simp[hl]
 | n + 1, cs, hl, h => by
  rw[IB] at hl;have h1:=chunks (k:=k) f n (cs.take (n*k)) (by rw[o8];omega) λi hi=>by
   have:i*k+k<=n*k:=by rw[<-IB];exact va _ hi
   rw[Ta,Tq,Iz (by omega)]
   grind
  have h2:=h n (by omega);rw[yQ (by rw[List.length_drop];omega)] at h2;rw[il,gm,u0,<-h1];simp only[cQ,fp,lj,FU,eC];rw[<-h2,u_]
variable{cs:List Value}{e:TypeId}{fuel:Nat}{sp:Nat->Bool}
def afY{base:Nat}{held:Bool}{tf:TypeId}{fs:Array Field}{x:DataW H × List MemPlace}{a b:List UInt8}
 (he:P.underlying e=U (.struct fs)) (hs:fs.size=2) (Ou:(fs[0]?).map (λf=>(f.type,f.offset))=U (tf,0)) (s8:(fs[1]?).map (λf=>(f.type,f.offset))=U (tf,1))
 (Kc:P.underlying tf=U .string) (JQ:P.cellsOf tf=1) (zp:P.cellsOf e=2)
 (h:DataW.trod enc P W base sp held fuel e cs=U x) (hx:x.1 = .agg [.lit (.string a),.lit (.string b)]):cs=[tP a,tP b]:=by
 obtain⟨xs,m,rfl,rfl,hl,C0,hf⟩:=DataW.trod_struct he h;rw[zp] at hl;rw[hs] at C0;obtain⟨u,v,rfl⟩:=YI hl;obtain⟨x0,x1,rfl⟩:=YI C0;obtain⟨f0,g0,g1⟩:=ec.1 Ou;obtain⟨f1,g2,g3⟩:=ec.1 s8;simp only[tY] at g1 g3;have h0:=hf 0 f0 g0;have h1:=hf 1 f1 g2;rw[g1.1,g1.2,JQ] at h0;rw[g3.1,g3.2,JQ] at h1;obtain⟨s0,p0,q0,_⟩:=DataW.trod_string Kc h0;obtain⟨s1,p1,q1,_⟩:=DataW.trod_string Kc h1;simp only[L9,FT,yR,List.take_zero,mZ,ln] at p0 p1;subst p0 p1 q0 q1;simp only[cQ,fp,DataW.agg.injEq,mZ,DataW.lit.injEq,Lit.string.injEq,ln] at hx;rw[acq hx.1,acq hx.2]
variable{t:TypeId}
theorem afZ{base:Nat}{held:Bool}{tf:TypeId}{n:Nat}{fs:Array Field}{ps:List (List UInt8 × List UInt8)}{p:List MemPlace}
 (ht:P.underlying t=U (.array n e)) (he:P.underlying e=U (.struct fs)) (hs:fs.size=2) (Ou:(fs[0]?).map (λf=>(f.type,f.offset))=U (tf,0)) (s8:(fs[1]?).map (λf=>(f.type,f.offset))=U (tf,1))
 (Kc:P.underlying tf=U .string) (alF:P.cellsOf tf=1) (zp:P.cellsOf e=2) (JQ:P.cellsOf t=n*2)
 (h:DataW.trod enc P W base sp held fuel t cs=U (ZG ps,p)):cs=(ps.flatMap λp=>[p.1,p.2]).map tP:=by
 obtain⟨xs,m,rfl,hx,hl,C0,hi⟩:=DataW.trod_array ht h;rw[JQ] at hl;have uE:xs.map (·.1)=ps.map λp=>(.agg [.lit (.string p.1),.lit (.string p.2)]:DataW H):=by
  have:=mf Prod.fst hx
  simpa [ZG] using this.symm
 have pk:ps.length=n:=by
  have:=mf List.length uE
  grind
 have hc:=chunks (λi=>match ps[i]? with | some p=>[tP p.1,tP p.2] | none=>[]) n cs hl (λi eM=>by
  have h1:=hi i eM;rw[zp] at h1;have XI:xs[i]?=U xs[i]:=by simp
  have EG:ps[i]?=U ps[i]:=by simp
  rw[XI] at h1;have h2:=mf (·[i]?) uE;simp only[AD,XI,EG,yX,bq] at h2;rw[EG];exact afY he hs Ou s8 Kc alF zp h1 h2)
 rw[hc,<-pk];clear hc hi C0 hl hx uE h pk;have key:∀qs:List (List UInt8 × List UInt8),((bH qs.length).map λi=>match qs[i]? with | some p=>[tP p.1,tP p.2] | none=>[])=qs.map λp=>[tP p.1,tP p.2]:=λqs=>by
  apply List.ext_getElem?
  grind
 rw[key,List.map_flatMap,List.flatMap_def];rfl
end
def Dd:V->Value
 | .aQ s=>tP s
 | .int k n=>.int k n
 | _=>.bool aq
def isLit:V->Bool
 | .aQ _=>aa
 | .int _ _=>aa
 | _=>aq
def aob{E:Env}{x:V}(h:isLit x=aa)(v:Value):R E x v↔v=Dd x:=by cases x<;>simp[isLit] at h<;>simp[R,Dd,tP]
def Hw(B:Nat->Option (List V)):ab:=⟨λ_=>ah,λ_=>ah,B⟩
def Mf(W:World)(B:Nat->Option (List V)):Prop:=∀b cs,B b=U cs->(∃e,W.heap[b]?=U (.cells (cs.map Dd).toArray e (0,0)))/\∀x∈cs,isLit x=aa
def YL{E:Env}:∀{cs:List V},(∀x∈cs,isLit x=aa)->RL E cs (cs.map Dd)
 | [],_=>by simp[RL]
 | x :: cs, h => by
  simp only[cQ,RL];exact⟨(aob (h x (by simp)) _).2 rfl,YL λy hy=>h y (by simp[hy])⟩
variable{B:Nat->Option (List V)}
theorem aoQ(h:Mf W B):(xQ W).ok (Hw B):=by
 refine⟨λ_ _ h=>by simp[Hw] at h,λ_ _ h=>by simp[Hw] at h,λ_ _=>rfl,⟨0,λ_ _=>rfl⟩,λb cs hb=>?_⟩;obtain⟨⟨e,he⟩,hl⟩:=h b cs hb;refine D0 (vs:=cs.map Dd) (YL hl) (λv hv=>?_) (λj v hj=>?_) λ_ _=>trivial
 .obtain⟨x,hx,rfl⟩:=AE.1 hv
  have:=hl x hx
  cases x<;>simp[isLit] at this<;>rfl
 .show W.cell? _=_;simp only[World.cell?,he,mc]
  grind
def anw{enc:TypeId × Value->H}{n:FuncId}{s:ChangeSpec}{vs:List V}{ds:List (DataW H)}
 (hP:cy P n vs (Hw B) λv σ' => v = .bool aa/\σ' = Hw B) (hg:Mf W B) (hR:RL (xQ W) vs args.toList)
 (hl:laidOutB P=aa) (hm:mapsRowed P=aa) (hz:((bH P.types.size).all λt=>match P.underlying t with | some (.slice e)=>decide (0<P.cellsOf e) | _=>aa)=aa)
 (b8:f.resultTypes=#[tb]) (EI:P.underlying tb=U .bool) (J6:∀t∈f.params.toList,t<P.types.size) (EL:s.vars=[]) (x6:(s.fn H ds).results=[.lit (.bool aa)]/\(s.fn H ds).args=ds/\(s.fn H ds).vars=[])
 (hW:DataW.Whole enc P f.params.toList s.vars aq W args.toList ds [] before) :
 Calls P n args W λe W' => ∃v,e = .returned v/\s.post enc P f aq aa aq aq W args v W' := by
 refine(hP.2 (xQ W) args (λ_=>rfl) (aoQ hg) hR).mono ?_;rintro e w' ⟨v,x,E',σ',rfl,rfl,_,_,WU,bC,rfl,_⟩;simp only[R] at WU;subst WU;exact⟨_,rfl,arO hl hm hz b8 EI J6 EL x6 hW bC⟩
section
variable {H:Type} {enc:TypeId × Value->H} {P:Program} {W:World}
variable{t:TypeId}
theorem X'{name:String}{d:DataW Unit}{rest:List (String × DataW Unit)}{g:Nat}(h:laidMet P ((name,d)::rest) W)(hg:P.globalNamed name=U g)(ht:(P.globals[g]?).map (·.type)=U t){vs:List Value}
 (hc:∀(cs:List Value) (fuel:Nat) (p:List MemPlace),DataW.trod (λ_=>()) P W 0 (λ_=>aa) aq fuel t cs=U (d,p)->cs=vs) (hv:vs≠[]):∃e,W.heap[g]?=U (.cells vs.toArray e (0,0)):=by
 obtain⟨ps,⟨g',t',cs,fuel,p,q,um,tm,jW,hd,_,G1⟩,_,hb⟩:=h;obtain rfl:g' = g:=yY (um.symm.trans hg);obtain rfl:t' = t:=yY (tm.symm.trans ht);have cO:=hc _ _ _ hd;have alD : cs=vs.toArray:=by grind
 obtain⟨⟨c,e,zp⟩,_⟩:=hb g' 0 (by
  rw[G1];refine List.mem_append_left _ (List.mem_append_left _ ?_);rw[alD];cases vs with
  | nil=>exact absurd rfl hv
  | cons a l=>simp[MemPlace.row])
 refine⟨e,?_⟩;rw[zp];simp only[World.var?,hg,yU,zp,bq] at jW
 grind
end
section
variable {H:Type} (enc:TypeId × Value->H) (P:Program) (W:World) (B:DataW H->Nat)
def vd(N:Nat)(t:TypeId)(F:List V->Nat->Prop):Prop :=
 ∀n,n<N->∀cs x,DataW.trod enc P W 0 (λ_=>aa) aa n t cs=U x->∃l,RL (xQ W) l cs/\(∀v∈cs,v.oneCell' = aa)/\F l (B x.1)
end
section
variable {H:Type} {enc:TypeId × Value->H} {P:Program} {W:World} {B:DataW H->Nat} {BA:List (DataW H)->Nat} {N:Nat} {t:TypeId}
variable{F:List V->Nat->Prop}
def vd.mono{M:Nat}(h:vd enc P W B N t F)(hM:M<=N):vd enc P W B M t F:=λn hn=>h n (wa hn hM)
def vd.to{G'':List V->Nat->Prop}(h:vd enc P W B N t F)(hg:∀l b,F l b->G'' l b):vd enc P W B N t G'':=λn hn cs x hx =>
 let ⟨l,h1,h2,h3⟩:=h n hn cs x hx
 ⟨l,h1,h2,hg _ _ h3⟩
def avH(ht:P.underlying t=U .string)(hB:B3 B BA):vd enc P W B N t λl b=>∃s:List UInt8,l=[.aQ s]/\b=s.length+1:=λn _ cs x h =>
 let ⟨s,h1,h2,h3⟩:=asP ht hB h
 ⟨_,h1,h2,s,rfl,h3.symm⟩
variable{e:TypeId}{G:Type}
def avF(ea:G->List V)(sz:G->Nat){k:Nat}(hB:B3 B BA)(ht:P.underlying t=U (.slice e))(hk:P.cellsOf e=k)(iH:0<k)(hlen:∀y,(ea y).length=k)
 (nz:vd enc P W B N e λl b=>∃y,l=ea y/\sz y<=b):vd enc P W B (N+1) t λl b=>∃ys:List G,l=[.sl .no k (ys.map ea)]/\(ys.map sz).sum+1<=b:=by
 intro n hn cs x h;obtain⟨ys,h1,h2,h3⟩:=asO ea sz hB ht hk iH hlen (λm hm cs x h=>by
  obtain⟨l,k1,k2,y,rfl,k3⟩:=nz m (by omega) cs x h;exact⟨y,k1,k2,k3⟩) h
 exact⟨_,h1,h2,ys,rfl,h3⟩
def avG(ea:G->List V)(sz:G->Nat){k:Nat}(hB:B3 B BA)(ht:P.underlying t=U (.slice e))(hk:P.cellsOf e=k)(iH:0<k)(hlen:∀y,(ea y).length=k)
 (nz:vd enc P W B N e λl b=>∃y,l=ea y/\sz y<=b):vd enc P W B N t λl b=>∃ys:List G,l=[.sl .no k (ys.map ea)]/\(ys.map sz).sum+1<=b :=
 (avF ea sz hB ht hk iH hlen nz).mono (Nat.le_succ N)
end
end Go.Am
namespace Go.Proofs.Tryz
open Go.Am Go.ChangeShapes Go.WideShapes Go.ChangeAt Go.RowKit
open Go.Proofs.YtnpggmhoandloaaGreatDoor
def Ut(H:Type):B3 (H:=H) Rows.uptoBulk Rows.uptoBulkAll :=
 ⟨λ_=>by simp only[Rows.uptoBulk],λ_ _=>by simp only[Rows.uptoBulk],λ_=>by simp only[Rows.uptoBulk],by simp only[Rows.uptoBulk],λ_ _=>by simp only[Rows.uptoBulk],λ_=>by simp only[Rows.uptoBulk],by simp only[Rows.uptoBulkAll],λ_ _=>by simp only[Rows.uptoBulkAll]⟩
def laid:laidOutB prog=true:=by kernel_rfl
def att:mapsRowed prog=true:=by kernel_rfl
def aku:((bH prog.types.size).all λt=>match prog.underlying t with | some (.slice e)=>decide (0<prog.cellsOf e) | _=>aa)=true:=by kernel_rfl
def own:ownKnob prog.godebug=none:=by kernel_rfl
def Wi:Nat->Option (List V):=λb=>if b=0 then U iO else if b=1 then U Ak else ah
variable{W:World}
def akT(h:laidMetH prog Rows.stackDropsRow.laid W):Mf W Wi:=by
 have h0:laidMet prog Rows.stackDropsRow.laid W:=h;have h1:=laidMet.tail h0;obtain⟨e0,k0⟩:=X' (g:=0) (t:=238) (vs:=iO.map Dd) h0 (by kernel_rfl) (by kernel_rfl) (λcs fuel p hd=>(afZ (ps:=j8) underlying238 underlying180 (by kernel_rfl) (by kernel_rfl) (by kernel_rfl) underlying9 (by kernel_rfl) (by kernel_rfl) (by kernel_rfl) hd).trans rfl) (by simp[iO,j8]);obtain⟨e1,k1⟩:=X' (g:=1) (t:=320) (vs:=Ak.map Dd) h1 (by kernel_rfl) (by kernel_rfl) (λcs fuel p hd=>(Lib.cells_of_tab (zs:=LC) underlying320 underlying5 (by kernel_rfl) (by kernel_rfl) hd).trans rfl) (by simp[Ak,LC]);intro b cs hb;simp only[Wi] at hb;split at hb
 .rename_i hq;subst hq;obtain rfl:=yY hb;exact⟨⟨e0,k0⟩,by decide⟩
 split at hb
 .rename_i hq;subst hq;obtain rfl:=yY hb;exact⟨⟨e1,k1⟩,by decide⟩
 simp at hb
def P6:DataW Unit->List Value
 | .lit (.int k n)=>[.int k n]
 | .lit (.string s)=>[tP s]
 | _=>[]
def anx:DataW Unit->List Value
 | .agg ds=>ds.flatMap P6
 | d=>P6 d
def anz:DataW Unit->List Value
 | .agg ds=>ds.flatMap anx
 | d=>P6 d
def anA(h:Array Obj)(x:Nat × DataW Unit):Array Obj:=h.modify x.1 fun
 | .cells _ t frozen=>.cells (anz x.2).toArray t frozen
 | o=>o
noncomputable def P3 (os:Os):World :=
 {World.holding prog os ⟨#[],#[],[]⟩ with heap:=[(0,Rows.laid_clearance_command_forms),(1,Rows.laid_math_bits_deBruijn64tab)].foldl anA (World.holding prog os ⟨#[],#[],[]⟩).heap}
set_option maxRecDepth 100000
section
variable {H:Type} {enc:TypeId × Value->H} {W:World} {N:Nat}
abbrev TL(enc:TypeId × Value->H)(W:World)(N:Nat)(t:TypeId)(F:List V->Nat->Prop):Prop:=vd enc prog W (Rows.uptoBulk (H:=H)) N t F
def asK:TL enc W N 9 λl b=>∃y:List UInt8,l=[.aQ y]/\y.length+1<=b:=(avH underlying9 (Ut H)).to λ_ _ ⟨y,h,k⟩=>⟨y,h,by omega⟩
def asE:TL enc W N 22 λl b=>∃ys:List (List UInt8),l=[.sl .no 1 (cu ys)]/\(ys.map λs=>s.length+1).sum+1<=b :=
 avG (λs:List UInt8=>[V.aQ s]) (λs=>s.length+1) (Ut H) underlying22 (show prog.cellsOf 9=1 by kernel_rfl) (by decide) (λ_=>rfl) (asK.to λ_ _ ⟨y,h,k⟩=>⟨y,h,k⟩)
end
variable{j:Nat}
def LP{l:List aC}(h:j<l.length):(cu (cc l))[((j:Nat):Int).toNat]?=U [.aQ l[j].an]:=by simp[cu,cc,h]
variable{o:Option Nat}
def QS:decide (bW o<0)=o.isNone:=by
 cases o with
 | none=>rfl
 | some k=>exact aD (by simp only[bW];omega)
def LI:IntKind.i64.wrap (0+1)=1/\IntKind.i64.wrap (1+1)=2:=by decide
def ao8(s:aH)(c:ar)(Z:ab)(h1:s.bc.length<=100000)(h2:s.vars.length<=100000)(hn:c.ak.length<=100000)(hp:c.aX.length<=100000) :
 cy prog 122 [.agg s.enc,.agg c.enc] Z λv σ' => ∃D,Z.aS D=ah/\v = .sl (.tk D) 2 ((rN s c c.ak.length++qg c).map aM.enc)/\σ' = Z.aU D (rN s c c.ak.length++qg c).length:=by
 have jL:aJ=268435456:=rfl;have hw:(cc c.ak).length<=100000:=by rw[sQ];exact hn
 refine fq func122 ?_;simp only[aP,am,aT,Nat.reduceAdd,aH.al,b9,bG];refine cl (Sl c.ak Z hn) ?_;simp only[am,b7];have nR:(decide (c.op=6)=aa/\dw c.op=aa)\/(decide (c.op=6)=aq/\dw c.op=decide (c.op=7)):=by
  rw[dw];cases decide (c.op=6)<;>simp
 rcases nR with ⟨k,kv⟩ | ⟨k,kv⟩
 case' inl=>simp only[am,k]
 case' inr=>simp only[am,b7,k]
 all_goals
  refine ch (c.ak.length) (λi (D:Nat)=>⟨[.any,.any,.ptr (.au 0) 0,.ptr (.au 1) 0,.any,.sl (.tk D) 2 ((rN s c i).map aM.enc),.sl .no 1 (cu (cc c.ak)),.bool (dw c.op),.int .i64 (i:Nat)]++aj 112 .any,[s.enc,c.enc],Z.aU D (rN s c i).length⟩) (λi D=>(Z.aS D=ah)) λF hF JF aZ=>⟨?_,?_,?_⟩
  .refine xP 0 λD aW=>⟨D,fF (aZ _ _) aW,?_,?_,?_⟩
   all_goals simp[hF,aj,ji,rN,kv]
  .clear kv k;rintro i D hi aW;have hL:=@aaH s c i;have hlen:=@La s c i;have hg:c.ak.getD i ⟨[],0⟩=c.ak[i]:=by simp[List.getD,hi]
   have hR:z_ s c i=if c.op=3 then(if fZ s c.ak[i].an=aq then [⟨3,c.ak[i].pos⟩] else if lR s c.ak[i].an=aq then [⟨4,c.ak[i].pos⟩] else [])
    else if decide (bW (dL (cc c.ak) c.ak[i].an)<(i:Nat))||(dw c.op&&fZ s c.ak[i].an) then [⟨3,c.ak[i].pos⟩] else []:=by rw[z_];simp only[hg]
   simp only[hF,aj,am,cf hi,gk,sQ,bG];refine ix (sO hi) ?_;simp only[am,tS,b7]
   by_cases h3:c.op=3
   .rw[aL h3] at hR;simp only[am,aH.al,aG h3];refine ix (LP hi) ?_;simp only[am,aH.al];refine bn.intro (Ql s c.ak[i].an _ h1 h2) ?_;simp only[am];cases hv:fZ s c.ak[i].an with
    | false =>
     rw[hv,aL rfl] at hR;simp only[am,Nat.reduceAdd];refine fg (by simp only[aF,da,cZ];omega) (by rw[aF];exact dD) ?_;rw[aF];simp only[am,aK,dU,bt hi,eZ];refine c7 (D) hi ?_ ?_ ?_ ?_ ?_ ?_
     .exact fF (aZ _ _) (aW)
     all_goals simp[hF,aj,am,ba,bE,cn,V.lo,hL,hR,aM.enc,aH.bR,ar.enc,ar.cJ]
    | true =>
     rw[hv,aB (by simp)] at hR;simp only[am,aH.al];refine ix (LP hi) ?_;simp only[am,aH.al];refine bn.intro (Bt s c.ak[i].an _ h1) ?_;simp only[am];have hq:decide (bW (fD s.bc c.ak[i].an)<0) = !lR s c.ak[i].an:=by
      rw[lR];cases fD s.bc c.ak[i].an with
      | none=>rfl
      | some k=>exact aD (by simp only[bW];omega)
     rw[hq];cases hl:lR s c.ak[i].an with
     | false =>
      rw[hl,aL rfl] at hR;simp only[am,Nat.reduceAdd];refine fg (by simp only[aF,da,cZ];omega) (by rw[aF];exact dD) ?_;rw[aF];simp only[am,aK,dU,bt hi,eZ];refine c7 (D) hi ?_ ?_ ?_ ?_ ?_ ?_
      .exact fF (aZ _ _) (aW)
      all_goals simp[hF,aj,am,ba,bE,cn,V.lo,hL,hR,aM.enc,aH.bR,ar.enc,ar.cJ]
     | true =>
      rw[hl,aB (by simp)] at hR;simp only[am,aK];simp only[bt hi];refine c7 (D) hi ?_ ?_ ?_ ?_ ?_ ?_
      .exact fF (aZ _ _) (aW)
      all_goals simp[hF,aj,am,ba,bE,cn,V.lo,hL,hR,aH.bR,ar.enc,ar.cJ]
   .rw[aB h3] at hR;simp only[am,aD h3];refine ix (LP hi) ?_;simp only[am];refine bn.intro (zZ (cc c.ak) c.ak[i].an _ hw) ?_;simp only[am];cases hd:decide (bW (dL (cc c.ak) c.ak[i].an)<(i:Nat)) with
    | true =>
     rw[hd,S0,aL rfl] at hR;simp only[am,Nat.reduceAdd];refine fg (by simp only[aF,da,cZ];omega) (by rw[aF];exact dD) ?_;rw[aF];simp only[am,aK,dU,bt hi,eZ];refine c7 (D) hi ?_ ?_ ?_ ?_ ?_ ?_
     .exact fF (aZ _ _) (aW)
     all_goals simp[hF,aj,am,ba,bE,cn,V.lo,hL,hR,aM.enc,aH.bR,ar.enc,ar.cJ]
    | false =>
     rw[hd,yK] at hR;cases hv:dw c.op with
     | false =>
      rw[hv,FO,aB (by simp)] at hR;simp only[am,aK];simp only[bt hi];refine c7 (D) hi ?_ ?_ ?_ ?_ ?_ ?_
      .exact fF (aZ _ _) (aW)
      all_goals simp[hF,aj,am,ba,bE,cn,V.lo,hL,hR,hv,aH.bR,ar.enc,ar.cJ]
     | true =>
      rw[hv,lh] at hR;simp only[am,aH.al];refine ix (LP hi) ?_;simp only[am,aH.al];refine bn.intro (Ql s c.ak[i].an _ h1 h2) ?_;simp only[am];cases hl:fZ s c.ak[i].an with
      | false =>
       rw[hl,aB (by simp)] at hR;simp only[am,aK];simp only[bt hi];refine c7 (D) hi ?_ ?_ ?_ ?_ ?_ ?_
       .exact fF (aZ _ _) (aW)
       all_goals simp[hF,aj,am,ba,bE,cn,V.lo,hL,hR,hv,aH.bR,ar.enc,ar.cJ]
      | true =>
       rw[hl,aL rfl] at hR;simp only[am,Nat.reduceAdd];refine fg (by simp only[aF,da,cZ];omega) (by rw[aF];exact dD) ?_;rw[aF];simp only[am,aK,dU,bt hi,eZ];refine c7 (D) hi ?_ ?_ ?_ ?_ ?_ ?_
       .exact fF (aZ _ _) (aW)
       all_goals simp[hF,aj,am,ba,bE,cn,V.lo,hL,hR,hv,aM.enc,aH.bR,ar.enc,ar.cJ]
  .clear kv k;rintro D aW;have hlen:=@La s c c.ak.length;have hz:qg c=qX c c.aX.length 0:=by rw[RD,du];rfl
   simp only[hF,aj,am,aK,ck,aK,gk,sQ];generalize rN s c c.ak.length=L at hlen;have l0:=λj k=>@atx c j k
   have r1:=λ{j} h=>@atz c j h
   have r2:=λ{j} h=>@atA c j h
   have r3:=λ{j} h=>@aty c j h
   have r0:qX c 0 0=[]:=by rw[RD];rfl
   rw[hz];obtain⟨Q,hQ⟩:∃Q:Nat->Nat->List aM,∀j k,Q j k=L++qX c j k:=⟨_,λ_ _=>rfl⟩;have q0:L=Q 0 0:=by rw[hQ,r0,eC]
   have q1:∀{j},(h:j<c.aX.length)->Q j 1=Q j 0++mL c c.aX[j].1:=λ{j} h=>by rw[hQ,hQ,r1 h,eY]
   have q2:∀{j},(h:j<c.aX.length)->Q j 2=Q j 1++mL c c.aX[j].2:=λ{j} h=>by rw[hQ,hQ,r2 h,eY]
   have q3:∀{j},(h:j<c.aX.length)->Q (j+1) 0=Q j 2:=λ{j} h=>by rw[hQ,hQ,r3 h]
   have ql:∀j k,(Q j k).length<=400000:=λj k=>by have:=l0 j k;rw[hQ,bL];omega
   have qn:Q c.aX.length 0=L++qX c c.aX.length 0:=hQ _ _;rw[<-qn,q0];clear qn hQ r0 r1 r2 r3 l0 hz;refine ch (c.aX.length) (λj (x:Unit)=>⟨[.any,.any,.ptr (.au 0) 0,.ptr (.au 1) 0,.any,.sl (.tk D) 2 ((Q j 0).map aM.enc),.sl .no 1 (cu (cc c.ak)),.any,.any,.any,.int .i64 (j:Nat)]++aj 110 .any,[s.enc,c.enc],Z.aU D (Q j 0).length⟩) (λj x=>(True)) λF2 bV pI dr=>⟨?_,?_,?_⟩
   .refine en dr (()) (trivial) ?_ ?_ ?_
    all_goals simp[bV,aj,am,ba]
   .rintro j x hj -;have q1:=q1 hj;have q2:=q2 hj;have q3:=q3 hj;simp only[bV,aj,am,cf hj,aF,bG];refine ch (2) (λk (y:Unit)=>⟨[.any,.any,.ptr (.au 0) 0,.ptr (.au 1) 0,.any,.sl (.tk D) 2 ((Q j k).map aM.enc),.sl .no 1 (cu (cc c.ak)),.any,.any,.any,.int .i64 (j:Nat),.int .i64 (k:Nat)]++aj 109 .any,[s.enc,c.enc],Z.aU D (Q j k).length⟩) (λk y=>(True)) λF3 lO S5 vt=>⟨?_,?_,?_⟩
    .refine en vt (()) (trivial) ?_ ?_ ?_
     all_goals simp[lO,aj,am,ba]
    .rintro k y hk -
     rcases(show k=0\/k=1 by omega) with rfl | rfl
     .have OJ:=ql j 0;have hR:mL c c.aX[j].1=cY (dL (cc c.ak) c.aX[j].1.an).isNone 3 c.aX[j].1.pos:=rfl;have hq:=QS (o:=dL (cc c.ak) c.aX[j].1.an);simp only[lO,aj,am,bu,Int.reduceLT,bG,show((0:Nat):Int)=0 from rfl];refine ix (BG hj) ?_;simp only[am,cK];refine tq ?_;simp only[am,Int.reduceToNat,Nat.reduceMul,eJ];refine cl (zZ (cc c.ak) c.aX[j].1.an _ hw) ?_;simp only[am,hq];cases hd:(dL (cc c.ak) c.aX[j].1.an).isNone with
      | true =>
       rw[hd] at hR;simp only[am,bG];refine ix (BG hj) ?_;simp only[am,cK];refine tq ?_;simp only[am,Nat.reduceAdd,Int.reduceToNat,Nat.reduceMul,eJ];refine fg (by simp only[aF,da,cZ];omega) (by rw[aF];exact dD) ?_;rw[aF];simp only[am,aK,dU,eZ,LI];refine c7 (()) hk ?_ ?_ ?_ ?_ ?_ ?_
       .exact fF (vt _ _) (trivial)
       all_goals simp[lO,aj,am,ba,bE,cn,V.lo,q1,hR,cY,aM.enc,aH.bR,ar.enc,ar.cJ]
      | false =>
       rw[hd] at hR;simp only[am,aK,LI];refine c7 (()) hk ?_ ?_ ?_ ?_ ?_ ?_
       .exact fF (vt _ _) (trivial)
       all_goals simp[lO,aj,am,ba,bE,cn,V.lo,q1,hR,cY,aH.bR,ar.enc,ar.cJ]
     .have OJ:=ql j 1;have hR:mL c c.aX[j].2=cY (dL (cc c.ak) c.aX[j].2.an).isNone 3 c.aX[j].2.pos:=rfl;have hq:=QS (o:=dL (cc c.ak) c.aX[j].2.an);simp only[lO,aj,am,bu,Int.reduceLT,bG,show((1:Nat):Int)=1 from rfl];refine ix (BG hj) ?_;simp only[am,cK];refine tq ?_;simp only[am,Int.reduceToNat,Nat.reduceMul,eJ];refine cl (zZ (cc c.ak) c.aX[j].2.an _ hw) ?_;simp only[am,hq];cases hd:(dL (cc c.ak) c.aX[j].2.an).isNone with
      | true =>
       rw[hd] at hR;simp only[am,bG];refine ix (BG hj) ?_;simp only[am,cK];refine tq ?_;simp only[am,Nat.reduceAdd,Int.reduceToNat,Nat.reduceMul,eJ];refine fg (by simp only[aF,da,cZ];omega) (by rw[aF];exact dD) ?_;rw[aF];simp only[am,aK,dU,eZ,LI];refine c7 (()) hk ?_ ?_ ?_ ?_ ?_ ?_
       .exact fF (vt _ _) (trivial)
       all_goals simp[lO,aj,am,ba,bE,cn,V.lo,q2,hR,cY,aM.enc,aH.bR,ar.enc,ar.cJ]
      | false =>
       rw[hd] at hR;simp only[am,aK,LI];refine c7 (()) hk ?_ ?_ ?_ ?_ ?_ ?_
       .exact fF (vt _ _) (trivial)
       all_goals simp[lO,aj,am,ba,bE,cn,V.lo,q2,hR,cY,aH.bR,ar.enc,ar.cJ]
    .rintro y -;simp only[lO,aj,am,aK,Nat.reduceEqDiff,cX,aK,Int.reduceLT,show((2:Nat):Int)=2 from rfl,aD (show ¬(2:Int)<2 by decide),bt hj];rw[<-q3];refine c7 (()) hj ?_ ?_ ?_ ?_ ?_ ?_
     .exact fF (dr _ _) (trivial)
     all_goals simp[bV,aj,am,ba,bE,cn,V.lo,aH.bR,ar.enc,ar.cJ]
   .rintro x -;simp only[bV,aj,am,aK,ck,aK,aF,bG];exact aaA rfl (ab.a8 _) ⟨D,aW,rfl,rfl⟩
end Go.Proofs.Tryz
