/-
  Part 7 of the proof of StackDropsUptoCardSaid: a logic over the model, the forms of the functions that the law reaches, and what they compute.
-/
import Derived.Test.YtnpggmhoandloaaGreatDoorProg
import Derived.Test.YtnpggmhoandloaaGreatDoorDrops6
set_option linter.unusedVariables false
set_option linter.unusedSimpArgs false
set_option linter.defProp false
set_option linter.unusedSectionVars false
set_option maxRecDepth 4000
set_option maxHeartbeats 4000000
open Option renaming some->U,none->ae
open Bool renaming true->aa,false->ak
open List renaming replicate->aA,range->cc,getD->gU,zipWith->lg
open Eq renaming mpr->eN
open Ne renaming symm->fm
namespace Go.Proofs.Tryz
open Go.Am
def aee:aT prog 114 (sq [rg 6 [ox 3 2 0,ox 5 5 2,oz 15,oz 2],.scope (sq [sq [rg 15 [om 1,nB .lss 0,gB,om 1,fo 0 3,nL,nb .geq 18,gZ,gB,ol 5 5,oC 182 [25],nn,gZ],cr 28 6 [oz 15,oz 2]],rg 8 [oz 15],rg 29 [ol 5 5,oW [0,0,1,7,10,0] [(0,5,29)],nO (.new 6),o1 9],.skip,bl 0 (sq [sq [rg 32 [om 9,nO .len,nB .gtr 0],cx 34 0],.block 1 (sq [rg 35 [om 9,nO .len,nB .sub 1,o1 10],rg 38 [om 9,om 10,oO (.idx 6) [38,39],nl 6,oZ 11 [0,0,1,7,10,0],o2 6 11],rg 12 [oi 3],sq [rg 42 [of 0 11,nF 0],.block 2 (sq [sq [rg 46 [oB .eql 44 1,o1 45],cd 45 .skip (rg 47 [oB .eql 44 7,o1 45])],cd 45 (sq [rg 49 [ol 2 3,om 1,of 0 11,nl 5,oC 183 [49,50,52],o1 48,oe 48 0,oe 48 1,oR 13 xY,os 10 13 54,o1 14],sq [rg 56 [om 14,nn],cr 57 6 [oz 15,oz 2]],rg 58 [om 8,ol 10 13,n1 10,na 10 58,o1 8],rg 62 [om 9,om 10,oO (.kv 6 ak aa ak) [62,63],o1 9],(.exit 1)]) (sq [rg 66 [oB .eql 44 9,o1 65],ci 65 (rg 12 [oi 4])])])],sq [rg 67 [fo 5 11,of 0 11,nF 4,nL,nb .lss 68],ci 73 (sq [rg 74 [om 9,om 10,oO (.idx 6) [74,75],nF 5,nB .add 1,oO (.idx 6) [74,75],nf 5,os 1 81 79],rg 82 [om 9,of 0 11,nF 4,fo 5 11,nA 5 85,nl 5,oW [0,0,1,7,10,0] [(0,5,89)],n1 6,oO (.app 6) [82,91],o1 9],(.exit 1)])],rg 93 [om 8,om 12,of 0 11,nF 4,nL,oY xY [(0,1,.s 94),(1,1,.s 98)],n1 10,na 10 93,o1 8],rg 102 [om 9,om 10,oO (.kv 6 ak aa ak) [102,103],o1 9]])]),rg 6 [ot 105 8,om 105,oq (.mv (.c (.bool aa)))],.ret])]) [.tmp 6,.tmp 7] 106:=aX func114 ⟨[33,36,40,64,76,80,92,104,100031],[]⟩
def fR(f:Nd × Nat):List V:=f.1.enc++[.int .i64 (f.2:Nat)]
section
variable {m:Nd} {d k:Nat} {x0 x1 x2 x3 x4 x5:V}
def qL:fR (m,d)=[.int .i64 m.kind,.int .i64 m.pos,.aF m.al,.sl .no 2 (m.aj.map au.enc),.sl .no 5 (m.ah.map Nd.enc),.int .i64 (d:Nat)]:=by rw[fR,Nd.dd];rfl
def Bh:(fR (m,d)).length=6:=by rw[qL];rfl
def Rp:cB (fR (m,d))=true:=by rw[qL];rfl
def F7:bH (fR (m,d))=true:=by rw[qL];rfl
def ag1:bw (fR (m,d))=fR (m,d):=by rw[qL];rfl
def ag5:bQ k (fR (m,d))=true:=by rw[qL];rfl
def ag7:over [x0,x1,x2,x3,x4,x5] (fR (m,d))=fR (m,d):=by rw[qL];rfl
def ag3:bD ak 1 (fR (m,d))=U (.int .i64 m.kind):=by rw[qL];rfl
def ag4:bD ak 1 ((fR (m,d)).drop 4)=U (.sl .no 5 (m.ah.map Nd.enc)):=by rw[qL];rfl
def ag0:bD ak 1 ((fR (m,d)).drop 5)=U (.int .i64 (d:Nat)):=by rw[qL];rfl
def ag6:takeN 5 (fR (m,d))=U m.enc:=NY Nd.cN
def agZ:over [x0,x1,x2,x3,x4,.int .i64 0] m.enc=fR (m,0):=by rw[qL,Nd.dd];rfl
theorem ag2:bW 5 [x0,x1,x2,x3,x4,x5]=true:=rfl
def ag8:setAt (fR (m,d)) 5 [.int .i64 (k:Nat)]=fR (m,k):=by rw[qL,qL];rfl
def vQ:=af @Bh <| af @Rp <| af @F7 <| af @ag1 <| af @ag5 <| af @ag7 <| af @ag3 <| af @ag4 <| af @ag0 <| af @ag6 <| af @agZ @ag2
end
structure CF(s:aI)(lat:Nat)(n:Nd)(D:ag) where
 fs:List (Nd × Nat)
 out:List bt
 v:V
 tk:Tk
 st:ag
 fin:rH s lat fs out=mQ s lat n
 all:∀f∈fs,f.1.eU=aa/\f.1.wt<=n.wt/\f.1.cw<=n.cw
 mes:out.length+pG fs<=2*n.cw+1
 own:jF st 6 v (fs.reverse.map fR)
 sub:CA D st v
 gr:Gr D st tk out.length
def BN(s:aI)(lat:Nat)(n:Nd)(out:List bt)(v:V)(tk:Tk)(D:ag):St :=
 ⟨[.any,.int .i64 (lat:Nat),.any,.ptr (.aC 0) 0,.any,.ptr (.aC 1) 0,.any,.any,.sl tk 10 (out.map bt.enc),v]++aA 96 .any,[s.enc,n.enc],D⟩
variable{k:Nat}{D:ag}
def MK{n:Nat}{v:V}{rows:List (List V)}(h:jF D k v rows):v.lo n=true:=by obtain⟨a,cap,rfl,_⟩:=h;rfl
variable{σ':ag}
def UA{v:V}{rows:List (List V)}(h:jF D k v rows)(e:σ'.box=D.box):jF σ' k v rows:=h.frame λb cs _ hc=>by rw[e];exact hc
def ahI{cY:ag}{tk:Tk}{n:Nat}(h:Gr cY D tk n)(hs:cY.sub σ')(e:σ'.aJ=D.aJ):Gr cY σ' tk n:=⟨hs,h.tk.imp id λ⟨Z,a,b,c⟩=>⟨Z,a,by rw[e];exact b,c⟩⟩
def T6:∀(fs:List (Nd × Nat)),fs.length<=pG fs
 | []=>bL _
 | f::fs=>by have:=T6 fs;simp only[pG,db];omega
def as5:=af @am <| af @cF <| af @a8 <| af @Nd.an <| af @aI.an @bt.an
def aab(s:aI)(lat:Int)(n:Nd)(hg:TZ D)(hs:s.ok)(hw:n.wt<=aM)(hc:n.cw<=100000):
 bc 114 [.agg s.enc,.int .i64 lat,.agg n.enc] D (Jq (ml s lat n)):=by
 refine aee.aV ?_;simp only[aU,as5,Nat.reduceAdd];have no:∀(u:List V) (l:List (List V)) (cR:ag),ml s lat n=ae->D.sub cR->mP (λv σ' => v=Jq (ml s lat n)/\σ' = D) ⟨u,l,cR⟩ (.bq [.sl .aW 10 [],.bool ak]):=λu l cR h h' => by
  rw[h];exact aN rfl h' ⟨rfl,rfl⟩
 by_cases hn:lat<0
 .simp only[am,cF,aP hn];exact no _ _ _ (by rw[ml,aB (by omega)]) (ag.bd _)
 .obtain⟨lat,rfl⟩:∃m:Nat,lat=m:=⟨lat.toNat,by omega⟩;simp only[am,aO,aI.an,aO,aK hn]
  by_cases mR:s.bu.length<=lat
  .simp only[am,cF,aP (show(s.bu.length:Int)<=(lat:Nat) by omega)];exact no _ _ _ (by rw[ml,aB (by omega)]) (ag.bd _)
  .have az:lat<s.bu.length:=by omega
   simp only[am,Nd.an,aK (show ¬(s.bu.length:Int)<=(lat:Nat) by omega)];refine cl (DS _ n D (bL _) hw) ?_;cases hl:n.eU with
   | false =>
    simp only[am,cF];exact no _ _ _ (by rw[ml,hl,aB (by simp)]) (ag.bd _)
   | true =>
    have hR:=aaR az hl;simp only[am,pf,Nd.an,vQ];refine jF.mk1 (c:=fR (n,0)) (by simp[x_,V.cells,Bh,F7,Rp,V.wd]) Bh F7 λv cR hO hS=>?_
    simp only[am];obtain⟨I,hI⟩:∃I:CF s lat n D->St,∀p,I p=BN s lat n p.out p.v p.tk p.st:=⟨_,λ_=>rfl⟩;refine iE I (λp=>pG p.fs) ?_ ?_
    .refine bm.enter (I:=I) ⟨[(n,0)],[],v,.aW,cR,by simp only[rH,Vr];cases mQ s lat n<;>rfl,by simp[hl],?_,by simpa using hO,hS,⟨hS.sub,.inl rfl⟩⟩ ?_ ?_ ?_
     .have:=Nd.sE n
      simp only[pG,IF,ei];omega
     all_goals simp[hI,BN,aA,am,bZ]
    .rintro⟨fs,out,v,tk,cR,sO,dj,GG,hO,hS,hG⟩;simp only[hI,BN,aA,am,pf];have hml:=T6 fs;refine hO.len ?_;cases fs with
     | nil =>
      have e:mQ s lat n=U out:=by rw[<-sO];rfl
      simp only[am,cF,List.reverse_nil,eC,ei,show decide ((0:Int)<((0:Nat):Int))=ak from rfl];exact aN rfl hG.sub ⟨by rw[hR,e];rfl,rfl⟩
     | cons f fs =>
      obtain⟨m,d⟩:=f;obtain⟨GH,xP,xO⟩:=dj (m,d) (by simp);simp only at GH xP xO;have fy:(List.map fR ((m,d)::fs).reverse).length=fs.length+1:=by simp
      have fp:(List.map fR ((m,d)::fs).reverse)[fs.length]?=U (fR (m,d)):=by simp
      have SO:(List.map fR ((m,d)::fs).reverse).take fs.length=List.map fR fs.reverse:=by simp
      have Dr:fs.length+1<=2*n.cw+1:=by simp only[db] at hml;omega
      have xJ:TZ cR:=hG.sub.2.2 _ _ hg;simp only[am,pf,fy,show decide ((0:Int)<((fs.length+1:Nat):Int))=aa from aP (by omega)];refine hO.len ?_;simp only[am,pf,fy];rw[wrap_i64,show((fs.length+1:Nat):Int) - 1=(fs.length:Nat) by omega];refine hO.idx (by omega) (j:=(fs.length:Nat)) (c:=fR (m,d)) (by rw[jC];exact fp) λb cs rest hb bP KD=>?_
      rw[jC] at KD ⊢;have v9:takeN 6 (cs.drop (fs.length*6))=U (fR (m,d)):=by rw[KD];exact NY Bh
      simp only[am,Nat.reduceAdd,bP,v9,vQ]
      by_cases hk:m.kind=1\/m.kind=7
      .have pz:(decide (m.kind=1)=aa)\/(decide (m.kind=1)=ak/\decide (m.kind=7)=aa):=by
        by_cases h1:m.kind=1
        .exact .inl (aP h1)
        .exact .inr ⟨aK h1,aP (by simpa [h1] using hk)⟩
       have xN:=ao4 (s:=s) (lat:=lat) (d:=d) (fs:=fs) (out:=out) hk;rw[xN] at sO
       rcases pz with e1 | ⟨e1,e2⟩
       case' inl=>simp only[am,Nd.an,aI.an,e1,vQ]
       case' inr=>simp only[am,Nd.an,aI.an,e1,e2,vQ]
       all_goals
        refine(akc s lat m xJ hs az (by omega) (by omega) GH hk).mono ?_;rintro v' σ' ⟨⟨i,rfl,hi⟩,rfl⟩;simp only[am,Nat.reduceAdd,bt.an];cases KS:mW s lat m with
        | none =>
         rw[KS] at sO;simp only[am,cF,Cz];exact no _ _ _ (by rw[hR,<-sO]) hG.sub
        | some j =>
         obtain rfl:=hi j KS;rw[KS] at sO;simp only[am,bt.an,E_];refine Gr.app (by simpa using hG) (by simp only[pG] at GG;simp[aM];omega) λkx fQ C9 hB _=>?_
         simp only[am,pf];refine(UA hO hB).take (m:=fs.length) (by omega) (jC _) (by rw[fy];omega) λv2 uC dw=>?_
         rw[SO] at uC;simp only[am,cF,Nat.reduceEqDiff,reduceCtorEq];refine bm.ud (I:=I) ⟨fs,out++[i],v2,kx,fQ,sO,λf hf=>dj f (OX _ hf),by simp only[pG] at GG;rw[bI,gv];omega,uC,⟨C9.sub,λb hb=>hS.new b (by rw[<-dw];exact hb)⟩,by simpa using C9⟩ (by simp only[pG];omega) ?_ ?_ ?_ ?_ ?_
         all_goals simp[hI,BN,aA,am,bZ,bQ,dC,V.lo,aI.cE,Nd.cE,MK uC]
      .have e1:decide (m.kind=1)=false:=aK λh=>hk (.inl h)
       have e7:decide (m.kind=7)=false:=aK λh=>hk (.inr h)
       simp only[am,e1,e7];have rN:=Tf GH hk;have Dq:=y7 m
       by_cases h9:m.kind=9
       case' pos =>
        have eo:r_ m=⟨4,m.ah.length,.zero⟩:=by rw[r_,aD h9]
        simp only[am,aO,aO,aP h9,vQ]
       case' neg =>
        have eo:r_ m=⟨3,m.ah.length,.zero⟩:=by rw[r_,aB h9]
        simp only[am,aO,aO,aK h9,vQ]
       all_goals
        by_cases hd:d<m.ah.length
        .have Se:cs.drop (fs.length*6+5)=(fR (m,d)).drop 5++rest:=by
          rw[<-wZ,KD,XH (by rw[Bh];omega)]
         have h5:(fR (m,d)).drop 5=[.int .i64 (d:Nat)]:=by rw[qL];rfl
         have ais:bD ak 1 (cs.drop (fs.length*6+5))=U (.int .i64 (d:Nat)):=by rw[Se,h5];rfl
         have aij:bW 1 (cs.drop (fs.length*6+5))=true:=by rw[Se,h5];rfl
         obtain⟨uC,ir⟩:=hO.put (off:=5) (x:=[.int .i64 ((d+1:Nat):Int)]) fp hb bP (by simp);have mu:(List.map fR ((m,d)::fs).reverse).set fs.length (setAt (fR (m,d)) 5 [.int .i64 ((d+1:Nat):Int)])=List.map fR ((m,d+1)::fs).reverse:=by
          rw[ag8];simp
         rw[mu] at uC;have GI:m.ah[d]∈m.ah:=fu hd;have hkw:=mV GI;have ath:=qG GI;simp only[am,pf,eE hd];refine hO.idx (by omega) (j:=(fs.length:Nat)) (c:=fR (m,d)) (by rw[jC];exact fp) λb2 Ju ao1 dw ah8 _=>?_
         obtain rfl:b=b2:=by rw[hb] at dw;exact tY dw
         rw[jC];simp only[am,pf,bP,ais,cT hd];refine hO.idx (by omega) (j:=(fs.length:Nat)) (c:=fR (m,d)) (by rw[jC];exact fp) λb2 Ju ao1 dw ah8 _=>?_
         obtain rfl:b=b2:=by rw[hb] at dw;exact tY dw
         rw[jC];simp only[am,bP,aij,vQ];refine ix (l6 (cH hd)) ?_;simp only[am,pf,Nd.an,vQ];refine uC.app (m:=[fR (m.ah[d],0)]) (by simp[Bh]) (by simp[F7]) (by simp[aM];omega) λv3 wV RW zn=>?_
         have R1:=(hS.step ir).step zn;have hG3:=ahI hG R1.sub (zn.aJ.trans ir.aJ);simp only[am,cF,reduceCtorEq];refine bm.ud (I:=I) ⟨(m.ah[d],0)::(m,d+1)::fs,out,v3,tk,wV,by rw[<-ao3 hk hd];exact sO,?_,?_,by simpa using RW,R1,hG3⟩ (T5 hd) ?_ ?_ ?_ ?_ ?_
         .intro f hf
          rcases kA.1 hf with rfl | hf
          .exact⟨rN _ GI,by simp only;omega,by simp only;omega⟩
          .rcases kA.1 hf with rfl | hf
           .exact⟨GH,xP,xO⟩
           .exact dj f (OX _ hf)
         .have:=T5 (fs:=fs) hd;omega
         all_goals simp[hI,BN,aA,am,bZ,bQ,dC,V.lo,aI.cE,Nd.cE,MK RW]
        .simp only[am,aO,bt.an,aO,aK (show ¬(d:Int)<(m.ah.length:Nat) by omega),vQ];refine Gr.app (by simpa using hG) (by simp only[pG] at GG;simp[aM];omega) λkx fQ C9 hB _=>?_
         simp only[am,pf];refine(UA hO hB).take (m:=fs.length) (by omega) (jC _) (by rw[fy];omega) λv2 uC dw=>?_
         rw[SO] at uC;simp only[am];refine bm.ud (I:=I) ⟨fs,out++[r_ m],v2,kx,fQ,by rw[<-ao2 hk (Nat.le_of_not_lt hd)];exact sO,λf hf=>dj f (OX _ hf),by simp only[pG] at GG;rw[bI,gv];omega,uC,⟨C9.sub,λb hb=>hS.new b (by rw[<-dw];exact hb)⟩,by simpa using C9⟩ (by simp only[pG];omega) ?_ ?_ ?_ ?_ ?_
         all_goals simp[hI,BN,aA,am,bZ,bQ,dC,V.lo,aI.cE,Nd.cE,eo,bt.zero,MK uC]
section
variable {l:dT} {v:dU} {a b c:V} {m:Nat}
theorem dT.M5:takeN 3 l.enc=U l.enc:=rfl
theorem dT.M4:over [a,b,c] l.enc=l.enc:=rfl
theorem dT.M1:l.enc.length=3:=rfl
theorem dT.M3:cB l.enc=true:=rfl
theorem dU.M1:v.enc.length=3:=rfl
theorem dU.M3:cB v.enc=true:=rfl
theorem dU.M5:takeN 3 v.enc=U v.enc:=rfl
theorem dU.M4:over [a,b,c] v.enc=v.enc:=rfl
end
def ad8:aT prog 107 (sq [rg 12 [mk 0,nf 1,nl 2,om 1,oC 76 [15,16],o1 11,oe 11 0,oe 11 1,ot 8 18,o1 9],rg 20 [mk 0,nf 0,om 8,nB .lss 0,gA,om 9,nB .lss 0,gZ,om 2,oc 110 [.s 22,.s 28,.c (.int .i64 3),.s 29]],sq [rg 31 [om 9,nB .lss 0],cr 32 33 [mk 0,nf 0,om 8,nB .geq 0,om 2,oc 110 [.s 35,.s 37,.c (.int .i64 4),.s 38]]],rg 40 [mk 0,nf 1,nF 1,om 9,nA 3 44,nl 3,oZ 10 [1,0,0],o2 3 10],dg 48 [mk 0,nf 0,fo 1 10,om 3,nb .neq 52,nm,oh 55 (om 0),oh 55 (nk),oh 55 (nf 3),oh 55 (no),oh 55 (nB .geq 0),oh 55 (nm),og 61 (of 2 10),og 61 (no),og 61 (om 0),og 61 (nk),og 61 (nf 3),og 61 (no),og 61 (nb .neq 63),oh 55 (oy 61 68),oq (.pick (.s 55) (.c (.bool aa)) (.s 69)),om 2,oc 110 [.s 50,.s 70,.c (.int .i64 4),.s 71]]]) [] 73:=aX func107
def ad9:aT prog 108 (sq [rg 0 [ox 3 2 1],dg 7 [mk 0,nf 1,nl 2,fo 0 3,oC 76 [10,12],o1 6,oe 6 0,oe 6 1,ot 4 14,o1 5],rg 16 [om 0,om 4,ok 16,nf 3,os 1 19 17],dg 20 [mk 0,nf 0,om 4,nB .lss 0,gA,om 5,nB .lss 0,gZ,fo 1 3,oc 110 [.s 22,.s 28,.c (.int .i64 3),.s 30]],dg 32 [mk 0,nf 0,om 4,nB .lss 0,gA,om 5,nB .geq 0,gZ,fo 1 3,oc 110 [.s 34,.s 40,.c (.int .i64 4),.s 42]]]) [] 44:=aX func108
def aea:aT prog 110 (sq [rg 8 [om 1],ci 8 (rg 9 [om 0,mk 0,nF 0,om 2,om 3,oW [0,0] [(0,1,14),(1,1,15)],n1 2,na 2 13,ok 9,nf 0,os 1 20 18])]) [] 21:=aX func110
def aeP:aT prog 177 (sq [rg 0 [ox 3 5 1],rg 6 [fo 0 3],.block 0 (sq [rg 9 [oB .eql 7 1,o1 8],cd 8 (rg 10 [om 0,fo 2 3,fo 1 3,oc 107 [.s 10,.s 12,.s 14,.c (.int .i64 1)]]) (sq [rg 17 [oB .eql 7 7,o1 16],ci 16 (sq [rg 18 [fo 4 3,nL,nB .gtr 0,gA,mk 0,nF 3,nB .geq 0,gZ],ci 28 (sq [dA 30 [4,5] [mk 0,nf 1,nF 0,mk 0,nF 3,nA 3 34,nf 1,nl 2,fo 4 3,nI 5 0,nl 5,oC 184 [41,45],o1 29,oe 29 0,oe 29 1,oN,oN,oX 4 8 47,oX 5 2 48],dg 49 [mk 0,nf 0,fo 0 5,nB .neq 0,fo 0 5,fo 1 5,oC 110 [51,54,56,58]]])])])])]) [] 60:=aX func177
def wM(D:ag)(b Z:Nat)(l:List aL)(s:aI)(lat p x y:Int)(is:Bool)(hl:l.length<=100000000) :
 dn 110 [.ptr (.out b) 0,.bool is,.int .i64 x,.int .i64 y] (cQ D b Z l s lat p) (.bq []) (cQ D b Z (l++if is then [⟨x,y⟩] else []) s lat p):=by
 refine aea.aV ?_;simp only[aU,am,a8,Nat.reduceAdd];cases is with
 | false =>
  simp only[am,eg,eg];exact aN rfl (ag.bd _) ⟨rfl,by simp⟩
 | true =>
  simp only[am,Nat.reduceAdd,jo];refine jI (by simp[aM];omega) (by rw[aO];exact Om) ?_;simp only[am,aO,jo,aO,gv,asO];exact aN rfl (ag.bd _) ⟨rfl,by simp⟩
def Ev(D:ag)(b Z:Nat)(l:List aL)(s:aI)(lat p y k:Int)(t:List UInt8)(hl:l.length<=90000000)(hs:s.ok) :
 dn 107 [.ptr (.out b) 0,.aF t,.int .i64 y,.int .i64 k] (cQ D b Z l s lat p) (.bq []) (cQ D b Z (l++gR s lat t y k) s lat p):=by
 refine ad8.aV ?_;simp only[aU,am,a8,Nat.reduceAdd,jo,aI.an];refine cl (vd s t _ hs.1 hs.2.1) ?_;cases hV:kb s.vars t with
 | none =>
  cases hL:iq s.bu t with
  | none =>
   have e:gR s lat t y k=[⟨3,y⟩]:=by rw[gR,hV,hL];rfl
   simp only[am,bS,Int.reduceNeg,de,Int.reduceLT];refine cl (wM D b Z l s lat p 3 y aa (by omega)) ?_;simp only[am,bS,ff,Int.reduceNeg,Int.reduceLT,Int.reduceLE];refine cl (wM D b Z (l++[⟨3,y⟩]) s lat p 4 y ak (by simp;omega)) ?_;simp only[am,Int.reduceNeg,eg];exact aN rfl (ag.bd _) ⟨rfl,by rw[e]⟩
  | some j =>
   have e:gR s lat t y k=[⟨4,y⟩]:=by rw[gR,hV,hL];rfl
   simp only[am,Int.reduceNeg,de,aK (show ¬((j:Nat):Int)<0 by omega)];refine cl (wM D b Z l s lat p 3 y ak (by omega)) ?_;simp only[am,bS,Int.reduceNeg,eg,Int.reduceLT,aP (show(0:Int)<=((j:Nat):Int) by omega)];refine cl (wM D b Z l s lat p 4 y aa (by omega)) ?_;simp only[am,Int.reduceNeg];exact aN rfl (ag.bd _) ⟨rfl,by rw[e]⟩
 | some v =>
  have hv:=Q2 hV;have hx:s.vars[v]?=U s.vars[v]:=cH hv;have e:gR s lat t y k=if s.vars[v].kind≠k\/(0<=lat/\s.vars[v].lat≠lat) then [⟨4,y⟩] else []:=by rw[gR,hV];simp only[hx]
  have nv:decide (((v:Nat):Int)<0)=false:=aK (by omega);have mid:cm prog 110 [.ptr (.out b) 0,.bool ak,.int .i64 3,.int .i64 y] (cQ D b Z l s lat p) λu σ' => u = .bq []/\σ' = cQ D b Z l s lat p:=by
   simpa using wM D b Z l s lat p 3 y ak (by omega)
  have fin:∀is:Bool,is=decide (s.vars[v].kind≠k\/(0<=lat/\s.vars[v].lat≠lat))->cm prog 110 [.ptr (.out b) 0,.bool is,.int .i64 4,.int .i64 y] (cQ D b Z l s lat p) λu σ' => u = .bq []/\σ' = cQ D b Z (l++gR s lat t y k) s lat p:=λis he=>by
   have:=wM D b Z l s lat p 4 y is (by omega)
   rw[he] at this ⊢;rw[e];simpa using this
  cases hL:iq s.bu t
  case' none=>simp only[am,bS,Int.reduceNeg,de,Int.reduceLT,nv]
  case' some j =>
   simp only[am,de,aK (show ¬((j:Nat):Int)<0 by omega)]
  all_goals
   refine cl mid ?_;simp only[am,Nat.reduceAdd,Int.reduceNeg,jo,nv];refine ix (EC hv) ?_;simp only[am,Int.reduceNeg,aI.an,dU.M1,dU.M3,dU.M5,dU.M4]
   by_cases hk:s.vars[v].kind=k
   case neg =>
    simp only[am,Int.reduceNeg,aK hk];refine bJ.intro (fin aa (by simp[hk])) ?_;simp only[am,Int.reduceNeg];exact aN rfl (ag.bd _) ⟨rfl,rfl⟩
   simp only[am,Int.reduceNeg,jo,aP hk]
   by_cases h0:0<=lat
   case neg =>
    simp only[am,Int.reduceNeg,aK h0];refine bJ.intro (fin ak (by simp[hk,h0])) ?_;simp only[am,Int.reduceNeg];exact aN rfl (ag.bd _) ⟨rfl,rfl⟩
   simp only[am,Int.reduceNeg,jo,aI.an,aP h0]
   by_cases h1:s.vars[v].lat=lat
   case neg =>
    simp only[am,Int.reduceNeg,aK h1];refine bJ.intro (fin aa (by simp[h0,h1])) ?_;simp only[am,Int.reduceNeg];exact aN rfl (ag.bd _) ⟨rfl,rfl⟩
   simp only[am,Int.reduceNeg,aP h1];refine bJ.intro (fin ak (by simp[hk,h1])) ?_;simp only[am,Int.reduceNeg];exact aN rfl (ag.bd _) ⟨rfl,rfl⟩
def Ax(D:ag)(b Z:Nat)(l:List aL)(s:aI)(lat p x y:Int)(hl:l.length<=100000000):cm prog 110 [.ptr (.out b) 0,.bool ak,.int .i64 x,.int .i64 y] (cQ D b Z l s lat p) λu σ' => u = .bq []/\σ' = cQ D b Z l s lat p:=by
 simpa using wM D b Z l s lat p x y ak hl
def Ey(D:ag)(b Z:Nat)(l:List aL)(s:aI)(lat p x y:Int)(hl:l.length<=100000000):cm prog 110 [.ptr (.out b) 0,.bool aa,.int .i64 x,.int .i64 y] (cQ D b Z l s lat p) λu σ' => u = .bq []/\σ' = cQ D b Z (l++[⟨x,y⟩]) s lat p:=by
 simpa using wM D b Z l s lat p x y aa hl
def as6:=af @am <| af @a8 <| af @aI.an @au.an
def Ws(D:ag)(b Z:Nat)(l:List aL)(s:aI)(lat p:Int)(w:au)(hl:l.length<=90000000)(hs:s.ok) :
 dn 108 [.ptr (.out b) 0,.agg w.enc] (cQ D b Z l s lat p) (.bq []) (cQ D b Z (l++gg s w) s (de (iq s.bu w.al)) p):=by
 refine ad9.aV ?_;simp only[aU,as6,Nat.reduceAdd,Int.reduceNeg,de,jo];refine bJ.intro (vd s w.al (cQ D b Z l s lat p) hs.1 hs.2.1) ?_;simp only[am,Int.reduceNeg,de,jo,asP];cases hL:iq s.bu w.al with
 | none =>
  cases hV:kb s.vars w.al with
  | none =>
   have e:gg s w=[⟨3,w.pos⟩]:=by rw[gg,hL,hV];rfl
   simp only[am,bS,Int.reduceNeg,Int.reduceLT,jo];refine bJ.intro (Ey D b Z l s (-1) p 3 w.pos (by omega)) ?_;simp only[am,bS,ff,Int.reduceNeg,Int.reduceLT,Int.reduceLE,jo];refine bJ.intro (Ax D b Z (l++[⟨3,w.pos⟩]) s (-1) p 4 w.pos (by simp;omega)) ?_;simp only[am,Int.reduceNeg];exact aN rfl (ag.bd _) ⟨rfl,by rw[e]⟩
  | some j =>
   have e:gg s w=[⟨4,w.pos⟩]:=by rw[gg,hL,hV];rfl
   simp only[am,bS,Int.reduceNeg,Int.reduceLT,jo,aK (show ¬((j:Nat):Int)<0 by omega)];refine bJ.intro (Ax D b Z l s (-1) p 3 w.pos (by omega)) ?_;simp only[am,bS,Int.reduceNeg,Int.reduceLT,jo,aP (show(0:Int)<=((j:Nat):Int) by omega)];refine bJ.intro (Ey D b Z l s (-1) p 4 w.pos (by omega)) ?_;simp only[am,Int.reduceNeg];exact aN rfl (ag.bd _) ⟨rfl,by rw[e]⟩
 | some j =>
  have e:gg s w=[]:=by rw[gg,hL];rfl
  simp only[am,Int.reduceNeg,jo,aK (show ¬((j:Nat):Int)<0 by omega)];refine bJ.intro (Ax D b Z l s (j:Nat) p 3 w.pos (by omega)) ?_;simp only[am,Int.reduceNeg,jo,aK (show ¬((j:Nat):Int)<0 by omega)];refine bJ.intro (Ax D b Z l s (j:Nat) p 4 w.pos (by omega)) ?_;simp only[am,Int.reduceNeg];exact aN rfl (ag.bd _) ⟨rfl,by rw[e,eg]⟩
def asN{b Z:Nat}{l:List aL}{s:aI}{lat p:Int}(hg:TZ D)(hb:D.box b=ae):TZ (cQ D b Z l s lat p):=hg
def V_(D:ag)(b Z:Nat)(l:List aL)(s:aI)(lat p:Int)(n:Nd)(hl:l.length<=90000000)(hs:s.ok)(hg:TZ D)(hb:D.box b=ae)(mR:lat<s.bu.length)(hc:n.cw<=100000)(hw:n.wt<=aM) :
 dn 177 [.ptr (.out b) 0,.agg n.enc] (cQ D b Z l s lat p) (.bq []) (cQ D b Z (l++j8 s lat n) s lat p):=by
 refine aeP.aV ?_;simp only[aU,so,Nat.reduceAdd]
 by_cases h1:n.kind=1
 .simp only[am,Nd.fl,aP h1];refine cl (Ev D b Z l s lat p n.pos 1 n.al hl hs) ?_;simp only[am];exact aN rfl (ag.bd _) ⟨rfl,by rw[j8,aD h1]⟩
 simp only[am,aK h1]
 by_cases h7:n.kind=7
 case neg =>
  simp only[am,aK h7];exact aN rfl (ag.bd _) ⟨rfl,by rw[j8,aB h1,aB h7,eg]⟩
 simp only[am,aO,Nd.fl,aO,aP h7];have ea:j8 s lat n=zb s lat n:=by rw[j8,aB h1,aD h7]
 by_cases hk:0<n.ah.length
 case neg =>
  simp only[am,aK (show ¬(0:Int)<(n.ah.length:Nat) by omega)];exact aN rfl (ag.bd _) ⟨rfl,by rw[ea,zb,aB (λh=>hk h.1),eg]⟩
 simp only[am,jo,aP (show(0:Int)<(n.ah.length:Nat) by omega)]
 by_cases h0:0<=lat
 case neg =>
  simp only[am,aK h0];exact aN rfl (ag.bd _) ⟨rfl,by rw[ea,zb,aB (λh=>h0 h.2),eg]⟩
 simp only[am,Nat.reduceAdd,bS,Nat.reduceLT,jo,aP h0];obtain⟨k,rfl⟩:∃k:Nat,lat=k:=⟨lat.toNat,by omega⟩;have xM:k<s.bu.length:=by omega
 have hm:n.ah[0]∈n.ah:=fu _;have xO:=qG hm;have xP:=mV hm;refine ix (DU xM) ?_;simp only[am,aI.an,Nd.fl];refine qY (n:=0) (by omega) (l6 (j:=0) (cH hk)) ?_;simp only[am,bC.an,Nd.an];refine bJ.intro (JC s.bu[k].shape n.ah[0] (asN hg hb) (hs.2.2 _ (fu xM)) (λm hm=>by obtain⟨a,b,c⟩:=MP (n:=n.ah[0]) (by omega) m hm;exact⟨by omega,by omega,λq hq=>by have:=c q hq;omega⟩) (by omega)) ?_;have eo:vL s (k:Nat) n=(im s.bu[k].shape n.ah[0]).2:=by rw[vL,jC,NL xM,qM hk]
 have ee:j8 s (k:Nat) n=match (im s.bu[k].shape n.ah[0]).2 with | some q=>[⟨4,q⟩] | none=>[]:=by rw[ea,zb,aD ⟨hk,h0⟩,eo];cases (im s.bu[k].shape n.ah[0]).2<;>rfl
 generalize im s.bu[k].shape n.ah[0]=g at ee;obtain⟨e,o⟩:=g;cases o with
 | none =>
  simp only[am,Nat.reduceAdd,bS,bg.an,show uz ae=[.int .i64 0,.int .i64 0] from rfl];refine bJ.intro (Ax D b Z l s (k:Nat) p 0 0 (by omega)) ?_;simp only[am];exact aN rfl (ag.bd _) ⟨rfl,by rw[ee,eg]⟩
 | some q =>
  simp only[am,Nat.reduceAdd,ff,Int.reduceEq,bg.an,show uz (U q)=[.int .i64 4,.int .i64 q] from rfl];refine bJ.intro (Ey D b Z l s (k:Nat) p 4 q (by omega)) ?_;simp only[am];exact aN rfl (ag.bd _) ⟨rfl,by rw[ee]⟩
def ad_:aT prog 109 (sq [rg 0 [od (U 2) (.fZ 1 (.s 0)),ox 3 5 1],rg 0 [od (U 4) (.pe [(.raw .nilFunc)])],rg 5 [oq (.jx (.func 176) [] [(.s 2),(.s 4)]),o2 1 4],rg 6 [oo 4,ol 5 3,oq (.ij (.s 6) [(.s 7)])]]) [] 9:=aX func109 ⟨[2,4],[]⟩
def aeO:aT prog 176 (sq [rg 0 [ox 3 5 0],rg 6 [oo 1,ol 5 3,oC 177 [6,7]],sq [rg 9 [fo 0 3,nB .eql 1,gB,fo 0 3,nB .eql 7,gZ],ci 16 .ret],rg 17 [fo 4 3,nL,oi 0],lp 19 0 (sq [rg 22 [oA 5 18 20,nl 5,oZ 5 [0,0,1,7,10],o2 5 5],rg 24 [oo 2,ol 5 5,oq (.ij (.s 24) [(.s 25)])]]) 27]) [] 28:=aX func176
def aqk(D:ag)(b Z b2 b4:Nat)(s:aI)(lat p:Int)(hs:s.ok)(hg:TZ D)(hb:D.box b=ae)(mR:lat<s.bu.length)(n2:b2≠b)(n4:b4≠b)(h2:D.box b2=U [.ptr (.out b) 0])(h4:D.box b4=U [.fn (.func 176) [] [.ptr (.out b2) 0,.ptr (.out b4) 0]]) :
 ∀(k:Nat) (n:Nd) (l:List aL),n.wt<=k->l.length+n.cw<=90000000->n.cw<=100000->n.wt<=aM ->
 dn 176 [.agg n.enc,.ptr (.out b2) 0,.ptr (.out b4) 0] (cQ D b Z l s lat p) (.bq []) (cQ D b Z (l++fz s lat n) s lat p):=by
 have e2:∀l,(cQ D b Z l s lat p).box b2=U [.ptr (.out b) 0]:=λl=>by rw[AG n2];exact h2
 have e4:∀l,(cQ D b Z l s lat p).box b4=U [.fn (.func 176) [] [.ptr (.out b2) 0,.ptr (.out b4) 0]]:=λl=>by rw[AG n4];exact h4
 intro k;induction k with
 | zero=>intro n l h;have:=Nd.sE n;have:=FJ n;omega
 | succ k ih =>
  intro n l hk hl hc hw;refine aeO.aV ?_;simp only[aU,am,a8,Nat.reduceAdd,Nd.an];simp only[am,Nd.an,e2];refine cl (V_ D b Z l s lat p n (by omega) hs hg hb mR hc hw) ?_;have ha:=@Fu s lat n;simp only[am,Nd.fl]
  by_cases zm:n.kind=1\/n.kind=7
  .have e:fz s lat n=j8 s lat n:=by rw[G_,aD zm,eg]
   have pz:(decide (n.kind=1)=aa)\/(decide (n.kind=1)=ak/\decide (n.kind=7)=aa):=by
    by_cases h:n.kind=1
    .exact .inl (aP h)
    .exact .inr ⟨aK h,aP (by simpa [h] using zm)⟩
   rcases pz with e1 | ⟨e1,e7⟩
   case' inl=>simp only[am,e1]
   case' inr=>simp only[am,Nd.fl,e1,e7]
   all_goals exact aN rfl (ag.bd _) ⟨rfl,by rw[e]⟩
  have e:fz s lat n=j8 s lat n++n.ah.flatMap (fz s lat):=by rw[G_,aB zm]
  simp only[am,aO,Nd.fl,aO,aK (λh=>zm (.inl h)),aK (λh=>zm (.inr h))];have Dq:=y7 n;have v_:=Nd.sE n;refine eb (n.ah.length) (λi (x:Unit)=>⟨[.any,.ptr (.out b2) 0,.ptr (.out b4) 0,.ptr (.aC 0) 0,.any,.any,.any,.any,.any,.any,.any,.any,.any,.any,.any,.any,.any,.any,.sl .no 5 (n.ah.map Nd.enc),.int .i64 (n.ah.length:Nat),.int .i64 (i:Nat)]++aA 7 .any,[n.enc],cQ D b Z (l++j8 s lat n++(n.ah.take i).flatMap (fz s lat)) s lat p⟩) (λi x=>(True)) λF hF JF br=>⟨?_,?_,?_⟩
  .exact en br (()) (trivial)
  .rintro i x hi -;have hm:n.ah[i]∈n.ah:=fu _;have xO:=qG hm;have xP:=mV hm;have hlen:=ajL (s:=s) (lat:=lat) hi;simp only[hF,aA,am,eE hi];refine ix (l6 (cH hi)) ?_;simp only[am,Nd.an,e4];refine cl (ih n.ah[i] _ (by omega) (by simp only[bI];omega) (by omega) (by omega)) ?_;simp only[am,a_,cT hi,dZ];refine fN (()) hi ?_ ?_ ?_ ?_ ?_ ?_
   .exact eN (br _ _) (trivial)
   all_goals simp[hF,aA,am,bZ,bQ,dC,V.lo,JN hi,dZ,Nd.cE]
  .rintro x -;simp only[hF,aA,am,a_,eJ,a_,eH];exact aN rfl (ag.bd _) ⟨rfl,by rw[e,dZ]⟩
def Wr(D:ag)(b Z:Nat)(l:List aL)(s:aI)(lat p:Int)(n:Nd)(hs:s.ok)(hg:TZ D)(hb:D.box b=ae)(mR:lat<s.bu.length)(hl:l.length+n.cw<=90000000)(hc:n.cw<=100000)(hw:n.wt<=aM) :
 dn 109 [.ptr (.out b) 0,.agg n.enc] (cQ D b Z l s lat p) (.bq []) (cQ D b Z (l++fz s lat n) s lat p):=by
 have fresh:∀{x:Nat} {cY:ag},(cQ cY b Z l s lat p).box x=ae->x≠b:=λ{x cY} h=>by rintro rfl;rw[Ip] at h;simp at h
 refine ad_.aV ?_;simp only[aU,am,a8,Nat.reduceAdd];intro b2 dw;have n2:=fresh dw;rw[AG n2] at dw;simp only[am,Nd.an];rw[Xq n2];intro b4 vX;have n4:=fresh vX;rw[AG n4] at vX;have T':b4≠b2:=by rintro rfl;simp[ag.set] at vX
 have atf : D.box b4=none:=by simpa [ag.set,T'] using vX
 simp only[am,Nd.an];rw[Xq n4];have v7:TZ ((D.set b2 [V.ptr (Pl.out b) 0]).set b4 [V.fn (Fn.func 176) [] [V.ptr (Pl.out b2) 0,V.ptr (Pl.out b4) 0]]):=hg;refine cl (aqk _ b Z b2 b4 s lat p hs v7 (by rw[mE n4.symm,mE n2.symm];exact hb) mR n2 n4 (by rw[mE T'.symm,gP]) gP n.wt n l (bL _) hl hc hw) ?_;simp only[am];exact aN rfl (ag.B6 (Xp n2 dw) (Xp n4 vX)) ⟨rfl,rfl⟩
def aeb:aT prog 111 (sq [rg 0 [ox 3 5 1],sq [rg 11 [fo 0 3,nB .eql 1],ci 13 (rg 14 [om 0,fo 2 3,fo 1 3,oc 107 [.s 14,.s 16,.s 18,.c (.int .i64 2)]])],sq [rg 20 [fo 0 3,nB .neq 10],ci 22 .ret],rg 4 [oz 6],sq [rg 23 [fo 4 3,nL,oi 0],lp 25 0 (sq [rg 28 [oA 5 24 26,nl 5,oZ 6 [0,0,1,7,10],o2 5 6],dg 30 [mk 0,nf 0,om 4,fo 2 6,oC 173 [33,35],nB .geq 0,of 1 6,mM [0],no,oc 110 [.s 32,.s 37,.c (.int .i64 4),.s 39]],rg 41 [om 4,fo 2 6,n1 1,na 1 41,o1 4],rg 46 [fo 4 6,nL,oi 0],lp 48 2 (sq [rg 51 [oA 5 47 49,nl 5,oZ 8 [0,0,1,7,10],o2 5 8],rg 53 [om 0,ol 5 8,oC 177 [53,54]]]) 56]) 57],sq [rg 58 [fo 3 3,nL,oi 0],lp 60 4 (sq [rg 63 [oA 2 59 61,nl 2,oZ 10 [1,0],o2 2 10],rg 65 [om 0,fo 0 10,fo 1 10,oc 107 [.s 65,.s 67,.s 69,.c (.int .i64 2)]]]) 71],dg 72 [mk 0,nf 0,fo 4 3,nL,nB .gtr 16,mk 0,nF 4,oc 110 [.s 74,.s 78,.c (.int .i64 7),.s 82]]]) [] 84:=aX func111
variable{l:List (List UInt8)}
def apH{x:List UInt8}:cO (l++[x])=cO l++[[.aF x]]:=by simp[cO]
variable{j:Nat}
def AF{l:List au}(h:j<l.length):(l.map au.enc)[((j:Nat):Int).toNat]?=U l[j].enc:=by simp[h]
def WA(D:ag)(b Z:Nat)(l:List aL)(s:aI)(lat p:Int)(n:Nd)(hs:s.ok)(hg:TZ D)(hb:D.box b=ae)(mR:lat<s.bu.length)(hl:l.length<=30000000)(hc:n.cw<=100000)(hw:n.wt<=aM) :
 dn 111 [.ptr (.out b) 0,.agg n.enc] (cQ D b Z l s lat p) (.bq []) (cQ D b Z (l++nd s lat p n) s lat p):=by
 refine aeb.aV ?_;simp only[aU,so,Nat.reduceAdd]
 by_cases h1:n.kind=1
 .simp only[am,Nd.fl,aP h1];refine cl (Ev D b Z l s lat p n.pos 2 n.al (by omega) hs) ?_;simp only[am,Nd.fl,aK (show ¬n.kind=10 by omega)];exact aN rfl (ag.bd _) ⟨rfl,by rw[nd,aD h1]⟩
 simp only[am,Nd.fl,aK h1]
 by_cases iH:n.kind=10
 case neg =>
  simp only[am,aK iH];exact aN rfl (ag.bd _) ⟨rfl,by rw[nd,aB h1,aB iH,eg]⟩
 simp only[am,aO,Nd.fl,aO,aP iH];have SD:nd s lat p n=nN s lat n.ah n.ah.length++wK s lat n.aj++(if 16<n.ah.length then [⟨7,p⟩] else []):=by rw[nd,aB h1,aD iH]
 have Dq:=y7 n;have v_:=CO n;have iw:∀k∈n.ah,k.ah.length<=100000:=λk hk=>by have:=y7 k;have:=qG hk;omega
 have kI:∀{i:Nat},i<=n.ah.length->(nN s lat n.ah i).length<=100000:=λ{i} hi=>by
  have:=JP (s:=s) (lat:=lat) hi
  have:=P' n.ah i
  have:=Nd.sE n
  omega
 refine eb (n.ah.length) (λi (x:Tk × ag)=>⟨[.ptr (.out b) 0,.any,.any,.ptr (.aC 0) 0,.sl x.1 1 (cO ((n.ah.take i).map Nd.al)),.any,.any,.any,.any,.any,.any,.any,.any,.any,.any,.any,.any,.any,.any,.any,.any,.any,.any,.any,.sl .no 5 (n.ah.map Nd.enc),.int .i64 (n.ah.length:Nat),.int .i64 (i:Nat)]++aA 57 .any,[n.enc],cQ x.2 b Z (l++nN s lat n.ah i) s lat p⟩) (λi x=>(Ah D x.2 Z x.1 i)) λF hF JF br=>⟨?_,?_,?_⟩
 .refine en br ((.aW,D)) (Ah.nil) ?_ ?_ ?_
  all_goals simp[hF,aA,am,bZ,nN,cO]
 .rintro i ⟨tk,cR⟩ hi hA;simp only at hA;have hm:n.ah[i]∈n.ah:=fu _;have xO:=qG hm;have xP:=mV hm;have rM:=iw _ hm;have hL:=kI (IS hi);have Gy:TZ cR:=hA.sub.2.2 _ _ hg;have fg:cR.box b=none:=by rw[hA.box];exact hb
  have xU:((n.ah.take i).map Nd.al).length=i:=by simp;omega
  have v8:n.ah.getD i jX=n.ah[i]:=qM hi;simp only[hF,aA,am,eE hi];refine ix (l6 (cH hi)) ?_;simp only[am,Nd.an,Nd.fl];refine bJ.intro (cm.eM (as' := [.sl .no 1 (cO ((n.ah.take i).map Nd.al)),.aF n.ah[i].al]) (vP ((n.ah.take i).map Nd.al) n.ah[i].al _ (by omega)) ⟨dE.no,dE.rfl,trivial⟩ bN.rfl) ?_;simp only[am,Nd.fl,ME];have ed:uo n.ah i=if (gY ((n.ah.take i).map Nd.al) n.ah[i].al).isSome then [⟨4,n.ah[i].pos⟩] else []:=by rw[uo,v8]
  have Sc:(uo n.ah i).length<=1:=by rw[ed];split<;>simp
  refine bJ.intro (wM cR b Z (l++nN s lat n.ah i) s lat p 4 n.ah[i].pos _ (by simp only[bI];omega)) ?_;rw[<-ed];simp only[am,Nd.fl];refine Ah.app (by rw[gO,xU];exact hA) (by simp[gO,aM];omega) λkx fQ Bm=>?_
  have Bm:Ah D fQ Z kx (i+1):=by rw[bI,gO,xU] at Bm;exact Bm
  have v7:TZ fQ:=Bm.sub.2.2 _ _ hg;have dw:fQ.box b=none:=by rw[Bm.box];exact hb
  simp only[am,aO,Nd.fl,aO];refine eb (n.ah[i].ah.length) (λj (y:Unit)=>⟨[.ptr (.out b) 0,.any,.any,.ptr (.aC 0) 0,.sl kx 1 (cO ((n.ah.take i).map Nd.al)++[[.aF n.ah[i].al]]),.any,.any,.any,.any,.any,.any,.any,.any,.any,.any,.any,.any,.any,.any,.any,.any,.any,.any,.any,.sl .no 5 (n.ah.map Nd.enc),.int .i64 (n.ah.length:Nat),.int .i64 (i:Nat),.any,.any,.any,.any,.any,.any,.any,.any,.any,.any,.any,.any,.any,.any,.any,.any,.any,.any,.any,.any,.sl .no 5 (n.ah[i].ah.map Nd.enc),.int .i64 (n.ah[i].ah.length:Nat),.int .i64 (j:Nat)]++aA 34 .any,[n.enc,n.ah[i].enc],cQ fQ b Z (l++nN s lat n.ah i++uo n.ah i++(n.ah[i].ah.take j).flatMap (j8 s lat)) s lat p⟩) (λj y=>(True)) λF2 ir ET pq=>⟨?_,?_,?_⟩
  .refine en pq (()) (trivial) ?_ ?_ ?_
   all_goals simp[ir,aA,am,bZ]
  .rintro j y hj -;have Bz:n.ah[i].ah[j]∈n.ah[i].ah:=fu _;have aiv:=qG Bz;have aiw:=mV Bz;have hL2:((n.ah[i].ah.take j).flatMap (j8 s lat)).length<=100000:=by
    have:=CY (f:=j8 s lat) (m:=1) (l:=n.ah[i].ah.take j) λ_ _=>Fu
    rw[tX,iP] at this;omega
   simp only[ir,aA,am,eE hj];refine ix (l6 (cH hj)) ?_;simp only[am,Nat.reduceAdd,Nd.an];refine cl (V_ fQ b Z _ s lat p n.ah[i].ah[j] (by simp only[bI];omega) hs v7 dw mR (by omega) (by omega)) ?_;simp only[am,a_,cT hj];refine fN (()) hj ?_ ?_ ?_ ?_ ?_ ?_
   .exact eN (pq _ _) (trivial)
   all_goals simp[ir,aA,am,bZ,bQ,dC,V.lo,JN hj,dZ,Nd.cE]
  .rintro y -;simp only[ir,aA,am,a_,eJ,Nat.reduceEqDiff,a_,reduceCtorEq,Nd.fl,aO,eH,cT hi];have ef:nN s lat n.ah (i+1)=nN s lat n.ah i++(uo n.ah i++n.ah[i].ah.flatMap (j8 s lat)):=by rw[Q_,zi,v8]
   have et:(n.ah.take (i+1)).map Nd.al=(n.ah.take i).map Nd.al++[n.ah[i].al]:=by rw[jr hi,fX];rfl
   refine fN ((kx,fQ)) hi ?_ ?_ ?_ ?_ ?_ ?_
   .exact eN (br _ _) (Bm)
   all_goals simp[hF,aA,am,bZ,bQ,dC,V.lo,ef,et,apH,dZ,Nd.cE]
 .rintro⟨tk,cR⟩ hA;simp only at hA;have hL:=kI (bL _);simp only[hF,aA,am,a_,eJ,a_,Nd.fl,aO];refine eb (n.aj.length) (λj (y:Unit)=>⟨[.ptr (.out b) 0,.any,.any,.ptr (.aC 0) 0,.any,.any,.any,.any,.any,.any,.any,.any,.any,.any,.any,.any,.any,.any,.any,.any,.any,.any,.any,.any,.any,.any,.any,.any,.any,.any,.any,.any,.any,.any,.any,.any,.any,.any,.any,.any,.any,.any,.any,.any,.any,.any,.any,.any,.any,.any,.any,.any,.any,.any,.any,.any,.any,.any,.any,.sl .no 2 (n.aj.map au.enc),.int .i64 (n.aj.length:Nat),.int .i64 (j:Nat)]++aA 22 .any,[n.enc],cQ cR b Z (l++nN s lat n.ah n.ah.length++wK s lat (n.aj.take j)) s lat p⟩) (λj y=>(True)) λF3 zn JF3 RS=>⟨?_,?_,?_⟩
  .refine en RS (()) (trivial) ?_ ?_ ?_
   all_goals simp[zn,aA,am,bZ,wK]
  .rintro j y hk -;have RT:=@NX s lat (n.aj.take j);rw[iP] at RT;simp only[zn,aA,am,eE hk];refine ix (AF hk) ?_;simp only[am,jo,au.an];refine cl (Ev cR b Z _ s lat p n.aj[j].pos 2 n.aj[j].al (by simp only[bI];omega) hs) ?_;simp only[am,a_,cT hk];have ef:wK s lat (n.aj.take (j+1))=wK s lat (n.aj.take j)++gR s lat n.aj[j].al n.aj[j].pos 2:=by rw[wK,JN hk];rfl
   refine fN (()) hk ?_ ?_ ?_ ?_ ?_ ?_
   .exact eN (RS _ _) (trivial)
   all_goals simp[zn,aA,am,bZ,bQ,dC,V.lo,ef,dZ,Nd.cE]
  .rintro y -;have RT:=@NX s lat n.aj;simp only[zn,aA,am,a_,eJ,a_,jo,Nd.fl,aO,eH];have bound:(l++nN s lat n.ah n.ah.length++wK s lat n.aj).length<=100000000:=by simp only[bI];omega
   by_cases C7:16<n.ah.length
   .rw[aP (show(16:Int)<(n.ah.length:Nat) by omega)];refine bJ.intro (Ey cR b Z _ s lat p 7 p bound) ?_;simp only[am];exact aN rfl (Xo hA.sub) ⟨rfl,by rw[SD,aD C7];simp only[dZ]⟩
   .rw[aK (show ¬(16:Int)<(n.ah.length:Nat) by omega)];refine bJ.intro (Ax cR b Z _ s lat p 7 p bound) ?_;simp only[am];exact aN rfl (Xo hA.sub) ⟨rfl,by rw[SD,aB C7,eg,dZ]⟩
section
variable {c:aq}
theorem ZQ:c.enc.length=17:=rfl
theorem ZW:cB c.enc=true:=rfl
theorem ZV:bH c.enc=true:=rfl
theorem ZC:bw c.enc=c.enc:=rfl
theorem Z7:takeN 17 c.enc=U c.enc:=rfl
theorem ZX{z0 z1 z2 z3 z4 z5 z6 z7 z8 z9 Oq Ot Ou Ov Ow Ox Oy:V}:over [z0,z1,z2,z3,z4,z5,z6,z7,z8,z9,Oq,Ot,Ou,Ov,Ow,Ox,Oy] c.enc=c.enc:=rfl
theorem ZR:bD ak 1 (c.enc.drop 7)=U (.int .i64 c.left.kind):=rfl
variable{w:au}
theorem ZZ:setAt c.enc 2 w.enc=({c with name:=w}:aq).enc:=rfl
theorem ZE:bW 2 (c.enc.drop 2)=true:=rfl
theorem Z0{ws:List au}:setAt c.enc 4 [.sl .no 2 (ws.map au.enc)]=({c with aj:=ws}:aq).enc:=rfl
theorem ZF:bW 1 (c.enc.drop 4)=true:=rfl
variable{ps:List (au × au)}
theorem Z1:setAt c.enc 5 [.sl .no 4 (ps.map e_)]=({c with bh:=ps}:aq).enc:=rfl
theorem ZG:bW 1 (c.enc.drop 5)=true:=rfl
theorem Z2{n:Int}:setAt c.enc 6 [.int .i64 n]=({c with mC:=n}:aq).enc:=rfl
theorem ZH:bW 1 (c.enc.drop 6)=true:=rfl
def ZY{n:Nd}:setAt c.enc 7 n.enc=({c with left:=n}:aq).enc:=by rw[Nd.dd];rfl
theorem ZD:bW 5 (c.enc.drop 7)=true:=rfl
def Z3{n:Nd}:setAt c.enc 12 n.enc=({c with right:=n}:aq).enc:=by rw[Nd.dd];rfl
theorem ZI:bW 5 (c.enc.drop 12)=true:=rfl
def df:=af @ZQ <| af @ZW <| af @ZV <| af @ZC <| af @Z7 <| af @ZX <| af @ZR <| af @ZZ <| af @ZE <| af @Z0 <| af @ZF <| af @Z1 <| af @ZG <| af @Z2 <| af @ZH <| af @ZY <| af @ZD <| af @Z3 @ZI
end
def aev:aT prog 157 (sq [rg 3 [oi 0],bl 0 (sq [sq [rg 4 [om 0,oo 1,nT,nb .lss 4,gA,oo 1,om 0,nS 9,oC 158 [11],gZ],cx 13 0],.block 1 (rg 14 [ic 0])]),rg 16 [om 0,o1 3],.ret]) [.tmp 3] 17:=aX func157
def aew:aT prog 158 (sq [rg 2 [oz 2],rg 3 [om 0,nu .geq 97,gA,om 0,nu .leq 122,gZ,nm,oh 9 (om 0),oh 9 (nu .geq 48),oh 9 (nm),og 12 (om 0),og 12 (nu .leq 57),oh 9 (oy 12 14),oq (.pick (.s 9) (.c (.bool aa)) (.s 15)),gB,om 0,nu .eql 95,gZ,o1 2],.ret]) [.tmp 2] 21:=aX func158
def aex:aT prog 159 (sq [rg 4 [oz 2],rg 5 [om 0,om 1,nS 5,nu .eql 45,gA,om 1,nB .add 1,om 0,nT,nb .lss 11,gZ,gA,om 0,om 1,nB .add 1,nS 17,nu .eql 45,gZ,o1 4],.ret]) [.tmp 4] 23:=aX func159
def aey:aT prog 160 (sq [rg 2 [oz 2],sq [rg 3 [om 0],.block 0 (sq [sq [rg 5 [ou .eql 3 35,o1 4],cd 4 .skip (sq [rg 6 [ou .eql 3 43,o1 4],cd 4 .skip (sq [rg 7 [ou .eql 3 38,o1 4],cd 4 .skip (sq [rg 8 [ou .eql 3 40,o1 4],cd 4 .skip (sq [rg 9 [ou .eql 3 41,o1 4],cd 4 .skip (sq [rg 10 [ou .eql 3 123,o1 4],cd 4 .skip (sq [rg 11 [ou .eql 3 125,o1 4],cd 4 .skip (sq [rg 12 [ou .eql 3 91,o1 4],cd 4 .skip (sq [rg 13 [ou .eql 3 93,o1 4],cd 4 .skip (sq [rg 14 [ou .eql 3 44,o1 4],cd 4 .skip (sq [rg 15 [ou .eql 3 58,o1 4],cd 4 .skip (sq [rg 16 [ou .eql 3 61,o1 4],cd 4 .skip (sq [rg 17 [ou .eql 3 124,o1 4],cd 4 .skip (rg 18 [ou .eql 3 60,o1 4])])])])])])])])])])])])])],cr 4 2 [oq (.mv (.c (.bool aa)))]])],rg 2 [oz 2],.ret]) [.tmp 2] 19:=aX func160
def aqh{c:Int}(h:mc c=aa):uB c=ak/\c≠45/\c≠32/\c≠9:=by
 simp only[mc,NM,List.any_cons,List.any_nil,mg,b7,di,D'] at h
 rcases h with h | h | h | h | h | h | h | h | h | h | h | h | h | h<;>subst h<;>exact⟨by decide,by decide,by decide,by decide⟩
def akj{n p:Nat}{c:UInt8}{r:List UInt8}{acc:List Tok}:e9 (n+1) p (c::r) acc =
 if c.toNat=32\/c.toNat=9 then e9 n (p+1) r acc
 else if c.toNat=45/\(r.head?.map UInt8.toNat)=U 45 then(acc,ae)
 else if mc (c.toNat:Nat)=aa then e9 n (p+1) r (acc++[⟨(c.toNat:Nat),[c],p⟩])
 else if dy (fj (c::r))=aa then e9 n (p+(fj (c::r)).length) ((c::r).drop (fj (c::r)).length) (acc++[⟨97,fj (c::r),p⟩])
 else([],U p):=by
 simp only[e9]
 by_cases hb:c.toNat=32\/c.toNat=9
 .have h1:gy c=false:=by
   simp only[gy]
   rcases hb with h | h<;>rw[h]<;>decide
  have h2:mc (c.toNat:Nat)=false:=by rcases hb with h | h<;>rw[h]<;>decide
  have h3:¬c.toNat=45:=by omega
  simp[hb,h2,h3,HT h1]
 .rw[aB hb];split
  .rfl
  .cases hs:mc (c.toNat:Nat)
   .by_cases hn:dy (fj (c::r))=aa
    .have:0<(fj (c::r)).length:=by
      cases hq:fj (c::r) with
      | nil=>rw[hq] at hn;simp[dy] at hn
      | cons _ _=>simp
     simp[hn,this]
    .simp[hn]
   .have h1:gy c=false:=(aqh hs).1;simp[HT h1]
def ahA(c:Int)(D:ag):bc 158 [.int .u8 c] D (.bool (uB c)):=by
 refine aew.aV ?_;simp only[aU,am,a8,Nat.reduceAdd]
 repeat' (first
  | (refine kH (λh=>?_) (λh=>?_)<;>simp only[am,h])
  | (refine fc (λh=>?_) (λh=>?_)<;>simp only[vo,h,Nat.reduceAdd,Nat.reduceEqDiff,aO])
  | (refine kX (λh=>?_) (λh=>?_)<;>simp only[vo,h,Nat.reduceAdd,Nat.reduceEqDiff,aO])
 )
 all_goals refine aS ?_
 all_goals simp_all [V.erase,uB,yd]
 all_goals (try omega)
def aqg(c:Int)(D:ag):bc 160 [.int .u8 c] D (.bool (mc c)):=by
 refine aey.aV ?_;simp only[aU,am,a8,Nat.reduceAdd]
 repeat' (first
  | (refine kH (λh=>?_) (λh=>?_)<;>simp only[vo,h,Nat.reduceAdd,Nat.reduceEqDiff,aO])
  | (refine fc (λh=>?_) (λh=>?_)<;>simp only[am,h])
  | (refine kX (λh=>?_) (λh=>?_)<;>simp only[vo,h,Nat.reduceAdd,Nat.reduceEqDiff,aO])
 )
 all_goals refine aS ?_
 all_goals simp_all [V.erase,mc,NM]
 all_goals (try omega)
def aaP(s:List UInt8)(a:Nat)(D:ag)(ha:a<s.length)(hb:s.length<=aM):cm prog 159 [.aF s,.int .i64 (a:Nat)] D λv σ' => v = .bool (decide (s[a].toNat=45/\(s.drop (a+1)).head?.map UInt8.toNat=U 45))/\σ' = D:=by
 simp only[aM] at hb;have w1:IntKind.i64.wrap ((a:Int)+1)=((a+1:Nat):Int):=by rw[wrap_i64];simp
 have hh:(s.drop (a+1)).head?.map UInt8.toNat=if h:a+1<s.length then U s[a+1].toNat else none:=by
  by_cases h:a+1<s.length
  .rw[CS h,drop_cons h];rfl
  .rw[dif_neg h,OL (by omega)];rfl
 rw[hh];refine aex.aV ?_;simp only[aU,am,a8,Nat.reduceAdd];refine BL (Eu ha) ?_;simp only[am]
 by_cases Gf:s[a].toNat=45
 .simp only[am,aP (show((s[a].toNat:Nat):Int)=45 by omega),w1]
  by_cases hl:a+1<s.length
  .simp only[am,aP (show((a+1:Nat):Int)<s.length by omega),w1];refine BL (Eu hl) ?_;simp only[am];refine aS ?_;simp[V.erase,Gf,hl];omega
  .simp only[am,aK (show ¬((a+1:Nat):Int)<s.length by omega)];refine aS ?_;simp[V.erase,hl]
 .simp only[am,aK (show ¬((s[a].toNat:Nat):Int)=45 by omega)];refine aS ?_;simp[V.erase,Gf]
def LD(s:List UInt8)(D:ag)(p a n:Nat):St:=⟨[.int .i64 ((a+n:Nat):Int),.ptr (.out p) 0]++aA 15 .any,[],D⟩
variable{s:List UInt8}
def acL{p a:Nat}(hp:D.box p=U [.aF s])(ha:a<=s.length)(hb:s.length<=aM):bc 157 [.int .i64 (a:Nat),.ptr (.out p) 0] D (.int .i64 ((a+(fj (s.drop a)).length:Nat):Int)):=by
 simp only[aM] at hb;refine aev.aV ?_;simp only[aU,am,a8,Nat.reduceAdd];refine iE (λq:{n:Nat // a+n<=s.length/\((s.drop a).take n).all gy=aa}=>LD s D p a q.1) (λq=>s.length - q.1) ?_ ?_
 .refine bm.enter ⟨0,by simpa using ha,by simp⟩ ?_ ch.rfl bN.rfl;simp[LD,aA,am]
 .rintro⟨n,hn,dj⟩;simp only[LD,aA,am,hp];have w1:IntKind.i64.wrap (((a+n:Nat):Int)+1)=((a+(n+1):Nat):Int):=by rw[wrap_i64];omega
  by_cases az:a+n<s.length
  .simp only[am,aP (show((a+n:Nat):Int)<s.length by omega),hp];refine BL (Eu az) ?_;simp only[am];refine cl (ahA s[a+n].toNat D) ?_;cases hg:uB (s[a+n].toNat:Nat)
   .simp only[am];refine aN rfl (ag.bd _) ⟨?_,rfl⟩;simp[V.erase,VK dj hn (λ_=>hg)]
   .simp only[am,w1];refine bm.again ⟨n+1,by omega,?_⟩ (by simp;omega) (by simp[am]) ch.rfl bN.rfl;have hd:n<(s.drop a).length:=by simp;omega
    rw[Pm hd,dj];simp only[pW,List.getElem_drop];exact hg
  .simp only[am,aK (show ¬((a+n:Nat):Int)<s.length by omega)];refine aN rfl (ag.bd _) ⟨?_,rfl⟩;simp[V.erase,VK dj hn (λh=>absurd h az)]
def agT:aT prog 96 (sq [rg 2 [od (U 1) (.fZ 1 (.s 0)),oz 8,oM [0,0]],.scope (sq [rg 9 [oq (.jx (.func 157) [] [(.s 1)]),o1 4],rg 5 [oz 8],rg 6 [oi 0],.skip,bl 0 (sq [sq [rg 10 [om 6,oo 1,nT,nb .lss 10],cx 13 0],.block 1 (sq [rg 14 [oo 1,om 6,nS 14,o1 7],.block 2 (sq [rg 18 [om 7,nu .eql 32,gB,om 7,nu .eql 9,gZ,o1 17],cd 17 (sq [rg 24 [ic 6],(.exit 1)]) (sq [rg 27 [oo 1,om 6,oC 159 [27,28],o1 26],cd 26 (.exit 0) (sq [rg 31 [om 7,oC 160 [31],o1 30],ci 30 (sq [rg 33 [om 5,om 7,oo 1,om 6,om 6,nB .add 1,oK 35 36 38,om 6,oW [3,1,0] [(0,1,34),(1,1,39),(2,1,40)],n1 3,na 3 33,o1 5],rg 44 [ic 6],(.exit 1)])])])]),rg 46 [om 4,om 6,oq (.ij (.s 46) [(.s 47)]),o1 8],sq [rg 49 [oo 1,om 6,om 8,oK 49 50 51,oC 161 [52],nn],cr 54 55 [om 6,oG [0,0] [(0,1,.c (.int .i64 1)),(1,1,.s 55)],oU 2 8,o2 2 3]],rg 57 [om 5,oo 1,om 6,om 8,oK 58 59 60,om 6,oG [3,1,0] [(0,1,.c (.int .u8 97)),(1,1,.s 61),(2,1,.s 62)],n1 3,na 3 57,o1 5],rg 66 [om 8,o1 6]])]),rg 67 [om 5,oW [0,0] [],ot 2 67,o2 2 3],.ret])]) [.tmp 2,.cell 3 aa 2] 69:=aX func96 ⟨[1],[]⟩
abbrev IA(s:List UInt8)(D:ag)(p:Nat)(R:List Tok × Option Int):={q:Nat × Nat × Nat × List Tok // (D.set p [.aF s]).aJ q.2.2.1=ae/\e9 q.1 q.2.1 (s.drop q.2.1) q.2.2.2=R/\q.2.2.2.length<=q.2.1/\q.2.1<=s.length/\s.length<=q.2.1+q.1}
def wj(s:List UInt8)(D:ag)(p a Z:Nat)(acc:List Tok):St :=
 ⟨[.aF s,.ptr (.out p) 0,.any,.ptr (.aC 0) 0,.fn (.func 157) [] [.ptr (.out p) 0],.sl (.tk Z) 3 (acc.map Tok.enc),.int .i64 (a:Nat)]++aA 62 .any,[[.int .i64 0,.int .i64 0]],(D.set p [.aF s]).aR Z acc.length⟩
def akk(s:List UInt8)(D:ag)(hb:s.length+1<=aM):bc 96 [.aF s] D (.bq [.sl .no 3 ((dG s).1.map Tok.enc),CK (dG s).2]):=by
 simp only[aM] at hb;generalize hR:dG s=R;refine agT.aV ?_;simp only[aU,am,a8,Nat.reduceAdd];refine jU λp hp=>?_
 simp only[am,cF];have nQ:∀Z m,((D.set p [.aF s]).aR Z m).box p=U [.aF s]:=λZ m=>by simp[ag.aR,ag.set]
 have pA:∀Z m,(D.set p [.aF s]).aJ Z=ae->D.sub ((D.set p [.aF s]).aR Z m):=λZ m h=>ag.B6 (h_ hp) (sj h)
 refine iE (λq:IA s D p R=>wj s D p q.1.2.1 q.1.2.2.1 q.1.2.2.2) (λq=>s.length - q.1.2.1) ?_ ?_
 .refine bm.Ay 0 λZ bp=>⟨⟨(s.length,0,Z,[]),bp,hR,by simp,by simp,by simp⟩,?_,rfl,rfl⟩
  simp[wj,aA,n7]
 .rintro⟨⟨n,a,Z,acc⟩,bp,hR,h1,h2,h3⟩;simp only at bp hR h1 h2 h3;simp only[wj,aA,am];refine fc ?_ ?_
  .intro az;have az:a<s.length:=by simpa using az
   obtain⟨m,rfl⟩:∃m,n=m+1:=⟨n - 1,by omega⟩;rw[drop_cons az] at hR;rw[akj,<-drop_cons az] at hR;have cS:=apx (s:=s) (a:=a);have w1:IntKind.i64.wrap ((a:Int)+1)=((a+1:Nat):Int):=by rw[wrap_i64];simp
   have again:∀(b:Nat) (A2 : List Tok) (t:List V) (l:List (List V)),e9 m b (s.drop b) A2 = R->A2.length<=b->a<b->b<=s.length ->
    cK t (wj s D p b Z A2).t->l=[[.int .i64 0,.int .i64 0]] ->
    bm ⟨t,l,(D.set p [.aF s]).aR Z A2.length⟩ λaH => ∃j:IA s D p R,aH = wj s D p j.1.2.1 j.1.2.2.1 j.1.2.2.2/\s.length - j.1.2.1<s.length - a:=λb A2 t l e1 e2 e3 e4 e5 e6=>by
    refine bm.again (μ:=λq:IA s D p R=>s.length - q.1.2.1) (I:=λq=>wj s D p q.1.2.1 q.1.2.2.1 q.1.2.2.2) ⟨(m,b,Z,A2),bp,e1,e2,e4,by simp only;omega⟩ (by simp;omega) e5 (by rw[e6];exact ch.rfl) bN.rfl
   simp only[am];refine BL (Eu az) ?_;simp only[am]
   by_cases pw:s[a].toNat=32\/s[a].toNat=9
   .rw[aD pw] at hR
    by_cases h32:s[a].toNat=32
    case' pos=>simp only[am,cF,Nat.reduceAdd,Nat.reduceEqDiff,aP (show((s[a].toNat:Nat):Int)=32 by omega),w1]
    case' neg=>simp only[am,cF,Nat.reduceAdd,Nat.reduceEqDiff,aK (show ¬((s[a].toNat:Nat):Int)=32 by omega),aP (show((s[a].toNat:Nat):Int)=9 by omega),w1]
    all_goals exact again (a+1) acc _ _ hR (by omega) (by omega) (by omega) (by simp[wj,aA,am]) rfl
   .rw[aB pw] at hR;simp only[am,aK (show ¬((s[a].toNat:Nat):Int)=32 by omega),aK (show ¬((s[a].toNat:Nat):Int)=9 by omega)];refine(aaP s a _ az (by simp only[aM];omega)).mono ?_;rintro v σ' ⟨rfl,rfl⟩
    by_cases xD:s[a].toNat=45/\(s.drop (a+1)).head?.map UInt8.toNat=U 45
    .rw[aD xD] at hR;simp only[am,cF,Nat.reduceAdd,Nat.reduceEqDiff,aP xD];refine aN rfl (pA Z _ bp) ⟨?_,rfl⟩;simp[V.erase,bw,<-hR,CK,fD]
    .rw[aB xD] at hR;simp only[am,aK xD];refine(aqg (s[a].toNat:Nat) _).mono ?_;rintro v σ' ⟨rfl,rfl⟩;cases SH:mc (s[a].toNat:Nat)
     .rw[aB (by simp[SH])] at hR;simp only[am];refine(acL (s:=s) (nQ Z _) (by omega) (by simp only[aM];omega)).mono ?_;rintro v σ' ⟨rfl,rfl⟩;simp only[am,cF];refine NO (by omega) (by omega) ?_;rw[Qq];simp only[am];refine(tj (fj (s.drop a)) _).mono ?_;rintro v σ' ⟨rfl,rfl⟩;cases GJ:dy (fj (s.drop a))
      .rw[aB (by simp[GJ])] at hR;simp only[am,cF,Nat.reduceAdd];refine aN rfl (pA Z _ bp) ⟨?_,rfl⟩;simp[V.erase,bw,<-hR,CK,fD]
      .rw[aD GJ] at hR;have hN:0<(fj (s.drop a)).length:=by
        cases hq:fj (s.drop a) with
        | nil=>rw[hq] at GJ;simp[dy] at GJ
        | cons _ _=>simp
       simp only[am,cF];refine NO (by omega) (by omega) ?_;rw[Qq];simp only[am,Nat.reduceAdd];refine jI (by simp[aM];omega) (by rw[aO,iX]) ?_;simp only[am,aO,jn];have e:acc.length+1=(acc++[(⟨97,fj (s.drop a),a⟩:Tok)]).length:=by simp
       rw[e];rw[wZ] at hR;exact again (a+(fj (s.drop a)).length) _ _ _ hR (by simp;omega) (by omega) (by omega) (by simp[wj,aA,am,Tok.enc]) rfl
     .rw[aD SH] at hR;simp only[am,cF,w1];refine NO (by omega) (by omega) ?_;rw[abk az];simp only[am,Nat.reduceAdd];refine jI (by simp[aM];omega) (by rw[aO,iX]) ?_;simp only[am,cF,Nat.reduceAdd,Nat.reduceEqDiff,aO,jn,w1];have e:acc.length+1=(acc++[(⟨(s[a].toNat:Nat),[s[a]],a⟩:Tok)]).length:=by simp
      rw[e];exact again (a+1) _ _ _ hR (by simp;omega) (by omega) (by omega) (by simp[wj,aA,am,Tok.enc]) rfl
  .intro az;have az:a=s.length:=by simp at az;omega
   subst az;rw[EU] at hR;have pr : (acc,ae)=R:=by cases n<;>simpa [e9] using hR
   simp only[am,cF,Nat.reduceAdd];refine aN rfl (pA Z _ bp) ⟨?_,rfl⟩;simp[V.erase,bw,<-pr,CK,fD]
def agU:aT prog 97 (sq [rg 2 [oz 10,oM [0,0]],rg 4 [oz 9],rg 5 [oz 10],sq [rg 11 [om 0,nL,oi 0],lp 12 0 (sq [rg 15 [oA 3 11 13,nl 3,oZ 7 [3,1,0],o2 3 7],rg 17 [om 4,nL,o1 8],.block 2 (sq [rg 27 [fo 0 7,oC 162 [28],nu .neq 0,o1 26],cd 26 (sq [sq [rg 31 [om 8,nB .geq 24],cr 32 33 [ol 3 7,oC 163 [33],oe 34 0,oe 34 1,ot 2 35,o2 2 3]],rg 37 [om 4,ol 3 7,om 5,oW [3,1,0,10] [(0,3,38),(3,1,39)],nO (.lE 4),na 4 37,o1 4],rg 5 [oz 10]]) (sq [rg 44 [fo 0 7,oC 164 [45],o1 43],cd 43 (sq [sq [dg 47 [om 8,nB .eql 0,gB,om 4,om 8,nB .sub 1,nA 4 50,nf 0,nF 0,oC 162 [56],of 0 7,mM [0],no,nb .neq 57,gZ],cr 61 62 [ol 3 7,oC 163 [62],oe 63 0,oe 63 1,ot 2 64,o2 2 3]],rg 66 [om 4,om 8,nB .sub 1,nA 4 66,nl 4,oZ 9 [3,1,0,10],o2 4 9],rg 71 [om 4,om 8,nB .sub 1,om 8,nB .sub 1,oq (.kv 4 (.s 71) ae (U (.s 73)) (U (.s 75))),o1 4],rg 77 [fo 3 9,of 0 9,nl 3,om 5,fo 2 7,oW [3,1,0,10,0] [(0,3,80),(3,1,81),(4,1,83)],n1 5,na 5 78,o1 5]]) (rg 19 [om 5,ol 3 7,fo 2 7,oW [3,1,0,10,0] [(0,3,20),(4,1,22)],n1 5,na 5 19,o1 5])])])]) 87],sq [rg 88 [om 4,nL,o1 10],rg 90 [om 10,nB .gtr 0],cr 91 92 [om 4,om 10,nB .sub 1,nA 4 92,nf 0,nl 3,oC 163 [97],oe 98 0,oe 98 1,ot 2 99,o2 2 3]],rg 101 [om 5,oW [0,0] [],ot 2 101,o2 2 3],.ret]) [.tmp 2,.cell 3 aa 2] 103:=aX func97 ⟨[41],[]⟩
def aeA:aT prog 162 (sq [rg 2 [oz 3],rg 3 [oz 3],sq [rg 4 [om 0],.block 0 (sq [.block 2 (sq [.block 1 (sq [sq [sq [sq [rg 6 [ou .eql 4 123,o1 5],cd 5 .skip (rg 7 [ou .eql 4 91,o1 5])],ci 5 (.exit 1)],rg 9 [ou .eql 4 40,o1 8],ci 8 (.exit 2)],(.exit 0)]),rg 10 [om 3,nu .add 1,o1 3]]),sq [rg 12 [om 0,nu .add 1,om 3,nb .add 13,o1 2],.ret],(.exit 0)])],rg 2 [oz 3],.ret]) [.tmp 2] 16:=aX func162
def aeB:aT prog 163 (sq [rg 2 [ox 1 3 0,oz 10,oM [0,0]],dg 4 [fo 2 1,oG [0,0] [(0,1,.c (.int .i64 2)),(1,1,.s 5)],oU 2 10,o2 2 3],.ret]) [.tmp 2,.cell 3 aa 2] 7:=aX func163
def aeC:aT prog 164 (sq [rg 2 [oz 2],rg 3 [om 0,nu .eql 41,gB,om 0,nu .eql 125,gZ,gB,om 0,nu .eql 93,gZ,o1 2],.ret]) [.tmp 2] 13:=aX func164
def P2(c:Int)(D:ag):bc 162 [.int .u8 c] D (.int .u8 (closing c)):=by
 refine aeA.aV ?_;simp only[aU,am,a8,Nat.reduceAdd]
 by_cases h1:c=123
 .subst h1;simp only[am,Nat.reduceEqDiff,bS];refine aS ?_;simp[V.erase];rfl
 .simp only[am,aK h1]
  by_cases h2:c=91
  .subst h2;simp only[am,Nat.reduceEqDiff,bS];refine aS ?_;simp[V.erase];rfl
  .simp only[am,aK h2]
   by_cases h3:c=40
   .subst h3;simp only[am,Nat.reduceEqDiff,bS];refine aS ?_;simp[V.erase];rfl
   .simp only[am,Nat.reduceEqDiff,aK h3];refine aS ?_;simp[V.erase,closing,h1,h2,h3]
def aaE(c:Int)(D:ag):bc 164 [.int .u8 c] D (.bool (kG c)):=by
 refine aeC.aV ?_;simp only[aU,am,a8,Nat.reduceAdd]
 repeat' (first
  | (refine kH (λh=>?_) (λh=>?_)<;>simp only[am,h])
  | (refine fc (λh=>?_) (λh=>?_)<;>simp only[vo,h,Nat.reduceAdd,Nat.reduceEqDiff,aO])
  | (refine kX (λh=>?_) (λh=>?_)<;>simp only[vo,h,Nat.reduceAdd,Nat.reduceEqDiff,aO])
 )
 all_goals refine aS ?_
 all_goals simp_all [V.erase,kG]
 all_goals (try omega)
def Fy(t:Tok)(D:ag):bc 163 [.agg t.enc] D (.bq [.sl .no 5 [],jK (U t.pos)]):=by
 refine aeB.aV ?_;simp only[aU,am,a8,Tok.enc,am];refine aS ?_;simp[V.erase,bw,jK,c8,fD]
structure ig where
 tok:Tok
 tk:Tk
 ahead:List ar
def ig.enc(x:ig):List V:=[.int .u8 x.tok.kind,.aF x.tok.al,.int .i64 x.tok.pos,.sl x.tk 5 (dv x.ahead)]
def ig.pair(x:ig):Tok × List ar:=(x.tok,x.ahead)
def ig.tn(x:ig):Tk × Nat:=(x.tk,(dv x.ahead).length)
structure A1 where
 i:Nat
 H8:Tk
 op:List ig
 B8:Tk
 row:List ar
 Z:ag
def sY(l:List Tok)(q:A1):St :=
 ⟨[.sl .no 3 (l.map Tok.enc),.any,.any,.ptr (.aC 0) 0,.sl q.H8 4 (q.op.map ig.enc),.sl q.B8 5 (dv q.row)]++aA 5 .any++[.sl .no 3 (l.map Tok.enc),.int .i64 l.length,.int .i64 (q.i:Nat)]++aA 89 .any,[[.int .i64 0,.int .i64 0]],q.Z⟩
def Fj(l:List Tok)(D:ag)(R:List ar × Option Int)(q:A1):Prop :=
 q.i<=l.length/\fP (l.drop q.i) (q.op.map ig.pair) q.row=R/\jd D q.Z ((q.H8,(q.op.map ig.enc).length)::(q.B8,(dv q.row).length)::q.op.map ig.tn)/\q.op.length<=q.i/\q.row.length<=q.i/\∀x∈q.op,x.ahead.length+1<=q.i
def Wu{O:Type}(l:List O):l=[]\/∃ys x,l=ys++[x]:=by
 rcases ON l with h | ⟨ys,x,h⟩
 .exact .inl h
 .exact .inr ⟨ys,x,by rw[h];simp⟩
def ara(l:List Tok)(D:ag)(hb:l.length+1<=aM):bc 97 [.sl .no 3 (l.map Tok.enc)] D (.bq [.sl .no 5 (dv (fP l [] []).1),jK (fP l [] []).2]):=by
 simp only[aM] at hb;generalize hR:fP l [] []=R;refine agU.aV ?_;simp only[aU,am,a8,Nat.reduceAdd];refine iE (λq:{q:A1 // Fj l D R q}=>sY l q.1) (λq=>l.length - q.1.i) ?_ ?_
 .refine bm.enter ⟨⟨0,.aW,[],.aW,[],D⟩,by simp,hR,jd.init (by simp),by simp,by simp,by simp⟩ ?_ ch.rfl bN.rfl;simp[sY,aA,am,dv]
 .rintro⟨⟨i,H8,op,B8,row,Z⟩,h1,hR,hT,fg,dw,qQ⟩;simp only at h1 hR hT fg dw qQ;simp only[sY,aA,am];refine fc ?_ ?_
  .intro az;have az:i<l.length:=by simpa using az
   rw[mi az] at hR;have aiP:iY l i=l[i]:=by simp[iY,az]
   rw[<-aiP] at hR;generalize ht:iY l i=t at hR;have wi:IntKind.i64.wrap ((i:Int)+1)=((i+1:Nat):Int):=by rw[wrap_i64];simp
   have again:∀(q:A1) (t:List V) (m:List (List V)),Fj l D R q->q.i=i+1->cK t (sY l q).t->ch (m.take 1) [[.int .i64 0,.int .i64 0]] ->
    bm ⟨t,m,q.Z⟩ λaH => ∃j:{q:A1 // Fj l D R q},aH = sY l j.1/\l.length - j.1.i<l.length - i:=λq t m hq hi ht hm=>by
    refine bm.ud (I:=λq:{q:A1 // Fj l D R q}=>sY l q.1) (μ:=λq=>l.length - q.1.i) ⟨q,hq⟩ (by simp only;omega) ht hm bN.rfl (by simp[sY,aA,bQ,V.lo]) (by simp[sY,dC,bQ,V.lo])
   simp only[am];refine ix (aqZ az) ?_;rw[ht];simp only[am,Nat.reduceAdd,aO,Tok.enc];refine(P2 t.kind _).mono ?_;rintro v σ' ⟨rfl,rfl⟩;simp only[fP] at hR
   by_cases hc:closing t.kind=0
   .rw[aB (by simp[hc])] at hR;simp only[am,aP hc];refine(aaE t.kind _).mono ?_;rintro v σ' ⟨rfl,rfl⟩;cases gH:kG t.kind
    .rw[gH] at hR;simp only[di,ck] at hR;simp only[am,Nat.reduceAdd];refine I6 (hT.perm (List.Perm.swap _ _ _)) (by rw[ka];simp[aM];omega) λυ kh=>?_
     simp only[ka,aO,db,ei,jc] at kh;simp only[am,ka,wi];have e:dv row++[[V.int .u8 t.kind,.aF t.al,.int .i64 t.pos,.sl .no 5 [],.int .i64 t.pos]]=dv (row++[.mk t [] t.pos]):=by simp[sH,ar.enc,dv]
     rw[e];refine again ⟨i+1,H8,op,.tk υ,row++[.mk t [] t.pos],σ'.aR υ (row.length+1)⟩ _ _ ⟨az,hR,?_,by simp only;omega,by simp;omega,λx hx=>by have:=qQ x hx;simp only;omega⟩ rfl (by simp[sY,aA,am]) (by simp[am]);refine jd.perm ?_ (List.Perm.swap _ _ _);simpa [ka] using kh
    .rw[gH] at hR;simp only[cC] at hR
     rcases Wu op with rfl | ⟨ys,x,rfl⟩
     .simp only[eC,List.getLast?_nil] at hR;simp only[am,eC,ei,show decide (((0:Nat):Int)=0)=aa from rfl];refine(Fy t _).mono ?_;rintro v σ' ⟨rfl,rfl⟩;simp only[am,Nat.reduceAdd,jK];refine aN rfl hT.1 ⟨?_,rfl⟩;simp[V.erase,bw,<-hR,c8,fD,dv]
     .have aQ:¬(((ys++[x]).length:Nat):Int)=0:=by simp;omega
      have wn:IntKind.i64.wrap ((((ys++[x]).length:Nat):Int) - 1)=(ys.length:Nat):=by rw[wrap_i64 (by simp<;>omega) (by simp at fg ⊢<;>omega)];simp
      have fp:((ys++[x]).map ig.enc)[((ys.length:Nat):Int).toNat]?=U x.enc:=by simp
      simp only[fX,bX,eC,EX,ID,ig.pair] at hR;simp only[am,aK aQ,wn];refine ix (fp) ?_;simp only[am,ig.enc];refine bJ.intro (P2 x.tok.kind _) ?_;simp only[am]
      by_cases hk:closing x.tok.kind=t.kind
      .rw[aD hk] at hR;simp only[am,aP hk,wn];refine ix (fp) ?_;simp only[am,cF,Nat.reduceAdd,ig.enc,wn];refine HY (by simp) ?_;have Da:jd D σ' ((x.tk,(dv x.ahead).length)::ys.map ig.tn):=by
        refine(hT.tail.tail).perm ?_;simp only[fX,bX,eC,ig.tn];exact XM _ _
       have hx3:=qQ x (by simp);simp only[bI,db,ei] at fg;simp only[am,Nat.reduceAdd];refine I6 Da (by rw[ka];simp[aM];omega) λυ kh=>?_
       simp only[ka,db,ei,jc] at kh;simp only[am,ka,wi];have e:dv x.ahead++[[V.int .u8 x.tok.kind,.aF x.tok.al,.int .i64 x.tok.pos,.sl .no 5 (dv row),.int .i64 t.pos]]=dv (x.ahead++[.mk x.tok row t.pos]):=by simp[sH,ar.enc]
       have e2:((ys++[x]).map ig.enc).take ys.length=ys.map ig.enc:=by simp
       rw[e,e2];refine again ⟨i+1,.aW,ys,.tk υ,x.ahead++[.mk x.tok row t.pos],σ'.aR υ (x.ahead.length+1)⟩ _ _ ⟨az,hR,?_,by simp only;omega,by simp;omega,λy hy=>by have:=qQ y (by simp[hy]);simp only;omega⟩ rfl (by simp[sY,aA,am]) (by simp[am]);refine jd.aW ?_;simpa [ka] using kh
      .rw[aB hk] at hR;simp only[am,aK hk];refine(Fy t _).mono ?_;rintro v σ' ⟨rfl,rfl⟩;simp only[am,Nat.reduceAdd,jK];refine aN rfl hT.1 ⟨?_,rfl⟩;simp[V.erase,bw,<-hR,c8,fD,dv]
   .rw[aD hc] at hR;simp only[am,aK hc];rw[aO] at hR
    by_cases sL:24<=op.length
    .rw[aD sL] at hR;simp only[am,aP (show(24:Int)<=op.length by omega)];refine(Fy t _).mono ?_;rintro v σ' ⟨rfl,rfl⟩;simp only[am,Nat.reduceAdd,jK];refine aN rfl hT.1 ⟨?_,rfl⟩;simp[V.erase,bw,<-hR,c8,fD,dv]
    .rw[aB sL] at hR;simp only[am,pf,Nat.reduceAdd,aK (show ¬(24:Int)<=op.length by omega),anp];refine I6 hT (by simp[aM];omega) λυ kh=>?_
     simp only[aO,db,ei,jc] at kh;simp only[am,aO,wi];have e:op.map ig.enc++[[V.int .u8 t.kind,.aF t.al,.int .i64 t.pos,.sl B8 5 (dv row)]]=(op++[(⟨t,B8,row⟩:ig)]).map ig.enc:=by simp[ig.enc]
     rw[e];refine again ⟨i+1,.tk υ,op++[⟨t,B8,row⟩],.aW,[],σ'.aR υ (op.length+1)⟩ _ _ ⟨az,by simpa [ig.pair] using hR,?_,by simp;omega,by simp,λx hx=>?_⟩ rfl (by simp[sY,aA,am,dv]) (by simp[am])
     .simp only[aO,bI,db,ei,jc,fX,bX,eC,ig.tn];refine jd.perm (jd.aW (n:=(dv []).length) kh) ?_;refine(List.Perm.swap _ _ _).trans (List.Perm.cons _ (List.Perm.cons _ ?_));exact(XM _ _).symm
     .rcases jE.1 hx with hx | hx
      .have:=qQ x hx;simp only;omega
      .simp at hx;subst hx;simp only;omega
  .intro az;have az:i=l.length:=by simp at az;omega
   subst az;rw[EU] at hR;simp only[fP] at hR;simp only[am,aO];refine fc ?_ ?_
   .intro h0
    rcases Wu op with rfl | ⟨ys,x,rfl⟩
    .simp at h0
    have wn:IntKind.i64.wrap ((((ys++[x]).length:Nat):Int) - 1)=(ys.length:Nat):=by rw[wrap_i64 (by simp<;>omega) (by simp at fg ⊢<;>omega)];simp
    have fp:((ys++[x]).map ig.enc)[((ys.length:Nat):Int).toNat]?=U x.enc:=by simp
    simp only[fX,bX,eC,EX,ig.pair] at hR;simp only[am,wn];refine ix (fp) ?_;simp only[am,ig.enc];refine(Fy x.tok _).mono ?_;rintro v σ' ⟨rfl,rfl⟩;simp only[am,Nat.reduceAdd,jK];refine aN rfl hT.1 ⟨?_,rfl⟩;simp[V.erase,bw,<-hR,c8,fD,dv]
   .intro h0;have h0:op=[]:=by
     cases op with
     | nil=>rfl
     | cons x xs=>simp at h0<;>omega
    subst h0;simp only[eC,List.getLast?_nil] at hR;simp only[am,Nat.reduceAdd];refine aN rfl hT.1 ⟨?_,rfl⟩;simp[V.erase,bw,<-hR,jK,c8,fD]
def agV:aT prog 98 (sq [rg 0 [oZ 2 [1,0]],rg 4 [om 0,oc 165 [.s 4,.c (.int .u8 97)],oZ 3 [3,1,0,10,0],o2 5 3],rg 6 [of 0 3,nF 1,of 0 3,nF 2,oW [1,0] [(0,1,8),(1,1,11)],o2 2 2],.ret]) [.cell 2 aa 2] 13:=aX func98
def ad3:aT prog 102 (sq [sq [rg 2 [mk 0,nf 3,nF 0,nB .neq 0],ci 7 .ret],rg 8 [om 0,mk 0,nF 2,oG [0,0] [(0,1,.c (.int .i64 2)),(1,1,.s 12)],ok 8,nf 3,os 2 15 13],dg 16 [mk 0,nF 1,mk 0,nF 0,nL,nb .lss 19],ci 25 (dg 26 [om 0,mk 0,nF 0,mk 0,nF 1,nA 5 30,nf 0,nF 2,ok 26,nf 3,nf 1,os 1 41 38])]) [] 42:=aX func102
def aeD:aT prog 165 (sq [rg 0 [oZ 4 [3,1,0,10,0]],sq [dg 5 [mk 0,nf 3,nF 0,nB .neq 0,gB,mk 0,nF 1,mk 0,nF 0,nL,nb .geq 15,gZ,gB,mk 0,nF 0,mk 0,nF 1,nA 5 27,nf 0,nF 0,om 1,nb .neq 35,gZ],ci 38 (sq [rg 39 [om 0,oC 102 [39]],rg 41 [oW [3,1,0,10,0] [],o2 5 4],.ret])],rg 42 [mk 0,nF 1,nB .add 1,ok 42,nf 1,os 1 48 46],dg 49 [mk 0,nF 0,mk 0,nF 1,nB .sub 1,nA 5 52,nl 5,o2 5 4],.ret]) [.cell 4 aa 5] 60:=aX func165
def aeG:aT prog 168 (sq [rg 0 [ox 5 5 1,ox 7 2 3],sq [rg 8 [nF 0,nB .neq 0],cr 10 11 [om 0,ol 2 7,ok 11,nf 3,os 2 14 12]],rg 15 [om 0,om 2,ok 15,nf 1,os 1 18 16],sq [rg 19 [mk 0,nf 5,nf 7,nF 0,nB .eql 0],cr 25 26 [om 0,ol 5 5,ok 26,nf 5,nf 7,os 5 30 27]],rg 31 [om 0,ol 5 5,ok 31,nf 5,nf 12,os 5 35 32]]) [] 36:=aX func168
variable{cs:List V}{r:Nat}{rd:ab}
def PV(h:D.box r=U (rd.enc++cs))(h0:0<=rd.at_):dn 102 [.ptr (.out r) 0] D (.bq []) (D.set r (rd.fail.enc++cs)):=by
 refine ad3.aV ?_;simp only[aU,am,a8,am,h,ab.enc];cases hb:rd.aE with
 | some b =>
  simp only[am,Nat.reduceAdd,ff,Int.reduceEq,c8];refine aN rfl (ag.bd _) ⟨rfl,?_⟩;rw[ab.fail,hb];exact(ag.yu h).symm
 | none =>
  simp only[am,Nat.reduceAdd,ka,bS,c8,h,ab.enc]
  by_cases h1:rd.at_<rd.l.length
  .obtain⟨j,hj⟩:=Co h0;have gI : j<rd.l.length:=by omega
   simp only[am,bS,h1,bS];refine qY h0 (c:=rd.l[j].enc) (by simp[sH,hj,gI]) ?_;simp only[am,Nat.reduceAdd,dd];refine aN rfl (ag.bd _) ⟨rfl,?_⟩;simp[ab.fail,ab.spot,hb,hj,gI,fD]
  .simp only[am,ff,h1,ff];refine aN rfl (ag.bd _) ⟨rfl,?_⟩
   have:rd.l[rd.at_.toNat]?=none:=yP (by omega)
   simp[ab.fail,ab.spot,hb,this,fD]
def FL{k:Int}(h:D.box r=U (rd.enc++cs))(h0:0<=rd.at_)(hb:rd.l.length<=aM):dn 165 [.ptr (.out r) 0,.int .u8 k] D (.agg (rd.take k).1.enc) (D.set r ((rd.take k).2.enc++cs)):=by
 refine aeD.aV ?_;simp only[aU,am,a8,am,h,ab.enc];have iI:rd.bR k=ak->dn 102 [.ptr (.out r) 0] D (.bq []) (D.set r (rd.fail.enc++cs)):=λ_=>PV h h0
 cases fF:rd.aE with
 | some b =>
  have hs:rd.bR k=false:=by simp[ab.bR,ab.ok,fF]
  simp only[am,Nat.reduceAdd,ff,Int.reduceEq,c8];refine(iI hs).mono ?_;rintro v σ' ⟨rfl,rfl⟩;simp only[am,Nat.reduceAdd];refine aN rfl (ag.bd _) ⟨?_,?_⟩
  .simp[ab.take,hs,V.erase,bw,ar.zero,ar.enc,dv]
  .simp[ab.take,hs,ab.enc,c8]
 | none =>
  simp only[am,Nat.reduceAdd,ka,bS,c8,h,ab.enc]
  by_cases h1:rd.at_<rd.l.length
  .obtain⟨j,hj⟩:=Co h0;have gI : j<rd.l.length:=by omega
   simp only[am,aK (show ¬(rd.l.length:Int)<=rd.at_ by omega),h,ab.enc];refine qY h0 (c:=rd.l[j].enc) (by simp[sH,hj,gI]) ?_;simp only[am,dd]
   by_cases hk:rd.l[j].tok.kind=k
   .have hs:rd.bR k=true:=by simp[ab.bR,ab.ok,fF,bx,hj,gI,hk]
    have w1:IntKind.i64.wrap (rd.at_+1)=rd.at_+1:=by simp only[aM] at hb;exact wrap_i64 (by omega) (by omega)
    have w2:IntKind.i64.wrap (rd.at_+1 - 1)=rd.at_:=by rw[show rd.at_+1 - 1=rd.at_ by omega];simp only[aM] at hb;exact wrap_i64 (by omega) (by omega)
    simp only[am,aP hk,h,ab.enc,w1,w2];refine qY h0 (c:=rd.l[j].enc) (by simp[sH,hj,gI]) ?_;simp only[am,ar.an];refine aN ar.dq (ag.bd _) ⟨?_,?_⟩
    .simp[ab.take,hs,V.erase,hj,gI,gU,ar.an];exact dd _
    .simp[ab.take,hs,c8]
   .have hs:rd.bR k=false:=by simp[ab.bR,ab.ok,fF,bx,hj,gI,hk]
    simp only[am,aK hk];refine(iI hs).mono ?_;rintro v σ' ⟨rfl,rfl⟩;simp only[am,Nat.reduceAdd];refine aN rfl (ag.bd _) ⟨?_,?_⟩
    .simp[ab.take,hs,V.erase,bw,ar.zero,dv,ar.tok,ar.ah,ar.fin]
    .simp[ab.take,hs,ab.enc,c8]
  .have hs:rd.bR k=false:=by
    have:rd.l[rd.at_.toNat]?=none:=yP (by omega)
    simp[ab.bR,ab.ok,fF,bx,this]
   simp only[am,aP (show(rd.l.length:Int)<=rd.at_ by omega)];refine(iI hs).mono ?_;rintro v σ' ⟨rfl,rfl⟩;simp only[am,Nat.reduceAdd];refine aN rfl (ag.bd _) ⟨?_,?_⟩
   .simp[ab.take,hs,V.erase,bw,ar.zero,ar.enc,dv]
   .simp[ab.take,hs,ab.enc,c8]
def CQ(h:D.box r=U (rd.enc++cs))(h0:0<=rd.at_)(hb:rd.l.length<=aM):dn 98 [.ptr (.out r) 0] D (.agg rd.word.1.enc) (D.set r (rd.word.2.enc++cs)):=by
 refine agV.aV ?_;simp only[aU,am,a8,Nat.reduceAdd];refine(FL h h0 hb).mono ?_;rintro v σ' ⟨rfl,rfl⟩;simp only[am,Nat.reduceAdd,ar.an,ar.fl];refine aN rfl (ag.bd _) ⟨?_,?_⟩
 .simp[ab.word,V.erase,bw,au.enc]
 .simp[ab.word]
variable{c:aq}{pc:V}
def P7{g:Nd × Int × Option Int}(h:D.box r=U (rd.enc++c.cM pc))(hb:rd.aE=ae):dn 168 [.ptr (.out r) 0,.agg g.1.enc,.int .i64 g.2.1,jK g.2.2] D (.bq []) (D.set r ((iM rd c g).1.enc++(iM rd c g).2.cM pc)):=by
 refine aeG.aV ?_;simp only[aU,am,a8,Nat.reduceAdd,Nd.an];simp only[am,Nat.reduceAdd,jK,ab.enc,aq.cM];cases hg:g.2.2 with
 | some a =>
  simp only[am,Nat.reduceAdd,ff,Int.reduceEq,c8,h,ab.enc,aq.cM];refine aN rfl (ag.bd _) ⟨rfl,?_⟩;simp[iM,hg]
 | none =>
  simp only[am,Nat.reduceAdd,bS,c8,h,ab.enc,aq.cM]
  by_cases hk:c.left.kind=0
  .simp only[am,Nat.reduceAdd,aP hk,Nd.dd];refine aN rfl (ag.bd _) ⟨rfl,?_⟩;simp[iM,hg,hk]
  .simp only[am,Nat.reduceAdd,aK hk,Nd.dd];refine aN rfl (ag.bd _) ⟨rfl,?_⟩;simp[iM,hg,hk]
def agW:aT prog 99 (sq [rg 2 [oi 0],sq [rg 4 [oi 0],bl 0 (sq [rg 5 [nB .lss 16],cx 5 0,.block 1 (sq [rg 6 [om 4,o1 3],rg 7 [om 3,nB .gtr 0,gA,om 3,oq (.qZ 16 2 (.c (.ptr (.jM 0) 0)) (.s 10)),nF 0,om 0,nE .eql 13,gZ],cr 16 17 [om 3,o1 2]]),rg 18 [oB .add 4 1,o1 4]])],rg 2 [oi 0],.ret]) [.tmp 2] 19:=aX func99
def ad2:aT prog 100 (sq [rg 0 [oZ 2 [1,1]],sq [rg 3 [om 0,nB .lss 0,gB,om 0,nB .geq 16,gZ],cr 8 9 [oW [1,1] [],o2 2 2]],rg 10 [om 0,oq (.qZ 16 2 (.c (.ptr (.jM 0) 0)) (.s 10)),nl 2,o2 2 2],.ret]) [.cell 2 aa 2] 13:=aX func100
def Rn{i:Nat}(h:i<16):fL.drop (i*2)=[V.aF (jL.getD i ([],[])).1,.aF (jL.getD i ([],[])).2]++((jL.map λp=>[V.aF p.1,V.aF p.2]).drop (i+1)).flatten:=by
 unfold fL;rw[JO (k:=2) (by intro r hr;simp only[vv] at hr;obtain⟨p,_,rfl⟩:=hr;rfl),mi (by simpa [jL] using h)]
 have:i<jL.length:=by simpa [jL] using h
 simp[gU,this]
def Mx(op:Int)(hg:D.bO 0=U fL):bc 100 [.int .i64 op] D (.agg [.aF (cn op).1,.aF (cn op).2]):=by
 refine ad2.aV ?_;simp only[aU,am,a8,Nat.reduceAdd]
 by_cases h0:op<0
 .simp only[am,Nat.reduceAdd,aP h0];refine aN rfl (ag.bd _) ⟨?_,rfl⟩
  have:¬(0<=op/\op<16):=by omega
  simp[V.erase,bw,cn,this]
 .simp only[am,aK h0]
  by_cases h1:16<=op
  .simp only[am,Nat.reduceAdd,aP h1];refine aN rfl (ag.bd _) ⟨?_,rfl⟩
   have:¬(0<=op/\op<16):=by omega
   simp[V.erase,bw,cn,this]
  .simp only[am,cF,aK h1];refine kj ?_;simp only[am,Nat.reduceAdd,hg,Rn (show op.toNat<16 by omega)];refine aN rfl (ag.bd _) ⟨?_,rfl⟩
   have:0<=op/\op<16:=by omega
   simp[V.erase,bw,cn,this]
def xZ(w:List UInt8)(D:ag)(i:Nat):St:=⟨[.aF w,.any,.any,.any,.int .i64 (i:Nat)]++aA 14 .any,[],D⟩
def alu(w:List UInt8)(hg:D.bO 0=U fL):bc 99 [.aF w] D (.int .i64 (iC w)):=by
 generalize hR:iC w=R;unfold iC at hR;refine agW.aV ?_;simp only[aU,am,a8,Nat.reduceAdd];refine iE (λp:{p:Nat × Nat // mY w p.1 p.2=R/\p.2+p.1=16}=>xZ w D p.1.2) (λp=>p.1.1) ?_ ?_
 .refine bm.enter ⟨(16,0),hR,rfl⟩ ?_ ch.rfl bN.rfl;simp[xZ,aA,am]
 .rintro⟨⟨n,i⟩,hR,hs⟩;simp only at hR hs;simp only[xZ,aA,am]
  by_cases az:i<16
  .obtain⟨m,rfl⟩:∃m,n=m+1:=⟨n - 1,by omega⟩;simp only[mY] at hR;have wi:IntKind.i64.wrap ((i:Int)+1)=((i+1:Nat):Int):=by rw[wrap_i64];simp
   have hf:cn (i:Nat)=jL.getD i ([],[]):=by simp only[cn];rw[aD (by omega)];simp
   have again:∀(t:List V),mY w m (i+1)=R->cK t (xZ w D (i+1)).t->bm ⟨t,[],D⟩ λaH => ∃j:{p:Nat × Nat // mY w p.1 p.2=R/\p.2+p.1=16},aH = xZ w D j.1.2/\j.1.1<m+1:=λt h ht =>
    bm.again (I:=λp:{p:Nat × Nat // mY w p.1 p.2=R/\p.2+p.1=16}=>xZ w D p.1.2) (μ:=λp=>p.1.1) ⟨(m,i+1),h,by simp only;omega⟩ (by simp) ht ch.rfl bN.rfl
   simp only[am,aP (show(i:Int)<16 by omega)]
   by_cases h0:0<i
   .simp only[am,cF,aP (show(0:Int)<i by omega)];refine kj ?_;simp only[am,hg,Rn az,jC]
    by_cases hw:(jL.getD i ([],[])).1=w
    .rw[aD ⟨h0,by rw[hf];exact hw⟩] at hR;simp only[am,aP hw];refine aS ?_;simp[V.erase,hR]
    .rw[aB (by rw[hf];exact λh=>hw h.2)] at hR;simp only[am,aK hw,wi];exact again _ hR (by simp[xZ,aA,am])
   .rw[aB (by simp[h0])] at hR;simp only[am,aK (show ¬(0:Int)<i by omega),wi];exact again _ hR (by simp[xZ,aA,am])
  .obtain rfl:n=0:=by omega
   simp only[mY] at hR;simp only[am,aK (show ¬(i:Int)<16 by omega)];refine aS ?_;simp[V.erase,hR]
def aeF:aT prog 167 (sq [rg 6 [om 0,oc 165 [.s 6,.c (.int .u8 123)],oZ 2 [3,1,0,10,0],o2 5 2],rg 8 [om 0,of 0 2,nF 2,ok 8,nf 5,nf 6,os 1 14 11],sq [rg 15 [mk 0,nf 3,nF 0,nB .neq 0,gB,fo 3 2,nL,nB .eql 0,gZ],ci 26 .ret],rg 27 [fo 3 2,fo 4 2,oW [10,0,0,0,0,0,0,1,0,7,9,0,0,0,1,7,10,0,0,1,7,10] [(0,1,28),(2,1,30)],oq (.fZ 22 (.s 31)),o1 3],bl 0 (sq [sq [rg 33 [mk 3,nf 3,nF 0,nB .eql 0],cx 38 0],.block 1 (sq [rg 39 [om 3,oC 98 [39],oZ 4 [1,0],o2 2 4],rg 41 [om 3,oc 165 [.s 41,.c (.int .u8 60)]],rg 43 [om 3,oC 98 [43],oZ 5 [1,0],o2 2 5],dg 45 [om 0,mk 0,nf 5,nF 5,ol 2 4,ol 2 5,oW [1,0,1,0] [(0,2,51),(2,2,52)],n1 4,na 4 50,ok 45,nf 5,nf 5,os 1 58 55],sq [dg 59 [mk 3,nF 1,mk 3,nF 0,nL,nb .eql 62],ci 68 (.exit 0)],rg 69 [om 3,oc 165 [.s 69,.c (.int .u8 44)]]])]),.o7 (rg 71 [mk 3,nf 3,nF 0,nB .neq 0]),ci 76 (rg 77 [om 0,mk 3,nf 3,nl 2,ok 77,nf 3,os 2 83 81])]) [] 84:=aX func167 ⟨[32],[11]⟩
def aqW{r:ab}{k:Int}:((r.take k).1.ah.length:Int)<=a9 r.l:=by
 have:=(r.vg k).1
 have:=lI (r.take k).1.ah
 omega
def W9(r:ab):lb r r.word.2:=xy r
def gS:List V:=[.int .i64 0,.int .i64 0,.aF [],.int .i64 0,.sl .aW 2 [],.sl .aW 4 [],.int .i64 0,.int .i64 0,.int .i64 0,.aF [],.sl .aW 2 [],.sl .aW 5 [],.int .i64 0,.int .i64 0,.aF [],.sl .aW 2 [],.sl .aW 5 []]
def amW(h:D=σ'):bN D σ' := h▸bN.rfl
structure Fa where
 n:Nat
 i:ab
 acc:List (au × au)
 Z:Nat
def pK(D:ag)(r q Z:Nat)(i rd:ab)(c:aq)(acc:List (au × au)):ag:=((D.set q (i.enc++gS)).set r (rd.enc++c.cM (.sl (.tk Z) 4 (acc.map e_)))).aR Z acc.length
section
variable {D:ag} {r q Z:Nat} {i i' rd:ab} {c:aq} {acc:List (au × au)}
def BW(h:q≠r):(pK D r q Z i rd c acc).box q=U (i.enc++gS):=by simp[pK,ag.aR,ag.set,h]
def UB:(pK D r q Z i rd c acc).box r=U (rd.enc++c.cM (.sl (.tk Z) 4 (acc.map e_))):=by simp[pK,ag.aR,ag.set]
def anu:(pK D r q Z i rd c acc).aJ Z=U acc.length:=by simp[pK,ag.aR]
def HD(h:q≠r):(pK D r q Z i rd c acc).set q (i'.enc++gS)=pK D r q Z i' rd c acc:=by
 have:((D.set q (i.enc++gS)).set r (rd.enc++c.cM (.sl (.tk Z) 4 (acc.map e_)))).set q (i'.enc++gS)=(D.set q (i'.enc++gS)).set r (rd.enc++c.cM (.sl (.tk Z) 4 (acc.map e_))):=by rw[ag.set_comm (fm h),ag.set_set]
 show(((D.set q (i.enc++gS)).set r (rd.enc++c.cM (.sl (.tk Z) 4 (acc.map e_)))).set q (i'.enc++gS)).aR Z acc.length=_;rw[this];rfl
theorem abb:bD ak 1 ((rd.enc++c.cM pc).drop 10)=U pc:=rfl
theorem abg{x:V}:setAt (rd.enc++c.cM pc) 10 [x]=rd.enc++c.cM x:=rfl
theorem aa':bW 1 ((rd.enc++c.cM pc).drop 10)=true:=rfl
theorem aba:bD ak 1 (rd.enc++cs)=U (.sl .no 5 (dv rd.l)):=rfl
theorem aa3:bD ak 1 ((rd.enc++cs).drop 1)=U (.int .i64 rd.at_):=rfl
theorem aa6:bD ak 1 ((rd.enc++cs).drop 2)=U (.int .i64 rd.fin):=rfl
theorem aa4:bD ak 1 ((rd.enc++cs).drop 3)=U (.int .i64 (c8 rd.aE)):=rfl
theorem aa5:takeN 2 ((rd.enc++cs).drop 3)=U [.int .i64 (c8 rd.aE),.int .i64 (fD rd.aE)]:=rfl
theorem aa8:bW 2 ((rd.enc++cs).drop 3)=true:=rfl
variable{b:Option Int}
def abd:setAt (rd.enc++cs) 3 [.int .i64 (c8 b),.int .i64 (fD b)]=({rd with aE:=b}:ab).enc++cs:=by cases cs<;>rfl
def ln:=af @abb <| af @abg <| af @aa' <| af @aba <| af @aa3 <| af @aa6 <| af @aa4 <| af @aa5 <| af @aa8 @abd
variable{p:au × au}
def ant{n:Nat}(hn:n=acc.length+1):((pK D r q Z i rd c acc).aR Z n).set r (rd.enc++c.cM (.sl (.tk Z) 4 (acc.map e_++[e_ p])))=pK D r q Z i rd c (acc++[p]):=by
 subst hn;unfold pK;rw[bI,db,ei,fX,bX,eC];show((((D.set q (i.enc++gS)).set r (rd.enc++c.cM (.sl (.tk Z) 4 (acc.map e_)))).set r (rd.enc++c.cM (.sl (.tk Z) 4 (acc.map e_++[e_ p])))).aR Z acc.length).aR Z (acc.length+1)=_;rw[ag.set_set,jn]
end
def ag.NV{X:List V}(h:D.sub σ'):(D.set r X).sub (σ'.set r X):=by
 refine⟨λb cs hb=>?_,h.2⟩;simp only[ag.set] at hb ⊢
 by_cases e:b=r
 .rw[aD e] at hb ⊢;exact hb
 .rw[aB e] at hb ⊢;exact h.1 b cs hb
def xd(r q:Nat):List V:=[.ptr (.out r) 0,.any,.any,.ptr (.out q) 0]++aA 80 .any
variable{acc:List (au × au)}
def UJ{q Z:Nat}{i:ab}{t:List V}{l:List (List V)}{K:St->Prop}(bp:D.aJ Z=ae)(ht:cK t (xd r q))
 (hK:K ⟨xd r q,[],(D.set q (i.enc++gS)).set r (rd.enc++c.cM (.sl .no 4 (acc.map e_)))⟩):bm ⟨t,l,pK D r q Z i rd c acc⟩ K:=by
 refine bm.Ba (l' := []) ht (by simp[ch]) ?_ (by simp[xd,aA,bQ,V.lo]) rfl hK;refine⟨λb cs' hb=>?_,λυ m hm=>?_,λ_ _ h=>h⟩
 .simp only[pK,ag.aR,ag.set] at hb ⊢;split at hb
  .rename_i h;subst h;simp only[aY] at hb;subst hb;exact⟨_,by rw[aD rfl],by simp[ab.enc,aq.cM,am]⟩
  .rename_i h;exact⟨cs',by rw[aB h];exact hb,cK.rfl⟩
 .have hm:D.aJ υ=U m:=hm;have aQ:υ≠Z:=by rintro rfl;rw[bp] at hm;simp at hm
  simp only[pK,ag.aR,ag.set,aB aQ];exact hm
def yl{n:Nat}{i:ab}(h:i.aE≠ae):ab.fT n i acc=(i,acc):=by
 cases n<;>simp[ab.fT,h]
variable{ps:List (au × au)}
def MQ(h:ps≠[]):ql ps = .sl .no 4 (ps.map e_):=by cases ps with | nil=>exact absurd rfl h | cons _ _=>rfl
def wk(D:ag)(r q:Nat)(rd:ab)(c:aq)(p:Fa):St :=
 ⟨[.ptr (.out r) 0,.any,.any,.ptr (.out q) 0]++aA 80 .any,[],pK D r q p.Z p.i rd c p.acc⟩
def O8(t:ar)(D:ag)(R:ab × List (au × au))(p:Fa):Prop :=
 ab.fT p.n p.i p.acc=R/\p.i.l=t.ah/\0<=p.i.at_/\p.i.at_<=p.i.l.length/\(p.i.aE=ae->(t.ah.length:Int)+1<=p.i.at_+p.n)/\(p.acc.length:Int)<=p.i.at_+1/\(p.i.aE=ae->(p.acc.length:Int)<=p.i.at_)/\D.aJ p.Z=ae/\(p.i.aE=ae\/p.acc≠[])
def anA(h:D.box r=U (rd.enc++c.cM (.sl .aW 4 [])))(hc:c.bh=[])(h0:0<=rd.at_)(hm:a9 rd.l+1<=aM):
 dn 167 [.ptr (.out r) 0] D (.bq []) (D.set r ((oH rd c).1.enc++(oH rd c).2.cM (ql (oH rd c).2.bh))):=by
 have hlen:=lI rd.l;refine aeF.aV ?_;simp only[aU,am,a8,Nat.reduceAdd];refine(FL h h0 (by omega)).mono ?_;rintro v σ' ⟨rfl,rfl⟩;have fM:=aqW (r:=rd) (k:=123);have GK:oH rd c=if (rd.take 123).2.aE≠ae\/(rd.take 123).1.ah.length=0 then((rd.take 123).2,{c with mC:=(rd.take 123).1.tok.pos})
  else((rd.take 123).2.ue ((rd.take 123).1.inner.fT ((rd.take 123).1.ah.length+1) []).1.aE,{c with mC:=(rd.take 123).1.tok.pos,bh:=((rd.take 123).1.inner.fT ((rd.take 123).1.ah.length+1) []).2}):=rfl
 rw[GK];generalize (rd.take 123).1=t at fM ⊢;generalize (rd.take 123).2=r1;simp only[am,Nat.reduceAdd,ar.an,ar.fl,ab.enc,aq.cM];cases hb:r1.aE with
 | some b =>
  simp only[am,ff,Int.reduceEq,c8];refine aN rfl (ag.bd _) ⟨rfl,?_⟩;simp[hc,ql,hb]
 | none =>
  simp only[am,ka,bS,c8,ar.fl]
  by_cases hk:t.ah.length=0
  .simp only[am,aP (show(t.ah.length:Int)=0 by omega)];refine aN rfl (ag.bd _) ⟨rfl,?_⟩;simp[hc,ql,hb,hk]
  .simp only[am,Nat.reduceAdd,aK (show ¬(t.ah.length:Int)=0 by omega),ar.fl];refine jU λq hq=>?_
   have ke:q≠r:=by rintro rfl;simp[ag.set] at hq
   have K7:D.box q=none:=by simpa [ag.set,ke] using hq
   generalize hR:ab.fT (t.ah.length+1) t.inner []=R;rw[aB (by simp[hk])];have ey:t.inner=(⟨t.ah,0,t.fin,ae⟩:ab):=rfl;generalize Gn:({c with mC:=t.tok.pos}:aq)=c1;have e1:∀A B,(D.set r A).set q B=(D.set q B).set r A:=λA B=>ag.set_comm (fm ke)
   rw[e1];refine iE (λp:{p:Fa // O8 t D R p}=>wk D r q r1 c1 p.1) (λp=>p.1.n) ?_ ?_
   .refine(bm.Ba (t' := (wk D r q r1 c1 ⟨0,t.inner,[],0⟩).t) (l' := []) (σ' := (D.set q (t.inner.enc++gS)).set r (r1.enc++c1.cM (.sl .aW 4 []))) ?_ trivial ?_ (by simp[wk,aA,bQ,V.lo]) rfl rfl).bind ?_
    .simp[wk,aA,am]
    .refine amW ?_;simp[ab.enc,aq.cM,gS,<-Gn,ey,hb,c8,fD];rfl
    .rintro _ rfl;refine bm.tok 0 λZ bp=>⟨_,[],(D.set q (t.inner.enc++gS)).set r (r1.enc++c1.cM (.sl (.tk Z) 4 [])),dY.rfl,rfl,by simp,?_,⟨⟨t.ah.length+1,t.inner,[],Z⟩,?_⟩,?_⟩
     .have:=pZ.set (D:=(D.set q (t.inner.enc++gS)).set r (r1.enc++c1.cM (.sl .aW 4 []))) (b:=r) (Z:=Z) (n:=0) (cs' := r1.enc++c1.cM (.sl (.tk Z) 4 [])) (ag.dR _ _ _) (by simp[ab.enc,aq.cM,n7])
      rwa [ag.set_set] at this
     .exact⟨hR,rfl,by simp[ey],by simp[ey],λ_=>by simp[ey],by simp[ey],λ_=>by simp[ey],bp,.inl rfl⟩
     .rfl
   .rintro⟨⟨n,i,acc,Z⟩,hR,hl,GB,px,hn,ha1,Kl,bp,aQ⟩;simp only at hR hl GB px hn ha1 Kl bp aQ;simp only[wk,aA,am,BW ke,ln];have gz : i.l.length=t.ah.length:=by rw[hl]
    have Dr:i.l.length<=aM:=by rw[hl];omega
    cases fF:i.aE with
    | some b =>
     simp only[am,ff,Int.reduceEq,c8];rw[yl (by simp[fF])] at hR;have ahS:acc≠[]:=by rcases aQ with h | h;rw[fF] at h;simp at h;exact h
     refine UJ bp (by simp[xd,aA,am]) ?_;have vY:∀B,((D.set q (i.enc++gS)).set r B).box q=U (i.enc++gS):=λB=>by simp[ag.set,ke]
     have uD:∀A B,((D.set q A).set r B).box r=U B:=λA B=>by simp[ag.set]
     simp only[xd,aA,am,vY,ln,fF,c8];simp only[am,Nat.reduceAdd,ff,Int.reduceEq,vY,ln,fF,c8];refine aN rfl (ag.NV (h_ K7)) ⟨rfl,?_⟩;simp[<-hR,ab.ue,fF,MQ ahS,<-Gn,ab.enc,aq.cM,c8,fD];rfl
    | none =>
     have Kl:=Kl fF;have hn:=hn fF;obtain⟨m,rfl⟩:∃m,n=m+1:=⟨n - 1,by omega⟩;simp only[ab.fT,fF,ne_eq,Hx,ck] at hR;simp only[am,bS,c8];refine(CQ (BW ke) GB Dr).mono ?_;rintro v σ' ⟨rfl,rfl⟩;rw[HD ke];obtain⟨g1,g2⟩:=W9 i;have g2:=g2 GB px;have e1:i.word.2.l.length=i.l.length:=by rw[g1]
     generalize i.word.2=i1 at *;generalize i.word.1=lo at *;simp only[am,au.an];refine(FL (BW ke) (by omega) (by rw[g1];exact Dr)).mono ?_;rintro v σ' ⟨rfl,rfl⟩;rw[HD ke];obtain⟨g3,g4⟩:=sJ i1 60;have g4:=g4 (by omega) (by omega);have e2:(i1.take 60).2.l.length=i1.l.length:=by rw[g3]
     generalize (i1.take 60).2=i2 at *;simp only[am];refine(CQ (BW ke) (by omega) (by rw[g3,g1];exact Dr)).mono ?_;rintro v σ' ⟨rfl,rfl⟩;rw[HD ke];obtain⟨g5,g6⟩:=W9 i2;have g6:=g6 (by omega) (by omega);have e3:i2.word.2.l.length=i2.l.length:=by rw[g5]
     generalize i2.word.2=i3 at *;generalize i2.word.1=hi at *;simp only[am,Nat.reduceAdd,UB,ln,au.enc];refine xf (by simp[aM] at hm ⊢;omega) (by rw[aO];exact anu) ?_;simp only[am,Nat.reduceAdd,aO,UB,ln];rw[show [V.aF lo.al,V.int .i64 lo.pos,.aF hi.al,.int .i64 hi.pos]=e_ (lo,hi) from rfl,ant rfl];simp only[am,ka,BW ke,ln];have v_:acc++[(lo,hi)]≠[]:=by simp
     by_cases iu:i3.at_=i.l.length
     .rw[aD iu] at hR;simp only[am,Nat.reduceEqDiff,aP (show i3.at_=(i3.l.length:Int) by omega)];refine UJ bp (by simp[xd,aA,am]) ?_;have vY:∀B,((D.set q (i3.enc++gS)).set r B).box q=U (i3.enc++gS):=λB=>by simp[ag.set,ke]
      have uD:∀A B,((D.set q A).set r B).box r=U B:=λA B=>by simp[ag.set]
      cases qQ:i3.aE with
      | none =>
       simp only[xd,aA,am,vY,ln,qQ,c8];simp only[am,bS];refine aN rfl (ag.NV (h_ K7)) ⟨rfl,?_⟩;simp[<-hR,ab.ue,qQ,MQ v_,<-Gn,hb,ab.enc,aq.cM,c8,fD]
      | some b =>
       simp only[xd,aA,am,vY,ln,qQ,c8];simp only[am,Nat.reduceAdd,ff,Int.reduceEq,vY,ln,qQ,c8];refine aN rfl (ag.NV (h_ K7)) ⟨rfl,?_⟩;simp[<-hR,ab.ue,qQ,MQ v_,<-Gn,ab.enc,aq.cM,c8,fD];rfl
     .rw[aB iu] at hR;simp only[am,aK (show ¬i3.at_=(i3.l.length:Int) by omega)];refine(FL (BW ke) (by omega) (by omega)).mono ?_;rintro v σ' ⟨rfl,rfl⟩;rw[HD ke];obtain⟨g7,g8⟩:=sJ i3 44;have g8:=g8 (by omega) (by omega);have e4:(i3.take 44).2.l.length=i3.l.length:=by rw[g7]
      generalize (i3.take 44).2=i4 at *;simp only[am];refine bm.ud (I:=λp:{p:Fa // O8 t D R p}=>wk D r q r1 c1 p.1) (μ:=λp=>p.1.n) ⟨⟨m,i4,acc++[(lo,hi)],Z⟩,hR,by rw[<-hl,g7,g5,g3,g1],by simp only;omega,by simp only;omega,λvX=>?_,?_,λvX=>?_,bp,.inr v_⟩ (by simp) (by simp[wk,aA,am]) (by simp[ch,wk]) bN.rfl (by simp[wk,aA,bQ,V.lo]) rfl
      .have:=g8.2.2 vX;simp only;omega
      .simp;omega
      .have:=g8.2.2 vX;simp;omega
def Re:aT prog 101 (sq [sq [rg 6 [mk 0,nf 3,nF 0,nB .neq 0],ci 11 .ret],rg 12 [om 1],.block 0 (sq [rg 14 [oq (.eD .eql (.s 12) (.c (.int .i32 110))),o1 13],cd 13 (rg 15 [om 0,om 0,oC 98 [16],ok 15,nf 5,nf 2,os 2 20 17]) (sq [rg 22 [oq (.eD .eql (.s 12) (.c (.int .i32 102))),o1 21],cd 21 (rg 23 [om 0,om 0,oC 98 [24],n1 2,ok 23,nf 5,nf 4,os 1 29 26]) (sq [rg 31 [oq (.eD .eql (.s 12) (.c (.int .i32 119))),o1 30],cd 30 (sq [dA 33 [5] [mk 0,nF 0,mk 0,nF 1,mk 0,nF 2,oC 166 [36,40,44],o1 32,oe 32 0,oe 32 1,oN,ot 4 46,oX 5 2 47],dg 48 [om 0,om 0,om 4,mM [1],ol 2 5,ok 48,nf 5,nf 4,os 1 54 50,ok 49,nf 3,os 2 56 51],rg 57 [mk 0,nF 1,nB .add 1,ok 57,nf 1,os 1 63 61]]) (sq [rg 65 [oq (.eD .eql (.s 12) (.c (.int .i32 112))),o1 64],cd 64 (rg 66 [om 0,oC 167 [66]]) (sq [rg 69 [oq (.eD .eql (.s 12) (.c (.int .i32 116))),o1 68],cd 68 (dg 70 [om 0,mk 0,nF 0,mk 0,nF 1,mk 0,nF 2,oC 169 [74,78,82],oe 83 0,oe 83 1,oe 83 2,oC 168 [70,84,85,86]]) (sq [rg 89 [oq (.eD .eql (.s 12) (.c (.int .i32 114))),o1 88],ci 88 (dg 90 [om 0,mk 0,nF 0,mk 0,nF 1,mk 0,nF 2,oC 170 [94,98,102],oe 103 0,oe 103 1,oe 103 2,oC 168 [90,104,105,106]])])])])])])])]) [] 108:=aX func101
variable{b:Option Int}
theorem QZ:(jK b).cG=true:=rfl
section
variable {rd:ab} {c:aq} {pc:V} {cs:List V}
variable{w:au}
theorem abe:setAt (rd.enc++c.cM pc) 7 w.enc=rd.enc++({c with name:=w}:aq).cM pc:=rfl
theorem aa9:bW 2 ((rd.enc++c.cM pc).drop 7)=true:=rfl
theorem abf{ws:List au}:setAt (rd.enc++c.cM pc) 9 [.sl .no 2 (ws.map au.enc)]=rd.enc++({c with aj:=ws}:aq).cM pc:=rfl
theorem aa_:bW 1 ((rd.enc++c.cM pc).drop 9)=true:=rfl
def abc{n:Int}:setAt (rd.enc++cs) 1 [.int .i64 n]=({rd with at_:=n}:ab).enc++cs:=by cases cs<;>rfl
theorem aa7:bW 1 ((rd.enc++cs).drop 1)=true:=rfl
def Jt:=af @abe <| af @aa9 <| af @abf <| af @aa_ <| af @abc @aa7
end
def anC(h:D.box r=U (rd.enc++c.cM pc))(hb:rd.aE=ae)(h0:0<=rd.at_)(hlen:rd.l.length<=aM):
 dn 101 [.ptr (.out r) 0,.int .i32 102] D (.bq []) (D.set r (rd.word.2.enc++({c with aj:=[rd.word.1]}:aq).cM pc)):=by
 refine cm.le (S:=D.set r (setAt (rd.word.2.enc++c.cM pc) 9 [.sl .aW 2 [rd.word.1.enc]])) ?_ (bN.set ?_)
 .refine Re.aV ?_;simp only[aU,am,a8,Nat.reduceAdd];simp only[am,bS,ff,Int.reduceEq,h,ln,hb,c8];refine(CQ h h0 hlen).mono ?_;rintro v σ' ⟨rfl,rfl⟩;simp only[am,Nat.reduceAdd,au.an,Jt];refine aN rfl (ag.bd _) ⟨rfl,rfl⟩
 .show cK ([V.sl .no 5 (dv rd.word.2.l),.int .i64 rd.word.2.at_,.int .i64 rd.word.2.fin,.int .i64 (c8 rd.word.2.aE),.int .i64 (fD rd.word.2.aE)]++_) ([V.sl .no 5 (dv rd.word.2.l),.int .i64 rd.word.2.at_,.int .i64 rd.word.2.fin,.int .i64 (c8 rd.word.2.aE),.int .i64 (fD rd.word.2.aE)]++_);simp[am,aq.cM]
def anH{x:ab × aq}{k:UInt8}(h:D.box r=U (x.1.enc++x.2.cM pc))(hp:k=112->pc = .sl .aW 4 []/\x.2.bh=[])(h0:0<=x.1.at_)(hm:a9 x.1.l+1<=aM)(ha:x.1.at_<=aM):
 dn 101 [.ptr (.out r) 0,.int .i32 (k.toNat:Nat)] D (.bq []) (D.set r ((c9 k x).1.enc++(c9 k x).2.cM (if k=112/\x.1.aE=ae then ql (c9 k x).2.bh else pc))):=by
 obtain⟨rd,c⟩:=x;simp only at h hp h0 hm ha;have hlen:=lI rd.l;have iw:∀n:UInt8,((k.toNat:Nat):Int)=(n.toNat:Nat)↔k=n:=λn=>by
  constructor
  .intro h;exact Pe.1 (by omega)
  .rintro rfl;rfl
 by_cases k2:k=102/\rd.aE=ae
 .obtain⟨k2,hb⟩:=k2;subst k2
  have:=anC h hb h0 (by omega)
  simpa [c9,hb] using this
 refine Re.aV ?_;simp only[aU,am,a8,Nat.reduceAdd];simp only[am,h,ln];cases hb:rd.aE with
 | some b =>
  simp only[am,ff,Int.reduceEq,c8];refine aN rfl (ag.bd _) ⟨rfl,?_⟩;rw[show c9 k (rd,c)=(rd,c) by simp[c9,hb],aB (by simp)];exact(ag.yu h).symm
 | none =>
  have k2:¬k=102:=λh=>k2 ⟨h,hb⟩
  simp only[am,bS,c8];have mT:c9 k (rd,c)=if k=110 then(rd.word.2,{c with name:=rd.word.1})
   else if k=119 then({rd with aE:=(iZ rd.l rd.at_ rd.fin).2,at_:=rd.at_+1},{c with aj:=(iZ rd.l rd.at_ rd.fin).1})
   else if k=112 then oH rd c
   else if k=116 then iM rd c (fi (ab.label (a9 rd.l)) rd.l rd.at_ rd.fin)
   else if k=114 then iM rd c (fi (ab.row (a9 rd.l)) rd.l rd.at_ rd.fin)
   else(rd,c):=by simp[c9,hb,k2]
  have CU:((k.toNat:Nat):Int)=110↔k=110:=iw 110;have FO:((k.toNat:Nat):Int)=102↔k=102:=iw 102;have za:((k.toNat:Nat):Int)=119↔k=119:=iw 119;have y_:((k.toNat:Nat):Int)=112↔k=112:=iw 112;have FQ:((k.toNat:Nat):Int)=116↔k=116:=iw 116;have FP:((k.toNat:Nat):Int)=114↔k=114:=iw 114
  by_cases k1:k=110
  .rw[aD k1] at mT;simp only[am,aP (CU.2 k1)];refine(CQ h h0 (by omega)).mono ?_;rintro v σ' ⟨rfl,rfl⟩;simp only[am,Nat.reduceAdd,au.an,Jt];refine aN rfl (ag.bd _) ⟨rfl,?_⟩;rw[mT,aB (by simp[k1])]
  rw[aB k1] at mT;simp only[am,aK (λh=>k1 (CU.1 h))];simp only[am,aK (λh=>k2 (FO.1 h))]
  by_cases k3:k=119
  .rw[aD k3] at mT;simp only[am,Nat.reduceAdd,bS,Nat.reduceLT,aP (za.2 k3),h,ln];refine bJ.intro (X0 hm) ?_;rw[mT,aB (by simp[k3])];generalize iZ rd.l rd.at_ rd.fin=o;have w1:IntKind.i64.wrap (rd.at_+1)=rd.at_+1:=by simp only[aM] at ha;exact wrap_i64 (by omega) (by omega)
   simp only[am,Nat.reduceAdd,jK,h,ln,Jt,w1];exact aN rfl (ag.bd _) ⟨rfl,rfl⟩
  rw[aB k3] at mT;simp only[am,aK (λh=>k3 (za.1 h))]
  by_cases k4:k=112
  .rw[aD k4] at mT;obtain⟨rfl,hc⟩:=hp k4;simp only[am,aP (y_.2 k4)];refine(anA h hc h0 hm).mono ?_;rintro v σ' ⟨rfl,rfl⟩;simp only[am];refine aN rfl (ag.bd _) ⟨rfl,?_⟩;rw[mT,aD k4]
  rw[aB k4] at mT;simp only[am,aK (λh=>k4 (y_.1 h))]
  by_cases k5:k=116
  .rw[aD k5] at mT;simp only[am,aP (FQ.2 k5),h,ln];refine bJ.intro (XF (bL _) hm) ?_;rw[mT,aB (by simp[k4])];generalize fi (ab.label (a9 rd.l)) rd.l rd.at_ rd.fin=g;simp only[am,Nd.an,QZ];refine bJ.intro (P7 h hb) ?_;simp only[am];refine aN rfl (ag.bd _) ⟨rfl,rfl⟩
  rw[aB k5] at mT;simp only[am,aK (λh=>k5 (FQ.1 h))]
  by_cases k6:k=114
  .rw[aD k6] at mT;simp only[am,aP (FP.2 k6),h,ln];refine bJ.intro (XX (bL _) hm) ?_;rw[mT,aB (by simp[k4])];generalize fi (ab.row (a9 rd.l)) rd.l rd.at_ rd.fin=g;simp only[am,Nd.an,QZ];refine bJ.intro (P7 h hb) ?_;simp only[am];refine aN rfl (ag.bd _) ⟨rfl,rfl⟩
  rw[aB k6] at mT;simp only[am,aK (λh=>k6 (FP.1 h))];refine aN rfl (ag.bd _) ⟨rfl,?_⟩;rw[mT,aB (by simp[k4])];exact(ag.yu h).symm
def agG:aT prog 53 (sq [rg 0 [oZ 2 [0,0,1,0,7,9,0,0,0,1,7,10,0,0,1,7,10],oZ 3 [0,0]],rg 12 [om 0,oC 96 [12],o1 11,oe 11 0,oe 11 1,oZ 5 [0,0],ot 4 14,o2 2 5],sq [rg 16 [fo 0 5,nB .neq 0],ci 18 (sq [dg 19 [oW [0,0,1,0,7,9,0,0,0,1,7,10,0,0,1,7,10] [],mM [1],ol 2 5,os 17 2 19,o2 2 3],.ret])],rg 22 [om 4,oC 97 [22],o1 21,oe 21 0,oe 21 1,ot 6 24,o2 2 5],sq [rg 26 [fo 0 5,nB .neq 0,gB,om 6,nL,nB .eql 0,gZ],ci 33 (sq [dg 34 [oW [0,0,1,0,7,9,0,0,0,1,7,10,0,0,1,7,10] [],mM [1],ol 2 5,os 17 2 34,o2 2 3],.ret])],rg 36 [om 6,om 0,nT,oW [10,0,0,0,0,0,0,1,0,7,9,0,0,0,1,7,10,0,0,1,7,10] [(0,1,36),(2,1,38)],oq (.fZ 22 (.s 39)),o1 7],rg 41 [om 7,oC 98 [41],oZ 8 [1,0],o2 2 8],dg 43 [om 7,fo 0 8,oC 99 [45],of 1 8,mM [0],no,oW [0,0,1,0,7,9,0,0,0,1,7,10,0,0,1,7,10] [(0,1,46),(1,1,48)],ok 43,nf 5,os 17 51 49],sq [rg 52 [mk 7,nf 5,nF 0,nB .eql 0],ci 57 (sq [dg 58 [oW [0,0,1,0,7,9,0,0,0,1,7,10,0,0,1,7,10] [],om 6,nI 5 0,nf 0,nf 2,mM [1],no,oG [0,0] [(0,1,.c (.int .i64 2)),(1,1,.s 63)],os 17 2 58,o2 2 3],.ret])],.BZ (rS 65 [mk 7,nf 5,nF 0,oC 100 [69],ow 1 70]) (.s 71) 72 73 74 0 1 (sq [rg 75 [oe 73 2,o1 10],rg 76 [om 7,om 10,oC 101 [76,77]]]),sq [rg 79 [mk 7,nf 3,nF 0,nB .eql 0,gA,mk 7,nF 1,om 6,nL,nb .lss 89,gZ],ci 93 (rg 94 [om 7,oC 102 [94]])],sq [rg 96 [mk 7,nf 3,nF 0,nB .neq 0],ci 101 (sq [dg 102 [oW [0,0,1,0,7,9,0,0,0,1,7,10,0,0,1,7,10] [],mk 7,nf 3,mM [1],nl 2,os 17 2 102,o2 2 3],.ret])],rg 107 [mk 7,nf 5,nl 17,oW [0,0] [],os 17 2 110,o2 2 3],.ret]) [.cell 2 aa 17,.cell 3 aa 2] 112:=aX func53 ⟨[40],[]⟩
def JQ(f:Int × Int):V:=.agg [.int .i64 f.1,.int .i64 f.2]
def yV(s:List UInt8)(L:List ar)(b r:Nat):List V:=[.aF s,.any,.ptr (.aC 0) 0,.ptr (.aC 1) 0,.any,.any,.sl .no 5 (dv L),.ptr (.out r) 0]++aA 64 .any++[.raw (.pointer (U ⟨b,0,ae⟩))]++aA 39 .any
def anP:(ql ps).erase = .sl .no 4 (ps.map e_):=by cases ps<;>rfl
theorem aa2:takeN 17 ((rd.enc++c.cM pc).drop 5)=U (c.cM pc):=rfl
theorem aad:(c.cM pc).length=17:=rfl
def aaf:cB (c.cM (ql ps))=true:=by cases ps<;>rfl
theorem aag{z0 z1 z2 z3 z4 z5 z6 z7 z8 z9 Oq Ot Ou Ov Ow Ox Oy:V}:over [z0,z1,z2,z3,z4,z5,z6,z7,z8,z9,Oq,Ot,Ou,Ov,Ow,Ox,Oy] (c.cM pc)=c.cM pc:=rfl
theorem aah:takeN 17 (c.cM pc)=U (c.cM pc):=rfl
def aae:bH (c.cM (ql ps))=true:=by cases ps<;>rfl
def aac:bw (c.cM (ql c.bh))=c.enc:=by simp only[aq.enc,aq.cM,bw,anP];rfl
def ce:=af @aad <| af @aaf <| af @aag @aah
def tQ:List (List V):=[gS,[.int .i64 0,.int .i64 0]]
def abh(s:List UInt8)(hg:D.bO 0=U fL)(hb:s.length+1<=aM)(hm:a9 (fP (dG s).1 [] []).1+8<=aM):
 bc 53 [.aF s] D (.bq [.agg (cV s).1.enc,JQ (cV s).2]):=by
 have Sp:=Tx s;refine agG.aV ?_;simp only[aU,am,a8,Nat.reduceAdd];refine cl (akk s D hb) ?_;generalize hR:cV s=R;unfold cV at hR;simp only[am,Nat.reduceAdd,CK];cases hl:(dG s).2 with
 | some a =>
  rw[hl] at hR;simp only[am,Nat.reduceAdd,ff,Int.reduceEq];refine aN rfl (ag.bd _) ⟨?_,rfl⟩;rw[<-hR];rfl
 | none =>
  rw[hl] at hR;simp only[am,bS];refine cl (ara (dG s).1 D (by omega)) ?_;simp only[am,Nat.reduceAdd,jK];simp only at hR;cases ht:(fP (dG s).1 [] []).2 with
  | some a =>
   rw[ht] at hR;simp only[am,Nat.reduceAdd,ff,Int.reduceEq,c8];refine aN rfl (ag.bd _) ⟨?_,rfl⟩;rw[<-hR];rfl
  | none =>
   rw[ht] at hR;simp only at hR;simp only[am,ka,bS,c8];generalize (fP (dG s).1 [] []).1=l at hm hR ⊢;have hlen:=lI l;cases l with
   | nil =>
    simp only[am,Nat.reduceAdd,bS,ei,show(((0:Nat):Int)=0)=True by simp];refine aN rfl (ag.bd _) ⟨?_,rfl⟩;rw[<-hR];rfl
   | cons t ts =>
    generalize hL:t::ts=L at *;have aQ:¬(L.length:Int)=0:=by rw[<-hL];simp;omega
    simp only[am,Nat.reduceAdd,aK aQ];refine jU λr hr=>?_
    have qd : ∀X,(D.set r X).bO 0=U fL:=λX=>hg
    have cg : ∀X,(D.set r X).box r=U X:=λX=>ag.dR _ _ _
    simp only[am];change cm prog 98 [.ptr (.out r) 0] (D.set r ((⟨L,0,s.length,ae⟩:ab).enc++gS)) _;have ah5:sD L s.length=if iC (⟨L,0,s.length,ae⟩:ab).word.1.al=0 then(.zero,2,t.tok.pos)
     else vN (hD (cn (iC (⟨L,0,s.length,ae⟩:ab).word.1.al)).2 ((⟨L,0,s.length,ae⟩:ab).word.2,{aq.zero with op:=iC (⟨L,0,s.length,ae⟩:ab).word.1.al,pos:=(⟨L,0,s.length,ae⟩:ab).word.1.pos})):=by rw[<-hL];rfl
    rw[ah5] at hR;refine(CQ (cg _) (by simp) (show L.length<=aM by omega)).mono ?_;rintro v _ ⟨rfl,rfl⟩;have hI:∀c,jG L s.length ((⟨L,0,s.length,ae⟩:ab).word.2,c):=λc=>jG.goes (x:=(⟨L,0,s.length,ae⟩,c)) ⟨rfl,rfl,by simp,by simp;omega,by simp⟩ rfl (xy _) (Ew _ 97)
    generalize (⟨L,0,s.length,ae⟩:ab).word.2=r1 at hI hR ⊢;generalize (⟨L,0,s.length,ae⟩:ab).word.1=w at hR ⊢;simp only[am,Nat.reduceAdd,au.enc];refine bJ.intro (alu w.al (qd _)) ?_;have e5:∀X:List V,X.length=17->setAt (r1.enc++gS) 5 X=r1.enc++X:=λX hX=>by
     match X,hX with
     | [_,_,_,_,_,_,_,_,_,_,_,_,_,_,_,_,_],_=>rfl
    have zm:bW 17 gS=true:=rfl;have d5:∀X:List V,(r1.enc++X).drop 5=X:=λX=>rfl
    generalize iC w.al=op at hR ⊢;simp only[am,Nat.reduceAdd,e5,zm,d5]
    by_cases lW:op=0
    .rw[aD lW] at hR;simp only[am,aP lW];refine xW (c:=t.enc) (by rw[<-hL];simp[sH]) ?_;simp only[am,Nat.reduceAdd,ar.fl];refine aN rfl (h_ hr) ⟨?_,rfl⟩;rw[<-hR];rfl
    .rw[aB lW] at hR;simp only[am,aK lW];refine N7 ?_;simp only[am,d5];refine(Mx op (qd _)).mono ?_;rintro v σ' ⟨rfl,rfl⟩;simp only[am];generalize fM:(cn op).2=ks at hR ⊢;generalize DG:((r1,{aq.zero with op:=op,pos:=w.pos}):ab × aq)=x0 at hR;have RR:jG L s.length x0:=by rw[<-DG];exact hI _
     refine⟨ks,rfl,by rw[<-fM];exact JS op,λb i aH => aH = ⟨yV s L b r,tQ,D.set r ((hD (ks.take i) x0).1.enc++(hD (ks.take i) x0).2.cM (ql (hD (ks.take i) x0).2.bh))⟩,?_,?_,?_,?_⟩
     .intro b;simp only[];refine bm.Ba (l' := tQ) ?_ ?_ ?_ (by simp[yV,tQ,aA,bQ,V.lo]) (by simp[tQ,gS,dC,bQ,V.lo]) rfl
      .simp[yV,aA,am]
      .simp[tQ,gS,am]
      .rw[<-DG];exact bN.set (by simp[ab.enc,aq.cM,aq.zero,Nd.zero,Nd.kind,Nd.pos,Nd.al,Nd.aj,Nd.ah,hD,ql,am])
     .rintro b i _ rfl;exact⟨rfl,by simp[yV],by simp[yV]⟩
     .rintro b i c _ hc rfl;simp only[yV,aA,am];have Gh:=MN (ks.take i) RR;have qU:hD (ks.take (i+1)) x0=c9 c (hD (ks.take i) x0):=by rw[Ex hc,UO]
      have SA:c=112->(hD (ks.take i) x0).2.bh=[]:=λh=>by
       rw[UN (ks.take i) (by rw[<-fM];exact agX op i (by rw[fM,hc,h])),<-DG];rfl
      rw[qU];generalize hD (ks.take i) x0=x at Gh SA ⊢;have hle:=Gh.le;refine(anH (k:=c) (cg _) (λh=>by rw[SA h];exact⟨rfl,rfl⟩) Gh.ge (by rw[Gh.hl];omega) (by omega)).mono ?_;rintro v _ ⟨rfl,rfl⟩;have K4:(if c=112/\x.1.aE=ae then ql (c9 c x).2.bh else ql x.2.bh)=ql (c9 c x).2.bh:=by
       by_cases h:c=112/\x.1.aE=ae
       .rw[aD h]
       .rw[aB h,UL]
        by_cases h1:c=112
        .exact .inr λh2=>h ⟨h1,h2⟩
        .exact .inl h1
      rw[K4];simp only[am,cF];exact bm.Ba (l' := tQ) (by simp[am]) (by simp[tQ,gS,am]) bN.rfl (by simp[tQ,bQ,V.lo]) (by simp[tQ,gS,dC,bQ,V.lo]) rfl
     .rintro b _ rfl;simp only[yV,tQ,aA,am];rw[eH];have J8:=MN ks RR;generalize hD ks x0=x at J8 hR ⊢;obtain⟨rd,c⟩:=x;have h1:=J8.hl;have h2:=J8.ge;simp only at h1 h2;unfold vN at hR;simp only[h1] at hR;simp only[am,ln];cases fF:rd.aE with
      | some a =>
       simp only[fF] at hR;simp only[am,Nat.reduceAdd,ff,Int.reduceEq,c8,ln,fF,gS];refine aN rfl (h_ hr) ⟨?_,rfl⟩;have hR:(aq.zero,(2:Int),a)=R:=by simpa [fF] using hR
       rw[<-hR];rfl
      | none =>
       simp only[fF,qt] at hR;simp only[am,ka,bS,c8,ln]
       by_cases iu:rd.at_<L.length
       .rw[aD iu] at hR;simp only[am,aP iu];refine(PV (cg _) h2).mono ?_;rintro v _ ⟨rfl,rfl⟩;obtain⟨a,ha⟩:∃a,rd.fail.aE=U a:=by
         have:=ab.FZ rd
         cases hq:rd.fail.aE with
         | none=>exact absurd hq this
         | some a=>exact⟨a,rfl⟩
        rw[ha] at hR;simp only[am,Nat.reduceAdd,ff,Int.reduceEq,ln,ha,c8,gS];refine aN rfl (h_ hr) ⟨?_,rfl⟩;rw[<-hR];rfl
       .rw[aB iu,fF] at hR;simp only[am,Nat.reduceAdd,bS,aK iu,ln,fF,c8,gS,aa2,ce];refine aN ?_ (h_ hr) ⟨?_,rfl⟩
        .simp[V.cG,bH,aae]
        rw[<-hR];simp[V.erase,bw,aac,JQ]
section
variable {c:aq}
theorem ZS:bD ak 1 c.enc=U (.int .i64 c.op):=rfl
theorem ZT:bD ak 1 (c.enc.drop 0)=U (.int .i64 c.op):=rfl
theorem ZU:bD ak 1 (c.enc.drop 1)=U (.int .i64 c.pos):=rfl
def eQ:=af @ZS <| af @ZT @ZU
end
def Ro(op:Int):(cn op).2.length<=3:=by
 unfold cn;split
 .rename_i h1;have az:op.toNat<16:=by omega
  generalize op.toNat=n at az ⊢;have key:∀n<16,(jL.getD n ([],[])).2.length<=3:=by decide
  exact key n az
 .simp
def agA:aT prog 32 (sq [rg 4 [oz 2],sq [rg 6 [om 0,nL,om 1,nL,nb .neq 7],cr 10 4 [oz 2]],sq [rg 5 [oi 0],bl 0 (sq [sq [rg 11 [om 5,om 0,nL,nb .lss 11],cx 14 0],.block 1 (sq [dg 17 [om 0,om 5,nA 2 17,nl 2,om 1,om 5,nA 2 21,nl 2,oq (.jf aa [2,1] (.s 20) (.s 24))],cr 25 4 [oz 2]]),rg 15 [ic 5]])],rg 4 [oq (.mv (.c (.bool aa)))],.ret]) [.tmp 4] 26:=aX func32
def agB:aT prog 33 (sq [rg 4 [ox 2 5 0,ox 3 5 1,oz 2],sq [rg 7 [fo 1 2,fo 1 3,nb .neq 8,gB,ol 5 2,ol 5 3,oC 60 [13,14],nn,gZ],cr 17 4 [oz 2]],sq [rg 5 [oi 0],bl 0 (sq [sq [rg 18 [om 5,fo 3 2,nL,nb .lss 18],cx 22 0],.block 1 (sq [dg 25 [fo 3 2,om 5,nA 2 26,nl 2,fo 3 3,om 5,nA 2 31,nl 2,oq (.jf aa [2,1] (.s 29) (.s 34))],cr 35 4 [oz 2]]),rg 23 [ic 5]])],sq [rg 6 [oi 0],bl 2 (sq [sq [rg 36 [om 6,fo 4 2,nL,nb .lss 36],cx 40 2],.block 3 (sq [dg 43 [fo 4 2,om 6,nA 5 44,nl 5,fo 4 3,om 6,nA 5 49,nl 5,oC 33 [47,52],nn],cr 54 4 [oz 2]]),rg 41 [ic 6]])],rg 4 [oq (.mv (.c (.bool aa)))],.ret]) [.tmp 4] 55:=aX func33
def Ly(l:List au)(i:Nat)(D:ag):St :=
 ⟨[.sl .no 2 (l.map au.enc),.sl .no 2 (l.map au.enc),.any,.any,.any,.int .i64 (i:Nat)]++aA 20 .any,[],D⟩
def asl(l:List au)(D:ag)(hb:l.length<=aM):bc 32 [.sl .no 2 (l.map au.enc),.sl .no 2 (l.map au.enc)] D (.bool aa):=by
 simp only[aM] at hb;refine agA.aV ?_;simp only[aU,am,a8,Nat.reduceAdd,bS];refine iE (λp:{i:Nat // i<=l.length}=>Ly l p.1 D) (λp=>l.length - p.1) ?_ ?_
 .refine bm.enter ⟨0,by simp⟩ ?_ ch.rfl bN.rfl;simp[Ly,aA,am]
 .rintro⟨i,hi⟩;simp only[Ly,aA,am,aO];refine fc ?_ ?_
  .intro az;have az:i<l.length:=by simpa using az
   have hn:l[i]?=U l[i]:=by simp[az]
   simp only[am];refine ix (qw hn) ?_;simp only[am,au.enc];refine ix (qw hn) ?_;simp only[am,bS,au.enc];rw[wrap_i64];exact bm.again ⟨i+1,az⟩ (by simp;omega) (by simp[am]) ch.rfl bN.rfl
  .intro az;simp only[am];exact rt
def LA(n:Nd)(D:ag)(i:Nat):St :=
 ⟨[.any,.any,.ptr (.aC 0) 0,.ptr (.aC 1) 0]++[.any,.int .i64 (i:Nat)]++aA 49 .any,[n.enc,n.enc],D⟩
def Lz(n:Nd)(D:ag)(i:Nat):St :=
 ⟨[.any,.any,.ptr (.aC 0) 0,.ptr (.aC 1) 0]++[.any,.any,.int .i64 (i:Nat)]++aA 48 .any,[n.enc,n.enc],D⟩
def as7:=af @am <| af @a8 <| af @bS <| af @Nd.an @Nd.fl
def W4:∀(k:Nat) (n:Nd) (D:ag),n.wt<=k->n.wt<=aM->bc 33 [.agg n.enc,.agg n.enc] D (.bool aa):=by
 intro k;induction k with
 | zero=>intro n D h _;cases n;simp only[Nd.wt] at h;omega
 | succ k sW =>
  intro n D hk hw;have hn:=AH n;have jO:n.wt<2^62:=by simp only[aM] at hw;omega
  refine agB.aV ?_;simp only[aU,as7,Nat.reduceAdd];refine cl (Nv _ n n _ (bL _) hw) ?_;simp only[am,Nd.Ej];refine iE (λp:{i:Nat // i<=n.aj.length}=>LA n D p.1) (λp=>n.aj.length - p.1) ?_ ?_
  .refine bm.enter ⟨0,by simp⟩ ?_ ch.rfl bN.rfl;simp[LA,aA,am]
  rintro⟨i,hi⟩;simp only[LA,aA,am,Nd.fl,aO];refine fc ?_ ?_
  .intro az;have az:i<n.aj.length:=by simpa using az
   simp only[am,Nd.fl];refine ix (qw (cH az)) ?_;simp only[am,au.an,Nd.fl];refine ix (qw (cH az)) ?_;simp only[am,bS,au.enc];rw[wrap_i64];exact bm.again ⟨i+1,az⟩ (by simp;omega) (by simp[am]) ch.rfl bN.rfl
  intro az;have az:i=n.aj.length:=by simp at az;omega
  subst az;simp only[am];refine iE (λp:{i:Nat // i<=n.ah.length}=>Lz n D p.1) (λp=>n.ah.length - p.1) ?_ ?_
  .refine bm.enter ⟨0,by simp⟩ ?_ ch.rfl bN.rfl;simp[Lz,aA,am]
  rintro⟨i,hi⟩;simp only[Lz,aA,am,Nd.fl,aO];refine fc ?_ ?_
  .intro az;have az:i<n.ah.length:=by simpa using az
   have qT:=mV (n:=n) (fu az);simp only[am,Nd.fl];refine ix (l6 (cH az)) ?_;simp only[am,Nd.an,Nd.fl];refine ix (l6 (cH az)) ?_;simp only[am,Nd.an];refine bJ.intro (sW n.ah[i] _ (by omega) (by omega)) ?_;simp only[am];rw[wrap_i64];exact bm.again ⟨i+1,az⟩ (by simp;omega) (by simp[am]) ch.rfl bN.rfl
  intro az;simp only[am];exact rt
def aen:aT prog 13 (sq [rg 4 [ox 2 17 0,ox 3 17 1,oz 2],sq [rg 6 [ol 17 2,ol 17 3,oC 31 [6,7],nn,gB,fo 1 2,fo 1 3,nb .neq 12,gZ,gB,of 2 2,nl 2,of 2 3,nl 2,oq (.jf aa [2,1] (.s 19) (.s 21)),gZ,gB,fo 6 2,fo 6 3,nb .neq 26,gZ,gB,fo 4 2,fo 4 3,oC 32 [33,35],nn,gZ],cr 38 4 [oz 2]],sq [rg 5 [oi 0],bl 0 (sq [sq [rg 39 [om 5,fo 5 2,nL,nb .lss 39],cx 43 0],.block 1 (sq [dg 46 [fo 5 2,om 5,nA 4 47,nl 4,fo 5 3,om 5,nA 4 52,nl 4,oq (.jf aa [2,1,2,1] (.s 50) (.s 55))],cr 56 4 [oz 2]]),rg 44 [ic 5]])],rg 57 [of 7 2,nl 5,of 7 3,nl 5,oC 33 [58,60],gA,of 12 2,nl 5,of 12 3,nl 5,oC 33 [64,66],gZ,o1 4],.ret]) [.tmp 4] 69:=aX func13
def ags:aT prog 31 (sq [rg 4 [ox 2 17 0,ox 3 17 1,oz 2],sq [rg 7 [fo 0 2,fo 0 3,nb .neq 8,gB,of 2 2,nF 0,of 2 3,nF 0,nE .neq 15,gZ,gB,fo 4 2,nL,fo 4 3,nL,nb .neq 24,gZ,gB,fo 5 2,nL,fo 5 3,nL,nb .neq 33,gZ],cr 38 4 [oz 2]],sq [rg 5 [oi 0],bl 0 (sq [sq [rg 39 [om 5,fo 4 2,nL,nb .lss 39],cx 43 0],.block 1 (sq [dg 46 [fo 4 2,om 5,nA 2 47,nF 0,fo 4 3,om 5,nA 2 53,nF 0,nE .neq 51],cr 58 4 [oz 2]]),rg 44 [ic 5]])],sq [rg 6 [oi 0],bl 2 (sq [sq [rg 59 [om 6,fo 5 2,nL,nb .lss 59],cx 63 2],.block 3 (sq [dg 66 [fo 5 2,om 6,nA 4 67,oQ 2 2 69 0,nF 0,fo 5 3,om 6,nA 4 74,oQ 2 2 76 0,nF 0,nE .neq 72,gB,fo 5 2,om 6,nA 4 83,oQ 2 2 85 1,nF 0,fo 5 3,om 6,nA 4 90,oQ 2 2 92 1,nF 0,nE .neq 88,gZ],cr 97 4 [oz 2]]),rg 64 [ic 6]])],rg 98 [of 7 2,nl 5,of 7 3,nl 5,oC 60 [99,101],gA,of 12 2,nl 5,of 12 3,nl 5,oC 60 [105,107],gZ,o1 4],.ret]) [.tmp 4] 110:=aX func31
section
variable {c:aq}
theorem ZL:bD ak 1 (c.enc.drop 2)=U (.aF c.name.al):=rfl
theorem Z5:takeN 2 (c.enc.drop 2)=U [.aF c.name.al,.int .i64 c.name.pos]:=rfl
theorem ZN:bD ak 1 (c.enc.drop 4)=U (.sl .no 2 (c.aj.map au.enc)):=rfl
theorem ZO:bD ak 1 (c.enc.drop 5)=U (.sl .no 4 (c.bh.map e_)):=rfl
theorem ZP:bD ak 1 (c.enc.drop 6)=U (.int .i64 c.mC):=rfl
def Z6:takeN 5 (c.enc.drop 7)=U c.left.enc:=by rw[Nd.dd];rfl
def Z4:takeN 5 (c.enc.drop 12)=U c.right.enc:=by rw[Nd.dd];rfl
def cL:=af @ZL <| af @Z5 <| af @ZN <| af @ZO <| af @ZP <| af @Z6 @Z4
end
variable{p:au × au}
theorem anQ:takeN 4 (e_ p)=U (e_ p):=rfl
def ym{l:List (au × au)}(h:l[j]?=U p):(l.map e_)[(j:Int).toNat]?=U (e_ p):=by simp[h]
structure Cn(c:aq):Prop where
 ns:c.aj.length<=aM
 ps:c.bh.length<=aM
 l:c.left.wt<=aM
 r:c.right.wt<=aM
def Lw(c:aq)(D:ag)(i:Nat):St :=
 ⟨[.any,.any,.ptr (.aC 0) 0,.ptr (.aC 1) 0]++[.any,.int .i64 (i:Nat)]++aA 104 .any,[c.enc,c.enc],D⟩
def Lu(c:aq)(D:ag)(i:Nat):St :=
 ⟨[.any,.any,.ptr (.aC 0) 0,.ptr (.aC 1) 0]++[.any,.any,.int .i64 (i:Nat)]++aA 103 .any,[c.enc,c.enc],D⟩
def apI(h:Cn c)(D:ag):bc 31 [.agg c.enc,.agg c.enc] D (.bool aa):=by
 have h1:=h.ns;have h2:=h.ps;simp only[aM] at h1 h2;refine ags.aV ?_;simp only[aU,am,a8,Nat.reduceAdd,bS,df,eQ,cL,aO];refine iE (λp:{i:Nat // i<=c.aj.length}=>Lw c D p.1) (λp=>c.aj.length - p.1) ?_ ?_
 .refine bm.enter ⟨0,by simp⟩ ?_ ch.rfl bN.rfl;simp[Lw,aA,am]
 rintro⟨i,hi⟩;simp only[Lw,aA,am,cL,aO];refine fc ?_ ?_
 .intro az;have az:i<c.aj.length:=by simpa using az
  simp only[am,cL];refine ix (qw (cH az)) ?_;simp only[am,cL,au.enc];refine ix (qw (cH az)) ?_;simp only[am,bS,au.enc];rw[wrap_i64];exact bm.again ⟨i+1,az⟩ (by simp;omega) (by simp[am]) ch.rfl bN.rfl
 intro az;have az:i=c.aj.length:=by simp at az;omega
 subst az;simp only[am];refine iE (λp:{i:Nat // i<=c.bh.length}=>Lu c D p.1) (λp=>c.bh.length - p.1) ?_ ?_
 .refine bm.enter ⟨0,by simp⟩ ?_ ch.rfl bN.rfl;simp[Lu,aA,am]
 rintro⟨i,hi⟩;simp only[Lu,aA,am,cL,aO];refine fc ?_ ?_
 .intro az;have az:i<c.bh.length:=by simpa using az
  have GB:(0:Int)<=0:=by decide
  simp only[am,cL];refine ix (ym (cH az)) ?_;simp only[am,cF];refine GX ?_;simp only[am,Int.reduceToNat,Nat.reduceMul,cL,e_];refine ix (ym (cH az)) ?_;simp only[am,cF];refine GX ?_;simp only[am,bS,Int.reduceToNat,Nat.reduceMul,cL,e_];refine ix (ym (cH az)) ?_;simp only[am,cF];refine GX ?_;simp only[am,Int.reduceToNat,Nat.reduceMul,cL,e_];refine ix (ym (cH az)) ?_;simp only[am,cF];refine GX ?_;simp only[am,bS,Int.reduceToNat,Nat.reduceMul,e_];rw[wrap_i64];exact bm.again ⟨i+1,az⟩ (by simp;omega) (by simp[am]) ch.rfl bN.rfl
 intro az;simp only[am,Nd.an,cL];refine cl (Nv _ c.left c.left _ (bL _) h.l) ?_;simp only[am,Nd.an,cL,Nd.Ej];refine cl (Nv _ c.right c.right _ (bL _) h.r) ?_;simp only[am,Nd.Ej];exact rt
def LH(c:aq)(D:ag)(i:Nat):St :=
 ⟨[.any,.any,.ptr (.aC 0) 0,.ptr (.aC 1) 0]++[.any,.int .i64 (i:Nat)]++aA 63 .any,[c.enc,c.enc],D⟩
def arM(h:Cn c)(D:ag):bc 13 [.agg c.enc,.agg c.enc] D (.bool aa):=by
 have h1:=h.ns;have h2:=h.ps;simp only[aM] at h1 h2;refine aen.aV ?_;simp only[aU,am,a8,Nat.reduceAdd,df];refine cl (apI h D) ?_;simp only[am,bS,eQ,cL];refine cl (asl c.aj D (by simp only[aM];omega)) ?_;simp only[am];refine iE (λp:{i:Nat // i<=c.bh.length}=>LH c D p.1) (λp=>c.bh.length - p.1) ?_ ?_
 .refine bm.enter ⟨0,by simp⟩ ?_ ch.rfl bN.rfl;simp[LH,aA,am]
 rintro⟨i,hi⟩;simp only[LH,aA,am,cL,aO];refine fc ?_ ?_
 .intro az;have az:i<c.bh.length:=by simpa using az
  simp only[am,cL];refine ix (ym (cH az)) ?_;simp only[am,cL,anQ];refine ix (ym (cH az)) ?_;simp only[am,bS,e_];rw[wrap_i64];exact bm.again ⟨i+1,az⟩ (by simp;omega) (by simp[am]) ch.rfl bN.rfl
 intro az;simp only[am,Nd.an,cL];refine cl (W4 _ c.left _ (bL _) h.l) ?_;simp only[am,Nd.an,cL];refine cl (W4 _ c.right _ (bL _) h.r) ?_;simp only[am];exact rt
def agI:aT prog 55 (sq [rg 0 [ox 2 2 0,ox 3 17 1,oZ 4 [0,0]],rg 6 [ol 2 2,fo 1 3,oG [7,8,8,0,0] [(1,2,.s 6),(3,1,.c (.int .i64 (-1))),(4,1,.s 8)],oq (.fZ 5 (.s 9)),o1 5],sq [.o7 (rg 11 [fo 0 3]),.block 0 (sq [rg 14 [oB .eql 12 10,o1 13],cd 13 (rg 15 [om 5,of 2 3,nF 0,of 2 3,nF 1,oc 107 [.s 15,.s 18,.s 21,.c (.int .i64 2)]]) (sq [rg 24 [oB .eql 12 15,o1 23],cd 23 (rg 25 [om 5,of 2 3,nF 0,of 2 3,nF 1,oc 107 [.s 25,.s 28,.s 31,.c (.int .i64 1)]]) (sq [rg 34 [oB .eql 12 8,o1 33],cd 33 (sq [rg 35 [om 5,of 2 3,nl 2,oC 108 [35,37]],rg 39 [om 5,of 7 3,nl 5,oC 109 [39,41]],rg 43 [om 5,of 12 3,nl 5,oC 109 [43,45]],dg 47 [mk 5,nf 0,of 12 3,nF 0,nB .eql 8,gB,of 12 3,nF 0,nB .eql 9,gZ,of 12 3,nF 1,oc 110 [.s 49,.s 59,.c (.int .i64 6),.s 62]]]) (sq [rg 65 [oB .eql 12 9,o1 64],ci 64 (sq [rg 66 [om 5,of 2 3,nl 2,oC 108 [66,68]],rg 70 [om 5,of 7 3,nl 5,oC 111 [70,72]],rg 74 [om 5,of 12 3,nl 5,oC 111 [74,76]]])])])])])],rg 78 [mk 5,nf 0,nF 0,oC 57 [82],o2 2 4],.ret]) [.cell 4 aa 2] 84:=aX func55 ⟨[10],[2]⟩
def agK:aT prog 57 (sq [rg 0 [oZ 2 [0,0]],rg 0 [oZ 3 [0,0]],sq [rg 6 [om 0,nL,oi 0],lp 7 0 (sq [rg 10 [oA 2 6 8,nl 2,oZ 5 [0,0],o2 2 5],sq [rg 12 [fo 0 5,nB .eql 0],ci 14 (.exit 1)],rg 15 [fo 0 3,nB .eql 0,gB,fo 0 5,fo 0 3,nb .lss 20,gZ,nm,oh 25 (of 0 5),oh 25 (no),oh 25 (of 0 3),oh 25 (no),oh 25 (nb .eql 27),oh 25 (nm),og 31 (of 1 5),og 31 (no),og 31 (of 1 3),og 31 (no),og 31 (nb .lss 33),oh 25 (oy 31 36),oq (.pick (.s 25) (.c (.bool aa)) (.s 37))],ci 38 (rg 39 [ol 2 5,o2 2 3])]) 40],rg 41 [ol 2 3,o2 2 2],.ret]) [.cell 2 aa 2] 42:=aX func57
section
variable {c:aq}
theorem ZM:bD ak 1 (c.enc.drop 3)=U (.int .i64 c.name.pos):=rfl
theorem ZJ:bD ak 1 (c.enc.drop 12)=U (.int .i64 c.right.kind):=rfl
theorem ZK:bD ak 1 (c.enc.drop 13)=U (.int .i64 c.right.pos):=rfl
def ui:=af @ZM <| af @ZJ @ZK
end
def adZ{l:List aL}(h:j<l.length):(l.map aL.enc)[((j:Nat):Int).toNat]?=U l[j].enc:=by simp[h]
def yc(l:List aL)(D:ag)(hl:l.length<=100000000):bc 57 [.sl .no 2 (l.map aL.enc)] D (.agg (fS l).enc):=by
 refine agK.aV ?_;simp only[aU,am,a8,Nat.reduceAdd,aO];refine eb (l.length) (λi (x:Unit)=>⟨[.any,.any,.ptr (.aC 0) 0,.ptr (.aC 1) 0,.any,.any,.sl .no 2 (l.map aL.enc),.int .i64 (l.length:Nat),.int .i64 (i:Nat)]++aA 33 .any,[aL.zero.enc,(fS (l.take i)).enc],D⟩) (λi x=>(True)) λF hF JF br=>⟨?_,?_,?_⟩
 .refine en br (()) (trivial) ?_ ?_ ?_
  all_goals simp[hF,aA,am,bZ,fS,aL.zero,aL.enc]
 .rintro i x hi -;have hT:=ake hi;simp only[hF,aA,am,eE hi];refine ix (adZ hi) ?_;simp only[am,Nat.reduceAdd,aL.an];generalize fS (l.take i)=o at hT;generalize l[i]=f at hT
  by_cases h0:f.cls=0
  .rw[kE,aD h0] at hT;simp only[am,a_,reduceCtorEq,aL.an,aP h0,cT hi];refine fN (()) hi ?_ ?_ ?_ ?_ ?_ ?_
   .exact eN (br _ _) (trivial)
   all_goals simp[hF,aA,am,bZ,bQ,dC,V.lo,hT,aL.cE]
  rw[kE,aB h0] at hT;simp only[am,aL.an,aK h0];have yes:uU o f=aa->fS (l.take (i+1))=f:=λh=>by rw[hT,h,aD rfl]
  have no:uU o f=ak->fS (l.take (i+1))=o:=λh=>by rw[hT,h];rfl
  by_cases h1:o.cls=0
  .have e:=yes (by simp[uU,h1]);simp only[am,a_,aL.an,aP h1,cT hi];refine fN (()) hi ?_ ?_ ?_ ?_ ?_ ?_
   .exact eN (br _ _) (trivial)
   all_goals simp[hF,aA,am,bZ,bQ,dC,V.lo,e,aL.cE]
  simp only[am,aL.an,aK h1]
  by_cases h2:f.cls<o.cls
  .have e:=yes (by simp[uU,h2]);simp only[am,a_,aL.an,aP h2,cT hi];refine fN (()) hi ?_ ?_ ?_ ?_ ?_ ?_
   .exact eN (br _ _) (trivial)
   all_goals simp[hF,aA,am,bZ,bQ,dC,V.lo,e,aL.cE]
  simp only[am,aL.an,aK h2]
  by_cases h3:f.cls=o.cls
  case neg =>
   have e:=no (by simp[uU,h1,h2,h3]);simp only[am,a_,aK h3,cT hi];refine fN (()) hi ?_ ?_ ?_ ?_ ?_ ?_
   .exact eN (br _ _) (trivial)
   all_goals simp[hF,aA,am,bZ,bQ,dC,V.lo,e,aL.cE]
  simp only[am,aL.an,aP h3]
  by_cases h4:f.aC<o.aC
  .have e:=yes (by simp[uU,h3,h4]);simp only[am,a_,aL.an,aP h4,cT hi];refine fN (()) hi ?_ ?_ ?_ ?_ ?_ ?_
   .exact eN (br _ _) (trivial)
   all_goals simp[hF,aA,am,bZ,bQ,dC,V.lo,e,aL.cE]
  .have e:=no (by simp[uU,h1,h2,h4]);simp only[am,a_,aK h4,cT hi];refine fN (()) hi ?_ ?_ ?_ ?_ ?_ ?_
   .exact eN (br _ _) (trivial)
   all_goals simp[hF,aA,am,bZ,bQ,dC,V.lo,e,aL.cE]
 .rintro x -;simp only[hF,aA,am,a_,eJ,a_,aL.an,eH];refine aS ?_;simp[V.erase,aL.dk]
def Q4(s:aI)(c:aq)(hs:s.ok)(hg:TZ D)(hl:c.left.cw<=100000)(hr:c.right.cw<=100000)(zI:c.left.wt<=aM)(wg:c.right.wt<=aM):
 bc 55 [.agg s.enc,.agg c.enc] D (.agg (jJ s c).enc):=by
 refine agI.aV ?_;simp only[aU,am,a8,Nat.reduceAdd,Int.reduceNeg,jo,aI.an,df,eQ];intro b hb;simp only[am,Int.reduceNeg];refine bm.tok 0 λZ bp=>⟨_,_,(D.set b _).set b (nz Z [] s (-1) c.pos),dY.rfl,rfl,λi c' hc=>⟨c',hc,dY.rfl⟩,pZ.set gP (by simp[nz,n7]),?_⟩
 have bp:D.aJ Z=none:=bp;rw[ag.set_set,show(D.set b (nz Z [] s (-1) c.pos)).aR Z 0=cQ D b Z [] s (-1) c.pos from rfl];have fin:∀(L:List aL) (t:List V) (lo:List (List V)) (lat:Int),fS L=jJ s c->mP (λv σ' => v = .agg (jJ s c).enc/\σ' = D) ⟨t,lo,cQ D b Z L s lat c.pos⟩ (.agg (fS L).enc):=λL t lo lat h=>by
  rw[h];exact aN rfl (asQ hb bp) ⟨rfl,rfl⟩
 have hv:∀{t:List UInt8} {y k lat:Int},(gR s lat t y k).length<=1:=B';have atl:=@ajN s c.name;have e1:de (iq s.bu c.name.al)=cJ s c:=rfl;have az:cJ s c<s.bu.length:=by
  rw[cJ];cases h:iq s.bu c.name.al with
  | none=>simp only[de];omega
  | some k=>have:=(F4 h).1;simp only[de];omega
 simp only[am,Int.reduceNeg,eQ]
 by_cases iH:c.op=10
 .simp only[am,Nat.reduceAdd,Int.reduceNeg,cL,ui,aP iH];refine cl (Ev D b Z [] s (-1) c.pos c.name.pos 2 c.name.al (by simp) hs) ?_;simp only[am,Int.reduceNeg,jo,fY];have hlen:=@B' s (-1) c.name.al c.name.pos 2;refine cl (cm.eM (as' := [.sl .no 2 ((gR s (-1) c.name.al c.name.pos 2).map aL.enc)]) (yc (gR s (-1) c.name.al c.name.pos 2) _ (by omega)) ⟨dE.no,trivial⟩ bN.rfl) ?_;simp only[am,Int.reduceNeg,aL.an];exact fin _ _ _ _ (by rw[jJ,qF];rw[aD iH])
 simp only[am,Int.reduceNeg,aK iH]
 by_cases sK:c.op=15
 .simp only[am,Nat.reduceAdd,Int.reduceNeg,cL,ui,aP sK];refine cl (Ev D b Z [] s (-1) c.pos c.name.pos 1 c.name.al (by simp) hs) ?_;simp only[am,Int.reduceNeg,jo,fY];have hlen:=@B' s (-1) c.name.al c.name.pos 1;refine cl (cm.eM (as' := [.sl .no 2 ((gR s (-1) c.name.al c.name.pos 1).map aL.enc)]) (yc (gR s (-1) c.name.al c.name.pos 1) _ (by omega)) ⟨dE.no,trivial⟩ bN.rfl) ?_;simp only[am,Int.reduceNeg,aL.an];exact fin _ _ _ _ (by rw[jJ,qF];rw[aB iH,aD sK])
 simp only[am,Int.reduceNeg,aK sK]
 by_cases h8:c.op=8
 .simp only[am,Int.reduceNeg,cL,aP h8];have l1:=@LP s (cJ s c) c.left;have l2:=@LP s (cJ s c) c.right;refine cl (Ws D b Z [] s (-1) c.pos c.name (by simp) hs) ?_;rw[e1,fY];simp only[am,Int.reduceNeg,Nd.an,cL];refine cl (Wr D b Z (gg s c.name) s (cJ s c) c.pos c.left hs hg hb az (by omega) (by omega) zI) ?_;simp only[am,Int.reduceNeg,Nd.an,cL];refine cl (Wr D b Z (gg s c.name++fz s (cJ s c) c.left) s (cJ s c) c.pos c.right hs hg hb az (by simp only[bI];omega) (by omega) wg) ?_;simp only[am,Int.reduceNeg,ui];have hlen:(gg s c.name++fz s (cJ s c) c.left++fz s (cJ s c) c.right).length<=200001:=by simp only[bI];omega
  have done:∀(d:List aL) (t:List V) (lo:List (List V)),d=xm c.right->mP (λv σ' => v = .agg (jJ s c).enc/\σ' = D) ⟨t,lo,cQ D b Z ((gg s c.name++fz s (cJ s c) c.left++fz s (cJ s c) c.right)++d) s (cJ s c) c.pos⟩ (.agg (fS ((gg s c.name++fz s (cJ s c) c.left++fz s (cJ s c) c.right)++d)).enc):=λd t lo hd=>fin _ _ _ _ (by rw[jJ,qF,aB iH,aB sK,aD h8,hd])
  by_cases k8:c.right.kind=8\/c.right.kind=9
  .have pz:(decide (c.right.kind=8)=aa)\/(decide (c.right.kind=8)=ak/\decide (c.right.kind=9)=aa):=by
    by_cases h:c.right.kind=8
    .exact .inl (aP h)
    .exact .inr ⟨aK h,aP (by simpa [h] using k8)⟩
   rcases pz with q1 | ⟨q1,q2⟩
   case' inl=>simp only[am,Nat.reduceAdd,Int.reduceNeg,ui,q1]
   case' inr=>simp only[am,Nat.reduceAdd,Int.reduceNeg,ui,q1,q2]
   all_goals
    refine bJ.intro (Ey D b Z (gg s c.name++fz s (cJ s c) c.left++fz s (cJ s c) c.right) s (cJ s c) c.pos 6 c.right.pos (by omega)) ?_;simp only[am,Int.reduceNeg,jo];refine cl (cm.eM (as' := [.sl .no 2 (((gg s c.name++fz s (cJ s c) c.left++fz s (cJ s c) c.right)++[(⟨6,c.right.pos⟩:aL)]).map aL.enc)]) (yc ((gg s c.name++fz s (cJ s c) c.left++fz s (cJ s c) c.right)++[(⟨6,c.right.pos⟩:aL)]) _ (by simp only[bI,gv];omega)) ⟨dE.no,trivial⟩ bN.rfl) ?_;simp only[am,Int.reduceNeg,aL.an];exact done _ _ _ (by rw[xm,aD k8])
  .simp only[am,Nat.reduceAdd,Int.reduceNeg,ui,aK (λh=>k8 (.inl h)),aK (λh=>k8 (.inr h))];refine bJ.intro (Ax D b Z (gg s c.name++fz s (cJ s c) c.left++fz s (cJ s c) c.right) s (cJ s c) c.pos 6 c.right.pos (by omega)) ?_;simp only[am,Int.reduceNeg,jo];refine cl (cm.eM (as' := [.sl .no 2 ((gg s c.name++fz s (cJ s c) c.left++fz s (cJ s c) c.right).map aL.enc)]) (yc (gg s c.name++fz s (cJ s c) c.left++fz s (cJ s c) c.right) _ (by omega)) ⟨dE.no,trivial⟩ bN.rfl) ?_;simp only[am,Int.reduceNeg,aL.an]
   have:=done [] ?_ ?_ (by rw[xm,aB k8])
   .rw[eg] at this;exact this
 simp only[am,Int.reduceNeg,aK h8]
 by_cases h9:c.op=9
 .simp only[am,Int.reduceNeg,cL,aP h9];refine cl (Ws D b Z [] s (-1) c.pos c.name (by simp) hs) ?_;rw[e1,fY];simp only[am,Int.reduceNeg,Nd.an,cL];refine cl (WA D b Z (gg s c.name) s (cJ s c) c.pos c.left hs hg hb az (by omega) hl zI) ?_;simp only[am,Int.reduceNeg,Nd.an,cL];have r1:=@Vv s (cJ s c) c.pos c.left;have r2:=@Vv s (cJ s c) c.pos c.right;refine cl (WA D b Z (gg s c.name++nd s (cJ s c) c.pos c.left) s (cJ s c) c.pos c.right hs hg hb az (by simp only[bI];omega) hr wg) ?_;simp only[am,Int.reduceNeg,jo];refine cl (cm.eM (as' := [.sl .no 2 ((gg s c.name++nd s (cJ s c) c.pos c.left++nd s (cJ s c) c.pos c.right).map aL.enc)]) (yc (gg s c.name++nd s (cJ s c) c.pos c.left++nd s (cJ s c) c.pos c.right) _ (by simp only[bI];omega)) ⟨dE.no,trivial⟩ bN.rfl) ?_;simp only[am,Int.reduceNeg,aL.an];exact fin _ _ _ _ (by rw[jJ,qF];rw[aB iH,aB sK,aB h8,aD h9])
 simp only[am,Int.reduceNeg,jo,aK h9];refine cl (cm.eM (as' := [.sl .no 2 (([]:List aL).map aL.enc)]) (yc ([]:List aL) _ (by simp)) ⟨dE.no,trivial⟩ bN.rfl) ?_;simp only[am,Int.reduceNeg,aL.an];exact fin _ _ _ _ (by rw[jJ,qF];rw[aB iH,aB sK,aB h8,aB h9])
def aeh:aT prog 117 (sq [rg 4 [oz 1],rg 5 [oz 6],sq [rg 7 [om 0,nL,oi 0],lp 8 0 (sq [rg 11 [om 9,o1 6],sq [rg 12 [om 6,nB .gtr 0],ci 13 (rg 14 [om 5,om 1,oq (.mj (.s 14) (.s 15)),o1 5])],rg 17 [om 5,om 0,om 6,nA 1 18,no,oq (.mj (.s 17) (.s 21)),o1 5]]) 23],rg 24 [om 5,oq (.sF (.s 24)),o1 4],.ret]) [.tmp 4] 26:=aX func117
def aei:aT prog 118 (sq [rg 2 [oz 6],rg 3 [oz 6],sq [rg 6 [om 0,nL,oi 0],lp 7 0 (sq [rg 10 [oA 2 6 8,nl 2,oZ 5 [1,0],o2 2 5],rg 12 [om 3,fo 0 5,n1 1,na 1 12,o1 3]]) 17],rg 18 [om 3,o1 2],.ret]) [.tmp 2] 19:=aX func118
def aej:aT prog 119 (sq [rg 2 [oz 1],rg 3 [om 0,oc 117 [.s 3,.c (.aF [44])],oq (.cat (.c (.aF [123])) (.s 4)),oq (.cat (.s 5) (.c (.aF [125]))),o1 2],.ret]) [.tmp 2] 7:=aX func119
def ael:aT prog 120 (sq [rg 2 [oz 6],rg 3 [oz 6],sq [rg 6 [om 0,nL,oi 0],lp 7 0 (sq [rg 10 [oA 4 6 8,nl 4,oZ 5 [1,0,1,0],o2 4 5],rg 12 [om 3,oQ 2 2 5 0,nF 0,oq (.cat (.s 15) (.c (.aF [60]))),oQ 2 2 5 1,nF 0,oq (.cat (.s 16) (.s 19)),n1 1,na 1 12,o1 3]]) 23],rg 24 [om 3,o1 2],.ret]) [.tmp 2] 25:=aX func120
def lq(l:List (List UInt8)):List (List V):=l.map λs=>[V.aF s]
def vM:(lq l).length=l.length:=aO ..
def QD(h:l[j]?=U s):(lq l)[(j:Int).toNat]?=U [.aF s]:=by simp[lq,h]
def DK(l:List (List UInt8))(sep:List UInt8)(D:ag)(i Z:Nat):St :=
 ⟨[.sl .no 1 (lq l),.aF sep,.any,.any,.any,.sl (.tk Z) 1 (dc (ji sep (l.take i))),.any,.any,.int .i64 l.length,.int .i64 (i:Nat)]++aA 16 .any,[],D.aR Z (ji sep (l.take i)).length⟩
def Ml(l:List (List UInt8))(sep:List UInt8)(D:ag)(hl:l.length<=aM)(hb:(ji sep l).length<=aM) :
 bc 117 [.sl .no 1 (lq l),.aF sep] D (.aF (ji sep l)):=by
 refine aeh.aV ?_;simp only[aU,am,a8,Nat.reduceAdd,vM];refine iE (λp:{p:Nat × Nat // D.aJ p.2=ae/\p.1<=l.length}=>DK l sep D p.1.1 p.1.2) (λp=>l.length - p.1.1) ?_ ?_
 .refine bm.Ay 0 λZ bp=>⟨⟨(0,Z),bp,by simp⟩,?_,rfl,rfl⟩
  simp[DK,aA,n7,ji,dc]
 .rintro⟨⟨i,Z⟩,bp,hi⟩;simp only at bp hi;simp only[DK,aA,am];have wi:IntKind.i64.wrap ((i:Int)+1)=((i+1:Nat):Int):=by simp only[aM] at hl;rw[wrap_i64];simp
  by_cases az:i<l.length
  .have hs:=ajp (sep:=sep) az;have hm:=ajm (sep:=sep) (l:=l) (i:=i+1);rw[hs] at hm;simp only[bI] at hm;simp only[am,aP (show(i:Int)<l.length by omega)]
   by_cases h0:0<i
   case' pos =>
    rw[aD h0] at hs hm;simp only[am,cF,aP (show(0:Int)<i by omega)];refine⟨_,rfl,?_⟩;refine jI (by rw[iR,iR];omega) (by rw[iR,iX]) ?_;simp only[am,jn];rw[<-CV,iR,iR,<-bI]
   case' neg =>
    rw[aB h0,eg] at hs;rw[aB h0] at hm;simp only[am,aK (show ¬(0:Int)<i by omega)]
   all_goals
    refine ix (QD (cH az)) ?_;simp only[am,cF];refine⟨_,rfl,?_⟩;refine jI (by rw[iR,iR];simp at hm ⊢;omega) (by rw[iR,iX]) ?_;simp only[am,jn,wi];rw[<-CV,iR,iR,<-bI,<-hs];exact bm.again (I:=λp:{p:Nat × Nat // D.aJ p.2=ae/\p.1<=l.length}=>DK l sep D p.1.1 p.1.2) (μ:=λp=>l.length - p.1.1) ⟨(i+1,Z),bp,az⟩ (by simp;omega) (by simp[DK,am,aA]) ch.rfl bN.rfl
  .have az:i=l.length:=by omega
   subst az;simp only[am,cF,aK (show ¬(l.length:Int)<l.length by omega),eH];refine⟨_,_,rfl,?_⟩;refine aN rfl (sj bp) ⟨?_,rfl⟩;simp[V.erase]
def x6(l:List au)(D:ag)(i Z:Nat)(aC:List (List V)):St :=
 ⟨[.any,.any,.any,.sl (.tk Z) 1 (lq ((l.take i).map au.al)),.any,.any,.sl .no 2 (l.map au.enc),.int .i64 l.length,.int .i64 (i:Nat)]++aA 10 .any,aC,D.aR Z i⟩
def zc:lq l++[[.aF s]]=lq (l++[s]):=by simp[lq]
def H7(l:List au)(D:ag)(hl:l.length+1<=aM):bc 118 [.sl .no 2 (l.map au.enc)] D (.sl .no 1 (lq (l.map au.al))):=by
 refine aei.aV ?_;simp only[aU,am,a8,Nat.reduceAdd];refine iE (λp:{p:Nat × Nat // D.aJ p.2=ae/\p.1<=l.length}=>x6 l D p.1.1 p.1.2 []) (λp=>l.length - p.1.1) ?_ ?_
 .refine bm.Ay 0 λZ bp=>⟨⟨(0,Z),bp,by simp⟩,?_,rfl,rfl⟩
  simp[x6,aA,n7,lq]
 .rintro⟨⟨i,Z⟩,bp,hi⟩;simp only at bp hi;simp only[x6,aA,am];have wi:IntKind.i64.wrap ((i:Int)+1)=((i+1:Nat):Int):=by simp only[aM] at hl;rw[wrap_i64];simp
  by_cases az:i<l.length
  .have we:((l.take i).map au.al).length=i:=by simp;omega
   have qU:(l.take i).map au.al++[l[i].al]=(l.take (i+1)).map au.al:=by rw[jr az,fX,EY]
   simp only[am,aP (show(i:Int)<l.length by omega)];refine ix (qw (cH az)) ?_;simp only[am,Nat.reduceAdd,au.enc];refine jI (by rw[vM,we];simp;omega) (by rw[vM,we,iX]) ?_;simp only[am,vM,jn,wi,we];rw[zc,qU];exact bm.ud (I:=λp:{p:Nat × Nat // D.aJ p.2=ae/\p.1<=l.length}=>x6 l D p.1.1 p.1.2 []) (μ:=λp=>l.length - p.1.1) ⟨(i+1,Z),bp,az⟩ (by simp;omega) (by simp[x6,am,aA]) (by simp[x6,am]) bN.rfl (by simp[x6,aA,bQ,V.lo]) (by simp[x6,dC])
  .have az:i=l.length:=by omega
   subst az;simp only[am,aK (show ¬(l.length:Int)<l.length by omega),eH];refine aN rfl (sj bp) ⟨?_,rfl⟩;simp[V.erase]
def x7(l:List (au × au))(D:ag)(i Z:Nat)(aC:List (List V)):St :=
 ⟨[.any,.any,.any,.sl (.tk Z) 1 (lq ((l.take i).map jy)),.any,.any,.sl .no 4 (l.map e_),.int .i64 l.length,.int .i64 (i:Nat)]++aA 16 .any,aC,D.aR Z i⟩
def anz(l:List (au × au))(D:ag)(hl:l.length+1<=aM)(hp:jZ l<=aM):bc 120 [.sl .no 4 (l.map e_)] D (.sl .no 1 (lq (l.map jy))):=by
 refine ael.aV ?_;simp only[aU,am,a8,Nat.reduceAdd];refine iE (λp:{p:Nat × Nat // D.aJ p.2=ae/\p.1<=l.length}=>x7 l D p.1.1 p.1.2 []) (λp=>l.length - p.1.1) ?_ ?_
 .refine bm.Ay 0 λZ bp=>⟨⟨(0,Z),bp,by simp⟩,?_,rfl,rfl⟩
  simp[x7,aA,n7,lq]
 .rintro⟨⟨i,Z⟩,bp,hi⟩;simp only at bp hi;simp only[x7,aA,am];have wi:IntKind.i64.wrap ((i:Int)+1)=((i+1:Nat):Int):=by simp only[aM] at hl;rw[wrap_i64];simp
  by_cases az:i<l.length
  .have we:((l.take i).map jy).length=i:=by simp;omega
   have qU:(l.take i).map jy++[jy l[i]]=(l.take (i+1)).map jy:=by rw[jr az,fX,EY]
   simp only[am,aP (show(i:Int)<l.length by omega)];refine ix (ym (cH az)) ?_;simp only[am,cF,Nat.reduceAdd,e_];have nX:=aob az;refine kj ?_;simp only[am,cF,Int.reduceToNat,Nat.reduceMul];refine⟨by simp;omega,?_⟩;refine kj ?_;simp only[am,Int.reduceToNat,Nat.reduceMul];refine⟨by simp;omega,?_⟩;refine jI (by rw[vM,we];simp;omega) (by rw[vM,we,iX]) ?_;simp only[am,vM,jn,wi,we];rw[show l[i].1.al++[60]++l[i].2.al=jy l[i] from rfl,zc,qU];exact bm.ud (I:=λp:{p:Nat × Nat // D.aJ p.2=ae/\p.1<=l.length}=>x7 l D p.1.1 p.1.2 []) (μ:=λp=>l.length - p.1.1) ⟨(i+1,Z),bp,az⟩ (by simp;omega) (by simp[x7,am,aA]) (by simp[x7,am]) bN.rfl (by simp[x7,aA,bQ,V.lo]) (by simp[x7,dC])
  .have az:i=l.length:=by omega
   subst az;simp only[am,aK (show ¬(l.length:Int)<l.length by omega),eH];refine aN rfl (sj bp) ⟨?_,rfl⟩;simp[V.erase]
def PR(l:List (List UInt8))(D:ag)(hl:l.length<=aM)(hb:(cz l).length+2<=aM):bc 119 [.sl .no 1 (lq l)] D (.aF (uh l)):=by
 refine aej.aV ?_;simp only[aU,am,a8,Nat.reduceAdd];refine cl (Ml l [44] D hl (by rw[G4];omega)) ?_;simp only[am,G4];refine⟨by simp;omega,by simp;omega,?_⟩;refine aS ?_;simp[V.erase,uh]
def agM:aT prog 59 (sq [rg 2 [ox 1 17 0,oz 1],rg 8 [fo 0 1,oC 100 [9],oZ 3 [1,1],o2 2 3],rg 11 [fo 0 3,n1 1,o1 4],rg 14 [of 7 1,nl 5,of 12 1,nl 5,oq (.j9 5 [(.s 15),(.s 17)]),o1 5],.BZ (rS 19 [fo 1 3]) (.s 20) 21 22 23 0 1 (sq [rg 24 [oe 22 2,o1 7],rg 25 [om 7],.block 2 (sq [rg 36 [oq (.eD .eql (.s 25) (.c (.int .i32 110))),o1 35],cd 35 (rg 37 [om 4,of 2 1,nF 0,n1 1,na 1 37,o1 4]) (sq [rg 44 [oq (.eD .eql (.s 25) (.c (.int .i32 102))),o1 43],cd 43 (rg 45 [om 4,fo 4 1,oC 118 [47],oc 117 [.s 48,.c (.aF [44])],n1 1,na 1 45,o1 4]) (sq [rg 53 [oq (.eD .eql (.s 25) (.c (.int .i32 119))),o1 52],cd 52 (rg 54 [om 4,fo 4 1,oC 118 [56],oC 119 [57],n1 1,na 1 54,o1 4]) (sq [rg 62 [oq (.eD .eql (.s 25) (.c (.int .i32 112))),o1 61],cd 61 (rg 63 [om 4,fo 5 1,oC 120 [65],oC 119 [66],n1 1,na 1 63,o1 4]) (sq [rg 26 [om 4,om 5,nI 5 0,nl 5,oC 121 [29],n1 1,na 1 26,o1 4],rg 33 [om 5,oq (.kv 5 (.s 33) (U (.c (.int .i64 1))) ae ae),o1 5]])])])])])]),rg 70 [om 4,oc 117 [.s 70,.c (.aF [32])],o1 2],.ret]) [.tmp 2] 72:=aX func59
def As(c:aq)(D:ag)(ks:List UInt8)(b i Z:Nat):St :=
 ⟨[.any,.ptr (.aC 0) 0,.any,.any,.sl (.tk Z) 1 (lq (kt c (ks.take i)).1),.sl .no 5 ((kt c (ks.take i)).2.map Nd.enc)]++aA 15 .any++[.raw (.pointer (U ⟨b,0,ae⟩))]++aA 50 .any,[c.enc,[.aF (cn c.op).1,.aF ks]],D.aR Z (i+1)⟩
def Qp(c:aq)(hg:D.bO 0=U fL)(hw:16*c.wt+64<=aM):bc 59 [.agg c.enc] D (.aF (dS c)):=by
 have hcw:c.wt=c.name.al.length+eB c.aj+jZ c.bh+c.left.wt+c.right.wt:=rfl;have hn1:=MW c.aj;have K3:=U9 c.bh;refine agM.aV ?_;simp only[aU,am,a8,Nat.reduceAdd,df,eQ];refine cl (Mx c.op hg) ?_;simp only[am,Nat.reduceAdd,Nd.an,cL];refine N7 ?_;simp only[am];have Gx:=agY c.op;have xU:dS c=ji [32] (kt c (cn c.op).2).1:=rfl;have xM:=Ro c.op;generalize fM:(cn c.op).2=ks at Gx xU xM;refine⟨ks,rfl,by rw[<-fM];exact JS c.op,λb i aH => ∃Z:{Z:Nat // D.aJ Z=ae},aH = As c D ks b i Z.1,?_,?_,?_,?_⟩
 .intro b;refine bm.Ay 1 λZ bp=>⟨⟨Z,bp⟩,?_,?_,rfl⟩
  .simp[As,aA,n7,lq,kt];exact⟨je.tok rfl,je.le dE.no⟩
  .simp[As]
 .rintro b i _ ⟨Z,rfl⟩;exact⟨rfl,by simp[As],by simp[As]⟩
 .rintro b i k _ hk ⟨⟨Z,bp⟩,rfl⟩;have hi:i<ks.length:=(eX.1 hk).1;have qT:ks.take (i+1)=ks.take i++[k]:=by rw[Ex hk]
  obtain⟨o1,o2,o3,o4⟩:=MR c (ks.take i);have qU:=UU c (ks.take i) k;rw[<-qT] at qU;have mS:(lq (kt c (ks.take i)).1).length=i+1:=by rw[vM,o3,iP];omega
  have iw:∀n:UInt8,((k.toNat:Nat):Int)=(n.toNat:Nat)↔k=n:=λn=>by
   constructor
   .intro h;exact Pe.1 (by omega)
   .rintro rfl;rfl
  have CU:((k.toNat:Nat):Int)=110↔k=110:=iw 110;have FO:((k.toNat:Nat):Int)=102↔k=102:=iw 102;have za:((k.toNat:Nat):Int)=119↔k=119:=iw 119;have y_:((k.toNat:Nat):Int)=112↔k=112:=iw 112;have ht:=Gx i hi k hk;simp only[As,aA,am];generalize hX:kt c (ks.take i)=X at *;obtain⟨rows,ts⟩:=X;simp only at o1 o2 o3 o4 mS;simp only;rw[qU];simp only[yC];have Dr:rows.length+1<=aM:=by
   have:(List.take i ks).length<=3:=by rw[iP];omega
   simp only[aM];omega
  by_cases k1:k=110
  .have hp:l9 k c (ts.headD .zero)=c.name.al:=by subst k1;rfl
   have hq:isTerm k=false:=by subst k1;rfl
   simp only[am,cL,aP (CU.2 k1),hp,hq];refine jI (by rw[mS];simp only[gv,aM] at *;omega) (by rw[mS,iX]) ?_;simp only[am,cF,jn,mS];rw[zc];exact bm.eM (by simp[am]) (by simp[am]) bN.rfl ⟨⟨Z,bp⟩,rfl⟩
  simp only[am,aK (λh=>k1 (CU.1 h))]
  by_cases k2:k=102
  .have hp:l9 k c (ts.headD .zero)=cz (c.aj.map au.al):=by subst k2;rfl
   have hq:isTerm k=false:=by subst k2;rfl
   simp only[am,cL,aP (FO.2 k2),hp,hq];refine cl (H7 c.aj _ (by omega)) ?_;simp only[am];refine cl (Ml (c.aj.map au.al) [44] _ (by rw[aO];omega) (by rw[G4];omega)) ?_;simp only[am,G4];refine jI (by rw[mS];simp only[gv,aM] at *;omega) (by rw[mS,iX]) ?_;simp only[am,cF,jn,mS];rw[zc];exact bm.eM (by simp[am]) (by simp[am]) bN.rfl ⟨⟨Z,bp⟩,rfl⟩
  simp only[am,aK (λh=>k2 (FO.1 h))]
  by_cases k3:k=119
  .have hp:l9 k c (ts.headD .zero)=uh (c.aj.map au.al):=by subst k3;rfl
   have hq:isTerm k=false:=by subst k3;rfl
   simp only[am,cL,aP (za.2 k3),hp,hq];refine cl (H7 c.aj _ (by omega)) ?_;simp only[am];refine cl (PR (c.aj.map au.al) _ (by rw[aO];omega) (by omega)) ?_;simp only[am];refine jI (by rw[mS];simp only[gv,aM] at *;omega) (by rw[mS,iX]) ?_;simp only[am,cF,jn,mS];rw[zc];exact bm.eM (by simp[am]) (by simp[am]) bN.rfl ⟨⟨Z,bp⟩,rfl⟩
  simp only[am,aK (λh=>k3 (za.1 h))]
  by_cases k4:k=112
  .have hp:l9 k c (ts.headD .zero)=uh (c.bh.map jy):=by subst k4;rfl
   have hq:isTerm k=false:=by subst k4;rfl
   simp only[am,cL,aP (y_.2 k4),hp,hq];refine cl (anz c.bh _ (by omega) (by omega)) ?_;simp only[am];refine cl (PR (c.bh.map jy) _ (by rw[aO];omega) (by omega)) ?_;simp only[am];refine jI (by rw[mS];simp only[gv,aM] at *;omega) (by rw[mS,iX]) ?_;simp only[am,cF,jn,mS];rw[zc];exact bm.eM (by simp[am]) (by simp[am]) bN.rfl ⟨⟨Z,bp⟩,rfl⟩
  simp only[am,aK (λh=>k4 (y_.1 h))];have hq:isTerm k=true:=by simp[isTerm,k1,k2,k3,k4]
  have ht2:=ht hq;obtain⟨n,ns,pC⟩:∃n ns,ts=n::ns:=by
   rw[o4]
   match (List.filter isTerm (List.take i ks)).length,ht2 with
   | 0,_=>exact⟨_,_,rfl⟩
   | 1,_=>exact⟨_,_,rfl⟩
  have hnw:n.wt<=c.wt:=o2 n (by rw[pC];simp);have hp:l9 k c (ts.headD .zero)=n.da:=by rw[pC];simp[l9,k1,k2,k3,k4]
  have qW:ts.map Nd.enc=n.enc::ns.map Nd.enc:=by rw[pC];rfl
  have we:ts.tail=ns:=by rw[pC];rfl
  simp only[am,hp,hq,we,qW];refine xW (c:=n.enc) (by simp) ?_;simp only[am,Nd.an];refine cl (aq3 _ n _ (bL _) (by omega)) ?_;simp only[am];refine jI (by rw[mS];simp only[gv,aM] at *;omega) (by rw[mS,iX]) ?_;simp only[am,cF,jn,mS];refine aql (a:=1) (by simp) ?_;simp only[am,cF];rw[zc];exact bm.eM (by simp[am]) (by simp[am]) bN.rfl ⟨⟨Z,bp⟩,rfl⟩
 .rintro b _ ⟨⟨Z,bp⟩,rfl⟩;simp only[As,aA,am];rw[eH];obtain⟨o1,o2,o3,o4⟩:=MR c ks;have zC:=ajn _ o1;rw[o3] at zC;have hjb:(ji [32] (kt c ks).1).length<=aM:=by
   have:(ks.length+1)*(c.wt+8+1)<=4*(c.wt+8+1):=rB _ (by omega)
   omega
  refine(cm.eM (Ml (kt c ks).1 [32] (D.aR Z (ks.length+1)) (by rw[o3];simp only[aM];omega) hjb) ?_ bN.rfl).mono ?_
  .simp[am]
  rintro v _ ⟨rfl,rfl⟩;simp only[am];refine aN rfl (sj bp) ⟨?_,rfl⟩;rw[xU];rfl
def aep:aT prog 138 (sq [rg 2 [oz 6],rg 3 [oz 6],sq [rg 6 [om 0,nL,oi 0],lp 7 0 (sq [rg 10 [oA 2 6 8,nl 2,oZ 5 [1,0],o2 2 5],rg 12 [om 3,fo 0 5,n1 1,na 1 12,o1 3]]) 17],rg 18 [om 3,o1 2],.ret]) [.tmp 2] 19:=aX func138
def aeq:aT prog 139 (sq [rg 0 [ox 1 17 0,oR 2 qn],rg 7 [fo 4 1,oC 138 [8],o1 3],rg 4 [oz 7],sq [rg 10 [fo 5 1,nL,oi 0],lp 12 0 (sq [rg 15 [oA 4 11 13,nl 4,oZ 6 [1,0,1,0],o2 4 6],dg 17 [om 4,om 3,oQ 2 2 6 0,nF 0,oC 173 [18,21],om 3,oQ 2 2 6 1,nf 0,mM [0],no,oC 173 [23,26],oW [0,0] [(0,1,22),(1,1,27)],n1 2,na 2 17,o1 4]]) 31],rg 32 [om 3,nL,om 4,oC 200 [33,34],oC 199 [35],o2 65 2],.ret]) [.cell 2 aa 65] 37:=aX func139
def ae3:aT prog 200 (sq [rg 0 [oR 4 qn],rg 8 [om 0,oC 249 [8],oR 5 qn,o2 65 5],sq [rg 10 [om 1,nL,oi 0],lp 11 0 (sq [rg 14 [oA 2 10 12,nl 2,oZ 7 [0,0],o2 2 7],rg 16 [ol 65 5,fo 0 7,oC 250 [16,18],gA,ol 65 5,fo 1 7,oC 250 [21,23],gZ],ci 25 (dg 26 [of 0 7,mM [1],no,fo 0 7,of 1 5,oP 64 1 30 29,no,fo 1 7,oC 247 [32,34],of 1 5,oP 64 1 36 27,os 1 37 35])]) 38],rg 39 [ol 65 5,o2 65 4],.ret]) [.cell 4 aa 65] 40:=aX func200
def afA:aT prog 250 (sq [rg 4 [ox 2 65 0,oz 2],rg 5 [om 1,nB .geq 0,gA,om 1,ol 65 2,oC 267 [9],nb .lss 8,gZ,o1 4],.ret]) [.tmp 4] 13:=aX func250
def yo(p:Int × Int):List V:=[.int .i64 p.1,.int .i64 p.2]
def Vu(r:Rl)(i:Int)(D:ag):bc 250 [.agg r.enc,.int .i64 i] D (.bool (decide (0<=i)&&decide (i<(bK r:Nat)))):=by
 refine afA.aV ?_;simp only[aU,am,a8,Nat.reduceAdd,Rl.an]
 by_cases h:0<=i
 .simp only[am,Rl.an,aP h];refine cl (Ai r D) ?_;simp only[am];refine aS ?_;simp[V.erase]
 .simp only[am,aK h];refine aS ?_;simp[V.erase]
def an'{l:List (Int × Int)}(h:j<l.length):(l.map yo)[((j:Nat):Int).toNat]?=U (yo l[j]):=by simp[h]
def ao9(n:Int)(l:List (Int × Int))(D:ag)(hl:l.length<=100000):bc 200 [.int .i64 n,.sl .no 2 (l.map yo)] D (.agg (rh n l).enc):=by
 refine ae3.aV ?_;simp only[aU,am,a8,Nat.reduceAdd,Rl.an];refine cl (Ue n D) ?_;simp only[am,aO,Rl.an,aO];refine eb (l.length) (λi (x:Unit)=>⟨[.any,.any,.any,.any,.ptr (.aC 0) 0,.ptr (.aC 1) 0,.any,.any,.any,.any,.sl .no 2 (l.map yo),.int .i64 (l.length:Nat),.int .i64 (i:Nat)]++aA 27 .any,[Rl.zero.enc,(rh n (l.take i)).enc],D⟩) (λi x=>(True)) λF hF JF br=>⟨?_,?_,?_⟩
 .refine en br (()) (trivial) ?_ ?_ ?_
  all_goals simp[hF,aA,am,bZ,rh]
 .rintro i x hi -;have hT:=amU (n:=n) hi;generalize hr:rh n (l.take i)=r at hT;have hp:=@m_ r;obtain⟨p,K3⟩:∃p,l[i]=p:=⟨_,rfl⟩;rw[K3] at hT;simp only[hF,aA,am,eE hi];refine ix (an' hi) ?_;rw[K3,hr];obtain⟨a,b⟩:=p;simp only[am,Nat.reduceAdd,Rl.an,yo];refine cl (Vu r a D) ?_
  by_cases ha:0<=a/\a<(bK r:Nat)
  .simp only[am,Rl.an,aP ha.1,aP ha.2];refine cl (Vu r b D) ?_
   by_cases hb:0<=b/\b<(bK r:Nat)
   .obtain⟨k,rfl⟩:∃k:Nat,a=k:=⟨a.toNat,by omega⟩;have hk:k<64:=by omega
    have e:rh n (l.take (i+1))=r.put k (j6 (r.get k) b):=by rw[hT,D9,aD ⟨ha,hb⟩];rfl
    simp only[am,cF,aP hb.1,aP hb.2];refine kj ?_;simp only[am,jC,tX,Rl.yF hk];refine bJ.intro (D7 (r.get k) b D) ?_;simp only[am,cF];refine kj ?_;simp only[EL,Rl.B9 hk,Rl.B_ hk,cT hi];refine fN (()) hi ?_ ?_ ?_ ?_ ?_ ?_
    .exact eN (br _ _) (trivial)
    all_goals simp[hF,aA,am,bZ,bQ,dC,V.lo,e,Rl.cE]
   .have e:rh n (l.take (i+1))=r:=by rw[hT,D9,aB λh=>hb h.2]
    have b8 : (decide (0<=b)&&decide (b<(bK r:Nat)))=false:=by rw[<-wW];exact aK hb
    simp only[am,a_,b8,cT hi];refine fN (()) hi ?_ ?_ ?_ ?_ ?_ ?_
    .exact eN (br _ _) (trivial)
    all_goals simp[hF,aA,am,bZ,bQ,dC,V.lo,e,Rl.cE]
  .have e:rh n (l.take (i+1))=r:=by rw[hT,D9,aB λh=>ha h.1]
   have Gj : (decide (0<=a)&&decide (a<(bK r:Nat)))=false:=by rw[<-wW];exact aK ha
   simp only[am,a_,Gj,cT hi];refine fN (()) hi ?_ ?_ ?_ ?_ ?_ ?_
   .exact eN (br _ _) (trivial)
   all_goals simp[hF,aA,am,bZ,bQ,dC,V.lo,e,Rl.cE]
 .rintro x -;simp only[hF,aA,am,a_,eJ,a_,Rl.an,eH];exact aN (v:=.agg (rh n l).enc) Rl.dq (ag.bd _) ⟨by simp only[V.erase,Rl.dk],rfl⟩
def H4(l:List au)(D:ag)(hl:l.length<=100000):bc 138 [.sl .no 2 (l.map au.enc)] D (.sl .no 1 (cO (du l))):=by
 refine aep.aV ?_;simp only[aU,am,a8,Nat.reduceAdd,aO];refine eb (l.length) (λi (Z:Nat)=>⟨[.any,.any,.any,.sl (.tk Z) 1 (cO (du (l.take i))),.any,.any,.sl .no 2 (l.map au.enc),.int .i64 (l.length:Nat),.int .i64 (i:Nat)]++aA 10 .any,[],D.aR Z i⟩) (λi Z=>(D.aJ Z=ae)) λF hF JF br=>⟨?_,?_,?_⟩
 .refine FU 0 λZ bp=>⟨Z,eN (br _ _) bp,?_,?_,?_⟩
  all_goals simp[hF,aA,n7,du,cO]
 .rintro i Z hi bp;have hlen:(cO (du (l.take i))).length=i:=by rw[gO,AI,iP];omega
  have hs:cO (du (l.take (i+1)))=cO (du (l.take i))++[[.aF l[i].al]]:=by rw[jr hi];simp only[du,cO,fX,bX,eC]
  simp only[hF,aA,am,eE hi];refine ix (AF hi) ?_;simp only[am,au.an,wS];refine jI (by rw[hlen];simp[aM];omega) (by rw[hlen];exact iX) ?_;rw[hlen];simp only[am,a_,jn,cT hi,gv];refine fN (Z) hi ?_ ?_ ?_ ?_ ?_ ?_
  .exact eN (br _ _) (bp)
  all_goals simp[hF,aA,am,bZ,bQ,dC,V.lo,hs]
 .rintro Z bp;simp only[hF,aA,am,a_,eJ,a_,eH];refine aN rfl (sj bp) ⟨rfl,rfl⟩
def u9(P:au × au->Int × Int)(l:List (au × au)):List (List V):=(l.map P).map yo
def an9{P:au × au->Int × Int}{l:List (au × au)}:(u9 P l).length=l.length:=by simp[u9]
def US{l:List (au × au)}(h:j<l.length):(l.map e_)[((j:Nat):Int).toNat]?=U (e_ l[j]):=by simp[h]
def Nf(c:aq)(D:ag)(hn:c.aj.length<=100000)(hp:c.bh.length<=100000):bc 139 [.agg c.enc] D (.agg (sd c).enc):=by
 refine aeq.aV ?_;simp only[aU,am,a8,Nat.reduceAdd,Rl.an];simp only[am,df,cL];refine cl (H4 c.aj D hn) ?_;simp only[am,aO,aO,cL];have hw:(du c.aj).length<=100000:=by rw[AI];exact hn
 generalize hP:HG (du c.aj)=P;refine eb (c.bh.length) (λi (Z:Nat)=>⟨[.any,.ptr (.aC 0) 0,.ptr (.aC 1) 0,.sl .no 1 (cO (du c.aj)),.sl (.tk Z) 2 (u9 P (c.bh.take i)),.any,.any,.any,.any,.any,.any,.sl .no 4 (c.bh.map e_),.int .i64 (c.bh.length:Nat),.int .i64 (i:Nat)]++aA 23 .any,[c.enc,Rl.zero.enc],D.aR Z i⟩) (λi Z=>(D.aJ Z=ae)) λF hF JF br=>⟨?_,?_,?_⟩
 .refine FU 0 λZ bp=>⟨Z,eN (br _ _) bp,?_,?_,?_⟩
  all_goals simp[hF,aA,n7,u9]
 .rintro i Z hi bp;have hlen:(u9 P (c.bh.take i)).length=i:=by rw[an9,iP];omega
  have hs:u9 P (c.bh.take (i+1))=u9 P (c.bh.take i)++[yo (P c.bh[i])]:=by rw[jr hi];simp only[u9,fX,bX,eC]
  simp only[hF,aA,am,eE hi];refine ix (US hi) ?_;simp only[am,cF,Nat.reduceAdd,e_];refine kj ?_;simp only[am,Int.reduceToNat,Nat.reduceMul];refine bJ.intro (vP (du c.aj) c.bh[i].1.al (D.aR Z i) hw) ?_;simp only[am,cF];refine kj ?_;simp only[am,Int.reduceToNat,Nat.reduceMul];refine bJ.intro (vP (du c.aj) c.bh[i].2.al (D.aR Z i) hw) ?_;simp only[am,Nat.reduceAdd];refine xf (by rw[hlen];simp[aM];omega) (by rw[hlen];exact iX) ?_;rw[hlen];have he:[V.int .i64 (de (gY (du c.aj) c.bh[i].1.al)),.int .i64 (de (gY (du c.aj) c.bh[i].2.al))]=yo (P c.bh[i]):=by rw[<-hP];rfl
  rw[he];simp only[am,a_,jn,cT hi,gv];refine fN (Z) hi ?_ ?_ ?_ ?_ ?_ ?_
  .exact eN (br _ _) (bp)
  all_goals simp[hF,aA,am,bZ,bQ,dC,V.lo,hs,aq.enc,aq.cM,Rl.cE]
 .rintro Z bp;simp only[hF,aA,am,a_,eJ,a_,gO,eH];rw[AI];refine cl (cm.eM (as' := [.int .i64 (c.aj.length:Nat),.sl .no 2 (u9 P c.bh)]) (show cm prog 200 [.int .i64 (c.aj.length:Nat),.sl .no 2 (u9 P c.bh)] _ _ from ao9 (c.aj.length:Nat) (c.bh.map P) _ (by simpa using hp)) ⟨dE.rfl,dE.no,trivial⟩ bN.rfl) ?_;simp only[am,Rl.an];refine cl (P5 _ _) ?_;simp only[am,Rl.an];subst hP;exact aN (v:=.agg (sd c).enc) Rl.dq (sj bp) ⟨by simp only[V.erase,Rl.dk],rfl⟩
def aes:aT prog 140 (sq [rg 0 [ox 2 2 0,ox 3 17 1,oZ 4 [2,72]],rg 5 [oz 7],sq [rg 10 [fo 4 3,nL,oi 0],lp 12 0 (sq [rg 15 [oA 2 11 13,nl 2,oZ 7 [1,0],o2 2 7],rg 18 [ol 2 2,fo 0 7,oC 76 [18,20],o1 17,oe 17 0,oe 17 1,ot 8 22,o1 9],rg 24 [om 8,nB .geq 0],ci 25 (rg 26 [om 5,fo 0 2,om 8,nA 3 28,nf 1,nl 2,n1 2,na 2 26,o1 5])]) 35],rg 36 [om 5,oC 198 [36],o2 2 4],.ret]) [.cell 4 aa 2] 38:=aX func140
def ae1:aT prog 198 (sq [rg 0 [oZ 2 [2,72]],rg 8 [oG [2,72] [(0,1,.c (.bool aa))],oZ 3 [2,72],o2 2 3],sq [rg 9 [om 0,nL,oi 0],lp 10 0 (sq [rg 13 [oA 2 9 11,nl 2,oZ 5 [2,72],o2 2 5],rg 15 [fo 1 5,nL,oi 0],lp 17 2 (sq [rg 20 [oA 67 16 18,nl 67,oR 7 qK,o2 67 7],dg 22 [of 1 3,mM [1],no,ol 67 7,oC 201 [24],n1 67,na 67 23,of 1 3,os 1 28 27]]) 29]) 30],rg 31 [ol 2 3,o2 2 2],.ret]) [.cell 2 aa 2] 32:=aX func198
def ae4:aT prog 201 (sq [rg 0 [ox 1 67 0,oR 2 qK],rg 3 [oq (.j9 1 []),fo 1 1,na 1 3,of 1 1,os 1 7 6],rg 8 [ol 67 1,o2 67 2],.ret]) [.cell 2 aa 67] 9:=aX func201
theorem adw{f:bn}:bW 1 (f.enc.drop 1)=true:=rfl
def adz{f:bn}:setAt f.enc 1 [.sl .no 1 (cO f.aj)]=f.enc:=by rw[bn.enc,jl,lM,oD,l8]
def PZ(f:bn)(D:ag)(hf:f.aj.length<=100000):bc 201 [.agg f.enc] D (.agg f.enc):=by
 refine ae4.aV ?_;simp only[aU,am,a8,Nat.reduceAdd,bn.an];refine xg (by simp[gO,aM];omega) ?_;simp only[am,bn.an,adw,fY,adz];exact aN (v:=.agg f.enc) bn.dq (ag.bd _) ⟨by simp only[V.erase,bn.dk],rfl⟩
def aqd{l:List bC}(h:j<l.length):(l.map bC.enc)[((j:Nat):Int).toNat]?=U l[j].enc:=by simp[h]
def adB{l:List bn}(h:j<l.length):(l.map bn.enc)[((j:Nat):Int).toNat]?=U l[j].enc:=by simp[h]
def vO(l:List bn):List (List V):=l.map bn.enc
def adu{l:List bn}:(vO l).length=l.length:=by simp[vO]
def adt{l:List bn}{f:bn}:vO (l++[f])=vO l++[f.enc]:=by simp[vO]
def U6(l:List bC)(D:ag)(hl:l.length<=100000)(hs:∀s∈l,s.bM.length<=100000/\∀f∈s.bM,f.aj.length<=100000)(hb:(l.flatMap bC.bM).length<=100000000) :
 bc 198 [.sl .no 2 (l.map bC.enc)] D (.agg (BY l).enc):=by
 have hT:∀{i:Nat} (hi:i<l.length),(l.take (i+1)).flatMap bC.bM=(l.take i).flatMap bC.bM++l[i].bM:=λ{i} hi=>by rw[jr hi,yN];simp
 have hL:∀{i:Nat} (hi:i<l.length),((l.take i).flatMap bC.bM).length+l[i].bM.length<=100000000:=λ{i} hi=>by
  have h1:(l.take (i+1)++l.drop (i+1)).flatMap bC.bM=l.flatMap bC.bM:=by rw[qy]
  rw[<-h1,yN,hT hi] at hb;simp only[bI] at hb;omega
 refine ae1.aV ?_;simp only[aU,am,a8,Nat.reduceAdd,aO];obtain⟨Q,hQ⟩:∃Q:Nat->List bn,∀i,Q i=(l.take i).flatMap bC.bM:=⟨_,λ_=>rfl⟩;have vW:Q 0=[]:=by rw[hQ];rfl
 have zp:Q l.length=(BY l).bM:=by rw[hQ,eH];rfl
 refine eb (l.length) (λi (Z:Nat)=>⟨[.any,.any,.ptr (.aC 0) 0,.ptr (.aC 1) 0,.any,.any,.any,.any,.any,.sl .no 2 (l.map bC.enc),.int .i64 (l.length:Nat),.int .i64 (i:Nat)]++aA 20 .any,[[.bool ak,.sl .aW 67 []],[.bool aa,.sl (.tk Z) 67 (vO (Q i))]],D.aR Z (Q i).length⟩) (λi Z=>(D.aJ Z=ae)) λF hF JF br=>⟨?_,?_,?_⟩
 .refine JE 0 λZ bp=>⟨Z,eN (br _ _) bp,?_,?_,?_⟩
  all_goals simp[hF,aA,n7,L9,vW,vO]
 .rintro i Z hi bp;have hsi:=hs _ (fu hi);have RU:=hL hi;rw[<-hQ] at RU;have qP:Q (i+1)=Q i++l[i].bM:=by rw[hQ,hQ,hT hi]
  simp only[hF,aA,am,eE hi];refine ix (aqd hi) ?_;simp only[am,Nat.reduceAdd,aO,bC.an,aO];generalize Q i=q at RU qP;obtain⟨W,hW⟩:∃W:Nat->List bn,∀j,W j=q++l[i].bM.take j:=⟨_,λ_=>rfl⟩;have hW0:q=W 0:=by rw[hW];simp
  have hWn:W l[i].bM.length=Q (i+1):=by rw[hW,eH,qP]
  rw[hW0];refine eb (l[i].bM.length) (λj (x:Unit)=>⟨[.any,.any,.ptr (.aC 0) 0,.ptr (.aC 1) 0,.any,.any,.any,.any,.any,.sl .no 2 (l.map bC.enc),.int .i64 (l.length:Nat),.int .i64 (i:Nat),.any,.any,.any,.any,.sl .no 67 (l[i].bM.map bn.enc),.int .i64 (l[i].bM.length:Nat),.int .i64 (j:Nat)]++aA 13 .any,[[.bool ak,.sl .aW 67 []],[.bool aa,.sl (.tk Z) 67 (vO (W j))],l[i].enc],D.aR Z (W j).length⟩) (λj x=>(True)) λF2 ir ET pq=>⟨?_,?_,?_⟩
  .refine en pq (()) (trivial) ?_ ?_ ?_
   all_goals simp[ir,aA,am,bZ]
  .rintro j x hj -;have R4:W (j+1)=W j++[l[i].bM[j]]:=by rw[hW,hW,jr hj,dZ]
   have hWl:(W j).length+1<=100000000:=by rw[hW];simp only[bI,iP];omega
   have hlen:(vO (W j)).length=(W j).length:=adu;have ahR:(W (j+1)).length=(W j).length+1:=by rw[R4];simp
   simp only[ir,aA,am,eE hj];refine ix (adB hj) ?_;simp only[am,Nat.reduceAdd,bn.an];refine bJ.intro (PZ l[i].bM[j] (D.aR Z (W j).length) (hsi.2 _ (fu hj))) ?_;simp only[am,bn.an];refine xf (by rw[hlen];simp[aM];omega) (by rw[hlen];exact iX) ?_;rw[hlen];simp only[am,a_,jn,cT hj,gv];rw[<-adt,<-R4,<-ahR];refine fN (()) hj ?_ ?_ ?_ ?_ ?_ ?_
   .exact eN (pq _ _) (trivial)
   all_goals simp[ir,aA,am,bZ,bQ,dC,V.lo,bC.cE]
  .rintro x -;simp only[ir,aA,am,a_,eJ,Nat.reduceAdd,Nat.reduceEqDiff,a_,reduceCtorEq,cT hi,hWn];refine fN (Z) hi ?_ ?_ ?_ ?_ ?_ ?_
   .exact eN (br _ _) (bp)
   all_goals simp[hF,aA,am,bZ,bQ,dC,V.lo]
 .rintro Z bp;simp only[hF,aA,am,a_,eJ,Nat.reduceAdd,a_,zp];refine aN rfl (sj bp) ⟨rfl,rfl⟩
variable{w:au}
def ajQ{s:aI}:(pF s w).length<=1:=by
 unfold pF;split
 .split<;>simp
 .simp
def yw(l:List bC):List (List V):=l.map bC.enc
def ap_{l:List bC}{s:bC}:yw (l++[s])=yw l++[s.enc]:=by simp[yw]
def Q5{f:au->List bC}(h:∀w,(f w).length<=1):∀{l:List au},(l.flatMap f).length<=l.length
 | []=>by simp
 | w::ws=>by have:=Q5 h (l:=ws);have:=h w;simp only[pY,bI,db];omega
def QU{N:Nat}:∀{l:List bC},(∀s∈l,s.bM.length<=N)->(l.flatMap bC.bM).length<=l.length*N
 | [],_=>by simp
 | s :: ss, h => by
  have h1:=QU (N:=N) (l:=ss) λx hx=>h x (by simp[hx])
  have h2:=h s (by simp);simp only[pY,bI,db,E7];omega
def ajR{s:aI}{x:bC}(h:x∈pF s w):∃l∈s.bu,x=l.shape:=by
 unfold pF at h;split at h
 .split at h
  .rename_i y hy;exact⟨y,rz hy,by simpa using h⟩
  .simp at h
 .simp at h
def ajU{s:aI}(h:iq s.bu w.al=U k)(hk:k<s.bu.length):pF s w=[s.bu[k].shape]:=by
 simp only[pF,h,cH hk]
def ajS{s:aI}(h:iq s.bu w.al=ae):pF s w=[]:=by simp only[pF,h]
def U5(s:aI)(c:aq)(D:ag)(hs:s.uY)(hn:c.aj.length<=100000):bc 140 [.agg s.enc,.agg c.enc] D (.agg (pO s c).enc):=by
 refine aes.aV ?_;simp only[aU,am,a8,Nat.reduceAdd,aI.an];simp only[am,aO,aO,df,cL];obtain⟨Q,hQ⟩:∃Q:Nat->List bC,∀i,Q i=(c.aj.take i).flatMap (pF s):=⟨_,λ_=>rfl⟩;have vW:Q 0=[]:=by rw[hQ];rfl
 have zo:∀i,(Q i).length<=100000:=λi=>by
  rw[hQ]
  have:=Q5 (f:=pF s) (λ_=>ajQ) (l:=c.aj.take i)
  rw[iP] at this;omega
 refine eb (c.aj.length) (λi (Z:Nat)=>⟨[.any,.any,.ptr (.aC 0) 0,.ptr (.aC 1) 0,.ptr (.aC 2) 0,.sl (.tk Z) 2 (yw (Q i)),.any,.any,.any,.any,.any,.sl .no 2 (c.aj.map au.enc),.int .i64 (c.aj.length:Nat),.int .i64 (i:Nat)]++aA 24 .any,[s.enc,c.enc,[.bool ak,.sl .aW 67 []]],D.aR Z (Q i).length⟩) (λi Z=>(D.aJ Z=ae)) λF hF JF br=>⟨?_,?_,?_⟩
 .refine FU 0 λZ bp=>⟨Z,eN (br _ _) bp,?_,?_,?_⟩
  all_goals simp[hF,aA,n7,vW,yw]
 .rintro i Z hi bp;have qP:Q (i+1)=Q i++pF s c.aj[i]:=by rw[hQ,hQ,jr hi,yN];simp
  have hlq:=zo i;simp only[hF,aA,am,eE hi];refine ix (AF hi) ?_;simp only[am,Nat.reduceAdd,aI.an,au.an,wS];refine cl (vd s c.aj[i].al _ hs.1.1 hs.1.2.1) ?_;cases hf:iq s.bu c.aj[i].al with
  | none =>
   have e:Q (i+1)=Q i:=by rw[qP,ajS hf,eg]
   simp only[am,ff,a_,Int.reduceNeg,Int.reduceLE,de,cT hi];refine fN (Z) hi ?_ ?_ ?_ ?_ ?_ ?_
   .exact eN (br _ _) (bp)
   all_goals simp[hF,aA,am,bZ,bQ,dC,V.lo,e,aI.cE,aq.enc,aq.cM]
  | some k =>
   have hk:=(F4 hf).1;have e:Q (i+1)=Q i++[s.bu[k].shape]:=by rw[qP,ajU hf hk]
   have hlen:(yw (Q i)).length=(Q i).length:=by simp[yw]
   have e2:(Q (i+1)).length=(Q i).length+1:=by rw[e];simp
   simp only[am,Int.reduceNeg,aI.an,de,aP (show(0:Int)<=((k:Nat):Int) by omega)];refine ix (DU hk) ?_;simp only[am,Int.reduceNeg,aI.an,bC.an];refine jI (by rw[hlen];simp[aM];omega) (by rw[hlen];exact iX) ?_;rw[hlen];simp only[am,a_,Int.reduceNeg,jn,cT hi,gv];rw[<-ap_,<-e,<-e2];refine fN (Z) hi ?_ ?_ ?_ ?_ ?_ ?_
   .exact eN (br _ _) (bp)
   all_goals simp[hF,aA,am,bZ,bQ,dC,V.lo,aI.cE,aq.enc,aq.cM]
 .rintro Z bp;have hq:=zo c.aj.length;have e:Q c.aj.length=c.aj.flatMap (pF s):=by rw[hQ,eH]
  have hm:∀x∈Q c.aj.length,∃l∈s.bu,x=l.shape:=λx hx=>by
   rw[e] at hx;obtain⟨w,_,hx⟩:=OZ.1 hx;exact ajR hx
  have xN:=QU (N:=100) (l:=Q c.aj.length) λx hx=>by obtain⟨l,hl,rfl⟩:=hm x hx;exact hs.2 l hl
  have K4:pO s c=BY (Q c.aj.length):=by rw[pO,e]
  simp only[hF,aA,am,a_,eJ,a_];refine cl (cm.eM (as' := [.sl .no 2 (yw (Q c.aj.length))]) (U6 (Q c.aj.length) _ (by omega) (λx hx=>by obtain⟨l,hl,rfl⟩:=hm x hx;exact hs.1.2.2 l hl) (by omega)) ⟨dE.no,trivial⟩ bN.rfl) ?_;simp only[am,bC.an];refine aN rfl (sj bp) ⟨by rw[K4];rfl,rfl⟩
def aeQ:aT prog 178 (sq [rg 2 [ox 1 17 0,oz 2],sq [rg 3 [fo 0 1,oc 223 [.s 4,.c (.int .i32 110)],nB .eql 0],cr 6 7 [of 2 1,nF 0,oq (.nD .eql (.s 9) (.c (.aF []))),o1 2]],rg 11 [of 2 1,nF 0,oC 161 [13],o1 2],.ret]) [.tmp 2] 15:=aX func178
def aeR:aT prog 179 (sq [rg 2 [ox 1 17 0,oz 2],.block 0 (sq [rg 4 [fo 0 1,oc 223 [.s 5,.c (.int .i32 119)],nB .gtr 0,o1 3],cd 3 (sq [rg 8 [fo 4 1,nL,nB .gtr 0,gA,fo 4 1,oC 118 [14],oC 224 [15],gZ,o1 2],.ret]) (sq [rg 19 [fo 0 1,oc 223 [.s 20,.c (.int .i32 102)],nB .gtr 0,o1 18],cr 18 23 [fo 4 1,nL,nB .eql 1,gA,fo 4 1,oC 118 [29],oC 224 [30],gZ,o1 2]])]),rg 33 [fo 4 1,nL,nB .eql 0,o1 2],.ret]) [.tmp 2] 37:=aX func179
def afg:aT prog 223 (sq [rg 4 [oi 0],rg 5 [oi 0],.BZ (rS 8 [om 0,oC 100 [8],ow 1 9]) (.s 10) 11 12 13 0 1 (sq [rg 14 [oe 12 2,o1 7],rg 15 [om 7,om 1,nb .eql 15],ci 17 (rg 18 [ic 5])]),rg 20 [om 5,o1 4],.ret]) [.tmp 4] 21:=aX func223
def afh:aT prog 224 (sq [rg 2 [oz 2],sq [rg 5 [om 0,nL,oi 0],lp 6 0 (sq [rg 9 [oA 1 5 7,no,o1 4],rg 11 [om 4,oC 161 [11],nn],cr 13 2 [oz 2]]) 14],rg 2 [oq (.mv (.c (.bool aa)))],.ret]) [.tmp 2] 15:=aX func224
def Ar(ks:List UInt8)(k:UInt8)(D:ag)(b i:Nat):St :=
 ⟨[.any,.int .i32 (k.toNat:Nat),.any,.any,.any,.int .i64 ((ks.take i).count k:Nat)]++aA 5 .any++[.raw (.pointer (U ⟨b,0,ae⟩))]++aA 9 .any,[],D⟩
def BS(op:Int)(k:UInt8)(hg:D.bO 0=U fL):bc 223 [.int .i64 op,.int .i32 (k.toNat:Nat)] D (.int .i64 (eR op k:Nat)):=by
 refine afg.aV ?_;simp only[aU,am,a8,Nat.reduceAdd];refine N7 ?_;simp only[am];refine cl (Mx op hg) ?_;simp only[am];have xM:=Ro op;have Sb:eR op k=(cn op).2.count k:=rfl;generalize fM:(cn op).2=ks at xM Sb;refine⟨ks,rfl,by rw[<-fM];exact JS op,λb i aH => aH = Ar ks k D b i,?_,?_,?_,?_⟩
 .intro b;refine bm.eM (t' := (Ar ks k D b 0).t) ?_ ch.rfl bN.rfl rfl;simp[Ar,aA,am]
 .rintro b i _ rfl;exact⟨rfl,by simp[Ar],by simp[Ar]⟩
 .rintro b i c _ hc rfl;have hi:i<ks.length:=(eX.1 hc).1;have qU:(ks.take (i+1)).count k=(ks.take i).count k+(if c=k then 1 else 0):=by
   rw[Ex hc,List.count_append,List.count_singleton];simp
  have hle:(ks.take i).count k<=3:=w7 List.count_le_length (by rw[iP];omega);have iw:((c.toNat:Nat):Int)=(k.toNat:Nat)↔c=k:=by
   constructor
   .intro h;exact Pe.1 (by omega)
   .rintro rfl;rfl
  simp only[Ar,aA,am]
  by_cases e:c=k
  .rw[aD e] at qU;simp only[am,cF,aP (iw.2 e)];rw[wrap_i64];exact bm.eM (by simp[am,qU]) ch.rfl bN.rfl rfl
  .rw[aB e] at qU;simp only[am,cF,aK (λh=>e (iw.1 h))];exact bm.eM (by simp[am,qU]) ch.rfl bN.rfl rfl
 .rintro b _ rfl;simp only[Ar,aA,am];rw[eH];refine aS ?_;simp[V.erase,Sb]
def DL(l:List (List UInt8))(D:ag)(i:Nat):St :=
 ⟨[.any,.any,.any,.any,.any,.sl .no 1 (lq l),.int .i64 l.length,.int .i64 (i:Nat)]++aA 7 .any,[],D⟩
def P6(l:List (List UInt8))(D:ag)(hl:l.length<=aM):bc 224 [.sl .no 1 (lq l)] D (.bool (n8 l)):=by
 simp only[aM] at hl;refine afh.aV ?_;simp only[aU,am,a8,Nat.reduceAdd,vM];refine iE (λp:{i:Nat // i<=l.length/\n8 (l.take i)=aa}=>DL l D p.1) (λp=>l.length - p.1) ?_ ?_
 .refine bm.enter ⟨0,by simp,by simp[n8]⟩ ?_ ch.rfl bN.rfl;simp[DL,aA,am]
 rintro⟨i,hi,ha⟩;simp only[DL,aA,am]
 by_cases az:i<l.length
 .simp only[am,aP (show(i:Int)<l.length by omega)];refine ix (QD (cH az)) ?_;simp only[am];refine cl (tj l[i] D) ?_;cases hr:dy l[i]
  .simp only[am]
   have:n8 l=false:=by
    rw[n8,IC];exact⟨l[i],fu az,by simp[hr]⟩
   refine aS ?_;simp[V.erase,this]
  .simp only[am];rw[wrap_i64];refine bm.again (I:=λp:{i:Nat // i<=l.length/\n8 (l.take i)=aa}=>DL l D p.1) (μ:=λp=>l.length - p.1) ⟨i+1,az,?_⟩ (by simp;omega) (by simp[DL,am,aA]) ch.rfl bN.rfl;simp only[n8,jr az,IB,bA] at ha ⊢;exact⟨ha,by simp[hr]⟩
 .have:i=l.length:=by omega
  subst this;rw[eH] at ha;simp only[am,aK (show ¬(l.length:Int)<l.length by omega)];refine aS ?_;simp[V.erase,ha]
def aly(c:aq)(hg:D.bO 0=U fL):bc 178 [.agg c.enc] D (.bool c.mB):=by
 refine aeQ.aV ?_;simp only[aU,am,a8,Nat.reduceAdd,df,eQ];have h:=λ(D:ag) (hg:D.bO 0=U fL)=>BS c.op 110 hg
 refine cl (h D hg) ?_;simp only[am]
 by_cases h0:eR c.op 110=0
 .simp only[am,cL,aP (show((eR c.op 110:Nat):Int)=0 by omega)];refine aS ?_;simp[V.erase,aq.mB,h0]
 .simp only[am,cL,aK (show ¬((eR c.op 110:Nat):Int)=0 by omega)];refine cl (tj c.name.al D) ?_;simp only[am];refine aS ?_;simp[V.erase,aq.mB,h0]
def alE(c:aq)(hg:D.bO 0=U fL)(hn:c.aj.length+1<=aM):bc 179 [.agg c.enc] D (.bool c.jW):=by
 have qg:(c.aj.map au.al).length<=aM:=by rw[aO];omega
 have h:=λ(D:ag) (hg:D.bO 0=U fL)=>BS c.op 119 hg
 have h' := λ(D:ag) (hg:D.bO 0=U fL)=>BS c.op 102 hg
 refine aeR.aV ?_;simp only[aU,am,a8,Nat.reduceAdd,df,eQ];refine cl (h D hg) ?_;simp only[am]
 by_cases h0:0<eR c.op 119
 .simp only[am,aO,cL,aP (show(0:Int)<((eR c.op 119:Nat):Int) by omega),aO]
  by_cases h1:0<c.aj.length
  .simp only[am,cL,aP (show(0:Int)<((c.aj.length:Nat):Int) by omega)];refine cl (H7 c.aj D hn) ?_;simp only[am];refine cl (P6 (c.aj.map au.al) D qg) ?_;simp only[am];refine aS ?_;simp[V.erase,aq.jW,h0,h1]
  .simp only[am,aK (show ¬(0:Int)<((c.aj.length:Nat):Int) by omega)];refine aS ?_;simp[V.erase,aq.jW,h0,h1]
 .simp only[am,eQ,aK (show ¬(0:Int)<((eR c.op 119:Nat):Int) by omega)];refine cl (h' D hg) ?_;simp only[am]
  by_cases h2:0<eR c.op 102
  .simp only[am,aO,cL,aP (show(0:Int)<((eR c.op 102:Nat):Int) by omega),aO]
   by_cases h1:c.aj.length=1
   .simp only[am,cL,aP (show((c.aj.length:Nat):Int)=1 by omega)];refine cl (H7 c.aj D hn) ?_;simp only[am];refine cl (P6 (c.aj.map au.al) D qg) ?_;simp only[am];refine aS ?_;simp[V.erase,aq.jW,h0,h1,h2]
   .simp only[am,aK (show ¬((c.aj.length:Nat):Int)=1 by omega)];refine aS ?_;simp[V.erase,aq.jW,h0,h1,h2]
  .simp only[am,aO,cL,aK (show ¬(0:Int)<((eR c.op 102:Nat):Int) by omega),aO];have he:decide (((c.aj.length:Nat):Int)=0)=decide (c.aj.length=0):=by simp
   refine aS ?_;simp[V.erase,aq.jW,h0,h2]
def aed:aT prog 113 (sq [rg 2 [ox 1 17 0,oz 2],sq [rg 3 [fo 0 1,nB .lss 0,gB,fo 0 1,nB .gtr 15,gZ],cr 10 2 [oz 2]],rg 11 [ol 17 1,oC 178 [11],gA,ol 17 1,oC 179 [14],gZ,gA,ol 17 1,oC 180 [18],gZ,gA,ol 17 1,oC 181 [22],gZ,o1 2],.ret]) [.tmp 2] 25:=aX func113
def aeS:aT prog 180 (sq [rg 2 [ox 1 17 0,oz 2],sq [rg 5 [fo 0 1,oc 223 [.s 6,.c (.int .i32 112)],nB .eql 0],cr 8 9 [fo 5 1,nL,nB .eql 0,o1 2]],sq [rg 13 [fo 5 1,nL,oi 0],lp 15 0 (sq [rg 18 [oA 4 14 16,nl 4,oZ 4 [1,0,1,0],o2 4 4],rg 20 [oQ 2 2 4 0,nF 0,oC 161 [22],nn,gB,oQ 2 2 4 1,nF 0,oC 161 [28],nn,gZ],cr 31 2 [oz 2]]) 32],rg 2 [oq (.mv (.c (.bool aa)))],.ret]) [.tmp 2] 33:=aX func180
def aeT:aT prog 181 (sq [rg 2 [ox 1 17 0,oz 2],sq [rg 3 [fo 0 1,oc 223 [.s 4,.c (.int .i32 116)],nB .gtr 0],cr 6 7 [of 7 1,nl 5,oC 182 [8],gA,of 12 1,nl 5,oC 182 [12],gZ,o1 2]],sq [rg 15 [fo 0 1,oc 223 [.s 16,.c (.int .i32 114)],nB .gtr 0],cr 18 19 [of 7 1,nl 5,oC 225 [20],gA,of 12 1,nl 5,oC 225 [24],gZ,o1 2]],rg 27 [of 7 1,nl 5,oW [0,0,1,7,10] [],oC 226 [28,29],gA,of 12 1,nl 5,oW [0,0,1,7,10] [],oC 226 [33,34],gZ,o1 2],.ret]) [.tmp 2] 37:=aX func181
def x8(c:aq)(D:ag)(i:Nat):St :=
 ⟨[.any,.ptr (.aC 0) 0]++aA 12 .any++[.sl .no 4 (c.bh.map e_),.int .i64 c.bh.length,.int .i64 (i:Nat)]++aA 16 .any,[c.enc],D⟩
def anw(c:aq)(hg:D.bO 0=U fL)(hn:c.bh.length+1<=aM):bc 180 [.agg c.enc] D (.bool c.kW):=by
 have h:=λ(D:ag) (hg:D.bO 0=U fL)=>BS c.op 112 hg
 simp only[aM] at hn;refine aeS.aV ?_;simp only[aU,am,a8,Nat.reduceAdd,df,eQ];refine cl (h D hg) ?_;simp only[am]
 by_cases h0:eR c.op 112=0
 .simp only[am,aO,cL,aO,aP (show((eR c.op 112:Nat):Int)=0 by omega)];have he:decide (((c.bh.length:Nat):Int)=0)=decide (c.bh.length=0):=by simp
  refine aS ?_;simp[V.erase,aq.kW,h0]
 simp only[am,aO,cL,aO,aK (show ¬((eR c.op 112:Nat):Int)=0 by omega)];have hq:c.kW=c.bh.all mZ:=by unfold aq.kW;rw[aB h0]
 refine iE (λp:{i:Nat // i<=c.bh.length/\(c.bh.take i).all mZ=aa}=>x8 c D p.1) (λp=>c.bh.length - p.1) ?_ ?_
 .refine bm.enter ⟨0,by simp,by simp⟩ ?_ ch.rfl bN.rfl;simp[x8,aA,am]
 rintro⟨i,hi,ha⟩;simp only[x8,aA,am]
 by_cases az:i<c.bh.length
 .simp only[am,aP (show(i:Int)<c.bh.length by omega)];refine ix (ym (cH az)) ?_;simp only[am,cF,Nat.reduceAdd,e_];refine kj ?_;simp only[am,Int.reduceToNat,Nat.reduceMul];refine cl (tj c.bh[i].1.al D) ?_;have iI:mZ c.bh[i]=ak->c.kW=false:=λhf=>by
   rw[hq,IC];exact⟨c.bh[i],fu az,by simp[hf]⟩
  cases hr:dy c.bh[i].1.al
  .simp only[am];refine aS ?_;simp[V.erase,iI (by simp[mZ,hr])]
  .simp only[am,cF];refine kj ?_;simp only[am,Int.reduceToNat,Nat.reduceMul];refine cl (tj c.bh[i].2.al D) ?_;cases SC:dy c.bh[i].2.al
   .simp only[am];refine aS ?_;simp[V.erase,iI (by simp[mZ,SC])]
   .simp only[am];rw[wrap_i64];refine bm.ud (I:=λp:{i:Nat // i<=c.bh.length/\(c.bh.take i).all mZ=aa}=>x8 c D p.1) (μ:=λp=>c.bh.length - p.1) ⟨i+1,az,?_⟩ (by simp;omega) (by simp[x8,am,aA]) (by simp[x8,am]) bN.rfl (by simp[x8,aA,bQ,V.lo]) (by simp[x8,aq.enc,aq.cM,dC,bQ,V.lo]);rw[jr az,IB,ha];simp[mZ,hr,SC]
 .have:i=c.bh.length:=by omega
  subst this;rw[eH] at ha;simp only[am,aK (show ¬(c.bh.length:Int)<c.bh.length by omega)];refine aS ?_;simp[V.erase,hq,ha]
def as8:[V.int .i64 0,.int .i64 0,.aF [],.sl .aW 2 [],.sl .aW 5 []].map V.erase=Nd.zero.enc:=by rw[Nd.dd];rfl
def V6(n:Nd)(D:ag)(hw:n.wt<=aM):bc 226 [.agg n.enc,.agg [.int .i64 0,.int .i64 0,.aF [],.sl .aW 2 [],.sl .aW 5 []]] D (.bool (n.cI .zero)):=by
 refine cm.eM (apJ _ n .zero D (bL _) hw) ?_ bN.rfl;simp only[cK,dE.rfl,gw,qt];rw[<-as8];exact dE.erase (v:=.agg [.int .i64 0,.int .i64 0,.aF [],.sl .aW 2 [],.sl .aW 5 []])
def aq0(c:aq)(hg:D.bO 0=U fL)(hl:c.left.wt<=aM)(hr:c.right.wt<=aM):bc 181 [.agg c.enc] D (.bool c.jA):=by
 have h:=λ(D:ag) (hg:D.bO 0=U fL)=>BS c.op 116 hg
 have h' := λ(D:ag) (hg:D.bO 0=U fL)=>BS c.op 114 hg
 refine aeT.aV ?_;simp only[aU,am,a8,Nat.reduceAdd,df,eQ];refine cl (h D hg) ?_;simp only[am]
 by_cases h0:0<eR c.op 116
 .simp only[am,Nd.an,cL,aP (show(0:Int)<((eR c.op 116:Nat):Int) by omega)];refine cl (DS _ c.left D (bL _) hl) ?_;cases hq:c.left.eU
  .simp only[am];refine aS ?_;simp[V.erase,aq.jA,h0,hq]
  .simp only[am,Nd.an,cL];refine cl (DS _ c.right D (bL _) hr) ?_;simp only[am];refine aS ?_;simp[V.erase,aq.jA,h0,hq]
 simp only[am,eQ,aK (show ¬(0:Int)<((eR c.op 116:Nat):Int) by omega)];refine cl (h' D hg) ?_;simp only[am]
 by_cases h2:0<eR c.op 114
 .simp only[am,Nd.an,cL,aP (show(0:Int)<((eR c.op 114:Nat):Int) by omega)];refine cl (Vz c.left D hl) ?_;cases hq:c.left.iW
  .simp only[am];refine aS ?_;simp[V.erase,aq.jA,h0,h2,hq]
  .simp only[am,Nd.an,cL];refine cl (Vz c.right D hr) ?_;simp only[am];refine aS ?_;simp[V.erase,aq.jA,h0,h2,hq]
 simp only[am,Nd.an,cL,aK (show ¬(0:Int)<((eR c.op 114:Nat):Int) by omega)];refine cl (V6 c.left D hl) ?_;cases hq:c.left.cI .zero
 .simp only[am];refine aS ?_;simp[V.erase,aq.jA,h0,h2,hq]
 .simp only[am,Nd.an,cL];refine cl (V6 c.right D hr) ?_;simp only[am];refine aS ?_;simp[V.erase,aq.jA,h0,h2,hq]
def aaM(c:aq)(hg:D.bO 0=U fL)(hn:c.aj.length+1<=aM)(hp:c.bh.length+1<=aM)(hl:c.left.wt<=aM)(hr:c.right.wt<=aM):bc 113 [.agg c.enc] D (.bool c.fq):=by
 have h1:=λ(D:ag) (hg:D.bO 0=U fL)=>aly c hg
 have h2:=λ(D:ag) (hg:D.bO 0=U fL)=>alE c hg hn
 have h3:=λ(D:ag) (hg:D.bO 0=U fL)=>anw c hg hp
 have h4:=λ(D:ag) (hg:D.bO 0=U fL)=>aq0 c hg hl hr
 refine aed.aV ?_;simp only[aU,am,a8,Nat.reduceAdd,df,eQ]
 by_cases k1:c.op<0
 .simp only[am,aP k1];refine aS ?_;simp[V.erase,aq.fq,show ¬(0<=c.op/\c.op<=15) by omega]
 simp only[am,eQ,aK k1]
 by_cases k2:15<c.op
 .simp only[am,aP k2];refine aS ?_;simp[V.erase,aq.fq,show ¬(0<=c.op/\c.op<=15) by omega]
 have k3:0<=c.op/\c.op<=15:=by omega
 simp only[am,df,aK k2];refine cl (h1 D hg) ?_;cases q1:c.mB
 .simp only[am];refine aS ?_;simp[V.erase,aq.fq,q1]
 simp only[am,df];refine cl (h2 D hg) ?_;cases q2:c.jW
 .simp only[am];refine aS ?_;simp[V.erase,aq.fq,q1,q2]
 simp only[am,df];refine cl (h3 D hg) ?_;cases q3:c.kW
 .simp only[am];refine aS ?_;simp[V.erase,aq.fq,q1,q2,q3]
 simp only[am,df];refine cl (h4 D hg) ?_;simp only[am];refine aS ?_;simp[V.erase,aq.fq,q1,q2,q3,k3]
def aef:aT prog 115 (sq [rg 0 [ox 3 2 0,ox 5 5 2,oR 6 Fv],sq [rg 11 [fo 0 5,nB .eql 1],ci 13 (sq [rg 15 [ol 2 3,fo 2 5,oC 76 [15,17],o1 14,oe 14 0,oe 14 1,ot 7 19,o1 8],rg 21 [om 8,oY Fv [(0,1,.s 21)],o2 9 6],.ret])],dA 24 [9,10] [fo 0 3,om 1,nA 3 25,nf 1,nl 2,fo 4 5,nI 5 0,nl 5,oC 184 [29,33],o1 23,oe 23 0,oe 23 1,oN,oN,oX 9 8 35,oX 10 2 36],rg 37 [ol 8 9,oY Fv [(0,1,.c (.int .i64 (-1))),(1,8,.s 37)],o2 9 6],.ret]) [.cell 6 aa 9] 39:=aX func115
def aeg:aT prog 116 (sq [rg 0 [ox 3 2 0,ox 5 5 2,oZ 6 [15,0]],rg 12 [oG [15,0] [(1,1,.c (.int .i64 (-1)))],oZ 7 [15,0],o2 2 7],sq [rg 13 [fo 0 5,nB .eql 1],ci 15 (sq [rg 17 [ol 2 3,fo 2 5,oC 76 [17,19],o1 16,oe 16 0,oe 16 1,of 1 7,os 1 23 22],rg 24 [ol 2 7,o2 2 6],.ret])],sq [rg 25 [fo 4 5,nL,oi 0],lp 27 0 (sq [rg 30 [oA 5 26 28,nl 5,oZ 9 [0,0,1,7,10],o2 5 9],dg 32 [of 0 7,mM [1],no,of 2 9,mM [1],no,ol 2 3,om 1,fo 4 9,nI 5 0,nl 5,oC 115 [36,37,41],oY Q9 [(0,1,.s 35),(1,9,.s 42)],n1 10,na 10 33,of 0 7,os 1 46 45]]) 47],sq [rg 48 [fo 3 5,nL,oi 0],lp 50 2 (sq [rg 53 [oA 2 49 51,nl 2,oZ 11 [1,0],o2 2 11],rg 56 [ol 2 3,fo 0 11,oC 76 [56,58],o1 55,oe 55 0,oe 55 1,of 1 7,os 1 62 61]]) 63],rg 64 [ol 2 7,o2 2 6],.ret]) [.cell 6 aa 2] 65:=aX func116
def QW(s:aI)(lat:Nat)(n:Nd)(hs:s.ok)(hg:TZ D)(mR:lat<s.bu.length)(hk:n.kind=1\/0<n.ah.length)(hc:n.cw<=100000)(hw:n.wt<=aM):
 bc 115 [.agg s.enc,.int .i64 (lat:Nat),.agg n.enc] D (.agg (qD s lat n).enc):=by
 refine aef.aV ?_;simp only[aU,Is,Nat.reduceAdd,Int.reduceNeg,bF.an]
 by_cases h1:n.kind=1
 .simp only[am,Int.reduceNeg,aI.an,Nd.fl,aP h1];refine cl (vd s n.al D hs.1 hs.2.1) ?_;simp only[am,Int.reduceNeg,bF.an];exact aN (v:=.agg (bF.mk (de (kb s.vars n.al)) .zero).enc) bF.dq (ag.bd _) ⟨by rw[qD,aD h1];simp only[V.erase,bF.dk],rfl⟩
 have hk:0<n.ah.length:=hk.resolve_left h1;have hm:n.ah[0]∈n.ah:=fu _;have xO:=qG hm;have xP:=mV hm;simp only[am,Nat.reduceAdd,bS,Int.reduceNeg,Nat.reduceLT,aI.an,aK h1];refine ix (DU mR) ?_;simp only[am,Int.reduceNeg,aI.an,Nd.fl];refine qY (n:=0) (by omega) (l6 (j:=0) (cH hk)) ?_;simp only[am,Int.reduceNeg,bC.an,Nd.an];refine bJ.intro (JC s.bu[lat].shape n.ah[0] hg (hs.2.2 _ (fu mR)) (λm hm=>by obtain⟨a,b,c⟩:=MP (n:=n.ah[0]) (by omega) m hm;exact⟨by omega,by omega,λq hq=>by have:=c q hq;omega⟩) (by omega)) ?_;have ee:qD s lat n=⟨-1,(im s.bu[lat].shape n.ah[0]).1⟩:=by rw[qD,aB h1,NL mR,qM hk]
 generalize im s.bu[lat].shape n.ah[0]=g at ee;obtain⟨e,o⟩:=g;cases o with
 | none =>
  simp only[am,Nat.reduceAdd,Int.reduceNeg,bg.an,bF.an,show uz ae=[.int .i64 0,.int .i64 0] from rfl];exact aN (v:=.agg (bF.mk (-1) e).enc) bF.dq (ag.bd _) ⟨by rw[ee];simp only[V.erase,bF.dk],rfl⟩
 | some q =>
  simp only[am,Nat.reduceAdd,Int.reduceNeg,bg.an,bF.an,show uz (U q)=[.int .i64 4,.int .i64 q] from rfl];exact aN (v:=.agg (bF.mk (-1) e).enc) bF.dq (ag.bd _) ⟨by rw[ee];simp only[V.erase,bF.dk],rfl⟩
def Rq(s:aI)(lat:Nat)(n:Nd)(hs:s.ok)(hg:TZ D)(mR:lat<s.bu.length)(hk:∀k∈n.ah,Q8 k)(hn1:n.aj.length<=1)(hc:n.cw<=100000)(hw:n.wt<=aM):
 bc 116 [.agg s.enc,.int .i64 (lat:Nat),.agg n.enc] D (.agg (ma s lat n).enc):=by
 refine aeg.aV ?_;simp only[aU,Is,Nat.reduceAdd,Int.reduceNeg,bU.an]
 by_cases h1:n.kind=1
 .simp only[am,Int.reduceNeg,aI.an,Nd.fl,aP h1];refine cl (vd s n.al D hs.1 hs.2.1) ?_;simp only[am,Nat.reduceAdd,Int.reduceNeg];exact aN rfl (ag.bd _) ⟨by rw[ma,aD h1];rfl,rfl⟩
 simp only[am,aO,Int.reduceNeg,Nd.fl,aO,aK h1];have Dq:=y7 n;obtain⟨Q,hQ⟩:∃Q:Nat->List (List V),∀i,Q i=((n.ah.take i).map (uv s lat)).map bU.enc:=⟨_,λ_=>rfl⟩;have vW:Q 0=[]:=by rw[hQ];rfl
 have zp:Q n.ah.length=(n.ah.map (uv s lat)).map bU.enc:=by rw[hQ,eH]
 have zo:∀{i:Nat},i<=n.ah.length->(Q i).length=i:=λ{i} hi=>by rw[hQ];simp;omega
 have qP:∀{i:Nat} (hi:i<n.ah.length) (h1:0<n.ah[i].ah.length),Q (i+1)=Q i++[(bU.mk n.ah[i].al (qD s lat n.ah[i].ah[0])).enc]:=λ{i} hi h1=>by
  rw[hQ,hQ,jr hi,fX,fX,EY,EY,uv,qM h1]
 refine eb (n.ah.length) (λi (Z:Nat)=>⟨[.any,.int .i64 (lat:Nat),.any,.ptr (.aC 0) 0,.any,.ptr (.aC 1) 0,.ptr (.aC 2) 0,.ptr (.aC 3) 0,.any,.any,.any,.any,.any,.any,.any,.any,.any,.any,.any,.any,.any,.any,.any,.any,.any,.any,.sl .no 5 (n.ah.map Nd.enc),.int .i64 (n.ah.length:Nat),.int .i64 (i:Nat)]++aA 36 .any,[s.enc,n.enc,[.sl .aW 10 [],.int .i64 0],[.sl (.tk Z) 10 (Q i),.int .i64 (-1)]],D.aR Z i⟩) (λi Z=>(D.aJ Z=ae)) λF hF JF br=>⟨?_,?_,?_⟩
 .refine JE 0 λZ bp=>⟨Z,eN (br _ _) bp,?_,?_,?_⟩
  all_goals simp[hF,aA,n7,L9,vW]
 .rintro i Z hi bp;have hm:n.ah[i]∈n.ah:=fu _;have xO:=qG hm;have xP:=mV hm;obtain⟨rL,rM⟩:=hk _ hm;have Bz:n.ah[i].ah[0]∈n.ah[i].ah:=fu _;have aiv:=qG Bz;have aiw:=mV Bz;have xJ:TZ (D.aR Z i):=hg;have hlen:=zo (IS hi);simp only[hF,aA,am,eE hi,Int.reduceNeg];refine ix (l6 (cH hi)) ?_;simp only[Is,Nat.reduceAdd,Int.reduceNeg];refine qY (n:=0) (by omega) (l6 (j:=0) (cH rL)) ?_;simp only[am,Int.reduceNeg,aI.an,Nd.an];refine bJ.intro (QW s lat n.ah[i].ah[0] hs xJ mR (rM _ Bz) (by omega) (by omega)) ?_;simp only[am,Int.reduceNeg,bF.an,bU.an];refine xf (by rw[hlen];simp[aM];omega) (by rw[hlen];exact iX) ?_;rw[hlen];simp only[am,a_,Int.reduceNeg,Nd.fl,jn,cT hi,gv];refine fN (Z) hi ?_ ?_ ?_ ?_ ?_ ?_
  .exact eN (br _ _) (bp)
  all_goals simp[hF,aA,am,bZ,bQ,dC,V.lo,qP hi rL,aI.cE,Nd.cE]
 .rintro Z bp;have hlen:=zo (bL _);have v_:=CO n;simp only[hF,aA,am,a_,eJ,a_,Int.reduceNeg,Nd.fl,aO];refine eb (n.aj.length) (λj (y:Unit)=>⟨[.any,.any,.any,.ptr (.aC 0) 0,.any,.any,.ptr (.aC 2) 0,.ptr (.aC 3) 0,.any,.any,.any,.any,.any,.any,.any,.any,.any,.any,.any,.any,.any,.any,.any,.any,.any,.any,.any,.any,.any,.any,.any,.any,.any,.any,.any,.any,.any,.any,.any,.any,.any,.any,.any,.any,.any,.any,.any,.any,.any,.sl .no 2 (n.aj.map au.enc),.int .i64 (n.aj.length:Nat),.int .i64 (j:Nat)]++aA 13 .any,[s.enc,n.enc,[.sl .aW 10 [],.int .i64 0],[.sl (.tk Z) 10 (Q n.ah.length),.int .i64 (Aw s (n.aj.take j))]],D.aR Z n.ah.length⟩) (λj y=>(True)) λF2 ir ET pq=>⟨?_,?_,?_⟩
  .refine en pq (()) (trivial) ?_ ?_ ?_
   all_goals simp[ir,aA,am,bZ,Aw]
  .rintro j y hj -;obtain rfl:j=0:=by omega
   have et:=aqR (s:=s) hj;simp only[ir,aA,am,eE hj];refine ix (AF hj) ?_;simp only[am,Nat.reduceAdd,wS,aI.an,au.an];refine cl (vd s n.aj[0].al _ hs.1 hs.2.1) ?_;simp only[am,a_,cT hj];refine fN (()) hj ?_ ?_ ?_ ?_ ?_ ?_
   .exact eN (pq _ _) (trivial)
   all_goals simp[ir,aA,am,bZ,bQ,dC,V.lo,et,aI.cE,Nd.cE]
  .rintro y -;simp only[ir,aA,am,a_,eJ,Nat.reduceAdd,a_,eH,zp];have e:ma s lat n=⟨n.ah.map (uv s lat),Aw s n.aj⟩:=by rw[ma,aB h1]
   refine aN rfl (sj bp) ⟨by rw[e];rfl,rfl⟩
def agL:aT prog 58 (sq [rg 5 [ox 2 2 0,ox 3 17 1,oR 4 jt,oz 2],sq [rg 9 [fo 0 3,nB .lss 8,gB,fo 0 3,nB .gtr 10,gZ,gB,ol 17 3,oC 113 [18],nn,gZ,gB,ol 2 2,ol 17 3,oC 55 [23,24],ow 0 25,nB .neq 0,gZ],cr 28 29 [oY jt [],o2 18 4,oU 5 2]],rg 31 [ol 2 2,of 2 3,nF 0,oC 76 [31,34],o1 30,oe 30 0,oe 30 1,ot 6 36,o1 7],rg 38 [fo 0 3,om 6,oY jt [(0,1,.s 39),(1,1,.s 40)],oR 8 jt,o2 18 8],sq [rg 42 [fo 0 3],.block 0 (sq [rg 45 [oB .eql 43 8,o1 44],cd 44 (sq [rg 47 [ol 2 2,om 6,of 7 3,nl 5,oC 114 [47,48,50],o1 46,oe 46 0,oe 46 1,of 2 8,os 1 54 52],rg 55 [ol 2 2,om 6,of 12 3,nl 5,oC 115 [55,56,58],of 3 8,os 9 60 59]]) (sq [rg 62 [oB .eql 43 9,o1 61],cd 61 (dg 63 [ol 2 2,om 6,of 7 3,nl 5,oC 116 [63,64,66],mM [0],ol 2 2,om 6,of 12 3,mM [0],nl 5,oC 116 [68,69,71],of 12 8,os 2 73 67,of 14 8,os 2 74 72]) (sq [rg 76 [oB .eql 43 10,o1 75],ci 75 (dg 77 [om 7,of 1 2,mM [1],no,om 7,nA 3 79,nf 2,mM [1],no,of 4 3,mM [1,2],no,nI 2 0,nf 0,mM [1,2],no,of 16 8,os 1 89 77,of 1 8,os 1 90 83,of 17 8,os 1 91 88])])])])],rg 92 [ol 18 8,o2 18 4,oV 5 (.bool aa)],.ret]) [.cell 4 aa 18,.tmp 5] 93:=aX func58
def yX(s:aI)(c:aq):V:=.bq [.agg (if jw s c then lT s c else .zero).enc,.bool (jw s c)]
def adr(s:aI)(c:aq)(hs:s.ok)(hg:TZ D)(kJ:D.bO 0=U fL)(hn:c.aj.length+1<=aM)(hp:c.bh.length+1<=aM)(hl:c.left.cw<=100000)(hr:c.right.cw<=100000)(zI:c.left.wt<=aM)(wg:c.right.wt<=aM):
 bc 58 [.agg s.enc,.agg c.enc] D (yX s c):=by
 have no:∀(t:List V) (lo:List (List V)),jw s c=ak->mP (λv σ' => v=yX s c/\σ' = D) ⟨t,lo,D⟩ (.bq [.agg (cy 0 0 (.sl .aW 10 []) .zero (.sl .aW 10 []) 0 (.sl .aW 10 []) 0 0 []),.bool ak]):=λt lo h=>by
  refine aN (by simp only[V.cG,bH,vp];exact Fs rfl rfl rfl) (ag.bd _) ⟨?_,rfl⟩;rw[yX,h];simp only[V.erase,bw,Fq];rfl
 have yes:∀(t:List V) (lo:List (List V)) (op lat:Int) (cd:V) (to:bF) (fa:V) (ta:Int) (fb:V) (tb v:Int) (f:List UInt8),jw s c=aa->cd.cG=aa->fa.cG=aa->fb.cG=aa->cy op lat cd.erase to fa.erase ta fb.erase tb v f=(lT s c).enc->mP (λv σ' => v=yX s c/\σ' = D) ⟨t,lo,D⟩ (.bq [.agg (cy op lat cd to fa ta fb tb v f),.bool aa]):=λt lo op lat cd to fa ta fb tb v f h n1 n2 n3 hx=>by
  refine aN (by simp only[V.cG,bH,vp];exact Fs n1 n2 n3) (ag.bd _) ⟨?_,rfl⟩;rw[yX,h];simp only[V.erase,bw,Fq,hx];rfl
 refine agL.aV ?_;simp only[aU,am,a8,Nat.reduceAdd,aI.an,jt,df,eQ]
 by_cases o1:c.op<8
 .simp only[am,lj,aP o1];exact no _ _ (by simp[jw];omega)
 simp only[am,eQ,aK o1]
 by_cases o2:10<c.op
 .simp only[am,lj,aP o2];exact no _ _ (by simp[jw];omega)
 simp only[am,df,aK o2];refine cl (aaM c kJ hn hp zI wg) ?_;cases hq:c.fq with
 | false =>
  simp only[am,lj];exact no _ _ (by simp[jw,hq])
 | true =>
  simp only[am,aI.an,df];refine cl (Q4 s c hs hg hl hr zI wg) ?_;simp only[am,aL.an]
  by_cases hf:(jJ s c).cls=0
  case neg =>
   simp only[am,lj,aK hf];exact no _ _ (by simp[jw,hf])
  have hA:jw s c=true:=by simp only[jw,hq,hf,bS,vp,bA,b7];omega
  have hF:=LI.1 hA;simp only[am,aI.an,cL,aP hf];refine cl (vd s c.name.al D hs.1 hs.2.1) ?_;simp only[am,Nat.reduceAdd,lj,eQ,yY (op:=c.op) (lat:=de (iq s.bu c.name.al)) (c:=.sl .aW 10 []) (to:=.zero) (fa:=.sl .aW 10 []) (ta:=0) (fb:=.sl .aW 10 []) (tb:=0) (v:=0) (f:=[]) rfl rfl rfl]
  by_cases h8:c.op=8
  .simp only[am,aI.an,Nd.an,cL,aP h8];obtain⟨k,hk,az⟩:=hF.cJ (.inl h8);have jR : de (iq s.bu c.name.al)=(k:Nat):=hk;rw[jR];refine cl (aab s k c.left hg hs zI (by omega)) ?_;simp only[am,aI.an,lj,Nd.an,cL,Jq];refine cl (QW s k c.right hs hg az ?_ (by omega) wg) ?_
   .rcases hF.right h8 with h | h
    .exact .inl h
    .exact .inr (by rw[DQ (hF.labels h8).2 h];omega)
   simp only[am,bF.an,lj,yY (op:=c.op) (lat:=k) (c:=.sl .no 10 (((ml s k c.left).getD []).map bt.enc)) (to:=qD s k c.right) (fa:=.sl .aW 10 []) (ta:=0) (fb:=.sl .aW 10 []) (tb:=0) (v:=0) (f:=[]) rfl rfl rfl];refine yes _ _ _ _ _ _ _ _ _ _ _ _ hA rfl rfl rfl ?_;rw[lT,aD h8,hk,h8];rfl
  simp only[am,aK h8]
  by_cases h9:c.op=9
  .simp only[am,aI.an,Nd.an,cL,aP h9];obtain⟨k,hk,az⟩:=hF.cJ (.inr h9);have jR : de (iq s.bu c.name.al)=(k:Nat):=hk;rw[jR];obtain⟨q1,q2⟩:=hF.rows h9;refine bJ.intro (Rq s k c.left hs hg az (HS q1) (Vw q1) (by omega) zI) ?_;simp only[am,aI.an,Nd.an,cL];refine bJ.intro (Rq s k c.right hs hg az (HS q2) (Vw q2) (by omega) wg) ?_;simp only[am,aI.an,ek.an,lj,cL,yY (op:=c.op) (lat:=k) (c:=.sl .aW 10 []) (to:=.zero) (fa:=.sl .no 10 ((ma s k c.left).fs.map bU.enc)) (ta:=(ma s k c.left).tail) (fb:=.sl .no 10 ((ma s k c.right).fs.map bU.enc)) (tb:=(ma s k c.right).tail) (v:=0) (f:=[]) rfl rfl rfl];refine yes _ _ _ _ _ _ _ _ _ _ _ _ hA rfl rfl rfl ?_;rw[lT,aB h8,aD h9,hk,h9];rfl
  have iH:c.op=10:=by omega
  simp only[am,aI.an,aK h9,aP iH];obtain⟨v,hv,GS,rY⟩:=hF.var iH;obtain⟨w,hw,_⟩:=hF.one iH;rw[GS];simp only[Int.reduceNeg,de];refine ix (EC hv) ?_;simp only[am,Int.reduceNeg,aI.an,cL];have GU:0<c.aj.length:=by rw[hw];simp
  refine qY (n:=0) (by omega) (AF (l:=c.aj) (j:=0) GU) ?_;simp only[am,Int.reduceNeg,wS,aI.an,lj,cL,yY (op:=c.op) (lat:=s.vars[v].lat) (c:=.sl .aW 10 []) (to:=.zero) (fa:=.sl .aW 10 []) (ta:=0) (fb:=.sl .aW 10 []) (tb:=0) (v:=v) (f:=c.aj[0].al) rfl rfl rfl];refine yes _ _ _ _ _ _ _ _ _ _ _ _ hA rfl rfl rfl ?_;rw[lT,aB h8,aB h9,GS,W2,cH hv,qM GU,iH];rfl
theorem ahb:bW 1 (qK.drop 1)=true:=rfl
def ahc:setAt qK 1 [.sl .no 1 (cO l)]=(⟨0,l,.zero⟩:bn).enc:=by
 rw[bn.enc,show qK = .int .i64 0::.sl .aW 1 []::Rl.zero.enc by rw[<-Rl.wF];rfl,jl,lM,oD,l8]
section
variable {f:bn}
theorem adv:bW 1 f.enc=true:=rfl
def ady{k:Int}:over f.enc [.int .i64 k]=(⟨k,f.aj,f.rel⟩:bn).enc:=by rw[bn.enc,oD,l8];rfl
def adx:bW 65 (f.enc.drop 2)=true:=Rl.gi
def adA{r:Rl}:setAt f.enc 2 r.enc=(⟨f.kind,f.aj,r⟩:bn).enc:=by rw[bn.enc,jl,jl,lM,Rl.fO];rfl
def CX:=af @ahb <| af @ahc <| af @adv <| af @ady <| af @adx <| af @adA @bn.XA
end
def agP:aT prog 73 (sq [rg 2 [oz 2],rg 3 [om 0,nB .geq 1,gA,om 0,nB .leq 5,gZ,o1 2],.ret]) [.tmp 2] 9:=aX func73
def agR:aT prog 75 (sq [rg 2 [oz 2],rg 3 [om 0,nB .eql 6,gB,om 0,nB .eql 7,gZ,o1 2],.ret]) [.tmp 2] 9:=aX func75
def ad4:aT prog 103 (sq [rg 6 [om 0,mk 0,nf 2,nf 2,nF 0,oC 171 [6,12],o1 5,oe 5 0,oe 5 1,ot 2 14,o1 3],rg 16 [mk 0,nf 2,nf 2,nF 1,o1 4],sq [rg 22 [mk 0,nf 2,nF 0,oC 73 [26]],cr 27 28 [om 0,om 3,om 4,oc 172 [.s 28,.s 29,.c (.int .i64 3),.s 30]]],rg 32 [om 0,om 3,nn,om 4,oc 172 [.s 32,.s 34,.c (.int .i64 3),.s 35]],rg 37 [om 0,om 3,gA,om 2,nn,gZ,om 4,oc 172 [.s 37,.s 42,.c (.int .i64 4),.s 43]]]) [] 45:=aX func103
def ad5:aT prog 104 (sq [rg 8 [mk 0,nf 2,nF 4,oC 138 [12],o1 2],rg 14 [mk 0,nf 2,nF 4,nL,oi 0],lp 19 0 (sq [rg 22 [om 20,oA 2 18 20,nl 2,oZ 4 [1,0],ot 3 22,o2 2 4],rg 26 [om 0,fo 0 4,oC 171 [26,28],o1 25,oe 25 0,oe 25 1,ot 5 30,o1 6],sq [rg 32 [mk 0,nf 2,nF 0,nB .eql 3],ci 37 (sq [rg 38 [om 0,om 6,nn,fo 1 4,oc 172 [.s 38,.s 40,.c (.int .i64 3),.s 42]],rg 44 [om 0,om 6,gA,om 5,nn,gZ,fo 1 4,oc 172 [.s 44,.s 49,.c (.int .i64 4),.s 51]],(.exit 1)])],dg 53 [om 2,om 3,oq (.kv 1 (.s 53) ae (U (.s 54)) ae),fo 0 4,oC 173 [55,57],nB .geq 0,o1 7],dg 60 [om 0,om 7,nm,oh 62 (om 0),oh 62 (nk),oh 62 (nf 2),oh 62 (nf 0),oh 62 (no),oh 62 (oC 75 [67]),oh 62 (nm),og 69 (om 6),oh 62 (oy 69 70),oq (.pick (.s 62) (.c (.bool aa)) (.s 71)),of 1 4,mM [0],no,oc 172 [.s 60,.s 72,.c (.int .i64 3),.s 74]]]) 76]) [] 77:=aX func104
def aeJ:aT prog 171 (sq [rg 4 [oz 2,oz 2],rg 9 [mk 0,nf 0,nl 2,om 1,oC 76 [12,13],o1 8,oe 8 0,oe 8 1,ot 6 15,o1 7],rg 17 [om 6,nB .geq 0,om 6,nB .geq 0,gB,om 7,nB .geq 0,gZ,ot 4 18,o1 5],.ret]) [.tmp 4,.tmp 5] 25:=aX func171
def aeK:aT prog 172 (sq [rg 8 [om 1],ci 8 (rg 9 [om 0,mk 0,nF 19,om 2,om 3,oW [0,0] [(0,1,14),(1,1,15)],n1 2,na 2 13,ok 9,nf 19,os 1 20 18])]) [] 21:=aX func172
def qj(D:ag)(b Z:Nat)(l:List aL)(s:aI)(c:aq)(x y:Int)(is:Bool)(hl:l.length<=100000000) :
 dn 172 [.ptr (.out b) 0,.bool is,.int .i64 x,.int .i64 y] (dX D b Z l s c) (.bq []) (dX D b Z (l++dK is x y) s c):=by
 refine aeK.aV ?_;simp only[aU,am,a8,Nat.reduceAdd];cases is with
 | false =>
  simp only[am];exact aN rfl (ag.bd _) ⟨rfl,by simp[dK]⟩
 | true =>
  simp only[am,Nat.reduceAdd,iS];refine jI (by simp[aM];omega) (by rw[aO];exact Tc) ?_;simp only[am,aO,aO,iS,gv,ajs];exact aN rfl (ag.bd _) ⟨rfl,by simp[dK]⟩
variable{o:Option Nat}
def MF:decide (0<=de o)=o.isSome:=by cases o<;>simp[de]
def ana:decide (de o<0)=o.isNone:=by cases o with
 | none=>rfl
 | some k=>exact aK (by simp only[de];omega)
def S7(D:ag)(b Z:Nat)(l:List aL)(s:aI)(c:aq)(t:List UInt8)(hs:s.ok) :
 dn 171 [.ptr (.out b) 0,.aF t] (dX D b Z l s c) (.bq [.bool (r5 s t),.bool (gJ s t)]) (dX D b Z l s c):=by
 refine aeJ.aV ?_;simp only[aU,am,a8,Nat.reduceAdd,aI.an,iS];refine cl (vd s t _ hs.1 hs.2.1) ?_;simp only[am,MF];cases hL:(iq s.bu t).isSome with
 | true =>
  simp only[am];refine aS ?_;simp[V.erase,bw,r5,gJ,hL]
 | false =>
  simp only[am,MF];refine aS ?_;simp[V.erase,bw,r5,gJ,hL]
def LW(op:Int)(D:ag):bc 73 [.int .i64 op] D (.bool (lY op)):=by
 refine agP.aV ?_;simp only[aU,am,a8,Nat.reduceAdd]
 by_cases h:1<=op
 .simp only[am,aP h];refine aS ?_;simp[V.erase,lY,h]
 .simp only[am,aK h];refine aS ?_;simp[V.erase,lY,h]
def EB(op:Int)(D:ag):bc 75 [.int .i64 op] D (.bool (ny op)):=by
 refine agR.aV ?_;simp only[aU,am,a8,Nat.reduceAdd]
 by_cases h:op=6
 .simp only[am,aP h];refine aS ?_;simp[V.erase,ny,h]
 .simp only[am,aK h];refine aS ?_;simp[V.erase,ny,h]
def ajf(D:ag)(b Z:Nat)(l:List aL)(s:aI)(c:aq)(hs:s.ok)(hl:l.length<=90000000) :
 dn 103 [.ptr (.out b) 0] (dX D b Z l s c) (.bq []) (dX D b Z (l++qR s c) s c):=by
 refine ad4.aV ?_;simp only[aU,am,a8,Nat.reduceAdd,iS];refine cl (S7 D b Z l s c c.name.al hs) ?_;simp only[am,Nat.reduceAdd,iS];refine cl (LW c.op _) ?_;cases h5:lY c.op with
 | true =>
  simp only[am];refine cl (qj D b Z l s c 3 c.name.pos (gJ s c.name.al) (by omega)) ?_;simp only[am];exact aN rfl (ag.bd _) ⟨rfl,by rw[qR,aD h5]⟩
 | false =>
  have e:qR s c=dK (!gJ s c.name.al) 3 c.name.pos++dK (gJ s c.name.al&&!r5 s c.name.al) 4 c.name.pos:=by rw[qR,h5];rfl
  have hlen:=@rm (!gJ s c.name.al) 3 c.name.pos;simp only[am];refine cl (qj D b Z l s c 3 c.name.pos (!gJ s c.name.al) (by omega)) ?_;cases hv:gJ s c.name.al with
  | true =>
   rw[hv] at hlen e;simp only[am];refine cl (qj D b Z (l++dK (!aa) 3 c.name.pos) s c 4 c.name.pos (!r5 s c.name.al) (by rw[bI];omega)) ?_;simp only[am];exact aN rfl (ag.bd _) ⟨rfl,by rw[e,dZ,pW];rfl⟩
  | false =>
   rw[hv] at hlen e;simp only[am];refine cl (qj D b Z (l++dK (!ak) 3 c.name.pos) s c 4 c.name.pos ak (by rw[bI];omega)) ?_;simp only[am];exact aN rfl (ag.bd _) ⟨rfl,by rw[e,dZ,OC];rfl⟩
def aji(D:ag)(b Z:Nat)(l:List aL)(s:aI)(c:aq)(hs:s.ok)(hl:l.length<=80000000)(hn:c.aj.length<=100000) :
 dn 104 [.ptr (.out b) 0] (dX D b Z l s c) (.bq []) (dX D b Z (l++kV s c c.aj.length) s c):=by
 refine ad5.aV ?_;simp only[aU,am,a8,Nat.reduceAdd,iS];refine cl (H4 c.aj _ (by omega)) ?_;simp only[am,Nat.reduceAdd,aO,aO,iS];have hw:(du c.aj).length=c.aj.length:=AI;refine eb (c.aj.length) (λi (x:Unit)=>⟨[.ptr (.out b) 0,.any,.sl .no 1 (cO (du c.aj)),.any,.any,.any,.any,.any,.any,.any,.any,.any,.any,.any,.any,.any,.any,.any,.sl .no 2 (c.aj.map au.enc),.int .i64 (c.aj.length:Nat),.int .i64 (i:Nat)]++aA 56 .any,[],dX D b Z (l++kV s c i) s c⟩) (λi x=>(True)) λF hF JF br=>⟨?_,?_,?_⟩
 .refine en br (()) (trivial) ?_ ?_ ?_
  all_goals simp[hF,aA,am,bZ,kV]
 .rintro i x hi -;have hN:=@Mt s c i;have hS:=@Uj s c i;have hg:c.aj.getD i ⟨[],0⟩=c.aj[i]:=by simp[gU,hi]
  simp only[hF,aA,am,eE hi];refine ix (AF hi) ?_;simp only[am,au.an,wS];refine cl (S7 D b Z (l++kV s c i) s c c.aj[i].al hs) ?_;simp only[am,iS]
  by_cases h3:c.op=3
  .have e:r8 s c i=dK (!gJ s c.aj[i].al) 3 c.aj[i].pos++dK (gJ s c.aj[i].al&&!r5 s c.aj[i].al) 4 c.aj[i].pos:=by rw[r8];simp only[hg];rw[aD h3]
   have hlen:=@rm (!gJ s c.aj[i].al) 3 c.aj[i].pos;simp only[am,sk,aP h3];refine cl (qj D b Z (l++kV s c i) s c 3 c.aj[i].pos (!gJ s c.aj[i].al) (by rw[bI];omega)) ?_;cases hv:gJ s c.aj[i].al with
   | true =>
    rw[hv] at hlen e;simp only[am,sk];refine cl (qj D b Z (l++kV s c i++dK (!aa) 3 c.aj[i].pos) s c 4 c.aj[i].pos (!r5 s c.aj[i].al) (by simp only[bI];omega)) ?_;simp only[am,a_,reduceCtorEq,cT hi];rw[pW] at e;refine fN (()) hi ?_ ?_ ?_ ?_ ?_ ?_
    .exact eN (br _ _) (trivial)
    all_goals simp[hF,aA,am,bZ,bQ,dC,V.lo,hS,e]
   | false =>
    rw[hv] at hlen e;simp only[am,sk];refine cl (qj D b Z (l++kV s c i++dK (!ak) 3 c.aj[i].pos) s c 4 c.aj[i].pos ak (by simp only[bI];omega)) ?_;simp only[am,a_,reduceCtorEq,cT hi];rw[OC] at e;refine fN (()) hi ?_ ?_ ?_ ?_ ?_ ?_
    .exact eN (br _ _) (trivial)
    all_goals simp[hF,aA,am,bZ,bQ,dC,V.lo,hS,e]
  .have e:r8 s c i=dK ((gY ((du c.aj).take i) c.aj[i].al).isSome||(ny c.op&&gJ s c.aj[i].al)) 3 c.aj[i].pos:=by rw[r8];simp only[hg];rw[aB h3]
   simp only[am,cF,aK h3];refine Wt (b:=i) (by rw[gO];omega) ?_;rw[VW];simp only[am,wS];refine bJ.intro (vP ((du c.aj).take i) c.aj[i].al _ (by rw[iP];omega)) ?_;simp only[am,MF];cases hf:(gY ((du c.aj).take i) c.aj[i].al).isSome with
   | true =>
    rw[hf] at e;simp only[am,sk];refine bJ.intro (qj D b Z (l++kV s c i) s c 3 c.aj[i].pos aa (by rw[bI];omega)) ?_;simp only[am,a_,sk,cT hi];rw[Bool.true_or] at e;refine fN (()) hi ?_ ?_ ?_ ?_ ?_ ?_
    .exact eN (br _ _) (trivial)
    all_goals simp[hF,aA,am,bZ,bQ,dC,V.lo,hS,e]
   | false =>
    rw[hf,EN] at e;simp only[am,iS];refine bJ.intro (EB c.op _) ?_;cases hv:ny c.op with
    | true =>
     rw[hv,pW] at e;simp only[am,sk];refine bJ.intro (qj D b Z (l++kV s c i) s c 3 c.aj[i].pos (gJ s c.aj[i].al) (by rw[bI];omega)) ?_;simp only[am,a_,sk,cT hi];refine fN (()) hi ?_ ?_ ?_ ?_ ?_ ?_
     .exact eN (br _ _) (trivial)
     all_goals simp[hF,aA,am,bZ,bQ,dC,V.lo,hS,e]
    | false =>
     rw[hv,OC] at e;simp only[am,sk];refine bJ.intro (qj D b Z (l++kV s c i) s c 3 c.aj[i].pos ak (by rw[bI];omega)) ?_;simp only[am,a_,sk,cT hi];refine fN (()) hi ?_ ?_ ?_ ?_ ?_ ?_
     .exact eN (br _ _) (trivial)
     all_goals simp[hF,aA,am,bZ,bQ,dC,V.lo,hS,e]
 .rintro x -;simp only[hF,aA,am,a_,eJ,a_];exact aN rfl (ag.bd _) ⟨rfl,rfl⟩
def agH:aT prog 54 (sq [rg 0 [ox 2 2 0,ox 3 17 1,oZ 4 [0,0]],sq [rg 6 [fo 0 3,oC 73 [7],nn,gA,fo 0 3,oC 75 [12],nn,gZ],cr 15 16 [oW [0,0] [],o2 2 4]],rg 17 [ol 2 2,ol 17 3,oW [8,8,0,0,1,0,7,9,0,0,0,1,7,10,0,0,1,7,10,7] [(0,2,17),(2,17,18)],oq (.fZ 20 (.s 19)),o1 5],.o7 (rg 21 [om 5,oC 103 [21]]),rg 23 [om 5,oC 104 [23]],rg 25 [om 5,oC 105 [25]],rg 27 [om 5,oC 106 [27]],rg 29 [mk 5,nF 19,oC 57 [32],o2 2 4],.ret]) [.cell 4 aa 2] 34:=aX func54 ⟨[20],[4]⟩
def ad6:aT prog 105 (sq [rg 0 [od (U 1) (.fZ 1 (.s 0))],rg 6 [oo 1,nk,nf 2,nF 4,oC 138 [10],od (U 2) (.pe [(.sl .aW 1 [])]),o2 1 2],rg 12 [oq (.jx (.func 174) [] [(.s 1),(.s 2)]),o1 3],sq [rg 13 [oo 1,nk,nf 2,nF 5,nL,oi 0],lp 18 0 (sq [rg 21 [oA 4 17 19,nl 4,oZ 5 [1,0,1,0],o2 4 5],rg 23 [om 3,oQ 2 2 5 0,nl 2,oq (.ij (.s 23) [(.s 25)])],rg 27 [om 3,oQ 2 2 5 1,nl 2,oq (.ij (.s 27) [(.s 29)])]]) 31],rg 32 [oo 1,nk,nf 2,nF 0,nB .eql 5,gA,oo 2,nL,nB .leq 64,gZ],ci 42 (dg 43 [mM [1,2],oo 1,oo 1,nk,nf 2,nl 17,oC 139 [47],oC 175 [48],nn,mM [0,1],oo 1,nk,nf 2,nf 6,mM [0,1],no,oc 172 [.s 43,.s 50,.c (.int .i64 5),.s 55]])]) [] 57:=aX func105 ⟨[1,2],[]⟩
def ad7:aT prog 106 (sq [rg 4 [mk 0,nf 2,nF 4,nL,o1 2,oj 3 64],sq [rg 10 [mk 0,nf 2,nF 0],.block 0 (sq [sq [rg 16 [oB .eql 14 6,o1 15],cd 15 .skip (rg 17 [oB .eql 14 7,o1 15])],cd 15 (sq [dg 18 [om 0,om 2,mk 0,nf 0,nF 1,nL,oq (.eD .sub (.c (.int .i64 64)) (.s 25)),nb .gtr 19,mk 0,nf 2,nF 1,oc 172 [.s 18,.s 27,.c (.int .i64 7),.s 32]],.ret]) (sq [rg 35 [oB .eql 14 4,o1 34],cd 34 (rg 3 [oi 8]) (sq [rg 37 [oB .eql 14 3,o1 36],ci 36 (dg 38 [mk 0,nf 0,nl 2,mk 0,nf 2,nl 17,oC 140 [41,45],ow 1 46,nL,o1 2,oj 3 8])])])])],dg 49 [om 0,om 2,om 3,nb .gtr 50,gB,mk 0,nf 0,nF 0,nL,nB .geq 16,gZ,mk 0,nf 2,nF 1,oc 172 [.s 49,.s 61,.c (.int .i64 7),.s 66]]]) [] 68:=aX func106
def aeM:aT prog 174 (sq [rg 0 [ox 3 2 0],dg 4 [mM [1],oo 1,oo 2,fo 0 3,oC 173 [5,7],nB .lss 0,of 1 3,mM [0],no,oc 172 [.s 4,.s 9,.c (.int .i64 3),.s 11]]]) [] 13:=aX func174
def S8(D:ag)(b Z b1 b2:Nat)(l:List aL)(s:aI)(c:aq)(w:au)(n1:b1≠b)(n2:b2≠b)(h1:D.box b1=U [.ptr (.out b) 0])(h2:D.box b2=U [.sl .no 1 (cO (du c.aj))])(hl:l.length<=90000000)(hn:c.aj.length<=100000) :
 dn 174 [.agg w.enc,.ptr (.out b1) 0,.ptr (.out b2) 0] (dX D b Z l s c) (.bq []) (dX D b Z (l++r9 c w) s c):=by
 have e1:(dX D b Z l s c).box b1=U [.ptr (.out b) 0]:=by rw[wo n1];exact h1
 have e2:(dX D b Z l s c).box b2=U [.sl .no 1 (cO (du c.aj))]:=by rw[wo n2];exact h2
 refine aeM.aV ?_;simp only[aU,am,a8,Nat.reduceAdd,au.an];simp only[am,wS,e1,e2];refine bJ.intro (vP (du c.aj) w.al _ (by rw[AI];omega)) ?_;simp only[am,sk,ana];refine bJ.intro (qj D b Z l s c 3 w.pos (gY (du c.aj) w.al).isNone (by omega)) ?_;simp only[am,sk,e1];exact aN rfl (ag.bd _) ⟨rfl,rfl⟩
def aoa{i:Nat}(hi:i<c.bh.length):(c.bh.take (i+1)).flatMap (pN c)=(c.bh.take i).flatMap (pN c)++(r9 c c.bh[i].1++r9 c c.bh[i].2):=by rw[jr hi,yN];simp[pN]
def ajr(D:ag)(b Z:Nat)(l:List aL)(s:aI)(c:aq)(hg:TZ D)(hl:l.length<=80000000)(hn:c.aj.length<=100000)(hp:c.bh.length<=100000) :
 dn 105 [.ptr (.out b) 0] (dX D b Z l s c) (.bq []) (dX D b Z (l++sc c++qk c) s c):=by
 have fresh:∀{x:Nat} {cY:ag},(dX cY b Z l s c).box x=ae->x≠b:=λ{x cY} h=>by rintro rfl;rw[LJ] at h;simp at h
 refine ad6.aV ?_;simp only[aU,am,a8,Nat.reduceAdd];intro b1 fg;have n1:=fresh fg;rw[wo n1] at fg;simp only[am,Nat.reduceAdd];rw[Tb n1];have e1:(dX (D.set b1 [.ptr (.out b) 0]) b Z l s c).box b1=U [.ptr (.out b) 0]:=by rw[wo n1,gP]
 simp only[am,iS];refine cl (H4 c.aj _ (by omega)) ?_;simp only[am];intro b2 dw;have n2:=fresh dw;rw[wo n2] at dw;have Mm:b1≠b2:=by rintro rfl;rw[gP] at dw;simp at dw
 rw[mE Mm.symm] at dw;simp only[am];rw[Tb n2];have f1:((D.set b1 [.ptr (.out b) 0]).set b2 [.sl .no 1 (cO (du c.aj))]).box b1=U [.ptr (.out b) 0]:=by rw[mE Mm,gP]
 have f2:((D.set b1 [.ptr (.out b) 0]).set b2 [.sl .no 1 (cO (du c.aj))]).box b2=U [.sl .no 1 (cO (du c.aj))]:=gP;have pA:∀{L:List aL},(dX D b Z L s c).sub (dX ((D.set b1 [.ptr (.out b) 0]).set b2 [.sl .no 1 (cO (du c.aj))]) b Z L s c):=λ{L}=>ag.B6 (Ta n1 fg) (Ta n2 (by rw[mE Mm.symm];exact dw))
 generalize uQ:(D.set b1 [V.ptr (Pl.out b) 0]).set b2 [V.sl .no 1 (cO (du c.aj))]=fQ at f1 f2 pA;have v7:TZ fQ:=by rw[<-uQ];exact hg
 have g1:∀{L:List aL},(dX fQ b Z L s c).box b1=U [.ptr (.out b) 0]:=λ{L}=>by rw[wo n1];exact f1
 have g2:∀{L:List aL},(dX fQ b Z L s c).box b2=U [.sl .no 1 (cO (du c.aj))]:=λ{L}=>by rw[wo n2];exact f2
 simp only[am,Nat.reduceAdd,aO,aO,iS,g1];have hP:=λ(i:Nat)=>@U7 c (c.bh.take i)
 refine eb (c.bh.length) (λi (x:Unit)=>⟨[.any,.ptr (.out b1) 0,.ptr (.out b2) 0,.fn (.func 174) [] [.ptr (.out b1) 0,.ptr (.out b2) 0],.any,.any,.any,.any,.any,.any,.any,.any,.any,.any,.any,.any,.any,.sl .no 4 (c.bh.map e_),.int .i64 (c.bh.length:Nat),.int .i64 (i:Nat)]++aA 37 .any,[],dX fQ b Z (l++(c.bh.take i).flatMap (pN c)) s c⟩) (λi x=>(True)) λF hF JF br=>⟨?_,?_,?_⟩
 .exact en br (()) (trivial)
 .rintro i x hi -;have hPi:=hP i;rw[iP] at hPi;have hS:=aoa hi;have qg:(r9 c c.bh[i].1).length<=1:=rm;simp only[hF,aA,am,eE hi];refine ix (US hi) ?_;simp only[am,cF,Nat.reduceAdd,e_];refine kj ?_;simp only[am,Int.reduceToNat,Nat.reduceMul];refine cl (S8 fQ b Z b1 b2 (l++(c.bh.take i).flatMap (pN c)) s c c.bh[i].1 n1 n2 f1 f2 (by rw[bI];omega) hn) ?_;simp only[am,cF];refine kj ?_;simp only[am,Int.reduceToNat,Nat.reduceMul];refine cl (S8 fQ b Z b1 b2 (l++(c.bh.take i).flatMap (pN c)++r9 c c.bh[i].1) s c c.bh[i].2 n1 n2 f1 f2 (by simp only[bI];omega) hn) ?_;simp only[am,a_,cT hi];refine fN (()) hi ?_ ?_ ?_ ?_ ?_ ?_
  .exact eN (br _ _) (trivial)
  all_goals simp[hF,aA,am,bZ,bQ,dC,V.lo,hS]
 .rintro x -;have RX:=hP c.bh.length;rw[iP] at RX;have hw:((du c.aj).length:Int)=(c.aj.length:Nat):=by rw[AI]
  have Sy:(l++sc c).length<=90000000:=by rw[bI,sc];rw[eH] at RX;omega
  simp only[hF,aA,am,a_,eJ,a_,iS,eH,g1];have no:qk c=[]->dX D b Z (l++sc c++qk c) s c=dX D b Z (l++sc c) s c:=λh=>by rw[h,eg]
  by_cases h5:c.op=5
  case neg =>
   simp only[am,aK h5];exact aN rfl pA ⟨rfl,(no (by rw[qk,aB λh=>h5 h.1])).symm⟩
  simp only[am,gO,aP h5,g2,hw]
  by_cases Bl:c.aj.length<=64
  case neg =>
   simp only[am,aK (show ¬((c.aj.length:Nat):Int)<=64 by omega)];exact aN rfl pA ⟨rfl,(no (by rw[qk,aB λh=>Bl h.2])).symm⟩
  have e:qk c=dK (!ra (sd c)) 5 c.mC:=by rw[qk,aD ⟨h5,Bl⟩]
  simp only[am,iS,aP (show((c.aj.length:Nat):Int)<=64 by omega),g1,df];refine bJ.intro (Nf c _ (by omega) (by omega)) ?_;simp only[am,Rl.an];refine bJ.intro (Tm (sd c) v7) ?_;simp only[am,Nat.reduceAdd,iS,g1];refine bJ.intro (qj fQ b Z (l++sc c) s c 5 c.mC (!ra (sd c)) (by omega)) ?_;simp only[am,iS,g1];rw[<-e];exact aN rfl pA ⟨rfl,rfl⟩
def ajg(D:ag)(b Z:Nat)(l:List aL)(s:aI)(c:aq)(hs:s.uY)(hl:l.length<=90000000)(hn:c.aj.length<=100000) :
 dn 106 [.ptr (.out b) 0] (dX D b Z l s c) (.bq []) (dX D b Z (l++lZ s c) s c):=by
 have h1:=hs.1.1;have h2:=hs.1.2.1;have W5:IntKind.i64.wrap (64 - (s.vars.length:Int))=64 - (s.vars.length:Nat):=wrap_i64 (by omega) (by omega);refine ad7.aV ?_;simp only[aU,am,a8,Nat.reduceAdd,aO,iS];have pz:(c.op=6\/c.op=7)->(decide (c.op=6)=aa)\/(decide (c.op=6)=ak/\decide (c.op=7)=aa):=λh=>by
  by_cases k:c.op=6
  .exact .inl (aP k)
  .exact .inr ⟨aK k,aP (h.resolve_left k)⟩
 by_cases vV:c.op=6\/c.op=7
 .have e:lZ s c=dK (decide ((64:Int) - (s.vars.length:Nat)<(c.aj.length:Nat))) 7 c.pos:=by rw[lZ,aD vV]
  rcases pz vV with k | ⟨k,k2⟩
  case' inl=>simp only[am,Nat.reduceAdd,aO,aO,iS,k,W5]
  case' inr=>simp only[am,Nat.reduceAdd,aO,aO,iS,k,k2,W5]
  all_goals
   refine bJ.intro (qj D b Z l s c 7 c.pos (decide ((64:Int) - (s.vars.length:Nat)<(c.aj.length:Nat))) (by omega)) ?_;simp only[am];exact aN rfl (ag.bd _) ⟨rfl,by rw[e]⟩
 have e0:lZ s c=dK (decide ((if c.op=3 then(8:Int) else if c.op=4 then 8 else 64)<((if c.op=3 then(pO s c).bM.length else c.aj.length):Nat))||decide (16<=s.bu.length)) 7 c.pos:=by rw[lZ,aB vV]
 have Jy:decide ((16:Int)<=(s.bu.length:Nat))=decide (16<=s.bu.length):=rE.2 (by omega);simp only[am,aK (λh=>vV (.inl h)),aK (λh=>vV (.inr h))];have fin:∀(n:Nat) (m:Int),lZ s c=dK (decide (m<(n:Nat))||decide (16<=s.bu.length)) 7 c.pos->∀B:Bool,B=(decide (m<(n:Nat))||decide (16<=s.bu.length)) ->
  dn 172 [.ptr (.out b) 0,.bool B,.int .i64 7,.int .i64 c.pos] (dX D b Z l s c) (.bq []) (dX D b Z (l++lZ s c) s c):=λn m e B hB=>by
  rw[e,hB];exact qj D b Z l s c 7 c.pos _ (by omega)
 by_cases h4:c.op=4
 .have e:lZ s c=dK (decide ((8:Int)<(c.aj.length:Nat))||decide (16<=s.bu.length)) 7 c.pos:=by rw[e0,aB (by omega),aD h4,aB (by omega)]
  simp only[am,aP h4];cases hb:decide ((8:Int)<(c.aj.length:Nat)) with
  | true =>
   simp only[am,Nat.reduceAdd,iS];refine bJ.intro (fin _ _ e aa (by rw[hb];rfl)) ?_;simp only[am];exact aN rfl (ag.bd _) ⟨rfl,rfl⟩
  | false =>
   simp only[am,Nat.reduceAdd,aO,aO,iS,Jy];refine bJ.intro (fin _ _ e (decide (16<=s.bu.length)) (by rw[hb];rfl)) ?_;simp only[am];exact aN rfl (ag.bd _) ⟨rfl,rfl⟩
 simp only[am,aK h4]
 by_cases h3:c.op=3
 .have e:lZ s c=dK (decide ((8:Int)<((pO s c).bM.length:Nat))||decide (16<=s.bu.length)) 7 c.pos:=by rw[e0,aD h3,aD h3]
  simp only[am,aI.an,iS,aP h3,df];refine bJ.intro (U5 s c _ hs hn) ?_;simp only[am,aO,bC.an,aO];cases hb:decide ((8:Int)<((pO s c).bM.length:Nat)) with
  | true =>
   simp only[am,Nat.reduceAdd,iS];refine bJ.intro (fin _ _ e aa (by rw[hb];rfl)) ?_;simp only[am];exact aN rfl (ag.bd _) ⟨rfl,rfl⟩
  | false =>
   simp only[am,Nat.reduceAdd,aO,aO,iS,Jy];refine bJ.intro (fin _ _ e (decide (16<=s.bu.length)) (by rw[hb];rfl)) ?_;simp only[am];exact aN rfl (ag.bd _) ⟨rfl,rfl⟩
 .have e:lZ s c=dK (decide ((64:Int)<(c.aj.length:Nat))||decide (16<=s.bu.length)) 7 c.pos:=by rw[e0,aB h3,aB h4,aB h3]
  simp only[am,aK h3];cases hb:decide ((64:Int)<(c.aj.length:Nat)) with
  | true =>
   simp only[am,Nat.reduceAdd,iS];refine bJ.intro (fin _ _ e aa (by rw[hb];rfl)) ?_;simp only[am];exact aN rfl (ag.bd _) ⟨rfl,rfl⟩
  | false =>
   simp only[am,Nat.reduceAdd,aO,aO,iS,Jy];refine bJ.intro (fin _ _ e (decide (16<=s.bu.length)) (by rw[hb];rfl)) ?_;simp only[am];exact aN rfl (ag.bd _) ⟨rfl,rfl⟩
def Wa(s:aI)(c:aq)(hs:s.uY)(hg:TZ D)(hn:c.aj.length<=100000)(hp:c.bh.length<=100000):
 bc 54 [.agg s.enc,.agg c.enc] D (.agg (ku s c).enc):=by
 refine agH.aV ?_;simp only[aU,am,a8,Nat.reduceAdd,aI.an];simp only[am,df,eQ];refine cl (LW c.op _) ?_;have pz:(lY c.op=aa)\/(lY c.op=ak/\ny c.op=ak)\/(lY c.op=ak/\ny c.op=aa):=by
  cases lY c.op<;>cases ny c.op<;>simp
 rcases pz with h5 | ⟨h5,h6⟩ | ⟨h5,h6⟩
 case' inl=>simp only[am,aI.an,h5,df,Td]
 case' inr.inl =>
  simp only[am,h5,eQ];refine cl (EB c.op _) ?_;simp only[am,Nat.reduceAdd,h6];exact aN rfl (ag.bd _) ⟨by rw[ku,h5,h6];rfl,rfl⟩
 case' inr.inr =>
  simp only[am,h5,eQ];refine cl (EB c.op _) ?_;simp only[am,aI.an,h6,df,Td]
 all_goals
  have e:fS (vb s c)=ku s c:=by rw[ku,h5];first | rfl | rw[h6];rfl
  intro b hb;have hb:D.box b=none:=hb;simp only[am];refine bm.tok 0 λZ bp=>⟨_,_,(D.set b _).set b (jT Z [] s c),dY.rfl,rfl,λi c' hc=>⟨c',hc,dY.rfl⟩,pZ.set gP (by simp[jz,jT,n7]),?_⟩
  have bp:D.aJ Z=none:=bp;rw[ag.set_set,show(D.set b (jT Z [] s c)).aR Z 0=dX D b Z [] s c from rfl];have l1:=@aia s c;have l2:=@Mt s c c.aj.length;have l3:=@U7 c c.bh;have l4:=@ani c;have l5:=@ako s c;simp only[am];refine cl (ajf D b Z [] s c hs.1 (by simp)) ?_;simp only[am,fY];refine cl (aji D b Z (qR s c) s c hs.1 (by omega) hn) ?_;simp only[am];refine cl (ajr D b Z (qR s c++kV s c c.aj.length) s c hg (by rw[bI];omega) hn hp) ?_;simp only[am];refine cl (ajg D b Z (qR s c++kV s c c.aj.length++sc c++qk c) s c hs (by simp only[bI,sc];omega) hn) ?_;simp only[am,iS];refine cl (cm.eM (as' := [.sl .no 2 ((vb s c).map aL.enc)]) (yc (vb s c) _ (by simp only[vb,bI,sc];omega)) ⟨dE.no,trivial⟩ bN.rfl) ?_;simp only[am,aL.an];exact aN rfl (ajt hb bp) ⟨by rw[e];rfl,rfl⟩
def agQ:aT prog 74 (sq [rg 0 [ox 2 2 0,ox 3 17 1,oZ 4 [2,72]],rg 6 [fo 4 3,oC 138 [7],oY qK [(1,1,.s 8)],oR 5 qK,o2 67 5],sq [rg 10 [fo 0 3],.block 0 (sq [rg 14 [oB .eql 11 1,o1 13],cd 13 (rg 15 [of 0 5,od ae (.store 1 (.s 15) (.c (.int .i64 1)))]) (sq [rg 17 [oB .eql 11 2,o1 16],cd 16 (rg 18 [of 0 5,od ae (.store 1 (.s 18) (.c (.int .i64 2)))]) (sq [rg 20 [oB .eql 11 4,o1 19],cd 19 (rg 21 [ol 17 3,oC 139 [21],of 0 5,od ae (.store 1 (.s 23) (.c (.int .i64 3))),of 2 5,os 65 24 22]) (sq [rg 26 [oB .eql 11 5,o1 25],cd 25 (rg 27 [ol 17 3,oC 139 [27],of 0 5,od ae (.store 1 (.s 29) (.c (.int .i64 4))),of 2 5,os 65 30 28]) (sq [rg 32 [oB .eql 11 3,o1 31],cd 31 (sq [rg 33 [ol 2 2,ol 17 3,oC 140 [33,34],o2 2 4],.ret]) (sq [rg 12 [oW [2,72] [],o2 2 4],.ret])])])])])])],rg 36 [ol 67 5,oC 141 [36],o2 2 4],.ret]) [.cell 4 aa 2] 38:=aX func74
def aeo:aT prog 137 (sq [rg 0 [ox 1 2 0,oZ 2 [2,72]],rg 4 [ol 2 1,n1 2,oC 198 [5],oZ 3 [2,72],o2 2 3],rg 7 [fo 0 1,of 0 3,os 1 9 8],rg 10 [ol 2 3,o2 2 2],.ret]) [.cell 2 aa 2] 11:=aX func137
def aet:aT prog 141 (sq [rg 0 [ox 1 67 0,oZ 2 [2,72]],rg 3 [ol 67 1,oC 201 [3],n1 67,oW [2,72] [(1,1,5)],o2 2 2],.ret]) [.cell 2 aa 2] 7:=aX func141
def Hz(f:bn)(D:ag)(hf:f.aj.length<=100000):bc 141 [.agg f.enc] D (.agg (bC.mk ak [f]).enc):=by
 refine aet.aV ?_;simp only[aU,am,a8,Nat.reduceAdd,bn.an];refine cl (PZ f _ hf) ?_;simp only[am,Nat.reduceAdd,bn.an];exact aN rfl (ag.bd _) ⟨rfl,rfl⟩
def ap'(s:aI)(c:aq)(D:ag)(hs:s.uY)(hn:c.aj.length<=100000)(hp:c.bh.length<=100000):bc 74 [.agg s.enc,.agg c.enc] D (.agg (se s c).enc):=by
 have hw:∀(k:Int) (r:Rl),(⟨k,du c.aj,r⟩:bn).aj.length<=100000:=λk r=>by simp only[AI];exact hn
 refine agQ.aV ?_;simp only[aU,am,a8,Nat.reduceAdd,aI.an,df,cL];refine cl (H4 c.aj D hn) ?_;simp only[am,Nat.reduceAdd,bn.an,eQ,CX]
 by_cases h1:c.op=1
 .simp only[am,bn.an,aP h1,CX];refine cl (Hz _ D (hw _ _)) ?_;simp only[am,bC.an];exact aN rfl (ag.bd _) ⟨by rw[se,aD h1];rfl,rfl⟩
 by_cases h2:c.op=2
 .simp only[am,bn.an,aK h1,aP h2,CX];refine cl (Hz _ D (hw _ _)) ?_;simp only[am,bC.an];exact aN rfl (ag.bd _) ⟨by rw[se,aB h1,aD h2];rfl,rfl⟩
 by_cases h4:c.op=4
 .simp only[am,df,aK h1,aK h2,aP h4];refine cl (Nf c D hn hp) ?_;simp only[am,Rl.an,bn.an,CX];refine cl (Hz _ D (hw _ _)) ?_;simp only[am,bC.an];exact aN rfl (ag.bd _) ⟨by rw[se,aB h1,aB h2,aD h4];rfl,rfl⟩
 by_cases h5:c.op=5
 .simp only[am,df,aK h1,aK h2,aK h4,aP h5];refine cl (Nf c D hn hp) ?_;simp only[am,Rl.an,bn.an,CX];refine cl (Hz _ D (hw _ _)) ?_;simp only[am,bC.an];exact aN rfl (ag.bd _) ⟨by rw[se,aB h1,aB h2,aB h4,aD h5];rfl,rfl⟩
 by_cases h3:c.op=3
 .simp only[am,aI.an,df,aK h1,aK h2,aK h4,aK h5,aP h3];refine cl (U5 s c D hs hn) ?_;simp only[am,bC.an];exact aN rfl (ag.bd _) ⟨by rw[se,aB h1,aB h2,aB h4,aB h5,aD h3];rfl,rfl⟩
 .simp only[am,Nat.reduceAdd,aK h1,aK h2,aK h4,aK h5,aK h3];exact aN rfl (ag.bd _) ⟨by rw[se,aB h1,aB h2,aB h4,aB h5,aB h3];rfl,rfl⟩
def apS(s:bC)(D:ag)(hs:s.ok):bc 137 [.agg s.enc] D (.agg s.enc):=by
 refine aeo.aV ?_;simp only[aU,am,a8,Nat.reduceAdd,bC.an];refine cl (cm.eM (as' := [.sl .no 2 ([s].map bC.enc)]) (U6 [s] D (by simp) (λx hx=>by simp at hx;subst hx;exact hs) (by have:=hs.1;simp;omega)) ⟨dE.no,trivial⟩ bN.rfl) ?_;simp only[am,Nat.reduceAdd,bC.an];refine aN rfl (ag.bd _) ⟨?_,rfl⟩;simp only[BY,pY,OS,eg];rfl
end Go.Proofs.Tryz
