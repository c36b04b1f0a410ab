/-
  Part 7 of the proof of StackNobodyUptoCardSaid: a logic over the model, the forms of the functions that the law reaches, and what they compute.
-/
import Derived.Test.YtnpggmhoandloaaGreatDoorProg
import Derived.Test.YtnpggmhoandloaaGreatDoorNobody6
set_option linter.unusedVariables false
set_option linter.unusedSimpArgs false
set_option linter.defProp false
set_option linter.unusedSectionVars false
set_option maxRecDepth 4000
set_option maxHeartbeats 4000000
open Option renaming some->U,none->af
open Bool renaming true->aa,false->ak
open List renaming replicate->au,range->bU,getD->gU,zipWith->lq
open Eq renaming mpr->eQ
open Ne renaming symm->fi
namespace Go.Proofs.Tryz
open Go.Am
def aeq:aT prog 114 (sq [rg 6 [ox 3 2 0,ox 5 5 2,oz 15,oz 2],.scope (sq [sq [rg 15 [om 1,nB .lss 0,gB,om 1,fo 0 3,nL,nb .geq 18,gZ,gB,ol 5 5,oC 182 [25],nn,gZ],cr 28 6 [oz 15,oz 2]],rg 8 [oz 15],rg 29 [ol 5 5,oW [0,0,1,7,10,0] [(0,5,29)],nO (.new 6),o1 9],.skip,bl 0 (sq [sq [rg 32 [om 9,nO .len,nB .gtr 0],cx 34 0],.block 1 (sq [rg 35 [om 9,nO .len,nB .sub 1,o1 10],rg 38 [om 9,om 10,oO (.idx 6) [38,39],nl 6,oZ 11 [0,0,1,7,10,0],o2 6 11],rg 12 [oi 3],sq [rg 42 [of 0 11,nF 0],.block 2 (sq [sq [rg 46 [oB .eql 44 1,o1 45],cd 45 .skip (rg 47 [oB .eql 44 7,o1 45])],cd 45 (sq [rg 49 [ol 2 3,om 1,of 0 11,nl 5,oC 183 [49,50,52],o1 48,oe 48 0,oe 48 1,oR 13 xV,os 10 13 54,o1 14],sq [rg 56 [om 14,nn],cr 57 6 [oz 15,oz 2]],rg 58 [om 8,ol 10 13,n1 10,na 10 58,o1 8],rg 62 [om 9,om 10,oO (.kF 6 ak aa ak) [62,63],o1 9],(.exit 1)]) (sq [rg 66 [oB .eql 44 9,o1 65],ci 65 (rg 12 [oi 4])])])],sq [rg 67 [fo 5 11,of 0 11,nF 4,nL,nb .lss 68],ci 73 (sq [rg 74 [om 9,om 10,oO (.idx 6) [74,75],nF 5,nB .add 1,oO (.idx 6) [74,75],nf 5,os 1 81 79],rg 82 [om 9,of 0 11,nF 4,fo 5 11,nA 5 85,nl 5,oW [0,0,1,7,10,0] [(0,5,89)],n1 6,oO (.app 6) [82,91],o1 9],(.exit 1)])],rg 93 [om 8,om 12,of 0 11,nF 4,nL,oY xV [(0,1,.s 94),(1,1,.s 98)],n1 10,na 10 93,o1 8],rg 102 [om 9,om 10,oO (.kF 6 ak aa ak) [102,103],o1 9]])]),rg 6 [ot 105 8,om 105,oq (.mv (.c (.bool aa)))],.ret])]) [.tmp 6,.tmp 7] 106:=aW func114 ⟨[33,36,40,64,76,80,92,104,100031],[]⟩
def fT(f:Nd × Nat):List V:=f.1.enc++[.int .i64 (f.2:Nat)]
section
variable {m:Nd} {d k:Nat} {x0 x1 x2 x3 x4 x5:V}
def qM:fT (m,d)=[.int .i64 m.kind,.int .i64 m.pos,.aF m.an,.sl .no 2 (m.aj.map aA.enc),.sl .no 5 (m.ah.map Nd.enc),.int .i64 (d:Nat)]:=by rw[fT,Nd.df];rfl
def Bd:(fT (m,d)).length=6:=by rw[qM];rfl
def Ry:cC (fT (m,d))=true:=by rw[qM];rfl
def F6:bK (fT (m,d))=true:=by rw[qM];rfl
def ahi:bx (fT (m,d))=fT (m,d):=by rw[qM];rfl
def ahm:bS k (fT (m,d))=true:=by rw[qM];rfl
def aho:over [x0,x1,x2,x3,x4,x5] (fT (m,d))=fT (m,d):=by rw[qM];rfl
def ahk:bF ak 1 (fT (m,d))=U (.int .i64 m.kind):=by rw[qM];rfl
def ahl:bF ak 1 ((fT (m,d)).drop 4)=U (.sl .no 5 (m.ah.map Nd.enc)):=by rw[qM];rfl
def ahh:bF ak 1 ((fT (m,d)).drop 5)=U (.int .i64 (d:Nat)):=by rw[qM];rfl
def ahn:takeN 5 (fT (m,d))=U m.enc:=N0 Nd.cP
def ahg:over [x0,x1,x2,x3,x4,.int .i64 0] m.enc=fT (m,0):=by rw[qM,Nd.df];rfl
theorem ahj:bZ 5 [x0,x1,x2,x3,x4,x5]=true:=rfl
def ahp:setAt (fT (m,d)) 5 [.int .i64 (k:Nat)]=fT (m,k):=by rw[qM,qM];rfl
def vN:=ae @Bd <| ae @Ry <| ae @F6 <| ae @ahi <| ae @ahm <| ae @aho <| ae @ahk <| ae @ahl <| ae @ahh <| ae @ahn <| ae @ahg @ahj
end
structure CF(s:aH)(lat:Nat)(n:Nd)(Z:ag) where
 fs:List (Nd × Nat)
 out:List bw
 v:V
 tk:Tk
 st:ag
 fin:rJ s lat fs out=mX s lat n
 all:∀f∈fs,f.1.eY=aa/\f.1.wt<=n.wt/\f.1.cy<=n.cy
 mes:out.length+pI fs<=2*n.cy+1
 own:jM st 6 v (fs.reverse.map fT)
 sub:Cy Z st v
 gr:Gr Z st tk out.length
def BL(s:aH)(lat:Nat)(n:Nd)(out:List bw)(v:V)(tk:Tk)(Z:ag):St :=
 ⟨[.any,.int .i64 (lat:Nat),.any,.ptr (.aD 0) 0,.any,.ptr (.aD 1) 0,.any,.any,.sl tk 10 (out.map bw.enc),v]++au 96 .any,[s.enc,n.enc],Z⟩
variable{k:Nat}{Z:ag}
def MN{n:Nat}{v:V}{rows:List (List V)}(h:jM Z k v rows):v.lo n=true:=by obtain⟨a,cap,rfl,_⟩:=h;rfl
variable{σ':ag}
def UM{v:V}{rows:List (List V)}(h:jM Z k v rows)(e:σ'.box=Z.box):jM σ' k v rows:=h.frame λb cs _ hc=>by rw[e];exact hc
def ah0{dr:ag}{tk:Tk}{n:Nat}(h:Gr dr Z tk n)(hs:dr.sub σ')(e:σ'.aK=Z.aK):Gr dr σ' tk n:=⟨hs,h.tk.imp id λ⟨Y,a,b,c⟩=>⟨Y,a,by rw[e];exact b,c⟩⟩
def Ug:∀(fs:List (Nd × Nat)),fs.length<=pI fs
 | []=>bP _
 | f::fs=>by have:=Ug fs;simp only[pI,dd];omega
def atv:=ae @am <| ae @cF <| ae @a8 <| ae @Nd.al <| ae @aH.al @bw.al
def aap(s:aH)(lat:Int)(n:Nd)(hg:TZ Z)(hs:s.ok)(hw:n.wt<=aO)(hc:n.cy<=100000):
 a_ 114 [.agg s.enc,.int .i64 lat,.agg n.enc] Z (Jp (mw s lat n)):=by
 refine aeq.aS ?_;simp only[aR,atv,Nat.reduceAdd];have no:∀(u:List V) (l:List (List V)) (cN:ag),mw s lat n=af->Z.sub cN->mV (λv σ' => v=Jp (mw s lat n)/\σ' = Z) ⟨u,l,cN⟩ (.bt [.sl .aV 10 [],.bool ak]):=λu l cN h h' => by
  rw[h];exact aP rfl h' ⟨rfl,rfl⟩
 by_cases hn:lat<0
 .simp only[am,cF,aQ hn];exact no _ _ _ (by rw[mw,aC (by omega)]) (ag.bc _)
 .obtain⟨lat,rfl⟩:∃m:Nat,lat=m:=⟨lat.toNat,by omega⟩;simp only[am,aN,aH.al,aN,aM hn]
  by_cases mY:s.bu.length<=lat
  .simp only[am,cF,aQ (show(s.bu.length:Int)<=(lat:Nat) by omega)];exact no _ _ _ (by rw[mw,aC (by omega)]) (ag.bc _)
  .have aB:lat<s.bu.length:=by omega
   simp only[am,Nd.al,aM (show ¬(s.bu.length:Int)<=(lat:Nat) by omega)];refine cl (DR _ n Z (bP _) hw) ?_;cases hl:n.eY with
   | false =>
    simp only[am,cF];exact no _ _ _ (by rw[mw,hl,aC (by simp)]) (ag.bc _)
   | true =>
    have hR:=aa4 aB hl;simp only[am,pn,Nd.al,vN];refine jM.mk1 (c:=fT (n,0)) (by simp[x7,V.cells,Bd,F6,Ry,V.wd]) Bd F6 λv cN hO hS=>?_
    simp only[am];obtain⟨I,hI⟩:∃I:CF s lat n Z->St,∀p,I p=BL s lat n p.out p.v p.tk p.st:=⟨_,λ_=>rfl⟩;refine iG I (λp=>pI p.fs) ?_ ?_
    .refine bq.enter (I:=I) ⟨[(n,0)],[],v,.aV,cN,by simp only[rJ,VC];cases mX s lat n<;>rfl,by simp[hl],?_,by simpa using hO,hS,⟨hS.sub,.inl rfl⟩⟩ ?_ ?_ ?_
     .have:=Nd.sH n
      simp only[pI,II,eM];omega
     all_goals simp[hI,BL,au,am,bQ]
    .rintro⟨fs,out,v,tk,cN,sS,dp,GD,hO,hS,hG⟩;simp only[hI,BL,au,am,pn];have hml:=Ug fs;refine hO.len ?_;cases fs with
     | nil =>
      have e:mX s lat n=U out:=by rw[<-sS];rfl
      simp only[am,cF,List.reverse_nil,eR,eM,show decide ((0:Int)<((0:Nat):Int))=ak from rfl];exact aP rfl hG.sub ⟨by rw[hR,e];rfl,rfl⟩
     | cons f fs =>
      obtain⟨m,d⟩:=f;obtain⟨GF,xN,xM⟩:=dp (m,d) (by simp);simp only at GF xN xM;have fE:(List.map fT ((m,d)::fs).reverse).length=fs.length+1:=by simp
      have fu:(List.map fT ((m,d)::fs).reverse)[fs.length]?=U (fT (m,d)):=by simp
      have SY:(List.map fT ((m,d)::fs).reverse).take fs.length=List.map fT fs.reverse:=by simp
      have Dq:fs.length+1<=2*n.cy+1:=by simp only[dd] at hml;omega
      have xI:TZ cN:=hG.sub.2.2 _ _ hg;simp only[am,pn,fE,show decide ((0:Int)<((fs.length+1:Nat):Int))=aa from aQ (by omega)];refine hO.len ?_;simp only[am,pn,fE];rw[wrap_i64,show((fs.length+1:Nat):Int) - 1=(fs.length:Nat) by omega];refine hO.idx (by omega) (j:=(fs.length:Nat)) (c:=fT (m,d)) (by rw[ju];exact fu) λb cs rest hb bR KG=>?_
      rw[ju] at KG ⊢;have v5:takeN 6 (cs.drop (fs.length*6))=U (fT (m,d)):=by rw[KG];exact N0 Bd
      simp only[am,Nat.reduceAdd,bR,v5,vN]
      by_cases hk:m.kind=1\/m.kind=7
      .have pC:(decide (m.kind=1)=aa)\/(decide (m.kind=1)=ak/\decide (m.kind=7)=aa):=by
        by_cases h1:m.kind=1
        .exact .inl (aQ h1)
        .exact .inr ⟨aM h1,aQ (by simpa [h1] using hk)⟩
       have xL:=apq (s:=s) (lat:=lat) (d:=d) (fs:=fs) (out:=out) hk;rw[xL] at sS
       rcases pC with e1 | ⟨e1,e2⟩
       case' inl=>simp only[am,Nd.al,aH.al,e1,vN]
       case' inr=>simp only[am,Nd.al,aH.al,e1,e2,vN]
       all_goals
        refine(akv s lat m xI hs aB (by omega) (by omega) GF hk).mono ?_;rintro v' σ' ⟨⟨i,rfl,hi⟩,rfl⟩;simp only[am,Nat.reduceAdd,bw.al];cases KX:nh s lat m with
        | none =>
         rw[KX] at sS;simp only[am,cF,Cx];exact no _ _ _ (by rw[hR,<-sS]) hG.sub
        | some j =>
         obtain rfl:=hi j KX;rw[KX] at sS;simp only[am,bw.al,E9];refine Gr.app (by simpa using hG) (by simp only[pI] at GD;simp[aO];omega) λjJ fz xA hB _=>?_
         simp only[am,pn];refine(UM hO hB).take (m:=fs.length) (by omega) (ju _) (by rw[fE];omega) λv2 uD dD=>?_
         rw[SY] at uD;simp only[am,cF,Nat.reduceEqDiff,reduceCtorEq];refine bq.ud (I:=I) ⟨fs,out++[i],v2,jJ,fz,sS,λf hf=>dp f (O1 _ hf),by simp only[pI] at GD;rw[bN,gC];omega,uD,⟨xA.sub,λb hb=>hS.new b (by rw[<-dD];exact hb)⟩,by simpa using xA⟩ (by simp only[pI];omega) ?_ ?_ ?_ ?_ ?_
         all_goals simp[hI,BL,au,am,bQ,bS,dL,V.lo,aH.cH,Nd.cH,MN uD]
      .have e1:decide (m.kind=1)=false:=aM λh=>hk (.inl h)
       have e7:decide (m.kind=7)=false:=aM λh=>hk (.inr h)
       simp only[am,e1,e7];have rP:=Tq GF hk;have Dp:=y4 m
       by_cases h9:m.kind=9
       case' pos =>
        have eo:sc m=⟨4,m.ah.length,.zero⟩:=by rw[sc,aE h9]
        simp only[am,aN,aN,aQ h9,vN]
       case' neg =>
        have eo:sc m=⟨3,m.ah.length,.zero⟩:=by rw[sc,aC h9]
        simp only[am,aN,aN,aM h9,vN]
       all_goals
        by_cases hd:d<m.ah.length
        .have So:cs.drop (fs.length*6+5)=(fT (m,d)).drop 5++rest:=by
          rw[<-wY,KG,XW (by rw[Bd];omega)]
         have h5:(fT (m,d)).drop 5=[.int .i64 (d:Nat)]:=by rw[qM];rfl
         have aiK:bF ak 1 (cs.drop (fs.length*6+5))=U (.int .i64 (d:Nat)):=by rw[So,h5];rfl
         have aiB:bZ 1 (cs.drop (fs.length*6+5))=true:=by rw[So,h5];rfl
         obtain⟨uD,eH⟩:=hO.put (off:=5) (x:=[.int .i64 ((d+1:Nat):Int)]) fu hb bR (by simp);have mD:(List.map fT ((m,d)::fs).reverse).set fs.length (setAt (fT (m,d)) 5 [.int .i64 ((d+1:Nat):Int)])=List.map fT ((m,d+1)::fs).reverse:=by
          rw[ahp];simp
         rw[mD] at uD;have GG:m.ah[d]∈m.ah:=fh hd;have hkw:=ng GG;have atN:=qG GG;simp only[am,pn,dB hd];refine hO.idx (by omega) (j:=(fs.length:Nat)) (c:=fT (m,d)) (by rw[ju];exact fu) λb2 Jt apm dD aip _=>?_
         obtain rfl:b=b2:=by rw[hb] at dD;exact tY dD
         rw[ju];simp only[am,pn,bR,aiK,cE hd];refine hO.idx (by omega) (j:=(fs.length:Nat)) (c:=fT (m,d)) (by rw[ju];exact fu) λb2 Jt apm dD aip _=>?_
         obtain rfl:b=b2:=by rw[hb] at dD;exact tY dD
         rw[ju];simp only[am,bR,aiB,vN];refine ix (mb (cL hd)) ?_;simp only[am,pn,Nd.al,vN];refine uD.app (m:=[fT (m.ah[d],0)]) (by simp[Bd]) (by simp[F6]) (by simp[aO];omega) λv3 Iv R6 zj=>?_
         have Sa:=(hS.step eH).step zj;have hG3:=ah0 hG Sa.sub (zj.aK.trans eH.aK);simp only[am,cF,reduceCtorEq];refine bq.ud (I:=I) ⟨(m.ah[d],0)::(m,d+1)::fs,out,v3,tk,Iv,by rw[<-apo hk hd];exact sS,?_,?_,by simpa using R6,Sa,hG3⟩ (Uf hd) ?_ ?_ ?_ ?_ ?_
         .intro f hf
          rcases kI.1 hf with rfl | hf
          .exact⟨rP _ GG,by simp only;omega,by simp only;omega⟩
          .rcases kI.1 hf with rfl | hf
           .exact⟨GF,xN,xM⟩
           .exact dp f (O1 _ hf)
         .have:=Uf (fs:=fs) hd;omega
         all_goals simp[hI,BL,au,am,bQ,bS,dL,V.lo,aH.cH,Nd.cH,MN R6]
        .simp only[am,aN,bw.al,aN,aM (show ¬(d:Int)<(m.ah.length:Nat) by omega),vN];refine Gr.app (by simpa using hG) (by simp only[pI] at GD;simp[aO];omega) λjJ fz xA hB _=>?_
         simp only[am,pn];refine(UM hO hB).take (m:=fs.length) (by omega) (ju _) (by rw[fE];omega) λv2 uD dD=>?_
         rw[SY] at uD;simp only[am];refine bq.ud (I:=I) ⟨fs,out++[sc m],v2,jJ,fz,by rw[<-apn hk (Nat.le_of_not_lt hd)];exact sS,λf hf=>dp f (O1 _ hf),by simp only[pI] at GD;rw[bN,gC];omega,uD,⟨xA.sub,λb hb=>hS.new b (by rw[<-dD];exact hb)⟩,by simpa using xA⟩ (by simp only[pI];omega) ?_ ?_ ?_ ?_ ?_
         all_goals simp[hI,BL,au,am,bQ,bS,dL,V.lo,aH.cH,Nd.cH,eo,bw.zero,MN uD]
section
variable {l:dY} {v:du} {a b c:V} {m:Nat}
theorem dY.Ed:takeN 3 l.enc=U l.enc:=rfl
theorem dY.M7:over [a,b,c] l.enc=l.enc:=rfl
theorem dY.M5:l.enc.length=3:=rfl
theorem dY.M6:cC l.enc=true:=rfl
theorem du.M5:v.enc.length=3:=rfl
theorem du.M6:cC v.enc=true:=rfl
theorem du.Ed:takeN 3 v.enc=U v.enc:=rfl
theorem du.M7:over [a,b,c] v.enc=v.enc:=rfl
end
def aei:aT prog 107 (sq [rg 12 [mk 0,nf 1,nl 2,om 1,oC 76 [15,16],o1 11,oe 11 0,oe 11 1,ot 8 18,o1 9],rg 20 [mk 0,nf 0,om 8,nB .lss 0,gA,om 9,nB .lss 0,gZ,om 2,oc 110 [.s 22,.s 28,.c (.int .i64 3),.s 29]],sq [rg 31 [om 9,nB .lss 0],cr 32 33 [mk 0,nf 0,om 8,nB .geq 0,om 2,oc 110 [.s 35,.s 37,.c (.int .i64 4),.s 38]]],rg 40 [mk 0,nf 1,nF 1,om 9,nA 3 44,nl 3,oZ 10 [1,0,0],o2 3 10],dg 48 [mk 0,nf 0,fo 1 10,om 3,nb .neq 52,nm,oh 55 (om 0),oh 55 (nk),oh 55 (nf 3),oh 55 (no),oh 55 (nB .geq 0),oh 55 (nm),og 61 (of 2 10),og 61 (no),og 61 (om 0),og 61 (nk),og 61 (nf 3),og 61 (no),og 61 (nb .neq 63),oh 55 (oy 61 68),oq (.pick (.s 55) (.c (.bool aa)) (.s 69)),om 2,oc 110 [.s 50,.s 70,.c (.int .i64 4),.s 71]]]) [] 73:=aW func107
def aej:aT prog 108 (sq [rg 0 [ox 3 2 1],dg 7 [mk 0,nf 1,nl 2,fo 0 3,oC 76 [10,12],o1 6,oe 6 0,oe 6 1,ot 4 14,o1 5],rg 16 [om 0,om 4,ok 16,nf 3,os 1 19 17],dg 20 [mk 0,nf 0,om 4,nB .lss 0,gA,om 5,nB .lss 0,gZ,fo 1 3,oc 110 [.s 22,.s 28,.c (.int .i64 3),.s 30]],dg 32 [mk 0,nf 0,om 4,nB .lss 0,gA,om 5,nB .geq 0,gZ,fo 1 3,oc 110 [.s 34,.s 40,.c (.int .i64 4),.s 42]]]) [] 44:=aW func108
def aem:aT prog 110 (sq [rg 8 [om 1],ci 8 (rg 9 [om 0,mk 0,nF 0,om 2,om 3,oW [0,0] [(0,1,14),(1,1,15)],n1 2,na 2 13,ok 9,nf 0,os 1 20 18])]) [] 21:=aW func110
def ae0:aT prog 177 (sq [rg 0 [ox 3 5 1],rg 6 [fo 0 3],.block 0 (sq [rg 9 [oB .eql 7 1,o1 8],cd 8 (rg 10 [om 0,fo 2 3,fo 1 3,oc 107 [.s 10,.s 12,.s 14,.c (.int .i64 1)]]) (sq [rg 17 [oB .eql 7 7,o1 16],ci 16 (sq [rg 18 [fo 4 3,nL,nB .gtr 0,gA,mk 0,nF 3,nB .geq 0,gZ],ci 28 (sq [dA 30 [4,5] [mk 0,nf 1,nF 0,mk 0,nF 3,nA 3 34,nf 1,nl 2,fo 4 3,nI 5 0,nl 5,oC 184 [41,45],o1 29,oe 29 0,oe 29 1,oN,oN,oX 4 8 47,oX 5 2 48],dg 49 [mk 0,nf 0,fo 0 5,nB .neq 0,fo 0 5,fo 1 5,oC 110 [51,54,56,58]]])])])])]) [] 60:=aW func177
def wL(Z:ag)(b Y:Nat)(l:List aL)(s:aH)(lat p x y:Int)(is:Bool)(hl:l.length<=100000000) :
 dt 110 [.ptr (.out b) 0,.bool is,.int .i64 x,.int .i64 y] (cS Z b Y l s lat p) (.bt []) (cS Z b Y (l++if is then [⟨x,y⟩] else []) s lat p):=by
 refine aem.aS ?_;simp only[aR,am,a8,Nat.reduceAdd];cases is with
 | false =>
  simp only[am,eD,eD];exact aP rfl (ag.bc _) ⟨rfl,by simp⟩
 | true =>
  simp only[am,Nat.reduceAdd,jt];refine jP (by simp[aO];omega) (by rw[aN];exact On) ?_;simp only[am,aN,jt,aN,gC,atc];exact aP rfl (ag.bc _) ⟨rfl,by simp⟩
def Eu(Z:ag)(b Y:Nat)(l:List aL)(s:aH)(lat p y k:Int)(t:List UInt8)(hl:l.length<=90000000)(hs:s.ok) :
 dt 107 [.ptr (.out b) 0,.aF t,.int .i64 y,.int .i64 k] (cS Z b Y l s lat p) (.bt []) (cS Z b Y (l++gT s lat t y k) s lat p):=by
 refine aei.aS ?_;simp only[aR,am,a8,Nat.reduceAdd,jt,aH.al];refine cl (vd s t _ hs.1 hs.2.1) ?_;cases hV:kj s.vars t with
 | none =>
  cases hL:iu s.bu t with
  | none =>
   have e:gT s lat t y k=[⟨3,y⟩]:=by rw[gT,hV,hL];rfl
   simp only[am,bM,Int.reduceNeg,dh,Int.reduceLT];refine cl (wL Z b Y l s lat p 3 y aa (by omega)) ?_;simp only[am,bM,fk,Int.reduceNeg,Int.reduceLT,Int.reduceLE];refine cl (wL Z b Y (l++[⟨3,y⟩]) s lat p 4 y ak (by simp;omega)) ?_;simp only[am,Int.reduceNeg,eD];exact aP rfl (ag.bc _) ⟨rfl,by rw[e]⟩
  | some j =>
   have e:gT s lat t y k=[⟨4,y⟩]:=by rw[gT,hV,hL];rfl
   simp only[am,Int.reduceNeg,dh,aM (show ¬((j:Nat):Int)<0 by omega)];refine cl (wL Z b Y l s lat p 3 y ak (by omega)) ?_;simp only[am,bM,Int.reduceNeg,eD,Int.reduceLT,aQ (show(0:Int)<=((j:Nat):Int) by omega)];refine cl (wL Z b Y l s lat p 4 y aa (by omega)) ?_;simp only[am,Int.reduceNeg];exact aP rfl (ag.bc _) ⟨rfl,by rw[e]⟩
 | some v =>
  have hv:=Q8 hV;have hx:s.vars[v]?=U s.vars[v]:=cL hv;have e:gT s lat t y k=if s.vars[v].kind≠k\/(0<=lat/\s.vars[v].lat≠lat) then [⟨4,y⟩] else []:=by rw[gT,hV];simp only[hx]
  have nv:decide (((v:Nat):Int)<0)=false:=aM (by omega);have mid:cg prog 110 [.ptr (.out b) 0,.bool ak,.int .i64 3,.int .i64 y] (cS Z b Y l s lat p) λu σ' => u = .bt []/\σ' = cS Z b Y l s lat p:=by
   simpa using wL Z b Y l s lat p 3 y ak (by omega)
  have fin:∀is:Bool,is=decide (s.vars[v].kind≠k\/(0<=lat/\s.vars[v].lat≠lat))->cg prog 110 [.ptr (.out b) 0,.bool is,.int .i64 4,.int .i64 y] (cS Z b Y l s lat p) λu σ' => u = .bt []/\σ' = cS Z b Y (l++gT s lat t y k) s lat p:=λis he=>by
   have:=wL Z b Y l s lat p 4 y is (by omega)
   rw[he] at this ⊢;rw[e];simpa using this
  cases hL:iu s.bu t
  case' none=>simp only[am,bM,Int.reduceNeg,dh,Int.reduceLT,nv]
  case' some j =>
   simp only[am,dh,aM (show ¬((j:Nat):Int)<0 by omega)]
  all_goals
   refine cl mid ?_;simp only[am,Nat.reduceAdd,Int.reduceNeg,jt,nv];refine ix (EB hv) ?_;simp only[am,Int.reduceNeg,aH.al,du.M5,du.M6,du.Ed,du.M7]
   by_cases hk:s.vars[v].kind=k
   case neg =>
    simp only[am,Int.reduceNeg,aM hk];refine bJ.intro (fin aa (by simp[hk])) ?_;simp only[am,Int.reduceNeg];exact aP rfl (ag.bc _) ⟨rfl,rfl⟩
   simp only[am,Int.reduceNeg,jt,aQ hk]
   by_cases h0:0<=lat
   case neg =>
    simp only[am,Int.reduceNeg,aM h0];refine bJ.intro (fin ak (by simp[hk,h0])) ?_;simp only[am,Int.reduceNeg];exact aP rfl (ag.bc _) ⟨rfl,rfl⟩
   simp only[am,Int.reduceNeg,jt,aH.al,aQ h0]
   by_cases h1:s.vars[v].lat=lat
   case neg =>
    simp only[am,Int.reduceNeg,aM h1];refine bJ.intro (fin aa (by simp[h0,h1])) ?_;simp only[am,Int.reduceNeg];exact aP rfl (ag.bc _) ⟨rfl,rfl⟩
   simp only[am,Int.reduceNeg,aQ h1];refine bJ.intro (fin ak (by simp[hk,h1])) ?_;simp only[am,Int.reduceNeg];exact aP rfl (ag.bc _) ⟨rfl,rfl⟩
def Aw(Z:ag)(b Y:Nat)(l:List aL)(s:aH)(lat p x y:Int)(hl:l.length<=100000000):cg prog 110 [.ptr (.out b) 0,.bool ak,.int .i64 x,.int .i64 y] (cS Z b Y l s lat p) λu σ' => u = .bt []/\σ' = cS Z b Y l s lat p:=by
 simpa using wL Z b Y l s lat p x y ak hl
def Ex(Z:ag)(b Y:Nat)(l:List aL)(s:aH)(lat p x y:Int)(hl:l.length<=100000000):cg prog 110 [.ptr (.out b) 0,.bool aa,.int .i64 x,.int .i64 y] (cS Z b Y l s lat p) λu σ' => u = .bt []/\σ' = cS Z b Y (l++[⟨x,y⟩]) s lat p:=by
 simpa using wL Z b Y l s lat p x y aa hl
def atw:=ae @am <| ae @a8 <| ae @aH.al @aA.al
def WE(Z:ag)(b Y:Nat)(l:List aL)(s:aH)(lat p:Int)(w:aA)(hl:l.length<=90000000)(hs:s.ok) :
 dt 108 [.ptr (.out b) 0,.agg w.enc] (cS Z b Y l s lat p) (.bt []) (cS Z b Y (l++gk s w) s (dh (iu s.bu w.an)) p):=by
 refine aej.aS ?_;simp only[aR,atw,Nat.reduceAdd,Int.reduceNeg,dh,jt];refine bJ.intro (vd s w.an (cS Z b Y l s lat p) hs.1 hs.2.1) ?_;simp only[am,Int.reduceNeg,dh,jt,atd];cases hL:iu s.bu w.an with
 | none =>
  cases hV:kj s.vars w.an with
  | none =>
   have e:gk s w=[⟨3,w.pos⟩]:=by rw[gk,hL,hV];rfl
   simp only[am,bM,Int.reduceNeg,Int.reduceLT,jt];refine bJ.intro (Ex Z b Y l s (-1) p 3 w.pos (by omega)) ?_;simp only[am,bM,fk,Int.reduceNeg,Int.reduceLT,Int.reduceLE,jt];refine bJ.intro (Aw Z b Y (l++[⟨3,w.pos⟩]) s (-1) p 4 w.pos (by simp;omega)) ?_;simp only[am,Int.reduceNeg];exact aP rfl (ag.bc _) ⟨rfl,by rw[e]⟩
  | some j =>
   have e:gk s w=[⟨4,w.pos⟩]:=by rw[gk,hL,hV];rfl
   simp only[am,bM,Int.reduceNeg,Int.reduceLT,jt,aM (show ¬((j:Nat):Int)<0 by omega)];refine bJ.intro (Aw Z b Y l s (-1) p 3 w.pos (by omega)) ?_;simp only[am,bM,Int.reduceNeg,Int.reduceLT,jt,aQ (show(0:Int)<=((j:Nat):Int) by omega)];refine bJ.intro (Ex Z b Y l s (-1) p 4 w.pos (by omega)) ?_;simp only[am,Int.reduceNeg];exact aP rfl (ag.bc _) ⟨rfl,by rw[e]⟩
 | some j =>
  have e:gk s w=[]:=by rw[gk,hL];rfl
  simp only[am,Int.reduceNeg,jt,aM (show ¬((j:Nat):Int)<0 by omega)];refine bJ.intro (Aw Z b Y l s (j:Nat) p 3 w.pos (by omega)) ?_;simp only[am,Int.reduceNeg,jt,aM (show ¬((j:Nat):Int)<0 by omega)];refine bJ.intro (Aw Z b Y l s (j:Nat) p 4 w.pos (by omega)) ?_;simp only[am,Int.reduceNeg];exact aP rfl (ag.bc _) ⟨rfl,by rw[e,eD]⟩
def atb{b Y:Nat}{l:List aL}{s:aH}{lat p:Int}(hg:TZ Z)(hb:Z.box b=af):TZ (cS Z b Y l s lat p):=hg
def Wk(Z:ag)(b Y:Nat)(l:List aL)(s:aH)(lat p:Int)(n:Nd)(hl:l.length<=90000000)(hs:s.ok)(hg:TZ Z)(hb:Z.box b=af)(mY:lat<s.bu.length)(hc:n.cy<=100000)(hw:n.wt<=aO) :
 dt 177 [.ptr (.out b) 0,.agg n.enc] (cS Z b Y l s lat p) (.bt []) (cS Z b Y (l++ke s lat n) s lat p):=by
 refine ae0.aS ?_;simp only[aR,sv,Nat.reduceAdd]
 by_cases h1:n.kind=1
 .simp only[am,Nd.fl,aQ h1];refine cl (Eu Z b Y l s lat p n.pos 1 n.an hl hs) ?_;simp only[am];exact aP rfl (ag.bc _) ⟨rfl,by rw[ke,aE h1]⟩
 simp only[am,aM h1]
 by_cases h7:n.kind=7
 case neg =>
  simp only[am,aM h7];exact aP rfl (ag.bc _) ⟨rfl,by rw[ke,aC h1,aC h7,eD]⟩
 simp only[am,aN,Nd.fl,aN,aQ h7];have ea:ke s lat n=y9 s lat n:=by rw[ke,aC h1,aE h7]
 by_cases hk:0<n.ah.length
 case neg =>
  simp only[am,aM (show ¬(0:Int)<(n.ah.length:Nat) by omega)];exact aP rfl (ag.bc _) ⟨rfl,by rw[ea,y9,aC (λh=>hk h.1),eD]⟩
 simp only[am,jt,aQ (show(0:Int)<(n.ah.length:Nat) by omega)]
 by_cases h0:0<=lat
 case neg =>
  simp only[am,aM h0];exact aP rfl (ag.bc _) ⟨rfl,by rw[ea,y9,aC (λh=>h0 h.2),eD]⟩
 simp only[am,Nat.reduceAdd,bM,Nat.reduceLT,jt,aQ h0];obtain⟨k,rfl⟩:∃k:Nat,lat=k:=⟨lat.toNat,by omega⟩;have xK:k<s.bu.length:=by omega
 have hm:n.ah[0]∈n.ah:=fh _;have xM:=qG hm;have xN:=ng hm;refine ix (wo xK) ?_;simp only[am,aH.al,Nd.fl];refine qZ (n:=0) (by omega) (mb (j:=0) (cL hk)) ?_;simp only[am,bA.al,Nd.al];refine bJ.intro (JB s.bu[k].shape n.ah[0] (atb hg hb) (hs.2.2 _ (fh xK)) (λm hm=>by obtain⟨a,b,c⟩:=MS (n:=n.ah[0]) (by omega) m hm;exact⟨by omega,by omega,λq hq=>by have:=c q hq;omega⟩) (by omega)) ?_;have eo:vI s (k:Nat) n=(iq s.bu[k].shape n.ah[0]).2:=by rw[vI,ju,NN xK,qN hk]
 have ee:ke s (k:Nat) n=match (iq s.bu[k].shape n.ah[0]).2 with | some q=>[⟨4,q⟩] | none=>[]:=by rw[ea,y9,aE ⟨hk,h0⟩,eo];cases (iq s.bu[k].shape n.ah[0]).2<;>rfl
 generalize iq s.bu[k].shape n.ah[0]=g at ee;obtain⟨e,o⟩:=g;cases o with
 | none =>
  simp only[am,Nat.reduceAdd,bM,bh.al,show uA af=[.int .i64 0,.int .i64 0] from rfl];refine bJ.intro (Aw Z b Y l s (k:Nat) p 0 0 (by omega)) ?_;simp only[am];exact aP rfl (ag.bc _) ⟨rfl,by rw[ee,eD]⟩
 | some q =>
  simp only[am,Nat.reduceAdd,fk,Int.reduceEq,bh.al,show uA (U q)=[.int .i64 4,.int .i64 q] from rfl];refine bJ.intro (Ex Z b Y l s (k:Nat) p 4 q (by omega)) ?_;simp only[am];exact aP rfl (ag.bc _) ⟨rfl,by rw[ee]⟩
def aek:aT prog 109 (sq [rg 0 [od (U 2) (.gf 1 (.s 0)),ox 3 5 1],rg 0 [od (U 4) (.nP [(.raw .nilFunc)])],rg 5 [oq (.jG (.func 176) [] [(.s 2),(.s 4)]),o2 1 4],rg 6 [oo 4,ol 5 3,oq (.il (.s 6) [(.s 7)])]]) [] 9:=aW func109 ⟨[2,4],[]⟩
def aeZ:aT prog 176 (sq [rg 0 [ox 3 5 0],rg 6 [oo 1,ol 5 3,oC 177 [6,7]],sq [rg 9 [fo 0 3,nB .eql 1,gB,fo 0 3,nB .eql 7,gZ],ci 16 .ret],rg 17 [fo 4 3,nL,oi 0],lp 19 0 (sq [rg 22 [oA 5 18 20,nl 5,oZ 5 [0,0,1,7,10],o2 5 5],rg 24 [oo 2,ol 5 5,oq (.il (.s 24) [(.s 25)])]]) 27]) [] 28:=aW func176
def aqM(Z:ag)(b Y b2 b4:Nat)(s:aH)(lat p:Int)(hs:s.ok)(hg:TZ Z)(hb:Z.box b=af)(mY:lat<s.bu.length)(n2:b2≠b)(n4:b4≠b)(h2:Z.box b2=U [.ptr (.out b) 0])(h4:Z.box b4=U [.fn (.func 176) [] [.ptr (.out b2) 0,.ptr (.out b4) 0]]) :
 ∀(k:Nat) (n:Nd) (l:List aL),n.wt<=k->l.length+n.cy<=90000000->n.cy<=100000->n.wt<=aO ->
 dt 176 [.agg n.enc,.ptr (.out b2) 0,.ptr (.out b4) 0] (cS Z b Y l s lat p) (.bt []) (cS Z b Y (l++fF s lat n) s lat p):=by
 have e2:∀l,(cS Z b Y l s lat p).box b2=U [.ptr (.out b) 0]:=λl=>by rw[AH n2];exact h2
 have e4:∀l,(cS Z b Y l s lat p).box b4=U [.fn (.func 176) [] [.ptr (.out b2) 0,.ptr (.out b4) 0]]:=λl=>by rw[AH n4];exact h4
 intro k;induction k with
 | zero=>intro n l h;have:=Nd.sH n;have:=FH n;omega
 | succ k ih =>
  intro n l hk hl hc hw;refine aeZ.aS ?_;simp only[aR,am,a8,Nat.reduceAdd,Nd.al];simp only[am,Nd.al,e2];refine cl (Wk Z b Y l s lat p n (by omega) hs hg hb mY hc hw) ?_;have ha:=@Fs s lat n;simp only[am,Nd.fl]
  by_cases zi:n.kind=1\/n.kind=7
  .have e:fF s lat n=ke s lat n:=by rw[G6,aE zi,eD]
   have pC:(decide (n.kind=1)=aa)\/(decide (n.kind=1)=ak/\decide (n.kind=7)=aa):=by
    by_cases h:n.kind=1
    .exact .inl (aQ h)
    .exact .inr ⟨aM h,aQ (by simpa [h] using zi)⟩
   rcases pC with e1 | ⟨e1,e7⟩
   case' inl=>simp only[am,e1]
   case' inr=>simp only[am,Nd.fl,e1,e7]
   all_goals exact aP rfl (ag.bc _) ⟨rfl,by rw[e]⟩
  have e:fF s lat n=ke s lat n++n.ah.flatMap (fF s lat):=by rw[G6,aC zi]
  simp only[am,aN,Nd.fl,aN,aM (λh=>zi (.inl h)),aM (λh=>zi (.inr h))];have Dp:=y4 n;have v7:=Nd.sH n;refine dP (n.ah.length) (λi (x:Unit)=>⟨[.any,.ptr (.out b2) 0,.ptr (.out b4) 0,.ptr (.aD 0) 0,.any,.any,.any,.any,.any,.any,.any,.any,.any,.any,.any,.any,.any,.any,.sl .no 5 (n.ah.map Nd.enc),.int .i64 (n.ah.length:Nat),.int .i64 (i:Nat)]++au 7 .any,[n.enc],cS Z b Y (l++ke s lat n++(n.ah.take i).flatMap (fF s lat)) s lat p⟩) (λi x=>(True)) λF hF JF bj=>⟨?_,?_,?_⟩
  .exact en bj (()) (trivial)
  .rintro i x hi -;have hm:n.ah[i]∈n.ah:=fh _;have xM:=qG hm;have xN:=ng hm;have hlen:=aj4 (s:=s) (lat:=lat) hi;simp only[hF,au,am,dB hi];refine ix (mb (cL hi)) ?_;simp only[am,Nd.al,e4];refine cl (ih n.ah[i] _ (by omega) (by simp only[bN];omega) (by omega) (by omega)) ?_;simp only[am,a9,cE hi,eB];refine fQ (()) hi ?_ ?_ ?_ ?_ ?_ ?_
   .exact eQ (bj _ _) (trivial)
   all_goals simp[hF,au,am,bQ,bS,dL,V.lo,JQ hi,eB,Nd.cH]
  .rintro x -;simp only[hF,au,am,a9,dV,a9,eN];exact aP rfl (ag.bc _) ⟨rfl,by rw[e,eB]⟩
def WD(Z:ag)(b Y:Nat)(l:List aL)(s:aH)(lat p:Int)(n:Nd)(hs:s.ok)(hg:TZ Z)(hb:Z.box b=af)(mY:lat<s.bu.length)(hl:l.length+n.cy<=90000000)(hc:n.cy<=100000)(hw:n.wt<=aO) :
 dt 109 [.ptr (.out b) 0,.agg n.enc] (cS Z b Y l s lat p) (.bt []) (cS Z b Y (l++fF s lat n) s lat p):=by
 have fresh:∀{x:Nat} {dr:ag},(cS dr b Y l s lat p).box x=af->x≠b:=λ{x dr} h=>by rintro rfl;rw[Ip] at h;simp at h
 refine aek.aS ?_;simp only[aR,am,a8,Nat.reduceAdd];intro b2 dD;have n2:=fresh dD;rw[AH n2] at dD;simp only[am,Nd.al];rw[XF n2];intro b4 vU;have n4:=fresh vU;rw[AH n4] at vU;have Ul:b4≠b2:=by rintro rfl;simp[ag.set] at vU
 have atL : Z.box b4=none:=by simpa [ag.set,Ul] using vU
 simp only[am,Nd.al];rw[XF n4];have vY:TZ ((Z.set b2 [V.ptr (Pl.out b) 0]).set b4 [V.fn (Fn.func 176) [] [V.ptr (Pl.out b2) 0,V.ptr (Pl.out b4) 0]]):=hg;refine cl (aqM _ b Y b2 b4 s lat p hs vY (by rw[mL n4.symm,mL n2.symm];exact hb) mY n2 n4 (by rw[mL Ul.symm,gR]) gR n.wt n l (bP _) hl hc hw) ?_;simp only[am];exact aP rfl (ag.B4 (XE n2 dD) (XE n4 vU)) ⟨rfl,rfl⟩
def aen:aT prog 111 (sq [rg 0 [ox 3 5 1],sq [rg 11 [fo 0 3,nB .eql 1],ci 13 (rg 14 [om 0,fo 2 3,fo 1 3,oc 107 [.s 14,.s 16,.s 18,.c (.int .i64 2)]])],sq [rg 20 [fo 0 3,nB .neq 10],ci 22 .ret],rg 4 [oz 6],sq [rg 23 [fo 4 3,nL,oi 0],lp 25 0 (sq [rg 28 [oA 5 24 26,nl 5,oZ 6 [0,0,1,7,10],o2 5 6],dg 30 [mk 0,nf 0,om 4,fo 2 6,oC 173 [33,35],nB .geq 0,of 1 6,mM [0],no,oc 110 [.s 32,.s 37,.c (.int .i64 4),.s 39]],rg 41 [om 4,fo 2 6,n1 1,na 1 41,o1 4],rg 46 [fo 4 6,nL,oi 0],lp 48 2 (sq [rg 51 [oA 5 47 49,nl 5,oZ 8 [0,0,1,7,10],o2 5 8],rg 53 [om 0,ol 5 8,oC 177 [53,54]]]) 56]) 57],sq [rg 58 [fo 3 3,nL,oi 0],lp 60 4 (sq [rg 63 [oA 2 59 61,nl 2,oZ 10 [1,0],o2 2 10],rg 65 [om 0,fo 0 10,fo 1 10,oc 107 [.s 65,.s 67,.s 69,.c (.int .i64 2)]]]) 71],dg 72 [mk 0,nf 0,fo 4 3,nL,nB .gtr 16,mk 0,nF 4,oc 110 [.s 74,.s 78,.c (.int .i64 7),.s 82]]]) [] 84:=aW func111
variable{l:List (List UInt8)}
def ap6{x:List UInt8}:cU (l++[x])=cU l++[[.aF x]]:=by simp[cU]
variable{j:Nat}
def AG{l:List aA}(h:j<l.length):(l.map aA.enc)[((j:Nat):Int).toNat]?=U l[j].enc:=by simp[h]
def WN(Z:ag)(b Y:Nat)(l:List aL)(s:aH)(lat p:Int)(n:Nd)(hs:s.ok)(hg:TZ Z)(hb:Z.box b=af)(mY:lat<s.bu.length)(hl:l.length<=30000000)(hc:n.cy<=100000)(hw:n.wt<=aO) :
 dt 111 [.ptr (.out b) 0,.agg n.enc] (cS Z b Y l s lat p) (.bt []) (cS Z b Y (l++nr s lat p n) s lat p):=by
 refine aen.aS ?_;simp only[aR,sv,Nat.reduceAdd]
 by_cases h1:n.kind=1
 .simp only[am,Nd.fl,aQ h1];refine cl (Eu Z b Y l s lat p n.pos 2 n.an (by omega) hs) ?_;simp only[am,Nd.fl,aM (show ¬n.kind=10 by omega)];exact aP rfl (ag.bc _) ⟨rfl,by rw[nr,aE h1]⟩
 simp only[am,Nd.fl,aM h1]
 by_cases iL:n.kind=10
 case neg =>
  simp only[am,aM iL];exact aP rfl (ag.bc _) ⟨rfl,by rw[nr,aC h1,aC iL,eD]⟩
 simp only[am,aN,Nd.fl,aN,aQ iL];have SL:nr s lat p n=nX s lat n.ah n.ah.length++wJ s lat n.aj++(if 16<n.ah.length then [⟨7,p⟩] else []):=by rw[nr,aC h1,aE iL]
 have Dp:=y4 n;have v7:=CO n;have iw:∀k∈n.ah,k.ah.length<=100000:=λk hk=>by have:=y4 k;have:=qG hk;omega
 have kQ:∀{i:Nat},i<=n.ah.length->(nX s lat n.ah i).length<=100000:=λ{i} hi=>by
  have:=JS (s:=s) (lat:=lat) hi
  have:=Qh n.ah i
  have:=Nd.sH n
  omega
 refine dP (n.ah.length) (λi (x:Tk × ag)=>⟨[.ptr (.out b) 0,.any,.any,.ptr (.aD 0) 0,.sl x.1 1 (cU ((n.ah.take i).map Nd.an)),.any,.any,.any,.any,.any,.any,.any,.any,.any,.any,.any,.any,.any,.any,.any,.any,.any,.any,.any,.sl .no 5 (n.ah.map Nd.enc),.int .i64 (n.ah.length:Nat),.int .i64 (i:Nat)]++au 57 .any,[n.enc],cS x.2 b Y (l++nX s lat n.ah i) s lat p⟩) (λi x=>(Ah Z x.2 Y x.1 i)) λF hF JF bj=>⟨?_,?_,?_⟩
 .refine en bj ((.aV,Z)) (Ah.nil) ?_ ?_ ?_
  all_goals simp[hF,au,am,bQ,nX,cU]
 .rintro i ⟨tk,cN⟩ hi hA;simp only at hA;have hm:n.ah[i]∈n.ah:=fh _;have xM:=qG hm;have xN:=ng hm;have rO:=iw _ hm;have hL:=kQ (IV hi);have Gx:TZ cN:=hA.sub.2.2 _ _ hg;have fv:cN.box b=none:=by rw[hA.box];exact hb
  have xR:((n.ah.take i).map Nd.an).length=i:=by simp;omega
  have vZ:n.ah.getD i j5=n.ah[i]:=qN hi;simp only[hF,au,am,dB hi];refine ix (mb (cL hi)) ?_;simp only[am,Nd.al,Nd.fl];refine bJ.intro (cg.eh (as' := [.sl .no 1 (cU ((n.ah.take i).map Nd.an)),.aF n.ah[i].an]) (vM ((n.ah.take i).map Nd.an) n.ah[i].an _ (by omega)) ⟨da.no,da.rfl,trivial⟩ bL.rfl) ?_;simp only[am,Nd.fl,MH];have ed:uq n.ah i=if (gY ((n.ah.take i).map Nd.an) n.ah[i].an).isSome then [⟨4,n.ah[i].pos⟩] else []:=by rw[uq,vZ]
  have Sm:(uq n.ah i).length<=1:=by rw[ed];split<;>simp
  refine bJ.intro (wL cN b Y (l++nX s lat n.ah i) s lat p 4 n.ah[i].pos _ (by simp only[bN];omega)) ?_;rw[<-ed];simp only[am,Nd.fl];refine Ah.app (by rw[iY,xR];exact hA) (by simp[iY,aO];omega) λjJ fz Bi=>?_
  have Bi:Ah Z fz Y jJ (i+1):=by rw[bN,iY,xR] at Bi;exact Bi
  have vY:TZ fz:=Bi.sub.2.2 _ _ hg;have dD:fz.box b=none:=by rw[Bi.box];exact hb
  simp only[am,aN,Nd.fl,aN];refine dP (n.ah[i].ah.length) (λj (y:Unit)=>⟨[.ptr (.out b) 0,.any,.any,.ptr (.aD 0) 0,.sl jJ 1 (cU ((n.ah.take i).map Nd.an)++[[.aF n.ah[i].an]]),.any,.any,.any,.any,.any,.any,.any,.any,.any,.any,.any,.any,.any,.any,.any,.any,.any,.any,.any,.sl .no 5 (n.ah.map Nd.enc),.int .i64 (n.ah.length:Nat),.int .i64 (i:Nat),.any,.any,.any,.any,.any,.any,.any,.any,.any,.any,.any,.any,.any,.any,.any,.any,.any,.any,.any,.any,.sl .no 5 (n.ah[i].ah.map Nd.enc),.int .i64 (n.ah[i].ah.length:Nat),.int .i64 (j:Nat)]++au 34 .any,[n.enc,n.ah[i].enc],cS fz b Y (l++nX s lat n.ah i++uq n.ah i++(n.ah[i].ah.take j).flatMap (ke s lat)) s lat p⟩) (λj y=>(True)) λF2 eH yI ji=>⟨?_,?_,?_⟩
  .refine en ji (()) (trivial) ?_ ?_ ?_
   all_goals simp[eH,au,am,bQ]
  .rintro j y hj -;have Bw:n.ah[i].ah[j]∈n.ah[i].ah:=fh _;have aiN:=qG Bw;have aiP:=ng Bw;have hL2:((n.ah[i].ah.take j).flatMap (ke s lat)).length<=100000:=by
    have:=CY (f:=ke s lat) (m:=1) (l:=n.ah[i].ah.take j) λ_ _=>Fs
    rw[sB,iR] at this;omega
   simp only[eH,au,am,dB hj];refine ix (mb (cL hj)) ?_;simp only[am,Nat.reduceAdd,Nd.al];refine cl (Wk fz b Y _ s lat p n.ah[i].ah[j] (by simp only[bN];omega) hs vY dD mY (by omega) (by omega)) ?_;simp only[am,a9,cE hj];refine fQ (()) hj ?_ ?_ ?_ ?_ ?_ ?_
   .exact eQ (ji _ _) (trivial)
   all_goals simp[eH,au,am,bQ,bS,dL,V.lo,JQ hj,eB,Nd.cH]
  .rintro y -;simp only[eH,au,am,a9,dV,Nat.reduceEqDiff,a9,reduceCtorEq,Nd.fl,aN,eN,cE hi];have ef:nX s lat n.ah (i+1)=nX s lat n.ah i++(uq n.ah i++n.ah[i].ah.flatMap (ke s lat)):=by rw[Rg,zf,vZ]
   have et:(n.ah.take (i+1)).map Nd.an=(n.ah.take i).map Nd.an++[n.ah[i].an]:=by rw[jx hi,f_];rfl
   refine fQ ((jJ,fz)) hi ?_ ?_ ?_ ?_ ?_ ?_
   .exact eQ (bj _ _) (Bi)
   all_goals simp[hF,au,am,bQ,bS,dL,V.lo,ef,et,ap6,eB,Nd.cH]
 .rintro⟨tk,cN⟩ hA;simp only at hA;have hL:=kQ (bP _);simp only[hF,au,am,a9,dV,a9,Nd.fl,aN];refine dP (n.aj.length) (λj (y:Unit)=>⟨[.ptr (.out b) 0,.any,.any,.ptr (.aD 0) 0,.any,.any,.any,.any,.any,.any,.any,.any,.any,.any,.any,.any,.any,.any,.any,.any,.any,.any,.any,.any,.any,.any,.any,.any,.any,.any,.any,.any,.any,.any,.any,.any,.any,.any,.any,.any,.any,.any,.any,.any,.any,.any,.any,.any,.any,.any,.any,.any,.any,.any,.any,.any,.any,.any,.any,.sl .no 2 (n.aj.map aA.enc),.int .i64 (n.aj.length:Nat),.int .i64 (j:Nat)]++au 22 .any,[n.enc],cS cN b Y (l++nX s lat n.ah n.ah.length++wJ s lat (n.aj.take j)) s lat p⟩) (λj y=>(True)) λF3 zj JF3 R3=>⟨?_,?_,?_⟩
  .refine en R3 (()) (trivial) ?_ ?_ ?_
   all_goals simp[zj,au,am,bQ,wJ]
  .rintro j y hk -;have R4:=@NZ s lat (n.aj.take j);rw[iR] at R4;simp only[zj,au,am,dB hk];refine ix (AG hk) ?_;simp only[am,jt,aA.al];refine cl (Eu cN b Y _ s lat p n.aj[j].pos 2 n.aj[j].an (by simp only[bN];omega) hs) ?_;simp only[am,a9,cE hk];have ef:wJ s lat (n.aj.take (j+1))=wJ s lat (n.aj.take j)++gT s lat n.aj[j].an n.aj[j].pos 2:=by rw[wJ,JQ hk];rfl
   refine fQ (()) hk ?_ ?_ ?_ ?_ ?_ ?_
   .exact eQ (R3 _ _) (trivial)
   all_goals simp[zj,au,am,bQ,bS,dL,V.lo,ef,eB,Nd.cH]
  .rintro y -;have R4:=@NZ s lat n.aj;simp only[zj,au,am,a9,dV,a9,jt,Nd.fl,aN,eN];have bound:(l++nX s lat n.ah n.ah.length++wJ s lat n.aj).length<=100000000:=by simp only[bN];omega
   by_cases C7:16<n.ah.length
   .rw[aQ (show(16:Int)<(n.ah.length:Nat) by omega)];refine bJ.intro (Ex cN b Y _ s lat p 7 p bound) ?_;simp only[am];exact aP rfl (XD hA.sub) ⟨rfl,by rw[SL,aE C7];simp only[eB]⟩
   .rw[aM (show ¬(16:Int)<(n.ah.length:Nat) by omega)];refine bJ.intro (Aw cN b Y _ s lat p 7 p bound) ?_;simp only[am];exact aP rfl (XD hA.sub) ⟨rfl,by rw[SL,aC C7,eD,eB]⟩
section
variable {c:aq}
theorem Z4:c.enc.length=17:=rfl
theorem Z_:cC c.enc=true:=rfl
theorem Z9:bK c.enc=true:=rfl
theorem ZQ:bx c.enc=c.enc:=rfl
theorem aaj:takeN 17 c.enc=U c.enc:=rfl
theorem Z'{z0 z1 z2 z3 z4 z5 z6 z7 z8 z9 Ou Ov Ow Ox Oy Oz OA:V}:over [z0,z1,z2,z3,z4,z5,z6,z7,z8,z9,Ou,Ov,Ow,Ox,Oy,Oz,OA] c.enc=c.enc:=rfl
theorem Z5:bF ak 1 (c.enc.drop 7)=U (.int .i64 c.left.kind):=rfl
variable{w:aA}
theorem aab:setAt c.enc 2 w.enc=({c with name:=w}:aq).enc:=rfl
theorem ZS:bZ 2 (c.enc.drop 2)=true:=rfl
theorem aac{ws:List aA}:setAt c.enc 4 [.sl .no 2 (ws.map aA.enc)]=({c with aj:=ws}:aq).enc:=rfl
theorem ZT:bZ 1 (c.enc.drop 4)=true:=rfl
variable{ps:List (aA × aA)}
theorem aad:setAt c.enc 5 [.sl .no 4 (ps.map ff)]=({c with bm:=ps}:aq).enc:=rfl
theorem ZU:bZ 1 (c.enc.drop 5)=true:=rfl
theorem aae{n:Int}:setAt c.enc 6 [.int .i64 n]=({c with mJ:=n}:aq).enc:=rfl
theorem ZV:bZ 1 (c.enc.drop 6)=true:=rfl
def aaa{n:Nd}:setAt c.enc 7 n.enc=({c with left:=n}:aq).enc:=by rw[Nd.df];rfl
theorem ZR:bZ 5 (c.enc.drop 7)=true:=rfl
def aaf{n:Nd}:setAt c.enc 12 n.enc=({c with right:=n}:aq).enc:=by rw[Nd.df];rfl
theorem ZW:bZ 5 (c.enc.drop 12)=true:=rfl
def di:=ae @Z4 <| ae @Z_ <| ae @Z9 <| ae @ZQ <| ae @aaj <| ae @Z' <| ae @Z5 <| ae @aab <| ae @ZS <| ae @aac <| ae @ZT <| ae @aad <| ae @ZU <| ae @aae <| ae @ZV <| ae @aaa <| ae @ZR <| ae @aaf @ZW
end
def aeG:aT prog 157 (sq [rg 3 [oi 0],bl 0 (sq [sq [rg 4 [om 0,oo 1,nT,nb .lss 4,gA,oo 1,om 0,nS 9,oC 158 [11],gZ],cx 13 0],.block 1 (rg 14 [ic 0])]),rg 16 [om 0,o1 3],.ret]) [.tmp 3] 17:=aW func157
def aeH:aT prog 158 (sq [rg 2 [oz 2],rg 3 [om 0,nu .geq 97,gA,om 0,nu .leq 122,gZ,nm,oh 9 (om 0),oh 9 (nu .geq 48),oh 9 (nm),og 12 (om 0),og 12 (nu .leq 57),oh 9 (oy 12 14),oq (.pick (.s 9) (.c (.bool aa)) (.s 15)),gB,om 0,nu .eql 95,gZ,o1 2],.ret]) [.tmp 2] 21:=aW func158
def aeI:aT prog 159 (sq [rg 4 [oz 2],rg 5 [om 0,om 1,nS 5,nu .eql 45,gA,om 1,nB .add 1,om 0,nT,nb .lss 11,gZ,gA,om 0,om 1,nB .add 1,nS 17,nu .eql 45,gZ,o1 4],.ret]) [.tmp 4] 23:=aW func159
def aeJ:aT prog 160 (sq [rg 2 [oz 2],sq [rg 3 [om 0],.block 0 (sq [sq [rg 5 [ou .eql 3 35,o1 4],cd 4 .skip (sq [rg 6 [ou .eql 3 43,o1 4],cd 4 .skip (sq [rg 7 [ou .eql 3 38,o1 4],cd 4 .skip (sq [rg 8 [ou .eql 3 40,o1 4],cd 4 .skip (sq [rg 9 [ou .eql 3 41,o1 4],cd 4 .skip (sq [rg 10 [ou .eql 3 123,o1 4],cd 4 .skip (sq [rg 11 [ou .eql 3 125,o1 4],cd 4 .skip (sq [rg 12 [ou .eql 3 91,o1 4],cd 4 .skip (sq [rg 13 [ou .eql 3 93,o1 4],cd 4 .skip (sq [rg 14 [ou .eql 3 44,o1 4],cd 4 .skip (sq [rg 15 [ou .eql 3 58,o1 4],cd 4 .skip (sq [rg 16 [ou .eql 3 61,o1 4],cd 4 .skip (sq [rg 17 [ou .eql 3 124,o1 4],cd 4 .skip (rg 18 [ou .eql 3 60,o1 4])])])])])])])])])])])])])],cr 4 2 [oq (.mv (.c (.bool aa)))]])],rg 2 [oz 2],.ret]) [.tmp 2] 19:=aW func160
def aqJ{c:Int}(h:mj c=aa):uC c=ak/\c≠45/\c≠32/\c≠9:=by
 simp only[mj,NO,List.any_cons,List.any_nil,mn,ca,dm,D9] at h
 rcases h with h | h | h | h | h | h | h | h | h | h | h | h | h | h<;>subst h<;>exact⟨by decide,by decide,by decide,by decide⟩
def akC{n p:Nat}{c:UInt8}{r:List UInt8}{acc:List Tok}:fe (n+1) p (c::r) acc =
 if c.toNat=32\/c.toNat=9 then fe n (p+1) r acc
 else if c.toNat=45/\(r.head?.map UInt8.toNat)=U 45 then(acc,af)
 else if mj (c.toNat:Nat)=aa then fe n (p+1) r (acc++[⟨(c.toNat:Nat),[c],p⟩])
 else if dG (fq (c::r))=aa then fe n (p+(fq (c::r)).length) ((c::r).drop (fq (c::r)).length) (acc++[⟨97,fq (c::r),p⟩])
 else([],U p):=by
 simp only[fe]
 by_cases hb:c.toNat=32\/c.toNat=9
 .have h1:gF c=false:=by
   simp only[gF]
   rcases hb with h | h<;>rw[h]<;>decide
  have h2:mj (c.toNat:Nat)=false:=by rcases hb with h | h<;>rw[h]<;>decide
  have h3:¬c.toNat=45:=by omega
  simp[hb,h2,h3,HR h1]
 .rw[aC hb];split
  .rfl
  .cases hs:mj (c.toNat:Nat)
   .by_cases hn:dG (fq (c::r))=aa
    .have:0<(fq (c::r)).length:=by
      cases hq:fq (c::r) with
      | nil=>rw[hq] at hn;simp[dG] at hn
      | cons _ _=>simp
     simp[hn,this]
    .simp[hn]
   .have h1:gF c=false:=(aqJ hs).1;simp[HR h1]
def ahS(c:Int)(Z:ag):a_ 158 [.int .u8 c] Z (.bool (uC c)):=by
 refine aeH.aS ?_;simp only[aR,am,a8,Nat.reduceAdd]
 repeat' (first
  | (refine kP (λh=>?_) (λh=>?_)<;>simp only[am,h])
  | (refine e9 (λh=>?_) (λh=>?_)<;>simp only[vo,h,Nat.reduceAdd,Nat.reduceEqDiff,aN])
  | (refine la (λh=>?_) (λh=>?_)<;>simp only[vo,h,Nat.reduceAdd,Nat.reduceEqDiff,aN])
 )
 all_goals refine aU ?_
 all_goals simp_all [V.erase,uC,ya]
 all_goals (try omega)
def aqI(c:Int)(Z:ag):a_ 160 [.int .u8 c] Z (.bool (mj c)):=by
 refine aeJ.aS ?_;simp only[aR,am,a8,Nat.reduceAdd]
 repeat' (first
  | (refine kP (λh=>?_) (λh=>?_)<;>simp only[vo,h,Nat.reduceAdd,Nat.reduceEqDiff,aN])
  | (refine e9 (λh=>?_) (λh=>?_)<;>simp only[am,h])
  | (refine la (λh=>?_) (λh=>?_)<;>simp only[vo,h,Nat.reduceAdd,Nat.reduceEqDiff,aN])
 )
 all_goals refine aU ?_
 all_goals simp_all [V.erase,mj,NO]
 all_goals (try omega)
def aa2(s:List UInt8)(a:Nat)(Z:ag)(ha:a<s.length)(hb:s.length<=aO):cg prog 159 [.aF s,.int .i64 (a:Nat)] Z λv σ' => v = .bool (decide (s[a].toNat=45/\(s.drop (a+1)).head?.map UInt8.toNat=U 45))/\σ' = Z:=by
 simp only[aO] at hb;have w1:IntKind.i64.wrap ((a:Int)+1)=((a+1:Nat):Int):=by rw[wrap_i64];simp
 have hh:(s.drop (a+1)).head?.map UInt8.toNat=if h:a+1<s.length then U s[a+1].toNat else none:=by
  by_cases h:a+1<s.length
  .rw[CT h,drop_cons h];rfl
  .rw[dif_neg h,OP (by omega)];rfl
 rw[hh];refine aeI.aS ?_;simp only[aR,am,a8,Nat.reduceAdd];refine BJ (Et ha) ?_;simp only[am]
 by_cases Ge:s[a].toNat=45
 .simp only[am,aQ (show((s[a].toNat:Nat):Int)=45 by omega),w1]
  by_cases hl:a+1<s.length
  .simp only[am,aQ (show((a+1:Nat):Int)<s.length by omega),w1];refine BJ (Et hl) ?_;simp only[am];refine aU ?_;simp[V.erase,Ge,hl];omega
  .simp only[am,aM (show ¬((a+1:Nat):Int)<s.length by omega)];refine aU ?_;simp[V.erase,hl]
 .simp only[am,aM (show ¬((s[a].toNat:Nat):Int)=45 by omega)];refine aU ?_;simp[V.erase,Ge]
def LJ(s:List UInt8)(Z:ag)(p a n:Nat):St:=⟨[.int .i64 ((a+n:Nat):Int),.ptr (.out p) 0]++au 15 .any,[],Z⟩
variable{s:List UInt8}
def acY{p a:Nat}(hp:Z.box p=U [.aF s])(ha:a<=s.length)(hb:s.length<=aO):a_ 157 [.int .i64 (a:Nat),.ptr (.out p) 0] Z (.int .i64 ((a+(fq (s.drop a)).length:Nat):Int)):=by
 simp only[aO] at hb;refine aeG.aS ?_;simp only[aR,am,a8,Nat.reduceAdd];refine iG (λq:{n:Nat // a+n<=s.length/\((s.drop a).take n).all gF=aa}=>LJ s Z p a q.1) (λq=>s.length - q.1) ?_ ?_
 .refine bq.enter ⟨0,by simpa using ha,by simp⟩ ?_ cm.rfl bL.rfl;simp[LJ,au,am]
 .rintro⟨n,hn,dp⟩;simp only[LJ,au,am,hp];have w1:IntKind.i64.wrap (((a+n:Nat):Int)+1)=((a+(n+1):Nat):Int):=by rw[wrap_i64];omega
  by_cases aB:a+n<s.length
  .simp only[am,aQ (show((a+n:Nat):Int)<s.length by omega),hp];refine BJ (Et aB) ?_;simp only[am];refine cl (ahS s[a+n].toNat Z) ?_;cases hg:uC (s[a+n].toNat:Nat)
   .simp only[am];refine aP rfl (ag.bc _) ⟨?_,rfl⟩;simp[V.erase,VW dp hn (λ_=>hg)]
   .simp only[am,w1];refine bq.again ⟨n+1,by omega,?_⟩ (by simp;omega) (by simp[am]) cm.rfl bL.rfl;have hd:n<(s.drop a).length:=by simp;omega
    rw[Pt hd,dp];simp only[lj,List.getElem_drop];exact hg
  .simp only[am,aM (show ¬((a+n:Nat):Int)<s.length by omega)];refine aP rfl (ag.bc _) ⟨?_,rfl⟩;simp[V.erase,VW dp hn (λh=>absurd h aB)]
def aha:aT prog 96 (sq [rg 2 [od (U 1) (.gf 1 (.s 0)),oz 8,oM [0,0]],.scope (sq [rg 9 [oq (.jG (.func 157) [] [(.s 1)]),o1 4],rg 5 [oz 8],rg 6 [oi 0],.skip,bl 0 (sq [sq [rg 10 [om 6,oo 1,nT,nb .lss 10],cx 13 0],.block 1 (sq [rg 14 [oo 1,om 6,nS 14,o1 7],.block 2 (sq [rg 18 [om 7,nu .eql 32,gB,om 7,nu .eql 9,gZ,o1 17],cd 17 (sq [rg 24 [ic 6],(.exit 1)]) (sq [rg 27 [oo 1,om 6,oC 159 [27,28],o1 26],cd 26 (.exit 0) (sq [rg 31 [om 7,oC 160 [31],o1 30],ci 30 (sq [rg 33 [om 5,om 7,oo 1,om 6,om 6,nB .add 1,oK 35 36 38,om 6,oW [3,1,0] [(0,1,34),(1,1,39),(2,1,40)],n1 3,na 3 33,o1 5],rg 44 [ic 6],(.exit 1)])])])]),rg 46 [om 4,om 6,oq (.il (.s 46) [(.s 47)]),o1 8],sq [rg 49 [oo 1,om 6,om 8,oK 49 50 51,oC 161 [52],nn],cr 54 55 [om 6,oG [0,0] [(0,1,.c (.int .i64 1)),(1,1,.s 55)],oU 2 8,o2 2 3]],rg 57 [om 5,oo 1,om 6,om 8,oK 58 59 60,om 6,oG [3,1,0] [(0,1,.c (.int .u8 97)),(1,1,.s 61),(2,1,.s 62)],n1 3,na 3 57,o1 5],rg 66 [om 8,o1 6]])]),rg 67 [om 5,oW [0,0] [],ot 2 67,o2 2 3],.ret])]) [.tmp 2,.cell 3 aa 2] 69:=aW func96 ⟨[1],[]⟩
abbrev ID(s:List UInt8)(Z:ag)(p:Nat)(R:List Tok × Option Int):={q:Nat × Nat × Nat × List Tok // (Z.set p [.aF s]).aK q.2.2.1=af/\fe q.1 q.2.1 (s.drop q.2.1) q.2.2.2=R/\q.2.2.2.length<=q.2.1/\q.2.1<=s.length/\s.length<=q.2.1+q.1}
def wg(s:List UInt8)(Z:ag)(p a Y:Nat)(acc:List Tok):St :=
 ⟨[.aF s,.ptr (.out p) 0,.any,.ptr (.aD 0) 0,.fn (.func 157) [] [.ptr (.out p) 0],.sl (.tk Y) 3 (acc.map Tok.enc),.int .i64 (a:Nat)]++au 62 .any,[[.int .i64 0,.int .i64 0]],(Z.set p [.aF s]).aY Y acc.length⟩
def akD(s:List UInt8)(Z:ag)(hb:s.length+1<=aO):a_ 96 [.aF s] Z (.bt [.sl .no 3 ((dR s).1.map Tok.enc),CK (dR s).2]):=by
 simp only[aO] at hb;generalize hR:dR s=R;refine aha.aS ?_;simp only[aR,am,a8,Nat.reduceAdd];refine j1 λp hp=>?_
 simp only[am,cF];have nZ:∀Y m,((Z.set p [.aF s]).aY Y m).box p=U [.aF s]:=λY m=>by simp[ag.aY,ag.set]
 have pD:∀Y m,(Z.set p [.aF s]).aK Y=af->Z.sub ((Z.set p [.aF s]).aY Y m):=λY m h=>ag.B4 (h_ hp) (so h)
 refine iG (λq:ID s Z p R=>wg s Z p q.1.2.1 q.1.2.2.1 q.1.2.2.2) (λq=>s.length - q.1.2.1) ?_ ?_
 .refine bq.Ax 0 λY br=>⟨⟨(s.length,0,Y,[]),br,hR,by simp,by simp,by simp⟩,?_,rfl,rfl⟩
  simp[wg,au,o5]
 .rintro⟨⟨n,a,Y,acc⟩,br,hR,h1,h2,h3⟩;simp only at br hR h1 h2 h3;simp only[wg,au,am];refine e9 ?_ ?_
  .intro aB;have aB:a<s.length:=by simpa using aB
   obtain⟨m,rfl⟩:∃m,n=m+1:=⟨n - 1,by omega⟩;rw[drop_cons aB] at hR;rw[akC,<-drop_cons aB] at hR;have cT:=apW (s:=s) (a:=a);have w1:IntKind.i64.wrap ((a:Int)+1)=((a+1:Nat):Int):=by rw[wrap_i64];simp
   have again:∀(b:Nat) (AX : List Tok) (t:List V) (l:List (List V)),fe m b (s.drop b) AX = R->AX.length<=b->a<b->b<=s.length ->
    cJ t (wg s Z p b Y AX).t->l=[[.int .i64 0,.int .i64 0]] ->
    bq ⟨t,l,(Z.set p [.aF s]).aY Y AX.length⟩ λaJ => ∃j:ID s Z p R,aJ = wg s Z p j.1.2.1 j.1.2.2.1 j.1.2.2.2/\s.length - j.1.2.1<s.length - a:=λb AX t l e1 e2 e3 e4 e5 e6=>by
    refine bq.again (μ:=λq:ID s Z p R=>s.length - q.1.2.1) (I:=λq=>wg s Z p q.1.2.1 q.1.2.2.1 q.1.2.2.2) ⟨(m,b,Y,AX),br,e1,e2,e4,by simp only;omega⟩ (by simp;omega) e5 (by rw[e6];exact cm.rfl) bL.rfl
   simp only[am];refine BJ (Et aB) ?_;simp only[am]
   by_cases py:s[a].toNat=32\/s[a].toNat=9
   .rw[aE py] at hR
    by_cases h32:s[a].toNat=32
    case' pos=>simp only[am,cF,Nat.reduceAdd,Nat.reduceEqDiff,aQ (show((s[a].toNat:Nat):Int)=32 by omega),w1]
    case' neg=>simp only[am,cF,Nat.reduceAdd,Nat.reduceEqDiff,aM (show ¬((s[a].toNat:Nat):Int)=32 by omega),aQ (show((s[a].toNat:Nat):Int)=9 by omega),w1]
    all_goals exact again (a+1) acc _ _ hR (by omega) (by omega) (by omega) (by simp[wg,au,am]) rfl
   .rw[aC py] at hR;simp only[am,aM (show ¬((s[a].toNat:Nat):Int)=32 by omega),aM (show ¬((s[a].toNat:Nat):Int)=9 by omega)];refine(aa2 s a _ aB (by simp only[aO];omega)).mono ?_;rintro v σ' ⟨rfl,rfl⟩
    by_cases xD:s[a].toNat=45/\(s.drop (a+1)).head?.map UInt8.toNat=U 45
    .rw[aE xD] at hR;simp only[am,cF,Nat.reduceAdd,Nat.reduceEqDiff,aQ xD];refine aP rfl (pD Y _ br) ⟨?_,rfl⟩;simp[V.erase,bx,<-hR,CK,fJ]
    .rw[aC xD] at hR;simp only[am,aM xD];refine(aqI (s[a].toNat:Nat) _).mono ?_;rintro v σ' ⟨rfl,rfl⟩;cases SQ:mj (s[a].toNat:Nat)
     .rw[aC (by simp[SQ])] at hR;simp only[am];refine(acY (s:=s) (nZ Y _) (by omega) (by simp only[aO];omega)).mono ?_;rintro v σ' ⟨rfl,rfl⟩;simp only[am,cF];refine NQ (by omega) (by omega) ?_;rw[Qy];simp only[am];refine(tm (fq (s.drop a)) _).mono ?_;rintro v σ' ⟨rfl,rfl⟩;cases GH:dG (fq (s.drop a))
      .rw[aC (by simp[GH])] at hR;simp only[am,cF,Nat.reduceAdd];refine aP rfl (pD Y _ br) ⟨?_,rfl⟩;simp[V.erase,bx,<-hR,CK,fJ]
      .rw[aE GH] at hR;have hN:0<(fq (s.drop a)).length:=by
        cases hq:fq (s.drop a) with
        | nil=>rw[hq] at GH;simp[dG] at GH
        | cons _ _=>simp
       simp only[am,cF];refine NQ (by omega) (by omega) ?_;rw[Qy];simp only[am,Nat.reduceAdd];refine jP (by simp[aO];omega) (by rw[aN,iZ]) ?_;simp only[am,aN,jr];have e:acc.length+1=(acc++[(⟨97,fq (s.drop a),a⟩:Tok)]).length:=by simp
       rw[e];rw[wY] at hR;exact again (a+(fq (s.drop a)).length) _ _ _ hR (by simp;omega) (by omega) (by omega) (by simp[wg,au,am,Tok.enc]) rfl
     .rw[aE SQ] at hR;simp only[am,cF,w1];refine NQ (by omega) (by omega) ?_;rw[aby aB];simp only[am,Nat.reduceAdd];refine jP (by simp[aO];omega) (by rw[aN,iZ]) ?_;simp only[am,cF,Nat.reduceAdd,Nat.reduceEqDiff,aN,jr,w1];have e:acc.length+1=(acc++[(⟨(s[a].toNat:Nat),[s[a]],a⟩:Tok)]).length:=by simp
      rw[e];exact again (a+1) _ _ _ hR (by simp;omega) (by omega) (by omega) (by simp[wg,au,am,Tok.enc]) rfl
  .intro aB;have aB:a=s.length:=by simp at aB;omega
   subst aB;rw[ER] at hR;have px : (acc,af)=R:=by cases n<;>simpa [fe] using hR
   simp only[am,cF,Nat.reduceAdd];refine aP rfl (pD Y _ br) ⟨?_,rfl⟩;simp[V.erase,bx,<-px,CK,fJ]
def ahb:aT prog 97 (sq [rg 2 [oz 10,oM [0,0]],rg 4 [oz 9],rg 5 [oz 10],sq [rg 11 [om 0,nL,oi 0],lp 12 0 (sq [rg 15 [oA 3 11 13,nl 3,oZ 7 [3,1,0],o2 3 7],rg 17 [om 4,nL,o1 8],.block 2 (sq [rg 27 [fo 0 7,oC 162 [28],nu .neq 0,o1 26],cd 26 (sq [sq [rg 31 [om 8,nB .geq 24],cr 32 33 [ol 3 7,oC 163 [33],oe 34 0,oe 34 1,ot 2 35,o2 2 3]],rg 37 [om 4,ol 3 7,om 5,oW [3,1,0,10] [(0,3,38),(3,1,39)],nO (.lI 4),na 4 37,o1 4],rg 5 [oz 10]]) (sq [rg 44 [fo 0 7,oC 164 [45],o1 43],cd 43 (sq [sq [dg 47 [om 8,nB .eql 0,gB,om 4,om 8,nB .sub 1,nA 4 50,nf 0,nF 0,oC 162 [56],of 0 7,mM [0],no,nb .neq 57,gZ],cr 61 62 [ol 3 7,oC 163 [62],oe 63 0,oe 63 1,ot 2 64,o2 2 3]],rg 66 [om 4,om 8,nB .sub 1,nA 4 66,nl 4,oZ 9 [3,1,0,10],o2 4 9],rg 71 [om 4,om 8,nB .sub 1,om 8,nB .sub 1,oq (.kF 4 (.s 71) af (U (.s 73)) (U (.s 75))),o1 4],rg 77 [fo 3 9,of 0 9,nl 3,om 5,fo 2 7,oW [3,1,0,10,0] [(0,3,80),(3,1,81),(4,1,83)],n1 5,na 5 78,o1 5]]) (rg 19 [om 5,ol 3 7,fo 2 7,oW [3,1,0,10,0] [(0,3,20),(4,1,22)],n1 5,na 5 19,o1 5])])])]) 87],sq [rg 88 [om 4,nL,o1 10],rg 90 [om 10,nB .gtr 0],cr 91 92 [om 4,om 10,nB .sub 1,nA 4 92,nf 0,nl 3,oC 163 [97],oe 98 0,oe 98 1,ot 2 99,o2 2 3]],rg 101 [om 5,oW [0,0] [],ot 2 101,o2 2 3],.ret]) [.tmp 2,.cell 3 aa 2] 103:=aW func97 ⟨[41],[]⟩
def aeL:aT prog 162 (sq [rg 2 [oz 3],rg 3 [oz 3],sq [rg 4 [om 0],.block 0 (sq [.block 2 (sq [.block 1 (sq [sq [sq [sq [rg 6 [ou .eql 4 123,o1 5],cd 5 .skip (rg 7 [ou .eql 4 91,o1 5])],ci 5 (.exit 1)],rg 9 [ou .eql 4 40,o1 8],ci 8 (.exit 2)],(.exit 0)]),rg 10 [om 3,nu .add 1,o1 3]]),sq [rg 12 [om 0,nu .add 1,om 3,nb .add 13,o1 2],.ret],(.exit 0)])],rg 2 [oz 3],.ret]) [.tmp 2] 16:=aW func162
def aeM:aT prog 163 (sq [rg 2 [ox 1 3 0,oz 10,oM [0,0]],dg 4 [fo 2 1,oG [0,0] [(0,1,.c (.int .i64 2)),(1,1,.s 5)],oU 2 10,o2 2 3],.ret]) [.tmp 2,.cell 3 aa 2] 7:=aW func163
def aeN:aT prog 164 (sq [rg 2 [oz 2],rg 3 [om 0,nu .eql 41,gB,om 0,nu .eql 125,gZ,gB,om 0,nu .eql 93,gZ,o1 2],.ret]) [.tmp 2] 13:=aW func164
def P9(c:Int)(Z:ag):a_ 162 [.int .u8 c] Z (.int .u8 (closing c)):=by
 refine aeL.aS ?_;simp only[aR,am,a8,Nat.reduceAdd]
 by_cases h1:c=123
 .subst h1;simp only[am,Nat.reduceEqDiff,bM];refine aU ?_;simp[V.erase];rfl
 .simp only[am,aM h1]
  by_cases h2:c=91
  .subst h2;simp only[am,Nat.reduceEqDiff,bM];refine aU ?_;simp[V.erase];rfl
  .simp only[am,aM h2]
   by_cases h3:c=40
   .subst h3;simp only[am,Nat.reduceEqDiff,bM];refine aU ?_;simp[V.erase];rfl
   .simp only[am,Nat.reduceEqDiff,aM h3];refine aU ?_;simp[V.erase,closing,h1,h2,h3]
def aaS(c:Int)(Z:ag):a_ 164 [.int .u8 c] Z (.bool (kN c)):=by
 refine aeN.aS ?_;simp only[aR,am,a8,Nat.reduceAdd]
 repeat' (first
  | (refine kP (λh=>?_) (λh=>?_)<;>simp only[am,h])
  | (refine e9 (λh=>?_) (λh=>?_)<;>simp only[vo,h,Nat.reduceAdd,Nat.reduceEqDiff,aN])
  | (refine la (λh=>?_) (λh=>?_)<;>simp only[vo,h,Nat.reduceAdd,Nat.reduceEqDiff,aN])
 )
 all_goals refine aU ?_
 all_goals simp_all [V.erase,kN]
 all_goals (try omega)
def Fw(t:Tok)(Z:ag):a_ 163 [.agg t.enc] Z (.bt [.sl .no 5 [],jR (U t.pos)]):=by
 refine aeM.aS ?_;simp only[aR,am,a8,Tok.enc,am];refine aU ?_;simp[V.erase,bx,jR,c9,fJ]
structure ig where
 tok:Tok
 tk:Tk
 ahead:List ar
def ig.enc(x:ig):List V:=[.int .u8 x.tok.kind,.aF x.tok.an,.int .i64 x.tok.pos,.sl x.tk 5 (dC x.ahead)]
def ig.pair(x:ig):Tok × List ar:=(x.tok,x.ahead)
def ig.tn(x:ig):Tk × Nat:=(x.tk,(dC x.ahead).length)
structure AW where
 i:Nat
 H7:Tk
 op:List ig
 B6:Tk
 row:List ar
 Y:ag
def s9(l:List Tok)(q:AW):St :=
 ⟨[.sl .no 3 (l.map Tok.enc),.any,.any,.ptr (.aD 0) 0,.sl q.H7 4 (q.op.map ig.enc),.sl q.B6 5 (dC q.row)]++au 5 .any++[.sl .no 3 (l.map Tok.enc),.int .i64 l.length,.int .i64 (q.i:Nat)]++au 89 .any,[[.int .i64 0,.int .i64 0]],q.Y⟩
def Fi(l:List Tok)(Z:ag)(R:List ar × Option Int)(q:AW):Prop :=
 q.i<=l.length/\fS (l.drop q.i) (q.op.map ig.pair) q.row=R/\jf Z q.Y ((q.H7,(q.op.map ig.enc).length)::(q.B6,(dC q.row).length)::q.op.map ig.tn)/\q.op.length<=q.i/\q.row.length<=q.i/\∀x∈q.op,x.ahead.length+1<=q.i
def WH{α:Type}(l:List α):l=[]\/∃ys x,l=ys++[x]:=by
 rcases OS l with h | ⟨ys,x,h⟩
 .exact .inl h
 .exact .inr ⟨ys,x,by rw[h];simp⟩
def arC(l:List Tok)(Z:ag)(hb:l.length+1<=aO):a_ 97 [.sl .no 3 (l.map Tok.enc)] Z (.bt [.sl .no 5 (dC (fS l [] []).1),jR (fS l [] []).2]):=by
 simp only[aO] at hb;generalize hR:fS l [] []=R;refine ahb.aS ?_;simp only[aR,am,a8,Nat.reduceAdd];refine iG (λq:{q:AW // Fi l Z R q}=>s9 l q.1) (λq=>l.length - q.1.i) ?_ ?_
 .refine bq.enter ⟨⟨0,.aV,[],.aV,[],Z⟩,by simp,hR,jf.init (by simp),by simp,by simp,by simp⟩ ?_ cm.rfl bL.rfl;simp[s9,au,am,dC]
 .rintro⟨⟨i,H7,op,B6,row,Y⟩,h1,hR,hT,fv,dD,qR⟩;simp only at h1 hR hT fv dD qR;simp only[s9,au,am];refine e9 ?_ ?_
  .intro aB;have aB:i<l.length:=by simpa using aB
   rw[mq aB] at hR;have ai8:i_ l i=l[i]:=by simp[i_,aB]
   rw[<-ai8] at hR;generalize ht:i_ l i=t at hR;have wi:IntKind.i64.wrap ((i:Int)+1)=((i+1:Nat):Int):=by rw[wrap_i64];simp
   have again:∀(q:AW) (t:List V) (m:List (List V)),Fi l Z R q->q.i=i+1->cJ t (s9 l q).t->cm (m.take 1) [[.int .i64 0,.int .i64 0]] ->
    bq ⟨t,m,q.Y⟩ λaJ => ∃j:{q:AW // Fi l Z R q},aJ = s9 l j.1/\l.length - j.1.i<l.length - i:=λq t m hq hi ht hm=>by
    refine bq.ud (I:=λq:{q:AW // Fi l Z R q}=>s9 l q.1) (μ:=λq=>l.length - q.1.i) ⟨q,hq⟩ (by simp only;omega) ht hm bL.rfl (by simp[s9,au,bS,V.lo]) (by simp[s9,dL,bS,V.lo])
   simp only[am];refine ix (ars aB) ?_;rw[ht];simp only[am,Nat.reduceAdd,aN,Tok.enc];refine(P9 t.kind _).mono ?_;rintro v σ' ⟨rfl,rfl⟩;simp only[fS] at hR
   by_cases hc:closing t.kind=0
   .rw[aC (by simp[hc])] at hR;simp only[am,aQ hc];refine(aaS t.kind _).mono ?_;rintro v σ' ⟨rfl,rfl⟩;cases gK:kN t.kind
    .rw[gK] at hR;simp only[dm,cn] at hR;simp only[am,Nat.reduceAdd];refine I6 (hT.perm (List.Perm.swap _ _ _)) (by rw[kh];simp[aO];omega) λυ kq=>?_
     simp only[kh,aN,dd,eM,jy] at kq;simp only[am,kh,wi];have e:dC row++[[V.int .u8 t.kind,.aF t.an,.int .i64 t.pos,.sl .no 5 [],.int .i64 t.pos]]=dC (row++[.mk t [] t.pos]):=by simp[sL,ar.enc,dC]
     rw[e];refine again ⟨i+1,H7,op,.tk υ,row++[.mk t [] t.pos],σ'.aY υ (row.length+1)⟩ _ _ ⟨aB,hR,?_,by simp only;omega,by simp;omega,λx hx=>by have:=qR x hx;simp only;omega⟩ rfl (by simp[s9,au,am]) (by simp[am]);refine jf.perm ?_ (List.Perm.swap _ _ _);simpa [kh] using kq
    .rw[gK] at hR;simp only[cD] at hR
     rcases WH op with rfl | ⟨ys,x,rfl⟩
     .simp only[eR,List.getLast?_nil] at hR;simp only[am,eR,eM,show decide (((0:Nat):Int)=0)=aa from rfl];refine(Fw t _).mono ?_;rintro v σ' ⟨rfl,rfl⟩;simp only[am,Nat.reduceAdd,jR];refine aP rfl hT.1 ⟨?_,rfl⟩;simp[V.erase,bx,<-hR,c9,fJ,dC]
     .have aX:¬(((ys++[x]).length:Nat):Int)=0:=by simp;omega
      have wn:IntKind.i64.wrap ((((ys++[x]).length:Nat):Int) - 1)=(ys.length:Nat):=by rw[wrap_i64 (by simp<;>omega) (by simp at fv ⊢<;>omega)];simp
      have fu:((ys++[x]).map ig.enc)[((ys.length:Nat):Int).toNat]?=U x.enc:=by simp
      simp only[f_,b8,eR,EV,IG,ig.pair] at hR;simp only[am,aM aX,wn];refine ix (fu) ?_;simp only[am,ig.enc];refine bJ.intro (P9 x.tok.kind _) ?_;simp only[am]
      by_cases hk:closing x.tok.kind=t.kind
      .rw[aE hk] at hR;simp only[am,aQ hk,wn];refine ix (fu) ?_;simp only[am,cF,Nat.reduceAdd,ig.enc,wn];refine HW (by simp) ?_;have C':jf Z σ' ((x.tk,(dC x.ahead).length)::ys.map ig.tn):=by
        refine(hT.tail.tail).perm ?_;simp only[f_,b8,eR,ig.tn];exact X2 _ _
       have hx3:=qR x (by simp);simp only[bN,dd,eM] at fv;simp only[am,Nat.reduceAdd];refine I6 C' (by rw[kh];simp[aO];omega) λυ kq=>?_
       simp only[kh,dd,eM,jy] at kq;simp only[am,kh,wi];have e:dC x.ahead++[[V.int .u8 x.tok.kind,.aF x.tok.an,.int .i64 x.tok.pos,.sl .no 5 (dC row),.int .i64 t.pos]]=dC (x.ahead++[.mk x.tok row t.pos]):=by simp[sL,ar.enc]
       have e2:((ys++[x]).map ig.enc).take ys.length=ys.map ig.enc:=by simp
       rw[e,e2];refine again ⟨i+1,.aV,ys,.tk υ,x.ahead++[.mk x.tok row t.pos],σ'.aY υ (x.ahead.length+1)⟩ _ _ ⟨aB,hR,?_,by simp only;omega,by simp;omega,λy hy=>by have:=qR y (by simp[hy]);simp only;omega⟩ rfl (by simp[s9,au,am]) (by simp[am]);refine jf.aV ?_;simpa [kh] using kq
      .rw[aC hk] at hR;simp only[am,aM hk];refine(Fw t _).mono ?_;rintro v σ' ⟨rfl,rfl⟩;simp only[am,Nat.reduceAdd,jR];refine aP rfl hT.1 ⟨?_,rfl⟩;simp[V.erase,bx,<-hR,c9,fJ,dC]
   .rw[aE hc] at hR;simp only[am,aM hc];rw[aN] at hR
    by_cases sO:24<=op.length
    .rw[aE sO] at hR;simp only[am,aQ (show(24:Int)<=op.length by omega)];refine(Fw t _).mono ?_;rintro v σ' ⟨rfl,rfl⟩;simp only[am,Nat.reduceAdd,jR];refine aP rfl hT.1 ⟨?_,rfl⟩;simp[V.erase,bx,<-hR,c9,fJ,dC]
    .rw[aC sO] at hR;simp only[am,pn,Nat.reduceAdd,aM (show ¬(24:Int)<=op.length by omega),anO];refine I6 hT (by simp[aO];omega) λυ kq=>?_
     simp only[aN,dd,eM,jy] at kq;simp only[am,aN,wi];have e:op.map ig.enc++[[V.int .u8 t.kind,.aF t.an,.int .i64 t.pos,.sl B6 5 (dC row)]]=(op++[(⟨t,B6,row⟩:ig)]).map ig.enc:=by simp[ig.enc]
     rw[e];refine again ⟨i+1,.tk υ,op++[⟨t,B6,row⟩],.aV,[],σ'.aY υ (op.length+1)⟩ _ _ ⟨aB,by simpa [ig.pair] using hR,?_,by simp;omega,by simp,λx hx=>?_⟩ rfl (by simp[s9,au,am,dC]) (by simp[am])
     .simp only[aN,bN,dd,eM,jy,f_,b8,eR,ig.tn];refine jf.perm (jf.aV (n:=(dC []).length) kq) ?_;refine(List.Perm.swap _ _ _).trans (List.Perm.cons _ (List.Perm.cons _ ?_));exact(X2 _ _).symm
     .rcases jw.1 hx with hx | hx
      .have:=qR x hx;simp only;omega
      .simp at hx;subst hx;simp only;omega
  .intro aB;have aB:i=l.length:=by simp at aB;omega
   subst aB;rw[ER] at hR;simp only[fS] at hR;simp only[am,aN];refine e9 ?_ ?_
   .intro h0
    rcases WH op with rfl | ⟨ys,x,rfl⟩
    .simp at h0
    have wn:IntKind.i64.wrap ((((ys++[x]).length:Nat):Int) - 1)=(ys.length:Nat):=by rw[wrap_i64 (by simp<;>omega) (by simp at fv ⊢<;>omega)];simp
    have fu:((ys++[x]).map ig.enc)[((ys.length:Nat):Int).toNat]?=U x.enc:=by simp
    simp only[f_,b8,eR,EV,ig.pair] at hR;simp only[am,wn];refine ix (fu) ?_;simp only[am,ig.enc];refine(Fw x.tok _).mono ?_;rintro v σ' ⟨rfl,rfl⟩;simp only[am,Nat.reduceAdd,jR];refine aP rfl hT.1 ⟨?_,rfl⟩;simp[V.erase,bx,<-hR,c9,fJ,dC]
   .intro h0;have h0:op=[]:=by
     cases op with
     | nil=>rfl
     | cons x xs=>simp at h0<;>omega
    subst h0;simp only[eR,List.getLast?_nil] at hR;simp only[am,Nat.reduceAdd];refine aP rfl hT.1 ⟨?_,rfl⟩;simp[V.erase,bx,<-hR,jR,c9,fJ]
def ahc:aT prog 98 (sq [rg 0 [oZ 2 [1,0]],rg 4 [om 0,oc 165 [.s 4,.c (.int .u8 97)],oZ 3 [3,1,0,10,0],o2 5 3],rg 6 [of 0 3,nF 1,of 0 3,nF 2,oW [1,0] [(0,1,8),(1,1,11)],o2 2 2],.ret]) [.cell 2 aa 2] 13:=aW func98
def aed:aT prog 102 (sq [sq [rg 2 [mk 0,nf 3,nF 0,nB .neq 0],ci 7 .ret],rg 8 [om 0,mk 0,nF 2,oG [0,0] [(0,1,.c (.int .i64 2)),(1,1,.s 12)],ok 8,nf 3,os 2 15 13],dg 16 [mk 0,nF 1,mk 0,nF 0,nL,nb .lss 19],ci 25 (dg 26 [om 0,mk 0,nF 0,mk 0,nF 1,nA 5 30,nf 0,nF 2,ok 26,nf 3,nf 1,os 1 41 38])]) [] 42:=aW func102
def aeO:aT prog 165 (sq [rg 0 [oZ 4 [3,1,0,10,0]],sq [dg 5 [mk 0,nf 3,nF 0,nB .neq 0,gB,mk 0,nF 1,mk 0,nF 0,nL,nb .geq 15,gZ,gB,mk 0,nF 0,mk 0,nF 1,nA 5 27,nf 0,nF 0,om 1,nb .neq 35,gZ],ci 38 (sq [rg 39 [om 0,oC 102 [39]],rg 41 [oW [3,1,0,10,0] [],o2 5 4],.ret])],rg 42 [mk 0,nF 1,nB .add 1,ok 42,nf 1,os 1 48 46],dg 49 [mk 0,nF 0,mk 0,nF 1,nB .sub 1,nA 5 52,nl 5,o2 5 4],.ret]) [.cell 4 aa 5] 60:=aW func165
def aeR:aT prog 168 (sq [rg 0 [ox 5 5 1,ox 7 2 3],sq [rg 8 [nF 0,nB .neq 0],cr 10 11 [om 0,ol 2 7,ok 11,nf 3,os 2 14 12]],rg 15 [om 0,om 2,ok 15,nf 1,os 1 18 16],sq [rg 19 [mk 0,nf 5,nf 7,nF 0,nB .eql 0],cr 25 26 [om 0,ol 5 5,ok 26,nf 5,nf 7,os 5 30 27]],rg 31 [om 0,ol 5 5,ok 31,nf 5,nf 12,os 5 35 32]]) [] 36:=aW func168
variable{cs:List V}{r:Nat}{rd:ab}
def P2(h:Z.box r=U (rd.enc++cs))(h0:0<=rd.at_):dt 102 [.ptr (.out r) 0] Z (.bt []) (Z.set r (rd.fail.enc++cs)):=by
 refine aed.aS ?_;simp only[aR,am,a8,am,h,ab.enc];cases hb:rd.aG with
 | some b =>
  simp only[am,Nat.reduceAdd,fk,Int.reduceEq,c9];refine aP rfl (ag.bc _) ⟨rfl,?_⟩;rw[ab.fail,hb];exact(ag.yq h).symm
 | none =>
  simp only[am,Nat.reduceAdd,kh,bM,c9,h,ab.enc]
  by_cases h1:rd.at_<rd.l.length
  .obtain⟨j,hj⟩:=Co h0;have gM : j<rd.l.length:=by omega
   simp only[am,bM,h1,bM];refine qZ h0 (c:=rd.l[j].enc) (by simp[sL,hj,gM]) ?_;simp only[am,Nat.reduceAdd,df];refine aP rfl (ag.bc _) ⟨rfl,?_⟩;simp[ab.fail,ab.spot,hb,hj,gM,fJ]
  .simp only[am,fk,h1,fk];refine aP rfl (ag.bc _) ⟨rfl,?_⟩
   have:rd.l[rd.at_.toNat]?=none:=yM (by omega)
   simp[ab.fail,ab.spot,hb,this,fJ]
def FJ{k:Int}(h:Z.box r=U (rd.enc++cs))(h0:0<=rd.at_)(hb:rd.l.length<=aO):dt 165 [.ptr (.out r) 0,.int .u8 k] Z (.agg (rd.take k).1.enc) (Z.set r ((rd.take k).2.enc++cs)):=by
 refine aeO.aS ?_;simp only[aR,am,a8,am,h,ab.enc];have iM:rd.bT k=ak->dt 102 [.ptr (.out r) 0] Z (.bt []) (Z.set r (rd.fail.enc++cs)):=λ_=>P2 h h0
 cases fK:rd.aG with
 | some b =>
  have hs:rd.bT k=false:=by simp[ab.bT,ab.ok,fK]
  simp only[am,Nat.reduceAdd,fk,Int.reduceEq,c9];refine(iM hs).mono ?_;rintro v σ' ⟨rfl,rfl⟩;simp only[am,Nat.reduceAdd];refine aP rfl (ag.bc _) ⟨?_,?_⟩
  .simp[ab.take,hs,V.erase,bx,ar.zero,ar.enc,dC]
  .simp[ab.take,hs,ab.enc,c9]
 | none =>
  simp only[am,Nat.reduceAdd,kh,bM,c9,h,ab.enc]
  by_cases h1:rd.at_<rd.l.length
  .obtain⟨j,hj⟩:=Co h0;have gM : j<rd.l.length:=by omega
   simp only[am,aM (show ¬(rd.l.length:Int)<=rd.at_ by omega),h,ab.enc];refine qZ h0 (c:=rd.l[j].enc) (by simp[sL,hj,gM]) ?_;simp only[am,df]
   by_cases hk:rd.l[j].tok.kind=k
   .have hs:rd.bT k=true:=by simp[ab.bT,ab.ok,fK,bz,hj,gM,hk]
    have w1:IntKind.i64.wrap (rd.at_+1)=rd.at_+1:=by simp only[aO] at hb;exact wrap_i64 (by omega) (by omega)
    have w2:IntKind.i64.wrap (rd.at_+1 - 1)=rd.at_:=by rw[show rd.at_+1 - 1=rd.at_ by omega];simp only[aO] at hb;exact wrap_i64 (by omega) (by omega)
    simp only[am,aQ hk,h,ab.enc,w1,w2];refine qZ h0 (c:=rd.l[j].enc) (by simp[sL,hj,gM]) ?_;simp only[am,ar.al];refine aP ar.dw (ag.bc _) ⟨?_,?_⟩
    .simp[ab.take,hs,V.erase,hj,gM,gU,ar.al];exact df _
    .simp[ab.take,hs,c9]
   .have hs:rd.bT k=false:=by simp[ab.bT,ab.ok,fK,bz,hj,gM,hk]
    simp only[am,aM hk];refine(iM hs).mono ?_;rintro v σ' ⟨rfl,rfl⟩;simp only[am,Nat.reduceAdd];refine aP rfl (ag.bc _) ⟨?_,?_⟩
    .simp[ab.take,hs,V.erase,bx,ar.zero,dC,ar.tok,ar.ah,ar.fin]
    .simp[ab.take,hs,ab.enc,c9]
  .have hs:rd.bT k=false:=by
    have:rd.l[rd.at_.toNat]?=none:=yM (by omega)
    simp[ab.bT,ab.ok,fK,bz,this]
   simp only[am,aQ (show(rd.l.length:Int)<=rd.at_ by omega)];refine(iM hs).mono ?_;rintro v σ' ⟨rfl,rfl⟩;simp only[am,Nat.reduceAdd];refine aP rfl (ag.bc _) ⟨?_,?_⟩
   .simp[ab.take,hs,V.erase,bx,ar.zero,ar.enc,dC]
   .simp[ab.take,hs,ab.enc,c9]
def CQ(h:Z.box r=U (rd.enc++cs))(h0:0<=rd.at_)(hb:rd.l.length<=aO):dt 98 [.ptr (.out r) 0] Z (.agg rd.word.1.enc) (Z.set r (rd.word.2.enc++cs)):=by
 refine ahc.aS ?_;simp only[aR,am,a8,Nat.reduceAdd];refine(FJ h h0 hb).mono ?_;rintro v σ' ⟨rfl,rfl⟩;simp only[am,Nat.reduceAdd,ar.al,ar.fl];refine aP rfl (ag.bc _) ⟨?_,?_⟩
 .simp[ab.word,V.erase,bx,aA.enc]
 .simp[ab.word]
variable{c:aq}{pc:V}
def Qd{g:Nd × Int × Option Int}(h:Z.box r=U (rd.enc++c.cQ pc))(hb:rd.aG=af):dt 168 [.ptr (.out r) 0,.agg g.1.enc,.int .i64 g.2.1,jR g.2.2] Z (.bt []) (Z.set r ((iO rd c g).1.enc++(iO rd c g).2.cQ pc)):=by
 refine aeR.aS ?_;simp only[aR,am,a8,Nat.reduceAdd,Nd.al];simp only[am,Nat.reduceAdd,jR,ab.enc,aq.cQ];cases hg:g.2.2 with
 | some a =>
  simp only[am,Nat.reduceAdd,fk,Int.reduceEq,c9,h,ab.enc,aq.cQ];refine aP rfl (ag.bc _) ⟨rfl,?_⟩;simp[iO,hg]
 | none =>
  simp only[am,Nat.reduceAdd,bM,c9,h,ab.enc,aq.cQ]
  by_cases hk:c.left.kind=0
  .simp only[am,Nat.reduceAdd,aQ hk,Nd.df];refine aP rfl (ag.bc _) ⟨rfl,?_⟩;simp[iO,hg,hk]
  .simp only[am,Nat.reduceAdd,aM hk,Nd.df];refine aP rfl (ag.bc _) ⟨rfl,?_⟩;simp[iO,hg,hk]
def ahd:aT prog 99 (sq [rg 2 [oi 0],sq [rg 4 [oi 0],bl 0 (sq [rg 5 [nB .lss 16],cx 5 0,.block 1 (sq [rg 6 [om 4,o1 3],rg 7 [om 3,nB .gtr 0,gA,om 3,oq (.q_ 16 2 (.c (.ptr (.jT 0) 0)) (.s 10)),nF 0,om 0,nE .eql 13,gZ],cr 16 17 [om 3,o1 2]]),rg 18 [oB .add 4 1,o1 4]])],rg 2 [oi 0],.ret]) [.tmp 2] 19:=aW func99
def aec:aT prog 100 (sq [rg 0 [oZ 2 [1,1]],sq [rg 3 [om 0,nB .lss 0,gB,om 0,nB .geq 16,gZ],cr 8 9 [oW [1,1] [],o2 2 2]],rg 10 [om 0,oq (.q_ 16 2 (.c (.ptr (.jT 0) 0)) (.s 10)),nl 2,o2 2 2],.ret]) [.cell 2 aa 2] 13:=aW func100
def Rw{i:Nat}(h:i<16):gh.drop (i*2)=[V.aF (jS.getD i ([],[])).1,.aF (jS.getD i ([],[])).2]++((jS.map λp=>[V.aF p.1,V.aF p.2]).drop (i+1)).flatten:=by
 unfold gh;rw[JR (k:=2) (by intro r hr;simp only[tW] at hr;obtain⟨p,_,rfl⟩:=hr;rfl),mq (by simpa [jS] using h)]
 have:i<jS.length:=by simpa [jS] using h
 simp[gU,this]
def MB(op:Int)(hg:Z.bY 0=U gh):a_ 100 [.int .i64 op] Z (.agg [.aF (cp op).1,.aF (cp op).2]):=by
 refine aec.aS ?_;simp only[aR,am,a8,Nat.reduceAdd]
 by_cases h0:op<0
 .simp only[am,Nat.reduceAdd,aQ h0];refine aP rfl (ag.bc _) ⟨?_,rfl⟩
  have:¬(0<=op/\op<16):=by omega
  simp[V.erase,bx,cp,this]
 .simp only[am,aM h0]
  by_cases h1:16<=op
  .simp only[am,Nat.reduceAdd,aQ h1];refine aP rfl (ag.bc _) ⟨?_,rfl⟩
   have:¬(0<=op/\op<16):=by omega
   simp[V.erase,bx,cp,this]
  .simp only[am,cF,aM h1];refine jD ?_;simp only[am,Nat.reduceAdd,hg,Rw (show op.toNat<16 by omega)];refine aP rfl (ag.bc _) ⟨?_,rfl⟩
   have:0<=op/\op<16:=by omega
   simp[V.erase,bx,cp,this]
def xW(w:List UInt8)(Z:ag)(i:Nat):St:=⟨[.aF w,.any,.any,.any,.int .i64 (i:Nat)]++au 14 .any,[],Z⟩
def alN(w:List UInt8)(hg:Z.bY 0=U gh):a_ 99 [.aF w] Z (.int .i64 (iD w)):=by
 generalize hR:iD w=R;unfold iD at hR;refine ahd.aS ?_;simp only[aR,am,a8,Nat.reduceAdd];refine iG (λp:{p:Nat × Nat // nj w p.1 p.2=R/\p.2+p.1=16}=>xW w Z p.1.2) (λp=>p.1.1) ?_ ?_
 .refine bq.enter ⟨(16,0),hR,rfl⟩ ?_ cm.rfl bL.rfl;simp[xW,au,am]
 .rintro⟨⟨n,i⟩,hR,hs⟩;simp only at hR hs;simp only[xW,au,am]
  by_cases aB:i<16
  .obtain⟨m,rfl⟩:∃m,n=m+1:=⟨n - 1,by omega⟩;simp only[nj] at hR;have wi:IntKind.i64.wrap ((i:Int)+1)=((i+1:Nat):Int):=by rw[wrap_i64];simp
   have hf:cp (i:Nat)=jS.getD i ([],[]):=by simp only[cp];rw[aE (by omega)];simp
   have again:∀(t:List V),nj w m (i+1)=R->cJ t (xW w Z (i+1)).t->bq ⟨t,[],Z⟩ λaJ => ∃j:{p:Nat × Nat // nj w p.1 p.2=R/\p.2+p.1=16},aJ = xW w Z j.1.2/\j.1.1<m+1:=λt h ht =>
    bq.again (I:=λp:{p:Nat × Nat // nj w p.1 p.2=R/\p.2+p.1=16}=>xW w Z p.1.2) (μ:=λp=>p.1.1) ⟨(m,i+1),h,by simp only;omega⟩ (by simp) ht cm.rfl bL.rfl
   simp only[am,aQ (show(i:Int)<16 by omega)]
   by_cases h0:0<i
   .simp only[am,cF,aQ (show(0:Int)<i by omega)];refine jD ?_;simp only[am,hg,Rw aB,ju]
    by_cases hw:(jS.getD i ([],[])).1=w
    .rw[aE ⟨h0,by rw[hf];exact hw⟩] at hR;simp only[am,aQ hw];refine aU ?_;simp[V.erase,hR]
    .rw[aC (by rw[hf];exact λh=>hw h.2)] at hR;simp only[am,aM hw,wi];exact again _ hR (by simp[xW,au,am])
   .rw[aC (by simp[h0])] at hR;simp only[am,aM (show ¬(0:Int)<i by omega),wi];exact again _ hR (by simp[xW,au,am])
  .obtain rfl:n=0:=by omega
   simp only[nj] at hR;simp only[am,aM (show ¬(i:Int)<16 by omega)];refine aU ?_;simp[V.erase,hR]
def aeQ:aT prog 167 (sq [rg 6 [om 0,oc 165 [.s 6,.c (.int .u8 123)],oZ 2 [3,1,0,10,0],o2 5 2],rg 8 [om 0,of 0 2,nF 2,ok 8,nf 5,nf 6,os 1 14 11],sq [rg 15 [mk 0,nf 3,nF 0,nB .neq 0,gB,fo 3 2,nL,nB .eql 0,gZ],ci 26 .ret],rg 27 [fo 3 2,fo 4 2,oW [10,0,0,0,0,0,0,1,0,7,9,0,0,0,1,7,10,0,0,1,7,10] [(0,1,28),(2,1,30)],oq (.gf 22 (.s 31)),o1 3],bl 0 (sq [sq [rg 33 [mk 3,nf 3,nF 0,nB .eql 0],cx 38 0],.block 1 (sq [rg 39 [om 3,oC 98 [39],oZ 4 [1,0],o2 2 4],rg 41 [om 3,oc 165 [.s 41,.c (.int .u8 60)]],rg 43 [om 3,oC 98 [43],oZ 5 [1,0],o2 2 5],dg 45 [om 0,mk 0,nf 5,nF 5,ol 2 4,ol 2 5,oW [1,0,1,0] [(0,2,51),(2,2,52)],n1 4,na 4 50,ok 45,nf 5,nf 5,os 1 58 55],sq [dg 59 [mk 3,nF 1,mk 3,nF 0,nL,nb .eql 62],ci 68 (.exit 0)],rg 69 [om 3,oc 165 [.s 69,.c (.int .u8 44)]]])]),.pf (rg 71 [mk 3,nf 3,nF 0,nB .neq 0]),ci 76 (rg 77 [om 0,mk 3,nf 3,nl 2,ok 77,nf 3,os 2 83 81])]) [] 84:=aW func167 ⟨[32],[11]⟩
def aro{r:ab}{k:Int}:((r.take k).1.ah.length:Int)<=bd r.l:=by
 have:=(r.vg k).1
 have:=lM (r.take k).1.ah
 omega
def Xn(r:ab):lk r r.word.2:=xx r
def gH:List V:=[.int .i64 0,.int .i64 0,.aF [],.int .i64 0,.sl .aV 2 [],.sl .aV 4 [],.int .i64 0,.int .i64 0,.int .i64 0,.aF [],.sl .aV 2 [],.sl .aV 5 [],.int .i64 0,.int .i64 0,.aF [],.sl .aV 2 [],.sl .aV 5 []]
def anj(h:Z=σ'):bL Z σ' := h▸bL.rfl
structure E_ where
 n:Nat
 i:ab
 acc:List (aA × aA)
 Y:Nat
def pN(Z:ag)(r q Y:Nat)(i rd:ab)(c:aq)(acc:List (aA × aA)):ag:=((Z.set q (i.enc++gH)).set r (rd.enc++c.cQ (.sl (.tk Y) 4 (acc.map ff)))).aY Y acc.length
section
variable {Z:ag} {r q Y:Nat} {i i' rd:ab} {c:aq} {acc:List (aA × aA)}
def BU(h:q≠r):(pN Z r q Y i rd c acc).box q=U (i.enc++gH):=by simp[pN,ag.aY,ag.set,h]
def UN:(pN Z r q Y i rd c acc).box r=U (rd.enc++c.cQ (.sl (.tk Y) 4 (acc.map ff))):=by simp[pN,ag.aY,ag.set]
def anT:(pN Z r q Y i rd c acc).aK Y=U acc.length:=by simp[pN,ag.aY]
def HA(h:q≠r):(pN Z r q Y i rd c acc).set q (i'.enc++gH)=pN Z r q Y i' rd c acc:=by
 have:((Z.set q (i.enc++gH)).set r (rd.enc++c.cQ (.sl (.tk Y) 4 (acc.map ff)))).set q (i'.enc++gH)=(Z.set q (i'.enc++gH)).set r (rd.enc++c.cQ (.sl (.tk Y) 4 (acc.map ff))):=by rw[ag.set_comm (fi h),ag.set_set]
 show(((Z.set q (i.enc++gH)).set r (rd.enc++c.cQ (.sl (.tk Y) 4 (acc.map ff)))).set q (i'.enc++gH)).aY Y acc.length=_;rw[this];rfl
theorem abo:bF ak 1 ((rd.enc++c.cQ pc).drop 10)=U pc:=rfl
theorem abu{x:V}:setAt (rd.enc++c.cQ pc) 10 [x]=rd.enc++c.cQ x:=rfl
theorem abm:bZ 1 ((rd.enc++c.cQ pc).drop 10)=true:=rfl
theorem abn:bF ak 1 (rd.enc++cs)=U (.sl .no 5 (dC rd.l)):=rfl
theorem abe:bF ak 1 ((rd.enc++cs).drop 1)=U (.int .i64 rd.at_):=rfl
theorem abh:bF ak 1 ((rd.enc++cs).drop 2)=U (.int .i64 rd.fin):=rfl
theorem abf:bF ak 1 ((rd.enc++cs).drop 3)=U (.int .i64 (c9 rd.aG)):=rfl
theorem abg:takeN 2 ((rd.enc++cs).drop 3)=U [.int .i64 (c9 rd.aG),.int .i64 (fJ rd.aG)]:=rfl
theorem abj:bZ 2 ((rd.enc++cs).drop 3)=true:=rfl
variable{b:Option Int}
def abq:setAt (rd.enc++cs) 3 [.int .i64 (c9 b),.int .i64 (fJ b)]=({rd with aG:=b}:ab).enc++cs:=by cases cs<;>rfl
def lv:=ae @abo <| ae @abu <| ae @abm <| ae @abn <| ae @abe <| ae @abh <| ae @abf <| ae @abg <| ae @abj @abq
variable{p:aA × aA}
def anS{n:Nat}(hn:n=acc.length+1):((pN Z r q Y i rd c acc).aY Y n).set r (rd.enc++c.cQ (.sl (.tk Y) 4 (acc.map ff++[ff p])))=pN Z r q Y i rd c (acc++[p]):=by
 subst hn;unfold pN;rw[bN,dd,eM,f_,b8,eR];show((((Z.set q (i.enc++gH)).set r (rd.enc++c.cQ (.sl (.tk Y) 4 (acc.map ff)))).set r (rd.enc++c.cQ (.sl (.tk Y) 4 (acc.map ff++[ff p])))).aY Y acc.length).aY Y (acc.length+1)=_;rw[ag.set_set,jr]
end
def ag.NX{X:List V}(h:Z.sub σ'):(Z.set r X).sub (σ'.set r X):=by
 refine⟨λb cs hb=>?_,h.2⟩;simp only[ag.set] at hb ⊢
 by_cases e:b=r
 .rw[aE e] at hb ⊢;exact hb
 .rw[aC e] at hb ⊢;exact h.1 b cs hb
def xd(r q:Nat):List V:=[.ptr (.out r) 0,.any,.any,.ptr (.out q) 0]++au 80 .any
variable{acc:List (aA × aA)}
def UW{q Y:Nat}{i:ab}{t:List V}{l:List (List V)}{K:St->Prop}(br:Z.aK Y=af)(ht:cJ t (xd r q))
 (hK:K ⟨xd r q,[],(Z.set q (i.enc++gH)).set r (rd.enc++c.cQ (.sl .no 4 (acc.map ff)))⟩):bq ⟨t,l,pN Z r q Y i rd c acc⟩ K:=by
 refine bq.A8 (l' := []) ht (by simp[cm]) ?_ (by simp[xd,au,bS,V.lo]) rfl hK;refine⟨λb cs' hb=>?_,λυ m hm=>?_,λ_ _ h=>h⟩
 .simp only[pN,ag.aY,ag.set] at hb ⊢;split at hb
  .rename_i h;subst h;simp only[aZ] at hb;subst hb;exact⟨_,by rw[aE rfl],by simp[ab.enc,aq.cQ,am]⟩
  .rename_i h;exact⟨cs',by rw[aC h];exact hb,cJ.rfl⟩
 .have hm:Z.aK υ=U m:=hm;have aX:υ≠Y:=by rintro rfl;rw[br] at hm;simp at hm
  simp only[pN,ag.aY,ag.set,aC aX];exact hm
def yi{n:Nat}{i:ab}(h:i.aG≠af):ab.fW n i acc=(i,acc):=by
 cases n<;>simp[ab.fW,h]
variable{ps:List (aA × aA)}
def MT(h:ps≠[]):qn ps = .sl .no 4 (ps.map ff):=by cases ps with | nil=>exact absurd rfl h | cons _ _=>rfl
def wh(Z:ag)(r q:Nat)(rd:ab)(c:aq)(p:E_):St :=
 ⟨[.ptr (.out r) 0,.any,.any,.ptr (.out q) 0]++au 80 .any,[],pN Z r q p.Y p.i rd c p.acc⟩
def Pc(t:ar)(Z:ag)(R:ab × List (aA × aA))(p:E_):Prop :=
 ab.fW p.n p.i p.acc=R/\p.i.l=t.ah/\0<=p.i.at_/\p.i.at_<=p.i.l.length/\(p.i.aG=af->(t.ah.length:Int)+1<=p.i.at_+p.n)/\(p.acc.length:Int)<=p.i.at_+1/\(p.i.aG=af->(p.acc.length:Int)<=p.i.at_)/\Z.aK p.Y=af/\(p.i.aG=af\/p.acc≠[])
def anY(h:Z.box r=U (rd.enc++c.cQ (.sl .aV 4 [])))(hc:c.bm=[])(h0:0<=rd.at_)(hm:bd rd.l+1<=aO):
 dt 167 [.ptr (.out r) 0] Z (.bt []) (Z.set r ((o9 rd c).1.enc++(o9 rd c).2.cQ (qn (o9 rd c).2.bm))):=by
 have hlen:=lM rd.l;refine aeQ.aS ?_;simp only[aR,am,a8,Nat.reduceAdd];refine(FJ h h0 (by omega)).mono ?_;rintro v σ' ⟨rfl,rfl⟩;have fP:=aro (r:=rd) (k:=123);have GI:o9 rd c=if (rd.take 123).2.aG≠af\/(rd.take 123).1.ah.length=0 then((rd.take 123).2,{c with mJ:=(rd.take 123).1.tok.pos})
  else((rd.take 123).2.ue ((rd.take 123).1.inner.fW ((rd.take 123).1.ah.length+1) []).1.aG,{c with mJ:=(rd.take 123).1.tok.pos,bm:=((rd.take 123).1.inner.fW ((rd.take 123).1.ah.length+1) []).2}):=rfl
 rw[GI];generalize (rd.take 123).1=t at fP ⊢;generalize (rd.take 123).2=r1;simp only[am,Nat.reduceAdd,ar.al,ar.fl,ab.enc,aq.cQ];cases hb:r1.aG with
 | some b =>
  simp only[am,fk,Int.reduceEq,c9];refine aP rfl (ag.bc _) ⟨rfl,?_⟩;simp[hc,qn,hb]
 | none =>
  simp only[am,kh,bM,c9,ar.fl]
  by_cases hk:t.ah.length=0
  .simp only[am,aQ (show(t.ah.length:Int)=0 by omega)];refine aP rfl (ag.bc _) ⟨rfl,?_⟩;simp[hc,qn,hb,hk]
  .simp only[am,Nat.reduceAdd,aM (show ¬(t.ah.length:Int)=0 by omega),ar.fl];refine j1 λq hq=>?_
   have kn:q≠r:=by rintro rfl;simp[ag.set] at hq
   have Lb:Z.box q=none:=by simpa [ag.set,kn] using hq
   generalize hR:ab.fW (t.ah.length+1) t.inner []=R;rw[aC (by simp[hk])];have eJ:t.inner=(⟨t.ah,0,t.fin,af⟩:ab):=rfl;generalize Gm:({c with mJ:=t.tok.pos}:aq)=c1;have e1:∀A B,(Z.set r A).set q B=(Z.set q B).set r A:=λA B=>ag.set_comm (fi kn)
   rw[e1];refine iG (λp:{p:E_ // Pc t Z R p}=>wh Z r q r1 c1 p.1) (λp=>p.1.n) ?_ ?_
   .refine(bq.A8 (t' := (wh Z r q r1 c1 ⟨0,t.inner,[],0⟩).t) (l' := []) (σ' := (Z.set q (t.inner.enc++gH)).set r (r1.enc++c1.cQ (.sl .aV 4 []))) ?_ trivial ?_ (by simp[wh,au,bS,V.lo]) rfl rfl).bind ?_
    .simp[wh,au,am]
    .refine anj ?_;simp[ab.enc,aq.cQ,gH,<-Gm,eJ,hb,c9,fJ];rfl
    .rintro _ rfl;refine bq.tok 0 λY br=>⟨_,[],(Z.set q (t.inner.enc++gH)).set r (r1.enc++c1.cQ (.sl (.tk Y) 4 [])),ey.rfl,rfl,by simp,?_,⟨⟨t.ah.length+1,t.inner,[],Y⟩,?_⟩,?_⟩
     .have:=p8.set (Z:=(Z.set q (t.inner.enc++gH)).set r (r1.enc++c1.cQ (.sl .aV 4 []))) (b:=r) (Y:=Y) (n:=0) (cs' := r1.enc++c1.cQ (.sl (.tk Y) 4 [])) (ag.d_ _ _ _) (by simp[ab.enc,aq.cQ,o5])
      rwa [ag.set_set] at this
     .exact⟨hR,rfl,by simp[eJ],by simp[eJ],λ_=>by simp[eJ],by simp[eJ],λ_=>by simp[eJ],br,.inl rfl⟩
     .rfl
   .rintro⟨⟨n,i,acc,Y⟩,hR,hl,GA,pA,hn,ha1,Ko,br,aX⟩;simp only at hR hl GA pA hn ha1 Ko br aX;simp only[wh,au,am,BU kn,lv];have hC : i.l.length=t.ah.length:=by rw[hl]
    have Dq:i.l.length<=aO:=by rw[hl];omega
    cases fK:i.aG with
    | some b =>
     simp only[am,fk,Int.reduceEq,c9];rw[yi (by simp[fK])] at hR;have ah_:acc≠[]:=by rcases aX with h | h;rw[fK] at h;simp at h;exact h
     refine UW br (by simp[xd,au,am]) ?_;have vV:∀B,((Z.set q (i.enc++gH)).set r B).box q=U (i.enc++gH):=λB=>by simp[ag.set,kn]
     have uE:∀A B,((Z.set q A).set r B).box r=U B:=λA B=>by simp[ag.set]
     simp only[xd,au,am,vV,lv,fK,c9];simp only[am,Nat.reduceAdd,fk,Int.reduceEq,vV,lv,fK,c9];refine aP rfl (ag.NX (h_ Lb)) ⟨rfl,?_⟩;simp[<-hR,ab.ue,fK,MT ah_,<-Gm,ab.enc,aq.cQ,c9,fJ];rfl
    | none =>
     have Ko:=Ko fK;have hn:=hn fK;obtain⟨m,rfl⟩:∃m,n=m+1:=⟨n - 1,by omega⟩;simp only[ab.fW,fK,ne_eq,Hu,cn] at hR;simp only[am,bM,c9];refine(CQ (BU kn) GA Dq).mono ?_;rintro v σ' ⟨rfl,rfl⟩;rw[HA kn];obtain⟨g1,g2⟩:=Xn i;have g2:=g2 GA pA;have e1:i.word.2.l.length=i.l.length:=by rw[g1]
     generalize i.word.2=i1 at *;generalize i.word.1=lo at *;simp only[am,aA.al];refine(FJ (BU kn) (by omega) (by rw[g1];exact Dq)).mono ?_;rintro v σ' ⟨rfl,rfl⟩;rw[HA kn];obtain⟨g3,g4⟩:=sM i1 60;have g4:=g4 (by omega) (by omega);have e2:(i1.take 60).2.l.length=i1.l.length:=by rw[g3]
     generalize (i1.take 60).2=i2 at *;simp only[am];refine(CQ (BU kn) (by omega) (by rw[g3,g1];exact Dq)).mono ?_;rintro v σ' ⟨rfl,rfl⟩;rw[HA kn];obtain⟨g5,g6⟩:=Xn i2;have g6:=g6 (by omega) (by omega);have e3:i2.word.2.l.length=i2.l.length:=by rw[g5]
     generalize i2.word.2=i3 at *;generalize i2.word.1=hi at *;simp only[am,Nat.reduceAdd,UN,lv,aA.enc];refine xf (by simp[aO] at hm ⊢;omega) (by rw[aN];exact anT) ?_;simp only[am,Nat.reduceAdd,aN,UN,lv];rw[show [V.aF lo.an,V.int .i64 lo.pos,.aF hi.an,.int .i64 hi.pos]=ff (lo,hi) from rfl,anS rfl];simp only[am,kh,BU kn,lv];have v7:acc++[(lo,hi)]≠[]:=by simp
     by_cases iv:i3.at_=i.l.length
     .rw[aE iv] at hR;simp only[am,Nat.reduceEqDiff,aQ (show i3.at_=(i3.l.length:Int) by omega)];refine UW br (by simp[xd,au,am]) ?_;have vV:∀B,((Z.set q (i3.enc++gH)).set r B).box q=U (i3.enc++gH):=λB=>by simp[ag.set,kn]
      have uE:∀A B,((Z.set q A).set r B).box r=U B:=λA B=>by simp[ag.set]
      cases qR:i3.aG with
      | none =>
       simp only[xd,au,am,vV,lv,qR,c9];simp only[am,bM];refine aP rfl (ag.NX (h_ Lb)) ⟨rfl,?_⟩;simp[<-hR,ab.ue,qR,MT v7,<-Gm,hb,ab.enc,aq.cQ,c9,fJ]
      | some b =>
       simp only[xd,au,am,vV,lv,qR,c9];simp only[am,Nat.reduceAdd,fk,Int.reduceEq,vV,lv,qR,c9];refine aP rfl (ag.NX (h_ Lb)) ⟨rfl,?_⟩;simp[<-hR,ab.ue,qR,MT v7,<-Gm,ab.enc,aq.cQ,c9,fJ];rfl
     .rw[aC iv] at hR;simp only[am,aM (show ¬i3.at_=(i3.l.length:Int) by omega)];refine(FJ (BU kn) (by omega) (by omega)).mono ?_;rintro v σ' ⟨rfl,rfl⟩;rw[HA kn];obtain⟨g7,g8⟩:=sM i3 44;have g8:=g8 (by omega) (by omega);have e4:(i3.take 44).2.l.length=i3.l.length:=by rw[g7]
      generalize (i3.take 44).2=i4 at *;simp only[am];refine bq.ud (I:=λp:{p:E_ // Pc t Z R p}=>wh Z r q r1 c1 p.1) (μ:=λp=>p.1.n) ⟨⟨m,i4,acc++[(lo,hi)],Y⟩,hR,by rw[<-hl,g7,g5,g3,g1],by simp only;omega,by simp only;omega,λvU=>?_,?_,λvU=>?_,br,.inr v7⟩ (by simp) (by simp[wh,au,am]) (by simp[cm,wh]) bL.rfl (by simp[wh,au,bS,V.lo]) rfl
      .have:=g8.2.2 vU;simp only;omega
      .simp;omega
      .have:=g8.2.2 vU;simp;omega
def Rk:aT prog 101 (sq [sq [rg 6 [mk 0,nf 3,nF 0,nB .neq 0],ci 11 .ret],rg 12 [om 1],.block 0 (sq [rg 14 [oq (.ek .eql (.s 12) (.c (.int .i32 110))),o1 13],cd 13 (rg 15 [om 0,om 0,oC 98 [16],ok 15,nf 5,nf 2,os 2 20 17]) (sq [rg 22 [oq (.ek .eql (.s 12) (.c (.int .i32 102))),o1 21],cd 21 (rg 23 [om 0,om 0,oC 98 [24],n1 2,ok 23,nf 5,nf 4,os 1 29 26]) (sq [rg 31 [oq (.ek .eql (.s 12) (.c (.int .i32 119))),o1 30],cd 30 (sq [dA 33 [5] [mk 0,nF 0,mk 0,nF 1,mk 0,nF 2,oC 166 [36,40,44],o1 32,oe 32 0,oe 32 1,oN,ot 4 46,oX 5 2 47],dg 48 [om 0,om 0,om 4,mM [1],ol 2 5,ok 48,nf 5,nf 4,os 1 54 50,ok 49,nf 3,os 2 56 51],rg 57 [mk 0,nF 1,nB .add 1,ok 57,nf 1,os 1 63 61]]) (sq [rg 65 [oq (.ek .eql (.s 12) (.c (.int .i32 112))),o1 64],cd 64 (rg 66 [om 0,oC 167 [66]]) (sq [rg 69 [oq (.ek .eql (.s 12) (.c (.int .i32 116))),o1 68],cd 68 (dg 70 [om 0,mk 0,nF 0,mk 0,nF 1,mk 0,nF 2,oC 169 [74,78,82],oe 83 0,oe 83 1,oe 83 2,oC 168 [70,84,85,86]]) (sq [rg 89 [oq (.ek .eql (.s 12) (.c (.int .i32 114))),o1 88],ci 88 (dg 90 [om 0,mk 0,nF 0,mk 0,nF 1,mk 0,nF 2,oC 170 [94,98,102],oe 103 0,oe 103 1,oe 103 2,oC 168 [90,104,105,106]])])])])])])])]) [] 108:=aW func101
variable{b:Option Int}
theorem Q5:(jR b).cI=true:=rfl
section
variable {rd:ab} {c:aq} {pc:V} {cs:List V}
variable{w:aA}
theorem abr:setAt (rd.enc++c.cQ pc) 7 w.enc=rd.enc++({c with name:=w}:aq).cQ pc:=rfl
theorem abk:bZ 2 ((rd.enc++c.cQ pc).drop 7)=true:=rfl
theorem abt{ws:List aA}:setAt (rd.enc++c.cQ pc) 9 [.sl .no 2 (ws.map aA.enc)]=rd.enc++({c with aj:=ws}:aq).cQ pc:=rfl
theorem abl:bZ 1 ((rd.enc++c.cQ pc).drop 9)=true:=rfl
def abp{n:Int}:setAt (rd.enc++cs) 1 [.int .i64 n]=({rd with at_:=n}:ab).enc++cs:=by cases cs<;>rfl
theorem abi:bZ 1 ((rd.enc++cs).drop 1)=true:=rfl
def Js:=ae @abr <| ae @abk <| ae @abt <| ae @abl <| ae @abp @abi
end
def an0(h:Z.box r=U (rd.enc++c.cQ pc))(hb:rd.aG=af)(h0:0<=rd.at_)(hlen:rd.l.length<=aO):
 dt 101 [.ptr (.out r) 0,.int .i32 102] Z (.bt []) (Z.set r (rd.word.2.enc++({c with aj:=[rd.word.1]}:aq).cQ pc)):=by
 refine cg.le (S:=Z.set r (setAt (rd.word.2.enc++c.cQ pc) 9 [.sl .aV 2 [rd.word.1.enc]])) ?_ (bL.set ?_)
 .refine Rk.aS ?_;simp only[aR,am,a8,Nat.reduceAdd];simp only[am,bM,fk,Int.reduceEq,h,lv,hb,c9];refine(CQ h h0 hlen).mono ?_;rintro v σ' ⟨rfl,rfl⟩;simp only[am,Nat.reduceAdd,aA.al,Js];refine aP rfl (ag.bc _) ⟨rfl,rfl⟩
 .show cJ ([V.sl .no 5 (dC rd.word.2.l),.int .i64 rd.word.2.at_,.int .i64 rd.word.2.fin,.int .i64 (c9 rd.word.2.aG),.int .i64 (fJ rd.word.2.aG)]++_) ([V.sl .no 5 (dC rd.word.2.l),.int .i64 rd.word.2.at_,.int .i64 rd.word.2.fin,.int .i64 (c9 rd.word.2.aG),.int .i64 (fJ rd.word.2.aG)]++_);simp[am,aq.cQ]
def an5{x:ab × aq}{k:UInt8}(h:Z.box r=U (x.1.enc++x.2.cQ pc))(hp:k=112->pc = .sl .aV 4 []/\x.2.bm=[])(h0:0<=x.1.at_)(hm:bd x.1.l+1<=aO)(ha:x.1.at_<=aO):
 dt 101 [.ptr (.out r) 0,.int .i32 (k.toNat:Nat)] Z (.bt []) (Z.set r ((c_ k x).1.enc++(c_ k x).2.cQ (if k=112/\x.1.aG=af then qn (c_ k x).2.bm else pc))):=by
 obtain⟨rd,c⟩:=x;simp only at h hp h0 hm ha;have hlen:=lM rd.l;have iw:∀n:UInt8,((k.toNat:Nat):Int)=(n.toNat:Nat)↔k=n:=λn=>by
  constructor
  .intro h;exact Pm.1 (by omega)
  .rintro rfl;rfl
 by_cases k2:k=102/\rd.aG=af
 .obtain⟨k2,hb⟩:=k2;subst k2
  have:=an0 h hb h0 (by omega)
  simpa [c_,hb] using this
 refine Rk.aS ?_;simp only[aR,am,a8,Nat.reduceAdd];simp only[am,h,lv];cases hb:rd.aG with
 | some b =>
  simp only[am,fk,Int.reduceEq,c9];refine aP rfl (ag.bc _) ⟨rfl,?_⟩;rw[show c_ k (rd,c)=(rd,c) by simp[c_,hb],aC (by simp)];exact(ag.yq h).symm
 | none =>
  have k2:¬k=102:=λh=>k2 ⟨h,hb⟩
  simp only[am,bM,c9];have m_:c_ k (rd,c)=if k=110 then(rd.word.2,{c with name:=rd.word.1})
   else if k=119 then({rd with aG:=(ja rd.l rd.at_ rd.fin).2,at_:=rd.at_+1},{c with aj:=(ja rd.l rd.at_ rd.fin).1})
   else if k=112 then o9 rd c
   else if k=116 then iO rd c (fp (ab.label (bd rd.l)) rd.l rd.at_ rd.fin)
   else if k=114 then iO rd c (fp (ab.row (bd rd.l)) rd.l rd.at_ rd.fin)
   else(rd,c):=by simp[c_,hb,k2]
  have CU:((k.toNat:Nat):Int)=110↔k=110:=iw 110;have FN:((k.toNat:Nat):Int)=102↔k=102:=iw 102;have y8:((k.toNat:Nat):Int)=119↔k=119:=iw 119;have y7:((k.toNat:Nat):Int)=112↔k=112:=iw 112;have FP:((k.toNat:Nat):Int)=116↔k=116:=iw 116;have FO:((k.toNat:Nat):Int)=114↔k=114:=iw 114
  by_cases k1:k=110
  .rw[aE k1] at m_;simp only[am,aQ (CU.2 k1)];refine(CQ h h0 (by omega)).mono ?_;rintro v σ' ⟨rfl,rfl⟩;simp only[am,Nat.reduceAdd,aA.al,Js];refine aP rfl (ag.bc _) ⟨rfl,?_⟩;rw[m_,aC (by simp[k1])]
  rw[aC k1] at m_;simp only[am,aM (λh=>k1 (CU.1 h))];simp only[am,aM (λh=>k2 (FN.1 h))]
  by_cases k3:k=119
  .rw[aE k3] at m_;simp only[am,Nat.reduceAdd,bM,Nat.reduceLT,aQ (y8.2 k3),h,lv];refine bJ.intro (Yd hm) ?_;rw[m_,aC (by simp[k3])];generalize ja rd.l rd.at_ rd.fin=o;have w1:IntKind.i64.wrap (rd.at_+1)=rd.at_+1:=by simp only[aO] at ha;exact wrap_i64 (by omega) (by omega)
   simp only[am,Nat.reduceAdd,jR,h,lv,Js,w1];exact aP rfl (ag.bc _) ⟨rfl,rfl⟩
  rw[aC k3] at m_;simp only[am,aM (λh=>k3 (y8.1 h))]
  by_cases k4:k=112
  .rw[aE k4] at m_;obtain⟨rfl,hc⟩:=hp k4;simp only[am,aQ (y7.2 k4)];refine(anY h hc h0 hm).mono ?_;rintro v σ' ⟨rfl,rfl⟩;simp only[am];refine aP rfl (ag.bc _) ⟨rfl,?_⟩;rw[m_,aE k4]
  rw[aC k4] at m_;simp only[am,aM (λh=>k4 (y7.1 h))]
  by_cases k5:k=116
  .rw[aE k5] at m_;simp only[am,aQ (FP.2 k5),h,lv];refine bJ.intro (XU (bP _) hm) ?_;rw[m_,aC (by simp[k4])];generalize fp (ab.label (bd rd.l)) rd.l rd.at_ rd.fin=g;simp only[am,Nd.al,Q5];refine bJ.intro (Qd h hb) ?_;simp only[am];refine aP rfl (ag.bc _) ⟨rfl,rfl⟩
  rw[aC k5] at m_;simp only[am,aM (λh=>k5 (FP.1 h))]
  by_cases k6:k=114
  .rw[aE k6] at m_;simp only[am,aQ (FO.2 k6),h,lv];refine bJ.intro (Ya (bP _) hm) ?_;rw[m_,aC (by simp[k4])];generalize fp (ab.row (bd rd.l)) rd.l rd.at_ rd.fin=g;simp only[am,Nd.al,Q5];refine bJ.intro (Qd h hb) ?_;simp only[am];refine aP rfl (ag.bc _) ⟨rfl,rfl⟩
  rw[aC k6] at m_;simp only[am,aM (λh=>k6 (FO.1 h))];refine aP rfl (ag.bc _) ⟨rfl,?_⟩;rw[m_,aC (by simp[k4])];exact(ag.yq h).symm
def agY:aT prog 53 (sq [rg 0 [oZ 2 [0,0,1,0,7,9,0,0,0,1,7,10,0,0,1,7,10],oZ 3 [0,0]],rg 12 [om 0,oC 96 [12],o1 11,oe 11 0,oe 11 1,oZ 5 [0,0],ot 4 14,o2 2 5],sq [rg 16 [fo 0 5,nB .neq 0],ci 18 (sq [dg 19 [oW [0,0,1,0,7,9,0,0,0,1,7,10,0,0,1,7,10] [],mM [1],ol 2 5,os 17 2 19,o2 2 3],.ret])],rg 22 [om 4,oC 97 [22],o1 21,oe 21 0,oe 21 1,ot 6 24,o2 2 5],sq [rg 26 [fo 0 5,nB .neq 0,gB,om 6,nL,nB .eql 0,gZ],ci 33 (sq [dg 34 [oW [0,0,1,0,7,9,0,0,0,1,7,10,0,0,1,7,10] [],mM [1],ol 2 5,os 17 2 34,o2 2 3],.ret])],rg 36 [om 6,om 0,nT,oW [10,0,0,0,0,0,0,1,0,7,9,0,0,0,1,7,10,0,0,1,7,10] [(0,1,36),(2,1,38)],oq (.gf 22 (.s 39)),o1 7],rg 41 [om 7,oC 98 [41],oZ 8 [1,0],o2 2 8],dg 43 [om 7,fo 0 8,oC 99 [45],of 1 8,mM [0],no,oW [0,0,1,0,7,9,0,0,0,1,7,10,0,0,1,7,10] [(0,1,46),(1,1,48)],ok 43,nf 5,os 17 51 49],sq [rg 52 [mk 7,nf 5,nF 0,nB .eql 0],ci 57 (sq [dg 58 [oW [0,0,1,0,7,9,0,0,0,1,7,10,0,0,1,7,10] [],om 6,nI 5 0,nf 0,nf 2,mM [1],no,oG [0,0] [(0,1,.c (.int .i64 2)),(1,1,.s 63)],os 17 2 58,o2 2 3],.ret])],.BX (rS 65 [mk 7,nf 5,nF 0,oC 100 [69],ow 1 70]) (.s 71) 72 73 74 0 1 (sq [rg 75 [oe 73 2,o1 10],rg 76 [om 7,om 10,oC 101 [76,77]]]),sq [rg 79 [mk 7,nf 3,nF 0,nB .eql 0,gA,mk 7,nF 1,om 6,nL,nb .lss 89,gZ],ci 93 (rg 94 [om 7,oC 102 [94]])],sq [rg 96 [mk 7,nf 3,nF 0,nB .neq 0],ci 101 (sq [dg 102 [oW [0,0,1,0,7,9,0,0,0,1,7,10,0,0,1,7,10] [],mk 7,nf 3,mM [1],nl 2,os 17 2 102,o2 2 3],.ret])],rg 107 [mk 7,nf 5,nl 17,oW [0,0] [],os 17 2 110,o2 2 3],.ret]) [.cell 2 aa 17,.cell 3 aa 2] 112:=aW func53 ⟨[40],[]⟩
def JT(f:Int × Int):V:=.agg [.int .i64 f.1,.int .i64 f.2]
def yU(s:List UInt8)(L:List ar)(b r:Nat):List V:=[.aF s,.any,.ptr (.aD 0) 0,.ptr (.aD 1) 0,.any,.any,.sl .no 5 (dC L),.ptr (.out r) 0]++au 64 .any++[.raw (.pointer (U ⟨b,0,af⟩))]++au 39 .any
def aob:(qn ps).erase = .sl .no 4 (ps.map ff):=by cases ps<;>rfl
theorem abd:takeN 17 ((rd.enc++c.cQ pc).drop 5)=U (c.cQ pc):=rfl
theorem aar:(c.cQ pc).length=17:=rfl
def aat:cC (c.cQ (qn ps))=true:=by cases ps<;>rfl
theorem aau{z0 z1 z2 z3 z4 z5 z6 z7 z8 z9 Ou Ov Ow Ox Oy Oz OA:V}:over [z0,z1,z2,z3,z4,z5,z6,z7,z8,z9,Ou,Ov,Ow,Ox,Oy,Oz,OA] (c.cQ pc)=c.cQ pc:=rfl
theorem aav:takeN 17 (c.cQ pc)=U (c.cQ pc):=rfl
def aas:bK (c.cQ (qn ps))=true:=by cases ps<;>rfl
def aaq:bx (c.cQ (qn c.bm))=c.enc:=by simp only[aq.enc,aq.cQ,bx,aob];rfl
def ce:=ae @aar <| ae @aat <| ae @aau @aav
def tS:List (List V):=[gH,[.int .i64 0,.int .i64 0]]
def abv(s:List UInt8)(hg:Z.bY 0=U gh)(hb:s.length+1<=aO)(hm:bd (fS (dR s).1 [] []).1+8<=aO):
 a_ 53 [.aF s] Z (.bt [.agg (cW s).1.enc,JT (cW s).2]):=by
 have Sy:=TH s;refine agY.aS ?_;simp only[aR,am,a8,Nat.reduceAdd];refine cl (akD s Z hb) ?_;generalize hR:cW s=R;unfold cW at hR;simp only[am,Nat.reduceAdd,CK];cases hl:(dR s).2 with
 | some a =>
  rw[hl] at hR;simp only[am,Nat.reduceAdd,fk,Int.reduceEq];refine aP rfl (ag.bc _) ⟨?_,rfl⟩;rw[<-hR];rfl
 | none =>
  rw[hl] at hR;simp only[am,bM];refine cl (arC (dR s).1 Z (by omega)) ?_;simp only[am,Nat.reduceAdd,jR];simp only at hR;cases ht:(fS (dR s).1 [] []).2 with
  | some a =>
   rw[ht] at hR;simp only[am,Nat.reduceAdd,fk,Int.reduceEq,c9];refine aP rfl (ag.bc _) ⟨?_,rfl⟩;rw[<-hR];rfl
  | none =>
   rw[ht] at hR;simp only at hR;simp only[am,kh,bM,c9];generalize (fS (dR s).1 [] []).1=l at hm hR ⊢;have hlen:=lM l;cases l with
   | nil =>
    simp only[am,Nat.reduceAdd,bM,eM,show(((0:Nat):Int)=0)=True by simp];refine aP rfl (ag.bc _) ⟨?_,rfl⟩;rw[<-hR];rfl
   | cons t ts =>
    generalize hL:t::ts=L at *;have aX:¬(L.length:Int)=0:=by rw[<-hL];simp;omega
    simp only[am,Nat.reduceAdd,aM aX];refine j1 λr hr=>?_
    have qe : ∀X,(Z.set r X).bY 0=U gh:=λX=>hg
    have ck : ∀X,(Z.set r X).box r=U X:=λX=>ag.d_ _ _ _
    simp only[am];change cg prog 98 [.ptr (.out r) 0] (Z.set r ((⟨L,0,s.length,af⟩:ab).enc++gH)) _;have aim:sG L s.length=if iD (⟨L,0,s.length,af⟩:ab).word.1.an=0 then(.zero,2,t.tok.pos)
     else vK (hH (cp (iD (⟨L,0,s.length,af⟩:ab).word.1.an)).2 ((⟨L,0,s.length,af⟩:ab).word.2,{aq.zero with op:=iD (⟨L,0,s.length,af⟩:ab).word.1.an,pos:=(⟨L,0,s.length,af⟩:ab).word.1.pos})):=by rw[<-hL];rfl
    rw[aim] at hR;refine(CQ (ck _) (by simp) (show L.length<=aO by omega)).mono ?_;rintro v _ ⟨rfl,rfl⟩;have hI:∀c,jN L s.length ((⟨L,0,s.length,af⟩:ab).word.2,c):=λc=>jN.goes (x:=(⟨L,0,s.length,af⟩,c)) ⟨rfl,rfl,by simp,by simp;omega,by simp⟩ rfl (xx _) (Ev _ 97)
    generalize (⟨L,0,s.length,af⟩:ab).word.2=r1 at hI hR ⊢;generalize (⟨L,0,s.length,af⟩:ab).word.1=w at hR ⊢;simp only[am,Nat.reduceAdd,aA.enc];refine bJ.intro (alN w.an (qe _)) ?_;have e5:∀X:List V,X.length=17->setAt (r1.enc++gH) 5 X=r1.enc++X:=λX hX=>by
     match X,hX with
     | [_,_,_,_,_,_,_,_,_,_,_,_,_,_,_,_,_],_=>rfl
    have zi:bZ 17 gH=true:=rfl;have d5:∀X:List V,(r1.enc++X).drop 5=X:=λX=>rfl
    generalize iD w.an=op at hR ⊢;simp only[am,Nat.reduceAdd,e5,zi,d5]
    by_cases l8:op=0
    .rw[aE l8] at hR;simp only[am,aQ l8];refine xT (c:=t.enc) (by rw[<-hL];simp[sL]) ?_;simp only[am,Nat.reduceAdd,ar.fl];refine aP rfl (h_ hr) ⟨?_,rfl⟩;rw[<-hR];rfl
    .rw[aC l8] at hR;simp only[am,aM l8];refine N9 ?_;simp only[am,d5];refine(MB op (qe _)).mono ?_;rintro v σ' ⟨rfl,rfl⟩;simp only[am];generalize fP:(cp op).2=ks at hR ⊢;generalize DF:((r1,{aq.zero with op:=op,pos:=w.pos}):ab × aq)=x0 at hR;have R2:jN L s.length x0:=by rw[<-DF];exact hI _
     refine⟨ks,rfl,by rw[<-fP];exact JV op,λb i aJ => aJ = ⟨yU s L b r,tS,Z.set r ((hH (ks.take i) x0).1.enc++(hH (ks.take i) x0).2.cQ (qn (hH (ks.take i) x0).2.bm))⟩,?_,?_,?_,?_⟩
     .intro b;simp only[];refine bq.A8 (l' := tS) ?_ ?_ ?_ (by simp[yU,tS,au,bS,V.lo]) (by simp[tS,gH,dL,bS,V.lo]) rfl
      .simp[yU,au,am]
      .simp[tS,gH,am]
      .rw[<-DF];exact bL.set (by simp[ab.enc,aq.cQ,aq.zero,Nd.zero,Nd.kind,Nd.pos,Nd.an,Nd.aj,Nd.ah,hH,qn,am])
     .rintro b i _ rfl;exact⟨rfl,by simp[yU],by simp[yU]⟩
     .rintro b i c _ hc rfl;simp only[yU,au,am];have Gg:=MQ (ks.take i) R2;have qV:hH (ks.take (i+1)) x0=c_ c (hH (ks.take i) x0):=by rw[Ew hc,U1]
      have SI:c=112->(hH (ks.take i) x0).2.bm=[]:=λh=>by
       rw[U0 (ks.take i) (by rw[<-fP];exact ahe op i (by rw[fP,hc,h])),<-DF];rfl
      rw[qV];generalize hH (ks.take i) x0=x at Gg SI ⊢;have hle:=Gg.le;refine(an5 (k:=c) (ck _) (λh=>by rw[SI h];exact⟨rfl,rfl⟩) Gg.ge (by rw[Gg.hl];omega) (by omega)).mono ?_;rintro v _ ⟨rfl,rfl⟩;have K9:(if c=112/\x.1.aG=af then qn (c_ c x).2.bm else qn x.2.bm)=qn (c_ c x).2.bm:=by
       by_cases h:c=112/\x.1.aG=af
       .rw[aE h]
       .rw[aC h,UY]
        by_cases h1:c=112
        .exact .inr λh2=>h ⟨h1,h2⟩
        .exact .inl h1
      rw[K9];simp only[am,cF];exact bq.A8 (l' := tS) (by simp[am]) (by simp[tS,gH,am]) bL.rfl (by simp[tS,bS,V.lo]) (by simp[tS,gH,dL,bS,V.lo]) rfl
     .rintro b _ rfl;simp only[yU,tS,au,am];rw[eN];have Ka:=MQ ks R2;generalize hH ks x0=x at Ka hR ⊢;obtain⟨rd,c⟩:=x;have h1:=Ka.hl;have h2:=Ka.ge;simp only at h1 h2;unfold vK at hR;simp only[h1] at hR;simp only[am,lv];cases fK:rd.aG with
      | some a =>
       simp only[fK] at hR;simp only[am,Nat.reduceAdd,fk,Int.reduceEq,c9,lv,fK,gH];refine aP rfl (h_ hr) ⟨?_,rfl⟩;have hR:(aq.zero,(2:Int),a)=R:=by simpa [fK] using hR
       rw[<-hR];rfl
      | none =>
       simp only[fK,pU] at hR;simp only[am,kh,bM,c9,lv]
       by_cases iv:rd.at_<L.length
       .rw[aE iv] at hR;simp only[am,aQ iv];refine(P2 (ck _) h2).mono ?_;rintro v _ ⟨rfl,rfl⟩;obtain⟨a,ha⟩:∃a,rd.fail.aG=U a:=by
         have:=ab.FY rd
         cases hq:rd.fail.aG with
         | none=>exact absurd hq this
         | some a=>exact⟨a,rfl⟩
        rw[ha] at hR;simp only[am,Nat.reduceAdd,fk,Int.reduceEq,lv,ha,c9,gH];refine aP rfl (h_ hr) ⟨?_,rfl⟩;rw[<-hR];rfl
       .rw[aC iv,fK] at hR;simp only[am,Nat.reduceAdd,bM,aM iv,lv,fK,c9,gH,abd,ce];refine aP ?_ (h_ hr) ⟨?_,rfl⟩
        .simp[V.cI,bK,aas]
        rw[<-hR];simp[V.erase,bx,aaq,JT]
section
variable {c:aq}
theorem Z6:bF ak 1 c.enc=U (.int .i64 c.op):=rfl
theorem Z7:bF ak 1 (c.enc.drop 0)=U (.int .i64 c.op):=rfl
theorem Z8:bF ak 1 (c.enc.drop 1)=U (.int .i64 c.pos):=rfl
def eU:=ae @Z6 <| ae @Z7 @Z8
end
def Rx(op:Int):(cp op).2.length<=3:=by
 unfold cp;split
 .rename_i h1;have aB:op.toNat<16:=by omega
  generalize op.toNat=n at aB ⊢;have key:∀n<16,(jS.getD n ([],[])).2.length<=3:=by decide
  exact key n aB
 .simp
def agR:aT prog 32 (sq [rg 4 [oz 2],sq [rg 6 [om 0,nL,om 1,nL,nb .neq 7],cr 10 4 [oz 2]],sq [rg 5 [oi 0],bl 0 (sq [sq [rg 11 [om 5,om 0,nL,nb .lss 11],cx 14 0],.block 1 (sq [dg 17 [om 0,om 5,nA 2 17,nl 2,om 1,om 5,nA 2 21,nl 2,oq (.ir aa [2,1] (.s 20) (.s 24))],cr 25 4 [oz 2]]),rg 15 [ic 5]])],rg 4 [oq (.mv (.c (.bool aa)))],.ret]) [.tmp 4] 26:=aW func32
def agS:aT prog 33 (sq [rg 4 [ox 2 5 0,ox 3 5 1,oz 2],sq [rg 7 [fo 1 2,fo 1 3,nb .neq 8,gB,ol 5 2,ol 5 3,oC 60 [13,14],nn,gZ],cr 17 4 [oz 2]],sq [rg 5 [oi 0],bl 0 (sq [sq [rg 18 [om 5,fo 3 2,nL,nb .lss 18],cx 22 0],.block 1 (sq [dg 25 [fo 3 2,om 5,nA 2 26,nl 2,fo 3 3,om 5,nA 2 31,nl 2,oq (.ir aa [2,1] (.s 29) (.s 34))],cr 35 4 [oz 2]]),rg 23 [ic 5]])],sq [rg 6 [oi 0],bl 2 (sq [sq [rg 36 [om 6,fo 4 2,nL,nb .lss 36],cx 40 2],.block 3 (sq [dg 43 [fo 4 2,om 6,nA 5 44,nl 5,fo 4 3,om 6,nA 5 49,nl 5,oC 33 [47,52],nn],cr 54 4 [oz 2]]),rg 41 [ic 6]])],rg 4 [oq (.mv (.c (.bool aa)))],.ret]) [.tmp 4] 55:=aW func33
def LD(l:List aA)(i:Nat)(Z:ag):St :=
 ⟨[.sl .no 2 (l.map aA.enc),.sl .no 2 (l.map aA.enc),.any,.any,.any,.int .i64 (i:Nat)]++au 20 .any,[],Z⟩
def asK(l:List aA)(Z:ag)(hb:l.length<=aO):a_ 32 [.sl .no 2 (l.map aA.enc),.sl .no 2 (l.map aA.enc)] Z (.bool aa):=by
 simp only[aO] at hb;refine agR.aS ?_;simp only[aR,am,a8,Nat.reduceAdd,bM];refine iG (λp:{i:Nat // i<=l.length}=>LD l p.1 Z) (λp=>l.length - p.1) ?_ ?_
 .refine bq.enter ⟨0,by simp⟩ ?_ cm.rfl bL.rfl;simp[LD,au,am]
 .rintro⟨i,hi⟩;simp only[LD,au,am,aN];refine e9 ?_ ?_
  .intro aB;have aB:i<l.length:=by simpa using aB
   have hn:l[i]?=U l[i]:=by simp[aB]
   simp only[am];refine ix (qx hn) ?_;simp only[am,aA.enc];refine ix (qx hn) ?_;simp only[am,bM,aA.enc];rw[wrap_i64];exact bq.again ⟨i+1,aB⟩ (by simp;omega) (by simp[am]) cm.rfl bL.rfl
  .intro aB;simp only[am];exact rt
def LG(n:Nd)(Z:ag)(i:Nat):St :=
 ⟨[.any,.any,.ptr (.aD 0) 0,.ptr (.aD 1) 0]++[.any,.int .i64 (i:Nat)]++au 49 .any,[n.enc,n.enc],Z⟩
def LF(n:Nd)(Z:ag)(i:Nat):St :=
 ⟨[.any,.any,.ptr (.aD 0) 0,.ptr (.aD 1) 0]++[.any,.any,.int .i64 (i:Nat)]++au 48 .any,[n.enc,n.enc],Z⟩
def atx:=ae @am <| ae @a8 <| ae @bM <| ae @Nd.al @Nd.fl
def Xf:∀(k:Nat) (n:Nd) (Z:ag),n.wt<=k->n.wt<=aO->a_ 33 [.agg n.enc,.agg n.enc] Z (.bool aa):=by
 intro k;induction k with
 | zero=>intro n Z h _;cases n;simp only[Nd.wt] at h;omega
 | succ k s7 =>
  intro n Z hk hw;have hn:=AI n;have jV:n.wt<2^62:=by simp only[aO] at hw;omega
  refine agS.aS ?_;simp only[aR,atx,Nat.reduceAdd];refine cl (Nx _ n n _ (bP _) hw) ?_;simp only[am,Nd.Ei];refine iG (λp:{i:Nat // i<=n.aj.length}=>LG n Z p.1) (λp=>n.aj.length - p.1) ?_ ?_
  .refine bq.enter ⟨0,by simp⟩ ?_ cm.rfl bL.rfl;simp[LG,au,am]
  rintro⟨i,hi⟩;simp only[LG,au,am,Nd.fl,aN];refine e9 ?_ ?_
  .intro aB;have aB:i<n.aj.length:=by simpa using aB
   simp only[am,Nd.fl];refine ix (qx (cL aB)) ?_;simp only[am,aA.al,Nd.fl];refine ix (qx (cL aB)) ?_;simp only[am,bM,aA.enc];rw[wrap_i64];exact bq.again ⟨i+1,aB⟩ (by simp;omega) (by simp[am]) cm.rfl bL.rfl
  intro aB;have aB:i=n.aj.length:=by simp at aB;omega
  subst aB;simp only[am];refine iG (λp:{i:Nat // i<=n.ah.length}=>LF n Z p.1) (λp=>n.ah.length - p.1) ?_ ?_
  .refine bq.enter ⟨0,by simp⟩ ?_ cm.rfl bL.rfl;simp[LF,au,am]
  rintro⟨i,hi⟩;simp only[LF,au,am,Nd.fl,aN];refine e9 ?_ ?_
  .intro aB;have aB:i<n.ah.length:=by simpa using aB
   have qU:=ng (n:=n) (fh aB);simp only[am,Nd.fl];refine ix (mb (cL aB)) ?_;simp only[am,Nd.al,Nd.fl];refine ix (mb (cL aB)) ?_;simp only[am,Nd.al];refine bJ.intro (s7 n.ah[i] _ (by omega) (by omega)) ?_;simp only[am];rw[wrap_i64];exact bq.again ⟨i+1,aB⟩ (by simp;omega) (by simp[am]) cm.rfl bL.rfl
  intro aB;simp only[am];exact rt
def aey:aT prog 13 (sq [rg 4 [ox 2 17 0,ox 3 17 1,oz 2],sq [rg 6 [ol 17 2,ol 17 3,oC 31 [6,7],nn,gB,fo 1 2,fo 1 3,nb .neq 12,gZ,gB,of 2 2,nl 2,of 2 3,nl 2,oq (.ir aa [2,1] (.s 19) (.s 21)),gZ,gB,fo 6 2,fo 6 3,nb .neq 26,gZ,gB,fo 4 2,fo 4 3,oC 32 [33,35],nn,gZ],cr 38 4 [oz 2]],sq [rg 5 [oi 0],bl 0 (sq [sq [rg 39 [om 5,fo 5 2,nL,nb .lss 39],cx 43 0],.block 1 (sq [dg 46 [fo 5 2,om 5,nA 4 47,nl 4,fo 5 3,om 5,nA 4 52,nl 4,oq (.ir aa [2,1,2,1] (.s 50) (.s 55))],cr 56 4 [oz 2]]),rg 44 [ic 5]])],rg 57 [of 7 2,nl 5,of 7 3,nl 5,oC 33 [58,60],gA,of 12 2,nl 5,of 12 3,nl 5,oC 33 [64,66],gZ,o1 4],.ret]) [.tmp 4] 69:=aW func13
def agJ:aT prog 31 (sq [rg 4 [ox 2 17 0,ox 3 17 1,oz 2],sq [rg 7 [fo 0 2,fo 0 3,nb .neq 8,gB,of 2 2,nF 0,of 2 3,nF 0,nE .neq 15,gZ,gB,fo 4 2,nL,fo 4 3,nL,nb .neq 24,gZ,gB,fo 5 2,nL,fo 5 3,nL,nb .neq 33,gZ],cr 38 4 [oz 2]],sq [rg 5 [oi 0],bl 0 (sq [sq [rg 39 [om 5,fo 4 2,nL,nb .lss 39],cx 43 0],.block 1 (sq [dg 46 [fo 4 2,om 5,nA 2 47,nF 0,fo 4 3,om 5,nA 2 53,nF 0,nE .neq 51],cr 58 4 [oz 2]]),rg 44 [ic 5]])],sq [rg 6 [oi 0],bl 2 (sq [sq [rg 59 [om 6,fo 5 2,nL,nb .lss 59],cx 63 2],.block 3 (sq [dg 66 [fo 5 2,om 6,nA 4 67,oQ 2 2 69 0,nF 0,fo 5 3,om 6,nA 4 74,oQ 2 2 76 0,nF 0,nE .neq 72,gB,fo 5 2,om 6,nA 4 83,oQ 2 2 85 1,nF 0,fo 5 3,om 6,nA 4 90,oQ 2 2 92 1,nF 0,nE .neq 88,gZ],cr 97 4 [oz 2]]),rg 64 [ic 6]])],rg 98 [of 7 2,nl 5,of 7 3,nl 5,oC 60 [99,101],gA,of 12 2,nl 5,of 12 3,nl 5,oC 60 [105,107],gZ,o1 4],.ret]) [.tmp 4] 110:=aW func31
section
variable {c:aq}
theorem ZZ:bF ak 1 (c.enc.drop 2)=U (.aF c.name.an):=rfl
theorem aah:takeN 2 (c.enc.drop 2)=U [.aF c.name.an,.int .i64 c.name.pos]:=rfl
theorem Z1:bF ak 1 (c.enc.drop 4)=U (.sl .no 2 (c.aj.map aA.enc)):=rfl
theorem Z2:bF ak 1 (c.enc.drop 5)=U (.sl .no 4 (c.bm.map ff)):=rfl
theorem Z3:bF ak 1 (c.enc.drop 6)=U (.int .i64 c.mJ):=rfl
def aai:takeN 5 (c.enc.drop 7)=U c.left.enc:=by rw[Nd.df];rfl
def aag:takeN 5 (c.enc.drop 12)=U c.right.enc:=by rw[Nd.df];rfl
def cO:=ae @ZZ <| ae @aah <| ae @Z1 <| ae @Z2 <| ae @Z3 <| ae @aai @aag
end
variable{p:aA × aA}
theorem aoc:takeN 4 (ff p)=U (ff p):=rfl
def yj{l:List (aA × aA)}(h:l[j]?=U p):(l.map ff)[(j:Int).toNat]?=U (ff p):=by simp[h]
structure Cn(c:aq):Prop where
 ns:c.aj.length<=aO
 ps:c.bm.length<=aO
 l:c.left.wt<=aO
 r:c.right.wt<=aO
def LC(c:aq)(Z:ag)(i:Nat):St :=
 ⟨[.any,.any,.ptr (.aD 0) 0,.ptr (.aD 1) 0]++[.any,.int .i64 (i:Nat)]++au 104 .any,[c.enc,c.enc],Z⟩
def LB(c:aq)(Z:ag)(i:Nat):St :=
 ⟨[.any,.any,.ptr (.aD 0) 0,.ptr (.aD 1) 0]++[.any,.any,.int .i64 (i:Nat)]++au 103 .any,[c.enc,c.enc],Z⟩
def ap9(h:Cn c)(Z:ag):a_ 31 [.agg c.enc,.agg c.enc] Z (.bool aa):=by
 have h1:=h.ns;have h2:=h.ps;simp only[aO] at h1 h2;refine agJ.aS ?_;simp only[aR,am,a8,Nat.reduceAdd,bM,di,eU,cO,aN];refine iG (λp:{i:Nat // i<=c.aj.length}=>LC c Z p.1) (λp=>c.aj.length - p.1) ?_ ?_
 .refine bq.enter ⟨0,by simp⟩ ?_ cm.rfl bL.rfl;simp[LC,au,am]
 rintro⟨i,hi⟩;simp only[LC,au,am,cO,aN];refine e9 ?_ ?_
 .intro aB;have aB:i<c.aj.length:=by simpa using aB
  simp only[am,cO];refine ix (qx (cL aB)) ?_;simp only[am,cO,aA.enc];refine ix (qx (cL aB)) ?_;simp only[am,bM,aA.enc];rw[wrap_i64];exact bq.again ⟨i+1,aB⟩ (by simp;omega) (by simp[am]) cm.rfl bL.rfl
 intro aB;have aB:i=c.aj.length:=by simp at aB;omega
 subst aB;simp only[am];refine iG (λp:{i:Nat // i<=c.bm.length}=>LB c Z p.1) (λp=>c.bm.length - p.1) ?_ ?_
 .refine bq.enter ⟨0,by simp⟩ ?_ cm.rfl bL.rfl;simp[LB,au,am]
 rintro⟨i,hi⟩;simp only[LB,au,am,cO,aN];refine e9 ?_ ?_
 .intro aB;have aB:i<c.bm.length:=by simpa using aB
  have GA:(0:Int)<=0:=by decide
  simp only[am,cO];refine ix (yj (cL aB)) ?_;simp only[am,cF];refine GS ?_;simp only[am,Int.reduceToNat,Nat.reduceMul,cO,ff];refine ix (yj (cL aB)) ?_;simp only[am,cF];refine GS ?_;simp only[am,bM,Int.reduceToNat,Nat.reduceMul,cO,ff];refine ix (yj (cL aB)) ?_;simp only[am,cF];refine GS ?_;simp only[am,Int.reduceToNat,Nat.reduceMul,cO,ff];refine ix (yj (cL aB)) ?_;simp only[am,cF];refine GS ?_;simp only[am,bM,Int.reduceToNat,Nat.reduceMul,ff];rw[wrap_i64];exact bq.again ⟨i+1,aB⟩ (by simp;omega) (by simp[am]) cm.rfl bL.rfl
 intro aB;simp only[am,Nd.al,cO];refine cl (Nx _ c.left c.left _ (bP _) h.l) ?_;simp only[am,Nd.al,cO,Nd.Ei];refine cl (Nx _ c.right c.right _ (bP _) h.r) ?_;simp only[am,Nd.Ei];exact rt
def LM(c:aq)(Z:ag)(i:Nat):St :=
 ⟨[.any,.any,.ptr (.aD 0) 0,.ptr (.aD 1) 0]++[.any,.int .i64 (i:Nat)]++au 63 .any,[c.enc,c.enc],Z⟩
def Xg(h:Cn c)(Z:ag):a_ 13 [.agg c.enc,.agg c.enc] Z (.bool aa):=by
 have h1:=h.ns;have h2:=h.ps;simp only[aO] at h1 h2;refine aey.aS ?_;simp only[aR,am,a8,Nat.reduceAdd,di];refine cl (ap9 h Z) ?_;simp only[am,bM,eU,cO];refine cl (asK c.aj Z (by simp only[aO];omega)) ?_;simp only[am];refine iG (λp:{i:Nat // i<=c.bm.length}=>LM c Z p.1) (λp=>c.bm.length - p.1) ?_ ?_
 .refine bq.enter ⟨0,by simp⟩ ?_ cm.rfl bL.rfl;simp[LM,au,am]
 rintro⟨i,hi⟩;simp only[LM,au,am,cO,aN];refine e9 ?_ ?_
 .intro aB;have aB:i<c.bm.length:=by simpa using aB
  simp only[am,cO];refine ix (yj (cL aB)) ?_;simp only[am,cO,aoc];refine ix (yj (cL aB)) ?_;simp only[am,bM,ff];rw[wrap_i64];exact bq.again ⟨i+1,aB⟩ (by simp;omega) (by simp[am]) cm.rfl bL.rfl
 intro aB;simp only[am,Nd.al,cO];refine cl (Xf _ c.left _ (bP _) h.l) ?_;simp only[am,Nd.al,cO];refine cl (Xf _ c.right _ (bP _) h.r) ?_;simp only[am];exact rt
def ag0:aT prog 55 (sq [rg 0 [ox 2 2 0,ox 3 17 1,oZ 4 [0,0]],rg 6 [ol 2 2,fo 1 3,oG [7,8,8,0,0] [(1,2,.s 6),(3,1,.c (.int .i64 (-1))),(4,1,.s 8)],oq (.gf 5 (.s 9)),o1 5],sq [.pf (rg 11 [fo 0 3]),.block 0 (sq [rg 14 [oB .eql 12 10,o1 13],cd 13 (rg 15 [om 5,of 2 3,nF 0,of 2 3,nF 1,oc 107 [.s 15,.s 18,.s 21,.c (.int .i64 2)]]) (sq [rg 24 [oB .eql 12 15,o1 23],cd 23 (rg 25 [om 5,of 2 3,nF 0,of 2 3,nF 1,oc 107 [.s 25,.s 28,.s 31,.c (.int .i64 1)]]) (sq [rg 34 [oB .eql 12 8,o1 33],cd 33 (sq [rg 35 [om 5,of 2 3,nl 2,oC 108 [35,37]],rg 39 [om 5,of 7 3,nl 5,oC 109 [39,41]],rg 43 [om 5,of 12 3,nl 5,oC 109 [43,45]],dg 47 [mk 5,nf 0,of 12 3,nF 0,nB .eql 8,gB,of 12 3,nF 0,nB .eql 9,gZ,of 12 3,nF 1,oc 110 [.s 49,.s 59,.c (.int .i64 6),.s 62]]]) (sq [rg 65 [oB .eql 12 9,o1 64],ci 64 (sq [rg 66 [om 5,of 2 3,nl 2,oC 108 [66,68]],rg 70 [om 5,of 7 3,nl 5,oC 111 [70,72]],rg 74 [om 5,of 12 3,nl 5,oC 111 [74,76]]])])])])])],rg 78 [mk 5,nf 0,nF 0,oC 57 [82],o2 2 4],.ret]) [.cell 4 aa 2] 84:=aW func55 ⟨[10],[2]⟩
def ag2:aT prog 57 (sq [rg 0 [oZ 2 [0,0]],rg 0 [oZ 3 [0,0]],sq [rg 6 [om 0,nL,oi 0],lp 7 0 (sq [rg 10 [oA 2 6 8,nl 2,oZ 5 [0,0],o2 2 5],sq [rg 12 [fo 0 5,nB .eql 0],ci 14 (.exit 1)],rg 15 [fo 0 3,nB .eql 0,gB,fo 0 5,fo 0 3,nb .lss 20,gZ,nm,oh 25 (of 0 5),oh 25 (no),oh 25 (of 0 3),oh 25 (no),oh 25 (nb .eql 27),oh 25 (nm),og 31 (of 1 5),og 31 (no),og 31 (of 1 3),og 31 (no),og 31 (nb .lss 33),oh 25 (oy 31 36),oq (.pick (.s 25) (.c (.bool aa)) (.s 37))],ci 38 (rg 39 [ol 2 5,o2 2 3])]) 40],rg 41 [ol 2 3,o2 2 2],.ret]) [.cell 2 aa 2] 42:=aW func57
section
variable {c:aq}
theorem Z0:bF ak 1 (c.enc.drop 3)=U (.int .i64 c.name.pos):=rfl
theorem ZX:bF ak 1 (c.enc.drop 12)=U (.int .i64 c.right.kind):=rfl
theorem ZY:bF ak 1 (c.enc.drop 13)=U (.int .i64 c.right.pos):=rfl
def uj:=ae @Z0 <| ae @ZX @ZY
end
def ad'{l:List aL}(h:j<l.length):(l.map aL.enc)[((j:Nat):Int).toNat]?=U l[j].enc:=by simp[h]
def x_(l:List aL)(Z:ag)(hl:l.length<=100000000):a_ 57 [.sl .no 2 (l.map aL.enc)] Z (.agg (fU l).enc):=by
 refine ag2.aS ?_;simp only[aR,am,a8,Nat.reduceAdd,aN];refine dP (l.length) (λi (x:Unit)=>⟨[.any,.any,.ptr (.aD 0) 0,.ptr (.aD 1) 0,.any,.any,.sl .no 2 (l.map aL.enc),.int .i64 (l.length:Nat),.int .i64 (i:Nat)]++au 33 .any,[aL.zero.enc,(fU (l.take i)).enc],Z⟩) (λi x=>(True)) λF hF JF bj=>⟨?_,?_,?_⟩
 .refine en bj (()) (trivial) ?_ ?_ ?_
  all_goals simp[hF,au,am,bQ,fU,aL.zero,aL.enc]
 .rintro i x hi -;have hT:=akx hi;simp only[hF,au,am,dB hi];refine ix (ad' hi) ?_;simp only[am,Nat.reduceAdd,aL.al];generalize fU (l.take i)=o at hT;generalize l[i]=f at hT
  by_cases h0:f.cls=0
  .rw[kK,aE h0] at hT;simp only[am,a9,reduceCtorEq,aL.al,aQ h0,cE hi];refine fQ (()) hi ?_ ?_ ?_ ?_ ?_ ?_
   .exact eQ (bj _ _) (trivial)
   all_goals simp[hF,au,am,bQ,bS,dL,V.lo,hT,aL.cH]
  rw[kK,aC h0] at hT;simp only[am,aL.al,aM h0];have yes:uU o f=aa->fU (l.take (i+1))=f:=λh=>by rw[hT,h,aE rfl]
  have no:uU o f=ak->fU (l.take (i+1))=o:=λh=>by rw[hT,h];rfl
  by_cases h1:o.cls=0
  .have e:=yes (by simp[uU,h1]);simp only[am,a9,aL.al,aQ h1,cE hi];refine fQ (()) hi ?_ ?_ ?_ ?_ ?_ ?_
   .exact eQ (bj _ _) (trivial)
   all_goals simp[hF,au,am,bQ,bS,dL,V.lo,e,aL.cH]
  simp only[am,aL.al,aM h1]
  by_cases h2:f.cls<o.cls
  .have e:=yes (by simp[uU,h2]);simp only[am,a9,aL.al,aQ h2,cE hi];refine fQ (()) hi ?_ ?_ ?_ ?_ ?_ ?_
   .exact eQ (bj _ _) (trivial)
   all_goals simp[hF,au,am,bQ,bS,dL,V.lo,e,aL.cH]
  simp only[am,aL.al,aM h2]
  by_cases h3:f.cls=o.cls
  case neg =>
   have e:=no (by simp[uU,h1,h2,h3]);simp only[am,a9,aM h3,cE hi];refine fQ (()) hi ?_ ?_ ?_ ?_ ?_ ?_
   .exact eQ (bj _ _) (trivial)
   all_goals simp[hF,au,am,bQ,bS,dL,V.lo,e,aL.cH]
  simp only[am,aL.al,aQ h3]
  by_cases h4:f.aD<o.aD
  .have e:=yes (by simp[uU,h3,h4]);simp only[am,a9,aL.al,aQ h4,cE hi];refine fQ (()) hi ?_ ?_ ?_ ?_ ?_ ?_
   .exact eQ (bj _ _) (trivial)
   all_goals simp[hF,au,am,bQ,bS,dL,V.lo,e,aL.cH]
  .have e:=no (by simp[uU,h1,h2,h4]);simp only[am,a9,aM h4,cE hi];refine fQ (()) hi ?_ ?_ ?_ ?_ ?_ ?_
   .exact eQ (bj _ _) (trivial)
   all_goals simp[hF,au,am,bQ,bS,dL,V.lo,e,aL.cH]
 .rintro x -;simp only[hF,au,am,a9,dV,a9,aL.al,eN];refine aU ?_;simp[V.erase,aL.dk]
def Q_(s:aH)(c:aq)(hs:s.ok)(hg:TZ Z)(hl:c.left.cy<=100000)(hr:c.right.cy<=100000)(zG:c.left.wt<=aO)(wc:c.right.wt<=aO):
 a_ 55 [.agg s.enc,.agg c.enc] Z (.agg (jQ s c).enc):=by
 refine ag0.aS ?_;simp only[aR,am,a8,Nat.reduceAdd,Int.reduceNeg,jt,aH.al,di,eU];intro b hb;simp only[am,Int.reduceNeg];refine bq.tok 0 λY br=>⟨_,_,(Z.set b _).set b (nK Y [] s (-1) c.pos),ey.rfl,rfl,λi c' hc=>⟨c',hc,ey.rfl⟩,p8.set gR (by simp[nK,o5]),?_⟩
 have br:Z.aK Y=none:=br;rw[ag.set_set,show(Z.set b (nK Y [] s (-1) c.pos)).aY Y 0=cS Z b Y [] s (-1) c.pos from rfl];have fin:∀(L:List aL) (t:List V) (lo:List (List V)) (lat:Int),fU L=jQ s c->mV (λv σ' => v = .agg (jQ s c).enc/\σ' = Z) ⟨t,lo,cS Z b Y L s lat c.pos⟩ (.agg (fU L).enc):=λL t lo lat h=>by
  rw[h];exact aP rfl (ate hb br) ⟨rfl,rfl⟩
 have hv:∀{t:List UInt8} {y k lat:Int},(gT s lat t y k).length<=1:=B7;have atS:=@aj6 s c.name;have e1:dh (iu s.bu c.name.an)=cM s c:=rfl;have aB:cM s c<s.bu.length:=by
  rw[cM];cases h:iu s.bu c.name.an with
  | none=>simp only[dh];omega
  | some k=>have:=(F1 h).1;simp only[dh];omega
 simp only[am,Int.reduceNeg,eU]
 by_cases iL:c.op=10
 .simp only[am,Nat.reduceAdd,Int.reduceNeg,cO,uj,aQ iL];refine cl (Eu Z b Y [] s (-1) c.pos c.name.pos 2 c.name.an (by simp) hs) ?_;simp only[am,Int.reduceNeg,jt,gd];have hlen:=@B7 s (-1) c.name.an c.name.pos 2;refine cl (cg.eh (as' := [.sl .no 2 ((gT s (-1) c.name.an c.name.pos 2).map aL.enc)]) (x_ (gT s (-1) c.name.an c.name.pos 2) _ (by omega)) ⟨da.no,trivial⟩ bL.rfl) ?_;simp only[am,Int.reduceNeg,aL.al];exact fin _ _ _ _ (by rw[jQ,qF];rw[aE iL])
 simp only[am,Int.reduceNeg,aM iL]
 by_cases sN:c.op=15
 .simp only[am,Nat.reduceAdd,Int.reduceNeg,cO,uj,aQ sN];refine cl (Eu Z b Y [] s (-1) c.pos c.name.pos 1 c.name.an (by simp) hs) ?_;simp only[am,Int.reduceNeg,jt,gd];have hlen:=@B7 s (-1) c.name.an c.name.pos 1;refine cl (cg.eh (as' := [.sl .no 2 ((gT s (-1) c.name.an c.name.pos 1).map aL.enc)]) (x_ (gT s (-1) c.name.an c.name.pos 1) _ (by omega)) ⟨da.no,trivial⟩ bL.rfl) ?_;simp only[am,Int.reduceNeg,aL.al];exact fin _ _ _ _ (by rw[jQ,qF];rw[aC iL,aE sN])
 simp only[am,Int.reduceNeg,aM sN]
 by_cases h8:c.op=8
 .simp only[am,Int.reduceNeg,cO,aQ h8];have l1:=@LV s (cM s c) c.left;have l2:=@LV s (cM s c) c.right;refine cl (WE Z b Y [] s (-1) c.pos c.name (by simp) hs) ?_;rw[e1,gd];simp only[am,Int.reduceNeg,Nd.al,cO];refine cl (WD Z b Y (gk s c.name) s (cM s c) c.pos c.left hs hg hb aB (by omega) (by omega) zG) ?_;simp only[am,Int.reduceNeg,Nd.al,cO];refine cl (WD Z b Y (gk s c.name++fF s (cM s c) c.left) s (cM s c) c.pos c.right hs hg hb aB (by simp only[bN];omega) (by omega) wc) ?_;simp only[am,Int.reduceNeg,uj];have hlen:(gk s c.name++fF s (cM s c) c.left++fF s (cM s c) c.right).length<=200001:=by simp only[bN];omega
  have done:∀(d:List aL) (t:List V) (lo:List (List V)),d=xm c.right->mV (λv σ' => v = .agg (jQ s c).enc/\σ' = Z) ⟨t,lo,cS Z b Y ((gk s c.name++fF s (cM s c) c.left++fF s (cM s c) c.right)++d) s (cM s c) c.pos⟩ (.agg (fU ((gk s c.name++fF s (cM s c) c.left++fF s (cM s c) c.right)++d)).enc):=λd t lo hd=>fin _ _ _ _ (by rw[jQ,qF,aC iL,aC sN,aE h8,hd])
  by_cases k8:c.right.kind=8\/c.right.kind=9
  .have pC:(decide (c.right.kind=8)=aa)\/(decide (c.right.kind=8)=ak/\decide (c.right.kind=9)=aa):=by
    by_cases h:c.right.kind=8
    .exact .inl (aQ h)
    .exact .inr ⟨aM h,aQ (by simpa [h] using k8)⟩
   rcases pC with q1 | ⟨q1,q2⟩
   case' inl=>simp only[am,Nat.reduceAdd,Int.reduceNeg,uj,q1]
   case' inr=>simp only[am,Nat.reduceAdd,Int.reduceNeg,uj,q1,q2]
   all_goals
    refine bJ.intro (Ex Z b Y (gk s c.name++fF s (cM s c) c.left++fF s (cM s c) c.right) s (cM s c) c.pos 6 c.right.pos (by omega)) ?_;simp only[am,Int.reduceNeg,jt];refine cl (cg.eh (as' := [.sl .no 2 (((gk s c.name++fF s (cM s c) c.left++fF s (cM s c) c.right)++[(⟨6,c.right.pos⟩:aL)]).map aL.enc)]) (x_ ((gk s c.name++fF s (cM s c) c.left++fF s (cM s c) c.right)++[(⟨6,c.right.pos⟩:aL)]) _ (by simp only[bN,gC];omega)) ⟨da.no,trivial⟩ bL.rfl) ?_;simp only[am,Int.reduceNeg,aL.al];exact done _ _ _ (by rw[xm,aE k8])
  .simp only[am,Nat.reduceAdd,Int.reduceNeg,uj,aM (λh=>k8 (.inl h)),aM (λh=>k8 (.inr h))];refine bJ.intro (Aw Z b Y (gk s c.name++fF s (cM s c) c.left++fF s (cM s c) c.right) s (cM s c) c.pos 6 c.right.pos (by omega)) ?_;simp only[am,Int.reduceNeg,jt];refine cl (cg.eh (as' := [.sl .no 2 ((gk s c.name++fF s (cM s c) c.left++fF s (cM s c) c.right).map aL.enc)]) (x_ (gk s c.name++fF s (cM s c) c.left++fF s (cM s c) c.right) _ (by omega)) ⟨da.no,trivial⟩ bL.rfl) ?_;simp only[am,Int.reduceNeg,aL.al]
   have:=done [] ?_ ?_ (by rw[xm,aC k8])
   .rw[eD] at this;exact this
 simp only[am,Int.reduceNeg,aM h8]
 by_cases h9:c.op=9
 .simp only[am,Int.reduceNeg,cO,aQ h9];refine cl (WE Z b Y [] s (-1) c.pos c.name (by simp) hs) ?_;rw[e1,gd];simp only[am,Int.reduceNeg,Nd.al,cO];refine cl (WN Z b Y (gk s c.name) s (cM s c) c.pos c.left hs hg hb aB (by omega) hl zG) ?_;simp only[am,Int.reduceNeg,Nd.al,cO];have r1:=@VG s (cM s c) c.pos c.left;have r2:=@VG s (cM s c) c.pos c.right;refine cl (WN Z b Y (gk s c.name++nr s (cM s c) c.pos c.left) s (cM s c) c.pos c.right hs hg hb aB (by simp only[bN];omega) hr wc) ?_;simp only[am,Int.reduceNeg,jt];refine cl (cg.eh (as' := [.sl .no 2 ((gk s c.name++nr s (cM s c) c.pos c.left++nr s (cM s c) c.pos c.right).map aL.enc)]) (x_ (gk s c.name++nr s (cM s c) c.pos c.left++nr s (cM s c) c.pos c.right) _ (by simp only[bN];omega)) ⟨da.no,trivial⟩ bL.rfl) ?_;simp only[am,Int.reduceNeg,aL.al];exact fin _ _ _ _ (by rw[jQ,qF];rw[aC iL,aC sN,aC h8,aE h9])
 simp only[am,Int.reduceNeg,jt,aM h9];refine cl (cg.eh (as' := [.sl .no 2 (([]:List aL).map aL.enc)]) (x_ ([]:List aL) _ (by simp)) ⟨da.no,trivial⟩ bL.rfl) ?_;simp only[am,Int.reduceNeg,aL.al];exact fin _ _ _ _ (by rw[jQ,qF];rw[aC iL,aC sN,aC h8,aC h9])
def aet:aT prog 117 (sq [rg 4 [oz 1],rg 5 [oz 6],sq [rg 7 [om 0,nL,oi 0],lp 8 0 (sq [rg 11 [om 9,o1 6],sq [rg 12 [om 6,nB .gtr 0],ci 13 (rg 14 [om 5,om 1,oq (.mu (.s 14) (.s 15)),o1 5])],rg 17 [om 5,om 0,om 6,nA 1 18,no,oq (.mu (.s 17) (.s 21)),o1 5]]) 23],rg 24 [om 5,oq (.sI (.s 24)),o1 4],.ret]) [.tmp 4] 26:=aW func117
def aeu:aT prog 118 (sq [rg 2 [oz 6],rg 3 [oz 6],sq [rg 6 [om 0,nL,oi 0],lp 7 0 (sq [rg 10 [oA 2 6 8,nl 2,oZ 5 [1,0],o2 2 5],rg 12 [om 3,fo 0 5,n1 1,na 1 12,o1 3]]) 17],rg 18 [om 3,o1 2],.ret]) [.tmp 2] 19:=aW func118
def aev:aT prog 119 (sq [rg 2 [oz 1],rg 3 [om 0,oc 117 [.s 3,.c (.aF [44])],oq (.cat (.c (.aF [123])) (.s 4)),oq (.cat (.s 5) (.c (.aF [125]))),o1 2],.ret]) [.tmp 2] 7:=aW func119
def aew:aT prog 120 (sq [rg 2 [oz 6],rg 3 [oz 6],sq [rg 6 [om 0,nL,oi 0],lp 7 0 (sq [rg 10 [oA 4 6 8,nl 4,oZ 5 [1,0,1,0],o2 4 5],rg 12 [om 3,oQ 2 2 5 0,nF 0,oq (.cat (.s 15) (.c (.aF [60]))),oQ 2 2 5 1,nF 0,oq (.cat (.s 16) (.s 19)),n1 1,na 1 12,o1 3]]) 23],rg 24 [om 3,o1 2],.ret]) [.tmp 2] 25:=aW func120
def lx(l:List (List UInt8)):List (List V):=l.map λs=>[V.aF s]
def vJ:(lx l).length=l.length:=aN ..
def QL(h:l[j]?=U s):(lx l)[(j:Int).toNat]?=U [.aF s]:=by simp[lx,h]
def DK(l:List (List UInt8))(sep:List UInt8)(Z:ag)(i Y:Nat):St :=
 ⟨[.sl .no 1 (lx l),.aF sep,.any,.any,.any,.sl (.tk Y) 1 (de (jm sep (l.take i))),.any,.any,.int .i64 l.length,.int .i64 (i:Nat)]++au 16 .any,[],Z.aY Y (jm sep (l.take i)).length⟩
def Mp(l:List (List UInt8))(sep:List UInt8)(Z:ag)(hl:l.length<=aO)(hb:(jm sep l).length<=aO) :
 a_ 117 [.sl .no 1 (lx l),.aF sep] Z (.aF (jm sep l)):=by
 refine aet.aS ?_;simp only[aR,am,a8,Nat.reduceAdd,vJ];refine iG (λp:{p:Nat × Nat // Z.aK p.2=af/\p.1<=l.length}=>DK l sep Z p.1.1 p.1.2) (λp=>l.length - p.1.1) ?_ ?_
 .refine bq.Ax 0 λY br=>⟨⟨(0,Y),br,by simp⟩,?_,rfl,rfl⟩
  simp[DK,au,o5,jm,de]
 .rintro⟨⟨i,Y⟩,br,hi⟩;simp only at br hi;simp only[DK,au,am];have wi:IntKind.i64.wrap ((i:Int)+1)=((i+1:Nat):Int):=by simp only[aO] at hl;rw[wrap_i64];simp
  by_cases aB:i<l.length
  .have hs:=ajH (sep:=sep) aB;have hm:=ajE (sep:=sep) (l:=l) (i:=i+1);rw[hs] at hm;simp only[bN] at hm;simp only[am,aQ (show(i:Int)<l.length by omega)]
   by_cases h0:0<i
   case' pos =>
    rw[aE h0] at hs hm;simp only[am,cF,aQ (show(0:Int)<i by omega)];refine⟨_,rfl,?_⟩;refine jP (by rw[iS,iS];omega) (by rw[iS,iZ]) ?_;simp only[am,jr];rw[<-CV,iS,iS,<-bN]
   case' neg =>
    rw[aC h0,eD] at hs;rw[aC h0] at hm;simp only[am,aM (show ¬(0:Int)<i by omega)]
   all_goals
    refine ix (QL (cL aB)) ?_;simp only[am,cF];refine⟨_,rfl,?_⟩;refine jP (by rw[iS,iS];simp at hm ⊢;omega) (by rw[iS,iZ]) ?_;simp only[am,jr,wi];rw[<-CV,iS,iS,<-bN,<-hs];exact bq.again (I:=λp:{p:Nat × Nat // Z.aK p.2=af/\p.1<=l.length}=>DK l sep Z p.1.1 p.1.2) (μ:=λp=>l.length - p.1.1) ⟨(i+1,Y),br,aB⟩ (by simp;omega) (by simp[DK,am,au]) cm.rfl bL.rfl
  .have aB:i=l.length:=by omega
   subst aB;simp only[am,cF,aM (show ¬(l.length:Int)<l.length by omega),eN];refine⟨_,_,rfl,?_⟩;refine aP rfl (so br) ⟨?_,rfl⟩;simp[V.erase]
def xX(l:List aA)(Z:ag)(i Y:Nat)(aD:List (List V)):St :=
 ⟨[.any,.any,.any,.sl (.tk Y) 1 (lx ((l.take i).map aA.an)),.any,.any,.sl .no 2 (l.map aA.enc),.int .i64 l.length,.int .i64 (i:Nat)]++au 10 .any,aD,Z.aY Y i⟩
def y_:lx l++[[.aF s]]=lx (l++[s]):=by simp[lx]
def H6(l:List aA)(Z:ag)(hl:l.length+1<=aO):a_ 118 [.sl .no 2 (l.map aA.enc)] Z (.sl .no 1 (lx (l.map aA.an))):=by
 refine aeu.aS ?_;simp only[aR,am,a8,Nat.reduceAdd];refine iG (λp:{p:Nat × Nat // Z.aK p.2=af/\p.1<=l.length}=>xX l Z p.1.1 p.1.2 []) (λp=>l.length - p.1.1) ?_ ?_
 .refine bq.Ax 0 λY br=>⟨⟨(0,Y),br,by simp⟩,?_,rfl,rfl⟩
  simp[xX,au,o5,lx]
 .rintro⟨⟨i,Y⟩,br,hi⟩;simp only at br hi;simp only[xX,au,am];have wi:IntKind.i64.wrap ((i:Int)+1)=((i+1:Nat):Int):=by simp only[aO] at hl;rw[wrap_i64];simp
  by_cases aB:i<l.length
  .have wb:((l.take i).map aA.an).length=i:=by simp;omega
   have qV:(l.take i).map aA.an++[l[i].an]=(l.take (i+1)).map aA.an:=by rw[jx aB,f_,EW]
   simp only[am,aQ (show(i:Int)<l.length by omega)];refine ix (qx (cL aB)) ?_;simp only[am,Nat.reduceAdd,aA.enc];refine jP (by rw[vJ,wb];simp;omega) (by rw[vJ,wb,iZ]) ?_;simp only[am,vJ,jr,wi,wb];rw[y_,qV];exact bq.ud (I:=λp:{p:Nat × Nat // Z.aK p.2=af/\p.1<=l.length}=>xX l Z p.1.1 p.1.2 []) (μ:=λp=>l.length - p.1.1) ⟨(i+1,Y),br,aB⟩ (by simp;omega) (by simp[xX,am,au]) (by simp[xX,am]) bL.rfl (by simp[xX,au,bS,V.lo]) (by simp[xX,dL])
  .have aB:i=l.length:=by omega
   subst aB;simp only[am,aM (show ¬(l.length:Int)<l.length by omega),eN];refine aP rfl (so br) ⟨?_,rfl⟩;simp[V.erase]
def xY(l:List (aA × aA))(Z:ag)(i Y:Nat)(aD:List (List V)):St :=
 ⟨[.any,.any,.any,.sl (.tk Y) 1 (lx ((l.take i).map jH)),.any,.any,.sl .no 4 (l.map ff),.int .i64 l.length,.int .i64 (i:Nat)]++au 16 .any,aD,Z.aY Y i⟩
def anX(l:List (aA × aA))(Z:ag)(hl:l.length+1<=aO)(hp:j8 l<=aO):a_ 120 [.sl .no 4 (l.map ff)] Z (.sl .no 1 (lx (l.map jH))):=by
 refine aew.aS ?_;simp only[aR,am,a8,Nat.reduceAdd];refine iG (λp:{p:Nat × Nat // Z.aK p.2=af/\p.1<=l.length}=>xY l Z p.1.1 p.1.2 []) (λp=>l.length - p.1.1) ?_ ?_
 .refine bq.Ax 0 λY br=>⟨⟨(0,Y),br,by simp⟩,?_,rfl,rfl⟩
  simp[xY,au,o5,lx]
 .rintro⟨⟨i,Y⟩,br,hi⟩;simp only at br hi;simp only[xY,au,am];have wi:IntKind.i64.wrap ((i:Int)+1)=((i+1:Nat):Int):=by simp only[aO] at hl;rw[wrap_i64];simp
  by_cases aB:i<l.length
  .have wb:((l.take i).map jH).length=i:=by simp;omega
   have qV:(l.take i).map jH++[jH l[i]]=(l.take (i+1)).map jH:=by rw[jx aB,f_,EW]
   simp only[am,aQ (show(i:Int)<l.length by omega)];refine ix (yj (cL aB)) ?_;simp only[am,cF,Nat.reduceAdd,ff];have n9:=aoB aB;refine jD ?_;simp only[am,cF,Int.reduceToNat,Nat.reduceMul];refine⟨by simp;omega,?_⟩;refine jD ?_;simp only[am,Int.reduceToNat,Nat.reduceMul];refine⟨by simp;omega,?_⟩;refine jP (by rw[vJ,wb];simp;omega) (by rw[vJ,wb,iZ]) ?_;simp only[am,vJ,jr,wi,wb];rw[show l[i].1.an++[60]++l[i].2.an=jH l[i] from rfl,y_,qV];exact bq.ud (I:=λp:{p:Nat × Nat // Z.aK p.2=af/\p.1<=l.length}=>xY l Z p.1.1 p.1.2 []) (μ:=λp=>l.length - p.1.1) ⟨(i+1,Y),br,aB⟩ (by simp;omega) (by simp[xY,am,au]) (by simp[xY,am]) bL.rfl (by simp[xY,au,bS,V.lo]) (by simp[xY,dL])
  .have aB:i=l.length:=by omega
   subst aB;simp only[am,aM (show ¬(l.length:Int)<l.length by omega),eN];refine aP rfl (so br) ⟨?_,rfl⟩;simp[V.erase]
def PX(l:List (List UInt8))(Z:ag)(hl:l.length<=aO)(hb:(cB l).length+2<=aO):a_ 119 [.sl .no 1 (lx l)] Z (.aF (ui l)):=by
 refine aev.aS ?_;simp only[aR,am,a8,Nat.reduceAdd];refine cl (Mp l [44] Z hl (by rw[G0];omega)) ?_;simp only[am,G0];refine⟨by simp;omega,by simp;omega,?_⟩;refine aU ?_;simp[V.erase,ui]
def ag4:aT prog 59 (sq [rg 2 [ox 1 17 0,oz 1],rg 8 [fo 0 1,oC 100 [9],oZ 3 [1,1],o2 2 3],rg 11 [fo 0 3,n1 1,o1 4],rg 14 [of 7 1,nl 5,of 12 1,nl 5,oq (.kf 5 [(.s 15),(.s 17)]),o1 5],.BX (rS 19 [fo 1 3]) (.s 20) 21 22 23 0 1 (sq [rg 24 [oe 22 2,o1 7],rg 25 [om 7],.block 2 (sq [rg 36 [oq (.ek .eql (.s 25) (.c (.int .i32 110))),o1 35],cd 35 (rg 37 [om 4,of 2 1,nF 0,n1 1,na 1 37,o1 4]) (sq [rg 44 [oq (.ek .eql (.s 25) (.c (.int .i32 102))),o1 43],cd 43 (rg 45 [om 4,fo 4 1,oC 118 [47],oc 117 [.s 48,.c (.aF [44])],n1 1,na 1 45,o1 4]) (sq [rg 53 [oq (.ek .eql (.s 25) (.c (.int .i32 119))),o1 52],cd 52 (rg 54 [om 4,fo 4 1,oC 118 [56],oC 119 [57],n1 1,na 1 54,o1 4]) (sq [rg 62 [oq (.ek .eql (.s 25) (.c (.int .i32 112))),o1 61],cd 61 (rg 63 [om 4,fo 5 1,oC 120 [65],oC 119 [66],n1 1,na 1 63,o1 4]) (sq [rg 26 [om 4,om 5,nI 5 0,nl 5,oC 121 [29],n1 1,na 1 26,o1 4],rg 33 [om 5,oq (.kF 5 (.s 33) (U (.c (.int .i64 1))) af af),o1 5]])])])])])]),rg 70 [om 4,oc 117 [.s 70,.c (.aF [32])],o1 2],.ret]) [.tmp 2] 72:=aW func59
def Ar(c:aq)(Z:ag)(ks:List UInt8)(b i Y:Nat):St :=
 ⟨[.any,.ptr (.aD 0) 0,.any,.any,.sl (.tk Y) 1 (lx (kB c (ks.take i)).1),.sl .no 5 ((kB c (ks.take i)).2.map Nd.enc)]++au 15 .any++[.raw (.pointer (U ⟨b,0,af⟩))]++au 50 .any,[c.enc,[.aF (cp c.op).1,.aF ks]],Z.aY Y (i+1)⟩
def Qx(c:aq)(hg:Z.bY 0=U gh)(hw:16*c.wt+64<=aO):a_ 59 [.agg c.enc] Z (.aF (eb c)):=by
 have hcw:c.wt=c.name.an.length+eK c.aj+j8 c.bm+c.left.wt+c.right.wt:=rfl;have hn1:=MZ c.aj;have K8:=Vj c.bm;refine ag4.aS ?_;simp only[aR,am,a8,Nat.reduceAdd,di,eU];refine cl (MB c.op hg) ?_;simp only[am,Nat.reduceAdd,Nd.al,cO];refine N9 ?_;simp only[am];have Gw:=ahf c.op;have xR:eb c=jm [32] (kB c (cp c.op).2).1:=rfl;have xK:=Rx c.op;generalize fP:(cp c.op).2=ks at Gw xR xK;refine⟨ks,rfl,by rw[<-fP];exact JV c.op,λb i aJ => ∃Y:{Y:Nat // Z.aK Y=af},aJ = Ar c Z ks b i Y.1,?_,?_,?_,?_⟩
 .intro b;refine bq.Ax 1 λY br=>⟨⟨Y,br⟩,?_,?_,rfl⟩
  .simp[Ar,au,o5,lx,kB];exact⟨jg.tok rfl,jg.le da.no⟩
  .simp[Ar]
 .rintro b i _ ⟨Y,rfl⟩;exact⟨rfl,by simp[Ar],by simp[Ar]⟩
 .rintro b i k _ hk ⟨⟨Y,br⟩,rfl⟩;have hi:i<ks.length:=(fg.1 hk).1;have qU:ks.take (i+1)=ks.take i++[k]:=by rw[Ew hk]
  obtain⟨o1,o2,o3,o4⟩:=MU c (ks.take i);have qV:=U7 c (ks.take i) k;rw[<-qU] at qV;have mZ:(lx (kB c (ks.take i)).1).length=i+1:=by rw[vJ,o3,iR];omega
  have iw:∀n:UInt8,((k.toNat:Nat):Int)=(n.toNat:Nat)↔k=n:=λn=>by
   constructor
   .intro h;exact Pm.1 (by omega)
   .rintro rfl;rfl
  have CU:((k.toNat:Nat):Int)=110↔k=110:=iw 110;have FN:((k.toNat:Nat):Int)=102↔k=102:=iw 102;have y8:((k.toNat:Nat):Int)=119↔k=119:=iw 119;have y7:((k.toNat:Nat):Int)=112↔k=112:=iw 112;have ht:=Gw i hi k hk;simp only[Ar,au,am];generalize hX:kB c (ks.take i)=X at *;obtain⟨rows,ts⟩:=X;simp only at o1 o2 o3 o4 mZ;simp only;rw[qV];simp only[yz];have Dq:rows.length+1<=aO:=by
   have:(List.take i ks).length<=3:=by rw[iR];omega
   simp only[aO];omega
  by_cases k1:k=110
  .have hp:mf k c (ts.headD .zero)=c.name.an:=by subst k1;rfl
   have hq:isTerm k=false:=by subst k1;rfl
   simp only[am,cO,aQ (CU.2 k1),hp,hq];refine jP (by rw[mZ];simp only[gC,aO] at *;omega) (by rw[mZ,iZ]) ?_;simp only[am,cF,jr,mZ];rw[y_];exact bq.eh (by simp[am]) (by simp[am]) bL.rfl ⟨⟨Y,br⟩,rfl⟩
  simp only[am,aM (λh=>k1 (CU.1 h))]
  by_cases k2:k=102
  .have hp:mf k c (ts.headD .zero)=cB (c.aj.map aA.an):=by subst k2;rfl
   have hq:isTerm k=false:=by subst k2;rfl
   simp only[am,cO,aQ (FN.2 k2),hp,hq];refine cl (H6 c.aj _ (by omega)) ?_;simp only[am];refine cl (Mp (c.aj.map aA.an) [44] _ (by rw[aN];omega) (by rw[G0];omega)) ?_;simp only[am,G0];refine jP (by rw[mZ];simp only[gC,aO] at *;omega) (by rw[mZ,iZ]) ?_;simp only[am,cF,jr,mZ];rw[y_];exact bq.eh (by simp[am]) (by simp[am]) bL.rfl ⟨⟨Y,br⟩,rfl⟩
  simp only[am,aM (λh=>k2 (FN.1 h))]
  by_cases k3:k=119
  .have hp:mf k c (ts.headD .zero)=ui (c.aj.map aA.an):=by subst k3;rfl
   have hq:isTerm k=false:=by subst k3;rfl
   simp only[am,cO,aQ (y8.2 k3),hp,hq];refine cl (H6 c.aj _ (by omega)) ?_;simp only[am];refine cl (PX (c.aj.map aA.an) _ (by rw[aN];omega) (by omega)) ?_;simp only[am];refine jP (by rw[mZ];simp only[gC,aO] at *;omega) (by rw[mZ,iZ]) ?_;simp only[am,cF,jr,mZ];rw[y_];exact bq.eh (by simp[am]) (by simp[am]) bL.rfl ⟨⟨Y,br⟩,rfl⟩
  simp only[am,aM (λh=>k3 (y8.1 h))]
  by_cases k4:k=112
  .have hp:mf k c (ts.headD .zero)=ui (c.bm.map jH):=by subst k4;rfl
   have hq:isTerm k=false:=by subst k4;rfl
   simp only[am,cO,aQ (y7.2 k4),hp,hq];refine cl (anX c.bm _ (by omega) (by omega)) ?_;simp only[am];refine cl (PX (c.bm.map jH) _ (by rw[aN];omega) (by omega)) ?_;simp only[am];refine jP (by rw[mZ];simp only[gC,aO] at *;omega) (by rw[mZ,iZ]) ?_;simp only[am,cF,jr,mZ];rw[y_];exact bq.eh (by simp[am]) (by simp[am]) bL.rfl ⟨⟨Y,br⟩,rfl⟩
  simp only[am,aM (λh=>k4 (y7.1 h))];have hq:isTerm k=true:=by simp[isTerm,k1,k2,k3,k4]
  have ht2:=ht hq;obtain⟨n,ns,pE⟩:∃n ns,ts=n::ns:=by
   rw[o4]
   match (List.filter isTerm (List.take i ks)).length,ht2 with
   | 0,_=>exact⟨_,_,rfl⟩
   | 1,_=>exact⟨_,_,rfl⟩
  have hnw:n.wt<=c.wt:=o2 n (by rw[pE];simp);have hp:mf k c (ts.headD .zero)=n.dc:=by rw[pE];simp[mf,k1,k2,k3,k4]
  have qX:ts.map Nd.enc=n.enc::ns.map Nd.enc:=by rw[pE];rfl
  have wb:ts.tail=ns:=by rw[pE];rfl
  simp only[am,hp,hq,wb,qX];refine xT (c:=n.enc) (by simp) ?_;simp only[am,Nd.al];refine cl (arw _ n _ (bP _) (by omega)) ?_;simp only[am];refine jP (by rw[mZ];simp only[gC,aO] at *;omega) (by rw[mZ,iZ]) ?_;simp only[am,cF,jr,mZ];refine aqN (a:=1) (by simp) ?_;simp only[am,cF];rw[y_];exact bq.eh (by simp[am]) (by simp[am]) bL.rfl ⟨⟨Y,br⟩,rfl⟩
 .rintro b _ ⟨⟨Y,br⟩,rfl⟩;simp only[Ar,au,am];rw[eN];obtain⟨o1,o2,o3,o4⟩:=MU c ks;have zy:=ajF _ o1;rw[o3] at zy;have hjb:(jm [32] (kB c ks).1).length<=aO:=by
   have:(ks.length+1)*(c.wt+8+1)<=4*(c.wt+8+1):=rC _ (by omega)
   omega
  refine(cg.eh (Mp (kB c ks).1 [32] (Z.aY Y (ks.length+1)) (by rw[o3];simp only[aO];omega) hjb) ?_ bL.rfl).mono ?_
  .simp[am]
  rintro v _ ⟨rfl,rfl⟩;simp only[am];refine aP rfl (so br) ⟨?_,rfl⟩;rw[xR];rfl
def aeB:aT prog 138 (sq [rg 2 [oz 6],rg 3 [oz 6],sq [rg 6 [om 0,nL,oi 0],lp 7 0 (sq [rg 10 [oA 2 6 8,nl 2,oZ 5 [1,0],o2 2 5],rg 12 [om 3,fo 0 5,n1 1,na 1 12,o1 3]]) 17],rg 18 [om 3,o1 2],.ret]) [.tmp 2] 19:=aW func138
def aeC:aT prog 139 (sq [rg 0 [ox 1 17 0,oR 2 nq],rg 7 [fo 4 1,oC 138 [8],o1 3],rg 4 [oz 7],sq [rg 10 [fo 5 1,nL,oi 0],lp 12 0 (sq [rg 15 [oA 4 11 13,nl 4,oZ 6 [1,0,1,0],o2 4 6],dg 17 [om 4,om 3,oQ 2 2 6 0,nF 0,oC 173 [18,21],om 3,oQ 2 2 6 1,nf 0,mM [0],no,oC 173 [23,26],oW [0,0] [(0,1,22),(1,1,27)],n1 2,na 2 17,o1 4]]) 31],rg 32 [om 3,nL,om 4,oC 200 [33,34],oC 199 [35],o2 65 2],.ret]) [.cell 2 aa 65] 37:=aW func139
def afe:aT prog 200 (sq [rg 0 [oR 4 nq],rg 8 [om 0,oC 249 [8],oR 5 nq,o2 65 5],sq [rg 10 [om 1,nL,oi 0],lp 11 0 (sq [rg 14 [oA 2 10 12,nl 2,oZ 7 [0,0],o2 2 7],rg 16 [ol 65 5,fo 0 7,oC 250 [16,18],gA,ol 65 5,fo 1 7,oC 250 [21,23],gZ],ci 25 (dg 26 [of 0 7,mM [1],no,fo 0 7,of 1 5,oP 64 1 30 29,no,fo 1 7,oC 247 [32,34],of 1 5,oP 64 1 36 27,os 1 37 35])]) 38],rg 39 [ol 65 5,o2 65 4],.ret]) [.cell 4 aa 65] 40:=aW func200
def afR:aT prog 250 (sq [rg 4 [ox 2 65 0,oz 2],rg 5 [om 1,nB .geq 0,gA,om 1,ol 65 2,oC 267 [9],nb .lss 8,gZ,o1 4],.ret]) [.tmp 4] 13:=aW func250
def yl(p:Int × Int):List V:=[.int .i64 p.1,.int .i64 p.2]
def VF(r:Rl)(i:Int)(Z:ag):a_ 250 [.agg r.enc,.int .i64 i] Z (.bool (decide (0<=i)&&decide (i<(bD r:Nat)))):=by
 refine afR.aS ?_;simp only[aR,am,a8,Nat.reduceAdd,Rl.al]
 by_cases h:0<=i
 .simp only[am,Rl.al,aQ h];refine cl (Ag r Z) ?_;simp only[am];refine aU ?_;simp[V.erase]
 .simp only[am,aM h];refine aU ?_;simp[V.erase]
def aoz{l:List (Int × Int)}(h:j<l.length):(l.map yl)[((j:Nat):Int).toNat]?=U (yl l[j]):=by simp[h]
def apw(n:Int)(l:List (Int × Int))(Z:ag)(hl:l.length<=100000):a_ 200 [.int .i64 n,.sl .no 2 (l.map yl)] Z (.agg (ri n l).enc):=by
 refine afe.aS ?_;simp only[aR,am,a8,Nat.reduceAdd,Rl.al];refine cl (Uq n Z) ?_;simp only[am,aN,Rl.al,aN];refine dP (l.length) (λi (x:Unit)=>⟨[.any,.any,.any,.any,.ptr (.aD 0) 0,.ptr (.aD 1) 0,.any,.any,.any,.any,.sl .no 2 (l.map yl),.int .i64 (l.length:Nat),.int .i64 (i:Nat)]++au 27 .any,[Rl.zero.enc,(ri n (l.take i)).enc],Z⟩) (λi x=>(True)) λF hF JF bj=>⟨?_,?_,?_⟩
 .refine en bj (()) (trivial) ?_ ?_ ?_
  all_goals simp[hF,au,am,bQ,ri]
 .rintro i x hi -;have hT:=anf (n:=n) hi;generalize hr:ri n (l.take i)=r at hT;have hp:=@mg r;obtain⟨p,K8⟩:∃p,l[i]=p:=⟨_,rfl⟩;rw[K8] at hT;simp only[hF,au,am,dB hi];refine ix (aoz hi) ?_;rw[K8,hr];obtain⟨a,b⟩:=p;simp only[am,Nat.reduceAdd,Rl.al,yl];refine cl (VF r a Z) ?_
  by_cases ha:0<=a/\a<(bD r:Nat)
  .simp only[am,Rl.al,aQ ha.1,aQ ha.2];refine cl (VF r b Z) ?_
   by_cases hb:0<=b/\b<(bD r:Nat)
   .obtain⟨k,rfl⟩:∃k:Nat,a=k:=⟨a.toNat,by omega⟩;have hk:k<64:=by omega
    have e:ri n (l.take (i+1))=r.put k (kb (r.get k) b):=by rw[hT,D7,aE ⟨ha,hb⟩];rfl
    simp only[am,cF,aQ hb.1,aQ hb.2];refine jD ?_;simp only[am,ju,sB,Rl.wO hk];refine bJ.intro (D4 (r.get k) b Z) ?_;simp only[am,cF];refine jD ?_;simp only[Cd,Rl.AB hk,Rl.AD hk,cE hi];refine fQ (()) hi ?_ ?_ ?_ ?_ ?_ ?_
    .exact eQ (bj _ _) (trivial)
    all_goals simp[hF,au,am,bQ,bS,dL,V.lo,e,Rl.cH]
   .have e:ri n (l.take (i+1))=r:=by rw[hT,D7,aC λh=>hb h.2]
    have b9 : (decide (0<=b)&&decide (b<(bD r:Nat)))=false:=by rw[<-wV];exact aM hb
    simp only[am,a9,b9,cE hi];refine fQ (()) hi ?_ ?_ ?_ ?_ ?_ ?_
    .exact eQ (bj _ _) (trivial)
    all_goals simp[hF,au,am,bQ,bS,dL,V.lo,e,Rl.cH]
  .have e:ri n (l.take (i+1))=r:=by rw[hT,D7,aC λh=>ha h.1]
   have Gi : (decide (0<=a)&&decide (a<(bD r:Nat)))=false:=by rw[<-wV];exact aM ha
   simp only[am,a9,Gi,cE hi];refine fQ (()) hi ?_ ?_ ?_ ?_ ?_ ?_
   .exact eQ (bj _ _) (trivial)
   all_goals simp[hF,au,am,bQ,bS,dL,V.lo,e,Rl.cH]
 .rintro x -;simp only[hF,au,am,a9,dV,a9,Rl.al,eN];exact aP (v:=.agg (ri n l).enc) Rl.dw (ag.bc _) ⟨by simp only[V.erase,Rl.dk],rfl⟩
def H2(l:List aA)(Z:ag)(hl:l.length<=100000):a_ 138 [.sl .no 2 (l.map aA.enc)] Z (.sl .no 1 (cU (dz l))):=by
 refine aeB.aS ?_;simp only[aR,am,a8,Nat.reduceAdd,aN];refine dP (l.length) (λi (Y:Nat)=>⟨[.any,.any,.any,.sl (.tk Y) 1 (cU (dz (l.take i))),.any,.any,.sl .no 2 (l.map aA.enc),.int .i64 (l.length:Nat),.int .i64 (i:Nat)]++au 10 .any,[],Z.aY Y i⟩) (λi Y=>(Z.aK Y=af)) λF hF JF bj=>⟨?_,?_,?_⟩
 .refine FT 0 λY br=>⟨Y,eQ (bj _ _) br,?_,?_,?_⟩
  all_goals simp[hF,au,o5,dz,cU]
 .rintro i Y hi br;have hlen:(cU (dz (l.take i))).length=i:=by rw[iY,AJ,iR];omega
  have hs:cU (dz (l.take (i+1)))=cU (dz (l.take i))++[[.aF l[i].an]]:=by rw[jx hi];simp only[dz,cU,f_,b8,eR]
  simp only[hF,au,am,dB hi];refine ix (AG hi) ?_;simp only[am,aA.al,wS];refine jP (by rw[hlen];simp[aO];omega) (by rw[hlen];exact iZ) ?_;rw[hlen];simp only[am,a9,jr,cE hi,gC];refine fQ (Y) hi ?_ ?_ ?_ ?_ ?_ ?_
  .exact eQ (bj _ _) (br)
  all_goals simp[hF,au,am,bQ,bS,dL,V.lo,hs]
 .rintro Y br;simp only[hF,au,am,a9,dV,a9,eN];refine aP rfl (so br) ⟨rfl,rfl⟩
def u9(P:aA × aA->Int × Int)(l:List (aA × aA)):List (List V):=(l.map P).map yl
def aov{P:aA × aA->Int × Int}{l:List (aA × aA)}:(u9 P l).length=l.length:=by simp[u9]
def U5{l:List (aA × aA)}(h:j<l.length):(l.map ff)[((j:Nat):Int).toNat]?=U (ff l[j]):=by simp[h]
def Nh(c:aq)(Z:ag)(hn:c.aj.length<=100000)(hp:c.bm.length<=100000):a_ 139 [.agg c.enc] Z (.agg (sj c).enc):=by
 refine aeC.aS ?_;simp only[aR,am,a8,Nat.reduceAdd,Rl.al];simp only[am,di,cO];refine cl (H2 c.aj Z hn) ?_;simp only[am,aN,aN,cO];have hw:(dz c.aj).length<=100000:=by rw[AJ];exact hn
 generalize hP:HC (dz c.aj)=P;refine dP (c.bm.length) (λi (Y:Nat)=>⟨[.any,.ptr (.aD 0) 0,.ptr (.aD 1) 0,.sl .no 1 (cU (dz c.aj)),.sl (.tk Y) 2 (u9 P (c.bm.take i)),.any,.any,.any,.any,.any,.any,.sl .no 4 (c.bm.map ff),.int .i64 (c.bm.length:Nat),.int .i64 (i:Nat)]++au 23 .any,[c.enc,Rl.zero.enc],Z.aY Y i⟩) (λi Y=>(Z.aK Y=af)) λF hF JF bj=>⟨?_,?_,?_⟩
 .refine FT 0 λY br=>⟨Y,eQ (bj _ _) br,?_,?_,?_⟩
  all_goals simp[hF,au,o5,u9]
 .rintro i Y hi br;have hlen:(u9 P (c.bm.take i)).length=i:=by rw[aov,iR];omega
  have hs:u9 P (c.bm.take (i+1))=u9 P (c.bm.take i)++[yl (P c.bm[i])]:=by rw[jx hi];simp only[u9,f_,b8,eR]
  simp only[hF,au,am,dB hi];refine ix (U5 hi) ?_;simp only[am,cF,Nat.reduceAdd,ff];refine jD ?_;simp only[am,Int.reduceToNat,Nat.reduceMul];refine bJ.intro (vM (dz c.aj) c.bm[i].1.an (Z.aY Y i) hw) ?_;simp only[am,cF];refine jD ?_;simp only[am,Int.reduceToNat,Nat.reduceMul];refine bJ.intro (vM (dz c.aj) c.bm[i].2.an (Z.aY Y i) hw) ?_;simp only[am,Nat.reduceAdd];refine xf (by rw[hlen];simp[aO];omega) (by rw[hlen];exact iZ) ?_;rw[hlen];have he:[V.int .i64 (dh (gY (dz c.aj) c.bm[i].1.an)),.int .i64 (dh (gY (dz c.aj) c.bm[i].2.an))]=yl (P c.bm[i]):=by rw[<-hP];rfl
  rw[he];simp only[am,a9,jr,cE hi,gC];refine fQ (Y) hi ?_ ?_ ?_ ?_ ?_ ?_
  .exact eQ (bj _ _) (br)
  all_goals simp[hF,au,am,bQ,bS,dL,V.lo,hs,aq.enc,aq.cQ,Rl.cH]
 .rintro Y br;simp only[hF,au,am,a9,dV,a9,iY,eN];rw[AJ];refine cl (cg.eh (as' := [.int .i64 (c.aj.length:Nat),.sl .no 2 (u9 P c.bm)]) (show cg prog 200 [.int .i64 (c.aj.length:Nat),.sl .no 2 (u9 P c.bm)] _ _ from apw (c.aj.length:Nat) (c.bm.map P) _ (by simpa using hp)) ⟨da.rfl,da.no,trivial⟩ bL.rfl) ?_;simp only[am,Rl.al];refine cl (Qa _ _) ?_;simp only[am,Rl.al];subst hP;exact aP (v:=.agg (sj c).enc) Rl.dw (so br) ⟨by simp only[V.erase,Rl.dk],rfl⟩
def aeE:aT prog 140 (sq [rg 0 [ox 2 2 0,ox 3 17 1,oZ 4 [2,72]],rg 5 [oz 7],sq [rg 10 [fo 4 3,nL,oi 0],lp 12 0 (sq [rg 15 [oA 2 11 13,nl 2,oZ 7 [1,0],o2 2 7],rg 18 [ol 2 2,fo 0 7,oC 76 [18,20],o1 17,oe 17 0,oe 17 1,ot 8 22,o1 9],rg 24 [om 8,nB .geq 0],ci 25 (rg 26 [om 5,fo 0 2,om 8,nA 3 28,nf 1,nl 2,n1 2,na 2 26,o1 5])]) 35],rg 36 [om 5,oC 198 [36],o2 2 4],.ret]) [.cell 4 aa 2] 38:=aW func140
def afb:aT prog 198 (sq [rg 0 [oZ 2 [2,72]],rg 8 [oG [2,72] [(0,1,.c (.bool aa))],oZ 3 [2,72],o2 2 3],sq [rg 9 [om 0,nL,oi 0],lp 10 0 (sq [rg 13 [oA 2 9 11,nl 2,oZ 5 [2,72],o2 2 5],rg 15 [fo 1 5,nL,oi 0],lp 17 2 (sq [rg 20 [oA 67 16 18,nl 67,oR 7 qL,o2 67 7],dg 22 [of 1 3,mM [1],no,ol 67 7,oC 201 [24],n1 67,na 67 23,of 1 3,os 1 28 27]]) 29]) 30],rg 31 [ol 2 3,o2 2 2],.ret]) [.cell 2 aa 2] 32:=aW func198
def aff:aT prog 201 (sq [rg 0 [ox 1 67 0,oR 2 qL],rg 3 [oq (.kf 1 []),fo 1 1,na 1 3,of 1 1,os 1 7 6],rg 8 [ol 67 1,o2 67 2],.ret]) [.cell 2 aa 67] 9:=aW func201
theorem adJ{f:bp}:bZ 1 (f.enc.drop 1)=true:=rfl
def adM{f:bp}:setAt f.enc 1 [.sl .no 1 (cU f.aj)]=f.enc:=by rw[bp.enc,jo,lR,o8,me]
def P6(f:bp)(Z:ag)(hf:f.aj.length<=100000):a_ 201 [.agg f.enc] Z (.agg f.enc):=by
 refine aff.aS ?_;simp only[aR,am,a8,Nat.reduceAdd,bp.al];refine xg (by simp[iY,aO];omega) ?_;simp only[am,bp.al,adJ,gd,adM];exact aP (v:=.agg f.enc) bp.dw (ag.bc _) ⟨by simp only[V.erase,bp.dk],rfl⟩
def aqF{l:List bA}(h:j<l.length):(l.map bA.enc)[((j:Nat):Int).toNat]?=U l[j].enc:=by simp[h]
def JL{l:List bp}(h:j<l.length):(l.map bp.enc)[((j:Nat):Int).toNat]?=U l[j].enc:=by simp[h]
def vL(l:List bp):List (List V):=l.map bp.enc
def adH{l:List bp}:(vL l).length=l.length:=by simp[vL]
def adG{l:List bp}{f:bp}:vL (l++[f])=vL l++[f.enc]:=by simp[vL]
def Vg(l:List bA)(Z:ag)(hl:l.length<=100000)(hs:∀s∈l,s.bO.length<=100000/\∀f∈s.bO,f.aj.length<=100000)(hb:(l.flatMap bA.bO).length<=100000000) :
 a_ 198 [.sl .no 2 (l.map bA.enc)] Z (.agg (BW l).enc):=by
 have hT:∀{i:Nat} (hi:i<l.length),(l.take (i+1)).flatMap bA.bO=(l.take i).flatMap bA.bO++l[i].bO:=λ{i} hi=>by rw[jx hi,yK];simp
 have hL:∀{i:Nat} (hi:i<l.length),((l.take i).flatMap bA.bO).length+l[i].bO.length<=100000000:=λ{i} hi=>by
  have h1:(l.take (i+1)++l.drop (i+1)).flatMap bA.bO=l.flatMap bA.bO:=by rw[qA]
  rw[<-h1,yK,hT hi] at hb;simp only[bN] at hb;omega
 refine afb.aS ?_;simp only[aR,am,a8,Nat.reduceAdd,aN];obtain⟨Q,hQ⟩:∃Q:Nat->List bp,∀i,Q i=(l.take i).flatMap bA.bO:=⟨_,λ_=>rfl⟩;have vT:Q 0=[]:=by rw[hQ];rfl
 have zm:Q l.length=(BW l).bO:=by rw[hQ,eN];rfl
 refine dP (l.length) (λi (Y:Nat)=>⟨[.any,.any,.ptr (.aD 0) 0,.ptr (.aD 1) 0,.any,.any,.any,.any,.any,.sl .no 2 (l.map bA.enc),.int .i64 (l.length:Nat),.int .i64 (i:Nat)]++au 20 .any,[[.bool ak,.sl .aV 67 []],[.bool aa,.sl (.tk Y) 67 (vL (Q i))]],Z.aY Y (Q i).length⟩) (λi Y=>(Z.aK Y=af)) λF hF JF bj=>⟨?_,?_,?_⟩
 .refine JE 0 λY br=>⟨Y,eQ (bj _ _) br,?_,?_,?_⟩
  all_goals simp[hF,au,o5,Mc,vT,vL]
 .rintro i Y hi br;have hsi:=hs _ (fh hi);have R5:=hL hi;rw[<-hQ] at R5;have qQ:Q (i+1)=Q i++l[i].bO:=by rw[hQ,hQ,hT hi]
  simp only[hF,au,am,dB hi];refine ix (aqF hi) ?_;simp only[am,Nat.reduceAdd,aN,bA.al,aN];generalize Q i=q at R5 qQ;obtain⟨W,hW⟩:∃W:Nat->List bp,∀j,W j=q++l[i].bO.take j:=⟨_,λ_=>rfl⟩;have hW0:q=W 0:=by rw[hW];simp
  have hWn:W l[i].bO.length=Q (i+1):=by rw[hW,eN,qQ]
  rw[hW0];refine dP (l[i].bO.length) (λj (x:Unit)=>⟨[.any,.any,.ptr (.aD 0) 0,.ptr (.aD 1) 0,.any,.any,.any,.any,.any,.sl .no 2 (l.map bA.enc),.int .i64 (l.length:Nat),.int .i64 (i:Nat),.any,.any,.any,.any,.sl .no 67 (l[i].bO.map bp.enc),.int .i64 (l[i].bO.length:Nat),.int .i64 (j:Nat)]++au 13 .any,[[.bool ak,.sl .aV 67 []],[.bool aa,.sl (.tk Y) 67 (vL (W j))],l[i].enc],Z.aY Y (W j).length⟩) (λj x=>(True)) λF2 eH yI ji=>⟨?_,?_,?_⟩
  .refine en ji (()) (trivial) ?_ ?_ ?_
   all_goals simp[eH,au,am,bQ]
  .rintro j x hj -;have Sd:W (j+1)=W j++[l[i].bO[j]]:=by rw[hW,hW,jx hj,eB]
   have hWl:(W j).length+1<=100000000:=by rw[hW];simp only[bN,iR];omega
   have hlen:(vL (W j)).length=(W j).length:=adH;have ah9:(W (j+1)).length=(W j).length+1:=by rw[Sd];simp
   simp only[eH,au,am,dB hj];refine ix (JL hj) ?_;simp only[am,Nat.reduceAdd,bp.al];refine bJ.intro (P6 l[i].bO[j] (Z.aY Y (W j).length) (hsi.2 _ (fh hj))) ?_;simp only[am,bp.al];refine xf (by rw[hlen];simp[aO];omega) (by rw[hlen];exact iZ) ?_;rw[hlen];simp only[am,a9,jr,cE hj,gC];rw[<-adG,<-Sd,<-ah9];refine fQ (()) hj ?_ ?_ ?_ ?_ ?_ ?_
   .exact eQ (ji _ _) (trivial)
   all_goals simp[eH,au,am,bQ,bS,dL,V.lo,bA.cH]
  .rintro x -;simp only[eH,au,am,a9,dV,Nat.reduceAdd,Nat.reduceEqDiff,a9,reduceCtorEq,cE hi,hWn];refine fQ (Y) hi ?_ ?_ ?_ ?_ ?_ ?_
   .exact eQ (bj _ _) (br)
   all_goals simp[hF,au,am,bQ,bS,dL,V.lo]
 .rintro Y br;simp only[hF,au,am,a9,dV,Nat.reduceAdd,a9,zm];refine aP rfl (so br) ⟨rfl,rfl⟩
variable{w:aA}
def aj9{s:aH}:(pH s w).length<=1:=by
 unfold pH;split
 .split<;>simp
 .simp
def yt(l:List bA):List (List V):=l.map bA.enc
def aqA{l:List bA}{s:bA}:yt (l++[s])=yt l++[s.enc]:=by simp[yt]
def Ra{f:aA->List bA}(h:∀w,(f w).length<=1):∀{l:List aA},(l.flatMap f).length<=l.length
 | []=>by simp
 | w::ws=>by have:=Ra h (l:=ws);have:=h w;simp only[p7,bN,dd];omega
def Q0{N:Nat}:∀{l:List bA},(∀s∈l,s.bO.length<=N)->(l.flatMap bA.bO).length<=l.length*N
 | [],_=>by simp
 | s :: ss, h => by
  have h1:=Q0 (N:=N) (l:=ss) λx hx=>h x (by simp[hx])
  have h2:=h s (by simp);simp only[p7,bN,dd,E5];omega
def aj_{s:aH}{x:bA}(h:x∈pH s w):∃l∈s.bu,x=l.shape:=by
 unfold pH at h;split at h
 .split at h
  .rename_i y hy;exact⟨y,rA hy,by simpa using h⟩
  .simp at h
 .simp at h
def akb{s:aH}(h:iu s.bu w.an=U k)(hk:k<s.bu.length):pH s w=[s.bu[k].shape]:=by
 simp only[pH,h,cL hk]
def aj'{s:aH}(h:iu s.bu w.an=af):pH s w=[]:=by simp only[pH,h]
def Vf(s:aH)(c:aq)(Z:ag)(hs:s.uY)(hn:c.aj.length<=100000):a_ 140 [.agg s.enc,.agg c.enc] Z (.agg (pQ s c).enc):=by
 refine aeE.aS ?_;simp only[aR,am,a8,Nat.reduceAdd,aH.al];simp only[am,aN,aN,di,cO];obtain⟨Q,hQ⟩:∃Q:Nat->List bA,∀i,Q i=(c.aj.take i).flatMap (pH s):=⟨_,λ_=>rfl⟩;have vT:Q 0=[]:=by rw[hQ];rfl
 have zk:∀i,(Q i).length<=100000:=λi=>by
  rw[hQ]
  have:=Ra (f:=pH s) (λ_=>aj9) (l:=c.aj.take i)
  rw[iR] at this;omega
 refine dP (c.aj.length) (λi (Y:Nat)=>⟨[.any,.any,.ptr (.aD 0) 0,.ptr (.aD 1) 0,.ptr (.aD 2) 0,.sl (.tk Y) 2 (yt (Q i)),.any,.any,.any,.any,.any,.sl .no 2 (c.aj.map aA.enc),.int .i64 (c.aj.length:Nat),.int .i64 (i:Nat)]++au 24 .any,[s.enc,c.enc,[.bool ak,.sl .aV 67 []]],Z.aY Y (Q i).length⟩) (λi Y=>(Z.aK Y=af)) λF hF JF bj=>⟨?_,?_,?_⟩
 .refine FT 0 λY br=>⟨Y,eQ (bj _ _) br,?_,?_,?_⟩
  all_goals simp[hF,au,o5,vT,yt]
 .rintro i Y hi br;have qQ:Q (i+1)=Q i++pH s c.aj[i]:=by rw[hQ,hQ,jx hi,yK];simp
  have hlq:=zk i;simp only[hF,au,am,dB hi];refine ix (AG hi) ?_;simp only[am,Nat.reduceAdd,aH.al,aA.al,wS];refine cl (vd s c.aj[i].an _ hs.1.1 hs.1.2.1) ?_;cases hf:iu s.bu c.aj[i].an with
  | none =>
   have e:Q (i+1)=Q i:=by rw[qQ,aj' hf,eD]
   simp only[am,fk,a9,Int.reduceNeg,Int.reduceLE,dh,cE hi];refine fQ (Y) hi ?_ ?_ ?_ ?_ ?_ ?_
   .exact eQ (bj _ _) (br)
   all_goals simp[hF,au,am,bQ,bS,dL,V.lo,e,aH.cH,aq.enc,aq.cQ]
  | some k =>
   have hk:=(F1 hf).1;have e:Q (i+1)=Q i++[s.bu[k].shape]:=by rw[qQ,akb hf hk]
   have hlen:(yt (Q i)).length=(Q i).length:=by simp[yt]
   have e2:(Q (i+1)).length=(Q i).length+1:=by rw[e];simp
   simp only[am,Int.reduceNeg,aH.al,dh,aQ (show(0:Int)<=((k:Nat):Int) by omega)];refine ix (wo hk) ?_;simp only[am,Int.reduceNeg,aH.al,bA.al];refine jP (by rw[hlen];simp[aO];omega) (by rw[hlen];exact iZ) ?_;rw[hlen];simp only[am,a9,Int.reduceNeg,jr,cE hi,gC];rw[<-aqA,<-e,<-e2];refine fQ (Y) hi ?_ ?_ ?_ ?_ ?_ ?_
   .exact eQ (bj _ _) (br)
   all_goals simp[hF,au,am,bQ,bS,dL,V.lo,aH.cH,aq.enc,aq.cQ]
 .rintro Y br;have hq:=zk c.aj.length;have e:Q c.aj.length=c.aj.flatMap (pH s):=by rw[hQ,eN]
  have hm:∀x∈Q c.aj.length,∃l∈s.bu,x=l.shape:=λx hx=>by
   rw[e] at hx;obtain⟨w,_,hx⟩:=O4.1 hx;exact aj_ hx
  have xL:=Q0 (N:=100) (l:=Q c.aj.length) λx hx=>by obtain⟨l,hl,rfl⟩:=hm x hx;exact hs.2 l hl
  have K9:pQ s c=BW (Q c.aj.length):=by rw[pQ,e]
  simp only[hF,au,am,a9,dV,a9];refine cl (cg.eh (as' := [.sl .no 2 (yt (Q c.aj.length))]) (Vg (Q c.aj.length) _ (by omega) (λx hx=>by obtain⟨l,hl,rfl⟩:=hm x hx;exact hs.1.2.2 l hl) (by omega)) ⟨da.no,trivial⟩ bL.rfl) ?_;simp only[am,bA.al];refine aP rfl (so br) ⟨by rw[K9];rfl,rfl⟩
def ae1:aT prog 178 (sq [rg 2 [ox 1 17 0,oz 2],sq [rg 3 [fo 0 1,oc 223 [.s 4,.c (.int .i32 110)],nB .eql 0],cr 6 7 [of 2 1,nF 0,oq (.mW .eql (.s 9) (.c (.aF []))),o1 2]],rg 11 [of 2 1,nF 0,oC 161 [13],o1 2],.ret]) [.tmp 2] 15:=aW func178
def ae2:aT prog 179 (sq [rg 2 [ox 1 17 0,oz 2],.block 0 (sq [rg 4 [fo 0 1,oc 223 [.s 5,.c (.int .i32 119)],nB .gtr 0,o1 3],cd 3 (sq [rg 8 [fo 4 1,nL,nB .gtr 0,gA,fo 4 1,oC 118 [14],oC 224 [15],gZ,o1 2],.ret]) (sq [rg 19 [fo 0 1,oc 223 [.s 20,.c (.int .i32 102)],nB .gtr 0,o1 18],cr 18 23 [fo 4 1,nL,nB .eql 1,gA,fo 4 1,oC 118 [29],oC 224 [30],gZ,o1 2]])]),rg 33 [fo 4 1,nL,nB .eql 0,o1 2],.ret]) [.tmp 2] 37:=aW func179
def aft:aT prog 223 (sq [rg 4 [oi 0],rg 5 [oi 0],.BX (rS 8 [om 0,oC 100 [8],ow 1 9]) (.s 10) 11 12 13 0 1 (sq [rg 14 [oe 12 2,o1 7],rg 15 [om 7,om 1,nb .eql 15],ci 17 (rg 18 [ic 5])]),rg 20 [om 5,o1 4],.ret]) [.tmp 4] 21:=aW func223
def afu:aT prog 224 (sq [rg 2 [oz 2],sq [rg 5 [om 0,nL,oi 0],lp 6 0 (sq [rg 9 [oA 1 5 7,no,o1 4],rg 11 [om 4,oC 161 [11],nn],cr 13 2 [oz 2]]) 14],rg 2 [oq (.mv (.c (.bool aa)))],.ret]) [.tmp 2] 15:=aW func224
def Aq(ks:List UInt8)(k:UInt8)(Z:ag)(b i:Nat):St :=
 ⟨[.any,.int .i32 (k.toNat:Nat),.any,.any,.any,.int .i64 ((ks.take i).count k:Nat)]++au 5 .any++[.raw (.pointer (U ⟨b,0,af⟩))]++au 9 .any,[],Z⟩
def BQ(op:Int)(k:UInt8)(hg:Z.bY 0=U gh):a_ 223 [.int .i64 op,.int .i32 (k.toNat:Nat)] Z (.int .i64 (eW op k:Nat)):=by
 refine aft.aS ?_;simp only[aR,am,a8,Nat.reduceAdd];refine N9 ?_;simp only[am];refine cl (MB op hg) ?_;simp only[am];have xK:=Rx op;have Sl:eW op k=(cp op).2.count k:=rfl;generalize fP:(cp op).2=ks at xK Sl;refine⟨ks,rfl,by rw[<-fP];exact JV op,λb i aJ => aJ = Aq ks k Z b i,?_,?_,?_,?_⟩
 .intro b;refine bq.eh (t' := (Aq ks k Z b 0).t) ?_ cm.rfl bL.rfl rfl;simp[Aq,au,am]
 .rintro b i _ rfl;exact⟨rfl,by simp[Aq],by simp[Aq]⟩
 .rintro b i c _ hc rfl;have hi:i<ks.length:=(fg.1 hc).1;have qV:(ks.take (i+1)).count k=(ks.take i).count k+(if c=k then 1 else 0):=by
   rw[Ew hc,List.count_append,List.count_singleton];simp
  have hle:(ks.take i).count k<=3:=w7 List.count_le_length (by rw[iR];omega);have iw:((c.toNat:Nat):Int)=(k.toNat:Nat)↔c=k:=by
   constructor
   .intro h;exact Pm.1 (by omega)
   .rintro rfl;rfl
  simp only[Aq,au,am]
  by_cases e:c=k
  .rw[aE e] at qV;simp only[am,cF,aQ (iw.2 e)];rw[wrap_i64];exact bq.eh (by simp[am,qV]) cm.rfl bL.rfl rfl
  .rw[aC e] at qV;simp only[am,cF,aM (λh=>e (iw.1 h))];exact bq.eh (by simp[am,qV]) cm.rfl bL.rfl rfl
 .rintro b _ rfl;simp only[Aq,au,am];rw[eN];refine aU ?_;simp[V.erase,Sl]
def DL(l:List (List UInt8))(Z:ag)(i:Nat):St :=
 ⟨[.any,.any,.any,.any,.any,.sl .no 1 (lx l),.int .i64 l.length,.int .i64 (i:Nat)]++au 7 .any,[],Z⟩
def Qc(l:List (List UInt8))(Z:ag)(hl:l.length<=aO):a_ 224 [.sl .no 1 (lx l)] Z (.bool (o6 l)):=by
 simp only[aO] at hl;refine afu.aS ?_;simp only[aR,am,a8,Nat.reduceAdd,vJ];refine iG (λp:{i:Nat // i<=l.length/\o6 (l.take i)=aa}=>DL l Z p.1) (λp=>l.length - p.1) ?_ ?_
 .refine bq.enter ⟨0,by simp,by simp[o6]⟩ ?_ cm.rfl bL.rfl;simp[DL,au,am]
 rintro⟨i,hi,ha⟩;simp only[DL,au,am]
 by_cases aB:i<l.length
 .simp only[am,aQ (show(i:Int)<l.length by omega)];refine ix (QL (cL aB)) ?_;simp only[am];refine cl (tm l[i] Z) ?_;cases hr:dG l[i]
  .simp only[am]
   have:o6 l=false:=by
    rw[o6,IF];exact⟨l[i],fh aB,by simp[hr]⟩
   refine aU ?_;simp[V.erase,this]
  .simp only[am];rw[wrap_i64];refine bq.again (I:=λp:{i:Nat // i<=l.length/\o6 (l.take i)=aa}=>DL l Z p.1) (μ:=λp=>l.length - p.1) ⟨i+1,aB,?_⟩ (by simp;omega) (by simp[DL,am,au]) cm.rfl bL.rfl;simp only[o6,jx aB,IE,bC] at ha ⊢;exact⟨ha,by simp[hr]⟩
 .have:i=l.length:=by omega
  subst this;rw[eN] at ha;simp only[am,aM (show ¬(l.length:Int)<l.length by omega)];refine aU ?_;simp[V.erase,ha]
def alQ(c:aq)(hg:Z.bY 0=U gh):a_ 178 [.agg c.enc] Z (.bool c.mI):=by
 refine ae1.aS ?_;simp only[aR,am,a8,Nat.reduceAdd,di,eU];have h:=λ(Z:ag) (hg:Z.bY 0=U gh)=>BQ c.op 110 hg
 refine cl (h Z hg) ?_;simp only[am]
 by_cases h0:eW c.op 110=0
 .simp only[am,cO,aQ (show((eW c.op 110:Nat):Int)=0 by omega)];refine aU ?_;simp[V.erase,aq.mI,h0]
 .simp only[am,cO,aM (show ¬((eW c.op 110:Nat):Int)=0 by omega)];refine cl (tm c.name.an Z) ?_;simp only[am];refine aU ?_;simp[V.erase,aq.mI,h0]
def alW(c:aq)(hg:Z.bY 0=U gh)(hn:c.aj.length+1<=aO):a_ 179 [.agg c.enc] Z (.bool c.j4):=by
 have qh:(c.aj.map aA.an).length<=aO:=by rw[aN];omega
 have h:=λ(Z:ag) (hg:Z.bY 0=U gh)=>BQ c.op 119 hg
 have h' := λ(Z:ag) (hg:Z.bY 0=U gh)=>BQ c.op 102 hg
 refine ae2.aS ?_;simp only[aR,am,a8,Nat.reduceAdd,di,eU];refine cl (h Z hg) ?_;simp only[am]
 by_cases h0:0<eW c.op 119
 .simp only[am,aN,cO,aQ (show(0:Int)<((eW c.op 119:Nat):Int) by omega),aN]
  by_cases h1:0<c.aj.length
  .simp only[am,cO,aQ (show(0:Int)<((c.aj.length:Nat):Int) by omega)];refine cl (H6 c.aj Z hn) ?_;simp only[am];refine cl (Qc (c.aj.map aA.an) Z qh) ?_;simp only[am];refine aU ?_;simp[V.erase,aq.j4,h0,h1]
  .simp only[am,aM (show ¬(0:Int)<((c.aj.length:Nat):Int) by omega)];refine aU ?_;simp[V.erase,aq.j4,h0,h1]
 .simp only[am,eU,aM (show ¬(0:Int)<((eW c.op 119:Nat):Int) by omega)];refine cl (h' Z hg) ?_;simp only[am]
  by_cases h2:0<eW c.op 102
  .simp only[am,aN,cO,aQ (show(0:Int)<((eW c.op 102:Nat):Int) by omega),aN]
   by_cases h1:c.aj.length=1
   .simp only[am,cO,aQ (show((c.aj.length:Nat):Int)=1 by omega)];refine cl (H6 c.aj Z hn) ?_;simp only[am];refine cl (Qc (c.aj.map aA.an) Z qh) ?_;simp only[am];refine aU ?_;simp[V.erase,aq.j4,h0,h1,h2]
   .simp only[am,aM (show ¬((c.aj.length:Nat):Int)=1 by omega)];refine aU ?_;simp[V.erase,aq.j4,h0,h1,h2]
  .simp only[am,aN,cO,aM (show ¬(0:Int)<((eW c.op 102:Nat):Int) by omega),aN];have he:decide (((c.aj.length:Nat):Int)=0)=decide (c.aj.length=0):=by simp
   refine aU ?_;simp[V.erase,aq.j4,h0,h2]
def aep:aT prog 113 (sq [rg 2 [ox 1 17 0,oz 2],sq [rg 3 [fo 0 1,nB .lss 0,gB,fo 0 1,nB .gtr 15,gZ],cr 10 2 [oz 2]],rg 11 [ol 17 1,oC 178 [11],gA,ol 17 1,oC 179 [14],gZ,gA,ol 17 1,oC 180 [18],gZ,gA,ol 17 1,oC 181 [22],gZ,o1 2],.ret]) [.tmp 2] 25:=aW func113
def ae3:aT prog 180 (sq [rg 2 [ox 1 17 0,oz 2],sq [rg 5 [fo 0 1,oc 223 [.s 6,.c (.int .i32 112)],nB .eql 0],cr 8 9 [fo 5 1,nL,nB .eql 0,o1 2]],sq [rg 13 [fo 5 1,nL,oi 0],lp 15 0 (sq [rg 18 [oA 4 14 16,nl 4,oZ 4 [1,0,1,0],o2 4 4],rg 20 [oQ 2 2 4 0,nF 0,oC 161 [22],nn,gB,oQ 2 2 4 1,nF 0,oC 161 [28],nn,gZ],cr 31 2 [oz 2]]) 32],rg 2 [oq (.mv (.c (.bool aa)))],.ret]) [.tmp 2] 33:=aW func180
def ae4:aT prog 181 (sq [rg 2 [ox 1 17 0,oz 2],sq [rg 3 [fo 0 1,oc 223 [.s 4,.c (.int .i32 116)],nB .gtr 0],cr 6 7 [of 7 1,nl 5,oC 182 [8],gA,of 12 1,nl 5,oC 182 [12],gZ,o1 2]],sq [rg 15 [fo 0 1,oc 223 [.s 16,.c (.int .i32 114)],nB .gtr 0],cr 18 19 [of 7 1,nl 5,oC 225 [20],gA,of 12 1,nl 5,oC 225 [24],gZ,o1 2]],rg 27 [of 7 1,nl 5,oW [0,0,1,7,10] [],oC 226 [28,29],gA,of 12 1,nl 5,oW [0,0,1,7,10] [],oC 226 [33,34],gZ,o1 2],.ret]) [.tmp 2] 37:=aW func181
def xZ(c:aq)(Z:ag)(i:Nat):St :=
 ⟨[.any,.ptr (.aD 0) 0]++au 12 .any++[.sl .no 4 (c.bm.map ff),.int .i64 c.bm.length,.int .i64 (i:Nat)]++au 16 .any,[c.enc],Z⟩
def anV(c:aq)(hg:Z.bY 0=U gh)(hn:c.bm.length+1<=aO):a_ 180 [.agg c.enc] Z (.bool c.k_):=by
 have h:=λ(Z:ag) (hg:Z.bY 0=U gh)=>BQ c.op 112 hg
 simp only[aO] at hn;refine ae3.aS ?_;simp only[aR,am,a8,Nat.reduceAdd,di,eU];refine cl (h Z hg) ?_;simp only[am]
 by_cases h0:eW c.op 112=0
 .simp only[am,aN,cO,aN,aQ (show((eW c.op 112:Nat):Int)=0 by omega)];have he:decide (((c.bm.length:Nat):Int)=0)=decide (c.bm.length=0):=by simp
  refine aU ?_;simp[V.erase,aq.k_,h0]
 simp only[am,aN,cO,aN,aM (show ¬((eW c.op 112:Nat):Int)=0 by omega)];have hq:c.k_=c.bm.all np:=by unfold aq.k_;rw[aC h0]
 refine iG (λp:{i:Nat // i<=c.bm.length/\(c.bm.take i).all np=aa}=>xZ c Z p.1) (λp=>c.bm.length - p.1) ?_ ?_
 .refine bq.enter ⟨0,by simp,by simp⟩ ?_ cm.rfl bL.rfl;simp[xZ,au,am]
 rintro⟨i,hi,ha⟩;simp only[xZ,au,am]
 by_cases aB:i<c.bm.length
 .simp only[am,aQ (show(i:Int)<c.bm.length by omega)];refine ix (yj (cL aB)) ?_;simp only[am,cF,Nat.reduceAdd,ff];refine jD ?_;simp only[am,Int.reduceToNat,Nat.reduceMul];refine cl (tm c.bm[i].1.an Z) ?_;have iM:np c.bm[i]=ak->c.k_=false:=λhf=>by
   rw[hq,IF];exact⟨c.bm[i],fh aB,by simp[hf]⟩
  cases hr:dG c.bm[i].1.an
  .simp only[am];refine aU ?_;simp[V.erase,iM (by simp[np,hr])]
  .simp only[am,cF];refine jD ?_;simp only[am,Int.reduceToNat,Nat.reduceMul];refine cl (tm c.bm[i].2.an Z) ?_;cases SK:dG c.bm[i].2.an
   .simp only[am];refine aU ?_;simp[V.erase,iM (by simp[np,SK])]
   .simp only[am];rw[wrap_i64];refine bq.ud (I:=λp:{i:Nat // i<=c.bm.length/\(c.bm.take i).all np=aa}=>xZ c Z p.1) (μ:=λp=>c.bm.length - p.1) ⟨i+1,aB,?_⟩ (by simp;omega) (by simp[xZ,am,au]) (by simp[xZ,am]) bL.rfl (by simp[xZ,au,bS,V.lo]) (by simp[xZ,aq.enc,aq.cQ,dL,bS,V.lo]);rw[jx aB,IE,ha];simp[np,hr,SK]
 .have:i=c.bm.length:=by omega
  subst this;rw[eN] at ha;simp only[am,aM (show ¬(c.bm.length:Int)<c.bm.length by omega)];refine aU ?_;simp[V.erase,hq,ha]
def atC:[V.int .i64 0,.int .i64 0,.aF [],.sl .aV 2 [],.sl .aV 5 []].map V.erase=Nd.zero.enc:=by rw[Nd.df];rfl
def Wg(n:Nd)(Z:ag)(hw:n.wt<=aO):a_ 226 [.agg n.enc,.agg [.int .i64 0,.int .i64 0,.aF [],.sl .aV 2 [],.sl .aV 5 []]] Z (.bool (n.cK .zero)):=by
 refine cg.eh (ap' _ n .zero Z (bP _) hw) ?_ bL.rfl;simp only[cJ,da.rfl,ij,pU];rw[<-atC];exact da.erase (v:=.agg [.int .i64 0,.int .i64 0,.aF [],.sl .aV 2 [],.sl .aV 5 []])
def art(c:aq)(hg:Z.bY 0=U gh)(hl:c.left.wt<=aO)(hr:c.right.wt<=aO):a_ 181 [.agg c.enc] Z (.bool c.jI):=by
 have h:=λ(Z:ag) (hg:Z.bY 0=U gh)=>BQ c.op 116 hg
 have h' := λ(Z:ag) (hg:Z.bY 0=U gh)=>BQ c.op 114 hg
 refine ae4.aS ?_;simp only[aR,am,a8,Nat.reduceAdd,di,eU];refine cl (h Z hg) ?_;simp only[am]
 by_cases h0:0<eW c.op 116
 .simp only[am,Nd.al,cO,aQ (show(0:Int)<((eW c.op 116:Nat):Int) by omega)];refine cl (DR _ c.left Z (bP _) hl) ?_;cases hq:c.left.eY
  .simp only[am];refine aU ?_;simp[V.erase,aq.jI,h0,hq]
  .simp only[am,Nd.al,cO];refine cl (DR _ c.right Z (bP _) hr) ?_;simp only[am];refine aU ?_;simp[V.erase,aq.jI,h0,hq]
 simp only[am,eU,aM (show ¬(0:Int)<((eW c.op 116:Nat):Int) by omega)];refine cl (h' Z hg) ?_;simp only[am]
 by_cases h2:0<eW c.op 114
 .simp only[am,Nd.al,cO,aQ (show(0:Int)<((eW c.op 114:Nat):Int) by omega)];refine cl (VK c.left Z hl) ?_;cases hq:c.left.iX
  .simp only[am];refine aU ?_;simp[V.erase,aq.jI,h0,h2,hq]
  .simp only[am,Nd.al,cO];refine cl (VK c.right Z hr) ?_;simp only[am];refine aU ?_;simp[V.erase,aq.jI,h0,h2,hq]
 simp only[am,Nd.al,cO,aM (show ¬(0:Int)<((eW c.op 114:Nat):Int) by omega)];refine cl (Wg c.left Z hl) ?_;cases hq:c.left.cK .zero
 .simp only[am];refine aU ?_;simp[V.erase,aq.jI,h0,h2,hq]
 .simp only[am,Nd.al,cO];refine cl (Wg c.right Z hr) ?_;simp only[am];refine aU ?_;simp[V.erase,aq.jI,h0,h2,hq]
def aaZ(c:aq)(hg:Z.bY 0=U gh)(hn:c.aj.length+1<=aO)(hp:c.bm.length+1<=aO)(hl:c.left.wt<=aO)(hr:c.right.wt<=aO):a_ 113 [.agg c.enc] Z (.bool c.fx):=by
 have h1:=λ(Z:ag) (hg:Z.bY 0=U gh)=>alQ c hg
 have h2:=λ(Z:ag) (hg:Z.bY 0=U gh)=>alW c hg hn
 have h3:=λ(Z:ag) (hg:Z.bY 0=U gh)=>anV c hg hp
 have h4:=λ(Z:ag) (hg:Z.bY 0=U gh)=>art c hg hl hr
 refine aep.aS ?_;simp only[aR,am,a8,Nat.reduceAdd,di,eU]
 by_cases k1:c.op<0
 .simp only[am,aQ k1];refine aU ?_;simp[V.erase,aq.fx,show ¬(0<=c.op/\c.op<=15) by omega]
 simp only[am,eU,aM k1]
 by_cases k2:15<c.op
 .simp only[am,aQ k2];refine aU ?_;simp[V.erase,aq.fx,show ¬(0<=c.op/\c.op<=15) by omega]
 have k3:0<=c.op/\c.op<=15:=by omega
 simp only[am,di,aM k2];refine cl (h1 Z hg) ?_;cases q1:c.mI
 .simp only[am];refine aU ?_;simp[V.erase,aq.fx,q1]
 simp only[am,di];refine cl (h2 Z hg) ?_;cases q2:c.j4
 .simp only[am];refine aU ?_;simp[V.erase,aq.fx,q1,q2]
 simp only[am,di];refine cl (h3 Z hg) ?_;cases q3:c.k_
 .simp only[am];refine aU ?_;simp[V.erase,aq.fx,q1,q2,q3]
 simp only[am,di];refine cl (h4 Z hg) ?_;simp only[am];refine aU ?_;simp[V.erase,aq.fx,q1,q2,q3,k3]
def aer:aT prog 115 (sq [rg 0 [ox 3 2 0,ox 5 5 2,oR 6 Ft],sq [rg 11 [fo 0 5,nB .eql 1],ci 13 (sq [rg 15 [ol 2 3,fo 2 5,oC 76 [15,17],o1 14,oe 14 0,oe 14 1,ot 7 19,o1 8],rg 21 [om 8,oY Ft [(0,1,.s 21)],o2 9 6],.ret])],dA 24 [9,10] [fo 0 3,om 1,nA 3 25,nf 1,nl 2,fo 4 5,nI 5 0,nl 5,oC 184 [29,33],o1 23,oe 23 0,oe 23 1,oN,oN,oX 9 8 35,oX 10 2 36],rg 37 [ol 8 9,oY Ft [(0,1,.c (.int .i64 (-1))),(1,8,.s 37)],o2 9 6],.ret]) [.cell 6 aa 9] 39:=aW func115
def aes:aT prog 116 (sq [rg 0 [ox 3 2 0,ox 5 5 2,oZ 6 [15,0]],rg 12 [oG [15,0] [(1,1,.c (.int .i64 (-1)))],oZ 7 [15,0],o2 2 7],sq [rg 13 [fo 0 5,nB .eql 1],ci 15 (sq [rg 17 [ol 2 3,fo 2 5,oC 76 [17,19],o1 16,oe 16 0,oe 16 1,of 1 7,os 1 23 22],rg 24 [ol 2 7,o2 2 6],.ret])],sq [rg 25 [fo 4 5,nL,oi 0],lp 27 0 (sq [rg 30 [oA 5 26 28,nl 5,oZ 9 [0,0,1,7,10],o2 5 9],dg 32 [of 0 7,mM [1],no,of 2 9,mM [1],no,ol 2 3,om 1,fo 4 9,nI 5 0,nl 5,oC 115 [36,37,41],oY Rf [(0,1,.s 35),(1,9,.s 42)],n1 10,na 10 33,of 0 7,os 1 46 45]]) 47],sq [rg 48 [fo 3 5,nL,oi 0],lp 50 2 (sq [rg 53 [oA 2 49 51,nl 2,oZ 11 [1,0],o2 2 11],rg 56 [ol 2 3,fo 0 11,oC 76 [56,58],o1 55,oe 55 0,oe 55 1,of 1 7,os 1 62 61]]) 63],rg 64 [ol 2 7,o2 2 6],.ret]) [.cell 6 aa 2] 65:=aW func116
def Q2(s:aH)(lat:Nat)(n:Nd)(hs:s.ok)(hg:TZ Z)(mY:lat<s.bu.length)(hk:n.kind=1\/0<n.ah.length)(hc:n.cy<=100000)(hw:n.wt<=aO):
 a_ 115 [.agg s.enc,.int .i64 (lat:Nat),.agg n.enc] Z (.agg (qE s lat n).enc):=by
 refine aer.aS ?_;simp only[aR,Is,Nat.reduceAdd,Int.reduceNeg,bH.al]
 by_cases h1:n.kind=1
 .simp only[am,Int.reduceNeg,aH.al,Nd.fl,aQ h1];refine cl (vd s n.an Z hs.1 hs.2.1) ?_;simp only[am,Int.reduceNeg,bH.al];exact aP (v:=.agg (bH.mk (dh (kj s.vars n.an)) .zero).enc) bH.dw (ag.bc _) ⟨by rw[qE,aE h1];simp only[V.erase,bH.dk],rfl⟩
 have hk:0<n.ah.length:=hk.resolve_left h1;have hm:n.ah[0]∈n.ah:=fh _;have xM:=qG hm;have xN:=ng hm;simp only[am,Nat.reduceAdd,bM,Int.reduceNeg,Nat.reduceLT,aH.al,aM h1];refine ix (wo mY) ?_;simp only[am,Int.reduceNeg,aH.al,Nd.fl];refine qZ (n:=0) (by omega) (mb (j:=0) (cL hk)) ?_;simp only[am,Int.reduceNeg,bA.al,Nd.al];refine bJ.intro (JB s.bu[lat].shape n.ah[0] hg (hs.2.2 _ (fh mY)) (λm hm=>by obtain⟨a,b,c⟩:=MS (n:=n.ah[0]) (by omega) m hm;exact⟨by omega,by omega,λq hq=>by have:=c q hq;omega⟩) (by omega)) ?_;have ee:qE s lat n=⟨-1,(iq s.bu[lat].shape n.ah[0]).1⟩:=by rw[qE,aC h1,NN mY,qN hk]
 generalize iq s.bu[lat].shape n.ah[0]=g at ee;obtain⟨e,o⟩:=g;cases o with
 | none =>
  simp only[am,Nat.reduceAdd,Int.reduceNeg,bh.al,bH.al,show uA af=[.int .i64 0,.int .i64 0] from rfl];exact aP (v:=.agg (bH.mk (-1) e).enc) bH.dw (ag.bc _) ⟨by rw[ee];simp only[V.erase,bH.dk],rfl⟩
 | some q =>
  simp only[am,Nat.reduceAdd,Int.reduceNeg,bh.al,bH.al,show uA (U q)=[.int .i64 4,.int .i64 q] from rfl];exact aP (v:=.agg (bH.mk (-1) e).enc) bH.dw (ag.bc _) ⟨by rw[ee];simp only[V.erase,bH.dk],rfl⟩
def Rz(s:aH)(lat:Nat)(n:Nd)(hs:s.ok)(hg:TZ Z)(mY:lat<s.bu.length)(hk:∀k∈n.ah,Re k)(hn1:n.aj.length<=1)(hc:n.cy<=100000)(hw:n.wt<=aO):
 a_ 116 [.agg s.enc,.int .i64 (lat:Nat),.agg n.enc] Z (.agg (mh s lat n).enc):=by
 refine aes.aS ?_;simp only[aR,Is,Nat.reduceAdd,Int.reduceNeg,bW.al]
 by_cases h1:n.kind=1
 .simp only[am,Int.reduceNeg,aH.al,Nd.fl,aQ h1];refine cl (vd s n.an Z hs.1 hs.2.1) ?_;simp only[am,Nat.reduceAdd,Int.reduceNeg];exact aP rfl (ag.bc _) ⟨by rw[mh,aE h1];rfl,rfl⟩
 simp only[am,aN,Int.reduceNeg,Nd.fl,aN,aM h1];have Dp:=y4 n;obtain⟨Q,hQ⟩:∃Q:Nat->List (List V),∀i,Q i=((n.ah.take i).map (uy s lat)).map bW.enc:=⟨_,λ_=>rfl⟩;have vT:Q 0=[]:=by rw[hQ];rfl
 have zm:Q n.ah.length=(n.ah.map (uy s lat)).map bW.enc:=by rw[hQ,eN]
 have zk:∀{i:Nat},i<=n.ah.length->(Q i).length=i:=λ{i} hi=>by rw[hQ];simp;omega
 have qQ:∀{i:Nat} (hi:i<n.ah.length) (h1:0<n.ah[i].ah.length),Q (i+1)=Q i++[(bW.mk n.ah[i].an (qE s lat n.ah[i].ah[0])).enc]:=λ{i} hi h1=>by
  rw[hQ,hQ,jx hi,f_,f_,EW,EW,uy,qN h1]
 refine dP (n.ah.length) (λi (Y:Nat)=>⟨[.any,.int .i64 (lat:Nat),.any,.ptr (.aD 0) 0,.any,.ptr (.aD 1) 0,.ptr (.aD 2) 0,.ptr (.aD 3) 0,.any,.any,.any,.any,.any,.any,.any,.any,.any,.any,.any,.any,.any,.any,.any,.any,.any,.any,.sl .no 5 (n.ah.map Nd.enc),.int .i64 (n.ah.length:Nat),.int .i64 (i:Nat)]++au 36 .any,[s.enc,n.enc,[.sl .aV 10 [],.int .i64 0],[.sl (.tk Y) 10 (Q i),.int .i64 (-1)]],Z.aY Y i⟩) (λi Y=>(Z.aK Y=af)) λF hF JF bj=>⟨?_,?_,?_⟩
 .refine JE 0 λY br=>⟨Y,eQ (bj _ _) br,?_,?_,?_⟩
  all_goals simp[hF,au,o5,Mc,vT]
 .rintro i Y hi br;have hm:n.ah[i]∈n.ah:=fh _;have xM:=qG hm;have xN:=ng hm;obtain⟨rN,rO⟩:=hk _ hm;have Bw:n.ah[i].ah[0]∈n.ah[i].ah:=fh _;have aiN:=qG Bw;have aiP:=ng Bw;have xI:TZ (Z.aY Y i):=hg;have hlen:=zk (IV hi);simp only[hF,au,am,dB hi,Int.reduceNeg];refine ix (mb (cL hi)) ?_;simp only[Is,Nat.reduceAdd,Int.reduceNeg];refine qZ (n:=0) (by omega) (mb (j:=0) (cL rN)) ?_;simp only[am,Int.reduceNeg,aH.al,Nd.al];refine bJ.intro (Q2 s lat n.ah[i].ah[0] hs xI mY (rO _ Bw) (by omega) (by omega)) ?_;simp only[am,Int.reduceNeg,bH.al,bW.al];refine xf (by rw[hlen];simp[aO];omega) (by rw[hlen];exact iZ) ?_;rw[hlen];simp only[am,a9,Int.reduceNeg,Nd.fl,jr,cE hi,gC];refine fQ (Y) hi ?_ ?_ ?_ ?_ ?_ ?_
  .exact eQ (bj _ _) (br)
  all_goals simp[hF,au,am,bQ,bS,dL,V.lo,qQ hi rN,aH.cH,Nd.cH]
 .rintro Y br;have hlen:=zk (bP _);have v7:=CO n;simp only[hF,au,am,a9,dV,a9,Int.reduceNeg,Nd.fl,aN];refine dP (n.aj.length) (λj (y:Unit)=>⟨[.any,.any,.any,.ptr (.aD 0) 0,.any,.any,.ptr (.aD 2) 0,.ptr (.aD 3) 0,.any,.any,.any,.any,.any,.any,.any,.any,.any,.any,.any,.any,.any,.any,.any,.any,.any,.any,.any,.any,.any,.any,.any,.any,.any,.any,.any,.any,.any,.any,.any,.any,.any,.any,.any,.any,.any,.any,.any,.any,.any,.sl .no 2 (n.aj.map aA.enc),.int .i64 (n.aj.length:Nat),.int .i64 (j:Nat)]++au 13 .any,[s.enc,n.enc,[.sl .aV 10 [],.int .i64 0],[.sl (.tk Y) 10 (Q n.ah.length),.int .i64 (Av s (n.aj.take j))]],Z.aY Y n.ah.length⟩) (λj y=>(True)) λF2 eH yI ji=>⟨?_,?_,?_⟩
  .refine en ji (()) (trivial) ?_ ?_ ?_
   all_goals simp[eH,au,am,bQ,Av]
  .rintro j y hj -;obtain rfl:j=0:=by omega
   have et:=ari (s:=s) hj;simp only[eH,au,am,dB hj];refine ix (AG hj) ?_;simp only[am,Nat.reduceAdd,wS,aH.al,aA.al];refine cl (vd s n.aj[0].an _ hs.1 hs.2.1) ?_;simp only[am,a9,cE hj];refine fQ (()) hj ?_ ?_ ?_ ?_ ?_ ?_
   .exact eQ (ji _ _) (trivial)
   all_goals simp[eH,au,am,bQ,bS,dL,V.lo,et,aH.cH,Nd.cH]
  .rintro y -;simp only[eH,au,am,a9,dV,Nat.reduceAdd,a9,eN,zm];have e:mh s lat n=⟨n.ah.map (uy s lat),Av s n.aj⟩:=by rw[mh,aC h1]
   refine aP rfl (so br) ⟨by rw[e];rfl,rfl⟩
def ag3:aT prog 58 (sq [rg 5 [ox 2 2 0,ox 3 17 1,oR 4 iJ,oz 2],sq [rg 9 [fo 0 3,nB .lss 8,gB,fo 0 3,nB .gtr 10,gZ,gB,ol 17 3,oC 113 [18],nn,gZ,gB,ol 2 2,ol 17 3,oC 55 [23,24],ow 0 25,nB .neq 0,gZ],cr 28 29 [oY iJ [],o2 18 4,oU 5 2]],rg 31 [ol 2 2,of 2 3,nF 0,oC 76 [31,34],o1 30,oe 30 0,oe 30 1,ot 6 36,o1 7],rg 38 [fo 0 3,om 6,oY iJ [(0,1,.s 39),(1,1,.s 40)],oR 8 iJ,o2 18 8],sq [rg 42 [fo 0 3],.block 0 (sq [rg 45 [oB .eql 43 8,o1 44],cd 44 (sq [rg 47 [ol 2 2,om 6,of 7 3,nl 5,oC 114 [47,48,50],o1 46,oe 46 0,oe 46 1,of 2 8,os 1 54 52],rg 55 [ol 2 2,om 6,of 12 3,nl 5,oC 115 [55,56,58],of 3 8,os 9 60 59]]) (sq [rg 62 [oB .eql 43 9,o1 61],cd 61 (dg 63 [ol 2 2,om 6,of 7 3,nl 5,oC 116 [63,64,66],mM [0],ol 2 2,om 6,of 12 3,mM [0],nl 5,oC 116 [68,69,71],of 12 8,os 2 73 67,of 14 8,os 2 74 72]) (sq [rg 76 [oB .eql 43 10,o1 75],ci 75 (dg 77 [om 7,of 1 2,mM [1],no,om 7,nA 3 79,nf 2,mM [1],no,of 4 3,mM [1,2],no,nI 2 0,nf 0,mM [1,2],no,of 16 8,os 1 89 77,of 1 8,os 1 90 83,of 17 8,os 1 91 88])])])])],rg 92 [ol 18 8,o2 18 4,oV 5 (.bool aa)],.ret]) [.cell 4 aa 18,.tmp 5] 93:=aW func58
def yX(s:aH)(c:aq):V:=.bt [.agg (if jE s c then lZ s c else .zero).enc,.bool (jE s c)]
def adE(s:aH)(c:aq)(hs:s.ok)(hg:TZ Z)(km:Z.bY 0=U gh)(hn:c.aj.length+1<=aO)(hp:c.bm.length+1<=aO)(hl:c.left.cy<=100000)(hr:c.right.cy<=100000)(zG:c.left.wt<=aO)(wc:c.right.wt<=aO):
 a_ 58 [.agg s.enc,.agg c.enc] Z (yX s c):=by
 have no:∀(t:List V) (lo:List (List V)),jE s c=ak->mV (λv σ' => v=yX s c/\σ' = Z) ⟨t,lo,Z⟩ (.bt [.agg (cz 0 0 (.sl .aV 10 []) .zero (.sl .aV 10 []) 0 (.sl .aV 10 []) 0 0 []),.bool ak]):=λt lo h=>by
  refine aP (by simp only[V.cI,bK,vp];exact Fp rfl rfl rfl) (ag.bc _) ⟨?_,rfl⟩;rw[yX,h];simp only[V.erase,bx,Fo];rfl
 have yes:∀(t:List V) (lo:List (List V)) (op lat:Int) (cd:V) (to:bH) (fa:V) (ta:Int) (fb:V) (tb v:Int) (f:List UInt8),jE s c=aa->cd.cI=aa->fa.cI=aa->fb.cI=aa->cz op lat cd.erase to fa.erase ta fb.erase tb v f=(lZ s c).enc->mV (λv σ' => v=yX s c/\σ' = Z) ⟨t,lo,Z⟩ (.bt [.agg (cz op lat cd to fa ta fb tb v f),.bool aa]):=λt lo op lat cd to fa ta fb tb v f h n1 n2 n3 hx=>by
  refine aP (by simp only[V.cI,bK,vp];exact Fp n1 n2 n3) (ag.bc _) ⟨?_,rfl⟩;rw[yX,h];simp only[V.erase,bx,Fo,hx];rfl
 refine ag3.aS ?_;simp only[aR,am,a8,Nat.reduceAdd,aH.al,iJ,di,eU]
 by_cases o1:c.op<8
 .simp only[am,lr,aQ o1];exact no _ _ (by simp[jE];omega)
 simp only[am,eU,aM o1]
 by_cases o2:10<c.op
 .simp only[am,lr,aQ o2];exact no _ _ (by simp[jE];omega)
 simp only[am,di,aM o2];refine cl (aaZ c km hn hp zG wc) ?_;cases hq:c.fx with
 | false =>
  simp only[am,lr];exact no _ _ (by simp[jE,hq])
 | true =>
  simp only[am,aH.al,di];refine cl (Q_ s c hs hg hl hr zG wc) ?_;simp only[am,aL.al]
  by_cases hf:(jQ s c).cls=0
  case neg =>
   simp only[am,lr,aM hf];exact no _ _ (by simp[jE,hf])
  have hA:jE s c=true:=by simp only[jE,hq,hf,bM,vp,bC,ca];omega
  have hF:=LN.1 hA;simp only[am,aH.al,cO,aQ hf];refine cl (vd s c.name.an Z hs.1 hs.2.1) ?_;simp only[am,Nat.reduceAdd,lr,eU,yY (op:=c.op) (lat:=dh (iu s.bu c.name.an)) (c:=.sl .aV 10 []) (to:=.zero) (fa:=.sl .aV 10 []) (ta:=0) (fb:=.sl .aV 10 []) (tb:=0) (v:=0) (f:=[]) rfl rfl rfl]
  by_cases h8:c.op=8
  .simp only[am,aH.al,Nd.al,cO,aQ h8];obtain⟨k,hk,aB⟩:=hF.cM (.inl h8);have jY : dh (iu s.bu c.name.an)=(k:Nat):=hk;rw[jY];refine cl (aap s k c.left hg hs zG (by omega)) ?_;simp only[am,aH.al,lr,Nd.al,cO,Jp];refine cl (Q2 s k c.right hs hg aB ?_ (by omega) wc) ?_
   .rcases hF.right h8 with h | h
    .exact .inl h
    .exact .inr (by rw[DP (hF.labels h8).2 h];omega)
   simp only[am,bH.al,lr,yY (op:=c.op) (lat:=k) (c:=.sl .no 10 (((mw s k c.left).getD []).map bw.enc)) (to:=qE s k c.right) (fa:=.sl .aV 10 []) (ta:=0) (fb:=.sl .aV 10 []) (tb:=0) (v:=0) (f:=[]) rfl rfl rfl];refine yes _ _ _ _ _ _ _ _ _ _ _ _ hA rfl rfl rfl ?_;rw[lZ,aE h8,hk,h8];rfl
  simp only[am,aM h8]
  by_cases h9:c.op=9
  .simp only[am,aH.al,Nd.al,cO,aQ h9];obtain⟨k,hk,aB⟩:=hF.cM (.inr h9);have jY : dh (iu s.bu c.name.an)=(k:Nat):=hk;rw[jY];obtain⟨q1,q2⟩:=hF.rows h9;refine bJ.intro (Rz s k c.left hs hg aB (HQ q1) (VH q1) (by omega) zG) ?_;simp only[am,aH.al,Nd.al,cO];refine bJ.intro (Rz s k c.right hs hg aB (HQ q2) (VH q2) (by omega) wc) ?_;simp only[am,aH.al,ei.al,lr,cO,yY (op:=c.op) (lat:=k) (c:=.sl .aV 10 []) (to:=.zero) (fa:=.sl .no 10 ((mh s k c.left).fs.map bW.enc)) (ta:=(mh s k c.left).tail) (fb:=.sl .no 10 ((mh s k c.right).fs.map bW.enc)) (tb:=(mh s k c.right).tail) (v:=0) (f:=[]) rfl rfl rfl];refine yes _ _ _ _ _ _ _ _ _ _ _ _ hA rfl rfl rfl ?_;rw[lZ,aC h8,aE h9,hk,h9];rfl
  have iL:c.op=10:=by omega
  simp only[am,aH.al,aM h9,aQ iL];obtain⟨v,hv,GP,r5⟩:=hF.var iL;obtain⟨w,hw,_⟩:=hF.one iL;rw[GP];simp only[Int.reduceNeg,dh];refine ix (EB hv) ?_;simp only[am,Int.reduceNeg,aH.al,cO];have GR:0<c.aj.length:=by rw[hw];simp
  refine qZ (n:=0) (by omega) (AG (l:=c.aj) (j:=0) GR) ?_;simp only[am,Int.reduceNeg,wS,aH.al,lr,cO,yY (op:=c.op) (lat:=s.vars[v].lat) (c:=.sl .aV 10 []) (to:=.zero) (fa:=.sl .aV 10 []) (ta:=0) (fb:=.sl .aV 10 []) (tb:=0) (v:=v) (f:=c.aj[0].an) rfl rfl rfl];refine yes _ _ _ _ _ _ _ _ _ _ _ _ hA rfl rfl rfl ?_;rw[lZ,aC h8,aC h9,GP,Xd,cL hv,qN GR,iL];rfl
theorem aht:bZ 1 (qL.drop 1)=true:=rfl
def ahu:setAt qL 1 [.sl .no 1 (cU l)]=(⟨0,l,.zero⟩:bp).enc:=by
 rw[bp.enc,show qL = .int .i64 0::.sl .aV 1 []::Rl.zero.enc by rw[<-Rl.wE];rfl,jo,lR,o8,me]
section
variable {f:bp}
theorem adI:bZ 1 f.enc=true:=rfl
def adL{k:Int}:over f.enc [.int .i64 k]=(⟨k,f.aj,f.rel⟩:bp).enc:=by rw[bp.enc,o8,me];rfl
def adK:bZ 65 (f.enc.drop 2)=true:=Rl.gm
def adN{r:Rl}:setAt f.enc 2 r.enc=(⟨f.kind,f.aj,r⟩:bp).enc:=by rw[bp.enc,jo,jo,lR,Rl.fR];rfl
def CX:=ae @aht <| ae @ahu <| ae @adI <| ae @adL <| ae @adK <| ae @adN @bp.XN
end
def ag8:aT prog 73 (sq [rg 2 [oz 2],rg 3 [om 0,nB .geq 1,gA,om 0,nB .leq 5,gZ,o1 2],.ret]) [.tmp 2] 9:=aW func73
def ag_:aT prog 75 (sq [rg 2 [oz 2],rg 3 [om 0,nB .eql 6,gB,om 0,nB .eql 7,gZ,o1 2],.ret]) [.tmp 2] 9:=aW func75
def aee:aT prog 103 (sq [rg 6 [om 0,mk 0,nf 2,nf 2,nF 0,oC 171 [6,12],o1 5,oe 5 0,oe 5 1,ot 2 14,o1 3],rg 16 [mk 0,nf 2,nf 2,nF 1,o1 4],sq [rg 22 [mk 0,nf 2,nF 0,oC 73 [26]],cr 27 28 [om 0,om 3,om 4,oc 172 [.s 28,.s 29,.c (.int .i64 3),.s 30]]],rg 32 [om 0,om 3,nn,om 4,oc 172 [.s 32,.s 34,.c (.int .i64 3),.s 35]],rg 37 [om 0,om 3,gA,om 2,nn,gZ,om 4,oc 172 [.s 37,.s 42,.c (.int .i64 4),.s 43]]]) [] 45:=aW func103
def aef:aT prog 104 (sq [rg 8 [mk 0,nf 2,nF 4,oC 138 [12],o1 2],rg 14 [mk 0,nf 2,nF 4,nL,oi 0],lp 19 0 (sq [rg 22 [om 20,oA 2 18 20,nl 2,oZ 4 [1,0],ot 3 22,o2 2 4],rg 26 [om 0,fo 0 4,oC 171 [26,28],o1 25,oe 25 0,oe 25 1,ot 5 30,o1 6],sq [rg 32 [mk 0,nf 2,nF 0,nB .eql 3],ci 37 (sq [rg 38 [om 0,om 6,nn,fo 1 4,oc 172 [.s 38,.s 40,.c (.int .i64 3),.s 42]],rg 44 [om 0,om 6,gA,om 5,nn,gZ,fo 1 4,oc 172 [.s 44,.s 49,.c (.int .i64 4),.s 51]],(.exit 1)])],dg 53 [om 2,om 3,oq (.kF 1 (.s 53) af (U (.s 54)) af),fo 0 4,oC 173 [55,57],nB .geq 0,o1 7],dg 60 [om 0,om 7,nm,oh 62 (om 0),oh 62 (nk),oh 62 (nf 2),oh 62 (nf 0),oh 62 (no),oh 62 (oC 75 [67]),oh 62 (nm),og 69 (om 6),oh 62 (oy 69 70),oq (.pick (.s 62) (.c (.bool aa)) (.s 71)),of 1 4,mM [0],no,oc 172 [.s 60,.s 72,.c (.int .i64 3),.s 74]]]) 76]) [] 77:=aW func104
def aeU:aT prog 171 (sq [rg 4 [oz 2,oz 2],rg 9 [mk 0,nf 0,nl 2,om 1,oC 76 [12,13],o1 8,oe 8 0,oe 8 1,ot 6 15,o1 7],rg 17 [om 6,nB .geq 0,om 6,nB .geq 0,gB,om 7,nB .geq 0,gZ,ot 4 18,o1 5],.ret]) [.tmp 4,.tmp 5] 25:=aW func171
def aeV:aT prog 172 (sq [rg 8 [om 1],ci 8 (rg 9 [om 0,mk 0,nF 19,om 2,om 3,oW [0,0] [(0,1,14),(1,1,15)],n1 2,na 2 13,ok 9,nf 19,os 1 20 18])]) [] 21:=aW func172
def ql(Z:ag)(b Y:Nat)(l:List aL)(s:aH)(c:aq)(x y:Int)(is:Bool)(hl:l.length<=100000000) :
 dt 172 [.ptr (.out b) 0,.bool is,.int .i64 x,.int .i64 y] (ep Z b Y l s c) (.bt []) (ep Z b Y (l++dT is x y) s c):=by
 refine aeV.aS ?_;simp only[aR,am,a8,Nat.reduceAdd];cases is with
 | false =>
  simp only[am];exact aP rfl (ag.bc _) ⟨rfl,by simp[dT]⟩
 | true =>
  simp only[am,Nat.reduceAdd,iT];refine jP (by simp[aO];omega) (by rw[aN];exact Tm) ?_;simp only[am,aN,aN,iT,gC,ajK];exact aP rfl (ag.bc _) ⟨rfl,by simp[dT]⟩
variable{o:Option Nat}
def MI:decide (0<=dh o)=o.isSome:=by cases o<;>simp[dh]
def anA:decide (dh o<0)=o.isNone:=by cases o with
 | none=>rfl
 | some k=>exact aM (by simp only[dh];omega)
def Te(Z:ag)(b Y:Nat)(l:List aL)(s:aH)(c:aq)(t:List UInt8)(hs:s.ok) :
 dt 171 [.ptr (.out b) 0,.aF t] (ep Z b Y l s c) (.bt [.bool (r7 s t),.bool (gN s t)]) (ep Z b Y l s c):=by
 refine aeU.aS ?_;simp only[aR,am,a8,Nat.reduceAdd,aH.al,iT];refine cl (vd s t _ hs.1 hs.2.1) ?_;simp only[am,MI];cases hL:(iu s.bu t).isSome with
 | true =>
  simp only[am];refine aU ?_;simp[V.erase,bx,r7,gN,hL]
 | false =>
  simp only[am,MI];refine aU ?_;simp[V.erase,bx,r7,gN,hL]
def L1(op:Int)(Z:ag):a_ 73 [.int .i64 op] Z (.bool (l_ op)):=by
 refine ag8.aS ?_;simp only[aR,am,a8,Nat.reduceAdd]
 by_cases h:1<=op
 .simp only[am,aQ h];refine aU ?_;simp[V.erase,l_,h]
 .simp only[am,aM h];refine aU ?_;simp[V.erase,l_,h]
def EA(op:Int)(Z:ag):a_ 75 [.int .i64 op] Z (.bool (nJ op)):=by
 refine ag_.aS ?_;simp only[aR,am,a8,Nat.reduceAdd]
 by_cases h:op=6
 .simp only[am,aQ h];refine aU ?_;simp[V.erase,nJ,h]
 .simp only[am,aM h];refine aU ?_;simp[V.erase,nJ,h]
def ajx(Z:ag)(b Y:Nat)(l:List aL)(s:aH)(c:aq)(hs:s.ok)(hl:l.length<=90000000) :
 dt 103 [.ptr (.out b) 0] (ep Z b Y l s c) (.bt []) (ep Z b Y (l++qS s c) s c):=by
 refine aee.aS ?_;simp only[aR,am,a8,Nat.reduceAdd,iT];refine cl (Te Z b Y l s c c.name.an hs) ?_;simp only[am,Nat.reduceAdd,iT];refine cl (L1 c.op _) ?_;cases h5:l_ c.op with
 | true =>
  simp only[am];refine cl (ql Z b Y l s c 3 c.name.pos (gN s c.name.an) (by omega)) ?_;simp only[am];exact aP rfl (ag.bc _) ⟨rfl,by rw[qS,aE h5]⟩
 | false =>
  have e:qS s c=dT (!gN s c.name.an) 3 c.name.pos++dT (gN s c.name.an&&!r7 s c.name.an) 4 c.name.pos:=by rw[qS,h5];rfl
  have hlen:=@rn (!gN s c.name.an) 3 c.name.pos;simp only[am];refine cl (ql Z b Y l s c 3 c.name.pos (!gN s c.name.an) (by omega)) ?_;cases hv:gN s c.name.an with
  | true =>
   rw[hv] at hlen e;simp only[am];refine cl (ql Z b Y (l++dT (!aa) 3 c.name.pos) s c 4 c.name.pos (!r7 s c.name.an) (by rw[bN];omega)) ?_;simp only[am];exact aP rfl (ag.bc _) ⟨rfl,by rw[e,eB,lj];rfl⟩
  | false =>
   rw[hv] at hlen e;simp only[am];refine cl (ql Z b Y (l++dT (!ak) 3 c.name.pos) s c 4 c.name.pos ak (by rw[bN];omega)) ?_;simp only[am];exact aP rfl (ag.bc _) ⟨rfl,by rw[e,eB,OH];rfl⟩
def ajA(Z:ag)(b Y:Nat)(l:List aL)(s:aH)(c:aq)(hs:s.ok)(hl:l.length<=80000000)(hn:c.aj.length<=100000) :
 dt 104 [.ptr (.out b) 0] (ep Z b Y l s c) (.bt []) (ep Z b Y (l++kZ s c c.aj.length) s c):=by
 refine aef.aS ?_;simp only[aR,am,a8,Nat.reduceAdd,iT];refine cl (H2 c.aj _ (by omega)) ?_;simp only[am,Nat.reduceAdd,aN,aN,iT];have hw:(dz c.aj).length=c.aj.length:=AJ;refine dP (c.aj.length) (λi (x:Unit)=>⟨[.ptr (.out b) 0,.any,.sl .no 1 (cU (dz c.aj)),.any,.any,.any,.any,.any,.any,.any,.any,.any,.any,.any,.any,.any,.any,.any,.sl .no 2 (c.aj.map aA.enc),.int .i64 (c.aj.length:Nat),.int .i64 (i:Nat)]++au 56 .any,[],ep Z b Y (l++kZ s c i) s c⟩) (λi x=>(True)) λF hF JF bj=>⟨?_,?_,?_⟩
 .refine en bj (()) (trivial) ?_ ?_ ?_
  all_goals simp[hF,au,am,bQ,kZ]
 .rintro i x hi -;have hN:=@Mx s c i;have hS:=@Uv s c i;have hg:c.aj.getD i ⟨[],0⟩=c.aj[i]:=by simp[gU,hi]
  simp only[hF,au,am,dB hi];refine ix (AG hi) ?_;simp only[am,aA.al,wS];refine cl (Te Z b Y (l++kZ s c i) s c c.aj[i].an hs) ?_;simp only[am,iT]
  by_cases h3:c.op=3
  .have e:sa s c i=dT (!gN s c.aj[i].an) 3 c.aj[i].pos++dT (gN s c.aj[i].an&&!r7 s c.aj[i].an) 4 c.aj[i].pos:=by rw[sa];simp only[hg];rw[aE h3]
   have hlen:=@rn (!gN s c.aj[i].an) 3 c.aj[i].pos;simp only[am,sr,aQ h3];refine cl (ql Z b Y (l++kZ s c i) s c 3 c.aj[i].pos (!gN s c.aj[i].an) (by rw[bN];omega)) ?_;cases hv:gN s c.aj[i].an with
   | true =>
    rw[hv] at hlen e;simp only[am,sr];refine cl (ql Z b Y (l++kZ s c i++dT (!aa) 3 c.aj[i].pos) s c 4 c.aj[i].pos (!r7 s c.aj[i].an) (by simp only[bN];omega)) ?_;simp only[am,a9,reduceCtorEq,cE hi];rw[lj] at e;refine fQ (()) hi ?_ ?_ ?_ ?_ ?_ ?_
    .exact eQ (bj _ _) (trivial)
    all_goals simp[hF,au,am,bQ,bS,dL,V.lo,hS,e]
   | false =>
    rw[hv] at hlen e;simp only[am,sr];refine cl (ql Z b Y (l++kZ s c i++dT (!ak) 3 c.aj[i].pos) s c 4 c.aj[i].pos ak (by simp only[bN];omega)) ?_;simp only[am,a9,reduceCtorEq,cE hi];rw[OH] at e;refine fQ (()) hi ?_ ?_ ?_ ?_ ?_ ?_
    .exact eQ (bj _ _) (trivial)
    all_goals simp[hF,au,am,bQ,bS,dL,V.lo,hS,e]
  .have e:sa s c i=dT ((gY ((dz c.aj).take i) c.aj[i].an).isSome||(nJ c.op&&gN s c.aj[i].an)) 3 c.aj[i].pos:=by rw[sa];simp only[hg];rw[aC h3]
   simp only[am,cF,aM h3];refine WG (b:=i) (by rw[iY];omega) ?_;rw[V8];simp only[am,wS];refine bJ.intro (vM ((dz c.aj).take i) c.aj[i].an _ (by rw[iR];omega)) ?_;simp only[am,MI];cases hf:(gY ((dz c.aj).take i) c.aj[i].an).isSome with
   | true =>
    rw[hf] at e;simp only[am,sr];refine bJ.intro (ql Z b Y (l++kZ s c i) s c 3 c.aj[i].pos aa (by rw[bN];omega)) ?_;simp only[am,a9,sr,cE hi];rw[Bool.true_or] at e;refine fQ (()) hi ?_ ?_ ?_ ?_ ?_ ?_
    .exact eQ (bj _ _) (trivial)
    all_goals simp[hF,au,am,bQ,bS,dL,V.lo,hS,e]
   | false =>
    rw[hf,EK] at e;simp only[am,iT];refine bJ.intro (EA c.op _) ?_;cases hv:nJ c.op with
    | true =>
     rw[hv,lj] at e;simp only[am,sr];refine bJ.intro (ql Z b Y (l++kZ s c i) s c 3 c.aj[i].pos (gN s c.aj[i].an) (by rw[bN];omega)) ?_;simp only[am,a9,sr,cE hi];refine fQ (()) hi ?_ ?_ ?_ ?_ ?_ ?_
     .exact eQ (bj _ _) (trivial)
     all_goals simp[hF,au,am,bQ,bS,dL,V.lo,hS,e]
    | false =>
     rw[hv,OH] at e;simp only[am,sr];refine bJ.intro (ql Z b Y (l++kZ s c i) s c 3 c.aj[i].pos ak (by rw[bN];omega)) ?_;simp only[am,a9,sr,cE hi];refine fQ (()) hi ?_ ?_ ?_ ?_ ?_ ?_
     .exact eQ (bj _ _) (trivial)
     all_goals simp[hF,au,am,bQ,bS,dL,V.lo,hS,e]
 .rintro x -;simp only[hF,au,am,a9,dV,a9];exact aP rfl (ag.bc _) ⟨rfl,rfl⟩
def agZ:aT prog 54 (sq [rg 0 [ox 2 2 0,ox 3 17 1,oZ 4 [0,0]],sq [rg 6 [fo 0 3,oC 73 [7],nn,gA,fo 0 3,oC 75 [12],nn,gZ],cr 15 16 [oW [0,0] [],o2 2 4]],rg 17 [ol 2 2,ol 17 3,oW [8,8,0,0,1,0,7,9,0,0,0,1,7,10,0,0,1,7,10,7] [(0,2,17),(2,17,18)],oq (.gf 20 (.s 19)),o1 5],.pf (rg 21 [om 5,oC 103 [21]]),rg 23 [om 5,oC 104 [23]],rg 25 [om 5,oC 105 [25]],rg 27 [om 5,oC 106 [27]],rg 29 [mk 5,nF 19,oC 57 [32],o2 2 4],.ret]) [.cell 4 aa 2] 34:=aW func54 ⟨[20],[4]⟩
def aeg:aT prog 105 (sq [rg 0 [od (U 1) (.gf 1 (.s 0))],rg 6 [oo 1,nk,nf 2,nF 4,oC 138 [10],od (U 2) (.nP [(.sl .aV 1 [])]),o2 1 2],rg 12 [oq (.jG (.func 174) [] [(.s 1),(.s 2)]),o1 3],sq [rg 13 [oo 1,nk,nf 2,nF 5,nL,oi 0],lp 18 0 (sq [rg 21 [oA 4 17 19,nl 4,oZ 5 [1,0,1,0],o2 4 5],rg 23 [om 3,oQ 2 2 5 0,nl 2,oq (.il (.s 23) [(.s 25)])],rg 27 [om 3,oQ 2 2 5 1,nl 2,oq (.il (.s 27) [(.s 29)])]]) 31],rg 32 [oo 1,nk,nf 2,nF 0,nB .eql 5,gA,oo 2,nL,nB .leq 64,gZ],ci 42 (dg 43 [mM [1,2],oo 1,oo 1,nk,nf 2,nl 17,oC 139 [47],oC 175 [48],nn,mM [0,1],oo 1,nk,nf 2,nf 6,mM [0,1],no,oc 172 [.s 43,.s 50,.c (.int .i64 5),.s 55]])]) [] 57:=aW func105 ⟨[1,2],[]⟩
def aeh:aT prog 106 (sq [rg 4 [mk 0,nf 2,nF 4,nL,o1 2,oj 3 64],sq [rg 10 [mk 0,nf 2,nF 0],.block 0 (sq [sq [rg 16 [oB .eql 14 6,o1 15],cd 15 .skip (rg 17 [oB .eql 14 7,o1 15])],cd 15 (sq [dg 18 [om 0,om 2,mk 0,nf 0,nF 1,nL,oq (.ek .sub (.c (.int .i64 64)) (.s 25)),nb .gtr 19,mk 0,nf 2,nF 1,oc 172 [.s 18,.s 27,.c (.int .i64 7),.s 32]],.ret]) (sq [rg 35 [oB .eql 14 4,o1 34],cd 34 (rg 3 [oi 8]) (sq [rg 37 [oB .eql 14 3,o1 36],ci 36 (dg 38 [mk 0,nf 0,nl 2,mk 0,nf 2,nl 17,oC 140 [41,45],ow 1 46,nL,o1 2,oj 3 8])])])])],dg 49 [om 0,om 2,om 3,nb .gtr 50,gB,mk 0,nf 0,nF 0,nL,nB .geq 16,gZ,mk 0,nf 2,nF 1,oc 172 [.s 49,.s 61,.c (.int .i64 7),.s 66]]]) [] 68:=aW func106
def aeX:aT prog 174 (sq [rg 0 [ox 3 2 0],dg 4 [mM [1],oo 1,oo 2,fo 0 3,oC 173 [5,7],nB .lss 0,of 1 3,mM [0],no,oc 172 [.s 4,.s 9,.c (.int .i64 3),.s 11]]]) [] 13:=aW func174
def Tf(Z:ag)(b Y b1 b2:Nat)(l:List aL)(s:aH)(c:aq)(w:aA)(n1:b1≠b)(n2:b2≠b)(h1:Z.box b1=U [.ptr (.out b) 0])(h2:Z.box b2=U [.sl .no 1 (cU (dz c.aj))])(hl:l.length<=90000000)(hn:c.aj.length<=100000) :
 dt 174 [.agg w.enc,.ptr (.out b1) 0,.ptr (.out b2) 0] (ep Z b Y l s c) (.bt []) (ep Z b Y (l++sb c w) s c):=by
 have e1:(ep Z b Y l s c).box b1=U [.ptr (.out b) 0]:=by rw[wk n1];exact h1
 have e2:(ep Z b Y l s c).box b2=U [.sl .no 1 (cU (dz c.aj))]:=by rw[wk n2];exact h2
 refine aeX.aS ?_;simp only[aR,am,a8,Nat.reduceAdd,aA.al];simp only[am,wS,e1,e2];refine bJ.intro (vM (dz c.aj) w.an _ (by rw[AJ];omega)) ?_;simp only[am,sr,anA];refine bJ.intro (ql Z b Y l s c 3 w.pos (gY (dz c.aj) w.an).isNone (by omega)) ?_;simp only[am,sr,e1];exact aP rfl (ag.bc _) ⟨rfl,rfl⟩
def aoA{i:Nat}(hi:i<c.bm.length):(c.bm.take (i+1)).flatMap (pP c)=(c.bm.take i).flatMap (pP c)++(sb c c.bm[i].1++sb c c.bm[i].2):=by rw[jx hi,yK];simp[pP]
def ajJ(Z:ag)(b Y:Nat)(l:List aL)(s:aH)(c:aq)(hg:TZ Z)(hl:l.length<=80000000)(hn:c.aj.length<=100000)(hp:c.bm.length<=100000) :
 dt 105 [.ptr (.out b) 0] (ep Z b Y l s c) (.bt []) (ep Z b Y (l++si c++qm c) s c):=by
 have fresh:∀{x:Nat} {dr:ag},(ep dr b Y l s c).box x=af->x≠b:=λ{x dr} h=>by rintro rfl;rw[LO] at h;simp at h
 refine aeg.aS ?_;simp only[aR,am,a8,Nat.reduceAdd];intro b1 fv;have n1:=fresh fv;rw[wk n1] at fv;simp only[am,Nat.reduceAdd];rw[Tj n1];have e1:(ep (Z.set b1 [.ptr (.out b) 0]) b Y l s c).box b1=U [.ptr (.out b) 0]:=by rw[wk n1,gR]
 simp only[am,iT];refine cl (H2 c.aj _ (by omega)) ?_;simp only[am];intro b2 dD;have n2:=fresh dD;rw[wk n2] at dD;have Mq:b1≠b2:=by rintro rfl;rw[gR] at dD;simp at dD
 rw[mL Mq.symm] at dD;simp only[am];rw[Tj n2];have f1:((Z.set b1 [.ptr (.out b) 0]).set b2 [.sl .no 1 (cU (dz c.aj))]).box b1=U [.ptr (.out b) 0]:=by rw[mL Mq,gR]
 have f2:((Z.set b1 [.ptr (.out b) 0]).set b2 [.sl .no 1 (cU (dz c.aj))]).box b2=U [.sl .no 1 (cU (dz c.aj))]:=gR;have pD:∀{L:List aL},(ep Z b Y L s c).sub (ep ((Z.set b1 [.ptr (.out b) 0]).set b2 [.sl .no 1 (cU (dz c.aj))]) b Y L s c):=λ{L}=>ag.B4 (Ti n1 fv) (Ti n2 (by rw[mL Mq.symm];exact dD))
 generalize uQ:(Z.set b1 [V.ptr (Pl.out b) 0]).set b2 [V.sl .no 1 (cU (dz c.aj))]=fz at f1 f2 pD;have vY:TZ fz:=by rw[<-uQ];exact hg
 have g1:∀{L:List aL},(ep fz b Y L s c).box b1=U [.ptr (.out b) 0]:=λ{L}=>by rw[wk n1];exact f1
 have g2:∀{L:List aL},(ep fz b Y L s c).box b2=U [.sl .no 1 (cU (dz c.aj))]:=λ{L}=>by rw[wk n2];exact f2
 simp only[am,Nat.reduceAdd,aN,aN,iT,g1];have hP:=λ(i:Nat)=>@Vh c (c.bm.take i)
 refine dP (c.bm.length) (λi (x:Unit)=>⟨[.any,.ptr (.out b1) 0,.ptr (.out b2) 0,.fn (.func 174) [] [.ptr (.out b1) 0,.ptr (.out b2) 0],.any,.any,.any,.any,.any,.any,.any,.any,.any,.any,.any,.any,.any,.sl .no 4 (c.bm.map ff),.int .i64 (c.bm.length:Nat),.int .i64 (i:Nat)]++au 37 .any,[],ep fz b Y (l++(c.bm.take i).flatMap (pP c)) s c⟩) (λi x=>(True)) λF hF JF bj=>⟨?_,?_,?_⟩
 .exact en bj (()) (trivial)
 .rintro i x hi -;have hPi:=hP i;rw[iR] at hPi;have hS:=aoA hi;have qh:(sb c c.bm[i].1).length<=1:=rn;simp only[hF,au,am,dB hi];refine ix (U5 hi) ?_;simp only[am,cF,Nat.reduceAdd,ff];refine jD ?_;simp only[am,Int.reduceToNat,Nat.reduceMul];refine cl (Tf fz b Y b1 b2 (l++(c.bm.take i).flatMap (pP c)) s c c.bm[i].1 n1 n2 f1 f2 (by rw[bN];omega) hn) ?_;simp only[am,cF];refine jD ?_;simp only[am,Int.reduceToNat,Nat.reduceMul];refine cl (Tf fz b Y b1 b2 (l++(c.bm.take i).flatMap (pP c)++sb c c.bm[i].1) s c c.bm[i].2 n1 n2 f1 f2 (by simp only[bN];omega) hn) ?_;simp only[am,a9,cE hi];refine fQ (()) hi ?_ ?_ ?_ ?_ ?_ ?_
  .exact eQ (bj _ _) (trivial)
  all_goals simp[hF,au,am,bQ,bS,dL,V.lo,hS]
 .rintro x -;have R7:=hP c.bm.length;rw[iR] at R7;have hw:((dz c.aj).length:Int)=(c.aj.length:Nat):=by rw[AJ]
  have SG:(l++si c).length<=90000000:=by rw[bN,si];rw[eN] at R7;omega
  simp only[hF,au,am,a9,dV,a9,iT,eN,g1];have no:qm c=[]->ep Z b Y (l++si c++qm c) s c=ep Z b Y (l++si c) s c:=λh=>by rw[h,eD]
  by_cases h5:c.op=5
  case neg =>
   simp only[am,aM h5];exact aP rfl pD ⟨rfl,(no (by rw[qm,aC λh=>h5 h.1])).symm⟩
  simp only[am,iY,aQ h5,g2,hw]
  by_cases Bh:c.aj.length<=64
  case neg =>
   simp only[am,aM (show ¬((c.aj.length:Nat):Int)<=64 by omega)];exact aP rfl pD ⟨rfl,(no (by rw[qm,aC λh=>Bh h.2])).symm⟩
  have e:qm c=dT (!rb (sj c)) 5 c.mJ:=by rw[qm,aE ⟨h5,Bh⟩]
  simp only[am,iT,aQ (show((c.aj.length:Nat):Int)<=64 by omega),g1,di];refine bJ.intro (Nh c _ (by omega) (by omega)) ?_;simp only[am,Rl.al];refine bJ.intro (Tv (sj c) vY) ?_;simp only[am,Nat.reduceAdd,iT,g1];refine bJ.intro (ql fz b Y (l++si c) s c 5 c.mJ (!rb (sj c)) (by omega)) ?_;simp only[am,iT,g1];rw[<-e];exact aP rfl pD ⟨rfl,rfl⟩
def ajy(Z:ag)(b Y:Nat)(l:List aL)(s:aH)(c:aq)(hs:s.uY)(hl:l.length<=90000000)(hn:c.aj.length<=100000) :
 dt 106 [.ptr (.out b) 0] (ep Z b Y l s c) (.bt []) (ep Z b Y (l++ma s c) s c):=by
 have h1:=hs.1.1;have h2:=hs.1.2.1;have Xi:IntKind.i64.wrap (64 - (s.vars.length:Int))=64 - (s.vars.length:Nat):=wrap_i64 (by omega) (by omega);refine aeh.aS ?_;simp only[aR,am,a8,Nat.reduceAdd,aN,iT];have pC:(c.op=6\/c.op=7)->(decide (c.op=6)=aa)\/(decide (c.op=6)=ak/\decide (c.op=7)=aa):=λh=>by
  by_cases k:c.op=6
  .exact .inl (aQ k)
  .exact .inr ⟨aM k,aQ (h.resolve_left k)⟩
 by_cases vS:c.op=6\/c.op=7
 .have e:ma s c=dT (decide ((64:Int) - (s.vars.length:Nat)<(c.aj.length:Nat))) 7 c.pos:=by rw[ma,aE vS]
  rcases pC vS with k | ⟨k,k2⟩
  case' inl=>simp only[am,Nat.reduceAdd,aN,aN,iT,k,Xi]
  case' inr=>simp only[am,Nat.reduceAdd,aN,aN,iT,k,k2,Xi]
  all_goals
   refine bJ.intro (ql Z b Y l s c 7 c.pos (decide ((64:Int) - (s.vars.length:Nat)<(c.aj.length:Nat))) (by omega)) ?_;simp only[am];exact aP rfl (ag.bc _) ⟨rfl,by rw[e]⟩
 have e0:ma s c=dT (decide ((if c.op=3 then(8:Int) else if c.op=4 then 8 else 64)<((if c.op=3 then(pQ s c).bO.length else c.aj.length):Nat))||decide (16<=s.bu.length)) 7 c.pos:=by rw[ma,aC vS]
 have Jx:decide ((16:Int)<=(s.bu.length:Nat))=decide (16<=s.bu.length):=rG.2 (by omega);simp only[am,aM (λh=>vS (.inl h)),aM (λh=>vS (.inr h))];have fin:∀(n:Nat) (m:Int),ma s c=dT (decide (m<(n:Nat))||decide (16<=s.bu.length)) 7 c.pos->∀B:Bool,B=(decide (m<(n:Nat))||decide (16<=s.bu.length)) ->
  dt 172 [.ptr (.out b) 0,.bool B,.int .i64 7,.int .i64 c.pos] (ep Z b Y l s c) (.bt []) (ep Z b Y (l++ma s c) s c):=λn m e B hB=>by
  rw[e,hB];exact ql Z b Y l s c 7 c.pos _ (by omega)
 by_cases h4:c.op=4
 .have e:ma s c=dT (decide ((8:Int)<(c.aj.length:Nat))||decide (16<=s.bu.length)) 7 c.pos:=by rw[e0,aC (by omega),aE h4,aC (by omega)]
  simp only[am,aQ h4];cases hb:decide ((8:Int)<(c.aj.length:Nat)) with
  | true =>
   simp only[am,Nat.reduceAdd,iT];refine bJ.intro (fin _ _ e aa (by rw[hb];rfl)) ?_;simp only[am];exact aP rfl (ag.bc _) ⟨rfl,rfl⟩
  | false =>
   simp only[am,Nat.reduceAdd,aN,aN,iT,Jx];refine bJ.intro (fin _ _ e (decide (16<=s.bu.length)) (by rw[hb];rfl)) ?_;simp only[am];exact aP rfl (ag.bc _) ⟨rfl,rfl⟩
 simp only[am,aM h4]
 by_cases h3:c.op=3
 .have e:ma s c=dT (decide ((8:Int)<((pQ s c).bO.length:Nat))||decide (16<=s.bu.length)) 7 c.pos:=by rw[e0,aE h3,aE h3]
  simp only[am,aH.al,iT,aQ h3,di];refine bJ.intro (Vf s c _ hs hn) ?_;simp only[am,aN,bA.al,aN];cases hb:decide ((8:Int)<((pQ s c).bO.length:Nat)) with
  | true =>
   simp only[am,Nat.reduceAdd,iT];refine bJ.intro (fin _ _ e aa (by rw[hb];rfl)) ?_;simp only[am];exact aP rfl (ag.bc _) ⟨rfl,rfl⟩
  | false =>
   simp only[am,Nat.reduceAdd,aN,aN,iT,Jx];refine bJ.intro (fin _ _ e (decide (16<=s.bu.length)) (by rw[hb];rfl)) ?_;simp only[am];exact aP rfl (ag.bc _) ⟨rfl,rfl⟩
 .have e:ma s c=dT (decide ((64:Int)<(c.aj.length:Nat))||decide (16<=s.bu.length)) 7 c.pos:=by rw[e0,aC h3,aC h4,aC h3]
  simp only[am,aM h3];cases hb:decide ((64:Int)<(c.aj.length:Nat)) with
  | true =>
   simp only[am,Nat.reduceAdd,iT];refine bJ.intro (fin _ _ e aa (by rw[hb];rfl)) ?_;simp only[am];exact aP rfl (ag.bc _) ⟨rfl,rfl⟩
  | false =>
   simp only[am,Nat.reduceAdd,aN,aN,iT,Jx];refine bJ.intro (fin _ _ e (decide (16<=s.bu.length)) (by rw[hb];rfl)) ?_;simp only[am];exact aP rfl (ag.bc _) ⟨rfl,rfl⟩
def Wm(s:aH)(c:aq)(hs:s.uY)(hg:TZ Z)(hn:c.aj.length<=100000)(hp:c.bm.length<=100000):
 a_ 54 [.agg s.enc,.agg c.enc] Z (.agg (kE s c).enc):=by
 refine agZ.aS ?_;simp only[aR,am,a8,Nat.reduceAdd,aH.al];simp only[am,di,eU];refine cl (L1 c.op _) ?_;have pC:(l_ c.op=aa)\/(l_ c.op=ak/\nJ c.op=ak)\/(l_ c.op=ak/\nJ c.op=aa):=by
  cases l_ c.op<;>cases nJ c.op<;>simp
 rcases pC with h5 | ⟨h5,h6⟩ | ⟨h5,h6⟩
 case' inl=>simp only[am,aH.al,h5,di,Tn]
 case' inr.inl =>
  simp only[am,h5,eU];refine cl (EA c.op _) ?_;simp only[am,Nat.reduceAdd,h6];exact aP rfl (ag.bc _) ⟨by rw[kE,h5,h6];rfl,rfl⟩
 case' inr.inr =>
  simp only[am,h5,eU];refine cl (EA c.op _) ?_;simp only[am,aH.al,h6,di,Tn]
 all_goals
  have e:fU (vb s c)=kE s c:=by rw[kE,h5];first | rfl | rw[h6];rfl
  intro b hb;have hb:Z.box b=none:=hb;simp only[am];refine bq.tok 0 λY br=>⟨_,_,(Z.set b _).set b (jZ Y [] s c),ey.rfl,rfl,λi c' hc=>⟨c',hc,ey.rfl⟩,p8.set gR (by simp[jz,jZ,o5]),?_⟩
  have br:Z.aK Y=none:=br;rw[ag.set_set,show(Z.set b (jZ Y [] s c)).aY Y 0=ep Z b Y [] s c from rfl];have l1:=@ait s c;have l2:=@Mx s c c.aj.length;have l3:=@Vh c c.bm;have l4:=@anH c;have l5:=@akH s c;simp only[am];refine cl (ajx Z b Y [] s c hs.1 (by simp)) ?_;simp only[am,gd];refine cl (ajA Z b Y (qS s c) s c hs.1 (by omega) hn) ?_;simp only[am];refine cl (ajJ Z b Y (qS s c++kZ s c c.aj.length) s c hg (by rw[bN];omega) hn hp) ?_;simp only[am];refine cl (ajy Z b Y (qS s c++kZ s c c.aj.length++si c++qm c) s c hs (by simp only[bN,si];omega) hn) ?_;simp only[am,iT];refine cl (cg.eh (as' := [.sl .no 2 ((vb s c).map aL.enc)]) (x_ (vb s c) _ (by simp only[vb,bN,si];omega)) ⟨da.no,trivial⟩ bL.rfl) ?_;simp only[am,aL.al];exact aP rfl (ajL hb br) ⟨by rw[e];rfl,rfl⟩
def ag9:aT prog 74 (sq [rg 0 [ox 2 2 0,ox 3 17 1,oZ 4 [2,72]],rg 6 [fo 4 3,oC 138 [7],oY qL [(1,1,.s 8)],oR 5 qL,o2 67 5],sq [rg 10 [fo 0 3],.block 0 (sq [rg 14 [oB .eql 11 1,o1 13],cd 13 (rg 15 [of 0 5,od af (.store 1 (.s 15) (.c (.int .i64 1)))]) (sq [rg 17 [oB .eql 11 2,o1 16],cd 16 (rg 18 [of 0 5,od af (.store 1 (.s 18) (.c (.int .i64 2)))]) (sq [rg 20 [oB .eql 11 4,o1 19],cd 19 (rg 21 [ol 17 3,oC 139 [21],of 0 5,od af (.store 1 (.s 23) (.c (.int .i64 3))),of 2 5,os 65 24 22]) (sq [rg 26 [oB .eql 11 5,o1 25],cd 25 (rg 27 [ol 17 3,oC 139 [27],of 0 5,od af (.store 1 (.s 29) (.c (.int .i64 4))),of 2 5,os 65 30 28]) (sq [rg 32 [oB .eql 11 3,o1 31],cd 31 (sq [rg 33 [ol 2 2,ol 17 3,oC 140 [33,34],o2 2 4],.ret]) (sq [rg 12 [oW [2,72] [],o2 2 4],.ret])])])])])])],rg 36 [ol 67 5,oC 141 [36],o2 2 4],.ret]) [.cell 4 aa 2] 38:=aW func74
def aeA:aT prog 137 (sq [rg 0 [ox 1 2 0,oZ 2 [2,72]],rg 4 [ol 2 1,n1 2,oC 198 [5],oZ 3 [2,72],o2 2 3],rg 7 [fo 0 1,of 0 3,os 1 9 8],rg 10 [ol 2 3,o2 2 2],.ret]) [.cell 2 aa 2] 11:=aW func137
def aeF:aT prog 141 (sq [rg 0 [ox 1 67 0,oZ 2 [2,72]],rg 3 [ol 67 1,oC 201 [3],n1 67,oW [2,72] [(1,1,5)],o2 2 2],.ret]) [.cell 2 aa 2] 7:=aW func141
def Hw(f:bp)(Z:ag)(hf:f.aj.length<=100000):a_ 141 [.agg f.enc] Z (.agg (bA.mk ak [f]).enc):=by
 refine aeF.aS ?_;simp only[aR,am,a8,Nat.reduceAdd,bp.al];refine cl (P6 f _ hf) ?_;simp only[am,Nat.reduceAdd,bp.al];exact aP rfl (ag.bc _) ⟨rfl,rfl⟩
def aqB(s:aH)(c:aq)(Z:ag)(hs:s.uY)(hn:c.aj.length<=100000)(hp:c.bm.length<=100000):a_ 74 [.agg s.enc,.agg c.enc] Z (.agg (sk s c).enc):=by
 have hw:∀(k:Int) (r:Rl),(⟨k,dz c.aj,r⟩:bp).aj.length<=100000:=λk r=>by simp only[AJ];exact hn
 refine ag9.aS ?_;simp only[aR,am,a8,Nat.reduceAdd,aH.al,di,cO];refine cl (H2 c.aj Z hn) ?_;simp only[am,Nat.reduceAdd,bp.al,eU,CX]
 by_cases h1:c.op=1
 .simp only[am,bp.al,aQ h1,CX];refine cl (Hw _ Z (hw _ _)) ?_;simp only[am,bA.al];exact aP rfl (ag.bc _) ⟨by rw[sk,aE h1];rfl,rfl⟩
 by_cases h2:c.op=2
 .simp only[am,bp.al,aM h1,aQ h2,CX];refine cl (Hw _ Z (hw _ _)) ?_;simp only[am,bA.al];exact aP rfl (ag.bc _) ⟨by rw[sk,aC h1,aE h2];rfl,rfl⟩
 by_cases h4:c.op=4
 .simp only[am,di,aM h1,aM h2,aQ h4];refine cl (Nh c Z hn hp) ?_;simp only[am,Rl.al,bp.al,CX];refine cl (Hw _ Z (hw _ _)) ?_;simp only[am,bA.al];exact aP rfl (ag.bc _) ⟨by rw[sk,aC h1,aC h2,aE h4];rfl,rfl⟩
 by_cases h5:c.op=5
 .simp only[am,di,aM h1,aM h2,aM h4,aQ h5];refine cl (Nh c Z hn hp) ?_;simp only[am,Rl.al,bp.al,CX];refine cl (Hw _ Z (hw _ _)) ?_;simp only[am,bA.al];exact aP rfl (ag.bc _) ⟨by rw[sk,aC h1,aC h2,aC h4,aE h5];rfl,rfl⟩
 by_cases h3:c.op=3
 .simp only[am,aH.al,di,aM h1,aM h2,aM h4,aM h5,aQ h3];refine cl (Vf s c Z hs hn) ?_;simp only[am,bA.al];exact aP rfl (ag.bc _) ⟨by rw[sk,aC h1,aC h2,aC h4,aC h5,aE h3];rfl,rfl⟩
 .simp only[am,Nat.reduceAdd,aM h1,aM h2,aM h4,aM h5,aM h3];exact aP rfl (ag.bc _) ⟨by rw[sk,aC h1,aC h2,aC h4,aC h5,aC h3];rfl,rfl⟩
def aqi(s:bA)(Z:ag)(hs:s.ok):a_ 137 [.agg s.enc] Z (.agg s.enc):=by
 refine aeA.aS ?_;simp only[aR,am,a8,Nat.reduceAdd,bA.al];refine cl (cg.eh (as' := [.sl .no 2 ([s].map bA.enc)]) (Vg [s] Z (by simp) (λx hx=>by simp at hx;subst hx;exact hs) (by have:=hs.1;simp;omega)) ⟨da.no,trivial⟩ bL.rfl) ?_;simp only[am,Nat.reduceAdd,bA.al];refine aP rfl (ag.bc _) ⟨?_,rfl⟩;simp only[BW,p7,OV,eD];rfl
end Go.Proofs.Tryz
