/-
  Part 9 of the proof of StackPlaysUptoCardSaid: a logic over the model, the forms of the functions that the law reaches, and what they compute.
-/
import Derived.Test.YtnpggmhoandloaaGreatDoorProg
import Derived.Test.YtnpggmhoandloaaGreatDoorPlays8
set_option linter.unusedVariables false
set_option linter.unusedSimpArgs false
set_option linter.defProp false
set_option linter.unusedSectionVars false
set_option maxRecDepth 4000
set_option maxHeartbeats 4000000
open Option renaming some->U,none->ah
open Bool renaming true->aa,false->aq
open List renaming replicate->aj,range->bH,zipWith->ng
open Eq renaming mpr->fF
open Ne renaming symm->gM
namespace Go.Proofs.Tryz
open Go.Am
def ajt(o:Option Int):pf o=(El o).enc:=by cases o<;>rfl
mutual
theorem Ku{s:aH}{lat:Int}:∀n:Nd,(jY s lat n).length<=n.cW
 | .mk k p t ws ks => by
  have h1:=@tQ s lat t p 1;have h2:=X9 (s:=s) (lat:=lat) ks;rw[jY,Nd.cW]
  grind
theorem X9{s:aH}{lat:Int}:∀l:List Nd,(wR s lat l).length<=iD l
 | []=>by simp[wR]
 | n :: ns => by
  have:=Ku (s:=s) (lat:=lat) n;have:=X9 (s:=s) (lat:=lat) ns
  rw[wR,bL,iD];omega
end
theorem K8(s:aH)(lat:Int)(hs:s.ok)(ju:lat<s.bc.length):∀(k:Nat) (n:Nd) (Z:ab),n.wt<=k->n.wt<=aJ->n.cW<=100000 ->
 aR 128 [.agg s.enc,.agg n.enc,.int .i64 lat] Z (.sl .no 2 ((jY s lat n).map aM.enc))
 | 0,n,Z,hk,_,_=>absurd hk (by cases n;simp[Nd.wt];try omega)
 | k + 1, n, Z, hk, hw, hc => by
  refine fq func128 ?_;simp only[aP,Au,Nat.reduceAdd]
  by_cases h1:n.kind=1
  .simp only[am,aH.al,Nd.fl,aG h1];refine cl (HX s n.an n.pos 1 lat Z hs) ?_;simp only[am];exact aN rfl (ab.a8 _) ⟨by rw[Hi,aL h1];rfl,rfl⟩
  simp only[am,Nd.fl,aD h1]
  by_cases h7:n.kind=7
  .simp only[am,aF,Nd.fl,aF,aG h7];have e7:jY s lat n=if 0<n.ae.length/\0<=lat then [El (r_ s lat n)] else []:=by rw[Hi,aB h1,aL h7]
   by_cases h0:0<n.ae.length
   case neg =>
    simp only[am,aD (show ¬(0:Int)<n.ae.length by omega)];exact aN rfl (ab.a8 _) ⟨by rw[e7,aB (λh=>h0 h.1)];rfl,rfl⟩
   simp only[am,aG (show(0:Int)<n.ae.length by omega)]
   by_cases hl:0<=lat
   case neg =>
    simp only[am,aD hl];exact aN rfl (ab.a8 _) ⟨by rw[e7,aB (λh=>hl h.2)];rfl,rfl⟩
   obtain⟨m,rfl⟩:=yN hl;have az:m<s.bc.length:=by omega
   have hm:n.ae[0]∈n.ae:=dQ _;have sk:=me hm;have sn:=iI hm;simp only[am,Nat.reduceAdd,bu,Nat.reduceLT,aH.al,aG hl];refine ix (tA az) ?_;simp only[am,aH.al,Nd.fl];refine mG (n:=0) (by omega) (gH (j:=0) (bY h0)) ?_;simp only[am,bA.al,Nd.al];refine bn.intro (Rs s.bc[m].shape n.ae[0] Z (hs.2.2 _ (dQ az)) (λm hm=>by obtain⟨a,b,c⟩:=Fh (n:=n.ae[0]) (by omega) m hm;exact⟨by omega,by omega,λq hq=>by have:=c q hq;omega⟩) (by omega)) ?_;have ef:r_ s (m:Nat) n=(gN s.bc[m].shape n.ae[0]).2:=by rw[r_,iM,Fu az,mB h0]
   rw[ajt,<-ef];simp only[am,Nat.reduceAdd,aM.al,br.al];refine y6 (by simp[aJ]) λD aW=>?_
   simp only[am];exact aN rfl (gV aW) ⟨by rw[e7,aL ⟨h0,hl⟩];rfl,rfl⟩
  simp only[am,aD h7];have x_:=xK n;have ek:jY s lat n=n.ae.flatMap (jY s lat):=by rw[Hi,aB h1,aB h7]
  have uy:=Ku (s:=s) (lat:=lat) n;obtain⟨Q,hQ⟩:∃Q:Nat->List aM,∀i,Q i=(n.ae.take i).flatMap (jY s lat):=⟨_,λ_=>rfl⟩;have mC:Q 0=[]:=by grind
  have nw:Q n.ae.length=jY s lat n:=by grind
  have kt:∀{i:Nat} (hi:i<n.ae.length),Q (i+1)=Q i++jY s lat n.ae[i]:=λ{i} hi=>by
   rw[hQ,hQ,iB hi,rX];simp
  have hQm:∀i,i<=n.ae.length->(Q i).length<=(jY s lat n).length:=λi hi=>by
   rw[ek,hQ,<-u_ i n.ae,rX,bL,u_];omega
  refine ch (n.ae.length) (λi (D:Nat)=>⟨[.any,.any,.int .i64 lat,.ptr (.au 0) 0,.ptr (.au 1) 0,.any,.any,.sl (.tk D) 2 ((Q i).map aM.enc),.any,.any,.int .i64 (i:Nat)]++aj 58 .any,[s.enc,n.enc],Z.aU D (Q i).length⟩) (λi D=>(Z.aS D=ah)) λF hF JF aZ=>⟨?_,?_,?_⟩
  .refine xP 0 λD aW=>⟨D,fF (aZ _ _) aW,?_,?_,?_⟩
   all_goals simp[hF,aj,ji,mC]
  .rintro i D hi aW;have hm:n.ae[i]∈n.ae:=dQ _;have sk:=me hm;have sn:=iI hm;have h3:=hQm (i+1) hi;rw[kt hi,bL] at h3;simp only[hF,aj,am,cf hi,aH.al,Nd.fl,aF];refine ix (gH (bY hi)) ?_;simp only[am,aH.al,Nd.al];refine bn.intro (K8 s lat hs ju k n.ae[i] _ (by omega) (by omega) (by omega)) ?_;simp only[am];refine qz (by simp[aJ];omega) (by rw[aF];exact dD) ?_;simp only[am,aF,aK,aF,dU,bt hi];refine c7 (D) hi ?_ ?_ ?_ ?_ ?_ ?_
   .grind
   all_goals simp[hF,aj,am,ba,bE,cn,V.lo,kt hi,aH.bR,Nd.bR]
  .rintro D aW;simp only[hF,aj,am,aK,ck,aK,Nd.fl,aF];rw[<-nw];exact aN rfl (gV aW) ⟨rfl,rfl⟩
def Mz{s:aH}{lat:Int}{n:Nd}:(pK s lat n).length<=1:=by
 unfold pK;split
 .rw[Hi];split
  .exact tQ
  .split
   .split<;>simp
   .rename_i h _ _;omega
 .simp
def M6{ks:List Nd}{i k:Nat}:(r9 ks i k).length<=k:=by
 have:=xT (f:=λj=>if (ks.getD j iJ).an=(ks.getD i iJ).an then [(⟨4,(ks.getD i iJ).pos⟩:aM)] else []) (m:=1) (l:=List.range k) λ_ _=>by split<;>simp
 simpa [r9] using this
def VW{s:aH}{lat:Int}{ks:List Nd}{i:Nat}:pe s lat ks (i+1)=pe s lat ks i++Jl s lat ks i:=by
 simp[pe,il]
def Nw{s:aH}{lat:Int}{ks:List Nd}(h:∀k∈ks,k.ae.length<=8000)(h2:ks.length<=8000):∀{m:Nat},m<=ks.length->(pe s lat ks m).length<=m*16000
 | 0,_=>by simp[pe]
 | m + 1, hm => by
  have ih:=Nw (s:=s) (lat:=lat) h h2 (m:=m) (by omega);have h3:=@M6 ks m m;have h4:=xT (f:=pK s lat) (m:=1) (l:=(ks.getD m iJ).ae) λ_ _=>Mz
  have h5:=h _ (dQ (show m<ks.length by omega));rw[mB (show m<ks.length by omega)] at h4;rw[VW,Jl,bL,bL,mB (show m<ks.length by omega)];omega
def aaX(s:aH)(lat p:Int)(n:Nd)(Z:ab)(hs:s.ok)(ju:lat<s.bc.length)(hc:Cf n)(hw:n.wt<=aJ) :
 aR 127 [.agg s.enc,.agg n.enc,.int .i64 lat,.int .i64 p] Z (.sl .no 2 ((uL s lat p n).map aM.enc)):=by
 refine fq func127 ?_;simp only[aP,Au,Nat.reduceAdd]
 by_cases h1:n.kind=1
 .simp only[am,aH.al,Nd.fl,aG h1];refine cl (HX s n.an n.pos 2 lat Z hs) ?_;simp only[am];exact aN rfl (ab.a8 _) ⟨by rw[uL,aL h1];rfl,rfl⟩
 simp only[am,Nd.fl,aD h1]
 by_cases eK:n.kind=10
 case neg =>
  simp only[am,aD eK];exact aN rfl (ab.a8 _) ⟨by rw[uL,aB h1,aB eK];rfl,rfl⟩
 simp only[am,aG eK];have CS:uL s lat p n=pe s lat n.ae n.ae.length++oD s lat n.ak++(if 16<n.ae.length then [⟨7,p⟩] else []):=by rw[uL,aB h1,aL eK]
 have x_:=hc.k;have uy:=hc.ns;have fw:=hc.kk;have GK:=hc.c;have nD:∀{i:Nat},i<=n.ae.length->(pe s lat n.ae i).length<=i*16000:=λ{i} hi=>Nw fw (by omega) hi
 refine ch (n.ae.length) (λi (D:Nat)=>⟨[.any,.any,.int .i64 lat,.int .i64 p,.ptr (.au 0) 0,.ptr (.au 1) 0,.any,.any,.any,.sl (.tk D) 2 ((pe s lat n.ae i).map aM.enc),.int .i64 (i:Nat)]++aj 110 .any,[s.enc,n.enc],Z.aU D (pe s lat n.ae i).length⟩) (λi D=>(Z.aS D=ah)) λF hF JF aZ=>⟨?_,?_,?_⟩
 .refine xP 0 λD aW=>⟨D,fF (aZ _ _) aW,?_,?_,?_⟩
  all_goals simp[hF,aj,ji,pe]
 .rintro i D hi aW;have hm:n.ae[i]∈n.ae:=dQ _;have sk:=me hm;have sn:=iI hm;have si:=fw _ hm;have hL:=nD (F1 hi);have wH:n.ae.getD i iJ=n.ae[i]:=mB hi;simp only[hF,aj,am,cf hi,Nd.fl,aF];refine ix (gH (bY hi)) ?_;simp only[am,Nat.reduceAdd,Nd.al];refine ch (i) (λj (y:Unit)=>⟨[.any,.any,.int .i64 lat,.int .i64 p,.ptr (.au 0) 0,.ptr (.au 1) 0,.any,.any,.any,.sl (.tk D) 2 ((pe s lat n.ae i++r9 n.ae i j).map aM.enc),.int .i64 (i:Nat),.ptr (.au 2) 0,.int .i64 (j:Nat)]++aj 108 .any,[s.enc,n.enc,n.ae[i].enc],Z.aU D (pe s lat n.ae i++r9 n.ae i j).length⟩) (λj y=>(True)) λF2 bV pI dr=>⟨?_,?_,?_⟩
  .refine en dr (()) (trivial) ?_ ?_ ?_
   all_goals simp[bV,aj,am,ba,r9]
  .rintro j y hj -;have hD:=@M6 n.ae i j;have ed:r9 n.ae i (j+1)=r9 n.ae i j++if n.ae[j].an=n.ae[i].an then [⟨4,n.ae[i].pos⟩] else []:=by
    rw[r9,r9,il,rX,mB hi];simp[show j<n.ae.length by omega]
   simp only[bV,aj,am,cf hj,Nd.fl];refine ix (gH (bY (show j<n.ae.length by omega))) ?_;simp only[am,Nd.fl]
   by_cases he:n.ae[j].an=n.ae[i].an
   .rw[aL he] at ed;simp only[am,Nat.reduceAdd,Nd.fl,aG he];refine fg (by simp[aJ];omega) (by rw[aF];exact dD) ?_;simp only[am,aF,aK,aF,dU,bt hj];refine c7 (()) hj ?_ ?_ ?_ ?_ ?_ ?_
    .exact fF (dr _ _) (trivial)
    all_goals simp[bV,aj,am,ba,bE,cn,V.lo,ed,eY,Ca,aM.enc,aH.bR,Nd.bR]
   .rw[aB he,eC] at ed;simp only[am,aK,aD he,bt hj];refine c7 (()) hj ?_ ?_ ?_ ?_ ?_ ?_
    .exact fF (dr _ _) (trivial)
    all_goals simp[bV,aj,am,ba,bE,cn,V.lo,ed,aH.bR,Nd.bR]
  .rintro y -;have hD:=@M6 n.ae i i;simp only[bV,aj,am,aK,ck,Nat.reduceEqDiff,aK,reduceCtorEq];refine ch (n.ae[i].ae.length) (λj (y:Unit)=>⟨[.any,.any,.int .i64 lat,.int .i64 p,.ptr (.au 0) 0,.ptr (.au 1) 0,.any,.any,.any,.sl (.tk D) 2 ((pe s lat n.ae i++r9 n.ae i i++(n.ae[i].ae.take j).flatMap (pK s lat)).map aM.enc),.int .i64 (i:Nat),.ptr (.au 2) 0,.any,.int .i64 (j:Nat)]++aj 107 .any,[s.enc,n.enc,n.ae[i].enc],Z.aU D (pe s lat n.ae i++r9 n.ae i i++(n.ae[i].ae.take j).flatMap (pK s lat)).length⟩) (λj y=>(True)) λF3 lO S5 vt=>⟨?_,?_,?_⟩
   .refine en vt (()) (trivial) ?_ ?_ ?_
    all_goals simp[lO,aj,am,ba]
   .rintro j y hk -;have uv:n.ae[i].ae[j]∈n.ae[i].ae:=dQ _;have OL:=me uv;have OM:=iI uv;have JD:((n.ae[i].ae.take j).flatMap (pK s lat)).length<=8000:=by
     have:=xT (f:=pK s lat) (m:=1) (l:=n.ae[i].ae.take j) λ_ _=>Mz
     rw[rh,o8] at this;omega
    have hA:=@Mz s lat n.ae[i].ae[j];have ft:=A0 (f:=pK s lat) hk;simp only[lO,aj,am,cf hk,Nd.fl,aF];refine ix (gH (bY hk)) ?_;simp only[am,Nat.reduceAdd,Nd.al,Nd.fl];have Xf:=λZ=>K8 s lat hs ju _ n.ae[i].ae[j] Z (bU _) (by omega) (by omega)
    by_cases xX : n.ae[i].ae[j].kind=1
    .have ea:pK s lat n.ae[i].ae[j]=jY s lat n.ae[i].ae[j]:=by rw[pK,aL (.inl xX)]
     rw[ea] at hA ft;simp only[am,aH.al,Nd.al,aG xX];refine cl (Xf _) ?_;simp only[am];refine fg (by simp only[bL,aF,aJ] at *;omega) (by rw[aF];exact dD) ?_;simp only[am,aF,aK,aF,dU,bt hk];refine c7 (()) hk ?_ ?_ ?_ ?_ ?_ ?_
     .exact fF (vt _ _) (trivial)
     all_goals simp[lO,aj,am,ba,bE,cn,V.lo,ft,eY,Ca,aH.bR,Nd.bR]
    simp only[am,Nd.fl,aD xX]
    by_cases Jz : n.ae[i].ae[j].kind=7
    .have ea:pK s lat n.ae[i].ae[j]=jY s lat n.ae[i].ae[j]:=by rw[pK,aL (.inr Jz)]
     rw[ea] at hA ft;simp only[am,aH.al,Nd.al,aG Jz];refine cl (Xf _) ?_;simp only[am];refine fg (by simp only[bL,aF,aJ] at *;omega) (by rw[aF];exact dD) ?_;simp only[am,aF,aK,aF,dU,bt hk];refine c7 (()) hk ?_ ?_ ?_ ?_ ?_ ?_
     .exact fF (vt _ _) (trivial)
     all_goals simp[lO,aj,am,ba,bE,cn,V.lo,ft,eY,Ca,aH.bR,Nd.bR]
    .have ea:pK s lat n.ae[i].ae[j]=[]:=by rw[pK,aB (λh=>h.elim xX Jz)]
     rw[ea,eC] at ft;simp only[am,aK,aD Jz,bt hk];refine c7 (()) hk ?_ ?_ ?_ ?_ ?_ ?_
     .exact fF (vt _ _) (trivial)
     all_goals simp[lO,aj,am,ba,bE,cn,V.lo,ft,aH.bR,Nd.bR]
   .rintro y -;have ef:pe s lat n.ae (i+1)=pe s lat n.ae i++r9 n.ae i i++n.ae[i].ae.flatMap (pK s lat):=by rw[VW,Jl,wH,eY]
    simp only[lO,aj,am,aK,ck,Nat.reduceEqDiff,aK,reduceCtorEq,Nd.fl,aF,du,bt hi];refine c7 (D) hi ?_ ?_ ?_ ?_ ?_ ?_
    .exact fF (aZ _ _) (aW)
    all_goals simp[hF,aj,am,ba,bE,cn,V.lo,ef,aH.bR,Nd.bR]
 .rintro D aW;simp only[hF,aj,am,aK,ck,aK,Nd.fl,aF];have hL:=nD (bU n.ae.length);refine ch (n.ak.length) (λj (y:Unit)=>⟨[.any,.any,.int .i64 lat,.int .i64 p,.ptr (.au 0) 0,.ptr (.au 1) 0,.any,.any,.any,.sl (.tk D) 2 ((pe s lat n.ae n.ae.length++oD s lat (n.ak.take j)).map aM.enc),.any,.any,.any,.any,.any,.int .i64 (j:Nat)]++aj 105 .any,[s.enc,n.enc],Z.aU D (pe s lat n.ae n.ae.length++oD s lat (n.ak.take j)).length⟩) (λj y=>(True)) λF2 bV pI dr=>⟨?_,?_,?_⟩
  .refine en dr (()) (trivial) ?_ ?_ ?_
   all_goals simp[bV,aj,am,ba,oD]
  .rintro j y hj -;have hT:(oD s lat (n.ak.take j)).length<=40000:=by
    have:=xT (f:=λw:aC=>fY s lat w.an w.pos 2) (m:=1) (l:=n.ak.take j) λ_ _=>tQ
    rw[rh,o8] at this;rw[oD];omega
   have hA:=@tQ s lat n.ak[j].an n.ak[j].pos 2;have ft:oD s lat (n.ak.take (j+1))=oD s lat (n.ak.take j)++fY s lat n.ak[j].an n.ak[j].pos 2:=A0 (f:=λw:aC=>fY s lat w.an w.pos 2) hj;simp only[bV,aj,am,cf hj,aH.al,Nd.fl,aF];refine ix (sO hj) ?_;simp only[am,rU,Nd.fl];refine ix (sO hj) ?_;simp only[am,tS,aH.al];refine bn.intro (HX s n.ak[j].an n.ak[j].pos 2 lat _ hs) ?_;simp only[am];refine qz (by simp only[bL,aF,aJ] at *;omega) (by rw[aF];exact dD) ?_;simp only[am,aF,aK,aF,dU,bt hj];refine c7 (()) hj ?_ ?_ ?_ ?_ ?_ ?_
   .exact fF (dr _ _) (trivial)
   all_goals simp[bV,aj,am,ba,bE,cn,V.lo,ft,eY,Ca,aH.bR,Nd.bR]
  .rintro y -;have hT:(oD s lat n.ak).length<=40000:=by
    have:=xT (f:=λw:aC=>fY s lat w.an w.pos 2) (m:=1) (l:=n.ak) λ_ _=>tQ
    rw[rh] at this;rw[oD];omega
   simp only[bV,aj,am,aK,ck,aK,Nd.fl,aF,du]
   by_cases wD:16<n.ae.length
   .simp only[am,Nat.reduceAdd,aG (show(16:Int)<n.ae.length by omega)];refine fg (by simp only[bL,aF,eZ,aJ] at *;omega) (by rw[aF];exact dD) ?_;simp only[am,aF,aF,dU];rw[aL wD] at CS;exact aN rfl (gV aW) ⟨by simp only[CS,gm];rfl,rfl⟩
   .simp only[am,aD (show ¬(16:Int)<n.ae.length by omega)];rw[aB wD,eC] at CS;exact aN rfl (gV aW) ⟨by rw[CS];rfl,rfl⟩
variable{Z:ab}
def Wy{dx:ab}{D n k:Nat}(h:dx.sub Z)(aW:Z.aS D=ah)(e:n=k):Gr dx (Z.aU D n) (.tk D) k:=by
 have h0:dx.aS D=none:=by
  cases hq:dx.aS D with
  | none=>rfl
  | some m=>rw[h.2.1 D m hq] at aW;simp at aW
 exact⟨⟨λb cs hb=>h.1 b cs hb,λt m hm=>by
  have:=h.2.1 t m hm
  rw[n_];exact this;rintro rfl;rw[aW] at this;simp at this,h.2.2⟩,.inr ⟨D,rfl,by rw[<-e];exact dD,h0⟩⟩
theorem aaL{s:aH}{lat p:Int}{n:Nd}(hc:Cf n):(uL s lat p n).length<=128050000:=by
 have fw:=hc.kk;have x_:=hc.k;have uy:=hc.ns;unfold uL;split
 .have:=@tQ s lat n.an n.pos 2;omega
 .split
  .have h1:=Nw (s:=s) (lat:=lat) fw (by omega) (bU _);have h2:=@Lo s lat n.ak
   grind
  .simp
def K_{tk:Tk}{L:List (List V)}(l:List aM)(Z:ab)(e:L=l.map aM.enc)(hl:l.length<=268000000):aR 63 [.sl tk 2 L] Z (.agg (fH l).enc):=by
 subst e;exact cy.df (as' := [.sl .no 2 (l.map aM.enc)]) (K9 l Z hl) ⟨dv.no,trivial⟩ bp.rfl
theorem aaB(s:aH)(c:ar)(hs:s.ok)(hl:Cf c.left)(hr:Cf c.right)(jO:c.left.wt<=aJ)(qL:c.right.wt<=aJ):
 aR 62 [.agg s.enc,.agg c.enc] Z (.agg (iE s c).enc):=by
 refine fq func62 ?_;simp only[aP,am,aT,Nat.reduceAdd,Int.reduceNeg,b9,b7,aH.al]
 by_cases eK:c.op=10
 .simp only[am,Nat.reduceAdd,Int.reduceNeg,bG,ni,aH.al,aG eK];refine cl (HX s c.name.an c.name.pos 2 (-1) Z hs) ?_;simp only[am,Int.reduceNeg];refine cl (K9 _ Z (yT tQ (by decide))) ?_;simp only[am,Int.reduceNeg,aM.al];exact aN rfl (ab.a8 _) ⟨by rw[<-Gk,za,aL eK];rfl,rfl⟩
 simp only[am,Int.reduceNeg,b7,aD eK]
 by_cases pS:c.op=15
 .simp only[am,Nat.reduceAdd,Int.reduceNeg,bG,ni,aH.al,aG pS];refine cl (HX s c.name.an c.name.pos 1 (-1) Z hs) ?_;simp only[am,Int.reduceNeg];refine cl (K9 _ Z (yT tQ (by decide))) ?_;simp only[am,Int.reduceNeg,aM.al];exact aN rfl (ab.a8 _) ⟨by rw[<-Gk,za,aB eK,aL pS];rfl,rfl⟩
 simp only[am,Int.reduceNeg,b7,aD pS];have az:cD s c<s.bc.length:=by
  rw[cD];cases h:fD s.bc c.name.an with
  | none=>simp only[bW];omega
  | some k=>have:=(AZ h).1;simp only[bW];omega
 have zero:c.op≠8->c.op≠9->za s c=[]:=λh h' => by rw[za,aB eK,aB pS,aB h,aB h']
 by_cases JA:c.op=8\/c.op=9
 case neg =>
  have n8:¬c.op=8:=λh=>JA (.inl h)
  have n9:¬c.op=9:=λh=>JA (.inr h)
  simp only[am,Nat.reduceAdd,b7,aD n8,aD n9];exact aN rfl (ab.a8 _) ⟨by rw[<-Gk,zero n8 n9];rfl,rfl⟩
 by_cases h9:c.op=9
 case' pos =>
  have h8:¬c.op=8:=by omega
  simp only[am,b7,bG,aH.al,aD h8,aG h9]
 case' neg =>
  have h8:c.op=8:=by omega
  simp only[am,bG,aH.al,aG h8]
 all_goals
  refine cl (Bt s c.name.an Z hs.1) ?_;have eI:bW (fD s.bc c.name.an)=cD s c:=rfl;rw[eI];have Oh:(cD s c<0/\jt s.vars c.name.an=ah/\fB s c.name=[⟨3,c.name.pos⟩])\/(cD s c<0/\(∃v,jt s.vars c.name.an=U v)/\fB s c.name=[⟨4,c.name.pos⟩])\/(¬cD s c<0/\fB s c.name=[]):=by
   rw[cD,fB];cases fD s.bc c.name.an with
   | none=>cases jt s.vars c.name.an<;>simp[bW]
   | some k=>right;right;simp[bW]
  rcases Oh with ⟨hn,hv,eL⟩ | ⟨hn,⟨v,hv⟩,eL⟩ | ⟨hn,eL⟩
  case' inl =>
   simp only[am,bG,aH.al,aG hn];refine cl (Al s c.name.an Z hs.2.1) ?_;rw[hv];simp only[am,Nat.reduceAdd,bu,Int.reduceNeg,Int.reduceLT,ni,bW];refine y6 (by simp[aJ]) λD aW=>?_
   simp only[am,Int.reduceNeg,b7];have hG:Gr Z (Z.aU D 1) (.tk D) (fB s c.name).length:=Wy (ab.a8 _) aW (by rw[eL];rfl);have e5:V.sl (.tk D) 2 [[.int .i64 3,.int .i64 c.name.pos]]=V.sl (.tk D) 2 ((fB s c.name).map aM.enc):=by rw[eL];rfl
   rw[e5]
  case' inr.inl =>
   simp only[am,bG,aH.al,aG hn];refine cl (Al s c.name.an Z hs.2.1) ?_;rw[hv];simp only[am,Nat.reduceAdd,ni,bW,aD (show ¬((v:Nat):Int)<0 by omega),aG hn];refine y6 (by simp[aJ]) λD aW=>?_
   simp only[am,b7];have hG:Gr Z (Z.aU D 1) (.tk D) (fB s c.name).length:=Wy (ab.a8 _) aW (by rw[eL];rfl);have e5:V.sl (.tk D) 2 [[.int .i64 4,.int .i64 c.name.pos]]=V.sl (.tk D) 2 ((fB s c.name).map aM.enc):=by rw[eL];rfl
   rw[e5]
  case' inr.inr =>
   simp only[am,b7,aD hn];have hG:Gr Z Z .aY (fB s c.name).length:=by rw[eL];exact Gr.nil
   have e5:V.sl .aY 2 []=V.sl .aY 2 ((fB s c.name).map aM.enc):=by grind
   rw[e5]
 all_goals
  have q3:=@Yb s c.name
 iterate 3
  have OC:=hl.c;have hrc:=hr.c;have q1:=Ku (s:=s) (lat:=cD s c) c.left;have q2:=Ku (s:=s) (lat:=cD s c) c.right;simp only[am,Int.reduceNeg,bG,aH.al,Nd.al,aD h9];refine cl (K8 s _ hs az _ c.left _ (bU _) jO hl.c) ?_;simp only[am,Int.reduceNeg];refine Gr.app (by simpa using hG) (by simp[aJ];omega) λtk1 bx NR _ _=>?_
  simp only[am,Int.reduceNeg,bG,aH.al,Nd.al];refine cl (K8 s _ hs az _ c.right _ (bU _) qL hr.c) ?_;simp only[am,Int.reduceNeg];refine Gr.app NR (by simp[aJ];omega) λtk2 gl JB _ _=>?_
  simp only[am,Int.reduceNeg,ni];have fin:∀{t:List V} {l:List (List V)} {σ' : ab} {D'':List aM},Z.sub σ' -> fB s c.name++jY s (cD s c) c.left++jY s (cD s c) c.right++r8 c.right=D''->jS (λv σ' => v = .agg (iE s c).enc/\σ' = Z) ⟨t,l,σ'⟩ (.agg (fH D'').enc):=λh e =>
   aN rfl h ⟨by rw[<-Gk,za,aB eK,aB pS,aL h8,e];rfl,rfl⟩
  by_cases k8:c.right.kind=8
  case' pos =>
   have eD:r8 c.right=[⟨6,c.right.pos⟩]:=by rw[r8,aL (.inl k8)]
   simp only[am,Nat.reduceAdd,Int.reduceNeg,ni,aG k8]
  case' neg =>
   by_cases k9:c.right.kind=9
   case' pos =>
    have eD:r8 c.right=[⟨6,c.right.pos⟩]:=by rw[r8,aL (.inr k9)]
    simp only[am,Nat.reduceAdd,Int.reduceNeg,ni,aD k8,aG k9]
   case' neg =>
    simp only[am,Int.reduceNeg,ni,aD k8,aD k9];refine cl (K_ (fB s c.name++jY s (cD s c) c.left++jY s (cD s c) c.right) _ (by simp) (by simp;omega)) ?_;simp only[am,Int.reduceNeg,aM.al];exact fin JB.sub (by rw[r8,aB (by omega),eC])
  iterate 2
   refine Gr.app JB (by simp[aJ];omega) λtk3 xq NS _ _=>?_
   simp only[am,Int.reduceNeg];refine cl (K_ (fB s c.name++jY s (cD s c) c.left++jY s (cD s c) c.right++[⟨6,c.right.pos⟩]) _ (by simp[aM.enc]) (by simp;omega)) ?_;simp only[am,Int.reduceNeg,aM.al];exact fin NS.sub (by rw[eD])
 all_goals
  have q1:=aaL (s:=s) (lat:=cD s c) (p:=c.pos) hl;have q2:=aaL (s:=s) (lat:=cD s c) (p:=c.pos) hr;simp only[am,Int.reduceNeg,b7,bG,aH.al,Nd.al,aG h9];refine cl (aaX s _ c.pos c.left _ hs az hl jO) ?_;simp only[am,Int.reduceNeg];refine Gr.app (by simpa using hG) (by simp[aJ];omega) λtk1 bx NR _ _=>?_
  simp only[am,Int.reduceNeg,b7,bG,aH.al,Nd.al];refine cl (aaX s _ c.pos c.right _ hs az hr qL) ?_;simp only[am,Int.reduceNeg];refine Gr.app NR (by simp[aJ];omega) λtk2 gl JB _ _=>?_
  simp only[am,Int.reduceNeg];refine cl (K_ (fB s c.name++uL s (cD s c) c.pos c.left++uL s (cD s c) c.pos c.right) _ (by simp) (by simp;omega)) ?_;simp only[am,Int.reduceNeg,aM.al];exact aN rfl JB.sub ⟨by rw[<-Gk,za,aB eK,aB pS,aB h8,aL h9];rfl,rfl⟩
def arW{c:ar}:(qg c).length<=2*c.aX.length:=K4
def axO:=ag @am <| ag @bu <| ag @cX @aH.al
def aa0(s:aH)(c:ar)(hs:s.tF)(hn:c.ak.length<=100000)(hp:c.aX.length<=100000):
 aR 61 [.agg s.enc,.agg c.enc] Z (.agg (iw s c).enc):=by
 have jL:aJ=268435456:=rfl;have hrn:=@La s c c.ak.length;have pk:=@arW c;have z:∀(t:List V) (lo:List (List V)),(gG c.op||dw c.op)=aq->jS (λv σ' => v = .agg (iw s c).enc/\σ' = Z) ⟨t,lo,Z⟩ (.agg [.int .i64 0,.int .i64 0]):=λt lo h =>
  aN rfl (ab.a8 _) ⟨by rw[iw,h];rfl,rfl⟩
 refine fq func61 ?_ ⟨[],[10,12,18,20]⟩;simp only[aP,am,aT,Nat.reduceAdd,aH.al,b9,b7]
 by_cases h1:c.op<1
 .simp only[am,Nat.reduceAdd,aG h1];exact z _ _ (by simp only[gG,dw,Aw,LW,Gh];omega)
 simp only[am,b7,aD h1]
 by_cases h7:7<c.op
 .simp only[am,Nat.reduceAdd,aG h7];exact z _ _ (by simp only[gG,dw,Aw,LW,Gh];omega)
 simp only[am,aH.al,b9,aD h7];clear z;have hlv:(gG c.op||dw c.op)=true:=by simp only[gG,dw,qx,bO,cU];omega
 rw[<-atC hlv];refine(ao8 s c Z hs.1.1 hs.1.2.1 hn hp).mono ?_;rintro v σ' ⟨D,aW,rfl,rfl⟩;have nR:(decide (c.op=6)=aa/\dw c.op=aa)\/(decide (c.op=6)=aq/\decide (c.op=7)=aa/\dw c.op=aa)\/(decide (c.op=6)=aq/\decide (c.op=7)=aq/\dw c.op=aq):=by
  rw[dw];cases decide (c.op=6)<;>cases decide (c.op=7)<;>simp
 generalize WL:rN s c c.ak.length++qg c=L0;have CN:L0.length<=300000:=by rw[<-WL,bL];omega
 have zw:(qW s c).length<=1:=by
  unfold qW
  repeat' split
  all_goals simp
 have hq:decide (bW (fD s.bc c.name.an)<0) = !lR s c.name.an:=by rw[QS,lR];cases fD s.bc c.name.an<;>rfl
 apply jn
 .intro J
  rcases nR with ⟨k,kv⟩ | ⟨k,k2,kv⟩ | ⟨k,k2,kv⟩
  case' inl=>simp only[am,aF,aH.al,aF,b7,bG,k]
  case' inr.inl=>simp only[am,aF,aH.al,aF,b7,bG,k,k2]
  case' inr.inr=>simp only[am,aF,aH.al,aF,b7,bG,k,k2]
  all_goals
   have hd:=@qW.eq_1 s c;rw[kv] at hd;refine cl (Ql s c.name.an _ hs.1.1 hs.1.2.1) ?_;cases hv:fZ s c.name.an
   all_goals
    rw[hv] at hd;simp only[axO,Nat.reduceAdd,reduceCtorEq,bG,ni]
  .refine a7.df (t' := [.any,.any,.ptr (.au 0) 0,.ptr (.au 1) 0,.ptr (.au 2) 0,.sl (.tk D) 2 ((L0++qW s c).map aM.enc),.int .i64 (c.ak.length:Nat),.bool (dw c.op)]++aj 116 .any) (l' := [s.enc,c.enc,[.int .i64 0,.int .i64 0]]) (σ' := Z.aU D (L0++qW s c).length) ?_ ?_ ?_ J.o
   all_goals simp[aj,am,kv,hd,ba]
  .refine fg (by simp only[aF,da,cZ];omega) (by rw[aF];exact dD) ?_;rw[aF];simp only[am,dU,eZ];refine a7.df (t' := [.any,.any,.ptr (.au 0) 0,.ptr (.au 1) 0,.ptr (.au 2) 0,.sl (.tk D) 2 ((L0++qW s c).map aM.enc),.int .i64 (c.ak.length:Nat),.bool (dw c.op)]++aj 116 .any) (l' := [s.enc,c.enc,[.int .i64 0,.int .i64 0]]) (σ' := Z.aU D (L0++qW s c).length) ?_ ?_ ?_ J.o
   all_goals simp[aj,am,kv,hd,aM.enc,ba]
  iterate 2
   .refine fg (by simp only[aF,da,cZ];omega) (by rw[aF];exact dD) ?_;rw[aF];simp only[am,dU,eZ];refine a7.df (t' := [.any,.any,.ptr (.au 0) 0,.ptr (.au 1) 0,.ptr (.au 2) 0,.sl (.tk D) 2 ((L0++qW s c).map aM.enc),.int .i64 (c.ak.length:Nat),.bool (dw c.op)]++aj 116 .any) (l' := [s.enc,c.enc,[.int .i64 0,.int .i64 0]]) (σ' := Z.aU D (L0++qW s c).length) ?_ ?_ ?_ J.o
    all_goals simp[aj,am,kv,hd,aM.enc,ba]
   .refine cl (Bt s c.name.an _ hs.1.1) ?_;simp only[am,hq];cases hl:lR s c.name.an
    all_goals
     rw[hl] at hd;simp only[am,Nat.reduceAdd,ni]
    .refine fg (by simp only[aF,da,cZ];omega) (by rw[aF];exact dD) ?_;rw[aF];simp only[am,dU,eZ];refine a7.df (t' := [.any,.any,.ptr (.au 0) 0,.ptr (.au 1) 0,.ptr (.au 2) 0,.sl (.tk D) 2 ((L0++qW s c).map aM.enc),.int .i64 (c.ak.length:Nat),.bool (dw c.op)]++aj 116 .any) (l' := [s.enc,c.enc,[.int .i64 0,.int .i64 0]]) (σ' := Z.aU D (L0++qW s c).length) ?_ ?_ ?_ J.o
     all_goals simp[aj,am,kv,hd,aM.enc,ba]
    .refine a7.df (t' := [.any,.any,.ptr (.au 0) 0,.ptr (.au 1) 0,.ptr (.au 2) 0,.sl (.tk D) 2 ((L0++qW s c).map aM.enc),.int .i64 (c.ak.length:Nat),.bool (dw c.op)]++aj 116 .any) (l' := [s.enc,c.enc,[.int .i64 0,.int .i64 0]]) (σ' := Z.aU D (L0++qW s c).length) ?_ ?_ ?_ J.o
     all_goals simp[aj,am,kv,hd,ba]
 clear nR;generalize WM:L0++qW s c=L1;have zw:L1.length<=300001:=by rw[<-WM,bL];omega
 apply jn
 .intro J;have hd:=@kY.eq_1 c
  by_cases h5:c.op=5
  case neg =>
   rw[aB λh=>h5 h.1] at hd;simp only[am,b7,aj,aD h5];refine a7.df (t' := [.any,.any,.ptr (.au 0) 0,.ptr (.au 1) 0,.ptr (.au 2) 0,.sl (.tk D) 2 ((L1++kY c).map aM.enc),.int .i64 (c.ak.length:Nat),.bool (dw c.op)]++aj 116 .any) (l' := [s.enc,c.enc,[.int .i64 0,.int .i64 0]]) (σ' := Z.aU D (L1++kY c).length) ?_ ?_ ?_ J.o
   all_goals simp[aj,am,hd,ba]
  by_cases zk:c.ak.length<=64
  case neg =>
   rw[aB λh=>zk h.2] at hd;simp only[am,b7,aj,aG h5,aD (show ¬((c.ak.length:Nat):Int)<=64 by omega)];refine a7.df (t' := [.any,.any,.ptr (.au 0) 0,.ptr (.au 1) 0,.ptr (.au 2) 0,.sl (.tk D) 2 ((L1++kY c).map aM.enc),.int .i64 (c.ak.length:Nat),.bool (dw c.op)]++aj 116 .any) (l' := [s.enc,c.enc,[.int .i64 0,.int .i64 0]]) (σ' := Z.aU D (L1++kY c).length) ?_ ?_ ?_ J.o
   all_goals simp[aj,am,hd,ba]
  rw[aL ⟨h5,zk⟩] at hd;simp only[am,b9,b7,aj,aG h5,aG (show((c.ak.length:Nat):Int)<=64 by omega)];refine cl (Rq c _ hn hp) ?_;simp only[am,Rl.al];refine cl (aaF (qV c) _) ?_;simp only[am];cases hl:lU (qV c)
  all_goals
   rw[hl] at hd;simp only[am,Nat.reduceAdd,bG]
  .refine fg (by simp only[aF,da,cZ];omega) (by rw[aF];exact dD) ?_;rw[aF];simp only[am,dU,eZ];refine a7.df (t' := [.any,.any,.ptr (.au 0) 0,.ptr (.au 1) 0,.ptr (.au 2) 0,.sl (.tk D) 2 ((L1++kY c).map aM.enc),.int .i64 (c.ak.length:Nat),.bool (dw c.op)]++aj 116 .any) (l' := [s.enc,c.enc,[.int .i64 0,.int .i64 0]]) (σ' := Z.aU D (L1++kY c).length) ?_ ?_ ?_ J.o
   all_goals simp[aj,am,hd,cY,aM.enc,ba]
  .refine a7.df (t' := [.any,.any,.ptr (.au 0) 0,.ptr (.au 1) 0,.ptr (.au 2) 0,.sl (.tk D) 2 ((L1++kY c).map aM.enc),.int .i64 (c.ak.length:Nat),.bool (dw c.op)]++aj 116 .any) (l' := [s.enc,c.enc,[.int .i64 0,.int .i64 0]]) (σ' := Z.aU D (L1++kY c).length) ?_ ?_ ?_ J.o
   all_goals simp[aj,am,hd,cY,ba]
 have iW:=@Zz c;generalize JD:L1++kY c=L2;have iW:L2.length<=300002:=by rw[<-JD,bL];omega
 obtain⟨N,hN⟩:∃N:Nat,N=if c.op=3 then(n5 s c).bI.length else c.ak.length:=⟨_,rfl⟩
 obtain⟨M,hM⟩:∃M:Int,M=if c.op=3 then 8 else if c.op=4 then 8 else 64:=⟨_,rfl⟩
 have es:c.op=3->lB s c=n5 s c:=λh=>by simp[lB,h]
 apply jn
 .intro J
  by_cases h4:c.op=4
  case pos =>
   have e3:¬c.op=3:=by omega
   rw[aB e3] at hN;rw[aB e3,aL h4] at hM;simp only[am,b7,aj,aG h4,aD e3];refine a7.df (t' := [.any,.any,.ptr (.au 0) 0,.ptr (.au 1) 0,.ptr (.au 2) 0,.sl (.tk D) 2 ((L2).map aM.enc),.int .i64 (N:Nat),.bool (dw c.op),.int .i64 M]++aj 115 .any) (l' := [s.enc,c.enc,[.int .i64 0,.int .i64 0]]) (σ' := Z.aU D (L2).length) ?_ ?_ ?_ J.o
   all_goals simp[aj,am,hM,hN,ba]
  rw[aB h4] at hM
  by_cases h3:c.op=3
  .have es:=es h3;rw[aL h3] at hM hN;simp only[am,aH.al,b9,b7,aj,aD h4,aG h3];refine cl (abT s c _ hs hn hp) ?_;rw[es];simp only[am,aF,bA.al,aF];refine a7.df (t' := [.any,.any,.ptr (.au 0) 0,.ptr (.au 1) 0,.ptr (.au 2) 0,.sl (.tk D) 2 ((L2).map aM.enc),.int .i64 (N:Nat),.bool (dw c.op),.int .i64 M]++aj 115 .any) (l' := [s.enc,c.enc,[.int .i64 0,.int .i64 0]]) (σ' := Z.aU D (L2).length) ?_ ?_ ?_ J.o
   all_goals simp[aj,am,hM,hN,ba]
  .rw[aB h3] at hM hN;simp only[am,b7,aj,aD h4,aD h3];refine a7.df (t' := [.any,.any,.ptr (.au 0) 0,.ptr (.au 1) 0,.ptr (.au 2) 0,.sl (.tk D) 2 ((L2).map aM.enc),.int .i64 (N:Nat),.bool (dw c.op),.int .i64 M]++aj 115 .any) (l' := [s.enc,c.enc,[.int .i64 0,.int .i64 0]]) (σ' := Z.aU D (L2).length) ?_ ?_ ?_ J.o
   all_goals simp[aj,am,hM,hN,ba]
 clear es;have hB:=@rM.eq_1 s c;rw[<-hM,<-hN] at hB;have hv6:dw c.op=aa->c.ak.length=N:=λh=>by
  rw[hN,aB];intro h3;rw[h3] at h;simp[dw] at h
 have qJ:=hs.1.2.1;apply jn
 .intro J;cases hv:dw c.op with
  | true =>
   have GV := hv6 hv;rw[hv,GV] at hB;simp only[Bool.not_true,FO,lh,yK] at hB;have hw:IntKind.i64.wrap ((s.vars.length:Nat)+(N:Nat))=(s.vars.length:Nat)+(N:Nat):=wrap_i64 (by omega) (by omega);simp only[am,aF,aH.al,aF,aj,hw];cases hd:decide ((64:Int)<(s.vars.length:Nat)+(N:Nat))
   all_goals
    rw[hd] at hB;simp only[am,Nat.reduceAdd,b7]
   .refine a7.df (t' := [.any,.any,.ptr (.au 0) 0,.ptr (.au 1) 0,.ptr (.au 2) 0,.sl (.tk D) 2 ((L2++cY (rM s c) 7 c.pos).map aM.enc)]++aj 118 .any) (l' := [s.enc,c.enc,[.int .i64 0,.int .i64 0]]) (σ' := Z.aU D (L2++cY (rM s c) 7 c.pos).length) ?_ ?_ ?_ J.o
    all_goals simp[aj,am,hB,cY,ba]
   .refine fg (by simp only[aF,da,cZ];omega) (by rw[aF];exact dD) ?_;rw[aF];simp only[am,dU,eZ];refine a7.df (t' := [.any,.any,.ptr (.au 0) 0,.ptr (.au 1) 0,.ptr (.au 2) 0,.sl (.tk D) 2 ((L2++cY (rM s c) 7 c.pos).map aM.enc)]++aj 118 .any) (l' := [s.enc,c.enc,[.int .i64 0,.int .i64 0]]) (σ' := Z.aU D (L2++cY (rM s c) 7 c.pos).length) ?_ ?_ ?_ J.o
    all_goals simp[aj,am,hB,cY,aM.enc,ba]
  | false =>
   rw[hv] at hB;simp only[Bool.not_false,FO,lh,Bool.or_false] at hB;simp only[am,aj];cases hd:decide (M<((N:Nat):Int))
   all_goals
    rw[hd] at hB;simp only[am,Nat.reduceAdd,aF,aH.al,aF,b7]
   .rw[yK] at hB;cases Cz:decide ((16:Int)<=(s.bc.length:Nat))
    all_goals
     rw[Cz] at hB;simp only[am,Nat.reduceAdd,b7]
    .refine a7.df (t' := [.any,.any,.ptr (.au 0) 0,.ptr (.au 1) 0,.ptr (.au 2) 0,.sl (.tk D) 2 ((L2++cY (rM s c) 7 c.pos).map aM.enc)]++aj 118 .any) (l' := [s.enc,c.enc,[.int .i64 0,.int .i64 0]]) (σ' := Z.aU D (L2++cY (rM s c) 7 c.pos).length) ?_ ?_ ?_ J.o
     all_goals simp[aj,am,hB,cY,ba]
    .refine fg (by simp only[aF,da,cZ];omega) (by rw[aF];exact dD) ?_;rw[aF];simp only[am,dU,eZ];refine a7.df (t' := [.any,.any,.ptr (.au 0) 0,.ptr (.au 1) 0,.ptr (.au 2) 0,.sl (.tk D) 2 ((L2++cY (rM s c) 7 c.pos).map aM.enc)]++aj 118 .any) (l' := [s.enc,c.enc,[.int .i64 0,.int .i64 0]]) (σ' := Z.aU D (L2++cY (rM s c) 7 c.pos).length) ?_ ?_ ?_ J.o
     all_goals simp[aj,am,hB,cY,aM.enc,ba]
   .rw[S0] at hB;refine fg (by simp only[aF,da,cZ];omega) (by rw[aF];exact dD) ?_;rw[aF];simp only[am,dU,eZ];refine a7.df (t' := [.any,.any,.ptr (.au 0) 0,.ptr (.au 1) 0,.ptr (.au 2) 0,.sl (.tk D) 2 ((L2++cY (rM s c) 7 c.pos).map aM.enc)]++aj 118 .any) (l' := [s.enc,c.enc,[.int .i64 0,.int .i64 0]]) (σ' := Z.aU D (L2++cY (rM s c) 7 c.pos).length) ?_ ?_ ?_ J.o
    all_goals simp[aj,am,hB,cY,aM.enc,ba]
 have vD:=@ra (rM s c) 7 c.pos;have s9:L2++cY (rM s c) 7 c.pos=HW s c:=by rw[<-JD,<-WM,<-WL,HW]
 rw[s9];simp only[am,aj];refine cl (K_ (HW s c) _ rfl (by rw[<-s9,bL];omega)) ?_;simp only[am,aM.al];exact aN rfl (gV aW) ⟨rfl,rfl⟩
def Pj(w:List aC)(Z:ab)(i:Nat):St :=
 ⟨[.sl .no 2 (w.map aC.enc),.any,.any,.aQ (b_ ((w.map aC.an).take i)),.int .i64 (i:Nat)]++aj 18 .any,[],Z⟩
theorem acH(w:List aC)(Z:ab)(hw:fk w<=aJ):aR 46 [.sl .no 2 (w.map aC.enc)] Z (.aQ (gX w)):=by
 have hl:=(Fk w).2;have hs:=(Fk w).1;simp only[aJ] at hw;refine fq func46 ?_;simp only[aP,am,aT,Nat.reduceAdd];refine ep (λp:{i:Nat // i<=w.length}=>Pj w Z p.1) (λp=>w.length - p.1) ?_ ?_
 .refine a7.enter ⟨0,by simp⟩ ?_ bX.rfl bp.rfl;simp[Pj,aj,am,b_]
 rintro⟨i,hi⟩;simp only[Pj,aj,am,aF];refine dc ?_ ?_
 .intro az;have az:i<w.length:=by grind
  have dz:=Km (L:=w.map aC.an) (i:=i) (by simpa using az);have hle:=Kn (w.map aC.an) (i+1);have wi:IntKind.i64.wrap ((i:Int)+1)=(i:Int)+1:=wrap_i64 (by omega) (by omega);rw[B_] at dz;rw[dz] at hle;simp only[bL] at hle;simp only[am]
  by_cases h0:0<i
  case' pos =>
   rw[aL h0] at dz hle;simp only[da,cZ] at hle;simp only[am,aG (show(0:Int)<i by omega)];refine⟨by simp[aJ];omega,?_⟩
  case' neg =>
   rw[aB h0] at dz hle;simp only[cZ,eC] at hle dz;simp only[am,aD (show ¬(0:Int)<i by omega)]
  all_goals
   refine ix (o5 (bY az)) ?_;simp only[am,aC.enc];refine⟨by simp[aJ];omega,?_⟩;simp only[wi];exact a7.again ⟨i+1,az⟩ (by simp;omega) (by simp[am,dz]) bX.rfl bp.rfl
 intro az;have az:i=w.length:=by grind
 subst az;rw[show(w.map aC.an).take w.length=w.map aC.an by rw[<-aF (f:=aC.an),du]];simp only[am];refine aI ?_;rfl
def iF(op:Int)(k:UInt8):Bool:=(cm op).2.any (· == k)
theorem Ev(op:Int)(k:UInt8):iF op k=decide (0<eU op k):=by
 unfold iF eU
 grind
def PK(op:Int)(k:UInt8)(ks:List UInt8)(Z:ab)(i:Nat):St :=
 ⟨[.any,.int .u8 (k.toNat:Nat),.any,.any,.any,.aQ ks,.int .i64 (i:Nat)]++aj 13 .any,[],Z⟩
theorem A_(op:Int)(k:UInt8)(Z:ab):aR 130 [.int .i64 op,.int .u8 (k.toNat:Nat)] Z (.bool (iF op k)):=by
 have mi:=Gs op;refine fq func130 ?_;simp only[aP,am,aT,Nat.reduceAdd];refine cl (Qc op Z) ?_;simp only[am];have hh:iF op k=(cm op).2.any (· == k):=rfl;generalize (cm op).2=ks at mi hh ⊢;refine ep (λp:{i:Nat // i<=ks.length/\(ks.take i).any (· == k)=aq}=>PK op k ks Z p.1) (λp=>ks.length - p.1) ?_ ?_
 .refine a7.enter ⟨0,by simp,by simp⟩ ?_ bX.rfl bp.rfl;simp[PK,aj,am]
 rintro⟨i,hi,ha⟩;simp only[PK,aj,am];refine dc ?_ ?_
 .intro az;have az:i<ks.length:=by grind
  have fw:((ks[i].toNat:Nat):Int)=(k.toNat:Nat)↔ks[i]=k:=by
   constructor
   .intro h;exact F8.1 (by omega)
   .grind
  simp only[am];refine rF (uO az) ?_;simp only[am]
  by_cases he:ks[i]=k
  .simp only[am,aG (fw.2 he)]
   have:ks.any (· == k)=true:=xu.2 ⟨ks[i],dQ az,by simp[he]⟩
   refine aI ?_;simp[V.erase,hh,this]
  .simp only[am,aD (λh=>he (fw.1 h))];rw[wrap_i64];refine a7.again ⟨i+1,az,?_⟩ (by simp;omega) (by simp[am]) bX.rfl bp.rfl;rw[List.take_add_one,bY az,S8,ha]
   grind
 intro az;have az:i=ks.length:=by grind
 subst az;rw[du] at ha;simp only[am];refine aI ?_;simp[V.erase,hh,ha]
def Ph(l:List aC)(D:Tk)(Z:ab)(i:Nat):St :=
 ⟨[.sl D 2 (l.map aC.enc),.any,.any,.int .i64 (i:Nat)]++aj 13 .any,[],Z⟩
theorem ack{D:Tk}(l:List aC)(Z:ab)(hb:l.length<=aJ):aR 129 [.sl D 2 (l.map aC.enc)] Z (.bool (f_ l)):=by
 simp only[aJ] at hb;refine fq func129 ?_;simp only[aP,am,aT,Nat.reduceAdd];refine ep (λp:{i:Nat // i<=l.length/\(l.take i).all (λw=>dp w.an)=aa}=>Ph l D Z p.1) (λp=>l.length - p.1) ?_ ?_
 .refine a7.enter ⟨0,by simp,by simp⟩ ?_ bX.rfl bp.rfl;simp[Ph,aj,am]
 .rintro⟨i,hi,ha⟩;simp only[Ph,aj,am,aF];refine dc ?_ ?_
  .intro az;have az:i<l.length:=by grind
   simp only[am];refine ix (o5 (bY az)) ?_;simp only[am,aC.enc];refine cl (yr l[i].an Z) ?_;cases hg:dp l[i].an
   .simp only[am];refine aN rfl (ab.a8 _) ⟨?_,rfl⟩;rw[show f_ l=aq from y4 (f:=λ(w:aC)=>dp w.an) az hg];rfl
   .simp only[am];rw[wrap_i64];exact a7.again ⟨i+1,az,by rw[As az,ha,hg];rfl⟩ (by simp;omega) (by simp[am]) bX.rfl bp.rfl
  .intro az;have az:i=l.length:=by grind
   subst az;rw[du] at ha;simp only[am];refine aI ?_;simp[V.erase,f_,ha]
def ac6(n:Nd)(Z:ab)(hw:n.wt<=aJ):aR 133 [.agg n.enc] Z (.bool (n.dm .zero)):=by
 have h:aR 60 [.agg n.enc,.agg [.int .i64 0,.int .i64 0,.aQ [],.sl .aY 2 [],.sl .aY 5 []]] Z (.bool (n.dm .zero)):=by
  refine cy.df (Lg _ n .zero Z (bU _) hw) ?_ bp.rfl;simp only[c_,dv.rfl,ln,qq];rw[<-ac7];exact dv.erase (v:=.agg [.int .i64 0,.int .i64 0,.aQ [],.sl .aY 2 [],.sl .aY 5 []])
 refine fq func133 ?_;simp only[aP,am,aT,Nat.reduceAdd,Nd.al];refine cl (h) ?_;simp only[am];exact rt
def aj6:fm prog 64 (sq [rg 2 [ox 1 17 0,oz 2],sq [rg 6 [fo 0 1,nB .lss 0,gB,fo 0 1,nB .gtr 15,gZ,gB,fo 4 1,oC 129 [16],nn,gZ],cr 19 2 [oz 2]],sq [rg 3 [oi 0],bl 0 (sq [sq [rg 20 [om 3,fo 5 1,nL,nb .lss 20],cx 24 0],.block 1 (sq [dg 27 [fo 5 1,om 3,nA 4 28,oQ 2 2 30 0,nl 2,fo 5 1,om 3,nA 4 34,oQ 2 2 36 1,nl 2,oq (.pd 2 [(.s 32),(.s 38)]),oC 129 [39],nn],cr 41 2 [oz 2]]),rg 25 [ic 3]])],dg 42 [fo 0 1,oc 130 [.s 43,.c (.int .u8 102)],of 0 1,mM [0],no,oc 130 [.s 46,.c (.int .u8 119)],ot 4 44,o1 5],sq [dg 48 [fo 0 1,oc 130 [.s 49,.c (.int .u8 110)],of 2 1,nf 0,mM [0],no,oC 79 [53],oq (.xG aa (.s 50) (.s 54)),nm,oh 56 (of 0 1),oh 56 (no),oh 56 (oc 130 [.s 58,.c (.int .u8 110)]),oh 56 (nn),oh 56 (nm),og 61 (of 2 1),og 61 (nf 0),og 61 (no),og 61 (oq (.vg .neq (.s 64) (.c (.aQ [])))),oh 56 (oy 61 65),oq (.pick (.s 56) (.c (.bool aa)) (.s 66)),nm,oh 68 (om 4),oh 68 (nm),og 70 (of 4 1),og 70 (no),og 70 (nL),og 70 (nB .neq 1),oh 68 (oy 70 74),oq (.pick (.s 68) (.c (.bool aa)) (.s 75)),nm,oh 77 (om 5),oh 77 (nm),og 79 (of 4 1),og 79 (no),og 79 (nL),og 79 (nB .eql 0),oh 77 (oy 79 83),oq (.pick (.s 77) (.c (.bool aa)) (.s 84)),nm,oh 86 (om 4),oh 86 (nn),oh 86 (nm),og 89 (om 5),og 89 (nn),oh 86 (oy 89 91),oh 86 (nm),og 93 (of 4 1),og 93 (no),og 93 (nL),og 93 (nB .gtr 0),oh 86 (oy 93 97),oq (.pick (.s 86) (.c (.bool aa)) (.s 98)),nm,oh 100 (of 0 1),oh 100 (no),oh 100 (oc 130 [.s 102,.c (.int .u8 112)]),oh 100 (nn),oh 100 (nm),og 105 (of 5 1),og 105 (no),og 105 (nL),og 105 (nB .gtr 0),oh 100 (oy 105 109),oq (.pick (.s 100) (.c (.bool aa)) (.s 110))],cr 111 2 [oz 2]],sq [rg 112 [fo 0 1,oc 130 [.s 113,.c (.int .u8 116)]],cr 114 115 [of 7 1,nl 5,oC 131 [116],gA,of 12 1,nl 5,oC 131 [120],gZ,o1 2]],sq [rg 123 [fo 0 1,oc 130 [.s 124,.c (.int .u8 114)]],cr 125 126 [of 7 1,nl 5,oC 132 [127],gA,of 12 1,nl 5,oC 132 [131],gZ,o1 2]],rg 134 [of 7 1,nl 5,oC 133 [135],gA,of 12 1,nl 5,oC 133 [139],gZ,o1 2],.ret]) [.tmp 2] 142:=fU func64
def uc(c:ar):Bool :=
 (iF c.op 110 != dp c.name.an)||(!iF c.op 110&&!decide (c.name.an=[]))||(iF c.op 102&&!decide (c.ak.length=1))||(iF c.op 119&&decide (c.ak.length=0)) ||
  (!iF c.op 102&&!iF c.op 119&&decide (0<c.ak.length))||(!iF c.op 112&&decide (0<c.aX.length))
def yD(c:ar):Bool:=if iF c.op 116=aa then c.left.ei&&c.right.ei else if iF c.op 114=aa then c.left.jl&&c.right.jl else c.left.dm .zero&&c.right.dm .zero
def BJ(c:ar):Bool:=decide (0<=c.op/\c.op<=15)&&f_ c.ak&&c.aX.all kc&&!uc c&&yD c
def as5(c:ar):BJ c=c.gj:=by
 unfold BJ ar.gj
 by_cases ho:0<=c.op/\c.op<=15
 case neg=>simp[ho]
 have alu:¬(0<eU c.op 119/\0<eU c.op 102):=by
  have key:∀n<16,¬(0<eU ((n:Nat):Int) 119/\0<eU ((n:Nat):Int) 102):=by decide +kernel
  have:=key c.op.toNat (by omega)
  rwa [show((c.op.toNat:Nat):Int)=c.op by omega] at this
 have hn:(!(iF c.op 110 != dp c.name.an)&&!(!iF c.op 110&&!decide (c.name.an=[])))=c.nY:=by
  unfold ar.nY;rw[Ev]
  by_cases h:eU c.op 110=0
  .rw[aL h,h]
   by_cases he:c.name.an=[]
   .simp[he,show dp []=aq by decide]
   .simp[he]
  .rw[aB h,aG (show 0<eU c.op 110 by omega)];simp
 have nM:(f_ c.ak&&!(iF c.op 102&&!decide (c.ak.length=1))&&!(iF c.op 119&&decide (c.ak.length=0))&&!(!iF c.op 102&&!iF c.op 119&&decide (0<c.ak.length)))=c.kW:=by
  have he:qc (c.ak.map aC.an)=f_ c.ak:=by simp only[qc,S6];rfl
  unfold ar.kW;rw[Ev,Ev,he]
  by_cases h1:0<eU c.op 119
  .have h2:¬0<eU c.op 102:=λh=>alu ⟨h1,h⟩
   rw[aL h1,aG h1,aD h2]
   by_cases h3:c.ak.length=0
   .simp[h3]
   .simp[h3,show 0<c.ak.length by omega]
  .rw[aB h1,aD h1]
   by_cases h2:0<eU c.op 102
   .rw[aL h2,aG h2];simp[Bool.and_comm]
   .rw[aB h2,aD h2]
    by_cases h3:c.ak.length=0
    .have:c.ak=[]:=m0.1 h3
     simp[this,f_]
    .simp[h3,show 0<c.ak.length by omega]
 have hp:(c.aX.all kc&&!(!iF c.op 112&&decide (0<c.aX.length)))=c.lY:=by
  unfold ar.lY;rw[Ev]
  by_cases h:eU c.op 112=0
  .rw[aL h,h]
   by_cases h3:c.aX.length=0
   .have:c.aX=[]:=m0.1 h3
    simp[this]
   .simp[h3,show 0<c.aX.length by omega]
  .rw[aB h,aG (show 0<eU c.op 112 by omega)];simp
 have ht:yD c=c.kh:=by
  unfold yD ar.kh;rw[Ev,Ev];simp only[cU]
 rw[<-hn,<-nM,<-hp,ht];unfold uc;generalize c.kh=t;generalize c.aX.all kc=p;generalize f_ c.ak=w;generalize (iF c.op 110 != dp c.name.an)=b1;generalize (!iF c.op 110&&!decide (c.name.an=[]))=b2;generalize (iF c.op 102&&!decide (c.ak.length=1))=b3;generalize (iF c.op 119&&decide (c.ak.length=0))=b4;generalize (!iF c.op 102&&!iF c.op 119&&decide (0<c.ak.length))=b5;generalize (!iF c.op 112&&decide (0<c.aX.length))=b6;simp only[ho,and_self,bu,lh];cases t<;>cases p<;>cases w<;>cases b1<;>cases b2<;>cases b3<;>cases b4<;>cases b5<;>cases b6<;>rfl
def Ha(c:ar)(Z:ab)(i:Nat):St :=
 ⟨[.any,.ptr (.au 0) 0,.any,.int .i64 (i:Nat)]++aj 138 .any,[c.enc],Z⟩
def as3(c:ar)(Z:ab)(hn:c.ak.length+1<=aJ)(hp:c.aX.length+1<=aJ)(hl:c.left.wt<=aJ)(hr:c.right.wt<=aJ):aR 64 [.agg c.enc] Z (.bool c.gj):=by
 simp only[aJ] at hn hp;rw[<-as5];refine aj6.fK ?_;simp only[aP,am,aT,Nat.reduceAdd,b9,b7]
 by_cases k1:c.op<0
 .simp only[am,aG k1];refine aI ?_;simp[V.erase,BJ,show ¬(0<=c.op/\c.op<=15) by omega]
 simp only[am,b7,aD k1]
 by_cases k2:15<c.op
 .simp only[am,aG k2];refine aI ?_;simp[V.erase,BJ,show ¬(0<=c.op/\c.op<=15) by omega]
 have k3:0<=c.op/\c.op<=15:=by omega
 simp only[am,bG,aD k2];refine cl (ack c.ak Z (by simp only[aJ];omega)) ?_;simp only[am];cases q1:f_ c.ak
 .simp only[am];refine aI ?_;simp[V.erase,BJ,q1]
 simp only[am];refine ep (λp:{i:Nat // i<=c.aX.length/\(c.aX.take i).all kc=aa}=>Ha c Z p.1) (λp=>c.aX.length - p.1) ?_ ?_
 .refine a7.enter ⟨0,by simp,by simp⟩ ?_ bX.rfl bp.rfl;simp[Ha,aj,am]
 rintro⟨i,hi,ha⟩;simp only[Ha,aj,am,bG,aF]
 by_cases az:i<c.aX.length
 .simp only[am,bG,aG (show(i:Int)<c.aX.length by omega)];refine ix (vZ (bY az)) ?_;simp only[am,cK];refine tq ?_;simp only[am,Int.reduceToNat,Nat.reduceMul,bG,eJ];refine ix (vZ (bY az)) ?_;simp only[am,cK];refine tq ?_;simp only[am,Nat.reduceAdd,Int.reduceToNat,Nat.reduceMul,eJ];refine bn.intro (ack (D:=.aY) [c.aX[i].1,c.aX[i].2] Z (by simp[aJ])) ?_;have ml:f_ [c.aX[i].1,c.aX[i].2]=kc c.aX[i]:=by simp[f_,kc]
  simp only[am,ml];cases q:kc c.aX[i]
  .simp only[am]
   have:c.aX.all kc=false:=y4 (f:=kc) az q
   refine aI ?_;simp[V.erase,BJ,this]
  .simp only[am];rw[wrap_i64];exact a7.again (I:=λp:{i:Nat // i<=c.aX.length/\(c.aX.take i).all kc=aa}=>Ha c Z p.1) (μ:=λp=>c.aX.length - p.1) ⟨i+1,az,by rw[As az,ha,q];rfl⟩ (by simp;omega) (by simp[aj,am,Ha]) bX.rfl bp.rfl
 .have az:i=c.aX.length:=by omega
  subst az;rw[du] at ha;simp only[am,b7,aD (show ¬(c.aX.length:Int)<c.aX.length by omega)];have hq:BJ c=(!uc c&&yD c):=by simp[BJ,k3,q1,ha]
  rw[hq];refine bn.intro (A_ c.op 102 Z) ?_;simp only[am,b7];refine bn.intro (A_ c.op 119 Z) ?_;simp only[am,b7];refine bn.intro (A_ c.op 110 Z) ?_;simp only[am,bG];refine bn.intro (yr c.name.an Z) ?_;simp only[am]
  by_cases e1:iF c.op 110=dp c.name.an
  case' neg =>
   simp only[am,bG,aD e1];refine aI ?_;simp[V.erase,uc,e1]
  case' pos =>
   simp only[am,b7,aG e1];refine bn.intro (A_ c.op 110 Z) ?_;simp only[am];cases aso:iF c.op 110
   case' false =>
    simp only[am,bG]
    by_cases e2:c.name.an=[]
    case' neg =>
     simp only[am,bG,aD e2];refine aI ?_;simp[V.erase,uc,aso,e2]
    case' pos =>
     simp only[am,aG e2]
   case' true =>
    simp only[am]
  all_goals
   cases aai:iF c.op 102
   case' true =>
    simp only[am,aF,bG,aF]
    by_cases e3:c.ak.length=1
    case' neg =>
     simp only[am,bG,aD (show ¬(c.ak.length:Int)=1 by omega)];refine aI ?_;simp[V.erase,uc,aai,e3]
    case' pos =>
     simp only[am,aG (show(c.ak.length:Int)=1 by omega)]
   case' false =>
    simp only[am]
  all_goals
   cases aaj:iF c.op 119
   case' true =>
    simp only[am,aF,bG,aF]
    by_cases e4:c.ak.length=0
    case' pos =>
     simp only[am,bG,aG (show(c.ak.length:Int)=0 by omega)];refine aI ?_;simp[V.erase,uc,aaj,e4]
    case' neg =>
     simp only[am,b7,aD (show ¬(c.ak.length:Int)=0 by omega)]
   case' false =>
    simp only[am,aF,b7,bG,aF]
  all_goals
   have Vg : (iF c.op 110 != dp c.name.an)=false:=by simp[e1]
   clear e1
   first
    | refine bn.intro (A_ c.op 112 Z) ?_
    | by_cases e5 : 0 < c.ak.length
      case' pos =>
       simp only[am,bG,aG (show(0:Int)<c.ak.length by omega)];have hb:uc c=true:=by simp[uc,aai,aaj,e5]
       refine aI ?_;simp[V.erase,hb]
      case' neg =>
       simp only[am,b7,aD (show ¬(0:Int)<c.ak.length by omega)];refine bn.intro (A_ c.op 112 Z) ?_
  all_goals
   simp only[am];cases asp:iF c.op 112
   case' false =>
    simp only[am,aF,bG,aF]
    by_cases e6:0<c.aX.length
    case' pos =>
     simp only[am,aG (show(0:Int)<c.aX.length by omega)];have hb:uc c=true:=by simp[uc,asp,e6]
     refine aI ?_;simp[V.erase,hb]
    case' neg =>
     simp only[am,b7,aD (show ¬(0:Int)<c.aX.length by omega)]
   case' true =>
    simp only[am,b7,bG]
  all_goals
   have hb:uc c=false:=by unfold uc;rw[Vg];clear Vg;simp[*]
   refine cl (A_ c.op 116 Z) ?_;simp only[am];cases Fm:iF c.op 116
   case' true =>
    simp only[am,Nd.al,bG];refine cl (Hj _ c.left Z (bU _) hl) ?_;simp only[am];cases z1:c.left.ei
    case' true =>
     simp only[am,Nd.al,bG];refine cl (Hj _ c.right Z (bU _) hr) ?_;simp only[am];refine aI ?_;simp[V.erase,hb,yD,Fm,z1]
    case' false =>
     simp only[am];refine aI ?_;simp[V.erase,hb,yD,Fm,z1]
   case' false =>
    simp only[am,b7];refine cl (A_ c.op 114 Z) ?_;simp only[am];cases K6:iF c.op 114
    case' true =>
     simp only[am,Nd.al,bG];refine cl (aaI c.left Z hl) ?_;simp only[am];cases z1:c.left.jl
     case' true =>
      simp only[am,Nd.al,bG];refine cl (aaI c.right Z hr) ?_;simp only[am];refine aI ?_;simp[V.erase,hb,yD,Fm,K6,z1]
     case' false =>
      simp only[am];refine aI ?_;simp[V.erase,hb,yD,Fm,K6,z1]
    case' false =>
     simp only[am,Nd.al,bG];refine cl (ac6 c.left Z hl) ?_;simp only[am];cases z1:c.left.dm .zero
     case' true =>
      simp only[am,Nd.al,bG];refine cl (ac6 c.right Z hr) ?_;simp only[am];refine aI ?_;simp[V.erase,hb,yD,Fm,K6,z1]
     case' false =>
      simp only[am];refine aI ?_;simp[V.erase,hb,yD,Fm,K6,z1]
def aj8:fm prog 67 (sq [rg 0 [ox 3 2 0,ox 5 5 2,oR 6 Ch],sq [rg 9 [fo 0 5,nB .eql 1],cr 11 12 [ol 2 3,fo 2 5,oC 69 [12,14],oY Ch [(0,1,.s 15)],o2 9 6]],dA 18 [7,8] [fo 0 3,om 1,nA 3 19,nf 1,nl 2,fo 4 5,nI 5 0,nl 5,oC 134 [23,27],o1 17,oe 17 0,oe 17 1,oN,oN,oX 7 8 29,oX 8 2 30],rg 31 [ol 8 7,oY Ch [(0,1,.c (.int .i64 (-1))),(1,8,.s 31)],o2 9 6],.ret]) [.cell 6 aa 9] 33:=fU func67
def aj9:fm prog 68 (sq [rg 0 [ox 3 2 0,ox 5 5 2,oZ 6 [15,0]],rg 9 [oG [15,0] [(1,1,.c (.int .i64 (-1)))],oZ 7 [15,0],o2 2 7],sq [rg 10 [fo 0 5,nB .eql 1],ci 12 (sq [rg 13 [ol 2 3,fo 2 5,oC 69 [13,15],of 1 7,os 1 17 16],rg 18 [ol 2 7,o2 2 6],.ret])],sq [rg 8 [oi 0],bl 0 (sq [sq [rg 19 [om 8,fo 4 5,nL,nb .lss 19],cx 23 0],.block 1 (dg 26 [of 0 7,mM [1],no,of 4 5,mM [1],no,om 8,nA 5 29,nf 2,mM [1],no,ol 2 3,om 1,fo 4 5,om 8,nA 5 37,nF 4,nI 5 0,nl 5,oC 67 [34,35,43],oY Nu [(0,1,.s 33),(1,9,.s 44)],n1 10,na 10 27,of 0 7,os 1 48 47]),rg 24 [ic 8]])],sq [rg 49 [fo 3 5,nL,nB .gtr 0],ci 52 (dg 53 [ol 2 3,fo 3 5,nI 2 0,nF 0,oC 69 [53,58],of 1 7,os 1 60 59])],rg 61 [ol 2 7,o2 2 6],.ret]) [.cell 6 aa 2] 62:=fU func68
def aar(s:aH)(lat:Nat)(n:Nd)(hs:s.ok)(ju:lat<s.bc.length)(hk:n.kind=1\/0<n.ae.length)(hc:n.cW<=100000)(hw:n.wt<=aJ):
 aR 67 [.agg s.enc,.int .i64 (lat:Nat),.agg n.enc] Z (.agg (o_ s lat n).enc):=by
 refine aj8.fK ?_;simp only[aP,Au,Nat.reduceAdd,Int.reduceNeg,bQ.al]
 by_cases h1:n.kind=1
 .simp only[am,Int.reduceNeg,aH.al,Nd.fl,aG h1];refine cl (Al s n.an Z hs.2.1) ?_;simp only[am,Int.reduceNeg,bQ.al];exact aN (v:=.agg (bQ.mk (bW (jt s.vars n.an)) .zero).enc) bQ.dT (ab.a8 _) ⟨by rw[o_,aL h1];simp only[V.erase,bQ.dW],rfl⟩
 have hk:0<n.ae.length:=hk.resolve_left h1;have hm:n.ae[0]∈n.ae:=dQ _;have sk:=me hm;have sn:=iI hm;simp only[am,Nat.reduceAdd,bu,Int.reduceNeg,Nat.reduceLT,aH.al,aD h1];refine ix (tA ju) ?_;simp only[am,Int.reduceNeg,aH.al,Nd.fl];refine mG (n:=0) (by omega) (gH (j:=0) (bY hk)) ?_;simp only[am,Int.reduceNeg,bA.al,Nd.al];refine bn.intro (Rs s.bc[lat].shape n.ae[0] Z (hs.2.2 _ (dQ ju)) (λm hm=>by obtain⟨a,b,c⟩:=Fh (n:=n.ae[0]) (by omega) m hm;exact⟨by omega,by omega,λq hq=>by have:=c q hq;omega⟩) (by omega)) ?_;have ee:o_ s lat n=⟨-1,(gN s.bc[lat].shape n.ae[0]).1⟩:=by rw[o_,aB h1,Fu ju,mB hk]
 generalize gN s.bc[lat].shape n.ae[0]=g at ee;obtain⟨e,o⟩:=g;cases o with
 | none =>
  simp only[am,Nat.reduceAdd,Int.reduceNeg,br.al,bQ.al,show pf ah=[.int .i64 0,.int .i64 0] from rfl];exact aN (v:=.agg (bQ.mk (-1) e).enc) bQ.dT (ab.a8 _) ⟨by rw[ee];simp only[V.erase,bQ.dW],rfl⟩
 | some q =>
  simp only[am,Nat.reduceAdd,Int.reduceNeg,br.al,bQ.al,show pf (U q)=[.int .i64 4,.int .i64 q] from rfl];exact aN (v:=.agg (bQ.mk (-1) e).enc) bQ.dT (ab.a8 _) ⟨by rw[ee];simp only[V.erase,bQ.dW],rfl⟩
def aaY(s:aH)(lat:Nat)(n:Nd)(hs:s.ok)(ju:lat<s.bc.length)(hk:∀k∈n.ae,Nt k)(GW:n.ak.length<=1)(hc:n.cW<=100000)(hw:n.wt<=aJ):
 aR 68 [.agg s.enc,.int .i64 (lat:Nat),.agg n.enc] Z (.agg (kf s lat n).enc):=by
 refine aj9.fK ?_;simp only[aP,Au,Nat.reduceAdd,Int.reduceNeg,cq.al]
 by_cases h1:n.kind=1
 .simp only[am,Int.reduceNeg,aH.al,Nd.fl,aG h1];refine cl (Al s n.an Z hs.2.1) ?_;simp only[am,Nat.reduceAdd,Int.reduceNeg];exact aN rfl (ab.a8 _) ⟨by rw[kf,aL h1];rfl,rfl⟩
 simp only[am,Int.reduceNeg,aD h1];have x_:=xK n;obtain⟨Q,hQ⟩:∃Q:Nat->List (List V),∀i,Q i=((n.ae.take i).map (sY s lat)).map cq.enc:=⟨_,λ_=>rfl⟩;have mC:Q 0=[]:=by rw[hQ];rfl
 have nw:Q n.ae.length=(n.ae.map (sY s lat)).map cq.enc:=by rw[hQ,du]
 have sb:∀{i:Nat},i<=n.ae.length->(Q i).length=i:=λ{i} hi=>by rw[hQ];simp;omega
 have kt:∀{i:Nat} (hi:i<n.ae.length) (h1:0<n.ae[i].ae.length),Q (i+1)=Q i++[(cq.mk n.ae[i].an (o_ s lat n.ae[i].ae[0])).enc]:=λ{i} hi h1=>by
  rw[hQ,hQ,iB hi,gm,gm,DW,DW,sY,mB h1]
 refine ch (n.ae.length) (λi (D:Nat)=>⟨[.any,.int .i64 (lat:Nat),.any,.ptr (.au 0) 0,.any,.ptr (.au 1) 0,.ptr (.au 2) 0,.ptr (.au 3) 0,.int .i64 (i:Nat)]++aj 53 .any,[s.enc,n.enc,[.sl .aY 10 [],.int .i64 0],[.sl (.tk D) 10 (Q i),.int .i64 (-1)]],Z.aU D i⟩) (λi D=>(Z.aS D=ah)) λF hF JF aZ=>⟨?_,?_,?_⟩
 .refine Cp 0 λD aW=>⟨D,fF (aZ _ _) aW,?_,?_,?_⟩
  all_goals simp[hF,aj,ji,De,mC]
 .rintro i D hi aW;have hm:n.ae[i]∈n.ae:=dQ _;have sk:=me hm;have sn:=iI hm;obtain⟨ur,si⟩:=hk _ hm;have uv:n.ae[i].ae[0]∈n.ae[i].ae:=dQ _;have OL:=me uv;have OM:=iI uv;have hlen:=sb (F1 hi);simp only[hF,aj,am,cf hi,Int.reduceNeg,Nd.fl,aF];refine ix (gH (bY hi)) ?_;simp only[am,Int.reduceNeg,aH.al,Nd.fl];refine ix (gH (bY hi)) ?_;simp only[am,Int.reduceNeg,Nd.fl];refine mG (n:=0) (by omega) (gH (j:=0) (bY ur)) ?_;simp only[am,Int.reduceNeg,aH.al,Nd.al];refine bn.intro (aar s lat n.ae[i].ae[0] hs ju (si _ uv) (by omega) (by omega)) ?_;simp only[am,Int.reduceNeg,bQ.al,cq.al];refine qz (by rw[hlen];simp[aJ];omega) (by rw[hlen];exact dD) ?_;rw[hlen];simp only[am,aK,Int.reduceNeg,Nd.fl,dU,bt hi,eZ];refine c7 (D) hi ?_ ?_ ?_ ?_ ?_ ?_
  .exact fF (aZ _ _) (aW)
  all_goals simp[hF,aj,am,ba,bE,cn,V.lo,kt hi ur,aH.bR,Nd.bR]
 .rintro D aW;have hlen:=sb (bU _);have uy:=Ea n;have e:kf s lat n=⟨n.ae.map (sY s lat),BV s n.ak⟩:=by rw[kf,aB h1]
  simp only[hF,aj,am,aK,ck,aK,Int.reduceNeg,Nd.fl,aF]
  by_cases vG:0<n.ak.length
  .simp only[am,Int.reduceNeg,aH.al,Nd.fl,aG (show(0:Int)<((n.ak.length:Nat):Int) by omega)];refine mG (n:=0) (by omega) (sO (l:=n.ak) (j:=0) vG) ?_;simp only[am,Int.reduceNeg,rU,aH.al];refine bn.intro (Al s n.ak[0].an _ hs.2.1) ?_;simp only[am,Nat.reduceAdd,Int.reduceNeg,nw];have et:=acd (s:=s) vG;rw[yQ (by omega)] at et;refine aN rfl (gV aW) ⟨by rw[e,et];rfl,rfl⟩
  .simp only[am,Nat.reduceAdd,Int.reduceNeg,aD (show ¬(0:Int)<((n.ak.length:Nat):Int) by omega),nw];have et:n.ak=[]:=xx (by omega);refine aN rfl (gV aW) ⟨by rw[e,et];rfl,rfl⟩
def aj3:fm prog 39 (sq [rg 5 [ox 2 2 0,ox 3 17 1,oR 4 g_,oz 2],sq [rg 9 [fo 0 3,nB .lss 8,gB,fo 0 3,nB .gtr 10,gZ,gB,ol 17 3,oC 64 [18],nn,gZ,gB,ol 2 2,ol 17 3,oC 62 [23,24],ow 0 25,nB .neq 0,gZ],cr 28 29 [oY g_ [],o2 18 4,oU 5 2]],dA 30 [6] [of 0 3,mM [1],no,ol 2 2,of 2 3,nF 0,oC 65 [32,35],oY g_ [(0,1,.s 31),(1,1,.s 36)],oN,oX 6 18 37],sq [rg 38 [fo 0 3,nB .eql 8],ci 40 (sq [rg 42 [ol 2 2,fo 1 6,of 7 3,nl 5,oC 66 [42,44,46],o1 41,oe 41 0,oe 41 1,ot 7 48,o1 8],rg 50 [om 7,of 2 6,os 1 51 50],rg 52 [ol 2 2,fo 1 6,of 12 3,nl 5,oC 67 [52,54,56],of 3 6,os 9 58 57]])],sq [rg 59 [fo 0 3,nB .eql 9],ci 61 (sq [rg 62 [ol 2 2,fo 1 6,of 7 3,nl 5,oC 68 [62,64,66],of 12 6,os 2 68 67],rg 69 [ol 2 2,fo 1 6,of 12 3,nl 5,oC 68 [69,71,73],of 14 6,os 2 75 74]])],sq [rg 76 [fo 0 3,nB .eql 10],ci 78 (sq [rg 79 [ol 2 2,of 2 3,nF 0,oC 69 [79,82],of 16 6,os 1 84 83],rg 85 [fo 1 2,fo 16 6,nA 3 86,nF 2,of 1 6,os 1 92 91],rg 93 [fo 4 3,nI 2 0,nF 0,of 17 6,os 1 98 97]])],rg 99 [ol 18 6,o2 18 4,oV 5 (.bool aa)],.ret]) [.cell 4 aa 18,.tmp 5] 100:=fU func39
theorem aap(s:aH)(c:ar)(hs:s.ok)(hn:c.ak.length+1<=aJ)(hp:c.aX.length+1<=aJ)(hl:Cf c.left)(hr:Cf c.right)(jO:c.left.wt<=aJ)(qL:c.right.wt<=aJ):
 aR 39 [.agg s.enc,.agg c.enc] Z (r5 s c):=by
 have OC:=hl.c;have hrc:=hr.c;have no:∀(t:List V) (lo:List (List V)),gi s c=aq->jS (λv σ' => v=r5 s c/\σ' = Z) ⟨t,lo,Z⟩ (.bw [.agg (dj 0 0 (.sl .aY 10 []) .zero (.sl .aY 10 []) 0 (.sl .aY 10 []) 0 0 []),.bool aq]):=λt lo h=>by
  refine aN (by simp only[V.cS,bK,uZ];exact D4 rfl rfl rfl) (ab.a8 _) ⟨?_,rfl⟩;rw[r5,h];simp only[V.erase,a9,Ga];rfl
 have yes:∀(t:List V) (lo:List (List V)) (op lat:Int) (cd:V) (to:bQ) (fa:V) (ta:Int) (fb:V) (tb v:Int) (f:List UInt8),gi s c=aa->cd.cS=aa->fa.cS=aa->fb.cS=aa->dj op lat cd.erase to fa.erase ta fb.erase tb v f=(jA s c).enc->jS (λv σ' => v=r5 s c/\σ' = Z) ⟨t,lo,Z⟩ (.bw [.agg (dj op lat cd to fa ta fb tb v f),.bool aa]):=λt lo op lat cd to fa ta fb tb v f h n1 n2 n3 hx=>by
  refine aN (by simp only[V.cS,bK,uZ];exact D4 n1 n2 n3) (ab.a8 _) ⟨?_,rfl⟩;rw[r5,h];simp only[V.erase,a9,Ga,hx];rfl
 refine aj3.fK ?_;simp only[aP,am,aT,Nat.reduceAdd,aH.al,g_,b9,b7]
 by_cases o1:c.op<8
 .simp only[am,hH,aG o1];exact no _ _ (by simp[gi];omega)
 simp only[am,b7,aD o1]
 by_cases o2:10<c.op
 .simp only[am,hH,aG o2];exact no _ _ (by simp[gi];omega)
 simp only[am,b9,aD o2];refine cl (as3 c _ hn hp jO qL) ?_;cases hq:c.gj with
 | false =>
  simp only[am,hH];exact no _ _ (by simp[gi,hq])
 | true =>
  simp only[am,aH.al,b9];refine cl (aaB s c hs hl hr jO qL) ?_;simp only[am,aM.al]
  by_cases hf:(iE s c).cls=0
  case neg =>
   simp only[am,hH,aD hf];exact no _ _ (by simp[gi,hf])
  have hA:gi s c=true:=by simp only[gi,hq,hf,bu,uZ,bO,cU];omega
  have hF:=Kl.1 hA;simp only[am,Nat.reduceAdd,bu,Nat.reduceLT,aH.al,b7,bG,aG hf];refine bn.intro (Bt s c.name.an Z hs.1) ?_;simp only[am,Nat.reduceAdd,hH,b7,wg (op:=c.op) (lat:=bW (fD s.bc c.name.an)) (c:=.sl .aY 10 []) (to:=.zero) (fa:=.sl .aY 10 []) (ta:=0) (fb:=.sl .aY 10 []) (tb:=0) (v:=0) (f:=[]) rfl rfl rfl]
  by_cases h8:c.op=8
  .simp only[am,aH.al,hH,Nd.al,bG,aG h8];obtain⟨k,hk,az⟩:=hF.cD (.inl h8);have pZ : bW (fD s.bc c.name.an)=(k:Nat):=hk;rw[pZ];refine cl (asN s k hs _ c.left _ (bU _) jO (by omega)) ?_;simp only[am,aH.al,hH,Nd.al,bG,wv];refine cl (aar s k c.right hs az ?_ (by omega) qL) ?_
   .rcases hF.right h8 with h | h
    .omega
    .exact .inr (by rw[Da (hF.labels h8).2 h];omega)
   simp only[am,bQ.al,hH,b7,aD (show ¬c.op=9 by omega),aD (show ¬c.op=10 by omega),wg (op:=c.op) (lat:=k) (c:=.sl .no 10 (((kR s k c.left).getD []).map bF.enc)) (to:=o_ s k c.right) (fa:=.sl .aY 10 []) (ta:=0) (fb:=.sl .aY 10 []) (tb:=0) (v:=0) (f:=[]) rfl rfl rfl];refine yes _ _ _ _ _ _ _ _ _ _ _ _ hA rfl rfl rfl ?_;rw[jA,aL h8,hk,h8];rfl
  simp only[am,b7,aD h8]
  by_cases h9:c.op=9
  .simp only[am,aH.al,hH,Nd.al,bG,aG h9];obtain⟨k,hk,az⟩:=hF.cD (.inr h9);have pZ : bW (fD s.bc c.name.an)=(k:Nat):=hk;rw[pZ];obtain⟨q1,q2⟩:=hF.rows h9;refine cl (aaY s k c.left hs az (Fq q1) (Lb q1) (by omega) jO) ?_;simp only[am,aH.al,fJ.al,hH,Nd.al,bG];refine cl (aaY s k c.right hs az (Fq q2) (Lb q2) (by omega) qL) ?_;simp only[am,fJ.al,hH,b7,aD (show ¬c.op=10 by omega),wg (op:=c.op) (lat:=k) (c:=.sl .aY 10 []) (to:=.zero) (fa:=.sl .no 10 ((kf s k c.left).fs.map cq.enc)) (ta:=(kf s k c.left).tail) (fb:=.sl .no 10 ((kf s k c.right).fs.map cq.enc)) (tb:=(kf s k c.right).tail) (v:=0) (f:=[]) rfl rfl rfl];refine yes _ _ _ _ _ _ _ _ _ _ _ _ hA rfl rfl rfl ?_;rw[jA,aB h8,aL h9,hk,h9];rfl
  have eK:c.op=10:=by omega
  simp only[am,aH.al,b7,bG,aD h9,aG eK];obtain⟨v,hv,CX,uB⟩:=hF.var eK;obtain⟨w,hw,_⟩:=hF.one eK;refine cl (Al s c.name.an Z hs.2.1) ?_;rw[CX];simp only[am,Int.reduceNeg,aH.al,hH,bW];refine ix (xn hv) ?_;simp only[am,Int.reduceNeg,aH.al,hH,bG];have CY:0<c.ak.length:=by grind
  refine mG (n:=0) (by omega) (sO (l:=c.ak) (j:=0) CY) ?_;simp only[am,Int.reduceNeg,rU,hH,wg (op:=c.op) (lat:=s.vars[v].lat) (c:=.sl .aY 10 []) (to:=.zero) (fa:=.sl .aY 10 []) (ta:=0) (fb:=.sl .aY 10 []) (tb:=0) (v:=v) (f:=c.ak[0].an) rfl rfl rfl];refine yes _ _ _ _ _ _ _ _ _ _ _ _ hA rfl rfl rfl ?_;rw[jA,aB h8,aB h9,CX,Sq,bY hv,mB CY,eK];rfl
def Dn(ks:List UInt8):Bool:=decide ((ks.filter isTerm).length=0)
def Aa(c:ar)(ks:List UInt8)(Z:ab)(i:Nat):St :=
 ⟨[.any,.ptr (.au 0) 0,.any,.aQ (iZ [32] (jj c (ks.take i)).1),.aQ ks,.bool (Dn (ks.take i)),.int .i64 (i:Nat)]++aj 87 .any,[c.enc],Z⟩
def H8(c:ar)(ks s0:List UInt8)(b:Bool)(Z:ab)(i k:Nat):St :=
 ⟨[.any,.ptr (.au 0) 0,.any,.aQ (s0++b_ ((c.aX.map ja).take k)),.aQ ks,.bool b,.int .i64 (i:Nat),.int .i64 (k:Nat)]++aj 86 .any,[c.enc],Z⟩
def arI(c:ar)(ks:List UInt8)(k:UInt8):iZ [32] (jj c (ks++[k])).1=iZ [32] (jj c ks).1++[32]++ke k c ((jj c ks).2.headD .zero):=by
 rw[Q2,Ab,XY,aL (by rw[(Fi c ks).2.2.1];omega)]
def apw(ks:List UInt8)(k:UInt8):Dn (ks++[k])=(Dn ks&&!isTerm k):=by
 unfold Dn;rw[DT,bL];cases h:isTerm k
 .simp[h]
 .simp[h]
def ape{n m:Nd}:over n.enc m.enc=m.enc:=by rw[Nd.dk,Nd.dk];rfl
theorem afp{c:ar}{n:Nat}:bE n c.enc=true:=rfl
def aa2(c:ar)(Z:ab)(hw:16*c.wt+128<=aJ):aR 26 [.agg c.enc] Z (.aQ (dq c)):=by
 have JR:c.wt=c.name.an.length+fk c.ak+kz c.aX+c.left.wt+c.right.wt:=rfl;have GW:=Fk c.ak;have GY:=Q6 c.aX;have jL:aJ=268435456:=rfl;refine fq func26 ?_;simp only[aP,am,aT,Nat.reduceAdd,b9,b7];refine cl (TD c.op Z) ?_;simp only[am,b7];refine cl (Qc c.op Z) ?_;simp only[am];have CD:=V8 c.op;have wK:dq c=iZ [32] (jj c (cm c.op).2).1:=rfl;have mi:=Gs c.op;have h00:iZ [32] (jj c []).1=(cm c.op).1:=by simp[jj,iZ]
 have hb:∀ks:List UInt8,ks.length<=3->(iZ [32] (jj c ks).1).length<=4*(c.wt+9):=λks hk=>by
  obtain⟨o1,_,o3,_⟩:=Fi c ks;have uq:=XX _ o1;rw[o3] at uq
  have:(ks.length+1)*(c.wt+8+1)<=4*(c.wt+8+1):=va _ (by omega)
  omega
 generalize fT:(cm c.op).2=ks at CD wK mi ⊢;refine ep (λp:{i:Nat // i<=ks.length}=>Aa c ks Z p.1) (λp=>ks.length - p.1) ?_ ?_
 .refine a7.enter ⟨0,by simp⟩ ?_ bX.rfl bp.rfl;simp[Aa,aj,am,h00,Dn]
 rintro⟨i,hi⟩;simp only[Aa,aj,am];refine dc ?_ ?_
 .intro az;have az:i<ks.length:=by simpa using az
  have sj:ks.take (i+1)=ks.take i++[ks[i]]:=by rw[iB az]
  have OT:=arI c (ks.take i) ks[i];have nM:=apw (ks.take i) ks[i];rw[<-sj] at OT nM;have dX:=hb (ks.take (i+1)) (by rw[o8];omega);rw[OT] at dX;simp only[bL,eZ] at dX;have wi:IntKind.i64.wrap ((i:Int)+1)=((i+1:Nat):Int):=by rw[wrap_i64];simp
  obtain⟨o1,o2,o3,o4⟩:=Fi c (ks.take i);have ht:=CD i az ks[i] (bY az);have fw:∀n:UInt8,((ks[i].toNat:Nat):Int)=(n.toNat:Nat)↔ks[i]=n:=λn=>by
   constructor
   .intro h;exact F8.1 (by omega)
   .intro h;rw[h]
  have vl:((ks[i].toNat:Nat):Int)=110↔ks[i]=110:=fw 110;have vk:((ks[i].toNat:Nat):Int)=102↔ks[i]=102:=fw 102;have uf:((ks[i].toNat:Nat):Int)=119↔ks[i]=119:=fw 119;have ue:((ks[i].toNat:Nat):Int)=112↔ks[i]=112:=fw 112;have again:∀(st:List V) (ls:List (List V)),c_ st (Aa c ks Z (i+1)).t->bX (ls.take 1) [c.enc]->a7 ⟨st,ls,Z⟩ λaV => ∃j:{i:Nat // i<=ks.length},aV = Aa c ks Z j.1/\ks.length - j.1<ks.length - i:=λst ls h1 h2 =>
   a7.nh (I:=λp:{i:Nat // i<=ks.length}=>Aa c ks Z p.1) (μ:=λp=>ks.length - p.1) ⟨i+1,az⟩ (by simp;omega) h1 h2 bp.rfl (by simp[Aa,aj,bE,V.lo]) (by simp[Aa,cn,afp])
  simp only[Aa,OT,nM] at again;generalize iZ [32] (jj c (ks.take i)).1=out at again dX ⊢;generalize vN:(jj c (ks.take i)).2=ts at again dX o2 o4;generalize hnt:Dn (ks.take i)=nt at again ⊢;simp only[am];refine⟨by simp[aJ];omega,?_⟩;refine rF (uO az) ?_;simp only[am]
  by_cases k1:ks[i]=110
  .have hp:ke ks[i] c (ts.headD .zero)=c.name.an:=by rw[k1];rfl
   have hq:isTerm ks[i]=false:=by rw[k1];rfl
   rw[hp] at dX again;rw[hq] at again;simp only[am,bG,aG (vl.2 k1)];refine⟨by simp[aJ];omega,?_⟩;simp only[wi];refine again _ _ ?_ ?_
   .simp[am,aj]
   .simp[am]
  simp only[am,aD (λh=>k1 (vl.1 h))]
  by_cases k2:ks[i]=102
  .have hp:ke ks[i] c (ts.headD .zero)=gX c.ak:=by rw[k2];rfl
   have hq:isTerm ks[i]=false:=by rw[k2];rfl
   rw[hp] at dX again;rw[hq] at again;simp only[am,bG,aG (vk.2 k2)];refine cl (acH c.ak Z (by omega)) ?_;simp only[am];refine⟨by simp[aJ];omega,?_⟩;simp only[wi];refine again _ _ ?_ ?_
   .simp[am,aj]
   .simp[am]
  simp only[am,aD (λh=>k2 (vk.1 h))]
  by_cases k3:ks[i]=119
  .have hp:ke ks[i] c (ts.headD .zero)=[123]++gX c.ak++[125]:=by rw[k3];rfl
   have hq:isTerm ks[i]=false:=by rw[k3];rfl
   rw[hp] at dX again;rw[hq] at again;simp only[bL,eZ] at dX;simp only[am,bG,aG (uf.2 k3)];refine⟨by simp[aJ];omega,?_⟩;refine cl (acH c.ak Z (by omega)) ?_;simp only[am];refine⟨by simp[aJ];omega,?_⟩;refine⟨by simp[aJ];omega,?_⟩;simp only[wi];refine again _ _ ?_ ?_
   .simp[am,aj]
   .simp[am]
  simp only[am,aD (λh=>k3 (uf.1 h))]
  by_cases k4:ks[i]=112
  .have hp:ke ks[i] c (ts.headD .zero)=[123]++b_ (c.aX.map ja)++[125]:=by rw[k4];rfl
   have hq:isTerm ks[i]=false:=by rw[k4];rfl
   rw[hp] at dX again;rw[hq] at again;simp only[bL,eZ] at dX;simp only[am,aG (ue.2 k4)];refine⟨by simp[aJ];omega,?_⟩;refine ep (λp:{k:Nat // k<=c.aX.length}=>H8 c ks (out++[32]++[123]) nt Z i p.1) (λp=>c.aX.length - p.1) ?_ ?_
   .refine a7.enter ⟨0,by simp⟩ ?_ bX.rfl bp.rfl;simp[H8,aj,am,b_]
   rintro⟨k,hk⟩;simp only[H8,aj,am,bG,aF];refine dc ?_ ?_
   .intro iW;have iW:k<c.aX.length:=by simpa using iW
    have dz:=Km (L:=c.aX.map ja) (i:=k) (by simpa using iW);have hle:=Kn (c.aX.map ja) (k+1);have wk:IntKind.i64.wrap ((k:Int)+1)=((k+1:Nat):Int):=by rw[wrap_i64];simp
    rw[B_] at dz;rw[dz] at hle;simp only[bL,ja,eZ] at hle;simp only[am]
    by_cases h0:0<k
    case' pos =>
     rw[aL h0] at dz hle;simp only[da,cZ] at hle;simp only[am,bG,aG (show(0:Int)<k by omega)];refine⟨by simp[aJ];omega,?_⟩
    case' neg =>
     rw[aB h0] at dz hle;simp only[cZ,eC] at hle dz;simp only[am,bG,aD (show ¬(0:Int)<k by omega)]
    all_goals
     refine ix (vZ (bY iW)) ?_;simp only[am,cK];refine tq ?_;simp only[am,Int.reduceToNat,Nat.reduceMul,bG,eJ];refine⟨by simp[aJ];omega,?_⟩;refine⟨by simp[aJ];omega,?_⟩;refine ix (vZ (bY iW)) ?_;simp only[am,cK];refine tq ?_;simp only[am,Int.reduceToNat,Nat.reduceMul,eJ];refine⟨by simp[aJ];omega,?_⟩;simp only[wk];exact a7.again (I:=λp:{k:Nat // k<=c.aX.length}=>H8 c ks (out++[32]++[123]) nt Z i p.1) (μ:=λp=>c.aX.length - p.1) ⟨k+1,iW⟩ (by simp;omega) (by simp[am,aj,dz,ja,H8]) bX.rfl bp.rfl
   intro iW;have iW:k=c.aX.length:=by simp at iW;omega
   subst iW;rw[show(c.aX.map ja).take c.aX.length=c.aX.map ja by rw[<-aF (f:=ja),du]];simp only[am,Nat.reduceEqDiff];refine⟨by simp[aJ];omega,?_⟩;simp only[wi];refine again _ _ ?_ ?_
   .simp[am,aj]
   .simp[am]
  simp only[am,Nd.al,bG,aD (λh=>k4 (ue.1 h))];have hq:isTerm ks[i]=true:=by simp[isTerm,k1,k2,k3,k4]
  have O7:=ht hq;have hp:ke ks[i] c (ts.headD .zero)=(if nt=aa then c.left else c.right).dn:=by
   rw[o4,<-hnt];unfold Dn
   match (List.filter isTerm (List.take i ks)).length,O7 with
   | 0,_=>simp[ke,k1,k2,k3,k4]
   | 1,_=>simp[ke,k1,k2,k3,k4]
  rw[hp] at dX again;rw[hq] at again;cases nt
  .simp only[am,Nd.al];refine cl (ach _ c.right Z (bU _) (by omega)) ?_;simp only[am];simp only[dK,cz] at dX again;refine⟨by simp[aJ];omega,?_⟩;simp only[wi];refine again _ _ ?_ ?_
   .simp[am,aj]
   .simp[am]
  .simp only[am,Nd.al,bG,ape];refine cl (ach _ c.left Z (bU _) (by omega)) ?_;simp only[am];simp only[db] at dX again;refine⟨by simp[aJ];omega,?_⟩;simp only[wi];refine again _ _ ?_ ?_
   .simp[am,aj]
   .simp[am]
 .intro az;have az:i=ks.length:=by simp at az;omega
  subst az;rw[du,<-wK];simp only[am];exact rt
def aj2:fm prog 36 (sq [rg 0 [ox 5 2 0,oZ 10 [0,0,1,0,7,9,0,0,0,1,7,10,0,0,1,7,10],oR 11 g_,oZ 12 [0,0]],rg 22 [om 4,oC 28 [22],o1 21,oe 21 0,oe 21 1,oZ 13 [0,0,1,0,7,9,0,0,0,1,7,10,0,0,1,7,10],oZ 14 [0,0],os 17 13 24,o2 2 14],sq [rg 26 [fo 0 14,nB .neq 0],ci 28 (sq [dg 29 [oW [0,0,1,0,7,9,0,0,0,1,7,10,0,0,1,7,10] [],oY g_ [],mM [1,2],ol 2 14,os 17 10 29,os 18 11 30,o2 2 12],.ret])],dg 32 [ol 2 5,ol 17 13,oC 61 [32,33],mM [0],ol 2 5,mM [0],ol 17 13,oC 62 [35,36],oq (.pd 2 [(.s 34),(.s 37)]),o1 15],rg 39 [ol 17 13,oC 26 [39],nT,o1 16],rg 42 [fo 0 13,oC 37 [43],nm,og 45 (om 16),og 45 (nB .gtr 1024),og 45 (nm),oh 48 (om 1),oh 48 (om 16),oh 48 (oq (.qB .sub (.c (.int .i64 16384)) (.s 50))),oh 48 (nB .sub 1),oh 48 (nb .gtr 49),og 45 (oq (.pick (.s 48) (.c (.bool aa)) (.s 53))),oy 45 54,o1 17],.sM (rg 56 [om 17,nm,oh 57 (of 0 13),oh 57 (no),oh 57 (nB .geq 8),oh 57 (nm),og 61 (of 0 13),og 61 (no),og 61 (nB .leq 10),oh 57 (oy 61 64),oh 57 (nm),og 66 (om 2),og 66 (nB .geq 64),oh 57 (oy 66 68),oq (.pick (.s 57) (.c (.bool aa)) (.s 69)),o1 17]),.sM (rg 71 [om 17,nm,oh 72 (of 0 13),oh 72 (no),oh 72 (nB .eql 11),oh 72 (nm),og 76 (om 3),og 76 (nB .geq 16),oh 72 (oy 76 78),oq (.pick (.s 72) (.c (.bool aa)) (.s 79)),o1 17]),sq [.sM (rg 81 [om 17]),ci 81 (rg 82 [om 15,fo 1 13,oG [0,0] [(0,1,.c (.int .i64 7)),(1,1,.s 84)],n1 2,na 2 82,o1 15])],sq [rg 88 [fo 0 13,nB .eql 12,gA,om 3,nB .leq 1,gZ],ci 94 (rg 95 [om 15,fo 1 13,oG [0,0] [(0,1,.c (.int .i64 8)),(1,1,.s 97)],n1 2,na 2 95,o1 15])],.sM (rg 101 [om 15,oC 63 [101],oZ 18 [0,0],o2 2 18]),sq [rg 103 [fo 0 18,nB .neq 0],ci 105 (sq [dg 106 [oW [0,0,1,0,7,9,0,0,0,1,7,10,0,0,1,7,10] [],oY g_ [],mM [1,2],ol 2 18,os 17 10 106,os 18 11 107,o2 2 12],.ret])],rg 110 [ol 2 5,ol 17 13,oC 39 [110,111],o1 109,oe 109 0,oe 109 1,oR 19 g_,os 18 19 113,o1 20],dg 115 [ol 17 13,mM [1],ol 18 19,oW [0,0] [],os 17 10 115,os 18 11 116,o2 2 12],.ret]) [.cell 10 aa 17,.cell 11 aa 18,.cell 12 aa 2] 118:=fU func36 ⟨[],[7,8,9,13]⟩
def aa1(op:Int)(Z:ab):aR 37 [.int .i64 op] Z (.bool (lE op)):=by
 refine fq func37 ?_;simp only[aP,am,aT,Nat.reduceAdd]
 by_cases h:1<=op
 .simp only[am,aG h];refine aI ?_;simp[V.erase,lE,h]
 .simp only[am,aD h];refine aI ?_;simp[V.erase,lE,h]
def an7(s:aH)(r:Rm)(c:ar):(jw r c=aa/\c.op≠12/\iQ s r c=[iw s c,iE s c]++[⟨7,c.pos⟩])\/(jw r c=aq/\c.op=12/\r.eg<=1/\iQ s r c=[iw s c,iE s c]++[⟨8,c.pos⟩]) \/
 (jw r c=aq/\c.op=12/\¬r.eg<=1/\iQ s r c=[iw s c,iE s c])\/(jw r c=aq/\c.op≠12/\iQ s r c=[iw s c,iE s c]):=by
 cases hl:jw r c with
 | true =>
  have hp:=YD hl;exact .inl ⟨rfl,hp,by simp[iQ,hl,cY,hp]⟩
 | false =>
  by_cases ia:c.op=12
  .by_cases hf:r.eg<=1
   .exact .inr (.inl ⟨rfl,ia,hf,by simp[iQ,hl,cY,ia,hf]⟩)
   .exact .inr (.inr (.inl ⟨rfl,ia,hf,by simp[iQ,hl,cY,hf]⟩))
  .exact .inr (.inr (.inr ⟨rfl,ia,by simp[iQ,hl,cY,ia]⟩))
def axo{n:Nat}:IntKind.i64.wrap (IntKind.i64.wrap (16384 - (n:Int)) - 1)=IntKind.i64.wrap (16383 - n):=by
 simp[IntKind.wrap,IntKind.signed,IntKind.bits];omega
def as8(s:aH)(r:Rm)(t:List UInt8)(hs:s.tF)(ht:t.length<=1500):
 aR 36 [.agg s.enc,.int .i64 r.bytes,.int .i64 r.fh,.int .i64 r.eg,.aQ t] Z (tz (lV s r t)):=by
 have jL:aJ=268435456:=rfl;have cw:=HC (t:=t) (by omega);have rA:=Rp t;have hm:=Qi t;have cg:=@Hp s r t;have fj:=@Hq s r t;have ku:=@EZ s r t;have cR:=agW t Z (by omega) (by omega);rw[<-aax] at cR;refine aj2.fK ?_;simp only[aP,am,aT,Nat.reduceAdd,aH.al,g_];refine cl cR ?_;generalize dC t=R at cw rA cg fj ku;generalize lV s r t=X at cg fj ku;obtain⟨c,k,a⟩:=R;simp only at cw rA cg fj ku;obtain⟨Y'',hY⟩:∃Y'':dJ,Y''=(if gi s c=aa then jA s c else .zero):=⟨_,rfl⟩;rw[<-hY] at ku;obtain⟨A,hA⟩:∃A:List V,A=Y''.enc:=⟨_,rfl⟩;have aE:=TY Y'';rw[<-hA] at aE;obtain⟨a1,a2,a3,a4,a5⟩:=aE;have a6:a9 A=Y''.enc:=by rw[hA];exact dJ.dW
 have hT:r5 s c = .bw [.agg A,.bool (gi s c)]:=by rw[r5,hA,hY]
 have aO:∀(t:List V) (lo:List (List V)) (f:aM),X=(.zero,.zero,f)->jS (λv σ' => v=tz X/\σ' = Z) ⟨t,lo,Z⟩ (.bw [.agg ij,.agg (dj 0 0 (.sl .aY 10 []) .zero (.sl .aY 10 []) 0 (.sl .aY 10 []) 0 0 []),.agg f.enc]):=λt lo f h=>by
  refine aN (by simp only[V.cS,bK,T6];rfl) (ab.a8 _) ⟨?_,rfl⟩;rw[h,tz];simp only[V.erase,a9,T5];rfl
 simp only[am,Nat.reduceAdd,b9,Gp]
 by_cases hk:k=0
 case neg =>
  simp only[am,Nat.reduceAdd,hH,D3,aD hk,D3];exact aO _ _ ⟨k,a⟩ (cg hk)
 simp only[am,aH.al,b9,aG hk];have h2:=rA.l;have h3:=rA.r;have JR:16*c.wt+128<=aJ:=by
  have h1:=rA.ns;have h4:=rA.nm;have h5:=rA.pt
  have:c.wt=c.name.an.length+fk c.ak+kz c.aX+c.left.wt+c.right.wt:=rfl
  omega
 refine bn.intro (aa0 s c hs cw.n cw.p) ?_;simp only[am,aH.al,b9];refine bn.intro (aaB s c hs.1 (Fp (by omega)) (Fp (by omega)) cw.wl cw.wr) ?_;simp only[am,aM.al,aH.al,b9];refine cl (aa2 c Z JR) ?_;simp only[am,b7];refine cl (aa1 c.op Z) ?_;generalize fX:[s.enc,_,_,_,_,_]=lo;have zy:lo[4]?=U c.enc:=by rw[<-fX];rfl
 obtain⟨B1,WG⟩:∃B1,B1=(lE c.op&&(decide (1024<((dq c).length:Int))||decide (IntKind.i64.wrap (16383 - (dq c).length)<r.bytes))):=⟨_,rfl⟩;obtain⟨B2,WH⟩:∃B2,B2=(B1||(vf c.op&&decide (64<=r.fh))):=⟨_,rfl⟩;have hB3:jw r c=(B2||(decide (c.op=11)&&decide (16<=r.eg))):=by rw[WH,WG,jw]
 apply jn
 .intro J;have hb:=WG;cases hs:lE c.op
  all_goals
   rw[hs] at hb;simp only[am]
  .refine a7.df (t' := [.any,.int .i64 r.bytes,.int .i64 r.fh,.int .i64 r.eg,.any,.ptr (.au 0) 0,.any,.any,.any,.any,.ptr (.au 1) 0,.ptr (.au 2) 0,.ptr (.au 3) 0,.ptr (.au 4) 0,.any,.sl .aY 2 [(iw s c).enc,(iE s c).enc],.any,.bool B1]++aj 100 .any) (l' := lo) (σ' := Z) ?_ ?_ ?_ J.o
   all_goals simp[aj,am,hb,ba]
  cases h1:decide (1024<((dq c).length:Int))
  all_goals
   rw[h1] at hb;simp only[am,axo];refine a7.df (t' := [.any,.int .i64 r.bytes,.int .i64 r.fh,.int .i64 r.eg,.any,.ptr (.au 0) 0,.any,.any,.any,.any,.ptr (.au 1) 0,.ptr (.au 2) 0,.ptr (.au 3) 0,.ptr (.au 4) 0,.any,.sl .aY 2 [(iw s c).enc,(iE s c).enc],.any,.bool B1]++aj 100 .any) (l' := lo) (σ' := Z) ?_ ?_ ?_ J.o
   all_goals simp[aj,am,hb,ba]
 apply jn
 .intro J;have hb:=WH;simp only[am,aj];cases dX:B1
  all_goals
   rw[dX] at hb;simp only[am,b7,zy]
  case' false =>
   by_cases h8:8<=c.op
   case' neg =>
    simp only[am,aD h8];rw[vf,aD h8] at hb
   case' pos =>
    rw[vf,aG h8] at hb
    by_cases eK:c.op<=10
    case' neg =>
     rw[aD eK] at hb;simp only[am,b7,zy,aG h8,aD eK]
    case' pos =>
     rw[aG eK] at hb;simp only[am,b7,zy,aG h8,aG eK]
  all_goals
   refine a7.df (t' := [.any,.int .i64 r.bytes,.int .i64 r.fh,.int .i64 r.eg,.any,.ptr (.au 0) 0,.any,.any,.any,.any,.ptr (.au 1) 0,.ptr (.au 2) 0,.ptr (.au 3) 0,.ptr (.au 4) 0,.any,.sl .aY 2 [(iw s c).enc,(iE s c).enc],.any,.bool B2]++aj 100 .any) (l' := lo) (σ' := Z) ?_ ?_ ?_ J.o
   all_goals simp[aj,am,hb,ba]
 apply jn
 .intro J;have hb:=hB3;simp only[am,aj];cases dX:B2
  all_goals
   rw[dX] at hb;simp only[am,b7,zy]
  case' false =>
   by_cases pR:c.op=11
   case' neg =>
    simp only[am,aD pR];rw[aD pR] at hb
   case' pos =>
    rw[aG pR] at hb;simp only[am,aG pR]
  all_goals
   refine a7.df (t' := [.any,.int .i64 r.bytes,.int .i64 r.fh,.int .i64 r.eg,.any,.ptr (.au 0) 0,.any,.any,.any,.any,.ptr (.au 1) 0,.ptr (.au 2) 0,.ptr (.au 3) 0,.ptr (.au 4) 0,.any,.sl .aY 2 [(iw s c).enc,(iE s c).enc],.any,.bool (jw r c)]++aj 100 .any) (l' := lo) (σ' := Z) ?_ ?_ ?_ J.o
   all_goals simp[aj,am,hb,ba]
 apply jn
 .intro J;simp only[am,aj]
  rcases an7 s r c with ⟨e1,e2,e3⟩ | ⟨e1,e2,e4,e3⟩ | ⟨e1,e2,e4,e3⟩ | ⟨e1,e2,e3⟩
  case' inl =>
   simp only[am,Nat.reduceAdd,b7,zy,e1];refine xD (by simp[aJ]) ?_;simp only[am,b7,zy,aD e2]
  case' inr.inl =>
   simp only[am,Nat.reduceAdd,b7,zy,e1,aG e2,aG e4];refine xD (by simp[aJ]) ?_;simp only[am]
  case' inr.inr.inl =>
   simp only[am,b7,zy,e1,aG e2,aD e4]
  case' inr.inr.inr =>
   simp only[am,b7,zy,e1,aD e2]
  all_goals
   refine a7.df (t' := [.any,.int .i64 r.bytes,.int .i64 r.fh,.int .i64 r.eg,.any,.ptr (.au 0) 0,.any,.any,.any,.any,.ptr (.au 1) 0,.ptr (.au 2) 0,.ptr (.au 3) 0,.ptr (.au 4) 0,.any,.sl .no 2 ((iQ s r c).map aM.enc)]++aj 102 .any) (l' := lo) (σ' := Z) ?_ ?_ ?_ J.o
   all_goals simp[aj,am,e3,ba,aM.enc]
 subst fX;simp only[am,aj];have vD:(iQ s r c).length<=4:=by
  have q1:=@ra (jw r c) 7 c.pos;have q2:=@ra (decide (c.op=12)&&decide (r.eg<=1)) 8 c.pos;simp only[iQ,bL,da,cZ];omega
 have n1:=cw.n;have n2:=cw.p;refine cl (K9 (iQ s r c) Z (by omega)) ?_;have cA:=aap s c (Z:=Z) hs.1 (by omega) (by omega) (Fp (by omega)) (Fp (by omega)) cw.wl cw.wr;rw[hT] at cA;generalize fH (iQ s r c)=f at fj ku;simp only[am,Nat.reduceAdd,aM.al]
 by_cases hf:f.cls=0
 .simp only[am,aH.al,b9,aG hf];refine cl cA ?_;simp only[am,Nat.reduceAdd,b9,hH,a1,a2,a3,a5];refine aN (by simp only[V.cS,bK,a4];rfl) (ab.a8 _) ⟨?_,rfl⟩;rw[ku hk hf,tz];simp only[V.erase,a9,a6];rfl
 .simp only[am,Nat.reduceAdd,aM.al,hH,D3,aD hf,D3];exact aO _ _ f (fj hk hf)
def adG(s:aH)(c:ar)(hs:s.tF)(hn:c.ak.length<=100000)(hp:c.aX.length<=100000):
 aR 40 [.agg s.enc,.agg c.enc] Z (.agg (kJ s c).enc):=by
 have hl:=hs.1.1;have hv:=hs.1.2.1;refine fq func40 ?_;simp only[aP,am,aT,Nat.reduceAdd,aH.al,b9];refine y6 (by simp[aJ];omega) λD aW=>?_
 simp only[am,aF,aH.al,aF];refine y6 (by simp[aJ];omega) λO j_=>?_
 have bf:D≠O:=λe=>by rw[<-e,dD] at j_;simp at j_
 have C4 : Z.aS O=none:=by rw[n_ bf.symm] at j_;exact j_
 have t1:((Z.aU D s.bc.length).aU O s.vars.length).aS D=U s.bc.length:=by rw[n_ bf,dD]
 have same:∀(t:List V) (lo:List (List V)),kJ s c=s->jS (λv σ' => v = .agg (kJ s c).enc/\σ' = Z) ⟨t,lo,(Z.aU D s.bc.length).aU O s.vars.length⟩ (.agg [.sl (.tk D) 3 (s.bc.map eh.enc),.sl (.tk O) 3 (s.vars.map dR.enc)]):=λt lo h=>aN rfl (H9 aW C4) ⟨by rw[h];rfl,rfl⟩
 have ju:(s.bc.map eh.enc).length=s.bc.length:=aF _;have Ke:(s.vars.map dR.enc).length=s.vars.length:=aF _;simp only[am,aF,aF,b7]
 by_cases h1:c.op<1
 .simp only[am,Nat.reduceAdd,aG h1];exact same _ _ (by rw[kJ,aB (show ¬gG c.op=aa by simp[gG];omega),aB (show ¬dw c.op=aa by simp[dw];omega)];simp)
 simp only[am,b7,aD h1]
 by_cases h7:7<c.op
 .simp only[am,Nat.reduceAdd,aG h7];exact same _ _ (by rw[kJ,aB (show ¬gG c.op=aa by simp[gG];omega),aB (show ¬dw c.op=aa by simp[dw];omega)];simp)
 simp only[am,aH.al,b9,aD h7];refine cl (aa0 s c (Z:=(Z.aU D s.bc.length).aU O s.vars.length) hs hn hp) ?_
 by_cases hf:(iw s c).cls=0
 case neg =>
  simp only[am,Nat.reduceAdd,cX,aM.al,hf];exact same _ _ (by rw[kJ,aL hf])
 simp only[am,bu,aM.al,b7,hf]
 by_cases h5:c.op<=5
 .have l5:gG c.op=true:=by simp[gG];omega
  simp only[am,aH.al,b9,bG,aG h5];refine bn.intro (abT s c ((Z.aU D s.bc.length).aU O s.vars.length) hs hn hp) ?_;simp only[am,Nat.reduceAdd,bA.al];refine qz (by rw[ju];simp[aJ];omega) (by rw[ju];exact t1) ?_;simp only[am,Nat.reduceAdd,aF,aF,bG];refine aN rfl (acb aW C4) ⟨?_,rfl⟩;rw[kJ,aB (by simp[hf]),aL l5];simp[V.erase,a9,aH.enc,eh.enc]
 have l5:gG c.op=false:=by simp[gG];omega
 have l2:dw c.op=true:=by simp[dw];omega
 simp only[am,b7,aD h5];obtain⟨w,hw⟩:∃w:aC->dR,∀x,w x=⟨x.an,if c.op=7 then 2 else 1,bW (fD s.bc c.name.an)⟩:=⟨_,λ_=>rfl⟩;obtain⟨Q,hQ⟩:∃Q:Nat->List dR,∀i,Q i=s.vars++(c.ak.take i).map w:=⟨_,λ_=>rfl⟩;have mC:Q 0=s.vars:=by rw[hQ];simp
 have nw:(⟨s.bc,Q c.ak.length⟩:aH)=kJ s c:=by
  rw[kJ,aB (by simp[hf]),aB (by simp[l5]),aL l2,hQ,du];rw[funext hw]
 by_cases e7:c.op=7
 case' pos=>simp only[am,aG e7]
 case' neg=>simp only[am,aD e7]
 all_goals
  refine ch (c.ak.length) (λi (x:Unit)=>⟨[.any,.any,.ptr (.au 0) 0,.ptr (.au 1) 0,.ptr (.au 2) 0,.ptr (.au 3) 0,.int .i64 (if c.op=7 then 2 else 1),.int .i64 (i:Nat)]++aj 73 .any,[s.enc,c.enc,[.sl .aY 3 [],.sl .aY 3 []],[.sl (.tk D) 3 (s.bc.map eh.enc),.sl (.tk O) 3 (uS (Q i))]],(Z.aU D s.bc.length).aU O (Q i).length⟩) (λi x=>(True)) λF hF JF aZ=>⟨?_,?_,?_⟩
  .refine en aZ (()) (trivial) ?_ ?_ ?_
   all_goals simp[hF,aj,am,ba,e7,mC,uS]
  .rintro i x hi -;have kt:Q (i+1)=Q i++[w c.ak[i]]:=by rw[hQ,hQ,iB hi,gm,eY];rfl
   have sb:(Q i).length+1<=300000:=by rw[hQ];simp only[bL,aF,o8];omega
   have hlen:(uS (Q i)).length=(Q i).length:=acw;have Cv:(Q (i+1)).length=(Q i).length+1:=by rw[kt];simp
   simp only[hF,aj,am,cf hi,aF,bG];refine ix (sO hi) ?_;simp only[am,aH.al,rU,bG];refine bn.intro (Bt s c.name.an _ hl) ?_;simp only[am,Nat.reduceAdd];refine qz (by rw[hlen];simp[aJ];omega) (by rw[hlen];exact dD) ?_;rw[hlen];simp only[am,aK,rU,bG,dU,bt hi,eZ];rw[show [V.aQ c.ak[i].an,V.int .i64 (if c.op=7 then 2 else 1),V.int .i64 (bW (fD s.bc c.name.an))]=(w c.ak[i]).enc by rw[hw];rfl,<-acv,<-kt,<-Cv];refine c7 (()) hi ?_ ?_ ?_ ?_ ?_ ?_
   .exact fF (aZ _ _) (trivial)
   all_goals simp[hF,aj,am,ba,bE,cn,V.lo,aH.bR,ar.enc,ar.cJ]
  .rintro x -;simp only[hF,aj,am,aK,ck,Nat.reduceAdd,aK,aF,bG];refine aN rfl (H9 aW C4) ⟨?_,rfl⟩;rw[<-nw];rfl
def kP(g:List ar):List (List V):=g.map ar.enc
def wC(W:List (List ar)):List (List V):=W.map λg=>[.sl .no 17 (kP g)]
variable{W:List (List ar)}
def awn{j:Nat}(h:j<W.length):(wC W)[((j:Nat):Int).toNat]?=U [.sl .no 17 (kP W[j])]:=by simp[wC,h]
variable{g:List ar}
def I4{j:Nat}(h:j<g.length):(kP g)[((j:Nat):Int).toNat]?=U g[j].enc:=by simp[kP,h]
def vh:(kP g).length=g.length:=aF _
def xo:(wC W).length=W.length:=aF _
def agi{h:List ar}:kP g++kP h=kP (g++h):=by simp[kP]
def A0{i:Nat}(h:i<W.length):(W.take (i+1)).flatten=(W.take i).flatten++W[i]:=by rw[iB h];simp only[u0,lj,FU,eC]
def as_(Z:ab):aR 16 [] Z (.agg [.sl .no 1 (wC [[]])]):=by
 refine fq func16 ?_;simp only[aP,am,aT,Nat.reduceAdd];exact aN rfl (ab.a8 _) ⟨rfl,rfl⟩
def YN(W:List (List ar))(Z:ab)(h1:W.length<=100000)(h2:W.flatten.length<=100000):aR 38 [.agg [.sl .no 1 (wC W)]] Z (.sl .no 17 (kP W.flatten)):=by
 refine fq func38 ?_;simp only[aP,am,aT,Nat.reduceAdd];refine ch (W.length) (λi (D:Nat)=>⟨[.any,.ptr (.au 0) 0,.any,.sl (.tk D) 17 (kP (W.take i).flatten),.int .i64 (i:Nat)]++aj 15 .any,[[.sl .no 1 (wC W)]],Z.aU D (W.take i).flatten.length⟩) (λi D=>(Z.aS D=ah)) λF hF JF aZ=>⟨?_,?_,?_⟩
 .refine xP 0 λD aW=>⟨D,fF (aZ _ _) aW,?_,?_,?_⟩
  all_goals simp[hF,aj,ji,kP]
 .rintro i D hi aW;have hn:(W.take i).flatten.length+W[i].length<=100000:=by
   have:=mf (λx:List (List ar)=>x.flatten.length) (u_ (i+1) W)
   simp only[u0,bL] at this;rw[A0 hi,bL] at this;omega
  simp only[hF,aj,am,cf hi,xo];refine ix (awn hi) ?_;simp only[am];refine fg (by rw[vh,vh];simp only[aJ];omega) (by rw[vh];exact dD) ?_;rw[agi,vh,vh,<-bL,<-A0 hi];simp only[am,aK,dU,bt hi];refine c7 (D) hi ?_ ?_ ?_ ?_ ?_ ?_
  .exact fF (aZ _ _) (aW)
  all_goals simp[hF,aj,am,ba,bE,cn,V.lo]
 .rintro D aW;simp only[hF,aj,am,aK,ck,aK,du,xo];exact aN rfl (gV aW) ⟨rfl,rfl⟩
def aaG(W:List (List ar))(Z:ab)(h1:W.length<=100000)(h2:W.flatten.length<=100000)(hw:∀c∈W.flatten,16*c.wt+128<=aJ):aR 22 [.agg [.sl .no 1 (wC W)]] Z (.sl .no 1 (cu (W.flatten.map dq))):=by
 refine fq func22 ?_;simp only[aP,am,aT,Nat.reduceAdd];refine cl (YN W Z h1 h2) ?_;generalize W.flatten=l at h2 hw;simp only[am];refine ch (l.length) (λi (D:Nat)=>⟨[.any,.ptr (.au 0) 0,.any,.sl (.tk D) 1 (cu ((l.map dq).take i)),.sl .no 17 (kP l),.int .i64 (i:Nat)]++aj 17 .any,[[.sl .no 1 (wC W)]],Z.aU D i⟩) (λi D=>(Z.aS D=ah)) λF hF JF aZ=>⟨?_,?_,?_⟩
 .refine xP 0 λD aW=>⟨D,fF (aZ _ _) aW,?_,?_,?_⟩
  all_goals simp[hF,aj,ji,cu]
 .rintro i D hi aW;have hlen:(cu ((l.map dq).take i)).length=i:=by rw[gk,o8,aF];omega
  have hs:cu ((l.map dq).take (i+1))=cu ((l.map dq).take i)++[[.aQ (dq l[i])]]:=by rw[iB (by simpa using hi)];simp only[cu,gm,cQ,fp,B_]
  simp only[hF,aj,am,cf hi,vh];refine ix (I4 hi) ?_;simp only[am,b9];refine cl (aa2 l[i] (Z.aU D i) (hw _ (dQ hi))) ?_;simp only[am];refine fg (by rw[hlen];simp[aJ];omega) (by rw[hlen];exact dD) ?_;rw[hlen];simp only[am,aK,dU,bt hi,eZ];refine c7 (D) hi ?_ ?_ ?_ ?_ ?_ ?_
  .exact fF (aZ _ _) (aW)
  all_goals simp[hF,aj,am,ba,bE,cn,V.lo,hs]
 .rintro D aW;simp only[hF,aj,am,aK,ck,aK,vh,show(l.map dq).take l.length=l.map dq by have:=du (l:=l.map dq);rwa [aF] at this];exact aN rfl (gV aW) ⟨rfl,rfl⟩
def aa3(W:List (List ar))(Z:ab)(h1:W.length<=100000)(h2:W.flatten.length<=100000)(hw:∀c∈W.flatten,16*c.wt+128<=aJ)(hl:mu (W.flatten.map dq)<=1000000) :
 aR 19 [.agg [.sl .no 1 (wC W)]] Z (.aQ (qp (W.flatten.map dq))):=by
 refine fq func19 ?_;simp only[aP,am,aT,Nat.reduceAdd];refine cl (aaG W Z h1 h2 hw) ?_;generalize W.flatten.map dq=l at hl;have CP:=@Di l;simp only[am];refine ch (l.length) (λi (x:Unit)=>⟨[.any,.ptr (.au 0) 0,.any,.aQ (qp (l.take i)),.sl .no 1 (cu l),.int .i64 (i:Nat)]++aj 16 .any,[[.sl .no 1 (wC W)]],Z⟩) (λi x=>(True)) λF hF JF aZ=>⟨?_,?_,?_⟩
 .refine en aZ (()) (trivial) ?_ ?_ ?_
  all_goals simp[hF,aj,am,ba,qp]
 .rintro i x hi -;have hn:=@YV l (i+1);rw[<-Ib,Lq hi] at hn;simp only[bL,da,cZ] at hn;simp only[hF,aj,am,cf hi,gk];refine ix (Dc hi) ?_;simp only[am,aK];refine⟨by simp only[aJ];omega,by simp only[aJ,bL,da,cZ];omega,?_⟩;simp only[bt hi];rw[<-Lq hi];refine c7 (()) hi ?_ ?_ ?_ ?_ ?_ ?_
  .exact fF (aZ _ _) (trivial)
  all_goals simp[hF,aj,am,ba,bE,cn,V.lo]
 .rintro x -;simp only[hF,aj,am,aK,ck,aK,gk,du];exact aN rfl (ab.a8 _) ⟨rfl,rfl⟩
structure CW(c:ar):Prop where
 k:Mk c
 w:16*c.wt+128<=aJ
 l:c.left.wt<=39990
 r:c.right.wt<=39990
variable{t:List UInt8}
def ag0(ht:t.length<=1500):CW (dC t).1:=by
 have rA:=Rp t;have hk:=HC (t:=t) (by omega);generalize (dC t).1=c at rA hk;have h2:=rA.l;have h3:=rA.r;have h1:=rA.ns;have h4:=rA.nm;have h5:=rA.pt
 have:c.wt=c.name.an.length+fk c.ak+kz c.aX+c.left.wt+c.right.wt:=rfl
 exact⟨hk,by simp only[aJ];omega,by omega,by omega⟩
def aaW(W:List (List ar))(Z:ab)(h1:W.length<=100000)(h2:W.flatten.length<=100000)(hk:∀c∈W.flatten,CW c)(hp:∀i,(nW .zero (W.flatten.take i)).ok) :
 aR 18 [.agg [.sl .no 1 (wC W)]] Z (.agg (lZ (nW .zero W.flatten))):=by
 refine fq func18 ?_;simp only[aP,am,aT,Nat.reduceAdd];refine cl (YN W Z h1 h2) ?_;generalize W.flatten=l at h2 hk hp;obtain⟨Q,hQ⟩:∃Q:Nat->Lv,∀i,Q i=nW .zero (l.take i):=⟨_,λ_=>rfl⟩;have mC:Q 0 = .zero:=by rw[hQ];rfl
 have nw:Q l.length=nW .zero l:=by rw[hQ,du]
 have kt:∀{i:Nat} (hi:i<l.length),Q (i+1)=v8 (Q i) l[i]:=λhi=>by rw[hQ,hQ,iB hi,YM]
 have hQo:∀i,(Q i).ok:=λi=>by rw[hQ];exact hp i
 simp only[am];refine ch (l.length) (λi (D:Nat)=>⟨[.any,.ptr (.au 0) 0,.ptr (.au 1) 0,.ptr (.au 2) 0,.sl .no 17 (kP l),.int .i64 (i:Nat)]++aj 36 .any,[[.sl .no 1 (wC W)],[.sl .aY 3 [],.sl .aY 3 [],.sl .aY 18 []],[.sl .no 3 ((Q i).fP.bc.map eh.enc),.sl .no 3 ((Q i).fP.vars.map dR.enc),.sl (.tk D) 18 (ub (Q i).fh)]],Z.aU D (Q i).fh.length⟩) (λi D=>(Z.aS D=ah)) λF hF JF aZ=>⟨?_,?_,?_⟩
 .refine Cp 0 λD aW=>⟨D,fF (aZ _ _) aW,?_,?_,?_⟩
  all_goals simp[hF,aj,ji,De,mC,ub,Lv.zero]
  exact km.le dv.no
 .rintro i D hi aW;have hc:=hk _ (dQ hi);have ho:=hQo i;have hm:=ho.m;have hlen:(ub (Q i).fh).length=(Q i).fh.length:=TW;have JP:=hc.k.n;have Ok:=hc.k.p;have ca:=aap (Q i).fP l[i] (Z:=Z.aU D (Q i).fh.length) ho.s.1 (by simp only[aJ];omega) (by simp only[aJ];omega) (Fp hc.l) (Fp hc.r) hc.k.wl hc.k.wr;obtain⟨Y'',hY⟩:∃Y'':dJ,Y''=(if gi (Q i).fP l[i]=aa then jA (Q i).fP l[i] else .zero):=⟨_,rfl⟩;obtain⟨A,hA⟩:∃A:List V,A=Y''.enc:=⟨_,rfl⟩;have aE:=TY Y'';rw[<-hA] at aE;obtain⟨a1,a2,a3,a4,a5⟩:=aE;have a6:a9 A=Y''.enc:=by rw[hA];exact dJ.dW
  rw[r5,<-hY,<-hA] at ca;have cb:=adG (Q i).fP l[i] (Z:=Z.aU D (Q (i+1)).fh.length) ho.s JP Ok;simp only[hF,aj,am,cf hi,Nat.reduceAdd,bu,Nat.reduceLT,vh];refine ix (I4 hi) ?_;simp only[am,b9];refine bn.intro (ca) ?_;simp only[am,Nat.reduceAdd,a1,a3];cases hx:gi (Q i).fP l[i] with
  | true =>
   have hw:=au' hx;rw[<-kt hi] at hw;have hn2:(Q (i+1)).fh.length=(Q i).fh.length+1:=by rw[hw.2];simp
   rw[<-hw.1] at cb;have eQ:ub (Q i).fh++[Y''.enc]=ub (Q (i+1)).fh:=by rw[hw.2,TV,hY,aL hx]
   simp only[am,a1,a2,a3,a4];refine fg (by rw[hlen];simp only[aJ,eZ];omega) (by rw[hlen];exact dD) ?_;rw[hlen,a6,eQ];simp only[am,dU,eZ];rw[<-hn2];refine ix (I4 hi) ?_;simp only[am,b9];refine bn.intro (cb) ?_;simp only[am,aK,aH.al,RU,bt hi];refine c7 (D) hi ?_ ?_ ?_ ?_ ?_ ?_
   .exact fF (aZ _ _) (aW)
   all_goals simp[hF,aj,am,ba,bE,cn,V.lo]
  | false =>
   have hw:=ava hx;rw[<-kt hi] at hw;rw[<-hw.1,hw.2] at cb;simp only[am];refine ix (I4 hi) ?_;simp only[am,b9];refine bn.intro (cb) ?_;simp only[am,aK,aH.al,RU,bt hi];refine c7 (D) hi ?_ ?_ ?_ ?_ ?_ ?_
   .exact fF (aZ _ _) (aW)
   all_goals simp[hF,aj,am,ba,bE,cn,V.lo,hw.2]
 .rintro D aW;simp only[hF,aj,am,aK,ck,Nat.reduceAdd,aK,nw,vh];exact aN rfl (gV aW) ⟨rfl,rfl⟩
def agl:FP .zero:=⟨by simp[ar.zero],by simp[ar.zero],by simp[ar.zero,Nd.zero,Nd.wt,fk,gd,aJ],by simp[ar.zero,Nd.zero,Nd.wt,fk,gd,aJ]⟩
def YE{s:gw}(ht:t.length<=3000):FP (fc s t).1/\AF (fc s t).2.1:=by
 by_cases h:(fc s t).2.2.cls=0
 .obtain⟨h1,h2,-⟩:=Qh ht h;have jL:aJ=268435456:=rfl;have n1:=h1.n;have n2:=h1.p;exact⟨⟨by omega,by omega,h1.wl,h1.wr⟩,h2⟩
 .have z:FP .zero/\AF .zero:=⟨agl,⟨by simp[dJ.zero],by simp[dJ.zero,fJ.zero],by simp[dJ.zero,fJ.zero]⟩⟩;rw[fc] at h ⊢
  by_cases hr:(dC t).2.1=0
  .by_cases hf:(fH (iQ s.live.fP (mQ s) (dC t).1)).cls=0
   .rw[EZ hr hf] at h;exact absurd rfl h
   .rw[Hq hr hf];exact z
  .rw[Hp hr];exact z
def ajF:fm prog 17 (sq [rg 0 [ox 2 1 0,oZ 4 [6],oR 5 s4],rg 13 [ol 1 2,oC 18 [13],oZ 6 [8,8,23],o2 3 6],dA 16 [7,8,9] [of 0 6,mM [1],nl 2,ol 1 2,oC 19 [18],nT,of 2 6,mM [0],no,nL,of 0 2,mM [0],no,nL,om 1,oC 36 [17,20,23,26,27],o1 15,oe 15 0,oe 15 1,oe 15 2,oN,oN,oN,oX 7 17 29,oX 8 18 30,oX 9 2 31],rg 32 [ol 17 7,ol 18 8,ol 2 9,oY s4 [(0,17,.s 32),(17,18,.s 33),(35,2,.s 34)],oR 10 s4,o2 37 10],sq [rg 36 [fo 0 9,nB .neq 0],ci 38 (sq [dg 39 [ol 1 2,mM [1],ol 37 10,os 1 4 39,o2 37 5],.ret])],rg 41 [fo 0 2,nL,o1 11],rg 44 [oO (.new 1) [],fo 0 2,oO (.app 1) [44,46],oW [6] [(0,1,47)],oZ 12 [6],o2 1 12],sq [rg 49 [fo 0 7,oC 37 [50]],ci 51 (.sM (dg 52 [of 0 12,mM [1,2],no,om 11,nB .sub 1,oq (.pd 17 []),fo 0 12,om 11,nB .sub 1,nA 1 58,no,na 17 56,mM [0],ol 17 7,n1 17,na 17 63,oA 1 53 55,os 1 67 66]))],sq [rg 68 [fo 0 7,nB .eql 11],ci 70 (rg 71 [fo 0 12,oq (.pd 1 [(.c (.sl .aY 17 []))]),oO (.app 1) [72,73],of 0 12,os 1 75 74])],sq [rg 76 [fo 0 7,nB .eql 12],ci 78 (rg 79 [fo 0 12,om 11,nB .sub 1,oO (.qZ 1 aq aa aq) [80,82],of 0 12,os 1 84 83])],.sM (dg 85 [ol 1 12,mM [1],ol 37 10,os 1 4 85,o2 37 5]),.ret]) [.cell 4 aa 1,.cell 5 aa 37] 87:=fU func17 ⟨[47,74,83,100044],[9,14]⟩
structure RW(W:List (List ar))(S:gw):Prop where
 e:tO W=U S
 k:∀c∈W.flatten,CW c
 p:∀i,(nW .zero (W.flatten.take i)).ok
 o:S.ok
section
variable {a:Option Addr} {n m:Nat}
theorem at1:(V.raw (.slice a n m)).wd=U 1:=rfl
theorem atW:(V.raw (.slice a n m)).cells=[V.raw (.slice a n m)]:=rfl
theorem atZ:(V.raw (.slice a n m)).one=true:=rfl
theorem atY:(V.raw (.slice a n m)).cS=true:=rfl
theorem atX:(V.raw (.slice a n m)).erase=V.raw (.slice a n m):=rfl
def RM:=ag @at1 <| ag @atW <| ag @atZ <| ag @atY @atX
end
def YO{u v:V}(h:dv u v):∀{cs:List V} {n:Nat},c_ (setAt cs n [u]) (setAt cs n [v])
 | [],0=>c_.rfl
 | [],_+1=>c_.rfl
 | x::cs,0=>by rw[mT,mT,yo,yo];exact⟨h,c_.rfl⟩
 | x::cs,n+1=>by rw[mz,mz];exact⟨dv.rfl,YO h⟩
def awo:bK (wC W).flatten=true:=by
 induction W with
 | nil=>rfl
 | cons g W ih=>simp only[wC,cQ,lj,gY,gK,bK] at ih ⊢;rw[ih];rfl
def NL(x:ar × dJ × aM):List V:=gy x.1.enc x.2.1.enc x.2.2.enc
def axP:=ag @am <| ag @cX <| ag @iM @rh
variable{S:gw}
def asQ(h:RW W S)(t:List UInt8)(Z:ab)(ht:t.length<=1500):
 aR 17 [.agg [.sl .no 1 (wC W)],.aQ t] Z (.bw [.agg [.sl .no 1 (wC (if (fc S t).2.2.cls=0 then pN W (fc S t).1 else W))],.agg (NL (fc S t))]):=by
 obtain⟨GA,hS2⟩:=Ln _ rfl h.e;have hof:=h.o.n;have Bj:=h.o.l;have hW1:W.length<=16:=by omega
 have OF:S.live.lines=W.flatten.map dq:=by rw[GA,Qk];rfl
 have hlen:W.flatten.length<=16384:=by
  have:=@Di S.live.lines
  have:=Bj.t
  have e:S.live.lines.length=W.flatten.length:=by rw[OF,aF]
  omega
 have cP:=aaW W Z (by omega) (by omega) h.k h.p;rw[<-GA] at cP;have cT:=aa3 W Z (by omega) (by omega) (λc hc=>(h.k c hc).w) (by rw[<-OF];have:=Bj.t;omega);have cL:=as8 S.live.fP (mQ S) t (Z:=Z) Bj.s ht;have eb:(mQ S).bytes=((qp (W.flatten.map dq)).length:Nat):=by rw[Ib,<-OF];exact Bj.b
 have ef:(mQ S).eg=(W.length:Nat):=by rw[<-hS2];simp[mQ]
 rw[eb,ef,show lV S.live.fP (mQ S) t=fc S t from rfl] at cL;obtain⟨w1,w2⟩:=YE (s:=S) (t:=t) (by omega);have Xk:(fc S t).2.2.cls=0->(fc S t).1.op=12->S.eg≠[]:=λhf=>by
  obtain⟨e1,_,_,_,_,_,e7⟩:=Hr hf;exact λia e=>e7 ⟨by rw[fc,e1] at ia;exact ia,by simp[mQ,e]⟩
 generalize fc S t=X at cL w1 w2 Xk;obtain⟨c,x,f⟩:=X;simp only[tz,NL] at cL w1 w2 Xk ⊢;rw[show(mQ S).fh=(S.live.fh.length:Nat) from rfl] at cL;have lc:c.enc.length=17:=rfl;have lx:x.enc.length=18:=rk;have lf:f.enc.length=2:=rfl;have g1:=akW lc;have g2:=λr=>akX (c:=r) lc lx
 have g3:=λu v=>akY (x:=u) (y:=v) lc lx lf
 have g4:∀{b r:List V},(gy c.enc b r).drop 17=b++r:=NH lc;have g5:=λr=>Wo (c:=r) lc lx
 have g6:=Wq lc lx lf;have g7:=ak3 lc lx lf;have g8:=Jw lc lx lf;have g9:c8 (gy c.enc x.enc f.enc)=true:=Wp rfl (IQ x) rfl;have gn:bK (gy c.enc x.enc f.enc)=true:=ak0 rfl dJ.dT rfl;have ge:a9 (gy c.enc x.enc f.enc)=gy c.enc x.enc f.enc:=akZ rfl dJ.dW rfl;have h1:cB 17 s4=true:=rfl;have h2:cB 18 (g_++[V.int .i64 0,V.int .i64 0])=true:=rfl;have h3:cB 37 s4=true:=rfl;refine ajF.fK ?_;simp only[aP,am,aT,Nat.reduceAdd];refine cl cP ?_;simp only[am,Nat.reduceAdd,bu,Nat.reduceLT,lZ];refine bn.intro (cT) ?_;simp only[am,aF,aF,xo];refine bn.intro (cL) ?_;simp only[am,Nat.reduceAdd,aM.al,b9,lK,g1,g2,g3,g4,g5,g6,g8,g9,h1,h2,h3]
 by_cases hf:f.cls=0
 case neg =>
  simp only[am,cX,hf,g6,g7,g8,g9,h3];exact aN (by simp only[V.cS,bK,gn];rfl) (ab.a8 _) ⟨by simp only[V.erase,a9,ge],rfl⟩
 simp only[am,jo,bu,hf];refine fI.aph λv0 dx hO0 hS0=>?_
 simp only[am,jo];refine fI.app hO0 (λr hr=>by simp only[wC,AE] at hr;obtain⟨g,_,rfl⟩:=hr;rfl) awo (by rw[xo];simp only[aJ,cZ];omega) λv1 bx A6 hF1=>?_
 rw[gK] at A6;have zn := hS0.step hF1;obtain⟨a1,k1,rfl,-⟩:=id A6;simp only[am,Nat.reduceAdd,b7,xo,RM];refine cl (aa1 c.op _) ?_;rw[xo] at A6 zn;have vG:1<=W.length:=by omega
 have LM:∀V:List (List ar),c8 (wC V).flatten=true:=λV=>by
  induction V with
  | nil=>rfl
  | cons g V ih=>simp only[wC,cQ,lj,gY,gK,c8] at ih ⊢;rw[ih];rfl
 cases fM:lE c.op with
 | false =>
  simp only[am,b7]
  by_cases pR:c.op=11
  .simp only[am,jo,bu,pR];refine fI.app A6 (λr hr=>by simp at hr;subst hr;rfl) (by rfl) (by rw[xo];simp only[aJ,da,cZ];omega) λv2 gl mh bV=>?_
   have N4 := zn.step bV;rw[show wC W++[[V.sl Tk.no 17 []]]=wC (pN W c) by rw[pN,fM,aB (by simp),aL pR];simp[wC,kP]] at mh;obtain⟨a2,k2,rfl,-⟩:=id mh;simp only[am,b7,RM,aD (show ¬c.op=12 by omega)];refine a7.Jq (t' := [.any,.any,.any,.any,.ptr (.au 1) 0,.ptr (.au 2) 0,.any,.any,.any,.any,.ptr (.au 7) 0,.any,.ptr (.au 8) 0]++aj 74 .any) (l' := [[.sl .no 1 (wC W)],[.sl .aY 1 []],s4,lZ S.live,c.enc,x.enc,f.enc,gy c.enc x.enc f.enc,[.sl .no 1 (wC (pN W c))]]) mh (LM _) ?_ ?_ λσ' C3 => ?_
   .simp[Gu,aj]
   .simp[Jr,lZ]
   simp only[am,g6,g7,g8,g9,h3,aj];exact aN (by simp only[V.cS,bK,gn];rfl) (C3 Z N4) ⟨by simp only[V.erase,a9,ge],rfl⟩
  by_cases ia:c.op=12
  .have jO:IntKind.i64.wrap ((W.length:Int) - 1)=((W.length - 1:Nat):Int):=by rw[wrap_i64];omega
   have hd:(wC W).take (W.length - 1)=wC (pN W c):=by rw[pN,fM,aB (by simp),aB pR,aL ia];simp[wC,adk,Mc]
   simp only[z0_,Int.reduceEq,b7,ia,jO];refine fI.take (m:=W.length - 1) A6 (by omega) (by simp) (by rw[xo];omega) λv2 mh hB=>?_
   have N4 : sT Z bx v2:=⟨zn.sub,λb hb=>zn.new b (by rw[<-hB];exact hb)⟩;rw[hd] at mh;obtain⟨a2,k2,rfl,-⟩:=id mh;simp only[am,RM];refine a7.Jq (t' := [.any,.any,.any,.any,.ptr (.au 1) 0,.ptr (.au 2) 0,.any,.any,.any,.any,.ptr (.au 7) 0,.any,.ptr (.au 8) 0]++aj 74 .any) (l' := [[.sl .no 1 (wC W)],[.sl .aY 1 []],s4,lZ S.live,c.enc,x.enc,f.enc,gy c.enc x.enc f.enc,[.sl .no 1 (wC (pN W c))]]) mh (LM _) ?_ ?_ λσ' C3 => ?_
   .simp[Gu,aj]
   .simp[Jr,lZ]
   simp only[am,g6,g7,g8,g9,h3,aj];exact aN (by simp only[V.cS,bK,gn];rfl) (C3 Z N4) ⟨by simp only[V.erase,a9,ge],rfl⟩
  simp only[am,cX,b7,pR,ia];refine a7.Jq (rows:=wC W) (t' := [.any,.any,.any,.any,.ptr (.au 1) 0,.ptr (.au 2) 0,.any,.any,.any,.any,.ptr (.au 7) 0,.any,.ptr (.au 8) 0]++aj 74 .any) (l' := [[.sl .no 1 (wC W)],[.sl .aY 1 []],s4,lZ S.live,c.enc,x.enc,f.enc,gy c.enc x.enc f.enc,[.sl .no 1 (wC W)]]) A6 (LM _) ?_ ?_ λσ' C3 => ?_
  .simp[Gu,aj]
  .simp[Jr,lZ]
  simp only[am,g6,g7,g8,g9,h3,aj];exact aN (by simp only[V.cS,bK,gn];rfl) (C3 Z zn) ⟨by simp only[V.erase,a9,ge];rw[pN,fM,aB (by simp),aB pR,aB ia],rfl⟩
 | true =>
  have pR:¬c.op=11:=λe=>by simp[lE,e] at fM
  have ia:¬c.op=12:=λe=>by simp[lE,e] at fM
  have jO:IntKind.i64.wrap ((W.length:Int) - 1)=((W.length - 1:Nat):Int):=by rw[wrap_i64];omega
  have az:W.length - 1<W.length:=by omega
  obtain⟨a,cap,e0,q1,q2,q3⟩:=id A6;rw[xo] at q1 e0
  rcases q3 with q3 | ⟨b,cs,rfl,q4,q5,q6⟩
  .omega
  obtain⟨rfl,rfl⟩:a1=U ⟨b,0,ah⟩/\k1=cap:=by simpa using e0
  have s6:cs.drop (W.length - 1) = .sl .no 17 (kP (W[W.length - 1]'az))::cs.drop W.length:=by
   have e1:cs[W.length - 1]?=U (.sl .no 17 (kP (W[W.length - 1]'az))):=by
    rw[xo,rh] at q6
    have:(cs.take W.length)[W.length - 1]?=cs[W.length - 1]?:=Th az
    rw[<-this,q6]
    have:∀{V:List (List ar)} {j:Nat} (hj:j<V.length),(wC V).flatten[j]?=U (.sl .no 17 (kP V[j])):=by
     intro V;induction V with
     | nil=>intro j hj;simp at hj
     | cons g V ih =>
      intro j hj;cases j with
      | zero=>rfl
      | succ j=>exact ih (by simpa using hj)
    exact this az
   obtain⟨e2,e3⟩:=kG.1 e1;rw[mb e2,e3];congr 1;rw[show W.length - 1+1=W.length by omega]
  have hWl:(W[W.length - 1]'az).length<=W.flatten.length:=by
   have:=mf (λx:List (List ar)=>x.flatten.length) (u_ (W.length - 1) W)
   rw[mb az] at this;simp only[u0,lj,bL] at this;omega
  simp only[am];refine a7.apk λD aW=>?_
  simp only[am,jO];refine Pc (by simp) (by omega) ?_;simp only[am,iM,rh,q4,s6];refine TU (D:=D) (by rw[vh];simp only[aJ,cZ];omega) dD ?_;rw[gK,cZ,mc];simp only[am,b9,dU];refine qz (by rw[vh];simp only[aJ,eZ];omega) (by rw[vh];exact dD) ?_;simp only[am,dU];refine Pc (by simp) (by omega) ?_;simp only[axP,b9,b7,q4,s6,pR,ia];obtain⟨m,hm⟩:∃m,m=(kP (W[W.length - 1]'az)).length+1:=⟨_,rfl⟩;rw[<-hm];refine(a7.df (K:=λs=>s=⟨_,_,(bx.aU D m).set b (setAt cs (W.length - 1) [.sl .no 17 (kP (W[W.length - 1]'az)++[c.enc])])⟩) c_.rfl bX.rfl (bp.set (YO dv.no)) rfl).bind ?_;rintro _ rfl;have JE:sT Z (bx.aU D m) (V.raw (.slice (U ⟨b,0,ah⟩) W.length k1)):=⟨⟨zn.sub.1,λu n hu=>by
   have h1:=zn.sub.2.1 u n hu
   have:u≠D:=λe=>by rw[e,aW] at h1;simp at h1
   rw[n_ this];exact h1,zn.sub.2.2⟩,zn.new⟩
  have hj:(wC W)[W.length - 1]?=U [.sl .no 17 (kP (W[W.length - 1]'az))]:=by simp[wC,az]
  obtain⟨mh,bV⟩:=fI.put (Z:=bx.aU D m) (off:=0) (x:=[.sl .no 17 (kP (W[W.length - 1]'az)++[c.enc])]) (A6.frame λb' cs' _ h=>h) hj rfl q4 (by simp);rw[rh,yS] at mh bV;have hdw:(wC W).set (W.length - 1) (setAt [V.sl .no 17 (kP (W[W.length - 1]'az))] 0 [.sl .no 17 (kP (W[W.length - 1]'az)++[c.enc])])=wC (pN W c):=by
   obtain⟨V,g,rfl⟩:=(B7 W).resolve_left (λe=>by rw[e] at vG;simp at vG);simp[pN,fM,wC,kP,setAt,over]
  rw[hdw] at mh;refine a7.Jq (t' := [.any,.any,.any,.any,.ptr (.au 1) 0,.ptr (.au 2) 0,.any,.any,.any,.any,.ptr (.au 7) 0,.any,.ptr (.au 8) 0]++aj 74 .any) (l' := [[.sl .no 1 (wC W)],[.sl .aY 1 []],s4,lZ S.live,c.enc,x.enc,f.enc,gy c.enc x.enc f.enc,[.sl .no 1 (wC (pN W c))]]) mh (LM _) ?_ ?_ λσ' C3 => ?_
  .simp[Gu,aj]
  .simp[Jr,lZ]
  simp only[am,g6,g7,g8,g9,h3,aj];exact aN (by simp only[V.cS,bK,gn];rfl) (C3 Z (JE.step bV)) ⟨by simp only[V.erase,a9,ge],rfl⟩
def fn4:fm prog 4 (sq [rg 2 [oz 2],sq [rg 13 [om 0,oC 8 [13]],cr 14 15 [oC 9 [],o1 2]],rg 16 [oC 10 [],oC 16 [],oZ 4 [6],ot 3 16,o2 1 4],sq [rg 18 [om 0,nL,oi 0],lp 19 0 (sq [rg 22 [oA 1 18 20,no,o1 6],rg 25 [om 3,om 6,oC 12 [25,26],o1 24,oe 24 0,oe 24 1,oe 24 2,oZ 7 [0,0,1,0,7,9,0,0,0,1,7,10,0,0,1,7,10],oR 8 g_,oZ 9 [0,0],os 17 7 28,os 18 8 29,o2 2 9],rg 32 [ol 1 4,om 6,oC 17 [32,33],o1 31,oe 31 0,oe 31 1,oZ 10 [6],oR 11 s4,os 1 10 35,o2 37 11],rg 37 [ol 1 10,o2 1 4],sq [rg 38 [ol 17 7,of 0 11,nl 17,oC 13 [38,40],nn,gB,ol 18 8,of 17 11,nl 18,oC 14 [44,46],nn,gZ,gB,ol 2 9,of 35 11,nl 2,oq (.lr aa [1,1] (.s 51) (.s 53)),gZ],cr 55 2 [oz 2]],rg 56 [ol 1 4,oC 18 [56],oZ 12 [8,8,23],o2 3 12],dg 58 [om 3,oC 11 [58],mM [0],ol 1 4,oC 19 [60],nE .neq 59,gB,om 3,oC 21 [64],mM [2],ol 1 4,oC 22 [66],oC 20 [65,67],nn,gZ,gB,om 3,oC 15 [72],mM [5],ol 1 4,oC 19 [74],nT,of 2 12,mM [5,6],no,nL,of 0 4,mM [5,6],no,nL,oW [0,0,0] [(0,1,76),(1,1,79),(2,1,82)],oq (.lr aa [1,1,1] (.s 73) (.s 83)),gZ,gB,om 3,oC 24 [87],mM [7],ol 3 12,oC 23 [88,89],nn,gZ],cr 92 2 [oz 2]]) 93],rg 94 [oC 9 [],o1 2],.ret]) [.tmp 2] 95:=fU func4
structure One(Z:ab)(b:Nat)(x:ab × Tk)(S:gw):Prop where
 s:AJ x.1 b x.2 S
 o:S.ok
 u:Z.sub x.1
 k:F5 Z x.2
 c:x.1.cI=Z.cI
def One.go{b:Nat}{x:ab × Tk}(h:One Z b x S)(hb:Z.box b=ah){bx:ab}{k1:Tk}(ht:t.length<=3000)(h1:AJ bx b k1 (lN S t))(hk:Kp x.1 bx b x.2 k1):One Z b (bx,k1) (lN S t) :=
 ⟨h1,M0 h.o ht,(Kp.sub h.u hb h.k hk).1,(Kp.sub h.u hb h.k hk).2,hk.c.trans h.c⟩
def at4:RW [[]] .zero:=⟨rfl,by simp,λi=>by simp only[lj,FU,eC,List.take_nil];exact YX,Sb⟩
def RW.go(h:RW W S)(ht:t.length<=1500):RW (if (fc S t).2.2.cls=0 then pN W (fc S t).1 else W) (lN S t):=by
 by_cases hf:(fc S t).2.2.cls=0
 case neg=>rw[aB hf,lN,sX,aL hf];exact h
 rw[aL hf];have e:=ahz h.e hf;have ho:=M0 (t:=t) h.o (by omega);have hl:=(Ln _ rfl e).1;have hc:(fc S t).1=(dC t).1:=(Hr hf).1;have bf:W≠[]:=λe=>by have:=h.e;rw[e] at this;simp[tO] at this
 rcases ahy (c:=(fc S t).1) bf with ⟨h1,-⟩ | ⟨k,h1,-⟩
 .refine⟨e,λc hm=>?_,λi=>?_,ho⟩
  .rw[h1] at hm
   rcases lk.1 hm with hm | hm
   .exact h.k c hm
   .simp only[u7] at hm;rw[hm,hc];exact ag0 ht
  .by_cases hi:i<=W.flatten.length
   .rw[h1,ads hi];exact h.p i
   .rw[yQ (by rw[h1,bL,eZ];omega),<-hl];exact ho.l
 .exact⟨e,λc hm=>h.k c (by rw[h1] at hm;exact B' hm),λi=>by rw[h1,Tq];exact h.p _,ho⟩
def RW.lens(h:RW W S):W.length=S.eg.length+1/\W.length<=16/\W.flatten.length<=16384/\S.live.lines=W.flatten.map dq/\S.live=nW .zero W.flatten:=by
 obtain⟨h1,h2⟩:=Ln _ rfl h.e;have h3:=h.o.n;have h4:S.live.lines=W.flatten.map dq:=by rw[h1,Qk];rfl
 have h5:=@Di S.live.lines;have h6:=h.o.l.t;have h7:S.live.lines.length=W.flatten.length:=by rw[h4,aF]
 exact⟨h2.symm,by omega,by omega,h4,h1⟩
def arM(l:List (List UInt8))(hg:TZ Z)(lv:Z.cI 0=U iO):aR 4 [.sl .no 1 (cu l)] Z (.bool aa):=by
 have alv:=TJ hg lv;have gT:∀{σ' : ab},σ'.cI=Z.cI->TZ σ' /\ σ'.cI 0=U iO:=λ{σ'} e=>⟨by rw[TZ,e];exact hg,by rw[e];exact lv⟩
 refine fn4.fK ?_;simp only[aP,am,aT,Nat.reduceAdd];refine cl (ae0 l Z) ?_;cases hb:Ci l with
 | true =>
  simp only[am];refine cl (alv) ?_;simp only[am];exact rt
 | false =>
  obtain⟨hl,hls⟩:=ae1 hb;simp only[am];refine(X4 Z).mono ?_;rintro v dx ⟨b,rfl,dX,rfl⟩;simp only[am];refine cl (as_ _) ?_;simp only[am,gk];refine ch (l.length) (λi (x:ab × Tk × List (List ar))=>⟨[.any,.any,.any,.ptr (.out b) 0,.ptr (.au 0) 0,.any,.any,.any,.any,.any,.any,.any,.any,.any,.any,.any,.any,.any,.sl .no 1 (cu l),.int .i64 (l.length:Nat),.int .i64 (i:Nat)]++aj 74 .any,[[.sl .no 1 (wC x.2.2)]],x.1⟩) (λi x=>(∃S,One Z b (x.1,x.2.1) S/\RW x.2.2 S)) λF hF JF aZ=>⟨?_,?_,?_⟩
  .exact en aZ ((Z.set b (nU .aY .zero),.aY,[[]])) (⟨.zero,⟨abA,Sb,aca dX,λ_ e=>by simp at e,rfl⟩,at4⟩)
  .rintro i ⟨dx,k0,W⟩ hi ⟨S,h,hw⟩;have ht:=hls _ (dQ hi);have c1:=M1 l[i] h.s h.o (gT h.c).1 (gT h.c).2 (by omega);have w2:=hw.go ht;obtain⟨y1,y2⟩:=YE (s:=S) (t:=l[i]) (by omega);have c2:=λbx=>asQ hw l[i] bx ht
   obtain⟨W2,WX⟩:∃W2,W2=(if (fc S l[i]).2.2.cls=0 then pN W (fc S l[i]).1 else W):=⟨_,rfl⟩;rw[<-WX] at w2;simp only[<-WX] at c2;generalize fc S l[i]=X at c1 c2 y1 y2;obtain⟨c,y,f⟩:=X;simp only[tz,NL] at c1 c2 y1 y2;simp only[hF,aj,am,cf hi];refine ix (Dc hi) ?_;simp only[am];refine c1.mono ?_;rintro v bx ⟨rfl,k1,s1,p1⟩;have o1:One Z b (bx,k1) (lN S l[i]):=h.go dX (by omega) s1 p1;simp only[am,Nat.reduceAdd,aM.al,b9,lK];refine cl (c2 bx) ?_;have lx:y.enc.length=18:=rk;have g1:=Wq (a:=c.enc) (b:=y.enc) (c:=f.enc) rfl lx rfl;have g2:=Jw (a:=c.enc) (b:=y.enc) (c:=f.enc) rfl lx rfl;have g3:c8 (gy c.enc y.enc f.enc)=true:=Wp rfl (IQ y) rfl;have g4:bP aa 17 (gy c.enc y.enc f.enc)=_:=ak1 rfl;have g5:bP aa 18 ((gy c.enc y.enc f.enc).drop 17)=_:=ak2 rfl lx;have g6:(gy c.enc y.enc f.enc).drop 35=f.enc:=Wo rfl lx;have g7:cB 37 s4=true:=rfl;simp only[am,Nat.reduceAdd,b9,g1,g2,g3,g4,g7];refine cl (awf y1 bx) ?_;simp only[am,lK,g5];refine cl (aaq y bx y2.c y2.a y2.b) ?_;simp only[am,bu,aM.al,g6];obtain⟨q1,q2,q3,q4,q5⟩:=w2.lens;have q6:=o1.o.l.t;have q7:=o1.o.n;have cP:=aaW W2 bx (by omega) (by omega) w2.k w2.p;rw[<-q5] at cP;refine cl cP ?_;simp only[am,Nat.reduceAdd,lZ];refine bn.intro (X5 o1.s.b o1.o) ?_;simp only[am];have cT:=aa3 W2 bx (by omega) (by omega) (λc hc=>(w2.k c hc).w) (by rw[<-q4];omega);have cN:=aaG W2 bx (by omega) (by omega) (λc hc=>(w2.k c hc).w);rw[<-q4] at cT cN;refine bn.intro (cT) ?_;simp only[am,bu,bu];refine bn.intro (YH o1.s.b (Qj o1.o)) ?_;simp only[am];refine bn.intro (cN) ?_;simp only[am];refine bn.intro (abm (lN S l[i]).live.lines bx (Qj o1.o)) ?_;simp only[am];refine bn.intro (R_ o1.s.b (by omega)) ?_;simp only[am,Rm.enc];refine bn.intro (cT) ?_;have e1:(lN S l[i]).live.bytes=((qp (lN S l[i]).live.lines).length:Nat):=by rw[Ib];exact o1.o.l.b
   have e2:(((lN S l[i]).eg.length:Nat):Int)+1=(W2.length:Nat):=by omega
   simp only[am,aF,bu,aF,xo,mQ,e1,e2];have cp:aR 24 [.ptr (.out b) 0] bx (.agg (lZ (lN S l[i]).live)):=arT o1.s.b (gT o1.c).1 o1.o.l;refine bn.intro (cp) ?_;simp only[am,lZ];refine bn.intro (arU (lN S l[i]).live bx o1.o.l) ?_;simp only[am,aK,bt hi];refine c7 ((bx,k1,W2)) hi ?_ ?_ ?_ ?_ ?_ ?_
   .exact fF (aZ _ _) (⟨_,o1,w2⟩)
   all_goals simp[hF,aj,am,ba,bE,cn,V.lo,ar.enc,ar.cJ]
  .rintro⟨dx,k0,W⟩ ⟨S,h,hw⟩;simp only[hF,aj,am,aK,ck,aK];refine cl (TJ (gT h.c).1 (gT h.c).2) ?_;simp only[am];exact aN rfl h.u ⟨rfl,rfl⟩
open Go.Am Go.ChangeShapes Go.WideShapes Go.ChangeAt Go.RowKit
open Go.Proofs.YtnpggmhoandloaaGreatDoor
set_option maxRecDepth 100000 in
theorem au4(H:Type)(enc:TypeId × Value->H)(W:World)(base:Nat)(args:Array Value)(ds gs:List (DataW H))(before:List MemPlace)
 (Kd:∀(j:Nat) t v,f4.params[j]?=U t->args[j]?=U v->Value.okWide prog W .any base t v)
 (hW:DataW.Whole enc prog f4.params.toList Rows.stackPlaysSpec.vars aq W args.toList ds gs before) (hk:Rows.uptoSmall H (ds++gs)=aa) (hL:laidMetH prog Rows.stackPlaysRow.laid W) :
 Calls prog 4 args W λe W' => ∃v,e = .returned v/\Rows.stackPlaysSpec.post enc prog f4 aq aa aq aq W args v W' := by
 have GF := hW;obtain⟨p,q,hA0,hV,rfl,Ox,zC⟩:=hW;have hA:DataW.TrodAll enc prog W 0 (λ_=>aa) aa f4.params.toList args.toList ds p:=hA0;rw[params4] at hA Kd;obtain⟨v0,vs0,d0,Vf,p0,q0,N_,rfl,rfl,⟨n0,h0⟩,r0⟩:=trodAll_cons hA;obtain⟨rfl,rfl,rfl⟩:=trodAll_nil r0;obtain rfl:args=#[v0]:=by cases args;simp_all
 obtain⟨rfl,rfl⟩:=trodVars_none hV;have hG:=akT hL;obtain⟨_,a0,_,y0,rfl,b0⟩:=asE n0 (Nat.lt_succ_self _) _ _ h0;have hb:Rows.uptoBulkAll [d0]<=1048576:=by
  have h:=QN hk;rw[eC] at h;exact h
 simp only[Rows.uptoBulkAll] at hb;simp only[eC] at GF;have s0:=avW underlying22 (Kd 0 22 v0 rfl rfl) a0;refine anw (arM y0 rfl rfl) hG ?_ laid att aku rfl underlying4 (by rw[params4];decide +kernel) rfl ⟨rfl,rfl,rfl⟩ GF;simp only[RL,ln];exact s0
set_option maxRecDepth 100000 in
def au5(os:Os):laidMet prog Rows.stackPlaysRow.laid ((P3 os).forCall (λ_ _=>0) ⟨#[],#[.slice ah 0 0],[]⟩).memory :=
 laidMet_of_run' 8 (by kernel_rfl) (by kernel_rfl)
def au9(os:Os){H:Type}(enc:TypeId × Value->H):∃places,DataW.whole enc prog ((P3 os).forCall (λ_ _=>0) ⟨#[],#[.slice ah 0 0],[]⟩).memory f4.params.toList Rows.stackPlaysSpec.vars aq (#[.slice ah 0 0]:Array Value).toList 8=U ([.nil],[],places) :=
 ⟨[],by kernel_rfl⟩
set_option maxRecDepth 100000 in
def au6(os:Os)(started:os.Started)(H:Type)(enc:TypeId × Value->H)(F:Stop.Interp) :
 ReturnsInHanded {} checked os 4 .any ((Rows.OpenSpec.upto Rows.stackPlaysSpec).preRow enc prog f4 Rows.stackPlaysUptoRow.domain aq Rows.stackPlaysUptoRow.laid) (((Rows.OpenSpec.upto Rows.stackPlaysSpec).at F).post enc prog f4 aq aa aq aq):=by
 obtain⟨places,hx⟩:=au9 os enc;refine returnsInHanded_of_row (C:=checked) (s:=Rows.OpenSpec.upto Rows.stackPlaysSpec) own started (by kernel_rfl) func4
  (witness_row_at (enc:=enc) (C:=checked) aq (P3 os) #[.slice ah 0 0] rfl (by kernel_rfl) (by kernel_rfl) (by kernel_rfl)
    (OpenSpec.preRow_of_cond 8 hx (by kernel_rfl) (λk hk=>by cases hk;kernel_rfl) (by kernel_rfl) (au5 os))) ?_
 intro W base args ds gs before Kd hW _ alC _ hL _ _;exact au4 H enc W base args ds gs before Kd hW (alC _ rfl) hL
end Go.Proofs.Tryz
