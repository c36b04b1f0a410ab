/-
  Part 7 of the proof of StackTextUptoCardSaid: a logic over the model, the forms of the functions that the law reaches, and what they compute.
-/
import Derived.Test.YtnpggmhoandloaaGreatDoorProg
import Derived.Test.YtnpggmhoandloaaGreatDoorText6
set_option linter.unusedVariables false
set_option linter.unusedSimpArgs false
set_option linter.defProp false
set_option linter.unusedSectionVars false
set_option maxRecDepth 4000
set_option maxHeartbeats 4000000
open Option renaming some->aa,none->aj
open Bool renaming true->ab,false->ar
open List renaming replicate->aq,range->bA,getD->fW,zipWith->mu
open Eq renaming mpr->ey
open Ne renaming symm->fJ
namespace Go.Proofs.Tryz
open Go.Am
def ahj:aS prog 121 (sq [rg 2 [ox 1 5 0,oz 1],sq [rg 3 [fo 0 1],.block 0 (sq [sq [rg 6 [oB .eql 4 1,o1 5],cd 5 .skip (rg 7 [oB .eql 4 2,o1 5])],cd 5 (sq [rg 8 [fo 2 1,o1 2],.ret]) (sq [rg 11 [oB .eql 4 3,o1 10],cd 10 (sq [rg 12 [ol 5 1,oC 185 [12],oq (.cat (.c (.aG [123])) (.s 13)),oq (.cat (.s 14) (.c (.aG [125]))),o1 2],.ret]) (sq [rg 17 [oB .eql 4 4,o1 16],cd 16 (sq [rg 18 [ol 5 1,oC 186 [18],oq (.cat (.c (.aG [40])) (.s 19)),oq (.cat (.s 20) (.c (.aG [41]))),o1 2],.ret]) (sq [rg 23 [oB .eql 4 5,o1 22],cd 22 (sq [rg 24 [ol 5 1,oC 186 [24],oq (.cat (.c (.aG [91])) (.s 25)),oq (.cat (.s 26) (.c (.aG [93]))),o1 2],.ret]) (sq [rg 29 [oB .eql 4 6,o1 28],cd 28 (sq [dg 30 [of 2 1,mM [1],no,oq (.cat (.s 31) (.c (.aG [58,123]))),ol 5 1,oC 185 [33],oq (.cat (.s 32) (.s 34)),oq (.cat (.s 35) (.c (.aG [125]))),o1 2],.ret]) (sq [rg 38 [oB .eql 4 7,o1 37],cd 37 (sq [rg 39 [ol 5 1,oC 187 [39],oq (.cat (.c (.aG [35])) (.s 40)),o1 2],.ret]) (sq [rg 43 [oB .eql 4 8,o1 42],cd 42 (sq [rg 44 [ol 5 1,oC 186 [44],oq (.cat (.c (.aG [43,40])) (.s 45)),oq (.cat (.s 46) (.c (.aG [41]))),o1 2],.ret]) (sq [rg 49 [oB .eql 4 9,o1 48],cd 48 (sq [rg 50 [ol 5 1,oC 186 [50],oq (.cat (.c (.aG [38,40])) (.s 51)),oq (.cat (.s 52) (.c (.aG [41]))),o1 2],.ret]) (sq [rg 55 [oB .eql 4 10,o1 54],cd 54 (sq [rg 56 [ol 5 1,oC 188 [56],o1 2],.ret]) (sq [rg 59 [oB .eql 4 11,o1 58],ci 58 (sq [dg 60 [of 2 1,mM [1],no,oq (.cat (.s 61) (.c (.aG [61]))),ol 5 1,oC 187 [63],oq (.cat (.s 62) (.s 64)),o1 2],.ret])])])])])])])])])])])],rg 2 [oz 1],.ret]) [.tmp 2] 66:=aW func121
def ahZ:aS prog 185 (sq [rg 2 [od (aa 1) (.gS 5 (.s 0)),oz 1],rg 3 [fo 3 1,nL,oq (.ky (.func 236) [] [(.s 1)]),oC 235 [5,6],o1 2],.ret]) [.tmp 2] 8:=aW func185 ⟨[1],[]⟩
def ah0:aS prog 186 (sq [rg 2 [od (aa 1) (.gS 5 (.s 0)),oz 1],rg 3 [fo 4 1,nL,oq (.ky (.func 237) [] [(.s 1)]),oC 235 [5,6],o1 2],.ret]) [.tmp 2] 8:=aW func186 ⟨[1],[]⟩
def ah1:aS prog 187 (sq [rg 2 [ox 1 5 0,oz 1],sq [rg 3 [fo 4 1,nL,nB .eql 0],cr 6 2 [oz 1]],rg 7 [fo 4 1,nI 5 0,nl 5,oC 121 [10],o1 2],.ret]) [.tmp 2] 12:=aW func187
def ah2:aS prog 188 (sq [rg 2 [ox 1 5 0,oz 1],rg 4 [ol 5 1,oC 186 [4],oq (.cat (.c (.aG [91])) (.s 5)),o1 3],sq [rg 7 [fo 3 1,nL,nB .gtr 0],ci 10 (rg 11 [om 3,ol 5 1,oC 185 [12],oq (.cat (.c (.aG [124])) (.s 13)),oq (.cat (.s 11) (.s 14)),o1 3])],rg 16 [om 3,oq (.cat (.s 16) (.c (.aG [93]))),o1 2],.ret]) [.tmp 2] 18:=aW func188
def aiJ:aS prog 235 (sq [rg 4 [oz 1],rg 5 [oz 6],sq [rg 7 [om 0,oi 0],lp 7 0 (sq [rg 10 [om 8,o1 6],sq [rg 11 [om 6,nB .gtr 0],ci 12 (rg 13 [om 5,oq (.ko 1 [(.c (.int .u8 44))]),na 1 13,o1 5])],rg 16 [om 5,om 1,om 6,oq (.jj (.s 17) [(.s 18)]),oq (.n6 (.s 16) (.s 19)),o1 5]]) 21],rg 22 [om 5,oq (.uD (.s 22)),o1 4],.ret]) [.tmp 4] 24:=aW func235
def aiK:aS prog 236 (sq [rg 3 [oz 1],rg 4 [fo 3 1,om 0,nA 2 5,nF 0,o1 3],.ret]) [.tmp 3] 10:=aW func236
def aiL:aS prog 237 (sq [rg 3 [oz 1],rg 4 [fo 4 1,om 0,nA 5 5,nl 5,oC 121 [8],o1 3],.ret]) [.tmp 3] 10:=aW func237
def NM(n:Nat)(g:FuncId)(cap:List V)(f:Nat->List UInt8)(D:ah)(i Z:Nat):St :=
 ⟨[.int .i64 (n:Nat),.fn (.func g) [] cap,.any,.any,.any,.sl (.tk Z) 1 (dK (bX ((bA i).map f))),.any,.int .i64 (n:Nat),.int .i64 (i:Nat)]++aq 15 .any,[],D.a_ Z (bX ((bA i).map f)).length⟩
def XW(f:Nat->List UInt8)(i:Nat):bX ((bA (i+1)).map f)=bX ((bA i).map f)++(if 0<i then [44] else [])++f i:=by
 rw[iF,fX,GP,NO];simp
variable{i:Nat}
def as9(f:Nat->List UInt8){n:Nat}(h:i<=n):(bX ((bA i).map f)).length<=(bX ((bA n).map f)).length:=by
 induction n with
 | zero =>
  have:i=0:=by omega
  rw[this];exact bY _
 | succ n ih =>
  by_cases hi:i=n+1
  .rw[hi];exact bY _
  .have:=ih (by omega)
   rw[XW];simp only[bM];omega
variable{D:ah}
def Sn{n:Nat}{g:FuncId}{cap:List V}{f:Nat->List UInt8}(qj:bT cap=ab)(hn:n<=aQ)(hb:(bX ((bA n).map f)).length<=aQ)
 (h:∀i,i<n->∀bF:ah,bF.box=D.box->ch prog g (.int .i64 (i:Nat)::cap) bF λv σ' => v = .aG (f i)/\σ' = bF) :
 a8 235 [.int .i64 (n:Nat),.fn (.func g) [] cap] D (.aG (bX ((bA n).map f))):=by
 refine aiJ.aV ?_;simp only[aU,am,a7,Nat.reduceAdd];refine jX (λp:{p:Nat × Nat // D.aR p.2=aj/\p.1<=n}=>NM n g cap f D p.1.1 p.1.2) (λp=>n - p.1.1) ?_ ?_
 .refine bI.Cb 0 λZ bE=>⟨⟨(0,Z),bE,by simp⟩,?_,rfl,rfl⟩
  simp[NM,aq,pD,bX,dK]
 .rintro⟨⟨i,Z⟩,bE,hi⟩;simp only at bE hi;simp only[NM,aq,am];refine fx ?_ ?_
  .intro aD;have aD:i<n:=by simpa using aD
   have hs:=XW f i;have hm:=as9 f (i:=i+1) (n:=n) (by omega);simp only[aQ] at hn hb;rw[hs] at hm;simp only[bM] at hm;have wi:IntKind.i64.wrap ((i:Int)+1)=(i:Int)+1:=wrap_i64 (by omega) (by omega);simp only[am]
   by_cases h0:0<i
   case' pos =>
    rw[aF h0] at hs hm;simp only[am,aK (show(0:Int)<i by omega)];refine kM (by simp[jJ,aQ];simp at hm;omega) (by rw[jJ,jG]) ?_;simp only[am,jU];rw[show dK (bX ((bA i).map f))++[[.int .u8 44]]=dK (bX ((bA i).map f)++[44]) by simp[dK],show(dK (bX ((bA i).map f))).length+1=(bX ((bA i).map f)++[44]).length by simp[dK]]
   case' neg =>
    rw[aB h0,eD] at hs;rw[aB h0] at hm;simp only[am,aJ (show ¬(0:Int)<i by omega)]
   all_goals
    refine⟨qj,?_⟩;refine(h i aD (D.a_ Z _) rfl).mono ?_;rintro v σ' ⟨rfl,rfl⟩;simp only[am,cX];refine⟨_,rfl,?_⟩;refine kM (by simp[jJ,aQ];simp at hm;omega) (by rw[jJ,jG]) ?_;simp only[am,jU,wi];rw[<-Ex,jJ,jJ,<-bM,<-hs];exact bI.again ⟨(i+1,Z),bE,aD⟩ (by simp;omega) (by simp[am]) cT.rfl bW.rfl
  .intro aD;have aD:i=n:=by simp at aD;omega
   subst aD;simp only[am,cX];refine⟨_,_,rfl,?_⟩;refine aX rfl (s4 bE) ⟨?_,rfl⟩;simp[V.erase]
variable{q:Nat}
def apB{n:Nd}(hi:i<n.an.length)(hq:D.box q=aa n.enc):a8 236 [.int .i64 (i:Nat),.ptr (.out q) 0] D (.aG (n.an[i].au)):=by
 refine aiK.aV ?_;simp only[aU,am,a7,Nat.reduceAdd];simp only[am,hq,Nd.fl];refine ix (Av (show n.an[i]?=aa n.an[i] by simp[hi])) ?_;simp only[am,aA.enc];exact rt
def anA{n:Nd}(hi:i<n.ak.length)(hq:D.box q=aa n.enc)(ih:∀m∈n.ak,∀D,a8 121 [.agg m.enc] D (.aG m.cY)):
 a8 237 [.int .i64 (i:Nat),.ptr (.out q) 0] D (.aG (n.ak[i].cY)):=by
 refine aiL.aV ?_;simp only[aU,am,a7,Nat.reduceAdd];simp only[am,hq,Nd.fl];refine ix (qv (show n.ak[i]?=aa n.ak[i] by simp[hi])) ?_;simp only[am,Nd.al];refine cl (ih n.ak[i] (dj hi) D) ?_;simp only[am];exact rt
variable{O:Type}
def XV(l:List O)(f:O->List UInt8)(d:List UInt8):(bA l.length).map (λi=>if h:i<l.length then f l[i] else d)=l.map f:=by
 apply QT;intro i
 by_cases h:i<l.length<;>simp[h]
def Oq{n:Nd}(hw:n.wt<=aQ):a8 185 [.agg n.enc] D (.aG (fR n.an)):=by
 have U:=DZ n.an;have h2:n.an.length<=e_ n.an:=by
  unfold e_;generalize n.an=l;induction l with
  | nil=>simp
  | cons w ws ih=>simp only[cz,py,dm];omega
 have h3:e_ n.an<=n.wt:=by cases n;simp only[Nd.wt,Nd.an];omega
 have e:bX ((bA n.an.length).map (λi=>if h:i<n.an.length then n.an[i].au else []))=fR n.an:=by
  rw[XV n.an (λw=>w.au) []];rfl
 refine ahZ.aV ?_;simp only[aU,am,a7,Nat.reduceAdd,Nd.al];refine kY λq hq=>?_
 simp only[am,aN,Nd.fl];refine(Sn (f:=λi=>if h:i<n.an.length then n.an[i].au else []) rfl (by omega) (by rw[e];omega) (λi hi bF U=>?_)).mono ?_
 .rw[Ew hi];exact apB hi (by rw[U];exact ah.eW _ _ _)
 rintro v σ' ⟨rfl,rfl⟩;simp only[am];refine aX rfl (jg hq) ⟨?_,rfl⟩;rw[e];simp[V.erase]
def FB{n:Nd}(hw:n.wt<=aQ)(ih:∀m∈n.ak,∀D,a8 121 [.agg m.enc] D (.aG m.cY)):a8 186 [.agg n.enc] D (.aG (bX (de n.ak))):=by
 have U:=FE n.ak (vr n.ak);have h2:n.ak.length<=fV n.ak:=by
  rw[GF];generalize n.ak=l;induction l with
  | nil=>simp
  | cons w ws ih=>simp only[cz,py,dm];omega
 have h3:fV n.ak<=n.wt:=by cases n;simp only[Nd.wt,Nd.ak];omega
 have e:bX ((bA n.ak.length).map (λi=>if h:i<n.ak.length then n.ak[i].cY else []))=bX (de n.ak):=by
  rw[XV n.ak (λw=>w.cY) [],yz]
 refine ah0.aV ?_;simp only[aU,am,a7,Nat.reduceAdd,Nd.al];refine kY λq hq=>?_
 simp only[am,aN,Nd.fl];refine(Sn (f:=λi=>if h:i<n.ak.length then n.ak[i].cY else []) rfl (by omega) (by rw[e];omega) (λi hi bF U=>?_)).mono ?_
 .rw[Ew hi];exact anA hi (by rw[U];exact ah.eW _ _ _) ih
 rintro v σ' ⟨rfl,rfl⟩;simp only[am];refine aX rfl (jg hq) ⟨?_,rfl⟩;rw[e];simp[V.erase]
def Tm{n:Nd}(ih:∀m∈n.ak,∀D,a8 121 [.agg m.enc] D (.aG m.cY)):a8 187 [.agg n.enc] D (.aG (l9 (de n.ak))):=by
 refine ah1.aV ?_;simp only[aU,am,a7,Nat.reduceAdd,Nd.al];simp only[am,aN,Nd.fl];cases hk:n.ak with
 | nil =>
  simp only[am,b9,fe,dQ,uj];refine aL ?_;simp[V.erase,l9,de]
 | cons m ms =>
  simp only[am,aJ (show ¬(((m::ms).length:Nat):Int)=0 by simp;omega),Nd.fl,hk];refine tU (c:=m.enc) (by simp) ?_;simp only[am,Nd.al];refine cl (ih m (by rw[hk];simp) D) ?_;simp only[am];refine aL ?_;simp[V.erase,l9,de]
def atP{n:Nd}(hw:n.wt<=aQ)(ih:∀m∈n.ak,∀D,a8 121 [.agg m.enc] D (.aG m.cY)):
 a8 188 [.agg n.enc] D (.aG (([91]++bX (de n.ak))++(if 0<n.an.length then [124]++fR n.an else [])++[93])):=by
 have U:=FE n.ak (vr n.ak);have h2:=DZ n.an;have h3:fV n.ak+e_ n.an+4<=n.wt:=by cases n;simp only[Nd.wt,Nd.ak,Nd.an];omega
 refine ah2.aV ?_;simp only[aU,am,a7,Nat.reduceAdd,Nd.al];refine cl (FB hw ih) ?_;simp only[am];refine⟨by simp;omega,?_⟩;simp only[am,aN,Nd.fl]
 by_cases h0:0<n.an.length
 .simp only[am,Nd.al,aK (show(0:Int)<n.an.length by omega)];refine cl (Oq hw) ?_;simp only[am];refine⟨by simp;omega,by simp;omega,by simp;omega,?_⟩;refine aL ?_;simp[V.erase,h0]
 .simp only[am,aJ (show ¬(0:Int)<n.an.length by omega)];refine⟨by simp;omega,?_⟩;refine aL ?_;simp[V.erase,h0]
def avP:∀(k:Nat) (n:Nd) (D:ah),n.wt<=k->n.wt<=aQ->a8 121 [.agg n.enc] D (.aG n.cY):=by
 intro k;induction k with
 | zero=>intro n D h _;cases n;simp only[Nd.wt] at h;omega
 | succ k x6 =>
  intro n D hk hw;have ih:∀m∈n.ak,∀D,a8 121 [.agg m.enc] D (.aG m.cY):=λm hm D=>by
   have U:=DX hm;have h2:fV n.ak+4<=n.wt:=by cases n;simp only[Nd.wt,Nd.ak];omega
   exact x6 m D (by omega) (by omega)
  have U:=FE n.ak (vr n.ak);have h2:=DZ n.an;have h3:n.au.length+fV n.ak+e_ n.an+4<=n.wt:=by cases n;simp only[Nd.wt,Nd.ak,Nd.an,Nd.au];omega
  have h4:=MK n.ak (vr n.ak);have e:n.cY=if n.kind=1\/n.kind=2 then n.au else if n.kind=3 then [123]++fR n.an++[125] else if n.kind=4 then [40]++bX (de n.ak)++[41] else if n.kind=5 then [91]++bX (de n.ak)++[93]
   else if n.kind=6 then n.au++[58,123]++fR n.an++[125] else if n.kind=7 then [35]++l9 (de n.ak) else if n.kind=8 then [43,40]++bX (de n.ak)++[41] else if n.kind=9 then [38,40]++bX (de n.ak)++[41]
   else if n.kind=10 then([91]++bX (de n.ak))++(if 0<n.an.length then [124]++fR n.an else [])++[93] else if n.kind=11 then n.au++[61]++l9 (de n.ak) else []:=by cases n;rw[Nd.cY];rfl
  rw[e];refine ahj.aV ?_;simp only[aU,am,a7,Nat.reduceAdd,Nd.al];simp only[am,Nd.fl]
  by_cases k1:n.kind=1
  .simp only[am,aK k1,Nd.fl];refine aL ?_;simp[V.erase,k1]
  simp only[am,aJ k1]
  by_cases k2:n.kind=2
  .simp only[am,aK k2,Nd.fl];refine aL ?_;simp[V.erase,k2]
  simp only[am,aJ k2]
  by_cases k3:n.kind=3
  .simp only[am,Nd.al,aK k3];refine cl (Oq hw) ?_;simp only[am];refine⟨by simp;omega,by simp;omega,?_⟩;refine aL ?_;simp[V.erase,k3]
  simp only[am,aJ k3]
  by_cases k4:n.kind=4
  .simp only[am,Nd.al,aK k4];refine cl (FB hw ih) ?_;simp only[am];refine⟨by simp;omega,by simp;omega,?_⟩;refine aL ?_;simp[V.erase,k4]
  simp only[am,aJ k4]
  by_cases k5:n.kind=5
  .simp only[am,Nd.al,aK k5];refine cl (FB hw ih) ?_;simp only[am];refine⟨by simp;omega,by simp;omega,?_⟩;refine aL ?_;simp[V.erase,k5]
  simp only[am,aJ k5]
  by_cases k6:n.kind=6
  .simp only[am,Nd.al,aK k6,Nd.fl];refine⟨by simp;omega,?_⟩;refine bK.intro (Oq hw) ?_;simp only[am,Nd.fl];refine⟨by simp;omega,by simp;omega,?_⟩;refine aL ?_;simp[V.erase,k6]
  simp only[am,aJ k6]
  by_cases k7:n.kind=7
  .simp only[am,Nd.al,aK k7];refine cl (Tm ih) ?_;simp only[am];refine⟨by simp;omega,?_⟩;refine aL ?_;simp[V.erase,k7]
  simp only[am,aJ k7]
  by_cases k8:n.kind=8
  .simp only[am,Nd.al,aK k8];refine cl (FB hw ih) ?_;simp only[am];refine⟨by simp;omega,by simp;omega,?_⟩;refine aL ?_;simp[V.erase,k8]
  simp only[am,aJ k8]
  by_cases k9:n.kind=9
  .simp only[am,Nd.al,aK k9];refine cl (FB hw ih) ?_;simp only[am];refine⟨by simp;omega,by simp;omega,?_⟩;refine aL ?_;simp[V.erase,k9]
  simp only[am,aJ k9]
  by_cases sQ:n.kind=10
  .simp only[am,Nd.al,aK sQ];refine cl (atP hw ih) ?_;simp only[am];refine aL ?_;simp[V.erase,sQ]
  simp only[am,aJ sQ]
  by_cases wH:n.kind=11
  .simp only[am,Nd.al,aK wH,Nd.fl];refine⟨by simp;omega,?_⟩;refine bK.intro (Tm ih) ?_;simp only[am,Nd.fl];refine⟨by simp;omega,?_⟩;refine aL ?_;simp[V.erase,wH]
  simp only[am,aJ wH];refine aL ?_;simp[V.erase,k1,k2,k3,k4,k5,k6,k7,k8,k9,sQ,wH]
def ahW:aS prog 182 (sq [rg 2 [ox 1 5 0,oz 2],sq [rg 3 [fo 0 1],.block 0 (sq [rg 6 [oB .eql 4 1,o1 5],cd 5 (sq [rg 7 [ol 5 1,oC 227 [7],o1 2],.ret]) (sq [rg 10 [oB .eql 4 7,o1 9],cd 9 (sq [rg 11 [ol 5 1,oC 228 [11],gA,fo 4 1,nL,nB .eql 1,gZ,gA,fo 4 1,nI 5 0,nl 5,oC 229 [23],gZ,o1 2],.ret]) (sq [sq [rg 27 [oB .eql 4 8,o1 26],cd 26 .skip (rg 28 [oB .eql 4 9,o1 26])],cr 26 29 [ol 5 1,oC 228 [29],gA,fo 4 1,nL,nB .gtr 0,gZ,gA,fo 4 1,oc 230 [.s 39,.c (.fn (.func 182) [] [])],gZ,o1 2]])])])],rg 2 [oz 2],.ret]) [.tmp 2] 42:=aW func182
def aiy:aS prog 225 (sq [rg 2 [ox 1 5 0,oz 2],sq [rg 3 [fo 0 1,nB .eql 10],cr 5 6 [fo 2 1,oq (.pZ .eql (.s 7) (.c (.aG []))),gA,fo 3 1,nL,nB .leq 1,gZ,gA,fo 3 1,oC 273 [17],gZ,gA,fo 4 1,oc 230 [.s 22,.c (.fn (.func 274) [] [])],gZ,o1 2]],rg 25 [fo 0 1,nB .eql 1,gA,ol 5 1,oC 182 [29],gZ,o1 2],.ret]) [.tmp 2] 32:=aW func225
def aiA:aS prog 227 (sq [rg 2 [ox 1 5 0,oz 2],rg 3 [fo 2 1,oC 161 [4],gA,fo 3 1,nL,fo 4 1,nL,nb .add 9,nB .eql 0,gZ,o1 2],.ret]) [.tmp 2] 16:=aW func227
def aiB:aS prog 228 (sq [rg 2 [ox 1 5 0,oz 2],rg 3 [fo 2 1,oq (.pZ .eql (.s 4) (.c (.aG []))),gA,fo 3 1,nL,nB .eql 0,gZ,o1 2],.ret]) [.tmp 2] 12:=aW func228
def aiC:aS prog 229 (sq [rg 2 [ox 1 5 0,oz 2],sq [rg 3 [fo 0 1],.block 0 (sq [rg 6 [oB .eql 4 2,o1 5],cd 5 (sq [rg 7 [ol 5 1,oC 227 [7],o1 2],.ret]) (sq [rg 10 [oB .eql 4 3,o1 9],cd 9 (sq [rg 11 [fo 2 1,oq (.pZ .eql (.s 12) (.c (.aG []))),gA,fo 3 1,oC 273 [16],gZ,gA,fo 4 1,nL,nB .eql 0,gZ,o1 2],.ret]) (sq [rg 26 [oB .eql 4 4,o1 25],cd 25 (sq [rg 27 [ol 5 1,oC 228 [27],gA,fo 4 1,nL,nB .gtr 0,gZ,gA,fo 4 1,oc 230 [.s 37,.c (.fn (.func 229) [] [])],gZ,o1 2],.ret]) (sq [rg 41 [oB .eql 4 5,o1 40],cr 40 42 [ol 5 1,oC 228 [42],gA,fo 4 1,oc 230 [.s 46,.c (.fn (.func 275) [] [])],gZ,o1 2]])])])])],rg 2 [oz 2],.ret]) [.tmp 2] 49:=aW func229
def aiE:aS prog 230 (sq [rg 4 [oz 2],sq [rg 7 [om 0,nL,oi 0],lp 8 0 (sq [rg 11 [oA 5 7 9,nl 5,oZ 6 [0,0,1,7,10],o2 5 6],rg 13 [om 1,ol 5 6,oq (.jj (.s 13) [(.s 14)]),nn],cr 16 4 [oz 2]]) 17],rg 4 [oq (.mv (.c (.bool ab)))],.ret]) [.tmp 4] 18:=aW func230
def ajl:aS prog 273 (sq [rg 2 [oz 2],sq [rg 5 [om 0,nL,oi 0],lp 6 0 (sq [rg 9 [oA 2 5 7,nl 2,oZ 4 [1,0],o2 2 4],rg 11 [fo 0 4,oC 161 [12],nn],cr 14 2 [oz 2]]) 15],rg 2 [oq (.mv (.c (.bool ab)))],.ret]) [.tmp 2] 16:=aW func273
def ajm:aS prog 274 (sq [rg 2 [ox 1 5 0,oz 2],rg 3 [fo 0 1,nB .eql 11,gA,fo 2 1,oC 161 [8],gZ,gA,fo 3 1,nL,nB .eql 0,gZ,gA,fo 4 1,nL,nB .eql 1,gZ,gA,fo 4 1,nI 5 0,nl 5,oC 296 [27],gZ,o1 2],.ret]) [.tmp 2] 30:=aW func274
def ajn:aS prog 275 (sq [rg 2 [ox 1 5 0,oz 2],rg 3 [fo 0 1,nB .eql 6,gA,fo 2 1,oC 161 [8],gZ,gA,fo 3 1,oC 273 [13],gZ,gA,fo 4 1,nL,nB .eql 0,gZ,o1 2],.ret]) [.tmp 2] 22:=aW func275
def ajH:aS prog 296 (sq [rg 2 [ox 1 5 0,oz 2],rg 3 [fo 0 1,nB .eql 1,gB,fo 0 1,nB .eql 7,gZ,gA,ol 5 1,oC 182 [12],gZ,o1 2],.ret]) [.tmp 2] 15:=aW func296
def aai{l:List O}{f:O->Bool}(h:i<l.length):(l.take (i+1)).all f=((l.take i).all f&&f l[i]):=by
 rw[DM (cK h),D5];simp only[vB,QK,rC]
def Rp{l:List O}{f:O->Bool}(h:i<l.length)(hf:f l[i]=ar):l.all f=false:=by
 rw[AI];exact⟨l[i],dj h,by simp[hf]⟩
def NF(l:List aA)(D:ah)(i:Nat):St :=
 ⟨[.sl .no 2 (l.map aA.enc)]++aq 4 .any++[.sl .no 2 (l.map aA.enc),.int .i64 l.length,.int .i64 (i:Nat)]++aq 8 .any,[],D⟩
def Pa(l:List aA)(D:ah)(hb:l.length<=aQ):a8 273 [.sl .no 2 (l.map aA.enc)] D (.bool (jf l)):=by
 simp only[aQ] at hb;refine ajl.aV ?_;simp only[aU,am,a7,Nat.reduceAdd];refine jX (λp:{i:Nat // i<=l.length/\(l.take i).all (λw=>cV w.au)=ab}=>NF l D p.1) (λp=>l.length - p.1) ?_ ?_
 .refine bI.enter ⟨0,by simp,by simp⟩ ?_ cT.rfl bW.rfl;simp[NF,aq,am]
 .rintro⟨i,hi,ha⟩;simp only[NF,aq,am];refine fx ?_ ?_
  .intro aD;have aD:i<l.length:=by simpa using aD
   simp only[am];refine ix (Av (cK aD)) ?_;simp only[am,Nat.reduceAdd,aA.enc];refine cl (u9 l[i].au D) ?_;cases hg:cV l[i].au
   .simp only[am];refine aX rfl (ah.bm _) ⟨?_,rfl⟩;rw[show jf l=ar from Rp (f:=λ(w:aA)=>cV w.au) aD hg];rfl
   .simp only[am];rw[wrap_i64];exact bI.uv ⟨i+1,aD,by rw[aai aD,ha,hg];rfl⟩ (by simp;omega) (by simp[am]) (by simp[am]) bW.rfl rfl rfl
  .intro aD;have aD:i=l.length:=by simp at aD;omega
   subst aD;rw[dX] at ha;simp only[am];refine aL ?_;simp[V.erase,jf,ha]
def NG(g:FuncId)(l:List Nd)(D:ah)(i:Nat):St :=
 ⟨[.sl .no 5 (l.map Nd.enc),.fn (.func g) [] []]++aq 5 .any++[.sl .no 5 (l.map Nd.enc),.int .i64 l.length,.int .i64 (i:Nat)]++aq 8 .any,[],D⟩
def G9{g:FuncId}{f:Nd->Bool}(l:List Nd)(D:ah)(hb:l.length<=aQ)(h:∀n∈l,a8 g [.agg n.enc] D (.bool (f n))):a8 230 [.sl .no 5 (l.map Nd.enc),.fn (.func g) [] []] D (.bool (l.all f)):=by
 simp only[aQ] at hb;refine aiE.aV ?_;simp only[aU,am,a7,Nat.reduceAdd];refine jX (λp:{i:Nat // i<=l.length/\(l.take i).all f=ab}=>NG g l D p.1) (λp=>l.length - p.1) ?_ ?_
 .refine bI.enter ⟨0,by simp,by simp⟩ ?_ cT.rfl bW.rfl;simp[NG,aq,am]
 .rintro⟨i,hi,ha⟩;simp only[NG,aq,am];refine fx ?_ ?_
  .intro aD;have aD:i<l.length:=by simpa using aD
   simp only[am];refine ix (qv (cK aD)) ?_;simp only[am,Nd.al];refine cl (h l[i] (dj aD)) ?_;cases hg:f l[i]
   .simp only[am];refine aL ?_;simp[V.erase,Rp aD hg]
   .simp only[am];rw[wrap_i64];exact bI.uv ⟨i+1,aD,by rw[aai aD,ha,hg];rfl⟩ (by simp;omega) (by simp[am]) (by simp[am]) bW.rfl rfl rfl
  .intro aD;have aD:i=l.length:=by simp at aD;omega
   subst aD;rw[dX] at ha;simp only[am];refine aL ?_;simp[V.erase,ha]
def ug:=af @am <| af @a7 <| af @Nd.al @Nd.fl
def jv:=af @am <| af @qM <| af @cX <| af @lz <| af @b9 <| af @fL <| af @aC.al <| af @Nd.al <| af @aA.al <| af @cI.al @Nd.fl
def VV(n:Nd)(D:ah)(hb:n.an.length+n.ak.length<=aQ):a8 227 [.agg n.enc] D (.bool n.lH):=by
 simp only[aQ] at hb;refine aiA.aV ?_;simp only[aU,ug,Nat.reduceAdd];refine cl (u9 n.au D) ?_;simp only[am]
 repeat' (first
  | (refine kS (λh=>?_) (λh=>?_)<;>simp only[am,h,aN,Nd.fl,wrap_i64 (x:=(n.an.length:Int)+n.ak.length) (by omega) (by omega)])
  | (refine fx (λh=>?_) (λh=>?_)<;>simp only[jv,h,Nat.reduceAdd,Nat.reduceEqDiff,aN,wrap_i64 (x:=(n.an.length:Int)+n.ak.length) (by omega) (by omega)])
  | (refine lb (λh=>?_) (λh=>?_)<;>simp only[jv,h,Nat.reduceAdd,Nat.reduceEqDiff,aN,wrap_i64 (x:=(n.an.length:Int)+n.ak.length) (by omega) (by omega)])
 )
 all_goals refine aL ?_
 all_goals simp_all [V.erase,Nd.lH]
 all_goals (try omega)
def Hk(n:Nd)(D:ah):a8 228 [.agg n.enc] D (.bool n.lX):=by
 refine aiB.aV ?_;simp only[aU,ug,Nat.reduceAdd]
 repeat' (first
  | (refine kS (λh=>?_) (λh=>?_)<;>simp only[am,h,aN,Nd.fl])
  | (refine fx (λh=>?_) (λh=>?_)<;>simp only[jv,h,Nat.reduceAdd,Nat.reduceEqDiff,aN])
  | (refine lb (λh=>?_) (λh=>?_)<;>simp only[jv,h,Nat.reduceAdd,Nat.reduceEqDiff,aN])
 )
 all_goals refine aL ?_
 all_goals simp_all [V.erase,Nd.lX]
 all_goals (try omega)
def DY(n:Nd):n.an.length+n.ak.length+4<=n.wt:=by
 have h2:n.an.length<=e_ n.an:=by
  unfold e_;generalize n.an=l;induction l with
  | nil=>simp
  | cons w ws ih=>simp only[cz,py,dm];omega
 have h3:n.ak.length<=fV n.ak:=by
  rw[GF];generalize n.ak=l;induction l with
  | nil=>simp
  | cons w ws ih=>simp only[cz,py,dm];omega
 have U:fV n.ak+e_ n.an+4<=n.wt:=by cases n;simp only[Nd.wt,Nd.ak,Nd.an];omega
 omega
def at3(n:Nd)(D:ah)(hw:n.wt<=aQ):a8 275 [.agg n.enc] D (.bool n.qD):=by
 have hn:=DY n;refine ajn.aV ?_;simp only[aU,ug,Nat.reduceAdd]
 repeat' (first
  | (refine kS (λh=>?_) (λh=>?_)<;>simp only[am,h,aN,Nd.fl])
  | (refine fx (λh=>?_) (λh=>?_)<;>simp only[jv,h,Nat.reduceAdd,Nat.reduceEqDiff,aN])
  | (refine lb (λh=>?_) (λh=>?_)<;>simp only[jv,h,Nat.reduceAdd,Nat.reduceEqDiff,aN])
  | (refine(u9 n.au D).mono ?_;rintro v _ ⟨rfl,rfl⟩;simp only[am])
  | (refine(Pa n.an _ (by omega)).mono ?_;rintro v _ ⟨rfl,rfl⟩;simp only[am])
 )
 all_goals refine aL ?_
 all_goals simp_all [V.erase,Nd.qD]
 all_goals (try omega)
def Sy:∀(k:Nat) (n:Nd) (D:ah),n.wt<=k->n.wt<=aQ->a8 229 [.agg n.enc] D (.bool n.jl):=by
 intro k;induction k with
 | zero=>intro n D h _;cases n;simp only[Nd.wt] at h;omega
 | succ k x6 =>
  intro n D hk hw;have hn:=DY n;have MW:∀m∈n.ak,m.wt+5<=n.wt:=λm hm=>by
   have U:=DX hm;have h2:fV n.ak+4<=n.wt:=by cases n;simp only[Nd.wt,Nd.ak];omega
   omega
  have dq:a8 230 [.sl .no 5 (n.ak.map Nd.enc),.fn (.func 229) [] []] D (.bool (n.ak.all Nd.jl)) :=
   G9 n.ak D (by omega) λm hm=>x6 m D (by have:=MW m hm;omega) (by have:=MW m hm;omega)
  have amB:a8 230 [.sl .no 5 (n.ak.map Nd.enc),.fn (.func 275) [] []] D (.bool (n.ak.all Nd.qD)) :=
   G9 n.ak D (by omega) λm hm=>at3 m D (by have:=MW m hm;omega)
  rw[Nd.A5];refine aiC.aV ?_;simp only[aU,ug,Nat.reduceAdd]
  by_cases k2:n.kind=2
  .simp only[am,Nd.al,aK k2];refine cl (VV n D (by omega)) ?_;simp only[am];refine aL ?_;simp[V.erase,k2]
  simp only[am,aJ k2]
  by_cases k3:n.kind=3
  .simp only[am,Nd.fl,aK k3]
   repeat' (first
    | (refine kS (λh=>?_) (λh=>?_)<;>simp only[am,h,aN,Nd.fl])
    | (refine fx (λh=>?_) (λh=>?_)<;>simp only[jv,h,Nat.reduceAdd,Nat.reduceEqDiff,aN])
    | (refine lb (λh=>?_) (λh=>?_)<;>simp only[jv,h,Nat.reduceAdd,Nat.reduceEqDiff,aN])
    | (refine(Pa n.an _ (by omega)).mono ?_;rintro v _ ⟨rfl,rfl⟩;simp only[am])
   )
   all_goals refine aL ?_
   all_goals simp_all [V.erase]
   all_goals (try omega)
  simp only[am,aJ k3]
  by_cases k4:n.kind=4
  .simp only[am,Nd.al,aK k4];refine cl (Hk n D) ?_;simp only[am]
   repeat' (first
    | (refine kS (λh=>?_) (λh=>?_)<;>simp only[am,h,aN,Nd.fl])
    | (refine fx (λh=>?_) (λh=>?_)<;>simp only[jv,h,Nat.reduceAdd,Nat.reduceEqDiff,aN])
    | (refine lb (λh=>?_) (λh=>?_)<;>simp only[jv,h,Nat.reduceAdd,Nat.reduceEqDiff,aN])
    | (refine dq.mono ?_;rintro v _ ⟨rfl,rfl⟩;simp only[am])
   )
   all_goals refine aL ?_
   all_goals simp_all [V.erase]
   all_goals (try omega)
  simp only[am,aJ k4]
  by_cases k5:n.kind=5
  .simp only[am,Nd.al,aK k5];refine cl (Hk n D) ?_;simp only[am]
   repeat' (first
    | (refine kS (λh=>?_) (λh=>?_)<;>simp only[am,h,Nd.fl])
    | (refine fx (λh=>?_) (λh=>?_)<;>simp only[jv,h,Nat.reduceAdd,Nat.reduceEqDiff,aN])
    | (refine lb (λh=>?_) (λh=>?_)<;>simp only[jv,h,Nat.reduceAdd,Nat.reduceEqDiff,aN])
    | (refine amB.mono ?_;rintro v _ ⟨rfl,rfl⟩;simp only[am])
   )
   all_goals refine aL ?_
   all_goals simp_all [V.erase]
   all_goals (try omega)
  simp only[am,aJ k5];refine aL ?_;simp[V.erase,k2,k3,k4,k5]
def qp{n m:Nd}(hm:m∈n.ak):m.wt+5<=n.wt:=by
 have U:=DX hm;have h2:fV n.ak+4<=n.wt:=by cases n;simp only[Nd.wt,Nd.ak];omega
 omega
def FG:∀(k:Nat) (n:Nd) (D:ah),n.wt<=k->n.wt<=aQ->a8 182 [.agg n.enc] D (.bool n.eP):=by
 intro k;induction k with
 | zero=>intro n D h _;cases n;simp only[Nd.wt] at h;omega
 | succ k x6 =>
  intro n D hk hw;have hn:=DY n;have dq:a8 230 [.sl .no 5 (n.ak.map Nd.enc),.fn (.func 182) [] []] D (.bool (n.ak.all Nd.eP)) :=
   G9 n.ak D (by omega) λm hm=>x6 m D (by have:=qp hm;omega) (by have:=qp hm;omega)
  rw[Nd.sR];refine ahW.aV ?_;simp only[aU,ug,Nat.reduceAdd]
  by_cases k1:n.kind=1
  .simp only[am,Nd.al,aK k1];refine cl (VV n D (by omega)) ?_;simp only[am];refine aL ?_;simp[V.erase,k1]
  simp only[am,aJ k1]
  by_cases k7:n.kind=7
  .simp only[am,Nd.al,aK k7];refine cl (Hk n D) ?_;simp only[am];cases gn:n.ak with
   | nil =>
    simp only[am,dQ,uj,show decide ((0:Int)=1)=ar from rfl]
    repeat' (first
     | (refine kS (λh=>?_) (λh=>?_)<;>simp only[am,h,Nd.fl,gn,fe,dQ,uj,show decide ((0:Int)=1)=ar from rfl])
     | (refine fx (λh=>?_) (λh=>?_)<;>simp only[jv,h,Nat.reduceAdd,Nat.reduceEqDiff,aN,gn,fe,dQ,uj,show decide ((0:Int)=1)=ar from rfl])
     | (refine lb (λh=>?_) (λh=>?_)<;>simp only[jv,h,Nat.reduceAdd,Nat.reduceEqDiff,aN,gn,fe,dQ,uj,show decide ((0:Int)=1)=ar from rfl])
    )
    all_goals refine aL ?_
    all_goals simp_all [V.erase]
    all_goals (try omega)
   | cons m ms =>
    have hc:a8 229 [.agg m.enc] D (.bool m.jl):=Sy _ m D (bY _) (by have:=qp (n:=n) (m:=m) (by rw[gn];simp);omega)
    repeat' (first
     | (refine kS (λh=>?_) (λh=>?_)<;>simp only[am,h,aN,Nd.fl,gn])
     | (refine fx (λh=>?_) (λh=>?_)<;>simp only[jv,h,Nat.reduceAdd,Nat.reduceEqDiff,aN,gn])
     | (refine lb (λh=>?_) (λh=>?_)<;>simp only[jv,h,Nat.reduceAdd,Nat.reduceEqDiff,aN,gn])
     | (refine tU (c:=m.enc) (by simp) ?_;simp only[am,Nd.al])
     | (refine hc.mono ?_;rintro v _ ⟨rfl,rfl⟩;simp only[am])
    )
    all_goals refine aL ?_
    all_goals simp_all [V.erase,wh]
    all_goals (try omega)
  simp only[am,aJ k7]
  by_cases k8:n.kind=8
  case' pos =>
   simp only[am,Nd.al,aK k8]
  case' neg =>
   simp only[am,aJ k8]
   by_cases k9:n.kind=9
   case' pos =>
    simp only[am,Nd.al,aK k9]
   case' neg =>
    simp only[am,aJ k9];refine aL ?_;simp[V.erase,k1,k7,k8,k9]
  all_goals
   refine cl (Hk n D) ?_;simp only[am]
   repeat' (first
    | (refine kS (λh=>?_) (λh=>?_)<;>simp only[am,h,aN,Nd.fl])
    | (refine fx (λh=>?_) (λh=>?_)<;>simp only[jv,h,Nat.reduceAdd,Nat.reduceEqDiff,aN])
    | (refine lb (λh=>?_) (λh=>?_)<;>simp only[jv,h,Nat.reduceAdd,Nat.reduceEqDiff,aN])
    | (refine dq.mono ?_;rintro v _ ⟨rfl,rfl⟩;simp only[am])
   )
   all_goals refine aL ?_
   all_goals simp_all [V.erase]
   all_goals (try omega)
def abT(n:Nd)(D:ah)(hw:n.wt<=aQ):a8 296 [.agg n.enc] D (.bool n.pY):=by
 refine ajH.aV ?_;simp only[aU,ug,Nat.reduceAdd]
 repeat' (first
  | (refine kS (λh=>?_) (λh=>?_)<;>simp only[am,h,Nd.al,Nd.fl])
  | (refine fx (λh=>?_) (λh=>?_)<;>simp only[jv,h,Nat.reduceAdd,Nat.reduceEqDiff,aN])
  | (refine lb (λh=>?_) (λh=>?_)<;>simp only[jv,h,Nat.reduceAdd,Nat.reduceEqDiff,aN])
  | (refine(FG _ n _ (bY _) hw).mono ?_;rintro v _ ⟨rfl,rfl⟩;simp only[am])
 )
 all_goals refine aL ?_
 all_goals simp_all [V.erase,Nd.pY]
 all_goals (try omega)
def agF(n:Nd)(D:ah)(hw:n.wt<=aQ):a8 274 [.agg n.enc] D (.bool n.mG):=by
 refine ajm.aV ?_;simp only[aU,ug,Nat.reduceAdd];cases gn:n.ak with
 | nil =>
  repeat' (first
   | (refine kS (λh=>?_) (λh=>?_)<;>simp only[am,h,aN,Nd.fl,gn,fe,dQ,uj,show decide ((0:Int)=1)=ar from rfl])
   | (refine fx (λh=>?_) (λh=>?_)<;>simp only[jv,h,Nat.reduceAdd,Nat.reduceEqDiff,aN,gn,fe,dQ,uj,show decide ((0:Int)=1)=ar from rfl])
   | (refine lb (λh=>?_) (λh=>?_)<;>simp only[jv,h,Nat.reduceAdd,Nat.reduceEqDiff,aN,gn,fe,dQ,uj,show decide ((0:Int)=1)=ar from rfl])
   | (refine(u9 n.au _).mono ?_;rintro v _ ⟨rfl,rfl⟩;simp only[am])
  )
  all_goals refine aL ?_
  all_goals simp_all [V.erase,Nd.mG,wh]
  all_goals (try omega)
 | cons m ms =>
  have hc:a8 296 [.agg m.enc] D (.bool m.pY):=abT m D (by have:=qp (n:=n) (m:=m) (by rw[gn];simp);omega)
  repeat' (first
   | (refine kS (λh=>?_) (λh=>?_)<;>simp only[am,h,aN,Nd.fl,gn])
   | (refine fx (λh=>?_) (λh=>?_)<;>simp only[jv,h,Nat.reduceAdd,Nat.reduceEqDiff,aN,gn])
   | (refine lb (λh=>?_) (λh=>?_)<;>simp only[jv,h,Nat.reduceAdd,Nat.reduceEqDiff,aN,gn])
   | (refine(u9 n.au _).mono ?_;rintro v _ ⟨rfl,rfl⟩;simp only[am])
   | (refine tU (c:=m.enc) (by simp) ?_;simp only[am,Nd.al])
   | (refine hc.mono ?_;rintro v _ ⟨rfl,rfl⟩;simp only[am])
  )
  all_goals refine aL ?_
  all_goals simp_all [V.erase,Nd.mG,wh]
  all_goals (try omega)
def Yg(n:Nd)(D:ah)(hw:n.wt<=aQ):a8 225 [.agg n.enc] D (.bool n.jF):=by
 have hn:=DY n;have dq:a8 230 [.sl .no 5 (n.ak.map Nd.enc),.fn (.func 274) [] []] D (.bool (n.ak.all Nd.mG)) :=
  G9 n.ak D (by omega) λm hm=>agF m D (by have:=qp hm;omega)
 refine aiy.aV ?_;simp only[aU,ug,Nat.reduceAdd]
 by_cases sQ:n.kind=10
 .simp only[am,Nd.fl,aK sQ]
  repeat' (first
   | (refine kS (λh=>?_) (λh=>?_)<;>simp only[am,h,aN,Nd.fl])
   | (refine fx (λh=>?_) (λh=>?_)<;>simp only[jv,h,Nat.reduceAdd,Nat.reduceEqDiff,aN])
   | (refine lb (λh=>?_) (λh=>?_)<;>simp only[jv,h,Nat.reduceAdd,Nat.reduceEqDiff,aN])
   | (refine(Pa n.an _ (by omega)).mono ?_;rintro v _ ⟨rfl,rfl⟩;simp only[am])
   | (refine dq.mono ?_;rintro v _ ⟨rfl,rfl⟩;simp only[am])
  )
  all_goals refine aL ?_
  all_goals simp_all [V.erase,Nd.jF]
  all_goals (try omega)
 .simp only[am,Nd.fl,aJ sQ]
  repeat' (first
   | (refine kS (λh=>?_) (λh=>?_)<;>simp only[am,h,Nd.al])
   | (refine fx (λh=>?_) (λh=>?_)<;>simp only[jv,h,Nat.reduceAdd,Nat.reduceEqDiff,aN])
   | (refine lb (λh=>?_) (λh=>?_)<;>simp only[jv,h,Nat.reduceAdd,Nat.reduceEqDiff,aN])
   | (refine(FG _ n _ (bY _) hw).mono ?_;rintro v _ ⟨rfl,rfl⟩;simp only[am])
  )
  all_goals refine aL ?_
  all_goals simp_all [V.erase,Nd.jF]
  all_goals (try omega)
def ahY:aS prog 184 (sq [rg 0 [ox 2 2 0,ox 3 5 1,oR 4 CQ,oZ 5 [0,0]],rg 0 [oR 6 CQ],rg 13 [ol 2 2,ol 5 3,oC 232 [13,14],o1 12,oe 12 0,oe 12 1,ot 7 16,o1 8],sq [rg 18 [om 8,nn,gB,ol 2 2,oC 233 [21],nn,gZ,gB,ol 5 3,oC 229 [26],nn,gZ],ci 29 (sq [dg 30 [ol 8 6,of 1 3,mM [1],no,oG [0,0] [(0,1,.c (.int .i64 4)),(1,1,.s 32)],os 8 4 30,o2 2 5],.ret])],rg 34 [oW [2,0] [],oq (.gS 2 (.s 34)),o1 9],sq [rg 36 [fo 1 2,nL,oi 0],lp 38 0 (sq [rg 41 [om 39,oA 67 37 39,nl 67,oR 11 sA,ot 10 41,o2 67 11],dg 44 [om 10,om 9,ol 67 11,om 7,om 10,nA 5 47,nl 5,oC 234 [45,46,50],oP 8 1 6 44,os 1 52 51]]) 53],sq [rg 54 [mk 9,nF 0],ci 57 (sq [dg 58 [oY CQ [],mk 9,nf 1,mM [1],no,oG [0,0] [(0,1,.c (.int .i64 4)),(1,1,.s 62)],os 8 4 58,o2 2 5],.ret])],rg 64 [ol 8 6,oW [0,0] [],os 8 4 64,o2 2 5],.ret]) [.cell 4 ab 8,.cell 5 ab 2] 66:=aW func184 ⟨[35],[]⟩
def aiG:aS prog 232 (sq [rg 4 [ox 2 2 0,ox 3 5 1,oz 10,oz 2],sq [rg 6 [fo 0 2,nn],cr 8 9 [ol 5 3,n1 5,o1 4,oV 5 (.bool ab)]],dg 11 [fo 4 3,fo 0 3,nB .eql 4,gA,fo 4 3,nL,fo 1 2,nL,nb .eql 19,gZ,ot 4 12,o1 5],.ret]) [.tmp 4,.tmp 5] 25:=aW func232
def aiI:aS prog 234 (sq [rg 6 [ox 4 67 1,ox 5 5 2,oz 4],sq [dg 7 [of 0 5,mM [1],no,ol 67 4,oC 277 [9],nb .neq 8],cr 11 12 [om 0,fo 1 5,oC 278 [12,14],o1 6]],sq [rg 16 [fo 0 4],.block 0 (sq [rg 19 [oB .eql 17 2,o1 18],cd 18 (sq [rg 20 [om 0,fo 1 4,fo 3 5,oC 279 [20,22,24],o1 6],.ret]) (sq [rg 27 [oB .eql 17 3,o1 26],cr 26 28 [om 0,ol 67 4,ol 5 5,oC 280 [28,29,30],o1 6]])])],rg 32 [om 0,ol 67 4,ol 5 5,oC 281 [32,33,34],o1 6],.ret]) [.tmp 6] 36:=aW func234
def ajp:aS prog 277 (sq [rg 2 [ox 1 67 0,oi 0],sq [rg 3 [fo 0 1],.block 0 (sq [rg 6 [oB .eql 4 2,o1 5],cd 5 (sq [rg 2 [oi 3],.ret]) (sq [rg 8 [oB .eql 4 3,o1 7],cr 7 2 [oi 5]])])],rg 2 [oi 2],.ret]) [.tmp 2] 9:=aW func277
def ajq:aS prog 278 (sq [rg 4 [oz 4],sq [rg 5 [mk 0,nF 0,nn],ci 9 (rg 10 [om 0,om 0,om 1,ok 10,nf 0,od aj (.store 1 (.s 14) (.c (.bool ab))),ok 11,nf 1,os 1 16 12])],rg 4 [oz 4],.ret]) [.tmp 4] 17:=aW func278
def ajr:aS prog 279 (sq [rg 6 [oz 4],rg 7 [oz 4],sq [rg 11 [om 2,nL,oi 0],lp 12 0 (sq [rg 15 [oA 2 11 13,nl 2,oZ 9 [1,0],o2 2 9],rg 17 [om 1,fo 0 9,oC 173 [17,19],o1 10],sq [rg 21 [om 10,nB .lss 0],cr 22 23 [om 0,fo 1 9,oC 278 [23,25],o1 6]],rg 27 [om 7,om 10,oC 247 [27,28],o1 7]]) 30],rg 31 [om 7,o1 6],.ret]) [.tmp 6] 32:=aW func279
def ajs:aS prog 280 (sq [rg 6 [ox 4 67 1,ox 5 5 2,oz 4],rg 7 [oz 4],sq [rg 11 [fo 4 5,nL,oi 0],lp 13 0 (sq [rg 16 [oA 5 12 14,nl 5,oZ 9 [0,0,1,7,10],o2 5 9],rg 18 [fo 1 4,fo 2 9,oC 173 [19,21],o1 10],sq [rg 23 [om 10,nB .lss 0],cr 24 25 [om 0,fo 1 9,oC 278 [25,27],o1 6]],dg 29 [om 7,of 2 4,mM [1],nl 65,om 10,om 0,fo 1 4,fo 3 9,oC 279 [33,35,37],oC 300 [31,32,38],nb .or 29,o1 7]]) 41],rg 42 [om 7,o1 6],.ret]) [.tmp 6] 43:=aW func280
def ajt:aS prog 281 (sq [rg 6 [ox 4 67 1,ox 5 5 2,oz 4],rg 10 [fo 1 4,fo 2 5,oC 173 [11,13],o1 7],sq [rg 15 [om 7,nB .lss 0],cr 16 17 [om 0,fo 1 5,oC 278 [17,19],o1 6]],sq [rg 21 [fo 0 4,nB .eql 4],cr 23 24 [of 2 4,nl 65,om 7,oC 301 [25,26],o1 6]],rg 29 [fo 1 4,nL,om 7,oC 302 [31,32],o1 28,oe 28 0,oe 28 1,ot 8 34,o1 9],rg 36 [om 8,o1 6],.ret]) [.tmp 6] 37:=aW func281
abbrev BB(D:ah)(b:Nat)(o:Option Int):Prop:=D.box b=aa (qN o)
def av6{b:Nat}{o:Option Int}{c:List V}(hg:TZ D)(h:BB D b o):TZ (D.set b c):=hg
def JP(b:Nat)(o:Option Int)(p:Int)(h:BB D b o):dY 278 [.ptr (.out b) 0,.int .i64 p] D (.int .u64 ((0#64:br).toNat:Nat)) (D.set b (qN (o.or (aa p)))):=by
 refine ajq.aV ?_;simp only[aU,am,a7,Nat.reduceAdd,sa];cases o with
 | none =>
  simp only[am,show D.box b=aa [.bool ar,.int .i64 0] from h];exact aX rfl (ah.bm _) ⟨rfl,rfl⟩
 | some q =>
  have e:D.set b (qN ((aa q).or (aa p)))=D:=ah.Ae h;simp only[am,show D.box b=aa [.bool ab,.int .i64 q] from h];rw[e];exact aX rfl (ah.bm _) ⟨rfl,rfl⟩
variable{k:Nat}{l:List (List UInt8)}{w:aA}{ws:List aA}
def asb{s:br}(h:fu l w.au=aa k):ia l s (w::ws)=ia l (ln s (k:Nat)) ws:=by simp only[ia,h]
def asa{s:br}(h:fu l w.au=aj):ia l s (w::ws)=(0#64,aa w.pos):=by simp only[ia,h]
def Zp(b:Nat)(o:Option Int)(l:List (List UInt8))(ws:List aA)(h:BB D b o)(hl:l.length<=100000)(hw:ws.length<=1000000000):
 dY 279 [.ptr (.out b) 0,.sl .no 1 (cD l),.sl .no 2 (ws.map aA.enc)] D (.int .u64 ((ia l 0#64 ws).1.toNat:Nat)) (D.set b (qN (o.or (ia l 0#64 ws).2))):=by
 refine ajr.aV ?_;simp only[aU,am,a7,Nat.reduceAdd,sa,aN];refine cn (ws.length) (λi (x:br)=>⟨[.ptr (.out b) 0,.sl .no 1 (cD l),.any,.any,.any,.any,.any,.int .u64 (x.toNat:Nat),.any,.any,.any,.sl .no 2 (ws.map aA.enc),.int .i64 (ws.length:Nat),.int .i64 (i:Nat)]++aq 18 .any,[],D⟩) (λi x=>(ia l 0#64 ws=ia l x (ws.drop i))) λF hF JF aT=>⟨?_,?_,?_⟩
 .exact en aT (0#64) (rfl)
 .rintro i x hi hJ;rw[nr hi] at hJ;simp only[hF,aq,am,cc hi];refine ix (Av (cK hi)) ?_;simp only[am,Nat.reduceAdd,aA.enc];refine cl (xB l ws[i].au D hl) ?_;simp only[am,BY];cases hf:fu l ws[i].au with
  | none =>
   rw[asa hf] at hJ;simp only[am,yS];refine(JP b o ws[i].pos h).mono ?_;rintro v σ' ⟨rfl,rfl⟩;simp only[am,aI];exact aX rfl (ah.bm _) ⟨by rw[hJ];rfl,by rw[hJ]⟩
  | some k =>
   rw[asb hf] at hJ;simp only[am,Ea,cN];refine cl (FU x (k:Nat) D) ?_;simp only[am,aI,bJ hi];refine fk (ln x (k:Nat)) hi ?_ ?_ ?_ ?_ ?_ ?_
   .exact ey (aT _ _) (hJ)
   all_goals simp[hF,aq,am,bt,bR,du,V.lo]
 .rintro x hJ;rw[D6] at hJ;have e:D.set b (qN (o.or (ia l 0#64 ws).2))=D:=by rw[hJ];simp only[ia,Option.or_none];exact ah.Ae h
  simp only[hF,aq,am,aI,cE,aI];rw[e,hJ];refine aL ?_;simp[V.erase,ia]
def Kf:=af @am <| af @a7 <| af @sa <| af @bh.al <| af @Nd.al @Nd.fl
def axN:=af @am <| af @aI <| af @DU @bh.al
def at5(b:Nat)(o:Option Int)(f:bh)(n:Nd)(h:BB D b o)(hg:TZ D)(hl:f.an.length<=100000)(hk:n.ak.length<=1000000000)(hw:∀k∈n.ak,k.an.length<=1000000000):
 dY 280 [.ptr (.out b) 0,.agg f.enc,.agg n.enc] D (.int .u64 ((ry f 0#64 o n.ak).1.toNat:Nat)) (D.set b (qN (ry f 0#64 o n.ak).2)):=by
 refine ajs.aV ?_;simp only[aU,Kf,Nat.reduceAdd,aN];have nC:D.set b (qN o)=D:=ah.Ae h;refine cn (n.ak.length) (λi (x:br × Option Int)=>⟨[.ptr (.out b) 0,.any,.any,.any,.ptr (.aE 0) 0,.ptr (.aE 1) 0,.any,.int .u64 (x.1.toNat:Nat),.any,.any,.any,.any,.sl .no 5 (n.ak.map Nd.enc),.int .i64 (n.ak.length:Nat),.int .i64 (i:Nat)]++aq 28 .any,[f.enc,n.enc],D.set b (qN x.2)⟩) (λi x=>(ry f 0#64 o n.ak=ry f x.1 x.2 (n.ak.drop i))) λF hF JF aT=>⟨?_,?_,?_⟩
 .refine en aT ((0#64,o)) (rfl) ?_ ?_ ?_
  all_goals simp[hF,aq,am,bt,nC]
 .rintro i ⟨x,o'⟩ hi hJ;rw[nr hi] at hJ;simp only at hJ;have U:BB (D.set b (qN o')) b o' := iS;simp only[hF,aq,am,cc hi];refine ix (qv (cK hi)) ?_;simp only[Kf,Nat.reduceAdd];refine(xB f.an n.ak[i].au _ hl).mono ?_;rintro v bF ⟨rfl,rfl⟩;simp only[am,BY];cases hf:fu f.an n.ak[i].au with
  | none =>
   simp only[ry,hf] at hJ;simp only[am,Nd.fl,yS];refine(JP b o' n.ak[i].pos U).mono ?_;rintro v σ' ⟨rfl,rfl⟩;simp only[am,aI];exact aX rfl (ah.bm _) ⟨by rw[hJ];rfl,by rw[hJ]⟩
  | some k =>
   simp only[ry,hf] at hJ;simp only[am,bh.al,Nd.fl,Ea,cN];refine bK.intro (Zp b o' f.an n.ak[i].an U hl (hw _ (dj hi))) ?_;simp only[am,Rl.al];refine bK.intro (alw f.rel k (ia f.an 0#64 n.ak[i].an).1 (av6 hg h)) ?_;simp only[axN,bJ hi];refine fk ((x|||yo f.rel k (ia f.an 0#64 n.ak[i].an).1,o'.or (ia f.an 0#64 n.ak[i].an).2)) hi ?_ ?_ ?_ ?_ ?_ ?_
   .exact ey (aT _ _) (hJ)
   all_goals simp[hF,aq,am,bt,bR,du,V.lo,bh.cP,Nd.cP]
 .rintro⟨x,o'⟩ hJ;rw[D6] at hJ;simp only[hF,aq,am,aI,cE,aI];rw[hJ];refine aL ?_;simp[V.erase,ry]
def ase(b:Nat)(o:Option Int)(f:bh)(n:Nd)(h:BB D b o)(hl:f.an.length<=100000):
 dY 281 [.ptr (.out b) 0,.agg f.enc,.agg n.enc] D (.int .u64 ((pH f n).1.toNat:Nat)) (D.set b (qN (o.or (pH f n).2))):=by
 refine ajt.aV ?_;simp only[aU,Kf,Nat.reduceAdd];refine cl (xB f.an n.au _ hl) ?_;simp only[am,BY];cases hf:fu f.an n.au with
 | none =>
  simp only[am,Nd.fl,yS];refine(JP b o n.pos h).mono ?_;rintro v σ' ⟨rfl,rfl⟩;simp only[am];exact aX rfl (ah.bm _) ⟨by simp only[pH,hf];rfl,by simp only[pH,hf]⟩
 | some k =>
  have e:D.set b (qN (o.or (pH f n).2))=D:=by simp only[pH,hf,Option.or_none];exact ah.Ae h
  rw[e];simp only[am,bh.al,Ea,cN]
  by_cases h4:f.kind=4
  .simp only[am,Rl.al,bh.al,aK h4];refine cl (amM f.rel k D) ?_;simp only[am];refine aL ?_;simp[V.erase,pH,hf,h4]
  .simp only[am,bh.al,eB,aJ h4];refine cl (auj f.an.length k D) ?_;simp only[am,DS];refine aL ?_;simp[V.erase,pH,hf,h4]
def anC(f:bh)(D:ah):a8 277 [.agg f.enc] D (.int .i64 (BI f)):=by
 refine ajp.aV ?_;simp only[aU,am,a7,Nat.reduceAdd,bh.al]
 by_cases h2:f.kind=2
 .simp only[am,aK h2];refine aL ?_;simp[V.erase,BI,h2]
 .simp only[am,aJ h2]
  by_cases h3:f.kind=3
  .simp only[am,aK h3];refine aL ?_;simp[V.erase,BI,h3]
  .simp only[am,aJ h3];refine aL ?_;simp[V.erase,BI,h2,h3]
def awW(b:Nat)(o:Option Int)(f:bh)(n:Nd)(h:BB D b o)(hg:TZ D)(hl:f.an.length<=100000)(hk:n.an.length<=1000000000/\n.ak.length<=1000000000)(hw:∀k∈n.ak,k.an.length<=1000000000):
 dY 234 [.ptr (.out b) 0,.agg f.enc,.agg n.enc] D (.int .u64 ((nZ f n o).1.toNat:Nat)) (D.set b (qN (nZ f n o).2)):=by
 refine aiI.aV ?_;simp only[aU,Kf,Nat.reduceAdd];refine bK.intro (anC f D) ?_;simp only[am,Nd.fl]
 by_cases hq:n.kind=BI f
 .simp only[am,bh.al,aK hq]
  by_cases h2:f.kind=2
  .have e:nZ f n o=((ia f.an 0#64 n.an).1,o.or (ia f.an 0#64 n.an).2):=by rw[nZ,aF hq,aF h2]
   simp only[am,bh.al,Nd.fl,aK h2];refine(Zp b o f.an n.an h hl hk.1).mono ?_;rintro v σ' ⟨rfl,rfl⟩;simp only[am];exact aX rfl (ah.bm _) ⟨by rw[e];rfl,by rw[e]⟩
  .simp only[am,aJ h2]
   by_cases h3:f.kind=3
   .have e:nZ f n o=ry f 0#64 o n.ak:=by rw[nZ,aF hq,aB h2,aF h3]
    simp only[am,bh.al,Nd.al,aK h3];refine(at5 b o f n h hg hl hk.2 hw).mono ?_;rintro v σ' ⟨rfl,rfl⟩;simp only[am];exact aX rfl (ah.bm _) ⟨by rw[e];rfl,by rw[e]⟩
   .have e:nZ f n o=((pH f n).1,o.or (pH f n).2):=by rw[nZ,aF hq,aB h2,aB h3]
    simp only[am,bh.al,Nd.al,aJ h3];refine(ase b o f n h hl).mono ?_;rintro v σ' ⟨rfl,rfl⟩;simp only[am];exact aX rfl (ah.bm _) ⟨by rw[e];rfl,by rw[e]⟩
 .have e:nZ f n o=(0#64,o.or (aa n.pos)):=by rw[nZ,aB hq]
  simp only[am,Nd.fl,aJ hq];refine(JP b o n.pos h).mono ?_;rintro v σ' ⟨rfl,rfl⟩;simp only[am];exact aX rfl (ah.bm _) ⟨by rw[e];rfl,by rw[e]⟩
def axO:=af @am <| af @a7 <| af @bz.al @Nd.al
def arO(s:bz)(n:Nd)(D:ah):a8 232 [.agg s.enc,.agg n.enc] D (.bH [.sl .no 5 ((kB s n).map Nd.enc),.bool (rn s n)]):=by
 refine aiG.aV ?_;simp only[aU,axO,Nat.reduceAdd];cases ht:s.tuple with
 | false =>
  simp only[am,Nd.al];refine aL ?_;simp[V.erase,bD,kB,rn,ht]
 | true =>
  simp only[am,Nd.fl]
  by_cases h4:n.kind=4
  .simp only[am,aN,bz.al,Nd.fl,aN,aK h4]
   by_cases hl:n.ak.length=s.bC.length
   .simp only[aK (show(n.ak.length:Int)=s.bC.length by omega)];refine aL ?_;simp[V.erase,bD,kB,rn,ht,h4,hl]
   .simp only[aJ (show ¬(n.ak.length:Int)=s.bC.length by omega)];refine aL ?_;simp[V.erase,bD,kB,rn,ht,h4,hl]
  .simp only[am,aJ h4];refine aL ?_;simp[V.erase,bD,kB,rn,ht,h4]
def Nd.ok(n:Nd):Prop:=n.an.length<=1000000000/\n.ak.length<=1000000000/\∀k∈n.ak,k.an.length<=1000000000
variable{s:bz}
def LB{n:Nd}(h:(rn s n&&fH s&&n.jl)=ar):gx s n=(.zero,aa n.pos):=by rw[gx,h];rfl
def afD{n:Nd}(U:rn s n=ab)(h2:fH s=ab)(h3:n.jl=ab):gx s n=vW s (kB s n):=by rw[gx,U,h2,h3];rfl
def Zf(h:fH s=ab):1<=s.bC.length/\s.bC.length<=8/\(s.tuple=ar->s.bC.length=1):=by
 simp only[fH,bg,bQ,j1] at h;refine⟨h.1.1.1,h.1.1.2,λht=>?_⟩
 rcases h.1.2 with h | h
 .rw[ht] at h;simp at h
 .exact h
def arP{n:Nd}(U:rn s n=ab)(h2:fH s=ab):(kB s n).length=s.bC.length:=by
 have hl:=(Zf h2).2.2;unfold kB;unfold rn at U;cases ht:s.tuple with
 | false=>simp[hl ht]
 | true=>rw[ht] at U;simpa using And.right (by simpa using U)
def axP:=af @am <| af @a7 <| af @bz.al <| af @bn.al @Nd.al
def LC(s:bz)(n:Nd)(hg:TZ D)(ck:s.ok)(hn:∀k∈kB s n,Nd.ok k)(hwt:n.wt<=aQ):
 a8 184 [.agg s.enc,.agg n.enc] D (.bH [.agg (gx s n).1.enc,.agg (v_ (gx s n).2)]):=by
 refine ahY.aV ?_;simp only[aU,axP,Nat.reduceAdd];refine cl (arO s n D) ?_;simp only[am];have done:∀(e:bn × Option Int) (t:List V) (l:List (List V)) (bF:ah),e=gx s n->D.sub bF->mw (λv σ' => v=V.bH [.agg (gx s n).1.enc,.agg (v_ (gx s n).2)]/\σ' = D) ⟨t,l,bF⟩ (.bH [.agg e.1.enc,.agg (v_ e.2)]):=λe t l bF he hs=>by
  subst he;exact aX (by simp[V.c9,bT,bn.dV,v_]) hs ⟨by simp[V.erase,bD,bn.dL,v_],rfl⟩
 cases hp:rn s n with
 | false =>
  simp only[am,Nat.reduceAdd,bn.al,Nd.fl];exact done (.zero,aa n.pos) _ _ _ (LB (by rw[hp];rfl)).symm (ah.bm _)
 | true =>
  simp only[am,bz.al];refine cl (au1 s hg ck) ?_;cases hr:fH s with
  | false =>
   simp only[am,Nat.reduceAdd,bn.al,Nd.fl];exact done (.zero,aa n.pos) _ _ _ (LB (by rw[hp,hr];rfl)).symm (ah.bm _)
  | true =>
   simp only[am,Nd.al];refine cl (Sy _ n D (bY _) hwt) ?_;cases hc:n.jl with
   | false =>
    simp only[am,Nat.reduceAdd,bn.al,Nd.fl];exact done (.zero,aa n.pos) _ _ _ (LB (by rw[hp,hr,hc];rfl)).symm (ah.bm _)
   | true =>
    have uR:=afD hp hr hc;obtain⟨C_,hl8,_⟩:=Zf hr;have qk:=arP hp hr;simp only[am,Nat.reduceAdd];refine kY λb hb=>?_
    have hs:∀c,D.sub (D.set b c):=λc=>jg hb
    have hgb:∀c,TZ (D.set b c):=λc=>(hs c).2.2 _ _ hg
    simp only[am,aN,bz.al,aN];refine cn (s.bC.length) (λi (x:bn × Option Int)=>⟨[.any,.any,.any,.any,.ptr (.aE 2) 0,.ptr (.aE 3) 0,.ptr (.aE 4) 0,.sl .no 5 ((kB s n).map Nd.enc),.any,.ptr (.out b) 0,.any,.any,.any,.any,.any,.any,.any,.any,.any,.any,.any,.any,.any,.any,.any,.any,.any,.any,.any,.any,.any,.any,.any,.any,.any,.any,.any,.sl .no 67 (s.bC.map bh.enc),.int .i64 (s.bC.length:Nat),.int .i64 (i:Nat)]++aq 26 .any,[s.enc,n.enc,bn.zero.enc,[.int .i64 0,.int .i64 0],x.1.enc],D.set b (qN x.2)⟩) (λi x=>(EH s (kB s n) i x)) λF hF JF aT=>⟨?_,?_,?_⟩
    .refine en aT ((.zero,aj)) (alg) ?_ ?_ ?_
     all_goals simp[hF,aq,am,bt,qN]
    .rintro i ⟨e,o⟩ hi hJ;have MT:i<(kB s n).length:=by omega
     have h8:i<8:=by omega
     have eE:=alf hJ;rw[ny hi,ny MT] at eE;have Fh:=hn _ (dj MT);simp only[hF,aq,am,cc hi];refine ix (HK hi) ?_;simp only[am,Nat.reduceAdd,bh.al];refine ix (qv (cK MT)) ?_;simp only[am,bh.al,Nd.al];refine bK.intro (awW b o s.bC[i] (kB s n)[i] iS (hgb _) (ck.2 _ (dj hi)) ⟨Fh.1,Fh.2.1⟩ Fh.2.2) ?_;simp only[am,cX];refine jC ?_;simp only[Ch,bn.Aq h8,bn.Ar h8,bJ hi];refine fk ((e.put i (nZ s.bC[i] (kB s n)[i] o).1,(nZ s.bC[i] (kB s n)[i] o).2)) hi ?_ ?_ ?_ ?_ ?_ ?_
     .exact ey (aT _ _) (eE)
     all_goals simp[hF,aq,am,bt,bR,du,V.lo,Nd.cP,bz.cP,bn.cP]
    .rintro⟨e,o⟩ hJ;have jm:=ale hJ;rw[<-uR] at jm;simp only[hF,aq,am,aI,cE,aI,qN];cases o with
     | some p =>
      simp only[am,Nat.reduceAdd,bn.al,Ec,yR];exact done (.zero,aa p) _ _ _ (by rw[jm];rfl) (hs _)
     | none =>
      simp only[am,Nat.reduceAdd,bn.al,Cv];exact done (e,aj) _ _ _ (by rw[jm];rfl) (hs _)
def aiz:aS prog 226 (sq [rg 4 [ox 2 5 0,ox 3 5 1,oz 2],sq [rg 7 [fo 0 2,fo 0 3,nb .neq 8,gB,fo 2 2,fo 2 3,nE .neq 14,gZ,gB,fo 3 2,nL,fo 3 3,nL,nb .neq 22,gZ,gB,fo 4 2,nL,fo 4 3,nL,nb .neq 31,gZ],cr 36 4 [oz 2]],sq [rg 37 [fo 3 2,nL,oi 0],lp 39 0 (sq [rg 42 [om 40,o1 5],dg 43 [fo 3 2,om 5,nA 2 44,nF 0,fo 3 3,om 5,nA 2 50,nF 0,nE .neq 48],cr 55 4 [oz 2]]) 56],sq [rg 57 [fo 4 2,nL,oi 0],lp 59 2 (sq [rg 62 [om 60,o1 6],dg 63 [fo 4 2,om 6,nA 5 64,nl 5,fo 4 3,om 6,nA 5 69,nl 5,oC 226 [67,72],nn],cr 74 4 [oz 2]]) 75],rg 4 [oq (.mv (.c (.bool ab)))],.ret]) [.tmp 4] 76:=aW func226
def ND(n m:Nd)(D:ah)(i:Nat):St :=
 ⟨[.any,.any,.ptr (.aE 0) 0,.ptr (.aE 1) 0]++aq 35 .any++[.int .i64 n.an.length,.int .i64 (i:Nat)]++aq 35 .any,[n.enc,m.enc],D⟩
def NC(n m:Nd)(D:ah)(i:Nat):St :=
 ⟨[.any,.any,.ptr (.aE 0) 0,.ptr (.aE 1) 0]++aq 55 .any++[.int .i64 n.ak.length,.int .i64 (i:Nat)]++aq 15 .any,[n.enc,m.enc],D⟩
def aun:∀(k:Nat) (n m:Nd) (D:ah),n.wt<=k->n.wt<=aQ->a8 226 [.agg n.enc,.agg m.enc] D (.bool (n.c_ m)):=by
 intro k;induction k with
 | zero=>intro n m D h _;cases n;simp only[Nd.wt] at h;omega
 | succ k x6 =>
  intro n m D hk hw;have hn:=DY n;have lB:n.wt<2^62:=by simp only[aQ] at hw;omega
  rw[Nd.DG];refine aiz.aV ?_;simp only[aU,ug,Nat.reduceAdd]
  by_cases k1:n.kind=m.kind
  case' neg =>
   simp only[am,aJ k1];refine aL ?_;simp[V.erase]
  simp only[am,b9,Nd.fl,k1]
  by_cases k2:n.au=m.au
  case' neg =>
   simp only[am,aJ k2];refine aL ?_;simp[V.erase]
  simp only[am,aN,b9,Nd.fl,k2]
  by_cases k3:n.an.length=m.an.length
  case' neg =>
   have k3' : ¬(n.an.length:Int)=m.an.length:=by omega
   simp only[am,aJ k3']
   have:eH n.an m.an=false:=by cases hs:eH n.an m.an with
    | false=>rfl
    | true=>exact absurd (YP hs) k3
   refine aL ?_;simp[V.erase,this]
  simp only[am,aN,b9,Nd.fl,k3]
  by_cases k4:n.ak.length=m.ak.length
  case' neg =>
   have k4' : ¬(n.ak.length:Int)=m.ak.length:=by omega
   simp only[am,aJ k4']
   have:dT n.ak m.ak=false:=by cases hs:dT n.ak m.ak with
    | false=>rfl
    | true=>exact absurd (YW hs) k4
   refine aL ?_;simp[V.erase,this]
  simp only[am,aN,b9,Nd.fl,k4];refine jX (λp:{i:Nat // i<=n.an.length/\eH (n.an.take i) (m.an.take i)=ab}=>ND n m D p.1) (λp=>n.an.length - p.1) ?_ ?_
  .refine bI.enter ⟨0,by simp,by simp[eH]⟩ ?_ cT.rfl bW.rfl;simp[ND,aq,am,k3]
  rintro⟨i,hi,ha⟩;simp only[ND,aq,am];refine fx ?_ ?_
  .intro aD;have aD:i<n.an.length:=by simpa using aD
   obtain⟨dr,ka⟩:=YO aD (by omega) k3 ha;simp only[am,Nd.fl];refine ix (Av (cK aD)) ?_;simp only[am,Nd.fl,aA.enc];refine ix (Av (cK (show i<m.an.length by omega))) ?_;simp only[am,aA.enc]
   by_cases he:n.an[i].au=m.an[i].au
   .simp only[am,b9,he];rw[wrap_i64];exact bI.again ⟨i+1,aD,by rw[dr];exact aK he⟩ (by simp;omega) (by simp[am]) cT.rfl bW.rfl
   .simp only[am,aJ he];refine aL ?_;simp[V.erase,ka (aJ he)]
  intro aD;have aD:i=n.an.length:=by simp at aD;omega
  subst aD;rw[dX,k3,dX] at ha;simp only[am,aN,Nd.fl];refine jX (λp:{i:Nat // i<=n.ak.length/\dT (n.ak.take i) (m.ak.take i)=ab}=>NC n m D p.1) (λp=>n.ak.length - p.1) ?_ ?_
  .refine bI.enter ⟨0,by simp,by simp[dT]⟩ ?_ cT.rfl bW.rfl;simp[NC,aq,am,k4]
  rintro⟨i,hi,hb⟩;simp only[NC,aq,am];refine fx ?_ ?_
  .intro aD;have aD:i<n.ak.length:=by simpa using aD
   have sH:=qp (n:=n) (dj aD);obtain⟨dr,ka⟩:=YV aD (by omega) k4 hb;simp only[am,Nd.fl];refine ix (qv (cK aD)) ?_;simp only[am,Nd.al,Nd.fl];refine ix (qv (cK (show i<m.ak.length by omega))) ?_;simp only[am,Nd.al];refine bK.intro (x6 n.ak[i] m.ak[i] _ (by omega) (by omega)) ?_;cases he:n.ak[i].c_ m.ak[i]
   .simp only[am];refine aL ?_;simp[V.erase,ka he]
   .simp only[am];rw[wrap_i64];exact bI.again ⟨i+1,aD,by rw[dr];exact he⟩ (by simp;omega) (by simp[am]) cT.rfl bW.rfl
  intro aD;have aD:i=n.ak.length:=by simp at aD;omega
  subst aD;rw[dX,k4,dX] at hb;simp only[am];refine aL ?_;simp[V.erase,ha,hb]
def aj':aS prog 47 (sq [rg 2 [ox 1 5 0,oz 1],sq [rg 3 [fo 0 1],.block 0 (sq [sq [rg 6 [oB .eql 4 1,o1 5],cd 5 .skip (rg 7 [oB .eql 4 2,o1 5])],cd 5 (sq [rg 8 [fo 2 1,o1 2],.ret]) (sq [rg 11 [oB .eql 4 3,o1 10],cd 10 (sq [rg 12 [fo 3 1,oc 77 [.c (.sl .aZ 5 []),.s 13],oq (.cat (.c (.aG [123])) (.s 14)),oq (.cat (.s 15) (.c (.aG [125]))),o1 2],.ret]) (sq [rg 18 [oB .eql 4 4,o1 17],cd 17 (sq [rg 19 [fo 4 1,oc 77 [.s 20,.c (.sl .aZ 2 [])],oq (.cat (.c (.aG [40])) (.s 21)),oq (.cat (.s 22) (.c (.aG [41]))),o1 2],.ret]) (sq [rg 25 [oB .eql 4 5,o1 24],cd 24 (sq [rg 26 [fo 4 1,oc 77 [.s 27,.c (.sl .aZ 2 [])],oq (.cat (.c (.aG [91])) (.s 28)),oq (.cat (.s 29) (.c (.aG [93]))),o1 2],.ret]) (sq [rg 32 [oB .eql 4 6,o1 31],cd 31 (sq [dg 33 [of 2 1,mM [1],no,oq (.cat (.s 34) (.c (.aG [58,123]))),fo 3 1,oc 77 [.c (.sl .aZ 5 []),.s 37],oq (.cat (.s 35) (.s 38)),oq (.cat (.s 39) (.c (.aG [125]))),o1 2],.ret]) (sq [rg 42 [oB .eql 4 7,o1 41],cd 41 (sq [sq [rg 43 [fo 4 1,nL,nB .eql 0],cr 46 2 [oq (.mv (.c (.aG [35])))]],rg 47 [fo 4 1,nI 5 0,nl 5,oC 47 [50],oq (.cat (.c (.aG [35])) (.s 51)),o1 2],.ret]) (sq [rg 54 [oB .eql 4 8,o1 53],cd 53 (sq [rg 55 [fo 4 1,oc 77 [.s 56,.c (.sl .aZ 2 [])],oq (.cat (.c (.aG [43,40])) (.s 57)),oq (.cat (.s 58) (.c (.aG [41]))),o1 2],.ret]) (sq [rg 61 [oB .eql 4 9,o1 60],cd 60 (sq [rg 62 [fo 4 1,oc 77 [.s 63,.c (.sl .aZ 2 [])],oq (.cat (.c (.aG [38,40])) (.s 64)),oq (.cat (.s 65) (.c (.aG [41]))),o1 2],.ret]) (sq [rg 68 [oB .eql 4 10,o1 67],cd 67 (sq [sq [rg 69 [fo 3 1,nL,nB .eql 0],cr 72 73 [fo 4 1,oc 77 [.s 74,.c (.sl .aZ 2 [])],oq (.cat (.c (.aG [91])) (.s 75)),oq (.cat (.s 76) (.c (.aG [93]))),o1 2]],dg 78 [fo 4 1,oc 77 [.s 79,.c (.sl .aZ 2 [])],oq (.cat (.c (.aG [91])) (.s 80)),oq (.cat (.s 81) (.c (.aG [124]))),of 3 1,mM [0],no,oc 77 [.c (.sl .aZ 5 []),.s 84],oq (.cat (.s 82) (.s 85)),oq (.cat (.s 86) (.c (.aG [93]))),o1 2],.ret]) (sq [rg 89 [oB .eql 4 11,o1 88],ci 88 (sq [sq [rg 90 [fo 4 1,nL,nB .eql 0],cr 93 94 [fo 2 1,oq (.cat (.s 95) (.c (.aG [61]))),o1 2]],dg 97 [of 2 1,mM [1],no,oq (.cat (.s 98) (.c (.aG [61]))),fo 4 1,nI 5 0,nl 5,oC 47 [103],oq (.cat (.s 99) (.s 104)),o1 2],.ret])])])])])])])])])])])],rg 2 [oz 1],.ret]) [.tmp 2] 106:=aW func47
def akp:aS prog 77 (sq [rg 4 [oz 1],rg 5 [oz 1],sq [rg 6 [oi 0],bl 0 (sq [sq [rg 8 [om 6,om 0,nL,nb .lss 8],cx 11 0],.block 1 (sq [sq [rg 14 [om 6,nB .gtr 0],ci 15 (rg 16 [om 5,oq (.cat (.s 16) (.c (.aG [44]))),o1 5])],rg 18 [om 5,om 0,om 6,nA 5 19,nl 5,oC 47 [22],oq (.cat (.s 18) (.s 23)),o1 5]]),rg 12 [ic 6]])],sq [rg 7 [oi 0],bl 2 (sq [sq [rg 25 [om 7,om 1,nL,nb .lss 25],cx 28 2],.block 3 (sq [sq [rg 31 [om 7,nB .gtr 0],ci 32 (rg 33 [om 5,oq (.cat (.s 33) (.c (.aG [44]))),o1 5])],rg 35 [om 5,om 1,om 7,nA 2 36,nF 0,oq (.cat (.s 35) (.s 40)),o1 5]]),rg 29 [ic 7]])],rg 42 [om 5,o1 4],.ret]) [.tmp 4] 43:=aW func77
def ane(a b:List (List UInt8)):(bX a).length<=(bX (a++b)).length:=by
 cases a with
 | nil=>simp[bX]
 | cons x xs=>simp only[bX,il,xd,bM];omega
def IN(L:List (List UInt8))(i:Nat):(bX (L.take i)).length<=(bX L).length:=by
 have:=ane (L.take i) (L.drop i)
 rwa [rG] at this
def IM{L:List (List UInt8)}(h:i<L.length):bX (L.take (i+1))=bX (L.take i)++(if 0<i then [44] else [])++L[i]:=by
 rw[DM (cK h),NO,iN,xh (by omega)]
def NI(Z τ' : Tk)(l:List Nd)(w:List aA)(D:ah)(i:Nat):St :=
 ⟨[.sl Z 5 (l.map Nd.enc),.sl τ' 2 (w.map aA.enc),.any,.any,.any,.aG (bX ((l.map Nd.cY).take i)),.int .i64 (i:Nat)]++aq 36 .any,[],D⟩
def NJ(τ' : Tk)(s:List UInt8)(w:List aA)(D:ah)(i:Nat):St :=
 ⟨[.any,.sl τ' 2 (w.map aA.enc),.any,.any,.any,.aG (s++bX ((w.map aA.au).take i)),.any,.int .i64 (i:Nat)]++aq 35 .any,[],D⟩
def aaj{Z τ' : Tk}(l:List Nd)(w:List aA)(D:ah)(hl:l.length<=aQ)(hw:w.length<=aQ)(hs:(bX (l.map Nd.cY)).length+(bX (w.map aA.au)).length<=aQ)
 (ih:∀m∈l,a8 47 [.agg m.enc] D (.aG m.cY)) :
 a8 77 [.sl Z 5 (l.map Nd.enc),.sl τ' 2 (w.map aA.enc)] D (.aG (bX (l.map Nd.cY)++bX (w.map aA.au))):=by
 simp only[aQ] at hl hw hs;refine akp.aV ?_;simp only[aU,am,a7,Nat.reduceAdd];refine jX (λp:{i:Nat // i<=l.length}=>NI Z τ' l w D p.1) (λp=>l.length - p.1) ?_ ?_
 .refine bI.enter ⟨0,by simp⟩ ?_ cT.rfl bW.rfl;simp[NI,aq,am,bX]
 rintro⟨i,hi⟩;simp only[NI,aq,am,aN];refine fx ?_ ?_
 .intro aD;have aD:i<l.length:=by simpa using aD
  have dr:=IM (L:=l.map Nd.cY) (i:=i) (by simpa using aD);have hle:=IN (l.map Nd.cY) (i+1);have wi:IntKind.i64.wrap ((i:Int)+1)=(i:Int)+1:=wrap_i64 (by omega) (by omega);rw[AL] at dr;rw[dr] at hle;simp only[bM] at hle;simp only[am]
  by_cases h0:0<i
  case' pos =>
   rw[aF h0] at dr hle;simp only[dm,dQ] at hle;simp only[am,aK (show(0:Int)<i by omega)];refine⟨by simp[aQ];omega,?_⟩
  case' neg =>
   rw[aB h0] at dr hle;simp only[dQ,eD] at hle dr;simp only[am,aJ (show ¬(0:Int)<i by omega)]
  all_goals
   refine ix (qv (cK aD)) ?_;simp only[am,Nd.al];refine cl (ih l[i] (dj aD)) ?_;simp only[am];refine⟨by simp[aQ];omega,?_⟩;simp only[wi];exact bI.again ⟨i+1,aD⟩ (by simp;omega) (by simp[am,dr]) cT.rfl bW.rfl
 intro aD;have aD:i=l.length:=by simp at aD;omega
 subst aD;rw[show(l.map Nd.cY).take l.length=l.map Nd.cY by rw[<-aN (f:=Nd.cY),dX]];simp only[am];generalize bX (l.map Nd.cY)=s at hs ⊢;refine jX (λp:{i:Nat // i<=w.length}=>NJ τ' s w D p.1) (λp=>w.length - p.1) ?_ ?_
 .refine bI.enter ⟨0,by simp⟩ ?_ cT.rfl bW.rfl;simp[NJ,aq,am,bX]
 rintro⟨i,hi⟩;simp only[NJ,aq,am,aN];refine fx ?_ ?_
 .intro aD;have aD:i<w.length:=by simpa using aD
  have dr:=IM (L:=w.map aA.au) (i:=i) (by simpa using aD);have hle:=IN (w.map aA.au) (i+1);have wi:IntKind.i64.wrap ((i:Int)+1)=(i:Int)+1:=wrap_i64 (by omega) (by omega);rw[AL] at dr;rw[dr] at hle;simp only[bM] at hle;simp only[am]
  by_cases h0:0<i
  case' pos =>
   rw[aF h0] at dr hle;simp only[dm,dQ] at hle;simp only[am,aK (show(0:Int)<i by omega)];refine⟨by simp[aQ];omega,?_⟩
  case' neg =>
   rw[aB h0] at dr hle;simp only[dQ,eD] at hle dr;simp only[am,aJ (show ¬(0:Int)<i by omega)]
  all_goals
   refine ix (Av (cK aD)) ?_;simp only[am,aA.enc];refine⟨by simp[aQ];omega,?_⟩;simp only[wi];exact bI.again ⟨i+1,aD⟩ (by simp;omega) (by simp[am,dr]) cT.rfl bW.rfl
 intro aD;have aD:i=w.length:=by simp at aD;omega
 subst aD;rw[show(w.map aA.au).take w.length=w.map aA.au by rw[<-aN (f:=aA.au),dX]];simp only[am];exact rt
def ZE:∀(k:Nat) (n:Nd) (D:ah),n.wt<=k->n.wt<=aQ->a8 47 [.agg n.enc] D (.aG n.cY):=by
 intro k;induction k with
 | zero=>intro n D h _;cases n;simp only[Nd.wt] at h;omega
 | succ k x6 =>
  intro n D hk hw;have ih:∀m∈n.ak,∀D,a8 47 [.agg m.enc] D (.aG m.cY):=λm hm D=>by
   have U:=qp hm;exact x6 m D (by omega) (by omega)
  have hn:=DY n;have U:=FE n.ak (vr n.ak);have h2:=DZ n.an;have h3:n.au.length+fV n.ak+e_ n.an+4<=n.wt:=by cases n;simp only[Nd.wt,Nd.ak,Nd.an,Nd.au];omega
  have h4:=MK n.ak (vr n.ak);have nD:a8 77 [.sl .no 5 (n.ak.map Nd.enc),.sl .aZ 2 []] D (.aG (bX (de n.ak))):=by
   have:=aaj (Z:=.no) (τ' := .aZ) n.ak [] D (by omega) (by simp) (by rw[<-yz,show bX (([]:List aA).map aA.au)=[] from rfl,dQ];omega) λm hm=>ih m hm D
   simpa [bX,<-yz] using this
  have M7:a8 77 [.sl .aZ 5 [],.sl .no 2 (n.an.map aA.enc)] D (.aG (fR n.an)):=by
   have:=aaj (Z:=.aZ) (τ' := .no) [] n.an D (by simp) (by omega) (by rw[show bX (n.an.map aA.au)=fR n.an from rfl,show bX (([]:List Nd).map Nd.cY)=[] from rfl,dQ];omega) λm hm=>ih m (by simp at hm) D
   simpa [bX,fR] using this
  have e:n.cY=if n.kind=1\/n.kind=2 then n.au else if n.kind=3 then [123]++fR n.an++[125] else if n.kind=4 then [40]++bX (de n.ak)++[41] else if n.kind=5 then [91]++bX (de n.ak)++[93]
   else if n.kind=6 then n.au++[58,123]++fR n.an++[125] else if n.kind=7 then [35]++l9 (de n.ak) else if n.kind=8 then [43,40]++bX (de n.ak)++[41] else if n.kind=9 then [38,40]++bX (de n.ak)++[41]
   else if n.kind=10 then([91]++bX (de n.ak))++(if 0<n.an.length then [124]++fR n.an else [])++[93] else if n.kind=11 then n.au++[61]++l9 (de n.ak) else []:=by cases n;rw[Nd.cY];rfl
  rw[e];refine aj'.aV ?_;simp only[aU,ug,Nat.reduceAdd]
  by_cases k1:n.kind=1
  .simp only[am,Nd.fl,aK k1];refine aL ?_;simp[V.erase,k1]
  simp only[am,aJ k1]
  by_cases k2:n.kind=2
  .simp only[am,Nd.fl,aK k2];refine aL ?_;simp[V.erase,k2]
  simp only[am,aJ k2]
  by_cases k3:n.kind=3
  .simp only[am,Nd.fl,aK k3];refine cl (M7) ?_;simp only[am];refine⟨by simp;omega,by simp;omega,?_⟩;refine aL ?_;simp[V.erase,k3]
  simp only[am,aJ k3]
  by_cases k4:n.kind=4
  .simp only[am,Nd.fl,aK k4];refine cl (nD) ?_;simp only[am];refine⟨by simp;omega,by simp;omega,?_⟩;refine aL ?_;simp[V.erase,k4]
  simp only[am,aJ k4]
  by_cases k5:n.kind=5
  .simp only[am,Nd.fl,aK k5];refine cl (nD) ?_;simp only[am];refine⟨by simp;omega,by simp;omega,?_⟩;refine aL ?_;simp[V.erase,k5]
  simp only[am,aJ k5]
  by_cases k6:n.kind=6
  .simp only[am,Nd.fl,aK k6];refine⟨by simp;omega,?_⟩;refine bK.intro (M7) ?_;simp only[am,Nd.fl];refine⟨by simp;omega,by simp;omega,?_⟩;refine aL ?_;simp[V.erase,k6]
  simp only[am,aJ k6]
  by_cases k7:n.kind=7
  .simp only[am,aN,Nd.fl,aK k7];cases hc:n.ak with
   | nil =>
    simp only[am,b9,fe,dQ,uj];refine aL ?_;simp[V.erase,k7,l9,de]
   | cons m ms =>
    rw[hc] at h4;simp only[de,l9] at h4;simp only[am,Nd.fl,aJ (show ¬(((m::ms).length:Nat):Int)=0 by simp;omega),hc];refine tU (c:=m.enc) (by simp) ?_;simp only[am,Nd.al];refine cl (ih m (by rw[hc];simp) D) ?_;simp only[am];refine⟨by have:=DX (n:=m) (l:=m::ms) (by simp);have:=vr [m] m (by simp);simp;rw[hc] at h3;omega,?_⟩;refine aL ?_;simp[V.erase,k7,l9,de]
  simp only[am,aJ k7]
  by_cases k8:n.kind=8
  .simp only[am,Nd.fl,aK k8];refine cl (nD) ?_;simp only[am];refine⟨by simp;omega,by simp;omega,?_⟩;refine aL ?_;simp[V.erase,k8]
  simp only[am,aJ k8]
  by_cases k9:n.kind=9
  .simp only[am,Nd.fl,aK k9];refine cl (nD) ?_;simp only[am];refine⟨by simp;omega,by simp;omega,?_⟩;refine aL ?_;simp[V.erase,k9]
  simp only[am,aJ k9]
  by_cases sQ:n.kind=10
  .simp only[am,aN,Nd.fl,aK sQ]
   by_cases hz:n.an.length=0
   .simp only[am,b9,Nd.fl,hz,uj];refine cl (nD) ?_;simp only[am];refine⟨by simp;omega,by simp;omega,?_⟩;refine aL ?_;simp[V.erase,sQ]
   .simp only[am,Nd.fl,aJ (show ¬((n.an.length:Nat):Int)=0 by omega)];refine bK.intro (nD) ?_;simp only[am,Nd.fl];refine⟨by simp;omega,by simp;omega,?_⟩;refine bK.intro (M7) ?_;simp only[am,Nd.fl];refine⟨by simp;omega,by simp;omega,?_⟩;refine aL ?_;simp[V.erase,sQ,Nat.pos_of_ne_zero hz]
  simp only[am,aJ sQ]
  by_cases wH:n.kind=11
  .simp only[am,aN,Nd.fl,aK wH];cases hc:n.ak with
   | nil =>
    simp only[am,b9,Nd.fl,hc,fe,dQ,uj];refine⟨by simp;omega,?_⟩;refine aL ?_;simp[V.erase,wH,l9,de]
   | cons m ms =>
    simp only[am,Nd.fl,aJ (show ¬(((m::ms).length:Nat):Int)=0 by simp;omega),hc];refine⟨by simp;omega,?_⟩;refine tU (c:=m.enc) (by simp) ?_;simp only[am,Nd.al];refine bK.intro (ih m (by rw[hc];simp) D) ?_;simp only[am,Nd.fl];refine⟨by have:=DX (n:=m) (l:=m::ms) (by simp);have:=vr [m] m (by simp);simp;rw[hc] at h3;omega,?_⟩;refine aL ?_;simp[V.erase,wH,l9,de]
  simp only[am,aJ wH];refine aL ?_;simp[V.erase,k1,k2,k3,k4,k5,k6,k7,k8,k9,sQ,wH]
def s1:List UInt8:=[43,40,120,44,35,123,97,44,98,125,41]
def s2:List UInt8:=[43,40,41]
def s3:List UInt8:=[91,102,61,120,44,103,61,35,104,105,124,114,93]
def aj3:aS prog 34 (sq [rg 4 [oz 2],sq [rg 6 [om 0,nL,om 1,nL,nb .neq 7],cr 10 4 [oz 2]],sq [rg 5 [oi 0],bl 0 (sq [sq [rg 11 [om 5,om 0,nL,nb .lss 11],cx 14 0],.block 1 (sq [dg 17 [om 0,om 5,nA 10 17,nl 10,om 1,om 5,nA 10 21,nl 10,oq (.l8 ab [1,1,1,1,1,1,1,1,1,1] (.s 20) (.s 24))],cr 25 4 [oz 2]]),rg 15 [ic 5]])],rg 4 [oq (.mv (.c (.bool ab)))],.ret]) [.tmp 4] 26:=aW func34
def ako:aS prog 76 (sq [rg 4 [ox 2 2 0,oi 0,oi 0],rg 6 [oi (-1),oi (-1)],sq [rg 10 [fo 0 2,nL,oi 0],lp 12 0 (sq [rg 15 [om 13,o1 8],rg 16 [om 6,nB .lss 0,gA,fo 0 2,om 8,nA 3 20,nF 0,om 1,nE .eql 24,gZ],ci 27 (rg 28 [om 8,o1 6])]) 29],sq [rg 30 [fo 1 2,nL,oi 0],lp 32 2 (sq [rg 35 [om 33,o1 9],rg 36 [om 7,nB .lss 0,gA,fo 1 2,om 9,nA 3 40,nF 0,om 1,nE .eql 44,gZ],ci 47 (rg 48 [om 9,o1 7])]) 49],rg 50 [om 6,om 7,ot 4 50,o1 5],.ret]) [.tmp 4,.tmp 5] 52:=aW func76
def ahX:aS prog 183 (sq [rg 7 [ox 3 2 0,ox 5 5 2,oR 6 x7,oz 2],sq [rg 10 [fo 0 5,nB .eql 1],cr 12 13 [ol 2 3,om 1,fo 2 5,oC 231 [13,14,16],oe 17 0,oe 17 1,os 10 6 18,o1 7]],dA 21 [8,9] [fo 0 3,om 1,nA 3 22,nf 1,nl 2,fo 4 5,nI 5 0,nl 5,oC 184 [26,30],o1 20,oe 20 0,oe 20 1,oN,oN,oX 8 8 32,oX 9 2 33],dg 34 [ol 8 8,oY x7 [(0,1,.c (.int .i64 2)),(2,8,.s 34)],of 0 9,mM [1],no,nB .eql 0,os 10 6 35,o1 7],.ret]) [.cell 6 ab 10,.tmp 7] 39:=aW func183
def aiF:aS prog 231 (sq [rg 7 [ox 3 2 0,oR 6 x7,oz 2],rg 11 [ol 2 3,om 2,oC 76 [11,12],o1 10,oe 10 0,oe 10 1,ot 8 14,o1 9],sq [rg 16 [om 9,nB .lss 0,gB,fo 1 3,om 9,nA 3 20,nF 1,nB .neq 1,gZ,gB,fo 1 3,om 9,nA 3 29,nF 2,om 1,nb .neq 33,gZ],cr 36 37 [oY x7 [],o2 10 6,oU 7 2]],rg 38 [om 9,oY x7 [(0,1,.c (.int .i64 1)),(1,1,.s 38)],o2 10 6,oV 7 (.bool ab)],.ret]) [.cell 6 ab 10,.tmp 7] 40:=aW func231
variable{j:Nat}
def sS{l:List dJ}(h:j<l.length):(l.map dJ.enc)[((j:Nat):Int).toNat]?=aa l[j].enc:=by simp[h]
def As{l:List db}(h:j<l.length):(l.map db.enc)[((j:Nat):Int).toNat]?=aa l[j].enc:=by simp[h]
def wT(s:aH)(t:List UInt8)(D:ah)(U:s.ba.length<=100000)(h2:s.vars.length<=100000) :
 a8 76 [.agg s.enc,.aG t] D (.bH [.int .i64 (cN (gV s.ba t)),.int .i64 (cN (jK s.vars t))]):=by
 refine ako.aV ?_;simp only[aU,am,a7,Nat.reduceAdd,aH.al,aN];rw[gV,jK];generalize hpL:FW s.ba t=pL;generalize hpV:FX s.vars t=pV;have eL:∀i (hi:i<s.ba.length),pL i=decide (s.ba[i].name=t):=λi hi=>by rw[<-hpL];simp only[FW,cK hi]
 have eV:∀i (hi:i<s.vars.length),pV i=decide (s.vars[i].name=t):=λi hi=>by rw[<-hpV];simp only[FX,cK hi]
 refine cn (s.ba.length) (λi (x:Unit)=>⟨[.any,.aG t,.ptr (.aE 0) 0,.any,.any,.any,.int .i64 (cN ((bA i).find? pL)),.int .i64 (-1),.any,.any,.any,.sl .no 3 (s.ba.map dJ.enc),.int .i64 (s.ba.length:Nat),.int .i64 (i:Nat)]++aq 38 .any,[s.enc],D⟩) (λi x=>(True)) λF hF JF aT=>⟨?_,?_,?_⟩
 .refine en aT (()) (trivial) ?_ ?_ ?_
  all_goals simp[hF,aq,am,bt,cN]
 .rintro i x hi -;simp only[hF,aq,am,cc hi,BY];cases hf:(bA i).find? pL with
  | some k =>
   simp only[am,aI,Ea,bJ hi];refine nx aT (()) hi (trivial) ?_ ?_ ?_
   all_goals simp[hF,aq,am,bt,iF,Cp,hf]
  | none =>
   simp only[am,aH.al,yS];refine ix (sS hi) ?_;simp only[am,aH.al];rw[<-eL i hi];cases hb:pL i with
   | false =>
    simp only[am,aI,bJ hi];refine nx aT (()) hi (trivial) ?_ ?_ ?_
    all_goals simp[hF,aq,am,bt,iF,Cp,hf,hb]
   | true =>
    simp only[am,aI,bJ hi];refine nx aT (()) hi (trivial) ?_ ?_ ?_
    all_goals simp[hF,aq,am,bt,iF,Cp,hf,hb,cN]
 .rintro x -;simp only[hF,aq,am,aI,cE,aI,aH.al,aN];clear hF aT F JF;refine cn (s.vars.length) (λi (x:Unit)=>⟨[.any,.aG t,.ptr (.aE 0) 0,.any,.any,.any,.int .i64 (cN ((bA s.ba.length).find? pL)),.int .i64 (cN ((bA i).find? pV)),.any,.any,.any,.any,.any,.any,.any,.any,.any,.any,.any,.any,.any,.any,.any,.any,.any,.any,.any,.any,.any,.any,.any,.sl .no 3 (s.vars.map db.enc),.int .i64 (s.vars.length:Nat),.int .i64 (i:Nat)]++aq 18 .any,[s.enc],D⟩) (λi x=>(True)) λF hF JF aT=>⟨?_,?_,?_⟩
  .refine en aT (()) (trivial) ?_ ?_ ?_
   all_goals simp[hF,aq,am,bt,cN]
  .rintro i x hi -;simp only[hF,aq,am,cc hi,BY];cases hf:(bA i).find? pV with
   | some k =>
    simp only[am,aI,Ea,bJ hi];refine nx aT (()) hi (trivial) ?_ ?_ ?_
    all_goals simp[hF,aq,am,bt,iF,Cp,hf]
   | none =>
    simp only[am,aH.al,yS];refine ix (As hi) ?_;simp only[am,aH.al];rw[<-eV i hi];cases hb:pV i with
    | false =>
     simp only[am,aI,bJ hi];refine nx aT (()) hi (trivial) ?_ ?_ ?_
     all_goals simp[hF,aq,am,bt,iF,Cp,hf,hb]
    | true =>
     simp only[am,aI,bJ hi];refine nx aT (()) hi (trivial) ?_ ?_ ?_
     all_goals simp[hF,aq,am,bt,iF,Cp,hf,hb,cN]
  .rintro x -;simp only[hF,aq,am,aI,cE,aI];exact rt
def agL{l:List db}{t:List UInt8}(h:jK l t=aa k):k<l.length:=(uG h).1
def Fw(o:Option bu):V:=.bH [.agg (match o with | some i=>i | none=>bu.zero).enc,.bool o.isSome]
def aak:=af @am <| af @a7 <| af @aH.al @bu.al
def av_(s:aH)(lat:Nat)(t:List UInt8)(D:ah)(U:s.ba.length<=100000)(h2:s.vars.length<=100000) :
 a8 231 [.agg s.enc,.int .i64 (lat:Nat),.aG t] D (Fw (vt s lat t)):=by
 refine aiF.aV ?_;simp only[aU,aak,Nat.reduceAdd];have no:∀(u:List V) (l:List (List V)),vt s lat t=aj->mw (λv σ' => v=Fw (vt s lat t)/\σ' = D) ⟨u,l,D⟩ (.bH [.agg bu.zero.enc,.bool ar]):=λu l h=>by
  rw[h];exact aX (by simp[V.c9,bT,bu.dV]) (ah.bm _) ⟨by simp[Fw,V.erase,bD,bu.dL],rfl⟩
 refine cl (wT s t D U h2) ?_;simp only[am,BY];cases hf:jK s.vars t with
 | none =>
  simp only[am,bu.al,yS];exact no _ _ (by simp only[vt,hf])
 | some k =>
  have hk:=agL hf;have hv:s.vars[k]?=aa s.vars[k]:=cK hk;simp only[am,aH.al,Ea,cN];refine ix (As hk) ?_;simp only[am,aH.al]
  by_cases e1:s.vars[k].kind=1
  .simp only[am,aH.al,aK e1];refine ix (As hk) ?_;simp only[am,aH.al]
   by_cases e2:s.vars[k].lat=(lat:Nat)
   .have e:vt s lat t=aa ⟨1,k,.zero⟩:=by simp only[vt,hf,hv];rw[aF ⟨e1,e2⟩]
    simp only[am,bu.al,aK e2];exact aX (by simp[V.c9,bT,bu.dV]) (ah.bm _) ⟨by simp[e,Fw,V.erase,bD,bu.dL,bu.zero],rfl⟩
   .simp only[am,bu.al,aJ e2];exact no _ _ (by simp only[vt,hf,hv];rw[aB (λh=>e2 h.2)])
  .simp only[am,bu.al,aJ e1];exact no _ _ (by simp only[vt,hf,hv];rw[aB (λh=>e1 h.1)])
variable{lat:Nat}
def Ge{s:aH}(h:lat<s.ba.length):nV s lat=s.ba[lat].shape:=by simp only[nV,cK h]
def an'{s:aH}{n:Nd}(U:n.kind≠1){e:bn}(he:gx (nV s lat) (n.ak.getD 0 jb)=(e,aj)):lG s lat n=aa ⟨2,0,e⟩:=by rw[lG,aB U,he]
def an9{s:aH}{n:Nd}(U:n.kind≠1){e:bn}{p:Int}(he:gx (nV s lat) (n.ak.getD 0 jb)=(e,aa p)):lG s lat n=none:=by rw[lG,aB U,he]
def OO{n:Nd}(hc:n.cU<=100000):∀k∈kB s n,k.an.length<=100000/\k.ak.length<=100000/\∀m∈k.ak,m.an.length<=100000:=by
 intro k hk;have Fb:k.cU<=n.cU:=by
  unfold kB at hk;split at hk
  .exact KM (so hk)
  .rw[kH.1 hk];exact bY _
 have U:=Ep k;have h2:=A3 k;refine⟨by omega,by omega,λm hm=>?_⟩
 have:=so hm
 have:=Ep m
 omega
def arN{n:Nd}(hc:n.cU<=100000):∀k∈kB s n,Nd.ok k:=λk hk=>by
 obtain⟨U,h2,h3⟩:=OO hc k hk;exact⟨by omega,by omega,λm hm=>by have:=h3 m hm;omega⟩
def Kg:=af @am <| af @a7 <| af @Nd.al <| af @Nd.fl <| af @aH.al @bu.al
def aoa(s:aH)(lat:Nat)(n:Nd)(hg:TZ D)(hs:s.ok)(kW:lat<s.ba.length)(hc:n.cU<=100000)(hw:n.wt<=aQ)(hl:n.eP=ab)(hk:n.kind=1\/n.kind=7):
 ch prog 183 [.agg s.enc,.int .i64 (lat:Nat),.agg n.enc] D λv σ' => (∃i:bu,v = .bH [.agg i.enc,.bool (lG s lat n).isSome]/\∀j,lG s lat n=aa j->i=j)/\σ' = D:=by
 refine ahX.aV ?_;simp only[aU,Kg,Nat.reduceAdd]
 by_cases U:n.kind=1
 .simp only[am,Nd.fl,aH.al,aK U];refine cl (av_ s lat n.au D hs.1 hs.2.1) ?_;simp only[am,bu.al,Fw];refine aX (by simp[V.c9,bT,bu.dV]) (ah.bm _) ⟨⟨_,by rw[lG,aF U];simp[V.erase,bD,bu.dL];rfl,λj hj=>?_⟩,rfl⟩;rw[lG,aF U] at hj;rw[hj]
 .have h7:n.kind=7:=by simpa [U] using hk
  have wv:=zK hl h7;have hm:n.ak[0]∈n.ak:=dj _;have zu:=so hm;have zw:=qp hm;simp only[am,Nat.reduceAdd,b9,Nat.reduceLT,aH.al,aJ U];refine ix (sS kW) ?_;simp only[am,Nd.fl,aH.al];refine sN (n:=0) (by omega) (qv (j:=0) (cK (by omega))) ?_;simp only[am,bz.al,Nd.al];refine bK.intro (LC s.ba[lat].shape n.ak[0] hg (hs.2.2 _ (dj kW)) (arN (by omega)) (by omega)) ?_;obtain⟨e,he⟩:∃e,gx s.ba[lat].shape n.ak[0]=e:=⟨_,rfl⟩;rw[he];have Ig : gx (nV s lat) (n.ak.getD 0 jb)=e:=by rw[Ge kW,ny (by omega)];exact he
  simp only[am,Nat.reduceAdd,bn.al,bu.al,v_];obtain⟨e,o⟩:=e;cases o with
  | none =>
   have zt:=an' U Ig;simp only[am,b9,Cv];exact aX (by simp[V.c9,bT,bu.dV]) (ah.bm _) ⟨⟨⟨2,0,e⟩,by rw[zt];simp[V.erase,bD,bu.dL];rfl,λj hj=>by rw[zt] at hj;cases hj;rfl⟩,rfl⟩
  | some p =>
   have zt:=an9 U Ig;simp only[am,fL,Int.reduceEq,Ec];exact aX (by simp[V.c9,bT,bu.dV]) (ah.bm _) ⟨⟨⟨2,0,e⟩,by rw[zt];simp[V.erase,bD,bu.dL];rfl,λj hj=>by rw[zt] at hj;simp at hj⟩,rfl⟩
def A4{l:List bu}(h:j<l.length):(l.map bu.enc)[((j:Nat):Int).toNat]?=aa l[j].enc:=by simp[h]
def auq(a b:List bu)(D:ah)(ha:a.length<=100000)(hb:b.length<=100000):a8 34 [.sl .no 10 (a.map bu.enc),.sl .no 10 (b.map bu.enc)] D (.bool (decide (a=b))):=by
 refine aj3.aV ?_;simp only[aU,am,a7,Nat.reduceAdd,aN]
 by_cases a9:a.length=b.length
 .simp only[am,aK (show(a.length:Int)=b.length by omega)];refine cn (a.length) (λi (x:Unit)=>⟨[.sl .no 10 (a.map bu.enc),.sl .no 10 (b.map bu.enc),.any,.any,.any,.int .i64 (i:Nat)]++aq 20 .any,[],D⟩) (λi x=>(∀k,k<i->a[k]?=b[k]?)) λF hF JF aT=>⟨?_,?_,?_⟩
  .exact en aT (()) (by intro k h;omega)
  .rintro i x hi hJ;have Il:i<b.length:=by omega
   simp only[hF,aq,am,cc hi,aN];refine ix (A4 hi) ?_;simp only[am,bu.al];refine ix (A4 Il) ?_;simp only[am,bu.al]
   by_cases h:a[i]=b[i]
   .simp only[am,aI,aK h,bJ hi];exact nx aT (()) hi (iW hJ (by rw[cK hi,cK Il,h]))
   .have e:a≠b:=λe=>h (by subst e;rfl)
    simp only[am,aI,aJ h];refine aL ?_;simp[V.erase,e]
  .rintro x hJ;have e:a=b:=by
    refine QS a9 λk U h2=>?_
    have:=hJ k U
    rwa [cK U,cK h2,bc] at this
   simp only[hF,aq,am,aI,cE,aI,aN];refine aL ?_;simp[V.erase,e]
 .have e:a≠b:=λe=>a9 (by rw[e])
  simp only[am,aJ (show ¬(a.length:Int)=b.length by omega)];refine aL ?_;simp[V.erase,e]
def Ln(o:Option (List bu)):V:=.bH [.sl .no 10 ((o.getD []).map bu.enc),.bool o.isSome]
def adV{s:aH}{n:Nd}(U:lat<s.ba.length)(h2:n.eP=ab):mC s (lat:Nat) n=lx s lat n:=by
 rw[mC,aF ⟨by omega,by omega,h2⟩];rfl
def ahb:aS prog 114 (sq [rg 6 [ox 3 2 0,ox 5 5 2,oz 15,oz 2],.scope (sq [sq [rg 15 [om 1,nB .lss 0,gB,om 1,fo 0 3,nL,nb .geq 18,gZ,gB,ol 5 5,oC 182 [25],nn,gZ],cr 28 6 [oz 15,oz 2]],rg 8 [oz 15],rg 29 [ol 5 5,oW [0,0,1,7,10,0] [(0,5,29)],nO (.new 6),o1 9],.skip,bl 0 (sq [sq [rg 32 [om 9,nO .len,nB .gtr 0],cx 34 0],.block 1 (sq [rg 35 [om 9,nO .len,nB .sub 1,o1 10],rg 38 [om 9,om 10,oO (.idx 6) [38,39],nl 6,oZ 11 [0,0,1,7,10,0],o2 6 11],rg 12 [oi 3],sq [rg 42 [of 0 11,nF 0],.block 2 (sq [sq [rg 46 [oB .eql 44 1,o1 45],cd 45 .skip (rg 47 [oB .eql 44 7,o1 45])],cd 45 (sq [rg 49 [ol 2 3,om 1,of 0 11,nl 5,oC 183 [49,50,52],o1 48,oe 48 0,oe 48 1,oR 13 x7,os 10 13 54,o1 14],sq [rg 56 [om 14,nn],cr 57 6 [oz 15,oz 2]],rg 58 [om 8,ol 10 13,n1 10,na 10 58,o1 8],rg 62 [om 9,om 10,oO (.lT 6 ar ab ar) [62,63],o1 9],(.exit 1)]) (sq [rg 66 [oB .eql 44 9,o1 65],ci 65 (rg 12 [oi 4])])])],sq [rg 67 [fo 5 11,of 0 11,nF 4,nL,nb .lss 68],ci 73 (sq [rg 74 [om 9,om 10,oO (.idx 6) [74,75],nF 5,nB .add 1,oO (.idx 6) [74,75],nf 5,os 1 81 79],rg 82 [om 9,of 0 11,nF 4,fo 5 11,nA 5 85,nl 5,oW [0,0,1,7,10,0] [(0,5,89)],n1 6,oO (.app 6) [82,91],o1 9],(.exit 1)])],rg 93 [om 8,om 12,of 0 11,nF 4,nL,oY x7 [(0,1,.s 94),(1,1,.s 98)],n1 10,na 10 93,o1 8],rg 102 [om 9,om 10,oO (.lT 6 ar ab ar) [102,103],o1 9]])]),rg 6 [ot 105 8,om 105,oq (.mv (.c (.bool ab)))],.ret])]) [.tmp 6,.tmp 7] 106:=aW func114 ⟨[33,36,40,64,76,80,92,104,100031],[]⟩
def gH(f:Nd × Nat):List V:=f.1.enc++[.int .i64 (f.2:Nat)]
section
variable {m:Nd} {d k:Nat} {x0 x1 x2 x3 x4 x5:V}
def sD:gH (m,d)=[.int .i64 m.kind,.int .i64 m.pos,.aG m.au,.sl .no 2 (m.an.map aA.enc),.sl .no 5 (m.ak.map Nd.enc),.int .i64 (d:Nat)]:=by rw[gH,Nd.dB];rfl
def CU:(gH (m,d)).length=6:=by rw[sD];rfl
def TM:cW (gH (m,d))=true:=by rw[sD];rfl
def HQ:bT (gH (m,d))=true:=by rw[sD];rfl
def akI:bD (gH (m,d))=gH (m,d):=by rw[sD];rfl
def akM:bR k (gH (m,d))=true:=by rw[sD];rfl
def akO:over [x0,x1,x2,x3,x4,x5] (gH (m,d))=gH (m,d):=by rw[sD];rfl
def akK:bP ar 1 (gH (m,d))=aa (.int .i64 m.kind):=by rw[sD];rfl
def akL:bP ar 1 ((gH (m,d)).drop 4)=aa (.sl .no 5 (m.ak.map Nd.enc)):=by rw[sD];rfl
def akH:bP ar 1 ((gH (m,d)).drop 5)=aa (.int .i64 (d:Nat)):=by rw[sD];rfl
def akN:takeN 5 (gH (m,d))=aa m.enc:=PX Nd.dd
def akG:over [x0,x1,x2,x3,x4,.int .i64 0] m.enc=gH (m,0):=by rw[sD,Nd.dB];rfl
theorem akJ:cw 5 [x0,x1,x2,x3,x4,x5]=true:=rfl
def akP:setAt (gH (m,d)) 5 [.int .i64 (k:Nat)]=gH (m,k):=by rw[sD,sD];rfl
def xD:=af @CU <| af @TM <| af @HQ <| af @akI <| af @akM <| af @akO <| af @akK <| af @akL <| af @akH <| af @akN <| af @akG @akJ
end
structure CF(s:aH)(lat:Nat)(n:Nd)(D:ah) where
 fs:List (Nd × Nat)
 out:List bu
 v:V
 tk:Tk
 st:ah
 fin:tD s lat fs out=lx s lat n
 all:∀f∈fs,f.1.eP=ab/\f.1.wt<=n.wt/\f.1.cU<=n.cU
 mes:out.length+rf fs<=2*n.cU+1
 own:kI st 6 v (fs.reverse.map gH)
 sub:Ed D st v
 gr:Gr D st tk out.length
def Dk(s:aH)(lat:Nat)(n:Nd)(out:List bu)(v:V)(tk:Tk)(D:ah):St :=
 ⟨[.any,.int .i64 (lat:Nat),.any,.ptr (.aE 0) 0,.any,.ptr (.aE 1) 0,.any,.any,.sl tk 10 (out.map bu.enc),v]++aq 96 .any,[s.enc,n.enc],D⟩
def OJ{n:Nat}{v:V}{rows:List (List V)}(h:kI D k v rows):v.lo n=true:=by obtain⟨a,cap,rfl,_⟩:=h;rfl
variable{σ':ah}
def W_{v:V}{rows:List (List V)}(h:kI D k v rows)(e:σ'.box=D.box):kI σ' k v rows:=h.frame λb cs _ hc=>by rw[e];exact hc
def alq{dE:ah}{tk:Tk}{n:Nat}(h:Gr dE D tk n)(hs:dE.sub σ')(e:σ'.aR=D.aR):Gr dE σ' tk n:=⟨hs,h.tk.imp id λ⟨Z,a,b,c⟩=>⟨Z,a,by rw[e];exact b,c⟩⟩
def Wx:∀(fs:List (Nd × Nat)),fs.length<=rf fs
 | []=>bY _
 | f::fs=>by have:=Wx fs;simp only[rf,dm];omega
def axQ:=af @am <| af @cX <| af @a7 <| af @Nd.al <| af @aH.al @bu.al
def ada(s:aH)(lat:Int)(n:Nd)(hg:TZ D)(hs:s.ok)(hw:n.wt<=aQ)(hc:n.cU<=100000):
 a8 114 [.agg s.enc,.int .i64 lat,.agg n.enc] D (Ln (mC s lat n)):=by
 refine ahb.aV ?_;simp only[aU,axQ,Nat.reduceAdd];have no:∀(u:List V) (l:List (List V)) (bF:ah),mC s lat n=aj->D.sub bF->mw (λv σ' => v=Ln (mC s lat n)/\σ' = D) ⟨u,l,bF⟩ (.bH [.sl .aZ 10 [],.bool ar]):=λu l bF h h' => by
  rw[h];exact aX rfl h' ⟨rfl,rfl⟩
 by_cases hn:lat<0
 .simp only[am,cX,aK hn];exact no _ _ _ (by rw[mC,aB (by omega)]) (ah.bm _)
 .obtain⟨lat,rfl⟩:∃m:Nat,lat=m:=⟨lat.toNat,by omega⟩;simp only[am,aN,aH.al,aN,aJ hn]
  by_cases kW:s.ba.length<=lat
  .simp only[am,cX,aK (show(s.ba.length:Int)<=(lat:Nat) by omega)];exact no _ _ _ (by rw[mC,aB (by omega)]) (ah.bm _)
  .have aD:lat<s.ba.length:=by omega
   simp only[am,Nd.al,aJ (show ¬(s.ba.length:Int)<=(lat:Nat) by omega)];refine cl (FG _ n D (bY _) hw) ?_;cases hl:n.eP with
   | false =>
    simp only[am,cX];exact no _ _ _ (by rw[mC,hl,aB (by simp)]) (ah.bm _)
   | true =>
    have hR:=adV aD hl;simp only[am,qM,Nd.al,xD];refine kI.mk1 (c:=gH (n,0)) (by simp[zJ,V.cells,CU,HQ,TM,V.wd]) CU HQ λv bF hO hS=>?_
    simp only[am];obtain⟨I,hI⟩:∃I:CF s lat n D->St,∀p,I p=Dk s lat n p.out p.v p.tk p.st:=⟨_,λ_=>rfl⟩;refine jX I (λp=>rf p.fs) ?_ ?_
    .refine bI.enter (I:=I) ⟨[(n,0)],[],v,.aZ,bF,by simp only[tD,X5];cases lx s lat n<;>rfl,by simp[hl],?_,by simpa using hO,hS,⟨hS.sub,.inl rfl⟩⟩ ?_ ?_ ?_
     .have:=Nd.uC n
      simp only[rf,Kv,dQ];omega
     all_goals simp[hI,Dk,aq,am,bt]
    .rintro⟨fs,out,v,tk,bF,uP,dq,Iq,hO,hS,hG⟩;simp only[hI,Dk,aq,am,qM];have hml:=Wx fs;refine hO.len ?_;cases fs with
     | nil =>
      have e:lx s lat n=aa out:=by rw[<-uP];rfl
      simp only[am,cX,List.reverse_nil,fe,dQ,show decide ((0:Int)<((0:Nat):Int))=ar from rfl];exact aX rfl hG.sub ⟨by rw[hR,e];rfl,rfl⟩
     | cons f fs =>
      obtain⟨m,d⟩:=f;obtain⟨Ir,zw,zu⟩:=dq (m,d) (by simp);simp only at Ir zw zu;have fT:(List.map gH ((m,d)::fs).reverse).length=fs.length+1:=by simp
      have dr:(List.map gH ((m,d)::fs).reverse)[fs.length]?=aa (gH (m,d)):=by simp
      have Vb:(List.map gH ((m,d)::fs).reverse).take fs.length=List.map gH fs.reverse:=by simp
      have Fc:fs.length+1<=2*n.cU+1:=by simp only[dm] at hml;omega
      have zq:TZ bF:=hG.sub.2.2 _ _ hg;simp only[am,qM,fT,show decide ((0:Int)<((fs.length+1:Nat):Int))=ab from aK (by omega)];refine hO.len ?_;simp only[am,qM,fT];rw[wrap_i64,show((fs.length+1:Nat):Int) - 1=(fs.length:Nat) by omega];refine hO.idx (by omega) (j:=(fs.length:Nat)) (c:=gH (m,d)) (by rw[gi];exact dr) λb cs rest hb b7 MI=>?_
      rw[gi] at MI ⊢;have xT:takeN 6 (cs.drop (fs.length*6))=aa (gH (m,d)):=by rw[MI];exact PX CU
      simp only[am,Nat.reduceAdd,b7,xT,xD]
      by_cases hk:m.kind=1\/m.kind=7
      .have mb:(decide (m.kind=1)=ab)\/(decide (m.kind=1)=ar/\decide (m.kind=7)=ab):=by
        by_cases U:m.kind=1
        .exact .inl (aK U)
        .exact .inr ⟨aJ U,aK (by simpa [U] using hk)⟩
       have zt:=atn (s:=s) (lat:=lat) (d:=d) (fs:=fs) (out:=out) hk;rw[zt] at uP
       rcases mb with e1 | ⟨e1,e2⟩
       case' inl=>simp only[am,Nd.al,aH.al,e1,xD]
       case' inr=>simp only[am,Nd.al,aH.al,e1,e2,xD]
       all_goals
        refine(aoa s lat m zq hs aD (by omega) (by omega) Ir hk).mono ?_;rintro v' σ' ⟨⟨i,rfl,hi⟩,rfl⟩;simp only[am,Nat.reduceAdd,bu.al];cases MY:lG s lat m with
        | none =>
         rw[MY] at uP;simp only[am,cX,Cv];exact no _ _ _ (by rw[hR,<-uP]) hG.sub
        | some j =>
         obtain rfl:=hi j MY;rw[MY] at uP;simp only[am,bu.al,Ec];refine Gr.app (by simpa using hG) (by simp only[rf] at Iq;simp[aQ];omega) λfD eT lA hB _=>?_
         simp only[am,qM];refine(W_ hO hB).take (m:=fs.length) (by omega) (gi _) (by rw[fT];omega) λv2 wc dx=>?_
         rw[Vb] at wc;simp only[am,cX,Nat.reduceEqDiff,reduceCtorEq];refine bI.uv (I:=I) ⟨fs,out++[i],v2,fD,eT,uP,λf hf=>dq f (QZ _ hf),by simp only[rf] at Iq;rw[bM,fI];omega,wc,⟨lA.sub,λb hb=>hS.new b (by rw[<-dx];exact hb)⟩,by simpa using lA⟩ (by simp only[rf];omega) ?_ ?_ ?_ ?_ ?_
         all_goals simp[hI,Dk,aq,am,bt,bR,du,V.lo,aH.cP,Nd.cP,OJ wc]
      .have e1:decide (m.kind=1)=false:=aJ λh=>hk (.inl h)
       have e7:decide (m.kind=7)=false:=aJ λh=>hk (.inr h)
       simp only[am,e1,e7];have nD:=VE Ir hk;have Fb:=A3 m
       by_cases h9:m.kind=9
       case' pos =>
        have eo:lM m=⟨4,m.ak.length,.zero⟩:=by rw[lM,aF h9]
        simp only[am,aN,aN,aK h9,xD]
       case' neg =>
        have eo:lM m=⟨3,m.ak.length,.zero⟩:=by rw[lM,aB h9]
        simp only[am,aN,aN,aJ h9,xD]
       all_goals
        by_cases hd:d<m.ak.length
        .have UF:cs.drop (fs.length*6+5)=(gH (m,d)).drop 5++rest:=by
          rw[<-yL,MI,aar (by rw[CU];omega)]
         have h5:(gH (m,d)).drop 5=[.int .i64 (d:Nat)]:=by rw[sD];rfl
         have amf:bP ar 1 (cs.drop (fs.length*6+5))=aa (.int .i64 (d:Nat)):=by rw[UF,h5];rfl
         have al6:cw 1 (cs.drop (fs.length*6+5))=true:=by rw[UF,h5];rfl
         obtain⟨wc,bZ⟩:=hO.put (off:=5) (x:=[.int .i64 ((d+1:Nat):Int)]) dr hb b7 (by simp);have o5:(List.map gH ((m,d)::fs).reverse).set fs.length (setAt (gH (m,d)) 5 [.int .i64 ((d+1:Nat):Int)])=List.map gH ((m,d+1)::fs).reverse:=by
          rw[akP];simp
         rw[o5] at wc;have Is:m.ak[d]∈m.ak:=dj hd;have hkw:=qp Is;have ax8:=so Is;simp only[am,qM,cc hd];refine hO.idx (by omega) (j:=(fs.length:Nat)) (c:=gH (m,d)) (by rw[gi];exact dr) λb2 Lq atk dx alS _=>?_
         obtain rfl:b=b2:=by rw[hb] at dx;exact vG dx
         rw[gi];simp only[am,qM,b7,amf,bJ hd];refine hO.idx (by omega) (j:=(fs.length:Nat)) (c:=gH (m,d)) (by rw[gi];exact dr) λb2 Lq atk dx alS _=>?_
         obtain rfl:b=b2:=by rw[hb] at dx;exact vG dx
         rw[gi];simp only[am,b7,al6,xD];refine ix (qv (cK hd)) ?_;simp only[am,qM,Nd.al,xD];refine wc.app (m:=[gH (m.ak[d],0)]) (by simp[CU]) (by simp[HQ]) (by simp[aQ];omega) λv3 Ci Um tG=>?_
         have Ur:=(hS.step bZ).step tG;have EL:=alq hG Ur.sub (tG.aR.trans bZ.aR);simp only[am,cX,reduceCtorEq];refine bI.uv (I:=I) ⟨(m.ak[d],0)::(m,d+1)::fs,out,v3,tk,Ci,by rw[<-atm hk hd];exact uP,?_,?_,by simpa using Um,Ur,EL⟩ (Ww hd) ?_ ?_ ?_ ?_ ?_
         .intro f hf
          rcases lq.1 hf with rfl | hf
          .exact⟨nD _ Is,by simp only;omega,by simp only;omega⟩
          .rcases lq.1 hf with rfl | hf
           .exact⟨Ir,zw,zu⟩
           .exact dq f (QZ _ hf)
         .have:=Ww (fs:=fs) hd;omega
         all_goals simp[hI,Dk,aq,am,bt,bR,du,V.lo,aH.cP,Nd.cP,OJ Um]
        .simp only[am,aN,bu.al,aN,aJ (show ¬(d:Int)<(m.ak.length:Nat) by omega),xD];refine Gr.app (by simpa using hG) (by simp only[rf] at Iq;simp[aQ];omega) λfD eT lA hB _=>?_
         simp only[am,qM];refine(W_ hO hB).take (m:=fs.length) (by omega) (gi _) (by rw[fT];omega) λv2 wc dx=>?_
         rw[Vb] at wc;simp only[am];refine bI.uv (I:=I) ⟨fs,out++[lM m],v2,fD,eT,by rw[<-atl hk (Nat.le_of_not_lt hd)];exact uP,λf hf=>dq f (QZ _ hf),by simp only[rf] at Iq;rw[bM,fI];omega,wc,⟨lA.sub,λb hb=>hS.new b (by rw[<-dx];exact hb)⟩,by simpa using lA⟩ (by simp only[rf];omega) ?_ ?_ ?_ ?_ ?_
         all_goals simp[hI,Dk,aq,am,bt,bR,du,V.lo,aH.cP,Nd.cP,eo,bu.zero,OJ wc]
section
variable {l:dJ} {v:db} {a b c:V} {m:Nat}
theorem dJ.DB:takeN 3 l.enc=aa l.enc:=rfl
theorem dJ.JB:over [a,b,c] l.enc=l.enc:=rfl
theorem dJ.Jz:l.enc.length=3:=rfl
theorem dJ.JA:cW l.enc=true:=rfl
theorem db.Jz:v.enc.length=3:=rfl
theorem db.JA:cW v.enc=true:=rfl
theorem db.DB:takeN 3 v.enc=aa v.enc:=rfl
theorem db.JB:over [a,b,c] v.enc=v.enc:=rfl
end
def ag5:aS prog 107 (sq [rg 12 [mk 0,nf 1,nl 2,om 1,oC 76 [15,16],o1 11,oe 11 0,oe 11 1,ot 8 18,o1 9],rg 20 [mk 0,nf 0,om 8,nB .lss 0,gA,om 9,nB .lss 0,gZ,om 2,oc 110 [.s 22,.s 28,.c (.int .i64 3),.s 29]],sq [rg 31 [om 9,nB .lss 0],cr 32 33 [mk 0,nf 0,om 8,nB .geq 0,om 2,oc 110 [.s 35,.s 37,.c (.int .i64 4),.s 38]]],rg 40 [mk 0,nf 1,nF 1,om 9,nA 3 44,nl 3,oZ 10 [1,0,0],o2 3 10],dg 48 [mk 0,nf 0,fo 1 10,om 3,nb .neq 52,nm,oh 55 (om 0),oh 55 (nk),oh 55 (nf 3),oh 55 (no),oh 55 (nB .geq 0),oh 55 (nm),og 61 (of 2 10),og 61 (no),og 61 (om 0),og 61 (nk),og 61 (nf 3),og 61 (no),og 61 (nb .neq 63),oh 55 (oy 61 68),oq (.pick (.s 55) (.c (.bool ab)) (.s 69)),om 2,oc 110 [.s 50,.s 70,.c (.int .i64 4),.s 71]]]) [] 73:=aW func107
def ag6:aS prog 108 (sq [rg 0 [ox 3 2 1],dg 7 [mk 0,nf 1,nl 2,fo 0 3,oC 76 [10,12],o1 6,oe 6 0,oe 6 1,ot 4 14,o1 5],rg 16 [om 0,om 4,ok 16,nf 3,os 1 19 17],dg 20 [mk 0,nf 0,om 4,nB .lss 0,gA,om 5,nB .lss 0,gZ,fo 1 3,oc 110 [.s 22,.s 28,.c (.int .i64 3),.s 30]],dg 32 [mk 0,nf 0,om 4,nB .lss 0,gA,om 5,nB .geq 0,gZ,fo 1 3,oc 110 [.s 34,.s 40,.c (.int .i64 4),.s 42]]]) [] 44:=aW func108
def ag9:aS prog 110 (sq [rg 8 [om 1],ci 8 (rg 9 [om 0,mk 0,nF 0,om 2,om 3,oW [0,0] [(0,1,14),(1,1,15)],n1 2,na 2 13,ok 9,nf 0,os 1 20 18])]) [] 21:=aW func110
def ahR:aS prog 177 (sq [rg 0 [ox 3 5 1],rg 6 [fo 0 3],.block 0 (sq [rg 9 [oB .eql 7 1,o1 8],cd 8 (rg 10 [om 0,fo 2 3,fo 1 3,oc 107 [.s 10,.s 12,.s 14,.c (.int .i64 1)]]) (sq [rg 17 [oB .eql 7 7,o1 16],ci 16 (sq [rg 18 [fo 4 3,nL,nB .gtr 0,gA,mk 0,nF 3,nB .geq 0,gZ],ci 28 (sq [dA 30 [4,5] [mk 0,nf 1,nF 0,mk 0,nF 3,nA 3 34,nf 1,nl 2,fo 4 3,nI 5 0,nl 5,oC 184 [41,45],o1 29,oe 29 0,oe 29 1,oN,oN,oX 4 8 47,oX 5 2 48],dg 49 [mk 0,nf 0,fo 0 5,nB .neq 0,fo 0 5,fo 1 5,oC 110 [51,54,56,58]]])])])])]) [] 60:=aW func177
def yw(D:ah)(b Z:Nat)(l:List aY)(s:aH)(lat p x y:Int)(is:Bool)(hl:l.length<=100000000) :
 dY 110 [.ptr (.out b) 0,.bool is,.int .i64 x,.int .i64 y] (di D b Z l s lat p) (.bH []) (di D b Z (l++if is then [⟨x,y⟩] else []) s lat p):=by
 refine ag9.aV ?_;simp only[aU,am,a7,Nat.reduceAdd];cases is with
 | false =>
  simp only[am,eD,eD];exact aX rfl (ah.bm _) ⟨rfl,by simp⟩
 | true =>
  simp only[am,Nat.reduceAdd,kl];refine kM (by simp[aQ];omega) (by rw[aN];exact Qo) ?_;simp only[am,aN,kl,aN,fI,axr];exact aX rfl (ah.bm _) ⟨rfl,by simp⟩
def Gn(D:ah)(b Z:Nat)(l:List aY)(s:aH)(lat p y k:Int)(t:List UInt8)(hl:l.length<=90000000)(hs:s.ok) :
 dY 107 [.ptr (.out b) 0,.aG t,.int .i64 y,.int .i64 k] (di D b Z l s lat p) (.bH []) (di D b Z (l++iD s lat t y k) s lat p):=by
 refine ag5.aV ?_;simp only[aU,am,a7,Nat.reduceAdd,kl,aH.al];refine cl (wT s t _ hs.1 hs.2.1) ?_;cases hV:jK s.vars t with
 | none =>
  cases hL:gV s.ba t with
  | none =>
   have e:iD s lat t y k=[⟨3,y⟩]:=by rw[iD,hV,hL];rfl
   simp only[am,b9,Int.reduceNeg,cN,Int.reduceLT];refine cl (yw D b Z l s lat p 3 y ab (by omega)) ?_;simp only[am,b9,fL,Int.reduceNeg,Int.reduceLT,Int.reduceLE];refine cl (yw D b Z (l++[⟨3,y⟩]) s lat p 4 y ar (by simp;omega)) ?_;simp only[am,Int.reduceNeg,eD];exact aX rfl (ah.bm _) ⟨rfl,by rw[e]⟩
  | some j =>
   have e:iD s lat t y k=[⟨4,y⟩]:=by rw[iD,hV,hL];rfl
   simp only[am,Int.reduceNeg,cN,aJ (show ¬((j:Nat):Int)<0 by omega)];refine cl (yw D b Z l s lat p 3 y ar (by omega)) ?_;simp only[am,b9,Int.reduceNeg,eD,Int.reduceLT,aK (show(0:Int)<=((j:Nat):Int) by omega)];refine cl (yw D b Z l s lat p 4 y ab (by omega)) ?_;simp only[am,Int.reduceNeg];exact aX rfl (ah.bm _) ⟨rfl,by rw[e]⟩
 | some v =>
  have hv:=Tj hV;have hx:s.vars[v]?=aa s.vars[v]:=cK hv;have e:iD s lat t y k=if s.vars[v].kind≠k\/(0<=lat/\s.vars[v].lat≠lat) then [⟨4,y⟩] else []:=by rw[iD,hV];simp only[hx]
  have nv:decide (((v:Nat):Int)<0)=false:=aJ (by omega);have mid:ch prog 110 [.ptr (.out b) 0,.bool ar,.int .i64 3,.int .i64 y] (di D b Z l s lat p) λu σ' => u = .bH []/\σ' = di D b Z l s lat p:=by
   simpa using yw D b Z l s lat p 3 y ar (by omega)
  have fin:∀is:Bool,is=decide (s.vars[v].kind≠k\/(0<=lat/\s.vars[v].lat≠lat))->ch prog 110 [.ptr (.out b) 0,.bool is,.int .i64 4,.int .i64 y] (di D b Z l s lat p) λu σ' => u = .bH []/\σ' = di D b Z (l++iD s lat t y k) s lat p:=λis he=>by
   have:=yw D b Z l s lat p 4 y is (by omega)
   rw[he] at this ⊢;rw[e];simpa using this
  cases hL:gV s.ba t
  case' none=>simp only[am,b9,Int.reduceNeg,cN,Int.reduceLT,nv]
  case' some j =>
   simp only[am,cN,aJ (show ¬((j:Nat):Int)<0 by omega)]
  all_goals
   refine cl mid ?_;simp only[am,Nat.reduceAdd,Int.reduceNeg,kl,nv];refine ix (As hv) ?_;simp only[am,Int.reduceNeg,aH.al,db.Jz,db.JA,db.DB,db.JB]
   by_cases hk:s.vars[v].kind=k
   case neg =>
    simp only[am,Int.reduceNeg,aJ hk];refine bK.intro (fin ab (by simp[hk])) ?_;simp only[am,Int.reduceNeg];exact aX rfl (ah.bm _) ⟨rfl,rfl⟩
   simp only[am,Int.reduceNeg,kl,aK hk]
   by_cases h0:0<=lat
   case neg =>
    simp only[am,Int.reduceNeg,aJ h0];refine bK.intro (fin ar (by simp[hk,h0])) ?_;simp only[am,Int.reduceNeg];exact aX rfl (ah.bm _) ⟨rfl,rfl⟩
   simp only[am,Int.reduceNeg,kl,aH.al,aK h0]
   by_cases U:s.vars[v].lat=lat
   case neg =>
    simp only[am,Int.reduceNeg,aJ U];refine bK.intro (fin ab (by simp[h0,U])) ?_;simp only[am,Int.reduceNeg];exact aX rfl (ah.bm _) ⟨rfl,rfl⟩
   simp only[am,Int.reduceNeg,aK U];refine bK.intro (fin ar (by simp[hk,U])) ?_;simp only[am,Int.reduceNeg];exact aX rfl (ah.bm _) ⟨rfl,rfl⟩
def Ca(D:ah)(b Z:Nat)(l:List aY)(s:aH)(lat p x y:Int)(hl:l.length<=100000000):ch prog 110 [.ptr (.out b) 0,.bool ar,.int .i64 x,.int .i64 y] (di D b Z l s lat p) λu σ' => u = .bH []/\σ' = di D b Z l s lat p:=by
 simpa using yw D b Z l s lat p x y ar hl
def Gs(D:ah)(b Z:Nat)(l:List aY)(s:aH)(lat p x y:Int)(hl:l.length<=100000000):ch prog 110 [.ptr (.out b) 0,.bool ab,.int .i64 x,.int .i64 y] (di D b Z l s lat p) λu σ' => u = .bH []/\σ' = di D b Z (l++[⟨x,y⟩]) s lat p:=by
 simpa using yw D b Z l s lat p x y ab hl
def axR:=af @am <| af @a7 <| af @aH.al @aA.al
def Zj(D:ah)(b Z:Nat)(l:List aY)(s:aH)(lat p:Int)(w:aA)(hl:l.length<=90000000)(hs:s.ok) :
 dY 108 [.ptr (.out b) 0,.agg w.enc] (di D b Z l s lat p) (.bH []) (di D b Z (l++gy s w) s (cN (gV s.ba w.au)) p):=by
 refine ag6.aV ?_;simp only[aU,axR,Nat.reduceAdd,Int.reduceNeg,cN,kl];refine bK.intro (wT s w.au (di D b Z l s lat p) hs.1 hs.2.1) ?_;simp only[am,Int.reduceNeg,cN,kl,axs];cases hL:gV s.ba w.au with
 | none =>
  cases hV:jK s.vars w.au with
  | none =>
   have e:gy s w=[⟨3,w.pos⟩]:=by rw[gy,hL,hV];rfl
   simp only[am,b9,Int.reduceNeg,Int.reduceLT,kl];refine bK.intro (Gs D b Z l s (-1) p 3 w.pos (by omega)) ?_;simp only[am,b9,fL,Int.reduceNeg,Int.reduceLT,Int.reduceLE,kl];refine bK.intro (Ca D b Z (l++[⟨3,w.pos⟩]) s (-1) p 4 w.pos (by simp;omega)) ?_;simp only[am,Int.reduceNeg];exact aX rfl (ah.bm _) ⟨rfl,by rw[e]⟩
  | some j =>
   have e:gy s w=[⟨4,w.pos⟩]:=by rw[gy,hL,hV];rfl
   simp only[am,b9,Int.reduceNeg,Int.reduceLT,kl,aJ (show ¬((j:Nat):Int)<0 by omega)];refine bK.intro (Ca D b Z l s (-1) p 3 w.pos (by omega)) ?_;simp only[am,b9,Int.reduceNeg,Int.reduceLT,kl,aK (show(0:Int)<=((j:Nat):Int) by omega)];refine bK.intro (Gs D b Z l s (-1) p 4 w.pos (by omega)) ?_;simp only[am,Int.reduceNeg];exact aX rfl (ah.bm _) ⟨rfl,by rw[e]⟩
 | some j =>
  have e:gy s w=[]:=by rw[gy,hL];rfl
  simp only[am,Int.reduceNeg,kl,aJ (show ¬((j:Nat):Int)<0 by omega)];refine bK.intro (Ca D b Z l s (j:Nat) p 3 w.pos (by omega)) ?_;simp only[am,Int.reduceNeg,kl,aJ (show ¬((j:Nat):Int)<0 by omega)];refine bK.intro (Ca D b Z l s (j:Nat) p 4 w.pos (by omega)) ?_;simp only[am,Int.reduceNeg];exact aX rfl (ah.bm _) ⟨rfl,by rw[e,eD]⟩
def axq{b Z:Nat}{l:List aY}{s:aH}{lat p:Int}(hg:TZ D)(hb:D.box b=aj):TZ (di D b Z l s lat p):=hg
def Y0(D:ah)(b Z:Nat)(l:List aY)(s:aH)(lat p:Int)(n:Nd)(hl:l.length<=90000000)(hs:s.ok)(hg:TZ D)(hb:D.box b=aj)(kW:lat<s.ba.length)(hc:n.cU<=100000)(hw:n.wt<=aQ) :
 dY 177 [.ptr (.out b) 0,.agg n.enc] (di D b Z l s lat p) (.bH []) (di D b Z (l++gR s lat n) s lat p):=by
 refine ahR.aV ?_;simp only[aU,ug,Nat.reduceAdd]
 by_cases U:n.kind=1
 .simp only[am,Nd.fl,aK U];refine cl (Gn D b Z l s lat p n.pos 1 n.au hl hs) ?_;simp only[am];exact aX rfl (ah.bm _) ⟨rfl,by rw[gR,aF U]⟩
 simp only[am,aJ U]
 by_cases h7:n.kind=7
 case neg =>
  simp only[am,aJ h7];exact aX rfl (ah.bm _) ⟨rfl,by rw[gR,aB U,aB h7,eD]⟩
 simp only[am,aN,Nd.fl,aN,aK h7];have ea:gR s lat n=vV s lat n:=by rw[gR,aB U,aF h7]
 by_cases hk:0<n.ak.length
 case neg =>
  simp only[am,aJ (show ¬(0:Int)<(n.ak.length:Nat) by omega)];exact aX rfl (ah.bm _) ⟨rfl,by rw[ea,vV,aB (λh=>hk h.1),eD]⟩
 simp only[am,kl,aK (show(0:Int)<(n.ak.length:Nat) by omega)]
 by_cases h0:0<=lat
 case neg =>
  simp only[am,aJ h0];exact aX rfl (ah.bm _) ⟨rfl,by rw[ea,vV,aB (λh=>h0 h.2),eD]⟩
 simp only[am,Nat.reduceAdd,b9,Nat.reduceLT,kl,aK h0];obtain⟨k,rfl⟩:∃k:Nat,lat=k:=⟨lat.toNat,by omega⟩;have wv:k<s.ba.length:=by omega
 have hm:n.ak[0]∈n.ak:=dj _;have zu:=so hm;have zw:=qp hm;refine ix (sS wv) ?_;simp only[am,aH.al,Nd.fl];refine sN (n:=0) (by omega) (qv (j:=0) (cK hk)) ?_;simp only[am,bz.al,Nd.al];refine bK.intro (LC s.ba[k].shape n.ak[0] (axq hg hb) (hs.2.2 _ (dj wv)) (λm hm=>by obtain⟨a,b,c⟩:=OO (n:=n.ak[0]) (by omega) m hm;exact⟨by omega,by omega,λq hq=>by have:=c q hq;omega⟩) (by omega)) ?_;have eo:vX s (k:Nat) n=(gx s.ba[k].shape n.ak[0]).2:=by rw[vX,gi,Ge wv,ny hk]
 have ee:gR s (k:Nat) n=match (gx s.ba[k].shape n.ak[0]).2 with | some q=>[⟨4,q⟩] | none=>[]:=by rw[ea,vV,aF ⟨hk,h0⟩,eo];cases (gx s.ba[k].shape n.ak[0]).2<;>rfl
 generalize gx s.ba[k].shape n.ak[0]=g at ee;obtain⟨e,o⟩:=g;cases o with
 | none =>
  simp only[am,Nat.reduceAdd,b9,bn.al,show v_ aj=[.int .i64 0,.int .i64 0] from rfl];refine bK.intro (Ca D b Z l s (k:Nat) p 0 0 (by omega)) ?_;simp only[am];exact aX rfl (ah.bm _) ⟨rfl,by rw[ee,eD]⟩
 | some q =>
  simp only[am,Nat.reduceAdd,fL,Int.reduceEq,bn.al,show v_ (aa q)=[.int .i64 4,.int .i64 q] from rfl];refine bK.intro (Gs D b Z l s (k:Nat) p 4 q (by omega)) ?_;simp only[am];exact aX rfl (ah.bm _) ⟨rfl,by rw[ee]⟩
def ag7:aS prog 109 (sq [rg 0 [od (aa 2) (.gS 1 (.s 0)),ox 3 5 1],rg 0 [od (aa 4) (.qL [(.raw .nilFunc)])],rg 5 [oq (.ky (.func 176) [] [(.s 2),(.s 4)]),o2 1 4],rg 6 [oo 4,ol 5 3,oq (.jj (.s 6) [(.s 7)])]]) [] 9:=aW func109 ⟨[2,4],[]⟩
def ahQ:aS prog 176 (sq [rg 0 [ox 3 5 0],rg 6 [oo 1,ol 5 3,oC 177 [6,7]],sq [rg 9 [fo 0 3,nB .eql 1,gB,fo 0 3,nB .eql 7,gZ],ci 16 .ret],rg 17 [fo 4 3,nL,oi 0],lp 19 0 (sq [rg 22 [oA 5 18 20,nl 5,oZ 5 [0,0,1,7,10],o2 5 5],rg 24 [oo 2,ol 5 5,oq (.jj (.s 24) [(.s 25)])]]) 27]) [] 28:=aW func176
def au6(D:ah)(b Z b2 b4:Nat)(s:aH)(lat p:Int)(hs:s.ok)(hg:TZ D)(hb:D.box b=aj)(kW:lat<s.ba.length)(n2:b2≠b)(n4:b4≠b)(h2:D.box b2=aa [.ptr (.out b) 0])(h4:D.box b4=aa [.fn (.func 176) [] [.ptr (.out b2) 0,.ptr (.out b4) 0]]) :
 ∀(k:Nat) (n:Nd) (l:List aY),n.wt<=k->l.length+n.cU<=90000000->n.cU<=100000->n.wt<=aQ ->
 dY 176 [.agg n.enc,.ptr (.out b2) 0,.ptr (.out b4) 0] (di D b Z l s lat p) (.bH []) (di D b Z (l++ff s lat n) s lat p):=by
 have e2:∀l,(di D b Z l s lat p).box b2=aa [.ptr (.out b) 0]:=λl=>by rw[Cg n2];exact h2
 have e4:∀l,(di D b Z l s lat p).box b4=aa [.fn (.func 176) [] [.ptr (.out b2) 0,.ptr (.out b4) 0]]:=λl=>by rw[Cg n4];exact h4
 intro k;induction k with
 | zero=>intro n l h;have:=Nd.uC n;have:=CM n;omega
 | succ k ih =>
  intro n l hk hl hc hw;refine ahQ.aV ?_;simp only[aU,am,a7,Nat.reduceAdd,Nd.al];simp only[am,Nd.al,e2];refine cl (Y0 D b Z l s lat p n (by omega) hs hg hb kW hc hw) ?_;have ha:=@Hf s lat n;simp only[am,Nd.fl]
  by_cases tE:n.kind=1\/n.kind=7
  .have e:ff s lat n=gR s lat n:=by rw[BJ,aF tE,eD]
   have mb:(decide (n.kind=1)=ab)\/(decide (n.kind=1)=ar/\decide (n.kind=7)=ab):=by
    by_cases h:n.kind=1
    .exact .inl (aK h)
    .exact .inr ⟨aJ h,aK (by simpa [h] using tE)⟩
   rcases mb with e1 | ⟨e1,e7⟩
   case' inl=>simp only[am,e1]
   case' inr=>simp only[am,Nd.fl,e1,e7]
   all_goals exact aX rfl (ah.bm _) ⟨rfl,by rw[e]⟩
  have e:ff s lat n=gR s lat n++n.ak.flatMap (ff s lat):=by rw[BJ,aB tE]
  simp only[am,aN,Nd.fl,aN,aJ (λh=>tE (.inl h)),aJ (λh=>tE (.inr h))];have Fb:=A3 n;have xU:=Nd.uC n;refine cn (n.ak.length) (λi (x:Unit)=>⟨[.any,.ptr (.out b2) 0,.ptr (.out b4) 0,.ptr (.aE 0) 0,.any,.any,.any,.any,.any,.any,.any,.any,.any,.any,.any,.any,.any,.any,.sl .no 5 (n.ak.map Nd.enc),.int .i64 (n.ak.length:Nat),.int .i64 (i:Nat)]++aq 7 .any,[n.enc],di D b Z (l++gR s lat n++(n.ak.take i).flatMap (ff s lat)) s lat p⟩) (λi x=>(True)) λF hF JF aT=>⟨?_,?_,?_⟩
  .exact en aT (()) (trivial)
  .rintro i x hi -;have hm:n.ak[i]∈n.ak:=dj _;have zu:=so hm;have zw:=qp hm;have hlen:=anI (s:=s) (lat:=lat) hi;simp only[hF,aq,am,cc hi];refine ix (qv (cK hi)) ?_;simp only[am,Nd.al,e4];refine cl (ih n.ak[i] _ (by omega) (by simp only[bM];omega) (by omega) (by omega)) ?_;simp only[am,aI,bJ hi,eN];refine fk (()) hi ?_ ?_ ?_ ?_ ?_ ?_
   .exact ey (aT _ _) (trivial)
   all_goals simp[hF,aq,am,bt,bR,du,V.lo,LS hi,eN,Nd.cP]
  .rintro x -;simp only[hF,aq,am,aI,cE,aI,dX];exact aX rfl (ah.bm _) ⟨rfl,by rw[e,eN]⟩
def Zi(D:ah)(b Z:Nat)(l:List aY)(s:aH)(lat p:Int)(n:Nd)(hs:s.ok)(hg:TZ D)(hb:D.box b=aj)(kW:lat<s.ba.length)(hl:l.length+n.cU<=90000000)(hc:n.cU<=100000)(hw:n.wt<=aQ) :
 dY 109 [.ptr (.out b) 0,.agg n.enc] (di D b Z l s lat p) (.bH []) (di D b Z (l++ff s lat n) s lat p):=by
 have fresh:∀{x:Nat} {dE:ah},(di dE b Z l s lat p).box x=aj->x≠b:=λ{x dE} h=>by rintro rfl;rw[Kd] at h;simp at h
 refine ag7.aV ?_;simp only[aU,am,a7,Nat.reduceAdd];intro b2 dx;have n2:=fresh dx;rw[Cg n2] at dx;simp only[am,Nd.al];rw[aad n2];intro b4 xL;have n4:=fresh xL;rw[Cg n4] at xL;have WC:b4≠b2:=by rintro rfl;simp[ah.set] at xL
 have ax6 : D.box b4=none:=by simpa [ah.set,WC] using xL
 simp only[am,Nd.al];rw[aad n4];have xP:TZ ((D.set b2 [V.ptr (Pl.out b) 0]).set b4 [V.fn (Fn.func 176) [] [V.ptr (Pl.out b2) 0,V.ptr (Pl.out b4) 0]]):=hg;refine cl (au6 _ b Z b2 b4 s lat p hs xP (by rw[pf n4.symm,pf n2.symm];exact hb) kW n2 n4 (by rw[pf WC.symm,iS]) iS n.wt n l (bY _) hl hc hw) ?_;simp only[am];exact aX rfl (ah.DL (aac n2 dx) (aac n4 xL)) ⟨rfl,rfl⟩
def ag_:aS prog 111 (sq [rg 0 [ox 3 5 1],sq [rg 11 [fo 0 3,nB .eql 1],ci 13 (rg 14 [om 0,fo 2 3,fo 1 3,oc 107 [.s 14,.s 16,.s 18,.c (.int .i64 2)]])],sq [rg 20 [fo 0 3,nB .neq 10],ci 22 .ret],rg 4 [oz 6],sq [rg 23 [fo 4 3,nL,oi 0],lp 25 0 (sq [rg 28 [oA 5 24 26,nl 5,oZ 6 [0,0,1,7,10],o2 5 6],dg 30 [mk 0,nf 0,om 4,fo 2 6,oC 173 [33,35],nB .geq 0,of 1 6,mM [0],no,oc 110 [.s 32,.s 37,.c (.int .i64 4),.s 39]],rg 41 [om 4,fo 2 6,n1 1,na 1 41,o1 4],rg 46 [fo 4 6,nL,oi 0],lp 48 2 (sq [rg 51 [oA 5 47 49,nl 5,oZ 8 [0,0,1,7,10],o2 5 8],rg 53 [om 0,ol 5 8,oC 177 [53,54]]]) 56]) 57],sq [rg 58 [fo 3 3,nL,oi 0],lp 60 4 (sq [rg 63 [oA 2 59 61,nl 2,oZ 10 [1,0],o2 2 10],rg 65 [om 0,fo 0 10,fo 1 10,oc 107 [.s 65,.s 67,.s 69,.c (.int .i64 2)]]]) 71],dg 72 [mk 0,nf 0,fo 4 3,nL,nB .gtr 16,mk 0,nF 4,oc 110 [.s 74,.s 78,.c (.int .i64 7),.s 82]]]) [] 84:=aW func111
def YG{x:List UInt8}:cD (l++[x])=cD l++[[.aG x]]:=by simp[cD]
def Cf{l:List aA}(h:j<l.length):(l.map aA.enc)[((j:Nat):Int).toNat]?=aa l[j].enc:=by simp[h]
def Zr(D:ah)(b Z:Nat)(l:List aY)(s:aH)(lat p:Int)(n:Nd)(hs:s.ok)(hg:TZ D)(hb:D.box b=aj)(kW:lat<s.ba.length)(hl:l.length<=30000000)(hc:n.cU<=100000)(hw:n.wt<=aQ) :
 dY 111 [.ptr (.out b) 0,.agg n.enc] (di D b Z l s lat p) (.bH []) (di D b Z (l++jS s lat p n) s lat p):=by
 refine ag_.aV ?_;simp only[aU,ug,Nat.reduceAdd]
 by_cases U:n.kind=1
 .simp only[am,Nd.fl,aK U];refine cl (Gn D b Z l s lat p n.pos 2 n.au (by omega) hs) ?_;simp only[am,Nd.fl,aJ (show ¬n.kind=10 by omega)];exact aX rfl (ah.bm _) ⟨rfl,by rw[jS,aF U]⟩
 simp only[am,Nd.fl,aJ U]
 by_cases fM:n.kind=10
 case neg =>
  simp only[am,aJ fM];exact aX rfl (ah.bm _) ⟨rfl,by rw[jS,aB U,aB fM,eD]⟩
 simp only[am,aN,Nd.fl,aN,aK fM];have U3:jS s lat p n=qb s lat n.ak n.ak.length++wW s lat n.an++(if 16<n.ak.length then [⟨7,p⟩] else []):=by rw[jS,aB U,aF fM]
 have Fb:=A3 n;have xU:=Ep n;have gY:∀k∈n.ak,k.ak.length<=100000:=λk hk=>by have:=A3 k;have:=so hk;omega
 have l_:∀{i:Nat},i<=n.ak.length->(qb s lat n.ak i).length<=100000:=λ{i} hi=>by
  have:=LV (s:=s) (lat:=lat) hi
  have:=Sk n.ak i
  have:=Nd.uC n
  omega
 refine cn (n.ak.length) (λi (x:Tk × ah)=>⟨[.ptr (.out b) 0,.any,.any,.ptr (.aE 0) 0,.sl x.1 1 (cD ((n.ak.take i).map Nd.au)),.any,.any,.any,.any,.any,.any,.any,.any,.any,.any,.any,.any,.any,.any,.any,.any,.any,.any,.any,.sl .no 5 (n.ak.map Nd.enc),.int .i64 (n.ak.length:Nat),.int .i64 (i:Nat)]++aq 57 .any,[n.enc],di x.2 b Z (l++qb s lat n.ak i) s lat p⟩) (λi x=>(Ah D x.2 Z x.1 i)) λF hF JF aT=>⟨?_,?_,?_⟩
 .refine en aT ((.aZ,D)) (Ah.nil) ?_ ?_ ?_
  all_goals simp[hF,aq,am,bt,qb,cD]
 .rintro i ⟨tk,bF⟩ hi hA;simp only at hA;have hm:n.ak[i]∈n.ak:=dj _;have zu:=so hm;have zw:=qp hm;have qV:=gY _ hm;have hL:=l_ (KM hi);have Ii:TZ bF:=hA.sub.2.2 _ _ hg;have ek:bF.box b=none:=by rw[hA.box];exact hb
  have uU:((n.ak.take i).map Nd.au).length=i:=by simp;omega
  have xQ:n.ak.getD i jb=n.ak[i]:=ny hi;simp only[hF,aq,am,cc hi];refine ix (qv (cK hi)) ?_;simp only[am,Nd.al,Nd.fl];refine bK.intro (ch.eC (as' := [.sl .no 1 (cD ((n.ak.take i).map Nd.au)),.aG n.ak[i].au]) (xB ((n.ak.take i).map Nd.au) n.ak[i].au _ (by omega)) ⟨dp.no,dp.rfl,trivial⟩ bW.rfl) ?_;simp only[am,Nd.fl,Jk];have ed:rL n.ak i=if (fu ((n.ak.take i).map Nd.au) n.ak[i].au).isSome then [⟨4,n.ak[i].pos⟩] else []:=by rw[rL,xQ]
  have UD:(rL n.ak i).length<=1:=by rw[ed];split<;>simp
  refine bK.intro (yw bF b Z (l++qb s lat n.ak i) s lat p 4 n.ak[i].pos _ (by simp only[bM];omega)) ?_;rw[<-ed];simp only[am,Nd.fl];refine Ah.app (by rw[eB,uU];exact hA) (by simp[eB,aQ];omega) λfD eT CY=>?_
  have CY:Ah D eT Z fD (i+1):=by rw[bM,eB,uU] at CY;exact CY
  have xP:TZ eT:=CY.sub.2.2 _ _ hg;have dx:eT.box b=none:=by rw[CY.box];exact hb
  simp only[am,aN,Nd.fl,aN];refine cn (n.ak[i].ak.length) (λj (y:Unit)=>⟨[.ptr (.out b) 0,.any,.any,.ptr (.aE 0) 0,.sl fD 1 (cD ((n.ak.take i).map Nd.au)++[[.aG n.ak[i].au]]),.any,.any,.any,.any,.any,.any,.any,.any,.any,.any,.any,.any,.any,.any,.any,.any,.any,.any,.any,.sl .no 5 (n.ak.map Nd.enc),.int .i64 (n.ak.length:Nat),.int .i64 (i:Nat),.any,.any,.any,.any,.any,.any,.any,.any,.any,.any,.any,.any,.any,.any,.any,.any,.any,.any,.any,.any,.sl .no 5 (n.ak[i].ak.map Nd.enc),.int .i64 (n.ak[i].ak.length:Nat),.int .i64 (j:Nat)]++aq 34 .any,[n.enc,n.ak[i].enc],di eT b Z (l++qb s lat n.ak i++rL n.ak i++(n.ak[i].ak.take j).flatMap (gR s lat)) s lat p⟩) (λj y=>(True)) λF2 bZ pU df=>⟨?_,?_,?_⟩
  .refine en df (()) (trivial) ?_ ?_ ?_
   all_goals simp[bZ,aq,am,bt]
  .rintro j y hj -;have C':n.ak[i].ak[j]∈n.ak[i].ak:=dj _;have ami:=so C';have amk:=qp C';have hL2:((n.ak[i].ak.take j).flatMap (gR s lat)).length<=100000:=by
    have:=EB (f:=gR s lat) (m:=1) (l:=n.ak[i].ak.take j) λ_ _=>Hf
    rw[se,iN] at this;omega
   simp only[bZ,aq,am,cc hj];refine ix (qv (cK hj)) ?_;simp only[am,Nat.reduceAdd,Nd.al];refine cl (Y0 eT b Z _ s lat p n.ak[i].ak[j] (by simp only[bM];omega) hs xP dx kW (by omega) (by omega)) ?_;simp only[am,aI,bJ hj];refine fk (()) hj ?_ ?_ ?_ ?_ ?_ ?_
   .exact ey (df _ _) (trivial)
   all_goals simp[bZ,aq,am,bt,bR,du,V.lo,LS hj,eN,Nd.cP]
  .rintro y -;simp only[bZ,aq,am,aI,cE,Nat.reduceEqDiff,aI,reduceCtorEq,Nd.fl,aN,dX,bJ hi];have ef:qb s lat n.ak (i+1)=qb s lat n.ak i++(rL n.ak i++n.ak[i].ak.flatMap (gR s lat)):=by rw[Tv,y9,xQ]
   have et:(n.ak.take (i+1)).map Nd.au=(n.ak.take i).map Nd.au++[n.ak[i].au]:=by rw[iG hi,fX];rfl
   refine fk ((fD,eT)) hi ?_ ?_ ?_ ?_ ?_ ?_
   .exact ey (aT _ _) (CY)
   all_goals simp[hF,aq,am,bt,bR,du,V.lo,ef,et,YG,eN,Nd.cP]
 .rintro⟨tk,bF⟩ hA;simp only at hA;have hL:=l_ (bY _);simp only[hF,aq,am,aI,cE,aI,Nd.fl,aN];refine cn (n.an.length) (λj (y:Unit)=>⟨[.ptr (.out b) 0,.any,.any,.ptr (.aE 0) 0,.any,.any,.any,.any,.any,.any,.any,.any,.any,.any,.any,.any,.any,.any,.any,.any,.any,.any,.any,.any,.any,.any,.any,.any,.any,.any,.any,.any,.any,.any,.any,.any,.any,.any,.any,.any,.any,.any,.any,.any,.any,.any,.any,.any,.any,.any,.any,.any,.any,.any,.any,.any,.any,.any,.any,.sl .no 2 (n.an.map aA.enc),.int .i64 (n.an.length:Nat),.int .i64 (j:Nat)]++aq 22 .any,[n.enc],di bF b Z (l++qb s lat n.ak n.ak.length++wW s lat (n.an.take j)) s lat p⟩) (λj y=>(True)) λF3 tG JF3 EM=>⟨?_,?_,?_⟩
  .refine en EM (()) (trivial) ?_ ?_ ?_
   all_goals simp[tG,aq,am,bt,wW]
  .rintro j y hk -;have Uk:=@PW s lat (n.an.take j);rw[iN] at Uk;simp only[tG,aq,am,cc hk];refine ix (Cf hk) ?_;simp only[am,kl,aA.al];refine cl (Gn bF b Z _ s lat p n.an[j].pos 2 n.an[j].au (by simp only[bM];omega) hs) ?_;simp only[am,aI,bJ hk];have ef:wW s lat (n.an.take (j+1))=wW s lat (n.an.take j)++iD s lat n.an[j].au n.an[j].pos 2:=by rw[wW,LS hk];rfl
   refine fk (()) hk ?_ ?_ ?_ ?_ ?_ ?_
   .exact ey (EM _ _) (trivial)
   all_goals simp[tG,aq,am,bt,bR,du,V.lo,ef,eN,Nd.cP]
  .rintro y -;have Uk:=@PW s lat n.an;simp only[tG,aq,am,aI,cE,aI,kl,Nd.fl,aN,dX];have bound:(l++qb s lat n.ak n.ak.length++wW s lat n.an).length<=100000000:=by simp only[bM];omega
   by_cases zf:16<n.ak.length
   .rw[aK (show(16:Int)<(n.ak.length:Nat) by omega)];refine bK.intro (Gs bF b Z _ s lat p 7 p bound) ?_;simp only[am];exact aX rfl (aab hA.sub) ⟨rfl,by rw[U3,aF zf];simp only[eN]⟩
   .rw[aJ (show ¬(16:Int)<(n.ak.length:Nat) by omega)];refine bK.intro (Ca bF b Z _ s lat p 7 p bound) ?_;simp only[am];exact aX rfl (aab hA.sub) ⟨rfl,by rw[U3,aB zf,eD,eN]⟩
def aj8:aS prog 44 (sq [rg 2 [oz 1],rg 4 [oq (.ko 1 [(.c (.aG [])),(.c (.aG [99,104,97,105,110])),(.c (.aG [112,111,119,101,114])),(.c (.aG [112,114,111,100,117,99,116])),(.c (.aG [103,114,105,100])),(.c (.aG [116,97,98,108,101])),(.c (.aG [108,97,98,101,108])),(.c (.aG [114,111,119])),(.c (.aG [108,101,113])),(.c (.aG [114,111,119,101,113])),(.c (.aG [108,97,99,107,115])),(.c (.aG [112,117,115,104])),(.c (.aG [112,111,112])),(.c (.aG [99,104,101,99,107])),(.c (.aG [99,111,114,101])),(.c (.aG [119,104,121]))]),o1 3],sq [rg 5 [om 0,nB .lss 0,gB,om 0,om 3,nL,nb .geq 8,gZ],cr 12 2 [oz 1]],rg 13 [om 3,om 0,nA 1 13,no,o1 2],.ret]) [.tmp 2] 17:=aW func44
def aj9:aS prog 45 (sq [rg 2 [oz 1],rg 4 [oq (.ko 1 [(.c (.aG [])),(.c (.aG [110,119])),(.c (.aG [110,119])),(.c (.aG [110,119])),(.c (.aG [110,119,112])),(.c (.aG [110,119,112])),(.c (.aG [110,119])),(.c (.aG [110,119])),(.c (.aG [110,116,116])),(.c (.aG [110,114,114])),(.c (.aG [110,102])),(.c (.aG [])),(.c (.aG [])),(.c (.aG [])),(.c (.aG [])),(.c (.aG [110]))]),o1 3],sq [rg 5 [om 0,nB .lss 0,gB,om 0,om 3,nL,nb .geq 8,gZ],cr 12 2 [oz 1]],rg 13 [om 3,om 0,nA 1 13,no,o1 2],.ret]) [.tmp 2] 17:=aW func45
def akD{op:Int}(h0:0<=op)(U:op<16):(iZ.map λp=>[V.aG p.1])[op.toNat]?=aa [V.aG (cu op).1]:=by
 have hl:op.toNat<iZ.length:=by simp[iZ];omega
 rw[uo,cK hl];simp only[cu,aF (show 0<=op/\op<16 from⟨h0,U⟩),fW,cK hl,uu,yR]
def akE{op:Int}(h0:0<=op)(U:op<16):(iZ.map λp=>[V.aG p.2])[op.toNat]?=aa [V.aG (cu op).2]:=by
 have hl:op.toNat<iZ.length:=by simp[iZ];omega
 rw[uo,cK hl];simp only[cu,aF (show 0<=op/\op<16 from⟨h0,U⟩),fW,cK hl,uu,yR]
def aaN(op:Int)(D:ah):a8 44 [.int .i64 op] D (.aG (cu op).1):=by
 refine aj8.aV ?_;simp only[aU,am,a7,Nat.reduceAdd]
 by_cases h0:op<0
 .simp only[am,aK h0];refine aL ?_;simp[V.erase,cu,show ¬(0<=op/\op<16) by omega]
 .simp only[am,Nat.reduceAdd,aJ h0]
  by_cases U:16<=op
  .simp only[am,aK (show((16:Nat):Int)<=op from U)];refine aL ?_;simp[V.erase,cu,show ¬(0<=op/\op<16) by omega]
  .simp only[am,aJ (show ¬((16:Nat):Int)<=op from U)];refine tU (akD (by omega) (by omega)) ?_;simp only[am];exact rt
def aoj(op:Int)(D:ah):a8 45 [.int .i64 op] D (.aG (cu op).2):=by
 refine aj9.aV ?_;simp only[aU,am,a7,Nat.reduceAdd]
 by_cases h0:op<0
 .simp only[am,aK h0];refine aL ?_;simp[V.erase,cu,show ¬(0<=op/\op<16) by omega]
 .simp only[am,Nat.reduceAdd,aJ h0]
  by_cases U:16<=op
  .simp only[am,aK (show((16:Nat):Int)<=op from U)];refine aL ?_;simp[V.erase,cu,show ¬(0<=op/\op<16) by omega]
  .simp only[am,aJ (show ¬((16:Nat):Int)<=op from U)];refine tU (akE (by omega) (by omega)) ?_;simp only[am];exact rt
section
variable {c:az}
theorem acO:c.enc.length=17:=rfl
theorem acV:cW c.enc=true:=rfl
theorem acU:bT c.enc=true:=rfl
theorem acA:bD c.enc=c.enc:=rfl
theorem ac6:takeN 17 c.enc=aa c.enc:=rfl
theorem acW{z0 z1 z2 z3 z4 z5 z6 z7 z8 z9 Qr Qs Qt Qu Qv Qw Qx:V}:over [z0,z1,z2,z3,z4,z5,z6,z7,z8,z9,Qr,Qs,Qt,Qu,Qv,Qw,Qx] c.enc=c.enc:=rfl
theorem acP:bP ar 1 (c.enc.drop 7)=aa (.int .i64 c.left.kind):=rfl
theorem acY:setAt c.enc 2 w.enc=({c with name:=w}:az).enc:=rfl
theorem acC:cw 2 (c.enc.drop 2)=true:=rfl
theorem acZ:setAt c.enc 4 [.sl .no 2 (ws.map aA.enc)]=({c with an:=ws}:az).enc:=rfl
theorem acD:cw 1 (c.enc.drop 4)=true:=rfl
variable{ps:List (aA × aA)}
theorem ac0:setAt c.enc 5 [.sl .no 4 (ps.map gz)]=({c with bw:=ps}:az).enc:=rfl
theorem acE:cw 1 (c.enc.drop 5)=true:=rfl
theorem ac1{n:Int}:setAt c.enc 6 [.int .i64 n]=({c with pd:=n}:az).enc:=rfl
theorem acF:cw 1 (c.enc.drop 6)=true:=rfl
def acX{n:Nd}:setAt c.enc 7 n.enc=({c with left:=n}:az).enc:=by rw[Nd.dB];rfl
theorem acB:cw 5 (c.enc.drop 7)=true:=rfl
def ac2{n:Nd}:setAt c.enc 12 n.enc=({c with right:=n}:az).enc:=by rw[Nd.dB];rfl
theorem acG:cw 5 (c.enc.drop 12)=true:=rfl
def dZ:=af @acO <| af @acV <| af @acU <| af @acA <| af @ac6 <| af @acW <| af @acP <| af @acY <| af @acC <| af @acZ <| af @acD <| af @ac0 <| af @acE <| af @ac1 <| af @acF <| af @acX <| af @acB <| af @ac2 @acG
end
def ahx:aS prog 157 (sq [rg 3 [oi 0],bl 0 (sq [sq [rg 4 [om 0,oo 1,nT,nb .lss 4,gA,oo 1,om 0,nS 9,oC 158 [11],gZ],cx 13 0],.block 1 (rg 14 [ic 0])]),rg 16 [om 0,o1 3],.ret]) [.tmp 3] 17:=aW func157
def ahy:aS prog 158 (sq [rg 2 [oz 2],rg 3 [om 0,nu .geq 97,gA,om 0,nu .leq 122,gZ,nm,oh 9 (om 0),oh 9 (nu .geq 48),oh 9 (nm),og 12 (om 0),og 12 (nu .leq 57),oh 9 (oy 12 14),oq (.pick (.s 9) (.c (.bool ab)) (.s 15)),gB,om 0,nu .eql 95,gZ,o1 2],.ret]) [.tmp 2] 21:=aW func158
def ahz:aS prog 159 (sq [rg 4 [oz 2],rg 5 [om 0,om 1,nS 5,nu .eql 45,gA,om 1,nB .add 1,om 0,nT,nb .lss 11,gZ,gA,om 0,om 1,nB .add 1,nS 17,nu .eql 45,gZ,o1 4],.ret]) [.tmp 4] 23:=aW func159
def ahA:aS prog 160 (sq [rg 2 [oz 2],sq [rg 3 [om 0],.block 0 (sq [sq [rg 5 [ou .eql 3 35,o1 4],cd 4 .skip (sq [rg 6 [ou .eql 3 43,o1 4],cd 4 .skip (sq [rg 7 [ou .eql 3 38,o1 4],cd 4 .skip (sq [rg 8 [ou .eql 3 40,o1 4],cd 4 .skip (sq [rg 9 [ou .eql 3 41,o1 4],cd 4 .skip (sq [rg 10 [ou .eql 3 123,o1 4],cd 4 .skip (sq [rg 11 [ou .eql 3 125,o1 4],cd 4 .skip (sq [rg 12 [ou .eql 3 91,o1 4],cd 4 .skip (sq [rg 13 [ou .eql 3 93,o1 4],cd 4 .skip (sq [rg 14 [ou .eql 3 44,o1 4],cd 4 .skip (sq [rg 15 [ou .eql 3 58,o1 4],cd 4 .skip (sq [rg 16 [ou .eql 3 61,o1 4],cd 4 .skip (sq [rg 17 [ou .eql 3 124,o1 4],cd 4 .skip (rg 18 [ou .eql 3 60,o1 4])])])])])])])])])])])])])],cr 4 2 [oq (.mv (.c (.bool ab)))]])],rg 2 [oz 2],.ret]) [.tmp 2] 19:=aW func160
def au3{c:Int}(h:nW c=ab):uI c=ar/\c≠45/\c≠32/\c≠9:=by
 simp only[nW,PG,List.any_cons,List.any_nil,j1,bQ,dP,F1] at h
 rcases h with h | h | h | h | h | h | h | h | h | h | h | h | h | h<;>subst h<;>exact⟨by decide,by decide,by decide,by decide⟩
def aom{n p:Nat}{c:UInt8}{r:List UInt8}{acc:List Tok}:fG (n+1) p (c::r) acc =
 if c.toNat=32\/c.toNat=9 then fG n (p+1) r acc
 else if c.toNat=45/\(r.head?.map UInt8.toNat)=aa 45 then(acc,aj)
 else if nW (c.toNat:Nat)=ab then fG n (p+1) r (acc++[⟨(c.toNat:Nat),[c],p⟩])
 else if cV (fP (c::r))=ab then fG n (p+(fP (c::r)).length) ((c::r).drop (fP (c::r)).length) (acc++[⟨97,fP (c::r),p⟩])
 else([],aa p):=by
 simp only[fG]
 by_cases hb:c.toNat=32\/c.toNat=9
 .have U:fA c=false:=by
   simp only[fA]
   rcases hb with h | h<;>rw[h]<;>decide
  have h2:nW (c.toNat:Nat)=false:=by rcases hb with h | h<;>rw[h]<;>decide
  have h3:¬c.toNat=45:=by omega
  simp[hb,h2,h3,JI U]
 .rw[aB hb];split
  .rfl
  .cases hs:nW (c.toNat:Nat)
   .by_cases hn:cV (fP (c::r))=ab
    .have:0<(fP (c::r)).length:=by
      cases hq:fP (c::r) with
      | nil=>rw[hq] at hn;simp[cV] at hn
      | cons _ _=>simp
     simp[hn,this]
    .simp[hn]
   .have U:fA c=false:=(au3 hs).1;simp[JI U]
def alh(c:Int)(D:ah):a8 158 [.int .u8 c] D (.bool (uI c)):=by
 refine ahy.aV ?_;simp only[aU,am,a7,Nat.reduceAdd]
 repeat' (first
  | (refine kS (λh=>?_) (λh=>?_)<;>simp only[am,h])
  | (refine fx (λh=>?_) (λh=>?_)<;>simp only[s9,h,Nat.reduceAdd,Nat.reduceEqDiff,aN])
  | (refine lb (λh=>?_) (λh=>?_)<;>simp only[s9,h,Nat.reduceAdd,Nat.reduceEqDiff,aN])
 )
 all_goals refine aL ?_
 all_goals simp_all [V.erase,uI,sV]
 all_goals (try omega)
def au2(c:Int)(D:ah):a8 160 [.int .u8 c] D (.bool (nW c)):=by
 refine ahA.aV ?_;simp only[aU,am,a7,Nat.reduceAdd]
 repeat' (first
  | (refine kS (λh=>?_) (λh=>?_)<;>simp only[s9,h,Nat.reduceAdd,Nat.reduceEqDiff,aN])
  | (refine fx (λh=>?_) (λh=>?_)<;>simp only[am,h])
  | (refine lb (λh=>?_) (λh=>?_)<;>simp only[s9,h,Nat.reduceAdd,Nat.reduceEqDiff,aN])
 )
 all_goals refine aL ?_
 all_goals simp_all [V.erase,nW,PG]
 all_goals (try omega)
def adT(s:List UInt8)(a:Nat)(D:ah)(ha:a<s.length)(hb:s.length<=aQ):ch prog 159 [.aG s,.int .i64 (a:Nat)] D λv σ' => v = .bool (decide (s[a].toNat=45/\(s.drop (a+1)).head?.map UInt8.toNat=aa 45))/\σ' = D:=by
 simp only[aQ] at hb;have w1:IntKind.i64.wrap ((a:Int)+1)=((a+1:Nat):Int):=by rw[wrap_i64];simp
 have hh:(s.drop (a+1)).head?.map UInt8.toNat=if h:a+1<s.length then aa s[a+1].toNat else none:=by
  by_cases h:a+1<s.length
  .rw[Ew h,drop_cons h];rfl
  .rw[dif_neg h,QO (by omega)];rfl
 rw[hh];refine ahz.aV ?_;simp only[aU,am,a7,Nat.reduceAdd];refine wF (Ao ha) ?_;simp only[am]
 by_cases H0:s[a].toNat=45
 .simp only[am,aK (show((s[a].toNat:Nat):Int)=45 by omega),w1]
  by_cases hl:a+1<s.length
  .simp only[am,aK (show((a+1:Nat):Int)<s.length by omega),w1];refine wF (Ao hl) ?_;simp only[am];refine aL ?_;simp[V.erase,H0,hl];omega
  .simp only[am,aJ (show ¬((a+1:Nat):Int)<s.length by omega)];refine aL ?_;simp[V.erase,hl]
 .simp only[am,aJ (show ¬((s[a].toNat:Nat):Int)=45 by omega)];refine aL ?_;simp[V.erase,H0]
def NH(s:List UInt8)(D:ah)(p a n:Nat):St:=⟨[.int .i64 ((a+n:Nat):Int),.ptr (.out p) 0]++aq 15 .any,[],D⟩
def afH{s:List UInt8}{p a:Nat}(hp:D.box p=aa [.aG s])(ha:a<=s.length)(hb:s.length<=aQ):a8 157 [.int .i64 (a:Nat),.ptr (.out p) 0] D (.int .i64 ((a+(fP (s.drop a)).length:Nat):Int)):=by
 simp only[aQ] at hb;refine ahx.aV ?_;simp only[aU,am,a7,Nat.reduceAdd];refine jX (λq:{n:Nat // a+n<=s.length/\((s.drop a).take n).all fA=ab}=>NH s D p a q.1) (λq=>s.length - q.1) ?_ ?_
 .refine bI.enter ⟨0,by simpa using ha,by simp⟩ ?_ cT.rfl bW.rfl;simp[NH,aq,am]
 .rintro⟨n,hn,dq⟩;simp only[NH,aq,am,hp];have w1:IntKind.i64.wrap (((a+n:Nat):Int)+1)=((a+(n+1):Nat):Int):=by rw[wrap_i64];omega
  by_cases aD:a+n<s.length
  .simp only[am,aK (show((a+n:Nat):Int)<s.length by omega),hp];refine wF (Ao aD) ?_;simp only[am];refine cl (alh s[a+n].toNat D) ?_;cases hg:uI (s[a+n].toNat:Nat)
   .simp only[am];refine aX rfl (ah.bm _) ⟨?_,rfl⟩;simp[V.erase,Yu dq hn (λ_=>hg)]
   .simp only[am,w1];refine bI.again ⟨n+1,by omega,?_⟩ (by simp;omega) (by simp[am]) cT.rfl bW.rfl;have hd:n<(s.drop a).length:=by simp;omega
    rw[G_ hd,dq];simp only[iM,List.getElem_drop];exact hg
  .simp only[am,aJ (show ¬((a+n:Nat):Int)<s.length by omega)];refine aX rfl (ah.bm _) ⟨?_,rfl⟩;simp[V.erase,Yu dq hn (λh=>absurd h aD)]
def aky:aS prog 96 (sq [rg 2 [od (aa 1) (.gS 1 (.s 0)),oz 8,oM [0,0]],.scope (sq [rg 9 [oq (.ky (.func 157) [] [(.s 1)]),o1 4],rg 5 [oz 8],rg 6 [oi 0],.skip,bl 0 (sq [sq [rg 10 [om 6,oo 1,nT,nb .lss 10],cx 13 0],.block 1 (sq [rg 14 [oo 1,om 6,nS 14,o1 7],.block 2 (sq [rg 18 [om 7,nu .eql 32,gB,om 7,nu .eql 9,gZ,o1 17],cd 17 (sq [rg 24 [ic 6],(.exit 1)]) (sq [rg 27 [oo 1,om 6,oC 159 [27,28],o1 26],cd 26 (.exit 0) (sq [rg 31 [om 7,oC 160 [31],o1 30],ci 30 (sq [rg 33 [om 5,om 7,oo 1,om 6,om 6,nB .add 1,oK 35 36 38,om 6,oW [3,1,0] [(0,1,34),(1,1,39),(2,1,40)],n1 3,na 3 33,o1 5],rg 44 [ic 6],(.exit 1)])])])]),rg 46 [om 4,om 6,oq (.jj (.s 46) [(.s 47)]),o1 8],sq [rg 49 [oo 1,om 6,om 8,oK 49 50 51,oC 161 [52],nn],cr 54 55 [om 6,oG [0,0] [(0,1,.c (.int .i64 1)),(1,1,.s 55)],oU 2 8,o2 2 3]],rg 57 [om 5,oo 1,om 6,om 8,oK 58 59 60,om 6,oG [3,1,0] [(0,1,.c (.int .u8 97)),(1,1,.s 61),(2,1,.s 62)],n1 3,na 3 57,o1 5],rg 66 [om 8,o1 6]])]),rg 67 [om 5,oW [0,0] [],ot 2 67,o2 2 3],.ret])]) [.tmp 2,.cell 3 ab 2] 69:=aW func96 ⟨[1],[]⟩
abbrev Ks(s:List UInt8)(D:ah)(p:Nat)(R:List Tok × Option Int):={q:Nat × Nat × Nat × List Tok // (D.set p [.aG s]).aR q.2.2.1=aj/\fG q.1 q.2.1 (s.drop q.2.1) q.2.2.2=R/\q.2.2.2.length<=q.2.1/\q.2.1<=s.length/\s.length<=q.2.1+q.1}
def x8(s:List UInt8)(D:ah)(p a Z:Nat)(acc:List Tok):St :=
 ⟨[.aG s,.ptr (.out p) 0,.any,.ptr (.aE 0) 0,.fn (.func 157) [] [.ptr (.out p) 0],.sl (.tk Z) 3 (acc.map Tok.enc),.int .i64 (a:Nat)]++aq 62 .any,[[.int .i64 0,.int .i64 0]],(D.set p [.aG s]).a_ Z acc.length⟩
def aon(s:List UInt8)(D:ah)(hb:s.length+1<=aQ):a8 96 [.aG s] D (.bH [.sl .no 3 ((eG s).1.map Tok.enc),El (eG s).2]):=by
 simp only[aQ] at hb;generalize hR:eG s=R;refine aky.aV ?_;simp only[aU,am,a7,Nat.reduceAdd];refine kY λp hp=>?_
 simp only[am,cX];have qd:∀Z m,((D.set p [.aG s]).a_ Z m).box p=aa [.aG s]:=λZ m=>by simp[ah.a_,ah.set]
 have qY:∀Z m,(D.set p [.aG s]).aR Z=aj->D.sub ((D.set p [.aG s]).a_ Z m):=λZ m h=>ah.DL (jg hp) (s4 h)
 refine jX (λq:Ks s D p R=>x8 s D p q.1.2.1 q.1.2.2.1 q.1.2.2.2) (λq=>s.length - q.1.2.1) ?_ ?_
 .refine bI.Cb 0 λZ bE=>⟨⟨(s.length,0,Z,[]),bE,hR,by simp,by simp,by simp⟩,?_,rfl,rfl⟩
  simp[x8,aq,pD]
 .rintro⟨⟨n,a,Z,acc⟩,bE,hR,U,h2,h3⟩;simp only at bE hR U h2 h3;simp only[x8,aq,am];refine fx ?_ ?_
  .intro aD;have aD:a<s.length:=by simpa using aD
   obtain⟨m,rfl⟩:∃m,n=m+1:=⟨n - 1,by omega⟩;rw[drop_cons aD] at hR;rw[aom,<-drop_cons aD] at hR;have dk:=at6 (s:=s) (a:=a);have w1:IntKind.i64.wrap ((a:Int)+1)=((a+1:Nat):Int):=by rw[wrap_i64];simp
   have again:∀(b:Nat) (Cz : List Tok) (t:List V) (l:List (List V)),fG m b (s.drop b) Cz = R->Cz.length<=b->a<b->b<=s.length ->
    da t (x8 s D p b Z Cz).t->l=[[.int .i64 0,.int .i64 0]] ->
    bI ⟨t,l,(D.set p [.aG s]).a_ Z Cz.length⟩ λaP => ∃j:Ks s D p R,aP = x8 s D p j.1.2.1 j.1.2.2.1 j.1.2.2.2/\s.length - j.1.2.1<s.length - a:=λb Cz t l e1 e2 e3 e4 e5 e6=>by
    refine bI.again (μ:=λq:Ks s D p R=>s.length - q.1.2.1) (I:=λq=>x8 s D p q.1.2.1 q.1.2.2.1 q.1.2.2.2) ⟨(m,b,Z,Cz),bE,e1,e2,e4,by simp only;omega⟩ (by simp;omega) e5 (by rw[e6];exact cT.rfl) bW.rfl
   simp only[am];refine wF (Ao aD) ?_;simp only[am]
   by_cases qT:s[a].toNat=32\/s[a].toNat=9
   .rw[aF qT] at hR
    by_cases h32:s[a].toNat=32
    case' pos=>simp only[am,cX,Nat.reduceAdd,Nat.reduceEqDiff,aK (show((s[a].toNat:Nat):Int)=32 by omega),w1]
    case' neg=>simp only[am,cX,Nat.reduceAdd,Nat.reduceEqDiff,aJ (show ¬((s[a].toNat:Nat):Int)=32 by omega),aK (show((s[a].toNat:Nat):Int)=9 by omega),w1]
    all_goals exact again (a+1) acc _ _ hR (by omega) (by omega) (by omega) (by simp[x8,aq,am]) rfl
   .rw[aB qT] at hR;simp only[am,aJ (show ¬((s[a].toNat:Nat):Int)=32 by omega),aJ (show ¬((s[a].toNat:Nat):Int)=9 by omega)];refine(adT s a _ aD (by simp only[aQ];omega)).mono ?_;rintro v σ' ⟨rfl,rfl⟩
    by_cases zk:s[a].toNat=45/\(s.drop (a+1)).head?.map UInt8.toNat=aa 45
    .rw[aF zk] at hR;simp only[am,cX,Nat.reduceAdd,Nat.reduceEqDiff,aK zk];refine aX rfl (qY Z _ bE) ⟨?_,rfl⟩;simp[V.erase,bD,<-hR,El,gk]
    .rw[aB zk] at hR;simp only[am,aJ zk];refine(au2 (s[a].toNat:Nat) _).mono ?_;rintro v σ' ⟨rfl,rfl⟩;cases U7:nW (s[a].toNat:Nat)
     .rw[aB (by simp[U7])] at hR;simp only[am];refine(afH (s:=s) (qd Z _) (by omega) (by simp only[aQ];omega)).mono ?_;rintro v σ' ⟨rfl,rfl⟩;simp only[am,cX];refine PI (by omega) (by omega) ?_;rw[SE];simp only[am];refine(u9 (fP (s.drop a)) _).mono ?_;rintro v σ' ⟨rfl,rfl⟩;cases It:cV (fP (s.drop a))
      .rw[aB (by simp[It])] at hR;simp only[am,cX,Nat.reduceAdd];refine aX rfl (qY Z _ bE) ⟨?_,rfl⟩;simp[V.erase,bD,<-hR,El,gk]
      .rw[aF It] at hR;have hN:0<(fP (s.drop a)).length:=by
        cases hq:fP (s.drop a) with
        | nil=>rw[hq] at It;simp[cV] at It
        | cons _ _=>simp
       simp only[am,cX];refine PI (by omega) (by omega) ?_;rw[SE];simp only[am,Nat.reduceAdd];refine kM (by simp[aQ];omega) (by rw[aN,jG]) ?_;simp only[am,aN,jU];have e:acc.length+1=(acc++[(⟨97,fP (s.drop a),a⟩:Tok)]).length:=by simp
       rw[e];rw[yL] at hR;exact again (a+(fP (s.drop a)).length) _ _ _ hR (by simp;omega) (by omega) (by omega) (by simp[x8,aq,am,Tok.enc]) rfl
     .rw[aF U7] at hR;simp only[am,cX,w1];refine PI (by omega) (by omega) ?_;rw[aen aD];simp only[am,Nat.reduceAdd];refine kM (by simp[aQ];omega) (by rw[aN,jG]) ?_;simp only[am,cX,Nat.reduceAdd,Nat.reduceEqDiff,aN,jU,w1];have e:acc.length+1=(acc++[(⟨(s[a].toNat:Nat),[s[a]],a⟩:Tok)]).length:=by simp
      rw[e];exact again (a+1) _ _ _ hR (by simp;omega) (by omega) (by omega) (by simp[x8,aq,am,Tok.enc]) rfl
  .intro aD;have aD:a=s.length:=by simp at aD;omega
   subst aD;rw[D6] at hR;have qS : (acc,aj)=R:=by cases n<;>simpa [fG] using hR
   simp only[am,cX,Nat.reduceAdd];refine aX rfl (qY Z _ bE) ⟨?_,rfl⟩;simp[V.erase,bD,<-qS,El,gk]
def akz:aS prog 97 (sq [rg 2 [oz 10,oM [0,0]],rg 4 [oz 9],rg 5 [oz 10],sq [rg 11 [om 0,nL,oi 0],lp 12 0 (sq [rg 15 [oA 3 11 13,nl 3,oZ 7 [3,1,0],o2 3 7],rg 17 [om 4,nL,o1 8],.block 2 (sq [rg 27 [fo 0 7,oC 162 [28],nu .neq 0,o1 26],cd 26 (sq [sq [rg 31 [om 8,nB .geq 24],cr 32 33 [ol 3 7,oC 163 [33],oe 34 0,oe 34 1,ot 2 35,o2 2 3]],rg 37 [om 4,ol 3 7,om 5,oW [3,1,0,10] [(0,3,38),(3,1,39)],nO (.mS 4),na 4 37,o1 4],rg 5 [oz 10]]) (sq [rg 44 [fo 0 7,oC 164 [45],o1 43],cd 43 (sq [sq [dg 47 [om 8,nB .eql 0,gB,om 4,om 8,nB .sub 1,nA 4 50,nf 0,nF 0,oC 162 [56],of 0 7,mM [0],no,nb .neq 57,gZ],cr 61 62 [ol 3 7,oC 163 [62],oe 63 0,oe 63 1,ot 2 64,o2 2 3]],rg 66 [om 4,om 8,nB .sub 1,nA 4 66,nl 4,oZ 9 [3,1,0,10],o2 4 9],rg 71 [om 4,om 8,nB .sub 1,om 8,nB .sub 1,oq (.lT 4 (.s 71) aj (aa (.s 73)) (aa (.s 75))),o1 4],rg 77 [fo 3 9,of 0 9,nl 3,om 5,fo 2 7,oW [3,1,0,10,0] [(0,3,80),(3,1,81),(4,1,83)],n1 5,na 5 78,o1 5]]) (rg 19 [om 5,ol 3 7,fo 2 7,oW [3,1,0,10,0] [(0,3,20),(4,1,22)],n1 5,na 5 19,o1 5])])])]) 87],sq [rg 88 [om 4,nL,o1 10],rg 90 [om 10,nB .gtr 0],cr 91 92 [om 4,om 10,nB .sub 1,nA 4 92,nf 0,nl 3,oC 163 [97],oe 98 0,oe 98 1,ot 2 99,o2 2 3]],rg 101 [om 5,oW [0,0] [],ot 2 101,o2 2 3],.ret]) [.tmp 2,.cell 3 ab 2] 103:=aW func97 ⟨[41],[]⟩
def ahC:aS prog 162 (sq [rg 2 [oz 3],rg 3 [oz 3],sq [rg 4 [om 0],.block 0 (sq [.block 2 (sq [.block 1 (sq [sq [sq [sq [rg 6 [ou .eql 4 123,o1 5],cd 5 .skip (rg 7 [ou .eql 4 91,o1 5])],ci 5 (.exit 1)],rg 9 [ou .eql 4 40,o1 8],ci 8 (.exit 2)],(.exit 0)]),rg 10 [om 3,nu .add 1,o1 3]]),sq [rg 12 [om 0,nu .add 1,om 3,nb .add 13,o1 2],.ret],(.exit 0)])],rg 2 [oz 3],.ret]) [.tmp 2] 16:=aW func162
def ahD:aS prog 163 (sq [rg 2 [ox 1 3 0,oz 10,oM [0,0]],dg 4 [fo 2 1,oG [0,0] [(0,1,.c (.int .i64 2)),(1,1,.s 5)],oU 2 10,o2 2 3],.ret]) [.tmp 2,.cell 3 ab 2] 7:=aW func163
def ahE:aS prog 164 (sq [rg 2 [oz 2],rg 3 [om 0,nu .eql 41,gB,om 0,nu .eql 125,gZ,gB,om 0,nu .eql 93,gZ,o1 2],.ret]) [.tmp 2] 13:=aW func164
def R_(c:Int)(D:ah):a8 162 [.int .u8 c] D (.int .u8 (closing c)):=by
 refine ahC.aV ?_;simp only[aU,am,a7,Nat.reduceAdd]
 by_cases U:c=123
 .subst U;simp only[am,Nat.reduceEqDiff,b9];refine aL ?_;simp[V.erase];rfl
 .simp only[am,aJ U]
  by_cases h2:c=91
  .subst h2;simp only[am,Nat.reduceEqDiff,b9];refine aL ?_;simp[V.erase];rfl
  .simp only[am,aJ h2]
   by_cases h3:c=40
   .subst h3;simp only[am,Nat.reduceEqDiff,b9];refine aL ?_;simp[V.erase];rfl
   .simp only[am,Nat.reduceEqDiff,aJ h3];refine aL ?_;simp[V.erase,closing,U,h2,h3]
def adJ(c:Int)(D:ah):a8 164 [.int .u8 c] D (.bool (l7 c)):=by
 refine ahE.aV ?_;simp only[aU,am,a7,Nat.reduceAdd]
 repeat' (first
  | (refine kS (λh=>?_) (λh=>?_)<;>simp only[am,h])
  | (refine fx (λh=>?_) (λh=>?_)<;>simp only[s9,h,Nat.reduceAdd,Nat.reduceEqDiff,aN])
  | (refine lb (λh=>?_) (λh=>?_)<;>simp only[s9,h,Nat.reduceAdd,Nat.reduceEqDiff,aN])
 )
 all_goals refine aL ?_
 all_goals simp_all [V.erase,l7]
 all_goals (try omega)
def Hi(t:Tok)(D:ah):a8 163 [.agg t.enc] D (.bH [.sl .no 5 [],kR (aa t.pos)]):=by
 refine ahD.aV ?_;simp only[aU,am,a7,Tok.enc,am];refine aL ?_;simp[V.erase,bD,kR,dz,gk]
structure ji where
 tok:Tok
 tk:Tk
 ahead:List aC
def ji.enc(x:ji):List V:=[.int .u8 x.tok.kind,.aG x.tok.au,.int .i64 x.tok.pos,.sl x.tk 5 (eg x.ahead)]
def ji.pair(x:ji):Tok × List aC:=(x.tok,x.ahead)
def ji.tn(x:ji):Tk × Nat:=(x.tk,(eg x.ahead).length)
structure Cy where
 i:Nat
 JV:Tk
 op:List ji
 DO:Tk
 row:List aC
 Z:ah
def uW(l:List Tok)(q:Cy):St :=
 ⟨[.sl .no 3 (l.map Tok.enc),.any,.any,.ptr (.aE 0) 0,.sl q.JV 4 (q.op.map ji.enc),.sl q.DO 5 (eg q.row)]++aq 5 .any++[.sl .no 3 (l.map Tok.enc),.int .i64 l.length,.int .i64 (q.i:Nat)]++aq 89 .any,[[.int .i64 0,.int .i64 0]],q.Z⟩
def G6(l:List Tok)(D:ah)(R:List aC × Option Int)(q:Cy):Prop :=
 q.i<=l.length/\gE (l.drop q.i) (q.op.map ji.pair) q.row=R/\j7 D q.Z ((q.JV,(q.op.map ji.enc).length)::(q.DO,(eg q.row).length)::q.op.map ji.tn)/\q.op.length<=q.i/\q.row.length<=q.i/\∀x∈q.op,x.ahead.length+1<=q.i
def Zl(l:List O):l=[]\/∃ys x,l=ys++[x]:=by
 rcases QR l with h | ⟨ys,x,h⟩
 .exact .inl h
 .exact .inr ⟨ys,x,by rw[h];simp⟩
def avW(l:List Tok)(D:ah)(hb:l.length+1<=aQ):a8 97 [.sl .no 3 (l.map Tok.enc)] D (.bH [.sl .no 5 (eg (gE l [] []).1),kR (gE l [] []).2]):=by
 simp only[aQ] at hb;generalize hR:gE l [] []=R;refine akz.aV ?_;simp only[aU,am,a7,Nat.reduceAdd];refine jX (λq:{q:Cy // G6 l D R q}=>uW l q.1) (λq=>l.length - q.1.i) ?_ ?_
 .refine bI.enter ⟨⟨0,.aZ,[],.aZ,[],D⟩,by simp,hR,j7.init (by simp),by simp,by simp,by simp⟩ ?_ cT.rfl bW.rfl;simp[uW,aq,am,eg]
 .rintro⟨⟨i,JV,op,DO,row,Z⟩,U,hR,hT,ek,dx,sF⟩;simp only at U hR hT ek dx sF;simp only[uW,aq,am];refine fx ?_ ?_
  .intro aD;have aD:i<l.length:=by simpa using aD
   rw[nr aD] at hR;have amI:jW l i=l[i]:=by simp[jW,aD]
   rw[<-amI] at hR;generalize ht:jW l i=t at hR;have wi:IntKind.i64.wrap ((i:Int)+1)=((i+1:Nat):Int):=by rw[wrap_i64];simp
   have again:∀(q:Cy) (t:List V) (m:List (List V)),G6 l D R q->q.i=i+1->da t (uW l q).t->cT (m.take 1) [[.int .i64 0,.int .i64 0]] ->
    bI ⟨t,m,q.Z⟩ λaP => ∃j:{q:Cy // G6 l D R q},aP = uW l j.1/\l.length - j.1.i<l.length - i:=λq t m hq hi ht hm=>by
    refine bI.uv (I:=λq:{q:Cy // G6 l D R q}=>uW l q.1) (μ:=λq=>l.length - q.1.i) ⟨q,hq⟩ (by simp only;omega) ht hm bW.rfl (by simp[uW,aq,bR,V.lo]) (by simp[uW,du,bR,V.lo])
   simp only[am];refine ix (avK aD) ?_;rw[ht];simp only[am,Nat.reduceAdd,aN,Tok.enc];refine(R_ t.kind _).mono ?_;rintro v σ' ⟨rfl,rfl⟩;simp only[gE] at hR
   by_cases hc:closing t.kind=0
   .rw[aB (by simp[hc])] at hR;simp only[am,aK hc];refine(adJ t.kind _).mono ?_;rintro v σ' ⟨rfl,rfl⟩;cases gI:l7 t.kind
    .rw[gI] at hR;simp only[dP,cF] at hR;simp only[am,Nat.reduceAdd];refine K4 (hT.perm (List.Perm.swap _ _ _)) (by rw[lz];simp[aQ];omega) λυ lF=>?_
     simp only[lz,aN,dm,dQ,j6] at lF;simp only[am,lz,wi];have e:eg row++[[V.int .u8 t.kind,.aG t.au,.int .i64 t.pos,.sl .no 5 [],.int .i64 t.pos]]=eg (row++[.mk t [] t.pos]):=by simp[uF,aC.enc,eg]
     rw[e];refine again ⟨i+1,JV,op,.tk υ,row++[.mk t [] t.pos],σ'.a_ υ (row.length+1)⟩ _ _ ⟨aD,hR,?_,by simp only;omega,by simp;omega,λx hx=>by have:=sF x hx;simp only;omega⟩ rfl (by simp[uW,aq,am]) (by simp[am]);refine j7.perm ?_ (List.Perm.swap _ _ _);simpa [lz] using lF
    .rw[gI] at hR;simp only[cM] at hR
     rcases Zl op with rfl | ⟨ys,x,rfl⟩
     .simp only[fe,List.getLast?_nil] at hR;simp only[am,fe,dQ,show decide (((0:Nat):Int)=0)=ab from rfl];refine(Hi t _).mono ?_;rintro v σ' ⟨rfl,rfl⟩;simp only[am,Nat.reduceAdd,kR];refine aX rfl hT.1 ⟨?_,rfl⟩;simp[V.erase,bD,<-hR,dz,gk,eg]
     .have a9:¬(((ys++[x]).length:Nat):Int)=0:=by simp;omega
      have wn:IntKind.i64.wrap ((((ys++[x]).length:Nat):Int) - 1)=(ys.length:Nat):=by rw[wrap_i64 (by simp<;>omega) (by simp at ek ⊢<;>omega)];simp
      have dr:((ys++[x]).map ji.enc)[((ys.length:Nat):Int).toNat]?=aa x.enc:=by simp
      simp only[fX,cz,fe,GO,Kt,ji.pair] at hR;simp only[am,aJ a9,wn];refine ix (dr) ?_;simp only[am,ji.enc];refine bK.intro (R_ x.tok.kind _) ?_;simp only[am]
      by_cases hk:closing x.tok.kind=t.kind
      .rw[aF hk] at hR;simp only[am,aK hk,wn];refine ix (dr) ?_;simp only[am,cX,Nat.reduceAdd,ji.enc,wn];refine JN (by simp) ?_;have ER:j7 D σ' ((x.tk,(eg x.ahead).length)::ys.map ji.tn):=by
        refine(hT.tail.tail).perm ?_;simp only[fX,cz,fe,ji.tn];exact aaB _ _
       have hx3:=sF x (by simp);simp only[bM,dm,dQ] at ek;simp only[am,Nat.reduceAdd];refine K4 ER (by rw[lz];simp[aQ];omega) λυ lF=>?_
       simp only[lz,dm,dQ,j6] at lF;simp only[am,lz,wi];have e:eg x.ahead++[[V.int .u8 x.tok.kind,.aG x.tok.au,.int .i64 x.tok.pos,.sl .no 5 (eg row),.int .i64 t.pos]]=eg (x.ahead++[.mk x.tok row t.pos]):=by simp[uF,aC.enc]
       have e2:((ys++[x]).map ji.enc).take ys.length=ys.map ji.enc:=by simp
       rw[e,e2];refine again ⟨i+1,.aZ,ys,.tk υ,x.ahead++[.mk x.tok row t.pos],σ'.a_ υ (x.ahead.length+1)⟩ _ _ ⟨aD,hR,?_,by simp only;omega,by simp;omega,λy hy=>by have:=sF y (by simp[hy]);simp only;omega⟩ rfl (by simp[uW,aq,am]) (by simp[am]);refine j7.aZ ?_;simpa [lz] using lF
      .rw[aB hk] at hR;simp only[am,aJ hk];refine(Hi t _).mono ?_;rintro v σ' ⟨rfl,rfl⟩;simp only[am,Nat.reduceAdd,kR];refine aX rfl hT.1 ⟨?_,rfl⟩;simp[V.erase,bD,<-hR,dz,gk,eg]
   .rw[aF hc] at hR;simp only[am,aJ hc];rw[aN] at hR
    by_cases uL:24<=op.length
    .rw[aF uL] at hR;simp only[am,aK (show(24:Int)<=op.length by omega)];refine(Hi t _).mono ?_;rintro v σ' ⟨rfl,rfl⟩;simp only[am,Nat.reduceAdd,kR];refine aX rfl hT.1 ⟨?_,rfl⟩;simp[V.erase,bD,<-hR,dz,gk,eg]
    .rw[aB uL] at hR;simp only[am,qM,Nat.reduceAdd,aJ (show ¬(24:Int)<=op.length by omega),ars];refine K4 hT (by simp[aQ];omega) λυ lF=>?_
     simp only[aN,dm,dQ,j6] at lF;simp only[am,aN,wi];have e:op.map ji.enc++[[V.int .u8 t.kind,.aG t.au,.int .i64 t.pos,.sl DO 5 (eg row)]]=(op++[(⟨t,DO,row⟩:ji)]).map ji.enc:=by simp[ji.enc]
     rw[e];refine again ⟨i+1,.tk υ,op++[⟨t,DO,row⟩],.aZ,[],σ'.a_ υ (op.length+1)⟩ _ _ ⟨aD,by simpa [ji.pair] using hR,?_,by simp;omega,by simp,λx hx=>?_⟩ rfl (by simp[uW,aq,am,eg]) (by simp[am])
     .simp only[aN,bM,dm,dQ,j6,fX,cz,fe,ji.tn];refine j7.perm (j7.aZ (n:=(eg []).length) lF) ?_;refine(List.Perm.swap _ _ _).trans (List.Perm.cons _ (List.Perm.cons _ ?_));exact(aaB _ _).symm
     .rcases fi.1 hx with hx | hx
      .have:=sF x hx;simp only;omega
      .simp at hx;subst hx;simp only;omega
  .intro aD;have aD:i=l.length:=by simp at aD;omega
   subst aD;rw[D6] at hR;simp only[gE] at hR;simp only[am,aN];refine fx ?_ ?_
   .intro h0
    rcases Zl op with rfl | ⟨ys,x,rfl⟩
    .simp at h0
    have wn:IntKind.i64.wrap ((((ys++[x]).length:Nat):Int) - 1)=(ys.length:Nat):=by rw[wrap_i64 (by simp<;>omega) (by simp at ek ⊢<;>omega)];simp
    have dr:((ys++[x]).map ji.enc)[((ys.length:Nat):Int).toNat]?=aa x.enc:=by simp
    simp only[fX,cz,fe,GO,ji.pair] at hR;simp only[am,wn];refine ix (dr) ?_;simp only[am,ji.enc];refine(Hi x.tok _).mono ?_;rintro v σ' ⟨rfl,rfl⟩;simp only[am,Nat.reduceAdd,kR];refine aX rfl hT.1 ⟨?_,rfl⟩;simp[V.erase,bD,<-hR,dz,gk,eg]
   .intro h0;have h0:op=[]:=by
     cases op with
     | nil=>rfl
     | cons x xs=>simp at h0<;>omega
    subst h0;simp only[fe,List.getLast?_nil] at hR;simp only[am,Nat.reduceAdd];refine aX rfl hT.1 ⟨?_,rfl⟩;simp[V.erase,bD,<-hR,kR,dz,gk]
def akA:aS prog 98 (sq [rg 0 [oZ 2 [1,0]],rg 4 [om 0,oc 165 [.s 4,.c (.int .u8 97)],oZ 3 [3,1,0,10,0],o2 5 3],rg 6 [of 0 3,nF 1,of 0 3,nF 2,oW [1,0] [(0,1,8),(1,1,11)],o2 2 2],.ret]) [.cell 2 ab 2] 13:=aW func98
def ag0:aS prog 102 (sq [sq [rg 2 [mk 0,nf 3,nF 0,nB .neq 0],ci 7 .ret],rg 8 [om 0,mk 0,nF 2,oG [0,0] [(0,1,.c (.int .i64 2)),(1,1,.s 12)],ok 8,nf 3,os 2 15 13],dg 16 [mk 0,nF 1,mk 0,nF 0,nL,nb .lss 19],ci 25 (dg 26 [om 0,mk 0,nF 0,mk 0,nF 1,nA 5 30,nf 0,nF 2,ok 26,nf 3,nf 1,os 1 41 38])]) [] 42:=aW func102
def ahF:aS prog 165 (sq [rg 0 [oZ 4 [3,1,0,10,0]],sq [dg 5 [mk 0,nf 3,nF 0,nB .neq 0,gB,mk 0,nF 1,mk 0,nF 0,nL,nb .geq 15,gZ,gB,mk 0,nF 0,mk 0,nF 1,nA 5 27,nf 0,nF 0,om 1,nb .neq 35,gZ],ci 38 (sq [rg 39 [om 0,oC 102 [39]],rg 41 [oW [3,1,0,10,0] [],o2 5 4],.ret])],rg 42 [mk 0,nF 1,nB .add 1,ok 42,nf 1,os 1 48 46],dg 49 [mk 0,nF 0,mk 0,nF 1,nB .sub 1,nA 5 52,nl 5,o2 5 4],.ret]) [.cell 4 ab 5] 60:=aW func165
def ahI:aS prog 168 (sq [rg 0 [ox 5 5 1,ox 7 2 3],sq [rg 8 [nF 0,nB .neq 0],cr 10 11 [om 0,ol 2 7,ok 11,nf 3,os 2 14 12]],rg 15 [om 0,om 2,ok 15,nf 1,os 1 18 16],sq [rg 19 [mk 0,nf 5,nf 7,nF 0,nB .eql 0],cr 25 26 [om 0,ol 5 5,ok 26,nf 5,nf 7,os 5 30 27]],rg 31 [om 0,ol 5 5,ok 31,nf 5,nf 12,os 5 35 32]]) [] 36:=aW func168
variable{cs:List V}{r:Nat}{rd:ae}
def R1(h:D.box r=aa (rd.enc++cs))(h0:0<=rd.at_):dY 102 [.ptr (.out r) 0] D (.bH []) (D.set r (rd.fail.enc++cs)):=by
 refine ag0.aV ?_;simp only[aU,am,a7,am,h,ae.enc];cases hb:rd.aM with
 | some b =>
  simp only[am,Nat.reduceAdd,fL,Int.reduceEq,dz];refine aX rfl (ah.bm _) ⟨rfl,?_⟩;rw[ae.fail,hb];exact(ah.Ae h).symm
 | none =>
  simp only[am,Nat.reduceAdd,lz,b9,dz,h,ae.enc]
  by_cases U:rd.at_<rd.l.length
  .obtain⟨j,hj⟩:=AF h0;have iP : j<rd.l.length:=by omega
   simp only[am,b9,U,b9];refine sN h0 (c:=rd.l[j].enc) (by simp[uF,hj,iP]) ?_;simp only[am,Nat.reduceAdd,dB];refine aX rfl (ah.bm _) ⟨rfl,?_⟩;simp[ae.fail,ae.spot,hb,hj,iP,gk]
  .simp only[am,fL,U,fL];refine aX rfl (ah.bm _) ⟨rfl,?_⟩
   have:rd.l[rd.at_.toNat]?=none:=xe (by omega)
   simp[ae.fail,ae.spot,hb,this,gk]
def Hu{k:Int}(h:D.box r=aa (rd.enc++cs))(h0:0<=rd.at_)(hb:rd.l.length<=aQ):dY 165 [.ptr (.out r) 0,.int .u8 k] D (.agg (rd.take k).1.enc) (D.set r ((rd.take k).2.enc++cs)):=by
 refine ahF.aV ?_;simp only[aU,am,a7,am,h,ae.enc];have ka:rd.b_ k=ar->dY 102 [.ptr (.out r) 0] D (.bH []) (D.set r (rd.fail.enc++cs)):=λ_=>R1 h h0
 cases gm:rd.aM with
 | some b =>
  have hs:rd.b_ k=false:=by simp[ae.b_,ae.ok,gm]
  simp only[am,Nat.reduceAdd,fL,Int.reduceEq,dz];refine(ka hs).mono ?_;rintro v σ' ⟨rfl,rfl⟩;simp only[am,Nat.reduceAdd];refine aX rfl (ah.bm _) ⟨?_,?_⟩
  .simp[ae.take,hs,V.erase,bD,aC.zero,aC.enc,eg]
  .simp[ae.take,hs,ae.enc,dz]
 | none =>
  simp only[am,Nat.reduceAdd,lz,b9,dz,h,ae.enc]
  by_cases U:rd.at_<rd.l.length
  .obtain⟨j,hj⟩:=AF h0;have iP : j<rd.l.length:=by omega
   simp only[am,aJ (show ¬(rd.l.length:Int)<=rd.at_ by omega),h,ae.enc];refine sN h0 (c:=rd.l[j].enc) (by simp[uF,hj,iP]) ?_;simp only[am,dB]
   by_cases hk:rd.l[j].tok.kind=k
   .have hs:rd.b_ k=true:=by simp[ae.b_,ae.ok,gm,bL,hj,iP,hk]
    have w1:IntKind.i64.wrap (rd.at_+1)=rd.at_+1:=by simp only[aQ] at hb;exact wrap_i64 (by omega) (by omega)
    have w2:IntKind.i64.wrap (rd.at_+1 - 1)=rd.at_:=by rw[show rd.at_+1 - 1=rd.at_ by omega];simp only[aQ] at hb;exact wrap_i64 (by omega) (by omega)
    simp only[am,aK hk,h,ae.enc,w1,w2];refine sN h0 (c:=rd.l[j].enc) (by simp[uF,hj,iP]) ?_;simp only[am,aC.al];refine aX aC.dV (ah.bm _) ⟨?_,?_⟩
    .simp[ae.take,hs,V.erase,hj,iP,fW,aC.al];exact dB _
    .simp[ae.take,hs,dz]
   .have hs:rd.b_ k=false:=by simp[ae.b_,ae.ok,gm,bL,hj,iP,hk]
    simp only[am,aJ hk];refine(ka hs).mono ?_;rintro v σ' ⟨rfl,rfl⟩;simp only[am,Nat.reduceAdd];refine aX rfl (ah.bm _) ⟨?_,?_⟩
    .simp[ae.take,hs,V.erase,bD,aC.zero,eg,aC.tok,aC.ak,aC.fin]
    .simp[ae.take,hs,ae.enc,dz]
  .have hs:rd.b_ k=false:=by
    have:rd.l[rd.at_.toNat]?=none:=xe (by omega)
    simp[ae.b_,ae.ok,gm,bL,this]
   simp only[am,aK (show(rd.l.length:Int)<=rd.at_ by omega)];refine(ka hs).mono ?_;rintro v σ' ⟨rfl,rfl⟩;simp only[am,Nat.reduceAdd];refine aX rfl (ah.bm _) ⟨?_,?_⟩
   .simp[ae.take,hs,V.erase,bD,aC.zero,aC.enc,eg]
   .simp[ae.take,hs,ae.enc,dz]
def Es(h:D.box r=aa (rd.enc++cs))(h0:0<=rd.at_)(hb:rd.l.length<=aQ):dY 98 [.ptr (.out r) 0] D (.agg rd.word.1.enc) (D.set r (rd.word.2.enc++cs)):=by
 refine akA.aV ?_;simp only[aU,am,a7,Nat.reduceAdd];refine(Hu h h0 hb).mono ?_;rintro v σ' ⟨rfl,rfl⟩;simp only[am,Nat.reduceAdd,aC.al,aC.fl];refine aX rfl (ah.bm _) ⟨?_,?_⟩
 .simp[ae.word,V.erase,bD,aA.enc]
 .simp[ae.word]
variable{c:az}{pc:V}
def Se{g:Nd × Int × Option Int}(h:D.box r=aa (rd.enc++c.dc pc))(hb:rd.aM=aj):dY 168 [.ptr (.out r) 0,.agg g.1.enc,.int .i64 g.2.1,kR g.2.2] D (.bH []) (D.set r ((jD rd c g).1.enc++(jD rd c g).2.dc pc)):=by
 refine ahI.aV ?_;simp only[aU,am,a7,Nat.reduceAdd,Nd.al];simp only[am,Nat.reduceAdd,kR,ae.enc,az.dc];cases hg:g.2.2 with
 | some a =>
  simp only[am,Nat.reduceAdd,fL,Int.reduceEq,dz,h,ae.enc,az.dc];refine aX rfl (ah.bm _) ⟨rfl,?_⟩;simp[jD,hg]
 | none =>
  simp only[am,Nat.reduceAdd,b9,dz,h,ae.enc,az.dc]
  by_cases hk:c.left.kind=0
  .simp only[am,Nat.reduceAdd,aK hk,Nd.dB];refine aX rfl (ah.bm _) ⟨rfl,?_⟩;simp[jD,hg,hk]
  .simp only[am,Nat.reduceAdd,aJ hk,Nd.dB];refine aX rfl (ah.bm _) ⟨rfl,?_⟩;simp[jD,hg,hk]
def akB:aS prog 99 (sq [rg 2 [oi 0],sq [rg 4 [oi 0],bl 0 (sq [rg 5 [nB .lss 16],cx 5 0,.block 1 (sq [rg 6 [om 4,o1 3],rg 7 [om 3,nB .gtr 0,gA,om 3,oq (.sO 16 2 (.c (.ptr (.kT 0) 0)) (.s 10)),nF 0,om 0,nE .eql 13,gZ],cr 16 17 [om 3,o1 2]]),rg 18 [oB .add 4 1,o1 4]])],rg 2 [oi 0],.ret]) [.tmp 2] 19:=aW func99
def agZ:aS prog 100 (sq [rg 0 [oZ 2 [1,1]],sq [rg 3 [om 0,nB .lss 0,gB,om 0,nB .geq 16,gZ],cr 8 9 [oW [1,1] [],o2 2 2]],rg 10 [om 0,oq (.sO 16 2 (.c (.ptr (.kT 0) 0)) (.s 10)),nl 2,o2 2 2],.ret]) [.cell 2 ab 2] 13:=aW func100
def TJ(h:i<16):gG.drop (i*2)=[V.aG (iZ.getD i ([],[])).1,.aG (iZ.getD i ([],[])).2]++((iZ.map λp=>[V.aG p.1,V.aG p.2]).drop (i+1)).flatten:=by
 unfold gG;rw[LU (k:=2) (by intro r hr;simp only[px] at hr;obtain⟨p,_,rfl⟩:=hr;rfl),nr (by simpa [iZ] using h)]
 have:i<iZ.length:=by simpa [iZ] using h
 simp[fW,this]
def OA(op:Int)(hg:D.b8 0=aa gG):a8 100 [.int .i64 op] D (.agg [.aG (cu op).1,.aG (cu op).2]):=by
 refine agZ.aV ?_;simp only[aU,am,a7,Nat.reduceAdd]
 by_cases h0:op<0
 .simp only[am,Nat.reduceAdd,aK h0];refine aX rfl (ah.bm _) ⟨?_,rfl⟩
  have:¬(0<=op/\op<16):=by omega
  simp[V.erase,bD,cu,this]
 .simp only[am,aJ h0]
  by_cases U:16<=op
  .simp only[am,Nat.reduceAdd,aK U];refine aX rfl (ah.bm _) ⟨?_,rfl⟩
   have:¬(0<=op/\op<16):=by omega
   simp[V.erase,bD,cu,this]
  .simp only[am,cX,aJ U];refine jC ?_;simp only[am,Nat.reduceAdd,hg,TJ (show op.toNat<16 by omega)];refine aX rfl (ah.bm _) ⟨?_,rfl⟩
   have:0<=op/\op<16:=by omega
   simp[V.erase,bD,cu,this]
def zE(w:List UInt8)(D:ah)(i:Nat):St:=⟨[.aG w,.any,.any,.any,.int .i64 (i:Nat)]++aq 14 .any,[],D⟩
def aps(w:List UInt8)(hg:D.b8 0=aa gG):a8 99 [.aG w] D (.int .i64 (jt w)):=by
 generalize hR:jt w=R;unfold jt at hR;refine akB.aV ?_;simp only[aU,am,a7,Nat.reduceAdd];refine jX (λp:{p:Nat × Nat // pF w p.1 p.2=R/\p.2+p.1=16}=>zE w D p.1.2) (λp=>p.1.1) ?_ ?_
 .refine bI.enter ⟨(16,0),hR,rfl⟩ ?_ cT.rfl bW.rfl;simp[zE,aq,am]
 .rintro⟨⟨n,i⟩,hR,hs⟩;simp only at hR hs;simp only[zE,aq,am]
  by_cases aD:i<16
  .obtain⟨m,rfl⟩:∃m,n=m+1:=⟨n - 1,by omega⟩;simp only[pF] at hR;have wi:IntKind.i64.wrap ((i:Int)+1)=((i+1:Nat):Int):=by rw[wrap_i64];simp
   have hf:cu (i:Nat)=iZ.getD i ([],[]):=by simp only[cu];rw[aF (by omega)];simp
   have again:∀(t:List V),pF w m (i+1)=R->da t (zE w D (i+1)).t->bI ⟨t,[],D⟩ λaP => ∃j:{p:Nat × Nat // pF w p.1 p.2=R/\p.2+p.1=16},aP = zE w D j.1.2/\j.1.1<m+1:=λt h ht =>
    bI.again (I:=λp:{p:Nat × Nat // pF w p.1 p.2=R/\p.2+p.1=16}=>zE w D p.1.2) (μ:=λp=>p.1.1) ⟨(m,i+1),h,by simp only;omega⟩ (by simp) ht cT.rfl bW.rfl
   simp only[am,aK (show(i:Int)<16 by omega)]
   by_cases h0:0<i
   .simp only[am,cX,aK (show(0:Int)<i by omega)];refine jC ?_;simp only[am,hg,TJ aD,gi]
    by_cases hw:(iZ.getD i ([],[])).1=w
    .rw[aF ⟨h0,by rw[hf];exact hw⟩] at hR;simp only[am,aK hw];refine aL ?_;simp[V.erase,hR]
    .rw[aB (by rw[hf];exact λh=>hw h.2)] at hR;simp only[am,aJ hw,wi];exact again _ hR (by simp[zE,aq,am])
   .rw[aB (by simp[h0])] at hR;simp only[am,aJ (show ¬(0:Int)<i by omega),wi];exact again _ hR (by simp[zE,aq,am])
  .obtain rfl:n=0:=by omega
   simp only[pF] at hR;simp only[am,aJ (show ¬(i:Int)<16 by omega)];refine aL ?_;simp[V.erase,hR]
def ahH:aS prog 167 (sq [rg 6 [om 0,oc 165 [.s 6,.c (.int .u8 123)],oZ 2 [3,1,0,10,0],o2 5 2],rg 8 [om 0,of 0 2,nF 2,ok 8,nf 5,nf 6,os 1 14 11],sq [rg 15 [mk 0,nf 3,nF 0,nB .neq 0,gB,fo 3 2,nL,nB .eql 0,gZ],ci 26 .ret],rg 27 [fo 3 2,fo 4 2,oW [10,0,0,0,0,0,0,1,0,7,9,0,0,0,1,7,10,0,0,1,7,10] [(0,1,28),(2,1,30)],oq (.gS 22 (.s 31)),o1 3],bl 0 (sq [sq [rg 33 [mk 3,nf 3,nF 0,nB .eql 0],cx 38 0],.block 1 (sq [rg 39 [om 3,oC 98 [39],oZ 4 [1,0],o2 2 4],rg 41 [om 3,oc 165 [.s 41,.c (.int .u8 60)]],rg 43 [om 3,oC 98 [43],oZ 5 [1,0],o2 2 5],dg 45 [om 0,mk 0,nf 5,nF 5,ol 2 4,ol 2 5,oW [1,0,1,0] [(0,2,51),(2,2,52)],n1 4,na 4 50,ok 45,nf 5,nf 5,os 1 58 55],sq [dg 59 [mk 3,nF 1,mk 3,nF 0,nL,nb .eql 62],ci 68 (.exit 0)],rg 69 [om 3,oc 165 [.s 69,.c (.int .u8 44)]]])]),.qG (rg 71 [mk 3,nf 3,nF 0,nB .neq 0]),ci 76 (rg 77 [om 0,mk 3,nf 3,nl 2,ok 77,nf 3,os 2 83 81])]) [] 84:=aW func167 ⟨[32],[11]⟩
def avH{r:ae}{k:Int}:((r.take k).1.ak.length:Int)<=bp r.l:=by
 have:=(r.wX k).1
 have:=mW (r.take k).1.ak
 omega
def ZW(r:ae):mo r r.word.2:=zc r
def iU:List V:=[.int .i64 0,.int .i64 0,.aG [],.int .i64 0,.sl .aZ 2 [],.sl .aZ 4 [],.int .i64 0,.int .i64 0,.int .i64 0,.aG [],.sl .aZ 2 [],.sl .aZ 5 [],.int .i64 0,.int .i64 0,.aG [],.sl .aZ 2 [],.sl .aZ 5 []]
def aqW(h:D=σ'):bW D σ' := h▸bW.rfl
structure GY where
 n:Nat
 i:ae
 acc:List (aA × aA)
 Z:Nat
def rm(D:ah)(r q Z:Nat)(i rd:ae)(c:az)(acc:List (aA × aA)):ah:=((D.set q (i.enc++iU)).set r (rd.enc++c.dc (.sl (.tk Z) 4 (acc.map gz)))).a_ Z acc.length
section
variable {D:ah} {r q Z:Nat} {i i' rd:ae} {c:az} {acc:List (aA × aA)}
def Dy(h:q≠r):(rm D r q Z i rd c acc).box q=aa (i.enc++iU):=by simp[rm,ah.a_,ah.set,h]
def Xa:(rm D r q Z i rd c acc).box r=aa (rd.enc++c.dc (.sl (.tk Z) 4 (acc.map gz))):=by simp[rm,ah.a_,ah.set]
def arx:(rm D r q Z i rd c acc).aR Z=aa acc.length:=by simp[rm,ah.a_]
def Jo(h:q≠r):(rm D r q Z i rd c acc).set q (i'.enc++iU)=rm D r q Z i' rd c acc:=by
 have:((D.set q (i.enc++iU)).set r (rd.enc++c.dc (.sl (.tk Z) 4 (acc.map gz)))).set q (i'.enc++iU)=(D.set q (i'.enc++iU)).set r (rd.enc++c.dc (.sl (.tk Z) 4 (acc.map gz))):=by rw[ah.set_comm (fJ h),ah.set_set]
 show(((D.set q (i.enc++iU)).set r (rd.enc++c.dc (.sl (.tk Z) 4 (acc.map gz)))).set q (i'.enc++iU)).a_ Z acc.length=_;rw[this];rfl
theorem aee:bP ar 1 ((rd.enc++c.dc pc).drop 10)=aa pc:=rfl
theorem aej{x:V}:setAt (rd.enc++c.dc pc) 10 [x]=rd.enc++c.dc x:=rfl
theorem aec:cw 1 ((rd.enc++c.dc pc).drop 10)=true:=rfl
theorem aed:bP ar 1 (rd.enc++cs)=aa (.sl .no 5 (eg rd.l)):=rfl
theorem ad6:bP ar 1 ((rd.enc++cs).drop 1)=aa (.int .i64 rd.at_):=rfl
theorem ad9:bP ar 1 ((rd.enc++cs).drop 2)=aa (.int .i64 rd.fin):=rfl
theorem ad7:bP ar 1 ((rd.enc++cs).drop 3)=aa (.int .i64 (dz rd.aM)):=rfl
theorem ad8:takeN 2 ((rd.enc++cs).drop 3)=aa [.int .i64 (dz rd.aM),.int .i64 (gk rd.aM)]:=rfl
theorem ad':cw 2 ((rd.enc++cs).drop 3)=true:=rfl
variable{b:Option Int}
def aeg:setAt (rd.enc++cs) 3 [.int .i64 (dz b),.int .i64 (gk b)]=({rd with aM:=b}:ae).enc++cs:=by cases cs<;>rfl
def mD:=af @aee <| af @aej <| af @aec <| af @aed <| af @ad6 <| af @ad9 <| af @ad7 <| af @ad8 <| af @ad' @aeg
def arw{p:aA × aA}{n:Nat}(hn:n=acc.length+1):((rm D r q Z i rd c acc).a_ Z n).set r (rd.enc++c.dc (.sl (.tk Z) 4 (acc.map gz++[gz p])))=rm D r q Z i rd c (acc++[p]):=by
 subst hn;unfold rm;rw[bM,dm,dQ,fX,cz,fe];show((((D.set q (i.enc++iU)).set r (rd.enc++c.dc (.sl (.tk Z) 4 (acc.map gz)))).set r (rd.enc++c.dc (.sl (.tk Z) 4 (acc.map gz++[gz p])))).a_ Z acc.length).a_ Z (acc.length+1)=_;rw[ah.set_set,jU]
end
def ah.PT{X:List V}(h:D.sub σ'):(D.set r X).sub (σ'.set r X):=by
 refine⟨λb cs hb=>?_,h.2⟩;simp only[ah.set] at hb ⊢
 by_cases e:b=r
 .rw[aF e] at hb ⊢;exact hb
 .rw[aB e] at hb ⊢;exact h.1 b cs hb
def yW(r q:Nat):List V:=[.ptr (.out r) 0,.any,.any,.ptr (.out q) 0]++aq 80 .any
variable{acc:List (aA × aA)}
def Xi{Z:Nat}{i:ae}{t:List V}{l:List (List V)}{K:St->Prop}(bE:D.aR Z=aj)(ht:da t (yW r q))
 (hK:K ⟨yW r q,[],(D.set q (i.enc++iU)).set r (rd.enc++c.dc (.sl .no 4 (acc.map gz)))⟩):bI ⟨t,l,rm D r q Z i rd c acc⟩ K:=by
 refine bI.CO (l' := []) ht (by simp[cT]) ?_ (by simp[yW,aq,bR,V.lo]) rfl hK;refine⟨λb cs' hb=>?_,λυ m hm=>?_,λ_ _ h=>h⟩
 .simp only[rm,ah.a_,ah.set] at hb ⊢;split at hb
  .rename_i h;subst h;simp only[bc] at hb;subst hb;exact⟨_,by rw[aF rfl],by simp[ae.enc,az.dc,am]⟩
  .rename_i h;exact⟨cs',by rw[aB h];exact hb,da.rfl⟩
 .have hm:D.aR υ=aa m:=hm;have a9:υ≠Z:=by rintro rfl;rw[bE] at hm;simp at hm
  simp only[rm,ah.a_,ah.set,aB a9];exact hm
def zW{n:Nat}{i:ae}(h:i.aM≠aj):ae.gM n i acc=(i,acc):=by
 cases n<;>simp[ae.gM,h]
variable{ps:List (aA × aA)}
def OP(h:ps≠[]):rX ps = .sl .no 4 (ps.map gz):=by cases ps with | nil=>exact absurd rfl h | cons _ _=>rfl
def x9(D:ah)(r q:Nat)(rd:ae)(c:az)(p:GY):St :=
 ⟨[.ptr (.out r) 0,.any,.any,.ptr (.out q) 0]++aq 80 .any,[],rm D r q p.Z p.i rd c p.acc⟩
def Q9(t:aC)(D:ah)(R:ae × List (aA × aA))(p:GY):Prop :=
 ae.gM p.n p.i p.acc=R/\p.i.l=t.ak/\0<=p.i.at_/\p.i.at_<=p.i.l.length/\(p.i.aM=aj->(t.ak.length:Int)+1<=p.i.at_+p.n)/\(p.acc.length:Int)<=p.i.at_+1/\(p.i.aM=aj->(p.acc.length:Int)<=p.i.at_)/\D.aR p.Z=aj/\(p.i.aM=aj\/p.acc≠[])
def arC(h:D.box r=aa (rd.enc++c.dc (.sl .aZ 4 [])))(hc:c.bw=[])(h0:0<=rd.at_)(hm:bp rd.l+1<=aQ):
 dY 167 [.ptr (.out r) 0] D (.bH []) (D.set r ((qA rd c).1.enc++(qA rd c).2.dc (rX (qA rd c).2.bw))):=by
 have hlen:=mW rd.l;refine ahH.aV ?_;simp only[aU,am,a7,Nat.reduceAdd];refine(Hu h h0 (by omega)).mono ?_;rintro v σ' ⟨rfl,rfl⟩;have gn:=avH (r:=rd) (k:=123);have Iv:qA rd c=if (rd.take 123).2.aM≠aj\/(rd.take 123).1.ak.length=0 then((rd.take 123).2,{c with pd:=(rd.take 123).1.tok.pos})
  else((rd.take 123).2.vL ((rd.take 123).1.inner.gM ((rd.take 123).1.ak.length+1) []).1.aM,{c with pd:=(rd.take 123).1.tok.pos,bw:=((rd.take 123).1.inner.gM ((rd.take 123).1.ak.length+1) []).2}):=rfl
 rw[Iv];generalize (rd.take 123).1=t at gn ⊢;generalize (rd.take 123).2=r1;simp only[am,Nat.reduceAdd,aC.al,aC.fl,ae.enc,az.dc];cases hb:r1.aM with
 | some b =>
  simp only[am,fL,Int.reduceEq,dz];refine aX rfl (ah.bm _) ⟨rfl,?_⟩;simp[hc,rX,hb]
 | none =>
  simp only[am,lz,b9,dz,aC.fl]
  by_cases hk:t.ak.length=0
  .simp only[am,aK (show(t.ak.length:Int)=0 by omega)];refine aX rfl (ah.bm _) ⟨rfl,?_⟩;simp[hc,rX,hb,hk]
  .simp only[am,Nat.reduceAdd,aJ (show ¬(t.ak.length:Int)=0 by omega),aC.fl];refine kY λq hq=>?_
   have lC:q≠r:=by rintro rfl;simp[ah.set] at hq
   have Nf:D.box q=none:=by simpa [ah.set,lC] using hq
   generalize hR:ae.gM (t.ak.length+1) t.inner []=R;rw[aB (by simp[hk])];have eX:t.inner=(⟨t.ak,0,t.fin,aj⟩:ae):=rfl;generalize H_:({c with pd:=t.tok.pos}:az)=c1;have e1:∀A B,(D.set r A).set q B=(D.set q B).set r A:=λA B=>ah.set_comm (fJ lC)
   rw[e1];refine jX (λp:{p:GY // Q9 t D R p}=>x9 D r q r1 c1 p.1) (λp=>p.1.n) ?_ ?_
   .refine(bI.CO (t' := (x9 D r q r1 c1 ⟨0,t.inner,[],0⟩).t) (l' := []) (σ' := (D.set q (t.inner.enc++iU)).set r (r1.enc++c1.dc (.sl .aZ 4 []))) ?_ trivial ?_ (by simp[x9,aq,bR,V.lo]) rfl rfl).bind ?_
    .simp[x9,aq,am]
    .refine aqW ?_;simp[ae.enc,az.dc,iU,<-H_,eX,hb,dz,gk];rfl
    .rintro _ rfl;refine bI.tok 0 λZ bE=>⟨_,[],(D.set q (t.inner.enc++iU)).set r (r1.enc++c1.dc (.sl (.tk Z) 4 [])),fc.rfl,rfl,by simp,?_,⟨⟨t.ak.length+1,t.inner,[],Z⟩,?_⟩,?_⟩
     .have:=rH.set (D:=(D.set q (t.inner.enc++iU)).set r (r1.enc++c1.dc (.sl .aZ 4 []))) (b:=r) (Z:=Z) (n:=0) (cs' := r1.enc++c1.dc (.sl (.tk Z) 4 [])) (ah.eW _ _ _) (by simp[ae.enc,az.dc,pD])
      rwa [ah.set_set] at this
     .exact⟨hR,rfl,by simp[eX],by simp[eX],λ_=>by simp[eX],by simp[eX],λ_=>by simp[eX],bE,.inl rfl⟩
     .rfl
   .rintro⟨⟨n,i,acc,Z⟩,hR,hl,E7,qi,hn,ha1,Mq,bE,a9⟩;simp only at hR hl E7 qi hn ha1 Mq bE a9;simp only[x9,aq,am,Dy lC,mD];have fS : i.l.length=t.ak.length:=by rw[hl]
    have Fc:i.l.length<=aQ:=by rw[hl];omega
    cases gm:i.aM with
    | some b =>
     simp only[am,fL,Int.reduceEq,dz];rw[zW (by simp[gm])] at hR;have alD:acc≠[]:=by rcases a9 with h | h;rw[gm] at h;simp at h;exact h
     refine Xi bE (by simp[yW,aq,am]) ?_;have xM:∀B,((D.set q (i.enc++iU)).set r B).box q=aa (i.enc++iU):=λB=>by simp[ah.set,lC]
     have we:∀A B,((D.set q A).set r B).box r=aa B:=λA B=>by simp[ah.set]
     simp only[yW,aq,am,xM,mD,gm,dz];simp only[am,Nat.reduceAdd,fL,Int.reduceEq,xM,mD,gm,dz];refine aX rfl (ah.PT (jg Nf)) ⟨rfl,?_⟩;simp[<-hR,ae.vL,gm,OP alD,<-H_,ae.enc,az.dc,dz,gk];rfl
    | none =>
     have Mq:=Mq gm;have hn:=hn gm;obtain⟨m,rfl⟩:∃m,n=m+1:=⟨n - 1,by omega⟩;simp only[ae.gM,gm,ne_eq,Jh,cF] at hR;simp only[am,b9,dz];refine(Es (Dy lC) E7 Fc).mono ?_;rintro v σ' ⟨rfl,rfl⟩;rw[Jo lC];obtain⟨g1,g2⟩:=ZW i;have g2:=g2 E7 qi;have e1:i.word.2.l.length=i.l.length:=by rw[g1]
     generalize i.word.2=i1 at *;generalize i.word.1=lo at *;simp only[am,aA.al];refine(Hu (Dy lC) (by omega) (by rw[g1];exact Fc)).mono ?_;rintro v σ' ⟨rfl,rfl⟩;rw[Jo lC];obtain⟨g3,g4⟩:=uJ i1 60;have g4:=g4 (by omega) (by omega);have e2:(i1.take 60).2.l.length=i1.l.length:=by rw[g3]
     generalize (i1.take 60).2=i2 at *;simp only[am];refine(Es (Dy lC) (by omega) (by rw[g3,g1];exact Fc)).mono ?_;rintro v σ' ⟨rfl,rfl⟩;rw[Jo lC];obtain⟨g5,g6⟩:=ZW i2;have g6:=g6 (by omega) (by omega);have e3:i2.word.2.l.length=i2.l.length:=by rw[g5]
     generalize i2.word.2=i3 at *;generalize i2.word.1=hi at *;simp only[am,Nat.reduceAdd,Xa,mD,aA.enc];refine xo (by simp[aQ] at hm ⊢;omega) (by rw[aN];exact arx) ?_;simp only[am,Nat.reduceAdd,aN,Xa,mD];rw[show [V.aG lo.au,V.int .i64 lo.pos,.aG hi.au,.int .i64 hi.pos]=gz (lo,hi) from rfl,arw rfl];simp only[am,lz,Dy lC,mD];have xU:acc++[(lo,hi)]≠[]:=by simp
     by_cases jm:i3.at_=i.l.length
     .rw[aF jm] at hR;simp only[am,Nat.reduceEqDiff,aK (show i3.at_=(i3.l.length:Int) by omega)];refine Xi bE (by simp[yW,aq,am]) ?_;have xM:∀B,((D.set q (i3.enc++iU)).set r B).box q=aa (i3.enc++iU):=λB=>by simp[ah.set,lC]
      have we:∀A B,((D.set q A).set r B).box r=aa B:=λA B=>by simp[ah.set]
      cases sF:i3.aM with
      | none =>
       simp only[yW,aq,am,xM,mD,sF,dz];simp only[am,b9];refine aX rfl (ah.PT (jg Nf)) ⟨rfl,?_⟩;simp[<-hR,ae.vL,sF,OP xU,<-H_,hb,ae.enc,az.dc,dz,gk]
      | some b =>
       simp only[yW,aq,am,xM,mD,sF,dz];simp only[am,Nat.reduceAdd,fL,Int.reduceEq,xM,mD,sF,dz];refine aX rfl (ah.PT (jg Nf)) ⟨rfl,?_⟩;simp[<-hR,ae.vL,sF,OP xU,<-H_,ae.enc,az.dc,dz,gk];rfl
     .rw[aB jm] at hR;simp only[am,aJ (show ¬i3.at_=(i3.l.length:Int) by omega)];refine(Hu (Dy lC) (by omega) (by omega)).mono ?_;rintro v σ' ⟨rfl,rfl⟩;rw[Jo lC];obtain⟨g7,g8⟩:=uJ i3 44;have g8:=g8 (by omega) (by omega);have e4:(i3.take 44).2.l.length=i3.l.length:=by rw[g7]
      generalize (i3.take 44).2=i4 at *;simp only[am];refine bI.uv (I:=λp:{p:GY // Q9 t D R p}=>x9 D r q r1 c1 p.1) (μ:=λp=>p.1.n) ⟨⟨m,i4,acc++[(lo,hi)],Z⟩,hR,by rw[<-hl,g7,g5,g3,g1],by simp only;omega,by simp only;omega,λxL=>?_,?_,λxL=>?_,bE,.inr xU⟩ (by simp) (by simp[x9,aq,am]) (by simp[cT,x9]) bW.rfl (by simp[x9,aq,bR,V.lo]) rfl
      .have:=g8.2.2 xL;simp only;omega
      .simp;omega
      .have:=g8.2.2 xL;simp;omega
def TA:aS prog 101 (sq [sq [rg 6 [mk 0,nf 3,nF 0,nB .neq 0],ci 11 .ret],rg 12 [om 1],.block 0 (sq [rg 14 [oq (.dU .eql (.s 12) (.c (.int .i32 110))),o1 13],cd 13 (rg 15 [om 0,om 0,oC 98 [16],ok 15,nf 5,nf 2,os 2 20 17]) (sq [rg 22 [oq (.dU .eql (.s 12) (.c (.int .i32 102))),o1 21],cd 21 (rg 23 [om 0,om 0,oC 98 [24],n1 2,ok 23,nf 5,nf 4,os 1 29 26]) (sq [rg 31 [oq (.dU .eql (.s 12) (.c (.int .i32 119))),o1 30],cd 30 (sq [dA 33 [5] [mk 0,nF 0,mk 0,nF 1,mk 0,nF 2,oC 166 [36,40,44],o1 32,oe 32 0,oe 32 1,oN,ot 4 46,oX 5 2 47],dg 48 [om 0,om 0,om 4,mM [1],ol 2 5,ok 48,nf 5,nf 4,os 1 54 50,ok 49,nf 3,os 2 56 51],rg 57 [mk 0,nF 1,nB .add 1,ok 57,nf 1,os 1 63 61]]) (sq [rg 65 [oq (.dU .eql (.s 12) (.c (.int .i32 112))),o1 64],cd 64 (rg 66 [om 0,oC 167 [66]]) (sq [rg 69 [oq (.dU .eql (.s 12) (.c (.int .i32 116))),o1 68],cd 68 (dg 70 [om 0,mk 0,nF 0,mk 0,nF 1,mk 0,nF 2,oC 169 [74,78,82],oe 83 0,oe 83 1,oe 83 2,oC 168 [70,84,85,86]]) (sq [rg 89 [oq (.dU .eql (.s 12) (.c (.int .i32 114))),o1 88],ci 88 (dg 90 [om 0,mk 0,nF 0,mk 0,nF 1,mk 0,nF 2,oC 170 [94,98,102],oe 103 0,oe 103 1,oe 103 2,oC 168 [90,104,105,106]])])])])])])])]) [] 108:=aW func101
variable{b:Option Int}
theorem Tg:(kR b).c9=true:=rfl
section
variable {rd:ae} {c:az} {pc:V} {cs:List V}
theorem aeh:setAt (rd.enc++c.dc pc) 7 w.enc=rd.enc++({c with name:=w}:az).dc pc:=rfl
theorem aea:cw 2 ((rd.enc++c.dc pc).drop 7)=true:=rfl
theorem aei:setAt (rd.enc++c.dc pc) 9 [.sl .no 2 (ws.map aA.enc)]=rd.enc++({c with an:=ws}:az).dc pc:=rfl
theorem aeb:cw 1 ((rd.enc++c.dc pc).drop 9)=true:=rfl
def aef{n:Int}:setAt (rd.enc++cs) 1 [.int .i64 n]=({rd with at_:=n}:ae).enc++cs:=by cases cs<;>rfl
theorem ad_:cw 1 ((rd.enc++cs).drop 1)=true:=rfl
def Lp:=af @aeh <| af @aea <| af @aei <| af @aeb <| af @aef @ad_
end
def arE(h:D.box r=aa (rd.enc++c.dc pc))(hb:rd.aM=aj)(h0:0<=rd.at_)(hlen:rd.l.length<=aQ):
 dY 101 [.ptr (.out r) 0,.int .i32 102] D (.bH []) (D.set r (rd.word.2.enc++({c with an:=[rd.word.1]}:az).dc pc)):=by
 refine ch.le (S:=D.set r (setAt (rd.word.2.enc++c.dc pc) 9 [.sl .aZ 2 [rd.word.1.enc]])) ?_ (bW.set ?_)
 .refine TA.aV ?_;simp only[aU,am,a7,Nat.reduceAdd];simp only[am,b9,fL,Int.reduceEq,h,mD,hb,dz];refine(Es h h0 hlen).mono ?_;rintro v σ' ⟨rfl,rfl⟩;simp only[am,Nat.reduceAdd,aA.al,Lp];refine aX rfl (ah.bm _) ⟨rfl,rfl⟩
 .show da ([V.sl .no 5 (eg rd.word.2.l),.int .i64 rd.word.2.at_,.int .i64 rd.word.2.fin,.int .i64 (dz rd.word.2.aM),.int .i64 (gk rd.word.2.aM)]++_) ([V.sl .no 5 (eg rd.word.2.l),.int .i64 rd.word.2.at_,.int .i64 rd.word.2.fin,.int .i64 (dz rd.word.2.aM),.int .i64 (gk rd.word.2.aM)]++_);simp[am,az.dc]
def arJ{x:ae × az}{k:UInt8}(h:D.box r=aa (x.1.enc++x.2.dc pc))(hp:k=112->pc = .sl .aZ 4 []/\x.2.bw=[])(h0:0<=x.1.at_)(hm:bp x.1.l+1<=aQ)(ha:x.1.at_<=aQ):
 dY 101 [.ptr (.out r) 0,.int .i32 (k.toNat:Nat)] D (.bH []) (D.set r ((dC k x).1.enc++(dC k x).2.dc (if k=112/\x.1.aM=aj then rX (dC k x).2.bw else pc))):=by
 obtain⟨rd,c⟩:=x;simp only at h hp h0 hm ha;have hlen:=mW rd.l;have gY:∀n:UInt8,((k.toNat:Nat):Int)=(n.toNat:Nat)↔k=n:=λn=>by
  constructor
  .intro h;exact KT.1 (by omega)
  .rintro rfl;rfl
 by_cases k2:k=102/\rd.aM=aj
 .obtain⟨k2,hb⟩:=k2;subst k2
  have:=arE h hb h0 (by omega)
  simpa [dC,hb] using this
 refine TA.aV ?_;simp only[aU,am,a7,Nat.reduceAdd];simp only[am,h,mD];cases hb:rd.aM with
 | some b =>
  simp only[am,fL,Int.reduceEq,dz];refine aX rfl (ah.bm _) ⟨rfl,?_⟩;rw[show dC k (rd,c)=(rd,c) by simp[dC,hb],aB (by simp)];exact(ah.Ae h).symm
 | none =>
  have k2:¬k=102:=λh=>k2 ⟨h,hb⟩
  simp only[am,b9,dz];have pC:dC k (rd,c)=if k=110 then(rd.word.2,{c with name:=rd.word.1})
   else if k=119 then({rd with aM:=(jY rd.l rd.at_ rd.fin).2,at_:=rd.at_+1},{c with an:=(jY rd.l rd.at_ rd.fin).1})
   else if k=112 then qA rd c
   else if k=116 then jD rd c (fO (ae.label (bp rd.l)) rd.l rd.at_ rd.fin)
   else if k=114 then jD rd c (fO (ae.row (bp rd.l)) rd.l rd.at_ rd.fin)
   else(rd,c):=by simp[dC,hb,k2]
  have y6:((k.toNat:Nat):Int)=110↔k=110:=gY 110;have A7:((k.toNat:Nat):Int)=102↔k=102:=gY 102;have vU:((k.toNat:Nat):Int)=119↔k=119:=gY 119;have vT:((k.toNat:Nat):Int)=112↔k=112:=gY 112;have Hz:((k.toNat:Nat):Int)=116↔k=116:=gY 116;have Hy:((k.toNat:Nat):Int)=114↔k=114:=gY 114
  by_cases k1:k=110
  .rw[aF k1] at pC;simp only[am,aK (y6.2 k1)];refine(Es h h0 (by omega)).mono ?_;rintro v σ' ⟨rfl,rfl⟩;simp only[am,Nat.reduceAdd,aA.al,Lp];refine aX rfl (ah.bm _) ⟨rfl,?_⟩;rw[pC,aB (by simp[k1])]
  rw[aB k1] at pC;simp only[am,aJ (λh=>k1 (y6.1 h))];simp only[am,aJ (λh=>k2 (A7.1 h))]
  by_cases k3:k=119
  .rw[aF k3] at pC;simp only[am,Nat.reduceAdd,b9,Nat.reduceLT,aK (vU.2 k3),h,mD];refine bK.intro (aaO hm) ?_;rw[pC,aB (by simp[k3])];generalize jY rd.l rd.at_ rd.fin=o;have w1:IntKind.i64.wrap (rd.at_+1)=rd.at_+1:=by simp only[aQ] at ha;exact wrap_i64 (by omega) (by omega)
   simp only[am,Nat.reduceAdd,kR,h,mD,Lp,w1];exact aX rfl (ah.bm _) ⟨rfl,rfl⟩
  rw[aB k3] at pC;simp only[am,aJ (λh=>k3 (vU.1 h))]
  by_cases k4:k=112
  .rw[aF k4] at pC;obtain⟨rfl,hc⟩:=hp k4;simp only[am,aK (vT.2 k4)];refine(arC h hc h0 hm).mono ?_;rintro v σ' ⟨rfl,rfl⟩;simp only[am];refine aX rfl (ah.bm _) ⟨rfl,?_⟩;rw[pC,aF k4]
  rw[aB k4] at pC;simp only[am,aJ (λh=>k4 (vT.1 h))]
  by_cases k5:k=116
  .rw[aF k5] at pC;simp only[am,aK (Hz.2 k5),h,mD];refine bK.intro (aap (bY _) hm) ?_;rw[pC,aB (by simp[k4])];generalize fO (ae.label (bp rd.l)) rd.l rd.at_ rd.fin=g;simp only[am,Nd.al,Tg];refine bK.intro (Se h hb) ?_;simp only[am];refine aX rfl (ah.bm _) ⟨rfl,rfl⟩
  rw[aB k5] at pC;simp only[am,aJ (λh=>k5 (Hz.1 h))]
  by_cases k6:k=114
  .rw[aF k6] at pC;simp only[am,aK (Hy.2 k6),h,mD];refine bK.intro (aaK (bY _) hm) ?_;rw[pC,aB (by simp[k4])];generalize fO (ae.row (bp rd.l)) rd.l rd.at_ rd.fin=g;simp only[am,Nd.al,Tg];refine bK.intro (Se h hb) ?_;simp only[am];refine aX rfl (ah.bm _) ⟨rfl,rfl⟩
  rw[aB k6] at pC;simp only[am,aJ (λh=>k6 (Hy.1 h))];refine aX rfl (ah.bm _) ⟨rfl,?_⟩;rw[pC,aB (by simp[k4])];exact(ah.Ae h).symm
def akc:aS prog 53 (sq [rg 0 [oZ 2 [0,0,1,0,7,9,0,0,0,1,7,10,0,0,1,7,10],oZ 3 [0,0]],rg 12 [om 0,oC 96 [12],o1 11,oe 11 0,oe 11 1,oZ 5 [0,0],ot 4 14,o2 2 5],sq [rg 16 [fo 0 5,nB .neq 0],ci 18 (sq [dg 19 [oW [0,0,1,0,7,9,0,0,0,1,7,10,0,0,1,7,10] [],mM [1],ol 2 5,os 17 2 19,o2 2 3],.ret])],rg 22 [om 4,oC 97 [22],o1 21,oe 21 0,oe 21 1,ot 6 24,o2 2 5],sq [rg 26 [fo 0 5,nB .neq 0,gB,om 6,nL,nB .eql 0,gZ],ci 33 (sq [dg 34 [oW [0,0,1,0,7,9,0,0,0,1,7,10,0,0,1,7,10] [],mM [1],ol 2 5,os 17 2 34,o2 2 3],.ret])],rg 36 [om 6,om 0,nT,oW [10,0,0,0,0,0,0,1,0,7,9,0,0,0,1,7,10,0,0,1,7,10] [(0,1,36),(2,1,38)],oq (.gS 22 (.s 39)),o1 7],rg 41 [om 7,oC 98 [41],oZ 8 [1,0],o2 2 8],dg 43 [om 7,fo 0 8,oC 99 [45],of 1 8,mM [0],no,oW [0,0,1,0,7,9,0,0,0,1,7,10,0,0,1,7,10] [(0,1,46),(1,1,48)],ok 43,nf 5,os 17 51 49],sq [rg 52 [mk 7,nf 5,nF 0,nB .eql 0],ci 57 (sq [dg 58 [oW [0,0,1,0,7,9,0,0,0,1,7,10,0,0,1,7,10] [],om 6,nI 5 0,nf 0,nf 2,mM [1],no,oG [0,0] [(0,1,.c (.int .i64 2)),(1,1,.s 63)],os 17 2 58,o2 2 3],.ret])],.DC (rS 65 [mk 7,nf 5,nF 0,oC 100 [69],ow 1 70]) (.s 71) 72 73 74 0 1 (sq [rg 75 [oe 73 2,o1 10],rg 76 [om 7,om 10,oC 101 [76,77]]]),sq [rg 79 [mk 7,nf 3,nF 0,nB .eql 0,gA,mk 7,nF 1,om 6,nL,nb .lss 89,gZ],ci 93 (rg 94 [om 7,oC 102 [94]])],sq [rg 96 [mk 7,nf 3,nF 0,nB .neq 0],ci 101 (sq [dg 102 [oW [0,0,1,0,7,9,0,0,0,1,7,10,0,0,1,7,10] [],mk 7,nf 3,mM [1],nl 2,os 17 2 102,o2 2 3],.ret])],rg 107 [mk 7,nf 5,nl 17,oW [0,0] [],os 17 2 110,o2 2 3],.ret]) [.cell 2 ab 17,.cell 3 ab 2] 112:=aW func53 ⟨[40],[]⟩
def LW(f:Int × Int):V:=.agg [.int .i64 f.1,.int .i64 f.2]
def AS(s:List UInt8)(L:List aC)(b r:Nat):List V:=[.aG s,.any,.ptr (.aE 0) 0,.ptr (.aE 1) 0,.any,.any,.sl .no 5 (eg L),.ptr (.out r) 0]++aq 64 .any++[.raw (.pointer (aa ⟨b,0,aj⟩))]++aq 39 .any
def arY:(rX ps).erase = .sl .no 4 (ps.map gz):=by cases ps<;>rfl
theorem ad5:takeN 17 ((rd.enc++c.dc pc).drop 5)=aa (c.dc pc):=rfl
theorem ade:(c.dc pc).length=17:=rfl
def adg:cW (c.dc (rX ps))=true:=by cases ps<;>rfl
theorem adh{z0 z1 z2 z3 z4 z5 z6 z7 z8 z9 Qr Qs Qt Qu Qv Qw Qx:V}:over [z0,z1,z2,z3,z4,z5,z6,z7,z8,z9,Qr,Qs,Qt,Qu,Qv,Qw,Qx] (c.dc pc)=c.dc pc:=rfl
theorem adi:takeN 17 (c.dc pc)=aa (c.dc pc):=rfl
def adf:bT (c.dc (rX ps))=true:=by cases ps<;>rfl
def adb:bD (c.dc (rX c.bw))=c.enc:=by simp only[az.enc,az.dc,bD,arY];rfl
def ce:=af @ade <| af @adg <| af @adh @adi
def vA:List (List V):=[iU,[.int .i64 0,.int .i64 0]]
def aek(s:List UInt8)(hg:D.b8 0=aa gG)(hb:s.length+1<=aQ)(hm:bp (gE (eG s).1 [] []).1+8<=aQ):
 a8 53 [.aG s] D (.bH [.agg (cG s).1.enc,LW (cG s).2]):=by
 have Ip:=V1 s;refine akc.aV ?_;simp only[aU,am,a7,Nat.reduceAdd];refine cl (aon s D hb) ?_;generalize hR:cG s=R;unfold cG at hR;simp only[am,Nat.reduceAdd,El];cases hl:(eG s).2 with
 | some a =>
  rw[hl] at hR;simp only[am,Nat.reduceAdd,fL,Int.reduceEq];refine aX rfl (ah.bm _) ⟨?_,rfl⟩;rw[<-hR];rfl
 | none =>
  rw[hl] at hR;simp only[am,b9];refine cl (avW (eG s).1 D (by omega)) ?_;simp only[am,Nat.reduceAdd,kR];simp only at hR;cases ht:(gE (eG s).1 [] []).2 with
  | some a =>
   rw[ht] at hR;simp only[am,Nat.reduceAdd,fL,Int.reduceEq,dz];refine aX rfl (ah.bm _) ⟨?_,rfl⟩;rw[<-hR];rfl
  | none =>
   rw[ht] at hR;simp only at hR;simp only[am,lz,b9,dz];generalize (gE (eG s).1 [] []).1=l at hm hR ⊢;have hlen:=mW l;cases l with
   | nil =>
    simp only[am,Nat.reduceAdd,b9,dQ,show(((0:Nat):Int)=0)=True by simp];refine aX rfl (ah.bm _) ⟨?_,rfl⟩;rw[<-hR];rfl
   | cons t ts =>
    generalize hL:t::ts=L at *;have a9:¬(L.length:Int)=0:=by rw[<-hL];simp;omega
    simp only[am,Nat.reduceAdd,aJ a9];refine kY λr hr=>?_
    have rN : ∀X,(D.set r X).b8 0=aa gG:=λX=>hg
    have cL : ∀X,(D.set r X).box r=aa X:=λX=>ah.eW _ _ _
    simp only[am];change ch prog 98 [.ptr (.out r) 0] (D.set r ((⟨L,0,s.length,aj⟩:ae).enc++iU)) _;have alP:uB L s.length=if jt (⟨L,0,s.length,aj⟩:ae).word.1.au=0 then(.zero,2,t.tok.pos)
     else xz (jc (cu (jt (⟨L,0,s.length,aj⟩:ae).word.1.au)).2 ((⟨L,0,s.length,aj⟩:ae).word.2,{az.zero with op:=jt (⟨L,0,s.length,aj⟩:ae).word.1.au,pos:=(⟨L,0,s.length,aj⟩:ae).word.1.pos})):=by rw[<-hL];rfl
    rw[alP] at hR;refine(Es (cL _) (by simp) (show L.length<=aQ by omega)).mono ?_;rintro v _ ⟨rfl,rfl⟩;have hI:∀c,kJ L s.length ((⟨L,0,s.length,aj⟩:ae).word.2,c):=λc=>kJ.goes (x:=(⟨L,0,s.length,aj⟩,c)) ⟨rfl,rfl,by simp,by simp;omega,by simp⟩ rfl (zc _) (Gq _ 97)
    generalize (⟨L,0,s.length,aj⟩:ae).word.2=r1 at hI hR ⊢;generalize (⟨L,0,s.length,aj⟩:ae).word.1=w at hR ⊢;simp only[am,Nat.reduceAdd,aA.enc];refine bK.intro (aps w.au (rN _)) ?_;have e5:∀X:List V,X.length=17->setAt (r1.enc++iU) 5 X=r1.enc++X:=λX hX=>by
     match X,hX with
     | [_,_,_,_,_,_,_,_,_,_,_,_,_,_,_,_,_],_=>rfl
    have tE:cw 17 iU=true:=rfl;have d5:∀X:List V,(r1.enc++X).drop 5=X:=λX=>rfl
    generalize jt w.au=op at hR ⊢;simp only[am,Nat.reduceAdd,e5,tE,d5]
    by_cases jA:op=0
    .rw[aF jA] at hR;simp only[am,aK jA];refine tU (c:=t.enc) (by rw[<-hL];simp[uF]) ?_;simp only[am,Nat.reduceAdd,aC.fl];refine aX rfl (jg hr) ⟨?_,rfl⟩;rw[<-hR];rfl
    .rw[aB jA] at hR;simp only[am,aJ jA];refine P7 ?_;simp only[am,d5];refine(OA op (rN _)).mono ?_;rintro v σ' ⟨rfl,rfl⟩;simp only[am];generalize gn:(cu op).2=ks at hR ⊢;generalize Fu:((r1,{az.zero with op:=op,pos:=w.pos}):ae × az)=x0 at hR;have Uj:kJ L s.length x0:=by rw[<-Fu];exact hI _
     refine⟨ks,rfl,by rw[<-gn];exact LY op,λb i aP => aP = ⟨AS s L b r,vA,D.set r ((jc (ks.take i) x0).1.enc++(jc (ks.take i) x0).2.dc (rX (jc (ks.take i) x0).2.bw))⟩,?_,?_,?_,?_⟩
     .intro b;simp only[];refine bI.CO (l' := vA) ?_ ?_ ?_ (by simp[AS,vA,aq,bR,V.lo]) (by simp[vA,iU,du,bR,V.lo]) rfl
      .simp[AS,aq,am]
      .simp[vA,iU,am]
      .rw[<-Fu];exact bW.set (by simp[ae.enc,az.dc,az.zero,Nd.zero,Nd.kind,Nd.pos,Nd.au,Nd.an,Nd.ak,jc,rX,am])
     .rintro b i _ rfl;exact⟨rfl,by simp[AS],by simp[AS]⟩
     .rintro b i c _ hc rfl;simp only[AS,aq,am];have H3:=OM (ks.take i) Uj;have sI:jc (ks.take (i+1)) x0=dC c (jc (ks.take i) x0):=by rw[DM hc,Xn]
      have U0:c=112->(jc (ks.take i) x0).2.bw=[]:=λh=>by
       rw[Xm (ks.take i) (by rw[<-gn];exact akF op i (by rw[gn,hc,h])),<-Fu];rfl
      rw[sI];generalize jc (ks.take i) x0=x at H3 U0 ⊢;have hle:=H3.le;refine(arJ (k:=c) (cL _) (λh=>by rw[U0 h];exact⟨rfl,rfl⟩) H3.ge (by rw[H3.hl];omega) (by omega)).mono ?_;rintro v _ ⟨rfl,rfl⟩;have M':(if c=112/\x.1.aM=aj then rX (dC c x).2.bw else rX x.2.bw)=rX (dC c x).2.bw:=by
       by_cases h:c=112/\x.1.aM=aj
       .rw[aF h]
       .rw[aB h,Xk]
        by_cases U:c=112
        .exact .inr λh2=>h ⟨U,h2⟩
        .exact .inl U
      rw[M'];simp only[am,cX];exact bI.CO (l' := vA) (by simp[am]) (by simp[vA,iU,am]) bW.rfl (by simp[vA,bR,V.lo]) (by simp[vA,iU,du,bR,V.lo]) rfl
     .rintro b _ rfl;simp only[AS,vA,aq,am];rw[dX];have Me:=OM ks Uj;generalize jc ks x0=x at Me hR ⊢;obtain⟨rd,c⟩:=x;have U:=Me.hl;have h2:=Me.ge;simp only at U h2;unfold xz at hR;simp only[U] at hR;simp only[am,mD];cases gm:rd.aM with
      | some a =>
       simp only[gm] at hR;simp only[am,Nat.reduceAdd,fL,Int.reduceEq,dz,mD,gm,iU];refine aX rfl (jg hr) ⟨?_,rfl⟩;have hR:(az.zero,(2:Int),a)=R:=by simpa [gm] using hR
       rw[<-hR];rfl
      | none =>
       simp only[gm,qF] at hR;simp only[am,lz,b9,dz,mD]
       by_cases jm:rd.at_<L.length
       .rw[aF jm] at hR;simp only[am,aK jm];refine(R1 (cL _) h2).mono ?_;rintro v _ ⟨rfl,rfl⟩;obtain⟨a,ha⟩:∃a,rd.fail.aM=aa a:=by
         have:=ae.HL rd
         cases hq:rd.fail.aM with
         | none=>exact absurd hq this
         | some a=>exact⟨a,rfl⟩
        rw[ha] at hR;simp only[am,Nat.reduceAdd,fL,Int.reduceEq,mD,ha,dz,iU];refine aX rfl (jg hr) ⟨?_,rfl⟩;rw[<-hR];rfl
       .rw[aB jm,gm] at hR;simp only[am,Nat.reduceAdd,b9,aJ jm,mD,gm,dz,iU,ad5,ce];refine aX ?_ (jg hr) ⟨?_,rfl⟩
        .simp[V.c9,bT,adf]
        rw[<-hR];simp[V.erase,bD,adb,LW]
section
variable {c:az}
theorem acR:bP ar 1 c.enc=aa (.int .i64 c.op):=rfl
theorem acS:bP ar 1 (c.enc.drop 0)=aa (.int .i64 c.op):=rfl
theorem acT:bP ar 1 (c.enc.drop 1)=aa (.int .i64 c.pos):=rfl
def ft:=af @acR <| af @acS @acT
end
def LZ(op:Int):(cu op).2.length<=3:=by
 unfold cu;split
 .rename_i U;have aD:op.toNat<16:=by omega
  generalize op.toNat=n at aD ⊢;have key:∀n<16,(iZ.getD n ([],[])).2.length<=3:=by decide
  exact key n aD
 .simp
section
variable {c:az}
theorem acJ:bP ar 1 (c.enc.drop 2)=aa (.aG c.name.au):=rfl
theorem ac4:takeN 2 (c.enc.drop 2)=aa [.aG c.name.au,.int .i64 c.name.pos]:=rfl
theorem acL:bP ar 1 (c.enc.drop 4)=aa (.sl .no 2 (c.an.map aA.enc)):=rfl
theorem acM:bP ar 1 (c.enc.drop 5)=aa (.sl .no 4 (c.bw.map gz)):=rfl
theorem acN:bP ar 1 (c.enc.drop 6)=aa (.int .i64 c.pd):=rfl
def ac5:takeN 5 (c.enc.drop 7)=aa c.left.enc:=by rw[Nd.dB];rfl
def ac3:takeN 5 (c.enc.drop 12)=aa c.right.enc:=by rw[Nd.dB];rfl
def dD:=af @acJ <| af @ac4 <| af @acL <| af @acM <| af @acN <| af @ac5 @ac3
end
def Js{l:List (aA × aA)}{p:aA × aA}(h:l[j]?=aa p):(l.map gz)[(j:Int).toNat]?=aa (gz p):=by simp[h]
def ake:aS prog 55 (sq [rg 0 [ox 2 2 0,ox 3 17 1,oZ 4 [0,0]],rg 6 [ol 2 2,fo 1 3,oG [7,8,8,0,0] [(1,2,.s 6),(3,1,.c (.int .i64 (-1))),(4,1,.s 8)],oq (.gS 5 (.s 9)),o1 5],sq [.qG (rg 11 [fo 0 3]),.block 0 (sq [rg 14 [oB .eql 12 10,o1 13],cd 13 (rg 15 [om 5,of 2 3,nF 0,of 2 3,nF 1,oc 107 [.s 15,.s 18,.s 21,.c (.int .i64 2)]]) (sq [rg 24 [oB .eql 12 15,o1 23],cd 23 (rg 25 [om 5,of 2 3,nF 0,of 2 3,nF 1,oc 107 [.s 25,.s 28,.s 31,.c (.int .i64 1)]]) (sq [rg 34 [oB .eql 12 8,o1 33],cd 33 (sq [rg 35 [om 5,of 2 3,nl 2,oC 108 [35,37]],rg 39 [om 5,of 7 3,nl 5,oC 109 [39,41]],rg 43 [om 5,of 12 3,nl 5,oC 109 [43,45]],dg 47 [mk 5,nf 0,of 12 3,nF 0,nB .eql 8,gB,of 12 3,nF 0,nB .eql 9,gZ,of 12 3,nF 1,oc 110 [.s 49,.s 59,.c (.int .i64 6),.s 62]]]) (sq [rg 65 [oB .eql 12 9,o1 64],ci 64 (sq [rg 66 [om 5,of 2 3,nl 2,oC 108 [66,68]],rg 70 [om 5,of 7 3,nl 5,oC 111 [70,72]],rg 74 [om 5,of 12 3,nl 5,oC 111 [74,76]]])])])])])],rg 78 [mk 5,nf 0,nF 0,oC 57 [82],o2 2 4],.ret]) [.cell 4 ab 2] 84:=aW func55 ⟨[10],[2]⟩
def akg:aS prog 57 (sq [rg 0 [oZ 2 [0,0]],rg 0 [oZ 3 [0,0]],sq [rg 6 [om 0,nL,oi 0],lp 7 0 (sq [rg 10 [oA 2 6 8,nl 2,oZ 5 [0,0],o2 2 5],sq [rg 12 [fo 0 5,nB .eql 0],ci 14 (.exit 1)],rg 15 [fo 0 3,nB .eql 0,gB,fo 0 5,fo 0 3,nb .lss 20,gZ,nm,oh 25 (of 0 5),oh 25 (no),oh 25 (of 0 3),oh 25 (no),oh 25 (nb .eql 27),oh 25 (nm),og 31 (of 1 5),og 31 (no),og 31 (of 1 3),og 31 (no),og 31 (nb .lss 33),oh 25 (oy 31 36),oq (.pick (.s 25) (.c (.bool ab)) (.s 37))],ci 38 (rg 39 [ol 2 5,o2 2 3])]) 40],rg 41 [ol 2 3,o2 2 2],.ret]) [.cell 2 ab 2] 42:=aW func57
section
variable {c:az}
theorem acK:bP ar 1 (c.enc.drop 3)=aa (.int .i64 c.name.pos):=rfl
theorem acH:bP ar 1 (c.enc.drop 12)=aa (.int .i64 c.right.kind):=rfl
theorem acI:bP ar 1 (c.enc.drop 13)=aa (.int .i64 c.right.pos):=rfl
def vQ:=af @acK <| af @acH @acI
end
def agW{l:List aY}(h:j<l.length):(l.map aY.enc)[((j:Nat):Int).toNat]?=aa l[j].enc:=by simp[h]
def zN(l:List aY)(D:ah)(hl:l.length<=100000000):a8 57 [.sl .no 2 (l.map aY.enc)] D (.agg (hD l).enc):=by
 refine akg.aV ?_;simp only[aU,am,a7,Nat.reduceAdd,aN];refine cn (l.length) (λi (x:Unit)=>⟨[.any,.any,.ptr (.aE 0) 0,.ptr (.aE 1) 0,.any,.any,.sl .no 2 (l.map aY.enc),.int .i64 (l.length:Nat),.int .i64 (i:Nat)]++aq 33 .any,[aY.zero.enc,(hD (l.take i)).enc],D⟩) (λi x=>(True)) λF hF JF aT=>⟨?_,?_,?_⟩
 .refine en aT (()) (trivial) ?_ ?_ ?_
  all_goals simp[hF,aq,am,bt,hD,aY.zero,aY.enc]
 .rintro i x hi -;have hT:=aoe hi;simp only[hF,aq,am,cc hi];refine ix (agW hi) ?_;simp only[am,Nat.reduceAdd,aY.al];generalize hD (l.take i)=o at hT;generalize l[i]=f at hT
  by_cases h0:f.cls=0
  .rw[lY,aF h0] at hT;simp only[am,aI,reduceCtorEq,aY.al,aK h0,bJ hi];refine fk (()) hi ?_ ?_ ?_ ?_ ?_ ?_
   .exact ey (aT _ _) (trivial)
   all_goals simp[hF,aq,am,bt,bR,du,V.lo,hT,aY.cP]
  rw[lY,aB h0] at hT;simp only[am,aY.al,aJ h0];have yes:wL o f=ab->hD (l.take (i+1))=f:=λh=>by rw[hT,h,aF rfl]
  have no:wL o f=ar->hD (l.take (i+1))=o:=λh=>by rw[hT,h];rfl
  by_cases U:o.cls=0
  .have e:=yes (by simp[wL,U]);simp only[am,aI,aY.al,aK U,bJ hi];refine fk (()) hi ?_ ?_ ?_ ?_ ?_ ?_
   .exact ey (aT _ _) (trivial)
   all_goals simp[hF,aq,am,bt,bR,du,V.lo,e,aY.cP]
  simp only[am,aY.al,aJ U]
  by_cases h2:f.cls<o.cls
  .have e:=yes (by simp[wL,h2]);simp only[am,aI,aY.al,aK h2,bJ hi];refine fk (()) hi ?_ ?_ ?_ ?_ ?_ ?_
   .exact ey (aT _ _) (trivial)
   all_goals simp[hF,aq,am,bt,bR,du,V.lo,e,aY.cP]
  simp only[am,aY.al,aJ h2]
  by_cases h3:f.cls=o.cls
  case neg =>
   have e:=no (by simp[wL,U,h2,h3]);simp only[am,aI,aJ h3,bJ hi];refine fk (()) hi ?_ ?_ ?_ ?_ ?_ ?_
   .exact ey (aT _ _) (trivial)
   all_goals simp[hF,aq,am,bt,bR,du,V.lo,e,aY.cP]
  simp only[am,aY.al,aK h3]
  by_cases h4:f.aE<o.aE
  .have e:=yes (by simp[wL,h3,h4]);simp only[am,aI,aY.al,aK h4,bJ hi];refine fk (()) hi ?_ ?_ ?_ ?_ ?_ ?_
   .exact ey (aT _ _) (trivial)
   all_goals simp[hF,aq,am,bt,bR,du,V.lo,e,aY.cP]
  .have e:=no (by simp[wL,U,h2,h4]);simp only[am,aI,aJ h4,bJ hi];refine fk (()) hi ?_ ?_ ?_ ?_ ?_ ?_
   .exact ey (aT _ _) (trivial)
   all_goals simp[hF,aq,am,bt,bR,du,V.lo,e,aY.cP]
 .rintro x -;simp only[hF,aq,am,aI,cE,aI,aY.al,dX];refine aL ?_;simp[V.erase,aY.dL]
def Tn(s:aH)(c:az)(hs:s.ok)(hg:TZ D)(hl:c.left.cU<=100000)(hr:c.right.cU<=100000)(Bt:c.left.wt<=aQ)(xY:c.right.wt<=aQ):
 a8 55 [.agg s.enc,.agg c.enc] D (.agg (kQ s c).enc):=by
 refine ake.aV ?_;simp only[aU,am,a7,Nat.reduceAdd,Int.reduceNeg,kl,aH.al,dZ,ft];intro b hb;simp only[am,Int.reduceNeg];refine bI.tok 0 λZ bE=>⟨_,_,(D.set b _).set b (pT Z [] s (-1) c.pos),fc.rfl,rfl,λi c' hc=>⟨c',hc,fc.rfl⟩,rH.set iS (by simp[pT,pD]),?_⟩
 have bE:D.aR Z=none:=bE;rw[ah.set_set,show(D.set b (pT Z [] s (-1) c.pos)).a_ Z 0=di D b Z [] s (-1) c.pos from rfl];have fin:∀(L:List aY) (t:List V) (lo:List (List V)) (lat:Int),hD L=kQ s c->mw (λv σ' => v = .agg (kQ s c).enc/\σ' = D) ⟨t,lo,di D b Z L s lat c.pos⟩ (.agg (hD L).enc):=λL t lo lat h=>by
  rw[h];exact aX rfl (axt hb bE) ⟨rfl,rfl⟩
 have hv:∀{t:List UInt8} {y k lat:Int},(iD s lat t y k).length<=1:=DP;have ayb:=@anK s c.name;have e1:cN (gV s.ba c.name.au)=cZ s c:=rfl;have aD:cZ s c<s.ba.length:=by
  rw[cZ];cases h:gV s.ba c.name.au with
  | none=>simp only[cN];omega
  | some k=>have:=(uG h).1;simp only[cN];omega
 simp only[am,Int.reduceNeg,ft]
 by_cases fM:c.op=10
 .simp only[am,Nat.reduceAdd,Int.reduceNeg,dD,vQ,aK fM];refine cl (Gn D b Z [] s (-1) c.pos c.name.pos 2 c.name.au (by simp) hs) ?_;simp only[am,Int.reduceNeg,kl,gQ];have hlen:=@DP s (-1) c.name.au c.name.pos 2;refine cl (ch.eC (as' := [.sl .no 2 ((iD s (-1) c.name.au c.name.pos 2).map aY.enc)]) (zN (iD s (-1) c.name.au c.name.pos 2) _ (by omega)) ⟨dp.no,trivial⟩ bW.rfl) ?_;simp only[am,Int.reduceNeg,aY.al];exact fin _ _ _ _ (by rw[kQ,pA];rw[aF fM])
 simp only[am,Int.reduceNeg,aJ fM]
 by_cases uK:c.op=15
 .simp only[am,Nat.reduceAdd,Int.reduceNeg,dD,vQ,aK uK];refine cl (Gn D b Z [] s (-1) c.pos c.name.pos 1 c.name.au (by simp) hs) ?_;simp only[am,Int.reduceNeg,kl,gQ];have hlen:=@DP s (-1) c.name.au c.name.pos 1;refine cl (ch.eC (as' := [.sl .no 2 ((iD s (-1) c.name.au c.name.pos 1).map aY.enc)]) (zN (iD s (-1) c.name.au c.name.pos 1) _ (by omega)) ⟨dp.no,trivial⟩ bW.rfl) ?_;simp only[am,Int.reduceNeg,aY.al];exact fin _ _ _ _ (by rw[kQ,pA];rw[aB fM,aF uK])
 simp only[am,Int.reduceNeg,aJ uK]
 by_cases h8:c.op=8
 .simp only[am,Int.reduceNeg,dD,aK h8];have l1:=@NU s (cZ s c) c.left;have l2:=@NU s (cZ s c) c.right;refine cl (Zj D b Z [] s (-1) c.pos c.name (by simp) hs) ?_;rw[e1,gQ];simp only[am,Int.reduceNeg,Nd.al,dD];refine cl (Zi D b Z (gy s c.name) s (cZ s c) c.pos c.left hs hg hb aD (by omega) (by omega) Bt) ?_;simp only[am,Int.reduceNeg,Nd.al,dD];refine cl (Zi D b Z (gy s c.name++ff s (cZ s c) c.left) s (cZ s c) c.pos c.right hs hg hb aD (by simp only[bM];omega) (by omega) xY) ?_;simp only[am,Int.reduceNeg,vQ];have hlen:(gy s c.name++ff s (cZ s c) c.left++ff s (cZ s c) c.right).length<=200001:=by simp only[bM];omega
  have done:∀(d:List aY) (t:List V) (lo:List (List V)),d=xx c.right->mw (λv σ' => v = .agg (kQ s c).enc/\σ' = D) ⟨t,lo,di D b Z ((gy s c.name++ff s (cZ s c) c.left++ff s (cZ s c) c.right)++d) s (cZ s c) c.pos⟩ (.agg (hD ((gy s c.name++ff s (cZ s c) c.left++ff s (cZ s c) c.right)++d)).enc):=λd t lo hd=>fin _ _ _ _ (by rw[kQ,pA,aB fM,aB uK,aF h8,hd])
  by_cases k8:c.right.kind=8\/c.right.kind=9
  .have mb:(decide (c.right.kind=8)=ab)\/(decide (c.right.kind=8)=ar/\decide (c.right.kind=9)=ab):=by
    by_cases h:c.right.kind=8
    .exact .inl (aK h)
    .exact .inr ⟨aJ h,aK (by simpa [h] using k8)⟩
   rcases mb with q1 | ⟨q1,q2⟩
   case' inl=>simp only[am,Nat.reduceAdd,Int.reduceNeg,vQ,q1]
   case' inr=>simp only[am,Nat.reduceAdd,Int.reduceNeg,vQ,q1,q2]
   all_goals
    refine bK.intro (Gs D b Z (gy s c.name++ff s (cZ s c) c.left++ff s (cZ s c) c.right) s (cZ s c) c.pos 6 c.right.pos (by omega)) ?_;simp only[am,Int.reduceNeg,kl];refine cl (ch.eC (as' := [.sl .no 2 (((gy s c.name++ff s (cZ s c) c.left++ff s (cZ s c) c.right)++[(⟨6,c.right.pos⟩:aY)]).map aY.enc)]) (zN ((gy s c.name++ff s (cZ s c) c.left++ff s (cZ s c) c.right)++[(⟨6,c.right.pos⟩:aY)]) _ (by simp only[bM,fI];omega)) ⟨dp.no,trivial⟩ bW.rfl) ?_;simp only[am,Int.reduceNeg,aY.al];exact done _ _ _ (by rw[xx,aF k8])
  .simp only[am,Nat.reduceAdd,Int.reduceNeg,vQ,aJ (λh=>k8 (.inl h)),aJ (λh=>k8 (.inr h))];refine bK.intro (Ca D b Z (gy s c.name++ff s (cZ s c) c.left++ff s (cZ s c) c.right) s (cZ s c) c.pos 6 c.right.pos (by omega)) ?_;simp only[am,Int.reduceNeg,kl];refine cl (ch.eC (as' := [.sl .no 2 ((gy s c.name++ff s (cZ s c) c.left++ff s (cZ s c) c.right).map aY.enc)]) (zN (gy s c.name++ff s (cZ s c) c.left++ff s (cZ s c) c.right) _ (by omega)) ⟨dp.no,trivial⟩ bW.rfl) ?_;simp only[am,Int.reduceNeg,aY.al]
   have:=done [] ?_ ?_ (by rw[xx,aB k8])
   .rw[eD] at this;exact this
 simp only[am,Int.reduceNeg,aJ h8]
 by_cases h9:c.op=9
 .simp only[am,Int.reduceNeg,dD,aK h9];refine cl (Zj D b Z [] s (-1) c.pos c.name (by simp) hs) ?_;rw[e1,gQ];simp only[am,Int.reduceNeg,Nd.al,dD];refine cl (Zr D b Z (gy s c.name) s (cZ s c) c.pos c.left hs hg hb aD (by omega) hl Bt) ?_;simp only[am,Int.reduceNeg,Nd.al,dD];have r1:=@Ya s (cZ s c) c.pos c.left;have r2:=@Ya s (cZ s c) c.pos c.right;refine cl (Zr D b Z (gy s c.name++jS s (cZ s c) c.pos c.left) s (cZ s c) c.pos c.right hs hg hb aD (by simp only[bM];omega) hr xY) ?_;simp only[am,Int.reduceNeg,kl];refine cl (ch.eC (as' := [.sl .no 2 ((gy s c.name++jS s (cZ s c) c.pos c.left++jS s (cZ s c) c.pos c.right).map aY.enc)]) (zN (gy s c.name++jS s (cZ s c) c.pos c.left++jS s (cZ s c) c.pos c.right) _ (by simp only[bM];omega)) ⟨dp.no,trivial⟩ bW.rfl) ?_;simp only[am,Int.reduceNeg,aY.al];exact fin _ _ _ _ (by rw[kQ,pA];rw[aB fM,aB uK,aB h8,aF h9])
 simp only[am,Int.reduceNeg,kl,aJ h9];refine cl (ch.eC (as' := [.sl .no 2 (([]:List aY).map aY.enc)]) (zN ([]:List aY) _ (by simp)) ⟨dp.no,trivial⟩ bW.rfl) ?_;simp only[am,Int.reduceNeg,aY.al];exact fin _ _ _ _ (by rw[kQ,pA];rw[aB fM,aB uK,aB h8,aB h9])
def ahe:aS prog 117 (sq [rg 4 [oz 1],rg 5 [oz 6],sq [rg 7 [om 0,nL,oi 0],lp 8 0 (sq [rg 11 [om 9,o1 6],sq [rg 12 [om 6,nB .gtr 0],ci 13 (rg 14 [om 5,om 1,oq (.n6 (.s 14) (.s 15)),o1 5])],rg 17 [om 5,om 0,om 6,nA 1 18,no,oq (.n6 (.s 17) (.s 21)),o1 5]]) 23],rg 24 [om 5,oq (.uD (.s 24)),o1 4],.ret]) [.tmp 4] 26:=aW func117
def ahf:aS prog 118 (sq [rg 2 [oz 6],rg 3 [oz 6],sq [rg 6 [om 0,nL,oi 0],lp 7 0 (sq [rg 10 [oA 2 6 8,nl 2,oZ 5 [1,0],o2 2 5],rg 12 [om 3,fo 0 5,n1 1,na 1 12,o1 3]]) 17],rg 18 [om 3,o1 2],.ret]) [.tmp 2] 19:=aW func118
def ahg:aS prog 119 (sq [rg 2 [oz 1],rg 3 [om 0,oc 117 [.s 3,.c (.aG [44])],oq (.cat (.c (.aG [123])) (.s 4)),oq (.cat (.s 5) (.c (.aG [125]))),o1 2],.ret]) [.tmp 2] 7:=aW func119
def ahi:aS prog 120 (sq [rg 2 [oz 6],rg 3 [oz 6],sq [rg 6 [om 0,nL,oi 0],lp 7 0 (sq [rg 10 [oA 4 6 8,nl 4,oZ 5 [1,0,1,0],o2 4 5],rg 12 [om 3,oQ 2 2 5 0,nF 0,oq (.cat (.s 15) (.c (.aG [60]))),oQ 2 2 5 1,nF 0,oq (.cat (.s 16) (.s 19)),n1 1,na 1 12,o1 3]]) 23],rg 24 [om 3,o1 2],.ret]) [.tmp 2] 25:=aW func120
def mE(l:List (List UInt8)):List (List V):=l.map λs=>[V.aG s]
def xy:(mE l).length=l.length:=aN ..
def SY{s:List UInt8}(h:l[j]?=aa s):(mE l)[(j:Int).toNat]?=aa [.aG s]:=by simp[mE,h]
def Fx(l:List (List UInt8))(sep:List UInt8)(D:ah)(i Z:Nat):St :=
 ⟨[.sl .no 1 (mE l),.aG sep,.any,.any,.any,.sl (.tk Z) 1 (dK (hC sep (l.take i))),.any,.any,.int .i64 l.length,.int .i64 (i:Nat)]++aq 16 .any,[],D.a_ Z (hC sep (l.take i)).length⟩
def Om(l:List (List UInt8))(sep:List UInt8)(D:ah)(hl:l.length<=aQ)(hb:(hC sep l).length<=aQ) :
 a8 117 [.sl .no 1 (mE l),.aG sep] D (.aG (hC sep l)):=by
 refine ahe.aV ?_;simp only[aU,am,a7,Nat.reduceAdd,xy];refine jX (λp:{p:Nat × Nat // D.aR p.2=aj/\p.1<=l.length}=>Fx l sep D p.1.1 p.1.2) (λp=>l.length - p.1.1) ?_ ?_
 .refine bI.Cb 0 λZ bE=>⟨⟨(0,Z),bE,by simp⟩,?_,rfl,rfl⟩
  simp[Fx,aq,pD,hC,dK]
 .rintro⟨⟨i,Z⟩,bE,hi⟩;simp only at bE hi;simp only[Fx,aq,am];have wi:IntKind.i64.wrap ((i:Int)+1)=((i+1:Nat):Int):=by simp only[aQ] at hl;rw[wrap_i64];simp
  by_cases aD:i<l.length
  .have hs:=ank (sep:=sep) aD;have hm:=anj (sep:=sep) (l:=l) (i:=i+1);rw[hs] at hm;simp only[bM] at hm;simp only[am,aK (show(i:Int)<l.length by omega)]
   by_cases h0:0<i
   case' pos =>
    rw[aF h0] at hs hm;simp only[am,cX,aK (show(0:Int)<i by omega)];refine⟨_,rfl,?_⟩;refine kM (by rw[jJ,jJ];omega) (by rw[jJ,jG]) ?_;simp only[am,jU];rw[<-Ex,jJ,jJ,<-bM]
   case' neg =>
    rw[aB h0,eD] at hs;rw[aB h0] at hm;simp only[am,aJ (show ¬(0:Int)<i by omega)]
   all_goals
    refine ix (SY (cK aD)) ?_;simp only[am,cX];refine⟨_,rfl,?_⟩;refine kM (by rw[jJ,jJ];simp at hm ⊢;omega) (by rw[jJ,jG]) ?_;simp only[am,jU,wi];rw[<-Ex,jJ,jJ,<-bM,<-hs];exact bI.again (I:=λp:{p:Nat × Nat // D.aR p.2=aj/\p.1<=l.length}=>Fx l sep D p.1.1 p.1.2) (μ:=λp=>l.length - p.1.1) ⟨(i+1,Z),bE,aD⟩ (by simp;omega) (by simp[Fx,am,aq]) cT.rfl bW.rfl
  .have aD:i=l.length:=by omega
   subst aD;simp only[am,cX,aJ (show ¬(l.length:Int)<l.length by omega),dX];refine⟨_,_,rfl,?_⟩;refine aX rfl (s4 bE) ⟨?_,rfl⟩;simp[V.erase]
def zF(l:List aA)(D:ah)(i Z:Nat)(aE:List (List V)):St :=
 ⟨[.any,.any,.any,.sl (.tk Z) 1 (mE ((l.take i).map aA.au)),.any,.any,.sl .no 2 (l.map aA.enc),.int .i64 l.length,.int .i64 (i:Nat)]++aq 10 .any,aE,D.a_ Z i⟩
def A8{s:List UInt8}:mE l++[[.aG s]]=mE (l++[s]):=by simp[mE]
def JU(l:List aA)(D:ah)(hl:l.length+1<=aQ):a8 118 [.sl .no 2 (l.map aA.enc)] D (.sl .no 1 (mE (l.map aA.au))):=by
 refine ahf.aV ?_;simp only[aU,am,a7,Nat.reduceAdd];refine jX (λp:{p:Nat × Nat // D.aR p.2=aj/\p.1<=l.length}=>zF l D p.1.1 p.1.2 []) (λp=>l.length - p.1.1) ?_ ?_
 .refine bI.Cb 0 λZ bE=>⟨⟨(0,Z),bE,by simp⟩,?_,rfl,rfl⟩
  simp[zF,aq,pD,mE]
 .rintro⟨⟨i,Z⟩,bE,hi⟩;simp only at bE hi;simp only[zF,aq,am];have wi:IntKind.i64.wrap ((i:Int)+1)=((i+1:Nat):Int):=by simp only[aQ] at hl;rw[wrap_i64];simp
  by_cases aD:i<l.length
  .have tS:((l.take i).map aA.au).length=i:=by simp;omega
   have sI:(l.take i).map aA.au++[l[i].au]=(l.take (i+1)).map aA.au:=by rw[iG aD,fX,GP]
   simp only[am,aK (show(i:Int)<l.length by omega)];refine ix (Av (cK aD)) ?_;simp only[am,Nat.reduceAdd,aA.enc];refine kM (by rw[xy,tS];simp;omega) (by rw[xy,tS,jG]) ?_;simp only[am,xy,jU,wi,tS];rw[A8,sI];exact bI.uv (I:=λp:{p:Nat × Nat // D.aR p.2=aj/\p.1<=l.length}=>zF l D p.1.1 p.1.2 []) (μ:=λp=>l.length - p.1.1) ⟨(i+1,Z),bE,aD⟩ (by simp;omega) (by simp[zF,am,aq]) (by simp[zF,am]) bW.rfl (by simp[zF,aq,bR,V.lo]) (by simp[zF,du])
  .have aD:i=l.length:=by omega
   subst aD;simp only[am,aJ (show ¬(l.length:Int)<l.length by omega),dX];refine aX rfl (s4 bE) ⟨?_,rfl⟩;simp[V.erase]
def zG(l:List (aA × aA))(D:ah)(i Z:Nat)(aE:List (List V)):St :=
 ⟨[.any,.any,.any,.sl (.tk Z) 1 (mE ((l.take i).map h_)),.any,.any,.sl .no 4 (l.map gz),.int .i64 l.length,.int .i64 (i:Nat)]++aq 16 .any,aE,D.a_ Z i⟩
def arB(l:List (aA × aA))(D:ah)(hl:l.length+1<=aQ)(hp:kg l<=aQ):a8 120 [.sl .no 4 (l.map gz)] D (.sl .no 1 (mE (l.map h_))):=by
 refine ahi.aV ?_;simp only[aU,am,a7,Nat.reduceAdd];refine jX (λp:{p:Nat × Nat // D.aR p.2=aj/\p.1<=l.length}=>zG l D p.1.1 p.1.2 []) (λp=>l.length - p.1.1) ?_ ?_
 .refine bI.Cb 0 λZ bE=>⟨⟨(0,Z),bE,by simp⟩,?_,rfl,rfl⟩
  simp[zG,aq,pD,mE]
 .rintro⟨⟨i,Z⟩,bE,hi⟩;simp only at bE hi;simp only[zG,aq,am];have wi:IntKind.i64.wrap ((i:Int)+1)=((i+1:Nat):Int):=by simp only[aQ] at hl;rw[wrap_i64];simp
  by_cases aD:i<l.length
  .have tS:((l.take i).map h_).length=i:=by simp;omega
   have sI:(l.take i).map h_++[h_ l[i]]=(l.take (i+1)).map h_:=by rw[iG aD,fX,GP]
   simp only[am,aK (show(i:Int)<l.length by omega)];refine ix (Js (cK aD)) ?_;simp only[am,cX,Nat.reduceAdd,gz];have qk:=asp aD;refine jC ?_;simp only[am,cX,Int.reduceToNat,Nat.reduceMul];refine⟨by simp;omega,?_⟩;refine jC ?_;simp only[am,Int.reduceToNat,Nat.reduceMul];refine⟨by simp;omega,?_⟩;refine kM (by rw[xy,tS];simp;omega) (by rw[xy,tS,jG]) ?_;simp only[am,xy,jU,wi,tS];rw[show l[i].1.au++[60]++l[i].2.au=h_ l[i] from rfl,A8,sI];exact bI.uv (I:=λp:{p:Nat × Nat // D.aR p.2=aj/\p.1<=l.length}=>zG l D p.1.1 p.1.2 []) (μ:=λp=>l.length - p.1.1) ⟨(i+1,Z),bE,aD⟩ (by simp;omega) (by simp[zG,am,aq]) (by simp[zG,am]) bW.rfl (by simp[zG,aq,bR,V.lo]) (by simp[zG,du])
  .have aD:i=l.length:=by omega
   subst aD;simp only[am,aJ (show ¬(l.length:Int)<l.length by omega),dX];refine aX rfl (s4 bE) ⟨?_,rfl⟩;simp[V.erase]
def RU(l:List (List UInt8))(D:ah)(hl:l.length<=aQ)(hb:(bX l).length+2<=aQ):a8 119 [.sl .no 1 (mE l)] D (.aG (vP l)):=by
 refine ahg.aV ?_;simp only[aU,am,a7,Nat.reduceAdd];refine cl (Om l [44] D hl (by rw[IP];omega)) ?_;simp only[am,IP];refine⟨by simp;omega,by simp;omega,?_⟩;refine aL ?_;simp[V.erase,vP]
def aki:aS prog 59 (sq [rg 2 [ox 1 17 0,oz 1],rg 8 [fo 0 1,oC 100 [9],oZ 3 [1,1],o2 2 3],rg 11 [fo 0 3,n1 1,o1 4],rg 14 [of 7 1,nl 5,of 12 1,nl 5,oq (.ko 5 [(.s 15),(.s 17)]),o1 5],.DC (rS 19 [fo 1 3]) (.s 20) 21 22 23 0 1 (sq [rg 24 [oe 22 2,o1 7],rg 25 [om 7],.block 2 (sq [rg 36 [oq (.dU .eql (.s 25) (.c (.int .i32 110))),o1 35],cd 35 (rg 37 [om 4,of 2 1,nF 0,n1 1,na 1 37,o1 4]) (sq [rg 44 [oq (.dU .eql (.s 25) (.c (.int .i32 102))),o1 43],cd 43 (rg 45 [om 4,fo 4 1,oC 118 [47],oc 117 [.s 48,.c (.aG [44])],n1 1,na 1 45,o1 4]) (sq [rg 53 [oq (.dU .eql (.s 25) (.c (.int .i32 119))),o1 52],cd 52 (rg 54 [om 4,fo 4 1,oC 118 [56],oC 119 [57],n1 1,na 1 54,o1 4]) (sq [rg 62 [oq (.dU .eql (.s 25) (.c (.int .i32 112))),o1 61],cd 61 (rg 63 [om 4,fo 5 1,oC 120 [65],oC 119 [66],n1 1,na 1 63,o1 4]) (sq [rg 26 [om 4,om 5,nI 5 0,nl 5,oC 121 [29],n1 1,na 1 26,o1 4],rg 33 [om 5,oq (.lT 5 (.s 33) (aa (.c (.int .i64 1))) aj aj),o1 5]])])])])])]),rg 70 [om 4,oc 117 [.s 70,.c (.aG [32])],o1 2],.ret]) [.tmp 2] 72:=aW func59
def B'(c:az)(D:ah)(ks:List UInt8)(b i Z:Nat):St :=
 ⟨[.any,.ptr (.aE 0) 0,.any,.any,.sl (.tk Z) 1 (mE (iB c (ks.take i)).1),.sl .no 5 ((iB c (ks.take i)).2.map Nd.enc)]++aq 15 .any++[.raw (.pointer (aa ⟨b,0,aj⟩))]++aq 50 .any,[c.enc,[.aG (cu c.op).1,.aG ks]],D.a_ Z (i+1)⟩
def SD(c:az)(hg:D.b8 0=aa gG)(hw:16*c.wt+64<=aQ):a8 59 [.agg c.enc] D (.aG (dO c)):=by
 have ME:c.wt=c.name.au.length+e_ c.an+kg c.bw+c.left.wt+c.right.wt:=rfl;have UP:=B3 c.an;have Iu:=OW c.bw;refine aki.aV ?_;simp only[aU,am,a7,Nat.reduceAdd,dZ,ft];refine cl (OA c.op hg) ?_;simp only[am,Nat.reduceAdd,Nd.al,dD];refine P7 ?_;simp only[am];have Bj:=TK c.op;have uU:dO c=hC [32] (iB c (cu c.op).2).1:=rfl;have wv:=LZ c.op;generalize gn:(cu c.op).2=ks at Bj uU wv;refine⟨ks,rfl,by rw[<-gn];exact LY c.op,λb i aP => ∃Z:{Z:Nat // D.aR Z=aj},aP = B' c D ks b i Z.1,?_,?_,?_,?_⟩
 .intro b;refine bI.Cb 1 λZ bE=>⟨⟨Z,bE⟩,?_,?_,rfl⟩
  .simp[B',aq,pD,mE,iB];exact⟨j8.tok rfl,j8.le dp.no⟩
  .simp[B']
 .rintro b i _ ⟨Z,rfl⟩;exact⟨rfl,by simp[B'],by simp[B']⟩
 .rintro b i k _ hk ⟨⟨Z,bE⟩,rfl⟩;have hi:i<ks.length:=(fy.1 hk).1;have sH:ks.take (i+1)=ks.take i++[k]:=by rw[DM hk]
  obtain⟨o1,o2,o3,o4⟩:=DA c (ks.take i);have sI:=OR c (ks.take i) k;rw[<-sH] at sI;have pB:(mE (iB c (ks.take i)).1).length=i+1:=by rw[xy,o3,iN];omega
  have gY:∀n:UInt8,((k.toNat:Nat):Int)=(n.toNat:Nat)↔k=n:=λn=>by
   constructor
   .intro h;exact KT.1 (by omega)
   .rintro rfl;rfl
  have y6:((k.toNat:Nat):Int)=110↔k=110:=gY 110;have A7:((k.toNat:Nat):Int)=102↔k=102:=gY 102;have vU:((k.toNat:Nat):Int)=119↔k=119:=gY 119;have vT:((k.toNat:Nat):Int)=112↔k=112:=gY 112;have ht:=Bj i hi k hk;simp only[B',aq,am];generalize hX:iB c (ks.take i)=X at *;obtain⟨rows,ts⟩:=X;simp only at o1 o2 o3 o4 pB;simp only;rw[sI];simp only[yq];have Fc:rows.length+1<=aQ:=by
   have:(List.take i ks).length<=3:=by rw[iN];omega
   simp only[aQ];omega
  by_cases k1:k=110
  .have hp:jE k c (ts.headD .zero)=c.name.au:=by subst k1;rfl
   have hq:isTerm k=false:=by subst k1;rfl
   simp only[am,dD,aK (y6.2 k1),hp,hq];refine kM (by rw[pB];simp only[fI,aQ] at *;omega) (by rw[pB,jG]) ?_;simp only[am,cX,jU,pB];rw[A8];exact bI.eC (by simp[am]) (by simp[am]) bW.rfl ⟨⟨Z,bE⟩,rfl⟩
  simp only[am,aJ (λh=>k1 (y6.1 h))]
  by_cases k2:k=102
  .have hp:jE k c (ts.headD .zero)=bX (c.an.map aA.au):=by subst k2;rfl
   have hq:isTerm k=false:=by subst k2;rfl
   simp only[am,dD,aK (A7.2 k2),hp,hq];refine cl (JU c.an _ (by omega)) ?_;simp only[am];refine cl (Om (c.an.map aA.au) [44] _ (by rw[aN];omega) (by rw[IP];omega)) ?_;simp only[am,IP];refine kM (by rw[pB];simp only[fI,aQ] at *;omega) (by rw[pB,jG]) ?_;simp only[am,cX,jU,pB];rw[A8];exact bI.eC (by simp[am]) (by simp[am]) bW.rfl ⟨⟨Z,bE⟩,rfl⟩
  simp only[am,aJ (λh=>k2 (A7.1 h))]
  by_cases k3:k=119
  .have hp:jE k c (ts.headD .zero)=vP (c.an.map aA.au):=by subst k3;rfl
   have hq:isTerm k=false:=by subst k3;rfl
   simp only[am,dD,aK (vU.2 k3),hp,hq];refine cl (JU c.an _ (by omega)) ?_;simp only[am];refine cl (RU (c.an.map aA.au) _ (by rw[aN];omega) (by omega)) ?_;simp only[am];refine kM (by rw[pB];simp only[fI,aQ] at *;omega) (by rw[pB,jG]) ?_;simp only[am,cX,jU,pB];rw[A8];exact bI.eC (by simp[am]) (by simp[am]) bW.rfl ⟨⟨Z,bE⟩,rfl⟩
  simp only[am,aJ (λh=>k3 (vU.1 h))]
  by_cases k4:k=112
  .have hp:jE k c (ts.headD .zero)=vP (c.bw.map h_):=by subst k4;rfl
   have hq:isTerm k=false:=by subst k4;rfl
   simp only[am,dD,aK (vT.2 k4),hp,hq];refine cl (arB c.bw _ (by omega) (by omega)) ?_;simp only[am];refine cl (RU (c.bw.map h_) _ (by rw[aN];omega) (by omega)) ?_;simp only[am];refine kM (by rw[pB];simp only[fI,aQ] at *;omega) (by rw[pB,jG]) ?_;simp only[am,cX,jU,pB];rw[A8];exact bI.eC (by simp[am]) (by simp[am]) bW.rfl ⟨⟨Z,bE⟩,rfl⟩
  simp only[am,aJ (λh=>k4 (vT.1 h))];have hq:isTerm k=true:=by simp[isTerm,k1,k2,k3,k4]
  have Nn:=ht hq;obtain⟨n,ns,qn⟩:∃n ns,ts=n::ns:=by
   rw[o4]
   match (List.filter isTerm (List.take i ks)).length,Nn with
   | 0,_=>exact⟨_,_,rfl⟩
   | 1,_=>exact⟨_,_,rfl⟩
  have hnw:n.wt<=c.wt:=o2 n (by rw[qn];simp);have hp:jE k c (ts.headD .zero)=n.cY:=by rw[qn];simp[jE,k1,k2,k3,k4]
  have sK:ts.map Nd.enc=n.enc::ns.map Nd.enc:=by rw[qn];rfl
  have tS:ts.tail=ns:=by rw[qn];rfl
  simp only[am,hp,hq,tS,sK];refine tU (c:=n.enc) (by simp) ?_;simp only[am,Nd.al];refine cl (avP _ n _ (bY _) (by omega)) ?_;simp only[am];refine kM (by rw[pB];simp only[fI,aQ] at *;omega) (by rw[pB,jG]) ?_;simp only[am,cX,jU,pB];refine au7 (a:=1) (by simp) ?_;simp only[am,cX];rw[A8];exact bI.eC (by simp[am]) (by simp[am]) bW.rfl ⟨⟨Z,bE⟩,rfl⟩
 .rintro b _ ⟨⟨Z,bE⟩,rfl⟩;simp only[B',aq,am];rw[dX];obtain⟨o1,o2,o3,o4⟩:=DA c ks;have xS:=Vw _ o1;rw[o3] at xS;have hjb:(hC [32] (iB c ks).1).length<=aQ:=by
   have:(ks.length+1)*(c.wt+8+1)<=4*(c.wt+8+1):=sd _ (by omega)
   omega
  refine(ch.eC (Om (iB c ks).1 [32] (D.a_ Z (ks.length+1)) (by rw[o3];simp only[aQ];omega) hjb) ?_ bW.rfl).mono ?_
  .simp[am]
  rintro v _ ⟨rfl,rfl⟩;simp only[am];refine aX rfl (s4 bE) ⟨?_,rfl⟩;rw[uU];rfl
end Go.Proofs.Tryz
