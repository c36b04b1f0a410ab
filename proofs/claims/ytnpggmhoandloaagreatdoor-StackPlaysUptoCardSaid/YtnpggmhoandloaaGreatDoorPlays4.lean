/-
  Part 4 of the proof of StackPlaysUptoCardSaid: a logic over the model, the forms of the functions that the law reaches, and what they compute.
-/
import Derived.Test.YtnpggmhoandloaaGreatDoorPlays3
set_option linter.unusedVariables false
set_option linter.unusedSimpArgs false
set_option linter.defProp false
set_option linter.unusedSectionVars false
set_option maxRecDepth 4000
set_option maxHeartbeats 4000000
open Option renaming some->U,none->ah
open Bool renaming true->aa,false->aq
open List renaming replicate->aj,range->bH,zipWith->ng
open Eq renaming mpr->fF
open Ne renaming symm->gM
namespace Go.Am
structure ar where
 op:Int
 pos:Int
 name:aC
 ak:List aC
 aX:List (aC × aC)
 qe:Int
 left:Nd
 right:Nd
def ar.zero:ar:=⟨0,0,⟨[],0⟩,[],[],0,.zero,.zero⟩
def eJ(p:aC × aC):List V:=[.aQ p.1.an,.int .i64 p.1.pos,.aQ p.2.an,.int .i64 p.2.pos]
def ar.cJ(c:ar)(pc:V):List V:=[.int .i64 c.op,.int .i64 c.pos,.aQ c.name.an,.int .i64 c.name.pos,.sl .no 2 (c.ak.map aC.enc),pc,.int .i64 c.qe,
 .int .i64 c.left.kind,.int .i64 c.left.pos,.aQ c.left.an,.sl .no 2 (c.left.ak.map aC.enc),.sl .no 5 (c.left.ae.map Nd.enc),.int .i64 c.right.kind,.int .i64 c.right.pos,.aQ c.right.an,.sl .no 2 (c.right.ak.map aC.enc),.sl .no 5 (c.right.ae.map Nd.enc)]
def tJ:List (aC × aC)->V
 | []=>.sl .aY 4 []
 | p::ps=>.sl .no 4 ((p::ps).map eJ)
def ar.enc(c:ar):List V:=c.cJ (.sl .no 4 (c.aX.map eJ))
def j8:List (List UInt8 × List UInt8) :=
 [([],[]),([99,104,97,105,110],[110,119]),([112,111,119,101,114],[110,119]),([112,114,111,100,117,99,116],[110,119]),([103,114,105,100],[110,119,112]),([116,97,98,108,101],[110,119,112]),([108,97,98,101,108],[110,119]),([114,111,119],[110,119]),([108,101,113],[110,116,116]),([114,111,119,101,113],[110,114,114]),([108,97,99,107,115],[110,102]),([112,117,115,104],[]),([112,111,112],[]),([99,104,101,99,107],[]),([99,111,114,101],[]),([119,104,121],[110])]
def iO:List V:=(j8.map λp=>[V.aQ p.1,V.aQ p.2]).flatten
def cm(op:Int):List UInt8 × List UInt8:=if 0<=op/\op<16 then j8.getD op.toNat ([],[]) else([],[])
def qR(w:List UInt8):Nat->Nat->Int
 | 0,_=>0
 | n+1,op=>if 0<op/\(cm op).1=w then op else qR w n (op+1)
def kb(w:List UInt8):Int:=qR w 16 0
def af.iR:Nat->af->List (aC × aC)->af × List (aC × aC)
 | 0,i,acc=>(i,acc)
 | n + 1, i, acc =>
  if i.aO≠ah then(i,acc)
  else
   if ((i.word.2.take 60).2.word).2.at_=i.l.length then(((i.word.2.take 60).2.word).2,acc++[(i.word.1,((i.word.2.take 60).2.word).1)])
   else iR n (((i.word.2.take 60).2.word).2.take 44).2 (acc++[(i.word.1,((i.word.2.take 60).2.word).1)])
def af.xF(r:af)(b:Option Int):af:=match b with | some a=>{r with aO:=U a} | none=>r
def rK(r:af)(c:ar):af × ar :=
 let t:=(r.take 123).1
 let r1:=(r.take 123).2
 if r1.aO≠ah\/t.ae.length=0 then(r1,{c with qe:=t.tok.pos})
 else(r1.xF (t.inner.iR (t.ae.length+1) []).1.aO,{c with qe:=t.tok.pos,aX:=(t.inner.iR (t.ae.length+1) []).2})
def ka(r:af)(c:ar)(g:Nd × Int × Option Int):af × ar :=
 match g.2.2 with
 | some a=>({r with aO:=U a},c)
 | none=>({r with at_:=g.2.1},if c.left.kind=0 then {c with left:=g.1} else {c with right:=g.1})
def e_(letter:UInt8)(x:af × ar):af × ar :=
 if x.1.aO≠ah then x
 else if letter=110 then(x.1.word.2,{x.2 with name:=x.1.word.1})
 else if letter=102 then(x.1.word.2,{x.2 with ak:=[x.1.word.1]})
 else if letter=119 then({x.1 with aO:=(kE x.1.l x.1.at_ x.1.fin).2,at_:=x.1.at_+1},{x.2 with ak:=(kE x.1.l x.1.at_ x.1.fin).1})
 else if letter=112 then rK x.1 x.2
 else if letter=116 then ka x.1 x.2 (gJ (af.label (bj x.1.l)) x.1.l x.1.at_ x.1.fin)
 else if letter=114 then ka x.1 x.2 (gJ (af.row (bj x.1.l)) x.1.l x.1.at_ x.1.fin)
 else x
def jP:List UInt8->af × ar->af × ar
 | [],x=>x
 | k::ks,x=>jP ks (e_ k x)
def zf(x:af × ar):ar × Int × Int :=
 match (if x.1.aO=ah/\x.1.at_<x.1.l.length then x.1.fail else x.1).aO with
 | some a=>(.zero,2,a)
 | none=>(x.2,0,0)
def wo(l:List aA)(fin:Int):ar × Int × Int :=
 match l with
 | []=>(.zero,0,0)
 | t :: _ =>
  let w:=(⟨l,0,fin,ah⟩:af).word
  if kb w.1.an=0 then(.zero,2,t.tok.pos)
  else zf (jP (cm (kb w.1.an)).2 (w.2,{ar.zero with op:=kb w.1.an,pos:=w.1.pos}))
def dC(s:List UInt8):ar × Int × Int :=
 match (eH s).2 with
 | some a=>(.zero,1,a)
 | none => match (iT (eH s).1 [] []).2 with
  | some a=>(.zero,2,a)
  | none=>wo (iT (eH s).1 [] []).1 s.length
structure lI(l:List aA)(fin:Int)(x:af × ar):Prop where
 hl:x.1.l=l
 hf:x.1.fin=fin
 ge:0<=x.1.at_
 le:x.1.at_<=(l.length:Int)+1
 ok:x.1.aO=ah->x.1.at_<=(l.length:Int)
def ai1(r:af):r.fail.fin=r.fin:=by unfold af.fail;split<;>rfl
def H'(r:af)(k:Int):(r.take k).2.fin=r.fin:=by
 unfold af.take;split
 .rfl
 .exact ai1 r
theorem ak7(n:Nat)(r:af):mY r (r.row n).2:=by
 unfold af.row;split
 .rename_i hs;have h:=wB r 91;have hb:(r.take 91).2.aO=none:=by
   rcases r.xi 91 with ⟨_,_,hb,_,_⟩ | ⟨h',_⟩
   .exact hb
   .grind
  exact⟨h.1,λh1 h2=>by
   obtain⟨p1,p2,p3⟩:=h.2 h1 h2;exact⟨p1,p2,λ_=>p3 hb⟩⟩
 .exact Gw r 1
variable{c:ar}{l:List aA}{r:af}{x:af × ar}
def lI.goes{fin:Int}(h:lI l fin x)(hb:x.1.aO=ah)(g:mY x.1 r)(hf:r.fin=x.1.fin):lI l fin (r,c):=by
 obtain⟨h1,h2,h3,h4,h5⟩:=h;have h5:=h5 hb;obtain⟨g1,g2⟩:=g;rw[h1] at g2;have g2:=g2 h3 (by omega);exact⟨g1.trans h1,hf.trans h2,by simp only;omega,by simp only;omega,λ_=>by simp only;omega⟩
def lI.aO{l:List aA}{fin:Int}{r:af}{c c' : ar}{a:Int}(h:lI l fin (r,c)):lI l fin ({r with aO:=U a},c'):=⟨h.hl,h.hf,h.ge,h.le,λh=>by simp at h⟩
def Zk{fin:Int}{one:af->Nd × af}(h:lI l fin (r,c))(hb:r.aO=ah)(ho:∀r,mY r (one r).2):lI l fin (ka r c (gJ one r.l r.at_ r.fin)):=by
 unfold ka gJ;have he:(⟨r.l,r.at_,r.fin,ah⟩:af)=r:=by cases r;simp only at hb;subst hb;rfl
 rw[he];cases hq:(one r).2.aO with
 | some a=>exact h.aO
 | none =>
  obtain⟨g1,g2⟩:=ho r;have h5:=h.ok hb;have h3:=h.ge;have h1:=h.hl;simp only at h5 h3 h1;rw[h1] at g2;have g2:=g2 h3 h5;exact⟨h.hl,h.hf,by simp only;omega,by simp only;omega,λ_=>by simp only;omega⟩
theorem arb{fin:Int}(h:lI l fin (r,c))(hb:r.aO=ah):lI l fin (rK r c):=by
 have h1:∀c',lI l fin ((r.take 123).2,c'):=λc' => lI.goes (x:=(r,c)) h hb (wB r 123) (H' r 123)
 unfold rK;simp only;split
 .grind
 .unfold af.xF;split
  .exact(h1 c).aO
  .grind
theorem ZN{fin:Int}(h:lI l fin x)(k:UInt8):lI l fin (e_ k x):=by
 obtain⟨r,c⟩:=x;unfold e_;simp only;split
 .exact h
 rename_i hb;have hb:r.aO=none:=by grind
 split
 .exact lI.goes (x:=(r,c)) h hb (A4 r) (H' r 97)
 split
 .exact lI.goes (x:=(r,c)) h hb (A4 r) (H' r 97)
 split
 .have h5:=h.ok hb;have h3:=h.ge;simp only at h5 h3;refine⟨h.hl,h.hf,by simp only;omega,by simp only;omega,λhn=>?_⟩;have he:(⟨r.l,r.at_,r.fin,ah⟩:af)=r:=by cases r;simp only at hb;subst hb;rfl
  simp only[kE,he] at hn;cases hq:(r.words aq).2.aO with
  | some a=>rw[hq] at hn;simp at hn
  | none =>
   obtain⟨g1,g2⟩:=NJ r aq;have h1:=h.hl
   grind
 split
 .exact arb h hb
 split
 .exact Zk h hb (NI _)
 split
 .exact Zk h hb (ak7 _)
 .exact h
def ZS:∀(ks:List UInt8) (k:UInt8) (x:af × ar),jP (ks++[k]) x=e_ k (jP ks x)
 | [],_,_=>rfl
 | _::ks,k,x=>ZS ks k _
def QZ{l:List aA}{fin:Int}:∀(ks:List UInt8) {x:af × ar},lI l fin x->lI l fin (jP ks x)
 | [],_,h=>h
 | k::ks,_,h=>QZ ks (ZN h k)
theorem ZO{k:UInt8}(h:k≠112\/x.1.aO≠ah):(e_ k x).2.aX=x.2.aX:=by
 unfold e_;split
 .rfl
 rename_i hb;have hb:x.1.aO=none:=by grind
 have hk:k≠112:=by grind
 split
 .rfl
 split
 .rfl
 split
 .rfl
 have hn:∀g,(ka x.1 x.2 g).2.aX=x.2.aX:=λg=>by
  unfold ka
  grind
 grind
def ZR:∀(ks:List UInt8) {x:af × ar},(∀k∈ks,k≠112)->(jP ks x).2.aX=x.2.aX
 | [],_,_=>rfl
 | k::ks,x,h=>(ZR ks λj hj=>h j (by simp[hj])).trans (ZO (.inl (h k (by simp))))
theorem akd(op:Int)(i:Nat)(h:(cm op).2[i]?=U 112):∀k∈(cm op).2.take i,k≠112:=by
 unfold cm at h ⊢;split at h
 .rename_i h1;rw[aL h1];have az:op.toNat<16:=by omega
  generalize op.toNat=n at h az ⊢;have key:∀n<16,∀i<3,(j8.getD n ([],[])).2[i]?=U 112->∀k∈(j8.getD n ([],[])).2.take i,k≠112:=by decide
  have hl:∀n<16,(j8.getD n ([],[])).2.length<=3:=by decide
  grind
 .grind
theorem Ny(op:Int):∀c∈(cm op).2,c.toNat<128:=by
 unfold cm;split
 .rename_i h1;have az:op.toNat<16:=by omega
  generalize op.toNat=n at az ⊢;have key:∀n<16,∀c∈(j8.getD n ([],[])).2,c.toNat<128:=by decide
  grind
 .simp
def fY(s:aH)(lat:Int)(t:List UInt8)(p kind:Int):List aM :=
 match jt s.vars t with
 | none=>if (fD s.bc t).isNone then [⟨3,p⟩] else [⟨4,p⟩]
 | some v => match s.vars[v]? with
  | some x=>if x.kind≠kind\/(0<=lat/\x.lat≠lat) then [⟨4,p⟩] else []
  | none=>[]
def fB(s:aH)(w:aC):List aM:=if (fD s.bc w.an).isNone then(if (jt s.vars w.an).isNone then [⟨3,w.pos⟩] else [⟨4,w.pos⟩]) else []
def El(o:Option Int):aM:=match o with | some p=>⟨4,p⟩ | none=>.zero
def r_(s:aH)(lat:Int)(n:Nd):Option Int:=(gN (yy s lat.toNat) (n.ae.getD 0 iJ)).2
def zc(s:aH)(lat:Int)(n:Nd):List aM:=if 0<n.ae.length/\0<=lat then(match r_ s lat n with | some p=>[⟨4,p⟩] | none=>[]) else []
def kK(s:aH)(lat:Int)(n:Nd):List aM:=if n.kind=1 then fY s lat n.an n.pos 1 else if n.kind=7 then zc s lat n else []
mutual
def gF(s:aH)(lat:Int):Nd->List aM
 | .mk k p t ws ks=>kK s lat (.mk k p t ws ks)++if k=1\/k=7 then [] else wQ s lat ks
def wQ(s:aH)(lat:Int):List Nd->List aM
 | []=>[]
 | n::ns=>gF s lat n++wQ s lat ns
end
def P2{s:aH}{lat:Int}:∀{l:List Nd},wQ s lat l=l.flatMap (gF s lat)
 | []=>by simp[wQ]
 | n::ns=>by simp[wQ,P2]
variable{lat:Int}{s:aH}
def Kt(n:Nd):gF s lat n=kK s lat n++if n.kind=1\/n.kind=7 then [] else n.ae.flatMap (gF s lat):=by cases n;rw[gF,P2];rfl
def vj(ks:List Nd)(i:Nat):List aM:=if (dL ((ks.take i).map Nd.an) (ks.getD i iJ).an).isSome then [⟨4,(ks.getD i iJ).pos⟩] else []
def Cs(s:aH)(lat:Int)(ks:List Nd)(i:Nat):List aM:=vj ks i++(ks.getD i iJ).ae.flatMap (kK s lat)
def rr(s:aH)(lat:Int)(ks:List Nd)(m:Nat):List aM:=(bH m).flatMap (Cs s lat ks)
def oD(s:aH)(lat:Int)(ws:List aC):List aM:=ws.flatMap λw=>fY s lat w.an w.pos 2
def pz(s:aH)(lat p:Int)(n:Nd):List aM :=
 if n.kind=1 then fY s lat n.an n.pos 2 else if n.kind=10 then rr s lat n.ae n.ae.length++oD s lat n.ak++(if 16<n.ae.length then [⟨7,p⟩] else []) else []
def cD(s:aH)(c:ar):Int:=bW (fD s.bc c.name.an)
def r8(n:Nd):List aM:=if n.kind=8\/n.kind=9 then [⟨6,n.pos⟩] else []
def r7(s:aH)(c:ar):List aM :=
 if c.op=10 then fY s (-1) c.name.an c.name.pos 2
 else if c.op=15 then fY s (-1) c.name.an c.name.pos 1
 else if c.op=8 then fB s c.name++gF s (cD s c) c.left++gF s (cD s c) c.right++r8 c.right
 else if c.op=9 then fB s c.name++pz s (cD s c) c.pos c.left++pz s (cD s c) c.pos c.right
 else []
def iE(s:aH)(c:ar):aM:=fH (r7 s c)
mutual
def jY(s:aH)(lat:Int):Nd->List aM
 | .mk k p t ws ks=>if k=1 then fY s lat t p 1 else if k=7 then(if 0<ks.length/\0<=lat then [El (r_ s lat (.mk k p t ws ks))] else []) else wR s lat ks
def wR(s:aH)(lat:Int):List Nd->List aM
 | []=>[]
 | n::ns=>jY s lat n++wR s lat ns
end
def X_{s:aH}{lat:Int}:∀{l:List Nd},wR s lat l=l.flatMap (jY s lat)
 | []=>by simp[wR]
 | n::ns=>by simp[wR,X_]
def Hi(n:Nd):jY s lat n=if n.kind=1 then fY s lat n.an n.pos 1 else if n.kind=7 then(if 0<n.ae.length/\0<=lat then [El (r_ s lat n)] else []) else n.ae.flatMap (jY s lat):=by cases n;rw[jY,X_];rfl
def pK(s:aH)(lat:Int)(n:Nd):List aM:=if n.kind=1\/n.kind=7 then jY s lat n else []
def r9(ks:List Nd)(i k:Nat):List aM:=(bH k).flatMap λj=>if (ks.getD j iJ).an=(ks.getD i iJ).an then [⟨4,(ks.getD i iJ).pos⟩] else []
def Jl(s:aH)(lat:Int)(ks:List Nd)(i:Nat):List aM:=r9 ks i i++(ks.getD i iJ).ae.flatMap (pK s lat)
def pe(s:aH)(lat:Int)(ks:List Nd)(m:Nat):List aM:=(bH m).flatMap (Jl s lat ks)
def uL(s:aH)(lat p:Int)(n:Nd):List aM :=
 if n.kind=1 then fY s lat n.an n.pos 2 else if n.kind=10 then pe s lat n.ae n.ae.length++oD s lat n.ak++(if 16<n.ae.length then [⟨7,p⟩] else []) else []
def za(s:aH)(c:ar):List aM :=
 if c.op=10 then fY s (-1) c.name.an c.name.pos 2
 else if c.op=15 then fY s (-1) c.name.an c.name.pos 1
 else if c.op=8 then fB s c.name++jY s (cD s c) c.left++jY s (cD s c) c.right++r8 c.right
 else if c.op=9 then fB s c.name++uL s (cD s c) c.pos c.left++uL s (cD s c) c.pos c.right
 else []
def iA(a b:List aM):Prop:=∀f:aM,f.cls≠0->(f∈a↔f∈b)
def iA.refl(a:List aM):iA a a:=λ_ _=>Iff.rfl
def iA.app{a b c d:List aM}(h:iA a b)(k:iA c d):iA (a++c) (b++d):=λf hf=>by rw[lk,lk,h f hf,k f hf]
variable{G:Type}
def iA.flat{f g:G->List aM}:∀{l:List G},(∀x∈l,iA (f x) (g x))->iA (l.flatMap f) (l.flatMap g)
 | [],_=>iA.refl _
 | x::l,h=>by rw[o7,o7];exact(h x (by simp)).app (iA.flat λy hy=>h y (by simp[hy]))
section
variable {s:aH} {lat:Int}
def Vz{n:Nd}:iA (zc s lat n) (if 0<n.ae.length/\0<=lat then [El (r_ s lat n)] else []):=by
 unfold zc;split
 .intro f hf;cases r_ s lat n with
  | none =>
   simp only[FY,El,u7,false_iff];rintro rfl;exact hf rfl
  | some p=>rfl
 .exact iA.refl _
mutual
def Ng:∀n:Nd,iA (gF s lat n) (jY s lat n)
 | .mk k p t ws ks => by
  rw[gF,jY,kK]
  by_cases h1:k=1
  .rw[aL (show(Nd.mk k p t ws ks).kind=1 from h1),aL h1,aL (.inl h1),eC];exact iA.refl _
  .rw[aB (show ¬(Nd.mk k p t ws ks).kind=1 from h1),aB h1]
   by_cases h7:k=7
   .rw[aL (show(Nd.mk k p t ws ks).kind=7 from h7),aL h7,aL (.inr h7),eC];exact Vz
   .rw[aB (show ¬(Nd.mk k p t ws ks).kind=7 from h7),aB h7,aB (by omega),gK];exact VA ks
def VA:∀l:List Nd,iA (wQ s lat l) (wR s lat l)
 | []=>by rw[wQ,wR];exact iA.refl _
 | n::ns=>by rw[wQ,wR];exact(Ng n).app (VA ns)
end
def aiw(n:Nd):iA (kK s lat n) (pK s lat n):=by
 rw[kK,pK,Hi]
 by_cases h1:n.kind=1
 .rw[aL h1,aL (.inl h1),aL h1];exact iA.refl _
 .by_cases h7:n.kind=7
  .rw[aB h1,aL h7,aL (.inr h7),aB h1,aL h7];exact Vz
  .rw[aB h1,aB h7,aB (by omega)];exact iA.refl _
variable{i:Nat}{ks:List Nd}
theorem aix(hi:i<=ks.length):iA (vj ks i) (r9 ks i i):=λf _=>by
 simp only[vj,r9,FX,qy];have hl:((ks.take i).map Nd.an).length=i:=by grind
 have hg:∀k,k<i->((ks.take i).map Nd.an).getD k []=(ks.getD k iJ).an:=λk hk=>by
  grind
 have key:(dL ((ks.take i).map Nd.an) (ks.getD i iJ).an).isSome=aa↔∃k,k<i/\(ks.getD k iJ).an=(ks.getD i iJ).an:=by
  rw[dL,No,hl]
  grind
 grind
variable{p:Int}
def VC(n:Nd):iA (pz s lat p n) (uL s lat p n):=by
 rw[pz,uL]
 by_cases h1:n.kind=1
 .rw[aL h1,aL h1];exact iA.refl _
 .rw[aB h1,aB h1]
  by_cases eK:n.kind=10
  .rw[aL eK,aL eK];refine((iA.flat λi hi=>?_).app (iA.refl _)).app (iA.refl _);have hi:=qy.1 hi;exact(aix (by omega)).app (iA.flat λm _=>aiw m)
  .rw[aB eK,aB eK];exact iA.refl _
def Gk(s:aH)(c:ar):fH (za s c)=iE s c:=by
 refine(Yq (a:=r7 s c) (b:=za s c) ?_).symm;show iA _ _;unfold r7 za;split
 .exact iA.refl _
 .split
  .exact iA.refl _
  .split
   .exact(((iA.refl _).app (Ng _)).app (Ng _)).app (iA.refl _)
   .split
    .exact((iA.refl _).app (VC _)).app (VC _)
    .exact iA.refl _
end
def rb(D:Nat)(l:List aM)(s:aH)(lat p:Int):List V:=[.sl (.tk D) 2 (l.map aM.enc),.sl .no 3 (s.bc.map eh.enc),.sl .no 3 (s.vars.map dR.enc),.int .i64 lat,.int .i64 p]
def dP(Z:ab)(b D:Nat)(l:List aM)(s:aH)(lat p:Int):ab:=(Z.set b (rb D l s lat p)).aU D l.length
section
variable {Z:ab} {b b' D n:Nat} {l:List aM} {s:aH} {lat P4 p x y:Int} {c:List V}
def LO:(dP Z b D l s lat p).box b=U (rb D l s lat p):=by simp[dP,ab.set,ab.aU]
def DL(h:b' ≠ b):(dP Z b D l s lat p).box b' = Z.box b' := by simp[dP,ab.set,ab.aU,h]
def SH:(dP Z b D l s lat p).aS D=U l.length:=by simp[dP,ab.set,ab.aU]
theorem acX(h:b' ≠ b):(dP Z b D l s lat p).set b' c=dP (Z.set b' c) b D l s lat p:=by
 simp only[dP,ab.set,ab.aU,ab.mk.injEq,ln]
 grind
theorem axm:(dP Z b D l s lat p).set b [.sl (.tk D) 2 (l.map aM.enc),.sl .no 3 (s.bc.map eh.enc),.sl .no 3 (s.vars.map dR.enc),.int .i64 x,.int .i64 p]=dP Z b D l s x p:=by
 simp only[dP,rb,ab.set,ab.aU,ab.mk.injEq,ln]
 grind
theorem axl:((dP Z b D l s lat p).aU D (l.length+1)).set b [.sl (.tk D) 2 (l.map aM.enc++[[.int .i64 x,.int .i64 y]]),.sl .no 3 (s.bc.map eh.enc),.sl .no 3 (s.vars.map dR.enc),.int .i64 lat,.int .i64 p]=dP Z b D (l++[⟨x,y⟩]) s lat p:=by
 simp only[dP,rb,ab.set,ab.aU,ab.mk.injEq,gm,cQ,fp,aM.enc,bL,eZ,ln]
 grind
theorem axn(h:Z.box b=ah)(ht:Z.aS D=ah):Z.sub (dP Z b D l s lat p):=by
 refine⟨λx cs hx=>?_,λt m hm=>?_,λ_ _ h=>h⟩
 .have:x≠b:=by grind
  rw[DL this];exact hx
 .have:t≠D:=by grind
  simp[dP,ab.set,ab.aU,this];exact hm
theorem acW(h:b' ≠ b)(hn:Z.box b' = ah):(dP Z b D l s lat p).sub (dP (Z.set b' c) b D l s lat p):=by
 refine⟨λx cs hx=>?_,λt m hm=>?_,λ_ _ h=>h⟩
 .by_cases h1:x=b
  .subst h1;rw[LO] at hx ⊢;exact hx
  .rw[DL h1] at hx ⊢
   have:x≠b' := by grind
   simp only[ab.set,this,cz];exact hx
 .simpa [dP,ab.set,ab.aU] using hm
theorem w_f:bP aq 1 (rb D l s lat p)=U (.sl (.tk D) 2 (l.map aM.enc)):=rfl
theorem w_s:takeN 2 ((rb D l s lat p).drop 1)=U s.enc:=rfl
theorem w_l:bP aq 1 ((rb D l s lat p).drop 1)=U (.sl .no 3 (s.bc.map eh.enc)):=rfl
theorem w_v:bP aq 1 ((rb D l s lat p).drop 2)=U (.sl .no 3 (s.vars.map dR.enc)):=rfl
theorem w_t:bP aq 1 ((rb D l s lat p).drop 3)=U (.int .i64 lat):=rfl
theorem w_p:bP aq 1 ((rb D l s lat p).drop 4)=U (.int .i64 p):=rfl
theorem w_h:cB 1 (rb D l s lat p)=true:=rfl
theorem awr:cB 1 ((rb D l s lat p).drop 3)=true:=rfl
theorem w_o{v:V}:over (rb D l s lat p) [v]=[v,.sl .no 3 (s.bc.map eh.enc),.sl .no 3 (s.vars.map dR.enc),.int .i64 lat,.int .i64 p]:=rfl
theorem awv{v:V}:setAt (rb D l s lat p) 3 [v]=[.sl (.tk D) 2 (l.map aM.enc),.sl .no 3 (s.bc.map eh.enc),.sl .no 3 (s.vars.map dR.enc),v,.int .i64 p]:=rfl
variable{w:aC}
theorem rU:bP aq 1 w.enc=U (.aQ w.an):=rfl
theorem tS:bP aq 1 (w.enc.drop 1)=U (.int .i64 w.pos):=rfl
theorem w_b{u v x y:V}:over [u,v,x,y] s.enc=[.sl .no 3 (s.bc.map eh.enc),.sl .no 3 (s.vars.map dR.enc),x,y]:=rfl
def lg:=ag @w_b <| ag @rU <| ag @tS <| ag @LO <| ag @SH <| ag @w_f <| ag @w_s <| ag @w_l <| ag @w_v <| ag @w_t <| ag @w_p <| ag @w_h <| ag @awr <| ag @w_o @awv
end
variable{p:Int}{Z:ab}{D:Nat}
theorem acY{b O n:Nat}{l:List aM}(h:O≠D):(dP Z b D l s lat p).aU O n=dP (Z.aU O n) b D l s lat p:=by
 simp only[dP,ab.set,ab.aU,ab.mk.injEq,qq,ln]
 grind
theorem acV{σ':ab}{b:Nat}{l:List aM}(h:Z.sub σ'):(dP Z b D l s lat p).sub (dP σ' b D l s lat p):=by
 refine⟨λx cs hx=>?_,λt m hm=>?_,h.2.2⟩
 .by_cases h1:x=b
  .subst h1;rw[LO] at hx ⊢;exact hx
  .rw[DL h1] at hx ⊢;exact h.1 x cs hx
 .simp only[dP,ab.set,ab.aU] at hm ⊢;split
  .grind
  .rename_i e;rw[aB e] at hm;exact h.2.1 t m hm
structure Ah(Z σ' : ab)(D:Nat)(tk:Tk)(n:Nat):Prop where
 box:σ'.box=Z.box
 sub:Z.sub σ'
 tk:tk = .aY\/∃O,tk = .tk O/\O≠D/\σ'.aS O=U n/\Z.aS O=ah
def Ah.nil:Ah Z Z D .aY 0:=⟨rfl,ab.a8 Z,.inl rfl⟩
theorem Ah.app{σ':ab}{b k:Nat}{tk u:Tk}{l:List aM}{m e:List (List V)}{K:V->ab->Prop}(h:Ah Z σ' D tk m.length)(hb:m.length+e.length<=aJ)
 (hk:∀gz uT,Ah Z uT D gz (m++e).length->K (.sl gz k (m++e)) (dP uT b D l s lat p)):sR (dP σ' b D l s lat p) k (.sl tk k m) (.sl u k e) K:=by
 have hl:(m++e).length=m.length+e.length:=bL;have up:∀O n,σ'.aS O=ah\/Z.aS O=ah->Z.sub (σ'.aU O n):=λO n hn=>⟨λx cs hx=>h.sub.1 x cs hx,λt q hq=>by
  have bf:t≠O:=by
   rintro rfl
   rcases hn with hn | hn
   .rw[h.sub.2.1 _ _ hq] at hn;simp at hn
   .grind
  simp only[ab.aU,aB bf];exact h.sub.2.1 t q hq,h.sub.2.2⟩
 rcases h.tk with rfl | ⟨O,rfl,bf,ht,h0⟩
 .refine y6 hb λO j_=>?_
  have bf:O≠D:=by rintro rfl;rw[SH] at j_;simp at j_
  have C4 : σ'.aS O=none:=by simpa [dP,ab.set,ab.aU,bf] using j_
  rw[acY bf];refine hk _ _ ⟨h.box,up O _ (.inl C4),.inr ⟨O,rfl,bf,by rw[hl];simp[ab.aU],?_⟩⟩;cases hq:Z.aS O with
  | none=>rfl
  | some n=>rw[h.sub.2.1 _ _ hq] at C4;simp at C4
 .refine fg hb (by simpa [dP,ab.set,ab.aU,bf] using ht) ?_;rw[acY bf];exact hk _ _ ⟨h.box,up O _ (.inr h0),.inr ⟨O,rfl,bf,by rw[hl];simp[ab.aU],h0⟩⟩
section
variable {s:aH} {lat:Int}
theorem tQ{t:List UInt8}{p k:Int}:(fY s lat t p k).length<=1:=by
 unfold fY
 grind
def Yb{w:aC}:(fB s w).length<=1:=by unfold fB;split;(split<;>simp);simp
theorem IU{n:Nd}:(kK s lat n).length<=1:=by
 unfold kK;split
 .exact tQ
 .split
  .unfold zc;split
   .grind
   .simp
  .simp
mutual
theorem PX:∀n:Nd,(gF s lat n).length<=n.cW
 | .mk k p t ws ks => by
  have h1:=@IU s lat (.mk k p t ws ks);have h2:=P1 ks;rw[gF,bL,Nd.cW]
  grind
theorem P1:∀l:List Nd,(wQ s lat l).length<=iD l
 | []=>by simp[wQ]
 | n :: ns => by
  have:=PX n;have:=P1 ns
  rw[wQ,bL,iD];omega
end
def UR:∀{l:List Nd} {i:Nat} (hi:i<l.length),iD (l.take i)+l[i].cW<=iD l
 | [],i,hi=>by simp at hi
 | n::ns,0,_=>by simp[iD]
 | n :: ns, i + 1, hi => by
  have:=UR (l:=ns) (i:=i) (by simpa using hi)
  simp only[yR,iD,Ti];omega
variable{i:Nat}
def anq{l:List Nd}(hi:i<l.length):((l.take i).flatMap (gF s lat)).length+l[i].cW<=iD l:=by
 have h1:=@P1 s lat (l.take i);rw[P2] at h1
 have:=UR hi
 omega
def xT{G:Type}{f:G->List aM}{m:Nat}:∀{l:List G},(∀x∈l,(f x).length<=m)->(l.flatMap f).length<=l.length*m
 | [],_=>by simp
 | x :: l, h => by
  have:=h x (by simp)
  have:=xT (m:=m) (l:=l) λy hy=>h y (by simp[hy])
  rw[o7,bL,da,lH,F4];omega
def A0{f:G->List aM}{l:List G}(hi:i<l.length):(l.take (i+1)).flatMap f=(l.take i).flatMap f++f l[i]:=by rw[iB hi,rX];simp
def Lo{ws:List aC}:(oD s lat ws).length<=ws.length:=by
 have:=xT (f:=λw:aC=>fY s lat w.an w.pos 2) (m:=1) (l:=ws) λ_ _=>tQ
 rw[rh] at this;exact this
def ajp{ks:List Nd}{i:Nat}:(Cs s lat ks i).length<=1+(ks.getD i iJ).ae.length:=by
 have:=xT (f:=kK s lat) (m:=1) (l:=(ks.getD i iJ).ae) λ_ _=>IU
 have h2:(vj ks i).length<=1:=by unfold vj;split<;>simp
 rw[Cs,bL];omega
variable{ks:List Nd}
def VV{m:Nat}:rr s lat ks (m+1)=rr s lat ks m++Cs s lat ks m:=by simp only[rr,il,rX,o7,L_,eC]
def UQ:∀{l:List Nd} {i:Nat} (hi:i<l.length),iD (l.take (i+1))=iD (l.take i)+l[i].cW
 | [],i,hi=>by simp at hi
 | n::ns,0,_=>by simp[iD]
 | n :: ns, i + 1, hi => by
  have:=UQ (l:=ns) (i:=i) (by simpa using hi)
  simp only[yR,iD,Ti] at this ⊢;omega
def Nv{ks:List Nd}:∀{m:Nat},m<=ks.length->(rr s lat ks m).length<=iD (ks.take m)
 | 0,_=>by simp[rr]
 | m + 1, hm => by
  have h1:=Nv (ks:=ks) (m:=m) (by omega);have h2:=@ajp s lat ks m;have h3:=Nd.sW ks[m];have h4:=MR ks[m].ae;rw[mB (by omega)] at h2;rw[VV,bL,UQ (by omega)];omega
theorem aaJ{p:Int}{n:Nd}:(pz s lat p n).length<=2*n.cW+2:=by
 have x_:=Nd.sW n;have uy:=Ea n;have h1:=Nv (s:=s) (lat:=lat) (bU n.ae.length);have h2:=MS n.ae n.ae.length;have h3:=@Lo s lat n.ak;have h4:=@tQ s lat n.an n.pos 2;unfold pz
 grind
end
def sB(kind:Int)(l:List aA)(a fin:Int):bJ :=
 if bd l a 97=aa then ⟨.mk kind (gv l a).pos (gv l a).an [] [],a+1,aq,0⟩ else eB l a fin
def rQ(l:List aA)(a fin:Int):bJ :=
 if bd l a 97=aq then eB l a fin
 else if bd l (a+1) 58=aq then eB l (a+1) fin
 else if bd l (a+2) 123=aq then eB l (a+2) fin
 else if (wholeAt nameAt (bT l (a+2)) aa).2.aO=aa then(wholeAt nameAt (bT l (a+2)) aa).2
 else ⟨.mk 6 (gv l a).pos (gv l a).an (lb (wholeAt nameAt (bT l (a+2)) aa).1) [],a+3,aq,0⟩
def jB(w:List Nd × bJ)(mk:List Nd->Nd)(next:Int):bJ:=if w.2.aO=aa then w.2 else ⟨mk w.1,next,aq,0⟩
def jf:Nat->List aA->Int->Int->bJ
 | 0,l,a,fin=>sB 2 l a fin
 | n + 1, l, a, fin =>
  if bd l a 97=aa then sB 2 l a fin
  else if bd l a 123=aa then jB (wholeAt nameAt (bT l a) aa) (λks=>.mk 3 (gv l a).pos [] (lb ks) []) (a+1)
  else if bd l a 40=aa then jB (wholeAt (jf n) (bT l a) aq) (λks=>.mk 4 (gv l a).pos [] [] ks) (a+1)
  else if bd l a 91=aa then jB (wholeAt rQ (bT l a) aa) (λks=>.mk 5 (gv l a).pos [] [] ks) (a+1)
  else eB l a fin
def bJ.put(g:bJ)(f:Nd->Nd):bJ:=if g.aO=aa then g else {g with node:=f g.node}
def gR:Nat->List aA->Int->Int->bJ
 | 0,l,a,fin=>sB 1 l a fin
 | n + 1, l, a, fin =>
  if bd l a 97=aa then sB 1 l a fin
  else if bd l a 35=aa then(jf (n+1) l (a+1) fin).put λm=>.mk 7 (gv l a).pos [] [] [m]
  else if bd l a 43=aq/\bd l a 38=aq then eB l a fin
  else if bd l (a+1) 40=aq then eB l (a+1) fin
  else jB (wholeAt (gR n) (bT l (a+1)) aq) (λks=>.mk (if bd l a 38=aa then 9 else 8) (gv l a).pos [] [] ks) (a+2)
def pM(n:Nat)(l:List aA)(a fin:Int):bJ:=if bd l a 43=aa\/bd l a 38=aa then eB l a fin else gR n l a fin
def rp(n:Nat)(l:List aA)(a fin:Int):bJ :=
 if bd l a 97=aq then eB l a fin
 else if bd l (a+1) 61=aq then eB l (a+1) fin
 else(pM n l (a+2) fin).put λm=>.mk 11 (gv l a).pos (gv l a).an [] [m]
def qi(l:List aA)(a:Int)(ks:List Nd)(ws:List aC)(next:Int):bJ :=
 if next<(bT l a).ae.length then eB (bT l a).ae next (bT l a).fin else ⟨.mk 10 (gv l a).pos [] ws ks,a+1,aq,0⟩
def l9(l:List aA)(a:Int)(ks:List Nd)(next:Int):bJ :=
 if bd (bT l a).ae next 124=aa then
  if (nameAt (bT l a).ae (next+1) (bT l a).fin).aO=aa then nameAt (bT l a).ae (next+1) (bT l a).fin
  else qi l a ks (lb [(nameAt (bT l a).ae (next+1) (bT l a).fin).node]) (nameAt (bT l a).ae (next+1) (bT l a).fin).next
 else qi l a ks [] next
def rO(n:Nat)(l:List aA)(a:Int):List Nd × bJ:=d_ (λi=>rp n (bT l a).ae i (bT l a).fin) (bT l a).ae ((bT l a).ae.length+1) 0 []
def j5(n:Nat)(l:List aA)(a fin:Int):bJ :=
 if bd l a 97=aa then gR n l a fin
 else if bd l a 91=aq then eB l a fin
 else if 0<(bT l a).ae.length/\bd (bT l a).ae 0 124=aq then
  if (rO n l a).2.aO=aa then(rO n l a).2 else l9 l a (rO n l a).1 (rO n l a).2.next
 else l9 l a [] 0
def uV(g:List aA->Int->Int->bJ):Prop:=∀l a fin,(g l a fin).aO=aq->0<=a/\a+1<=(g l a fin).next/\(g l a fin).next<=(l.length:Int)
variable{k:Int}
def qM{i:Int}(h:bd l i k=aa):0<=i/\i<(l.length:Int):=by obtain⟨j,t,rfl,_,_,hl⟩:=jC h;omega
def IM(k:Int):uV (sB k):=λl a fin h=>by
 unfold sB at h ⊢;split
 .rename_i hk;have:=qM hk;exact⟨this.1,by simp,by simp only;omega⟩
 .rename_i hk;rw[aB hk] at h;simp[eB] at h
theorem TH:uV rQ:=λl a fin h=>by
 unfold rQ at h ⊢;split
 .rename_i hk;rw[aL hk] at h;simp[eB] at h
 rename_i h1;rw[aB h1] at h;split
 .rename_i hk;rw[aL hk] at h;simp[eB] at h
 rename_i h2;rw[aB h2] at h;split
 .rename_i hk;rw[aL hk] at h;simp[eB] at h
 rename_i h3;rw[aB h3] at h;split
 .grind
 .have:=qM (by simpa using h3:bd l (a+2) 123=aa)
  have:=qM (by simpa using h1:bd l a 97=aa)
  grind
theorem Ki{w:List Nd × bJ}{mk:List Nd->Nd}{next:Int}(h:(jB w mk next).aO=aq):(jB w mk next).next=next:=by
 unfold jB at h ⊢
 grind
def Mr:∀n,uV (jf n)
 | 0=>IM 2
 | n + 1 => λl a fin h => by
  simp only[jf] at h ⊢;split
  .rename_i hk;rw[aL hk] at h;exact IM 2 l a fin h
  rename_i h1;rw[aB h1] at h;split
  .rename_i hk;rw[aL hk] at h;have:=qM hk;rw[Ki h];omega
  rename_i h2;rw[aB h2] at h;split
  .rename_i hk;rw[aL hk] at h;have:=qM hk;rw[Ki h];omega
  rename_i h3;rw[aB h3] at h;split
  .rename_i hk;rw[aL hk] at h;have:=qM hk;rw[Ki h];omega
  .rename_i hk;rw[aB hk] at h;simp[eB] at h
theorem aah{g:bJ}{f:Nd->Nd}(h:(g.put f).aO=aq):g.aO=aq/\(g.put f).next=g.next:=by
 unfold bJ.put at h ⊢
 grind
def F9:∀n,uV (gR n)
 | 0=>IM 1
 | n + 1 => λl a fin h => by
  simp only[gR] at h ⊢;split
  .rename_i hk;rw[aL hk] at h;exact IM 1 l a fin h
  rename_i h1;rw[aB h1] at h;split
  .rename_i hk;rw[aL hk] at h
   have:=qM hk
   obtain⟨g1,g2⟩:=aah h
   have:=Mr (n+1) l (a+1) fin g1
   rw[g2];omega
  rename_i h2;rw[aB h2] at h;split
  .rename_i hk;rw[aL hk] at h;simp[eB] at h
  rename_i h3;rw[aB h3] at h;split
  .rename_i hk;rw[aL hk] at h;simp[eB] at h
  rename_i h4;rw[aB h4] at h
  have:=qM (by simpa using h4:bd l (a+1) 40=aa)
  have h5:0<=a:=by
   cases qF:bd l a 43
   .cases pT:bd l a 38
    .exact absurd ⟨qF,pT⟩ h3
    .exact(qM pT).1
   .exact(qM qF).1
  rw[Ki h];omega
def adJ(n:Nat):uV (pM n):=λl a fin h=>by
 unfold pM at h ⊢;split
 .rename_i hk;rw[aL hk] at h;simp[eB] at h
 .rename_i hk;rw[aB hk] at h;exact F9 n l a fin h
def TG(n:Nat):uV (rp n):=λl a fin h=>by
 unfold rp at h ⊢;split
 .rename_i hk;rw[aL hk] at h;simp[eB] at h
 rename_i h1;rw[aB h1] at h;split
 .rename_i hk;rw[aL hk] at h;simp[eB] at h
 rename_i h2;rw[aB h2] at h;obtain⟨g1,g2⟩:=aah h
 have:=adJ n l (a+2) fin g1
 have:=qM (by simpa using h1:bd l a 97=aa)
 omega
def re(l:List aA)(a:Int):aC:=⟨(gv l a).an,(gv l a).pos⟩
def axS(b:Option Int):Int:=match b with | some a=>a | none=>-1
def tI(l:List aA)(fin:Int):Nat->Nat->List (aC × aC)->List (aC × aC) × Int
 | 0,_,acc=>(acc,-1)
 | n + 1, a, acc =>
  if bd l (a:Nat) 97=aq then([],kA l (a:Nat) fin)
  else if bd l ((a+1:Nat):Int) 60=aq then([],kA l ((a+1:Nat):Int) fin)
  else if bd l ((a+2:Nat):Int) 97=aq then([],kA l ((a+2:Nat):Int) fin)
  else if a+3=l.length then(acc++[(re l (a:Nat),re l ((a+2:Nat):Int))],-1)
  else if bd l ((a+3:Nat):Int) 44=aq then([],kA l ((a+3:Nat):Int) fin)
  else tI l fin n (a+4) (acc++[(re l (a:Nat),re l ((a+2:Nat):Int))])
def vY(t:aA):List (aC × aC) × Int:=if t.ae.length=0 then([],-1) else tI t.ae t.fin (t.ae.length+1) 0 []
def ky(k:UInt8)(c:ar)(l:List aA)(a fin:Int):ar × Int × Int :=
 if k=110\/k=102 then(if bd l a 97=aa then(if k=102 then {c with ak:=[re l a]} else {c with name:=re l a},a+1,-1) else(c,a,kA l a fin))
 else if k=119 then(if (mP l a fin).2.aO=aa then(c,a,(mP l a fin).2.pos) else({c with ak:=(mP l a fin).1},a+1,-1))
 else if k=112 then(if bd l a 123=aa then({c with aX:=(vY (bT l a)).1,qe:=(bT l a).tok.pos},a+1,(vY (bT l a)).2) else(c,a,kA l a fin))
 else
  let g:=if k=114 then j5 (bj l) l a fin else gR (bj l) l a fin
  if g.aO=aa then(c,a,g.pos) else(if c.left.kind=0 then {c with left:=g.node} else {c with right:=g.node},g.next,-1)
def pw(l:List aA)(fin:Int):List UInt8->ar->Int->ar × Int × Int
 | [],c,a=>(c,a,-1)
 | k::ks,c,a=>if 0<=(ky k c l a fin).2.2 then ky k c l a fin else pw l fin ks (ky k c l a fin).1 (ky k c l a fin).2.1
def lX(w:List UInt8):Nat->Nat->Int->Int
 | 0,_,r=>r
 | n+1,op,r=>lX w n (op+1) (if w=(cm op).1 then op else r)
def wq(l:List aA)(fin:Int):ar × Int × Int :=
 match l with
 | []=>(.zero,0,0)
 | t :: _ =>
  let op:=if t.tok.kind=97 then lX t.tok.an 15 1 0 else 0
  if op=0 then(.zero,2,t.tok.pos)
  else
   let x:=pw l fin (cm op).2 {ar.zero with op:=op,pos:=t.tok.pos} 1
   if 0<=x.2.2 then(.zero,2,x.2.2)
   else if x.2.1<l.length then(.zero,2,kA l x.2.1 fin)
   else(x.1,0,0)
def Dy(s:List UInt8):ar × Int × Int :=
 match (eH s).2 with
 | some a=>(.zero,1,a)
 | none => match (iy (eH s).1).2 with
  | some a=>(.zero,2,a)
  | none=>wq (iy (eH s).1).1 s.length
def zU:List (Tok × List aA)->List Tok
 | []=>[]
 | (t,r)::op=>bM r++[t]++zU op
def QP:∀(op:List (Tok × List aA)) (t:Tok) (r:List aA),zU (op++[(t,r)])=zU op++bM r++[t]
 | [],t,r=>by simp[zU]
 | (u,q)::op,t,r=>by simp[zU,QP op t r]
def UK{c:Int}(h:closing c≠0):lM c=false:=by
 unfold closing at h;split at h
 .rename_i e;subst e;decide
 .split at h
  .rename_i e;rcases e with e | e<;>subst e<;>decide
  .omega
theorem BS(l:List G):l=[]\/∃ys x,l=ys++[x]:=by
 rcases B7 l with h | ⟨ys,x,h⟩
 .grind
 .grind
theorem Ic:∀(ts:List Tok) (op:List (Tok × List aA)) (row:List aA),(∀t∈ts,xB t)->(∀p∈op,closing p.1.kind≠0/\gC p.2)->gC row->(iT ts op row).2=ah ->
 gC (iT ts op row).1/\bM (iT ts op row).1=zU op++bM row++ts
 | [], op, row, _, ho, hr, hn => by
  rcases BS op with rfl | ⟨ys,⟨u,a⟩,rfl⟩
  .simpa [iT,zU] using hr
  .simp[iT] at hn
 | t :: ts, op, row, ht, ho, hr, hn => by
  simp only[iT] at hn ⊢;have vN:∀t∈ts,xB t:=λx hx=>ht x (by simp[hx])
  by_cases hc:closing t.kind=0
  .rw[aB (by simp[hc])] at hn ⊢;cases jh:lM t.kind
   .rw[jh] at hn;simp only[dK,cz] at hn ⊢;obtain⟨h1,h2⟩:=Ic ts op (row++[.mk t [] t.pos]) vN ho (lJ.2 ⟨hr,by simp[gC,aA.WF,hc,jh]⟩) hn;exact⟨h1,by rw[h2,jK];simp[bM,aA.flat,hc]⟩
   .rw[jh] at hn;simp only[db] at hn ⊢
    rcases BS op with rfl | ⟨ys,⟨u,a⟩,rfl⟩
    .grind
    .simp only[Ix,FR] at hn ⊢
     by_cases hk:closing u.kind=t.kind
     .rw[aL hk] at hn ⊢;obtain⟨hu,ha⟩:=ho (u,a) (by simp);have hte:t=⟨closing u.kind,[UInt8.ofNat (closing u.kind).toNat],t.pos⟩:=by
       rcases ht t (by simp) with ⟨dy,_⟩ | ⟨_,h2⟩
       .rw[dy] at jh;exact absurd jh (by decide)
       .rw[hk,<-h2]
      obtain⟨h1,h2⟩:=Ic ts ys (a++[.mk u row t.pos]) vN (λp hp=>ho p (by simp[hp])) (lJ.2 ⟨ha,by simp[gC,aA.WF,hu,hr,UK hu]⟩) hn;refine⟨h1,?_⟩;rw[h2,jK,QP];simp only[bM,aA.flat,hu,tE,Fb,db,eC]
      grind
     .grind
  .rw[aL hc] at hn ⊢
   by_cases vp:24<=op.length
   .grind
   .rw[aB vp] at hn ⊢;obtain⟨h1,h2⟩:=Ic ts (op++[(t,row)]) [] vN (λp hp=>by rcases lk.1 hp with h | h;exact ho p h;simp at h;subst h;exact⟨hc,hr⟩) (by simp[gC]) hn;exact⟨h1,by rw[h2,QP];simp[bM]⟩
def Lu:∀(ts:List Tok) (op:List (Tok × List aA)) (row:List aA),(iT ts op row).2≠ah->(iT ts op row).1=[]
 | [], op, row, h => by
  rcases BS op with rfl | ⟨ys,⟨u,a⟩,rfl⟩
  .simp[iT] at h
  .simp[iT]
 | t :: ts, op, row, h => by
  simp only[iT] at h ⊢;split
  .rename_i hc;rw[aL hc] at h;split
   .rfl
   .rename_i vp;rw[aB vp] at h;exact Lu _ _ _ h
  .rename_i hc;rw[aB hc] at h;split
   .rename_i jh;rw[aL jh] at h
    rcases BS op with rfl | ⟨ys,⟨u,a⟩,rfl⟩
    .rfl
    .simp only[Ix,FR] at h ⊢;split
     .rename_i hk;rw[aL hk] at h;exact Lu _ _ _ h
     .rfl
   .rename_i jh;rw[aB jh] at h;exact Lu _ _ _ h
def Ek(l:List Tok)(f:Int):Option Int:=if 0<=f then U (rL l f.toNat) else ah
theorem Lw(l:List Tok):∀(n i:Nat) (op:List (Tok × List aA)) (row:List aA) (o:List Nat),i+n=l.length->op.map (·.1)=o.map (jG l)->(iT (l.drop i) op row).2=Ek l (kS l n i o)
 | 0, i, op, row, o, hi, ho => by
  rw[S_ (by omega)]
  rcases BS op with rfl | ⟨ys,⟨u,a⟩,rfl⟩
  .have:o=[]:=by simp_all
   subst this;rfl
  .rcases BS o with rfl | ⟨zs,j,rfl⟩
   .simp at ho
   .simp only[gm,cQ,fp] at ho;have hj:u=jG l j:=by simp_all
    simp[iT,kS,Ek,hj,jG,rL];cases l[j]?<;>rfl
 | n + 1, i, op, row, o, hi, ho => by
  have az:i<l.length:=by omega
  have hti:jG l i=l[i]:=by simp[jG,az]
  have sj:eP l i=l[i].kind:=by simp[eP,az]
  have EG:rL l i=l[i].pos:=by simp[rL,az]
  have fX:op.length=o.length:=by have:=mf List.length ho;simpa using this
  rw[mb az];simp only[iT,kS,sj];have ax7:Ek l (i:Nat)=U l[i].pos:=by simp[Ek,EG]
  by_cases hc:closing l[i].kind=0
  .simp only[tE,hc,Dp,Ej,cz];cases jh:lM l[i].kind
   .simp only[dK,cz];exact Lw l n (i+1) op _ o (by omega) ho
   .simp only[db]
    rcases BS op with rfl | ⟨ys,⟨u,a⟩,rfl⟩
    .grind
    .rcases BS o with rfl | ⟨zs,j,rfl⟩
     .grind
     .simp only[gm,cQ,fp] at ho;have hj:u=jG l j:=by simp_all
      have sx:ys.map (·.1)=zs.map (jG l):=List.append_inj_left' ho rfl;have OB:eP l j=u.kind:=by rw[hj];simp only[eP,jG];cases l[j]?<;>rfl
      simp only[Ix,FR,OB]
      by_cases hk:closing u.kind=l[i].kind
      .rw[aL hk,aL hk];exact Lw l n (i+1) ys _ zs (by omega) sx
      .grind
  .rw[aL hc]
   by_cases vp:24<=op.length
   .grind
   .rw[aB vp,aB (λh=>vp (by omega))];simp only[tE,hc,Fb,db,UK hc,dK,cz];exact Lw l n (i+1) _ _ _ (by omega) (by simp[ho,hti])
theorem avK{l:List Tok}(h:∀t∈l,xB t):iT l [] []=iy l:=by
 have hf:=Lw l l.length 0 [] [] [] (by omega) rfl;rw[L9] at hf;have hr:(iy l).2=Ek l (kS l l.length 0 []):=by unfold iy Ek;split<;>rfl
 have h2:(iT l [] []).2=(iy l).2:=by grind
 cases hq:(iT l [] []).2 with
 | some a =>
  have h1:=Lu l [] [] (by rw[hq];simp);have h3:(iy l).1=[]:=by
   rw[hq] at h2;unfold iy at h2 ⊢
   grind
  grind
 | none =>
  obtain⟨h3,h4⟩:=Ic l [] [] h (by simp) (by simp[gC]) hq;simp only[zU,bM,gK] at h4;have h5:=aco h3 (by rw[h4,<-h2,hq])
  grind
def DF(s:List UInt8):iT (eH s).1 [] []=iy (eH s).1:=avK (EY _ _ _ _ (by simp))
theorem adK(n:Nat):uV (j5 n):=λl a fin h=>by
 have h3:∀ks ws next,(qi l a ks ws next).aO=aq->(qi l a ks ws next).next=a+1:=λks ws next h=>by
  unfold qi at h ⊢;split
  .rename_i hk;rw[aL hk] at h;simp[eB] at h
  .rfl
 have h2:∀ks next,(l9 l a ks next).aO=aq->(l9 l a ks next).next=a+1:=λks next h=>by
  unfold l9 at h ⊢
  grind
 unfold j5 at h ⊢;split
 .rename_i hk;rw[aL hk] at h;exact F9 n l a fin h
 rename_i h1;rw[aB h1] at h;split
 .rename_i hk;rw[aL hk] at h;simp[eB] at h
 rename_i h4;rw[aB h4] at h;have hk:=qM (by simpa using h4:bd l a 91=aa)
 grind
theorem ZP(k:UInt8)(c:ar)(l:List aA)(a:Nat)(fin:Int):∃a' : Nat,(ky k c l a fin).2.1=(a' : Nat)/\(a<=l.length->a' <= l.length):=by
 have hup:∀kind,bd l (a:Nat) kind=aa->∃a' : Nat,((a:Int)+1)=(a' : Nat)/\(a<=l.length->a' <= l.length):=λkind hk=>by
  have:=qM hk
  exact⟨a+1,rfl,λ_=>by omega⟩
 have fM:∃a' : Nat,(a:Int)=(a' : Nat)/\(a<=l.length->a' <= l.length):=⟨a,rfl,id⟩;unfold ky;split
 .grind
 split
 .split
  .omega
  .rename_i hb;have hk:bd l (a:Nat) 123=true:=by
    by_cases hk:bd l (a:Nat) 123=aa
    .exact hk
    .unfold mP at hb;rw[aB hk] at hb;simp[eB] at hb
   grind
 split
 .grind
 have hg:uV (if k=114 then j5 (bj l) else gR (bj l)):=by split;exact adK _;exact F9 _
 have zu:=hg l (a:Nat) fin;rw[show(if k=114 then j5 (bj l) else gR (bj l)) l (a:Nat) fin=(if k=114 then j5 (bj l) l (a:Nat) fin else gR (bj l) l (a:Nat) fin) by split<;>rfl] at zu;generalize (if k=114 then j5 (bj l) l (a:Nat) fin else gR (bj l) l (a:Nat) fin)=g at zu ⊢;cases hb:g.aO
 .obtain⟨_,h1,h2⟩:=zu hb;simp only[hb,dK,cz];exact⟨g.next.toNat,by omega,λ_=>by omega⟩
 .grind
def In(N p:Int):Prop:=0<=p/\p<=N
inductive xz(N:Int):aA->Prop
 | mk (t:Tok) (ks:List aA) (e:Int):In N t.pos->In N e->(∀k∈ks,xz N k)->xz N (.mk t ks e)
variable{N:Int}
def xz.fin{t:aA}(h:xz N t):In N t.fin:=by cases h;assumption
def xz.pos{t:aA}(h:xz N t):In N t.tok.pos:=by cases h;assumption
def xz.ae{t:aA}(h:xz N t):∀k∈t.ae,xz N k:=by cases h;assumption
def mW(N:Int)(l:List aA):Prop:=∀k∈l,xz N k
section
variable {N:Int} (h0:0<=N)
include h0
theorem wL:In N 0:=⟨by omega,h0⟩
variable{a:Int}
theorem v5{fin:Int}(hl:mW N l)(hf:In N fin):In N (kA l a fin):=by
 unfold kA;split
 .cases h:l[a.toNat]? with
  | none=>exact hf
  | some t=>exact(hl t (yP h)).pos
 .exact hf
theorem sP{fin:Int}(hl:mW N l)(hf:In N fin):In N (eB l a fin).pos:=v5 h0 hl hf
theorem Lt(hl:mW N l):mW N (bT l a).ae/\In N (bT l a).fin:=by
 unfold bT;cases h:l[a.toNat]? with
 | none=>exact⟨by simp[mW,aA.zero,aA.ae],by exact wL h0⟩
 | some t=>exact⟨(hl t (yP h)).ae,(hl t (yP h)).fin⟩
def yZ(N:Int)(g:List aA->Int->Int->bJ):Prop:=∀l a fin,mW N l->In N fin->In N (g l a fin).pos
theorem Kz(k:Int):yZ N (sB k):=λl a fin hl hf=>by
 unfold sB;split;exact wL h0;exact sP h0 hl hf
theorem KL:yZ N nameAt:=λl a fin hl hf=>by
 unfold nameAt;split;exact wL h0;exact sP h0 hl hf
theorem R7{one:Int->bJ}{l:List aA}(h:∀a,In N (one a).pos):∀n a out,In N (d_ one l n a out).2.pos
 | 0,_,_=>wL h0
 | n + 1, a, out => by
  simp only[d_];split
  .grind
  .split
   .exact R7 h n _ _
   .grind
variable{g:List aA->Int->Int->bJ}
theorem FI(hg:yZ N g)(hl:mW N l)(e:Bool):In N (wholeAt g (bT l a) e).2.pos:=by
 obtain⟨hk,hf⟩:=Lt h0 (a:=a) hl;unfold wholeAt;split
 .exact wL h0
 .simp only;split
  .exact sP h0 hk hf
  .exact R7 h0 (λa=>hg _ a _ hk hf) _ _ _
theorem Kj{w:List Nd × bJ}{mk:List Nd->Nd}{next:Int}(h:In N w.2.pos):In N (jB w mk next).pos:=by unfold jB;split;exact h;exact wL h0
theorem aag{g:bJ}{f:Nd->Nd}(h:In N g.pos):In N (g.put f).pos:=by unfold bJ.put;split<;>exact h
theorem atL:yZ N rQ:=λl a fin hl hf=>by
 unfold rQ;split
 .exact sP h0 hl hf
 split
 .exact sP h0 hl hf
 split
 .exact sP h0 hl hf
 split
 .exact FI h0 (KL h0) hl _
 .exact wL h0
theorem U3:∀n,yZ N (jf n)
 | 0=>Kz h0 2
 | n + 1 => λl a fin hl hf => by
  unfold jf;split
  .exact Kz h0 2 l a fin hl hf
  split
  .exact Kj h0 (FI h0 (KL h0) hl _)
  split
  .exact Kj h0 (FI h0 (U3 n) hl _)
  split
  .exact Kj h0 (FI h0 (atL h0) hl _)
  .exact sP h0 hl hf
theorem Hk:∀n,yZ N (gR n)
 | 0=>Kz h0 1
 | n + 1 => λl a fin hl hf => by
  unfold gR;split
  .exact Kz h0 1 l a fin hl hf
  split
  .exact aag h0 (U3 h0 _ _ _ _ hl hf)
  split
  .exact sP h0 hl hf
  split
  .exact sP h0 hl hf
  .exact Kj h0 (FI h0 (Hk n) hl _)
theorem aeB(n:Nat):yZ N (pM n):=λl a fin hl hf=>by
 unfold pM;split;exact sP h0 hl hf;exact Hk h0 n l a fin hl hf
theorem ajh(n:Nat):yZ N (rp n):=λl a fin hl hf=>by
 unfold rp;split
 .exact sP h0 hl hf
 split
 .exact sP h0 hl hf
 .exact aag h0 (aeB h0 n _ _ _ hl hf)
theorem aaN(n:Nat):yZ N (j5 n):=λl a fin hl hf=>by
 obtain⟨hk,nC⟩:=Lt h0 (a:=a) hl;have h3:∀ks ws next,In N (qi l a ks ws next).pos:=λks ws next=>by
  unfold qi;split;exact sP h0 hk nC;exact wL h0
 have h2:∀ks next,In N (l9 l a ks next).pos:=λks next=>by
  unfold l9;split
  .split
   .exact KL h0 _ _ _ hk nC
   .grind
  .grind
 unfold j5;split
 .exact Hk h0 n l a fin hl hf
 split
 .exact sP h0 hl hf
 split
 .split
  .exact R7 h0 (λi=>ajh h0 n _ i _ hk nC) _ _ _
  .grind
 .grind
theorem acK{fin:Int}(hl:mW N l)(hf:In N fin):In N (mP l a fin).2.pos:=by unfold mP;split;exact FI h0 (KL h0) hl _;exact sP h0 hl hf
def S4(N p:Int):Prop:=p = -1\/In N p
theorem ZH{l:List aA}{fin:Int}(hl:mW N l)(hf:In N fin):∀n a acc,S4 N (tI l fin n a acc).2
 | 0,_,_=>.inl rfl
 | n + 1, a, acc => by
  simp only[tI];split
  .refine Or.inr ?_;simp only;exact v5 h0 hl hf
  split
  .refine Or.inr ?_;simp only;exact v5 h0 hl hf
  split
  .refine Or.inr ?_;simp only;exact v5 h0 hl hf
  split
  .exact .inl rfl
  split
  .refine Or.inr ?_;simp only;exact v5 h0 hl hf
  .exact ZH hl hf n _ _
theorem ard(hl:mW N l):S4 N (vY (bT l a)).2:=by
 obtain⟨hk,hf⟩:=Lt h0 (a:=a) hl;unfold vY;split
 .exact .inl rfl
 .exact ZH h0 hk hf _ _ _
theorem avN{l:List Tok}(hl:∀t∈l,In N t.pos):∀n i to,mW N (kB l n i to):=by
 have hp:∀i,In N (rL l i):=λi=>by
  unfold rL;cases h:l[i]? with
  | none=>exact wL h0
  | some t=>exact hl t (yP h)
 have ht:∀i,In N (jG l i).pos:=λi=>by
  unfold jG;cases h:l[i]? with
  | none=>exact wL h0
  | some t=>exact hl t (yP h)
 intro n;induction n with
 | zero=>intro i to;simp[kB,mW]
 | succ n ih =>
  intro i to;simp only[kB];split
  .split
   .intro k hk
    rcases m_.1 hk with rfl | hk
    .exact .mk _ _ _ (ht i) (hp _) (ih _ _)
    .exact ih _ _ k hk
   .intro k hk
    rcases m_.1 hk with rfl | hk
    .exact .mk _ _ _ (ht i) (hp _) (by simp)
    .exact ih _ _ k hk
  .simp[mW]
end
theorem KB{N:Int}:∀n (p:Nat) (s:List UInt8) (acc:List Tok),(p:Int)+s.length<=N->(∀t∈acc,In N t.pos)->(∀t∈(fO n p s acc).1,In N t.pos)/\∀a,(fO n p s acc).2=U a->In N a
 | 0,_,_,acc,_,h=>⟨by simpa [fO] using h,by simp[fO]⟩
 | n+1,_,[],acc,_,h=>⟨by simpa [fO] using h,by simp[fO]⟩
 | n + 1, p, c :: r, acc, hp, h => by
  simp only[da] at hp;simp only[fO];split
  .grind
  split
  .rename_i hr;have hle:(eR (c::r)).length<=(c::r).length:=(adr _).length_le;refine KB n _ _ _ ?_ ?_
   .grind
   .intro t ht
    rcases lk.1 ht with ht | ht
    .grind
    .rw[u7] at ht;subst ht;constructor<;>simp only<;>omega
  split
  .refine KB n _ _ _ (by omega) ?_;intro t ht
   rcases lk.1 ht with ht | ht
   .grind
   .rw[u7] at ht;subst ht;constructor<;>simp only<;>omega
  split
  .exact KB n _ _ _ (by omega) h
  .refine⟨by simp,λa ha=>?_⟩;simp only[bq] at ha;subst ha;constructor<;>omega
def Yv(s:List UInt8):(∀t∈(eH s).1,In s.length t.pos)/\∀a,(eH s).2=U a->In s.length a:=KB _ _ _ _ (by simp) (by simp)
def YF(s:List UInt8):mW s.length (iy (eH s).1).1/\∀a,(iy (eH s).1).2=U a->In s.length a:=by
 have h0:(0:Int)<=s.length:=by omega
 have h:=(Yv s).1;unfold iy;split
 .refine⟨by simp[mW],λa ha=>?_⟩;simp only[bq] at ha;subst ha;unfold rL;cases hq:(eH s).1[(kS (eH s).1 (eH s).1.length 0 []).toNat]? with
  | none=>exact wL h0
  | some t=>exact h t (yP hq)
 .exact⟨avN h0 h _ _ _,by simp⟩
def iZ(sep:List UInt8):List (List UInt8)->List UInt8
 | []=>[]
 | x::xs=>x++xs.flatMap λy=>sep++y
def XY(sep:List UInt8)(l:List (List UInt8))(y:List UInt8):iZ sep (l++[y])=iZ sep l++(if 0<l.length then sep else [])++y:=by
 cases l with
 | nil=>simp[iZ]
 | cons x xs=>simp[iZ]
def Ko(l:List (List UInt8)):iZ [44] l=b_ l:=by cases l<;>rfl
variable{i:Nat}{sep:List UInt8}
def am4{l:List (List UInt8)}(h:i<l.length):iZ sep (l.take (i+1))=iZ sep (l.take i)++(if 0<i then sep else [])++l[i]:=by rw[iB h,XY,o8,Iz (F1 h)]
theorem am3{l:List (List UInt8)}:(iZ sep (l.take i)).length<=(iZ sep l).length:=by
 have key:∀a b:List (List UInt8),(iZ sep a).length<=(iZ sep (a++b)).length:=λa b=>by
  cases a with
  | nil=>simp[iZ]
  | cons x xs=>simp[iZ,rX]
 have:=key (l.take i) (l.drop i)
 simp_all
def ja(p:aC × aC):List UInt8:=p.1.an++[60]++p.2.an
def y9(l:List (List UInt8)):List UInt8:=[123]++b_ l++[125]
def ke(k:UInt8)(c:ar)(n:Nd):List UInt8 :=
 if k=110 then c.name.an
 else if k=102 then b_ (c.ak.map aC.an)
 else if k=119 then y9 (c.ak.map aC.an)
 else if k=112 then y9 (c.aX.map ja)
 else n.dn
def isTerm(k:UInt8):Bool:=k≠110&&k≠102&&k≠119&&k≠112
def Ab(c:ar)(x:List (List UInt8) × List Nd)(k:UInt8):List (List UInt8) × List Nd:=(x.1++[ke k c (x.2.headD .zero)],if isTerm k=aa then x.2.tail else x.2)
def jj(c:ar)(ks:List UInt8):List (List UInt8) × List Nd:=ks.foldl (Ab c) ([(cm c.op).1],[c.left,c.right])
def dq(c:ar):List UInt8:=iZ [32] (jj c (cm c.op).2).1
def Q2(c:ar)(ks:List UInt8)(k:UInt8):jj c (ks++[k])=Ab c (jj c ks) k:=by simp[jj,B8]
def kz(l:List (aC × aC)):Nat:=(l.map λp=>p.1.an.length+p.2.an.length+2).sum
def arZ{l:List (aC × aC)}(h:i<l.length):l[i].1.an.length+l[i].2.an.length+2<=kz l:=by
 induction l generalizing i with
 | nil=>simp at h
 | cons p ps ih =>
  cases i with
  | zero=>simp[kz]
  | succ i =>
   have:=ih (i:=i) (by simp at h;omega)
   simp only[kz,cQ,pJ,Ti] at this ⊢;omega
def Q6(l:List (aC × aC)):(b_ (l.map ja)).length<=kz l/\l.length<=kz l:=by
 induction l with
 | nil=>simp[b_,kz]
 | cons p ps ih =>
  have key:∀qs:List (aC × aC),((qs.map ja).flatMap λy=>44::y).length<=kz qs:=λqs=>by
   induction qs with
   | nil=>simp
   | cons q qs ih=>simp[ja,kz] at ih ⊢;omega
  have:=key ps
  have:=ih.2
  simp[b_,ja,kz] at *;omega
def ar.wt(c:ar):Nat:=c.name.an.length+fk c.ak+kz c.aX+c.left.wt+c.right.wt
def Fk(l:List aC):(b_ (l.map aC.an)).length<=fk l/\l.length<=fk l:=⟨FK l,by
 induction l with
 | nil=>simp
 | cons w ws ih=>simp[fk] at ih ⊢;omega⟩
theorem arH{k:UInt8}{n:Nd}(h:n.wt<=c.wt):(ke k c n).length<=c.wt+2:=by
 have h1:=(Fk c.ak).1;have h2:=(Q6 c.aX).1;have h3:=acr n;have h4:c.wt=c.name.an.length+fk c.ak+kz c.aX+c.left.wt+c.right.wt:=rfl;unfold ke y9
 grind
theorem awQ(op:Int):(cm op).1.length<=8:=by
 unfold cm;split
 .rename_i h1;have az:op.toNat<16:=by omega
  generalize op.toNat=n at az ⊢;have key:∀n<16,(j8.getD n ([],[])).1.length<=8:=by decide
  grind
 .simp
theorem LU:Nd.zero.wt=4:=by rfl
def axu(n:Nd):4<=n.wt:=by cases n;simp only[Nd.wt];omega
theorem Fi(c:ar)(ks:List UInt8):(∀x∈(jj c ks).1,x.length<=c.wt+8)/\(∀n∈(jj c ks).2,n.wt<=c.wt)/\(jj c ks).1.length=ks.length+1/\(jj c ks).2=[c.left,c.right].drop (ks.filter isTerm).length:=by
 have hc:c.wt=c.name.an.length+fk c.ak+kz c.aX+c.left.wt+c.right.wt:=rfl
 rcases B7 ks with rfl | ⟨ys,k,rfl⟩
 .have:=awQ c.op
  refine⟨?_,?_,rfl,rfl⟩
  .intro x hx;simp[jj] at hx;subst hx;omega
  .intro n hn;simp[jj] at hn;rcases hn with rfl | rfl<;>omega
 .obtain⟨i1,i2,i3,i4⟩:=Fi c ys;rw[Iw,Q2];have hz:((jj c ys).2.headD .zero).wt<=c.wt:=by
   cases hq:(jj c ys).2 with
   | nil=>have:=axu c.left;simp[LU];omega
   | cons n ns=>exact i2 n (by rw[hq];simp)
  refine⟨?_,?_,?_,?_⟩
  .intro x hx
   rcases lk.1 hx with hx | hx
   .grind
   .rw[u7] at hx;subst hx;have:=arH (k:=k) hz;omega
  .intro n hn;simp only[Ab] at hn;split at hn
   .exact i2 n (List.mem_of_mem_tail hn)
   .grind
  .simp[Ab,i3]
  .simp only[Ab,i4];cases h:isTerm k
   .simp[h]
   .simp[h]
termination_by ks.length
decreasing_by subst_vars;simp
def XX{B:Nat}:∀(l:List (List UInt8)),(∀x∈l,x.length<=B)->(iZ [32] l).length<=l.length*(B+1)
 | [],_=>by simp[iZ]
 | x :: xs, h => by
  have hx:=h x (by simp);have key:∀ys:List (List UInt8),(∀x∈ys,x.length<=B)->(ys.flatMap λy=>[32]++y).length<=ys.length*(B+1):=λys=>by
   induction ys with
   | nil=>simp
   | cons y ys ih =>
    intro h;have h1:=h y (by simp);have h2:=ih λx hx=>h x (by simp[hx])
    simp only[o7,bL,da,cZ,lH] at h2 ⊢;omega
  have:=key xs λx hx=>h x (by simp[hx])
  simp only[iZ,bL,da,lH] at this ⊢;omega
theorem V8(op:Int):∀i<(cm op).2.length,∀k,(cm op).2[i]?=U k->isTerm k=aa->(((cm op).2.take i).filter isTerm).length<2:=by
 unfold cm;split
 .rename_i h1;have az:op.toNat<16:=by omega
  generalize op.toNat=n at az ⊢;have key:∀n<16,∀i<(j8.getD n ([],[])).2.length,∀k∈(j8.getD n ([],[])).2[i]?,isTerm k=aa->(((j8.getD n ([],[])).2.take i).filter isTerm).length<2:=by decide
  grind
 .simp
def Ch:List V:=.int .i64 0::aj 8 (.int .u64 0)
def Nu:List V:=.aQ []::.int .i64 0::aj 8 (.int .u64 0)
structure bQ where
 v:Int
 c:br
structure cq where
 name:List UInt8
 a:bQ
structure fJ where
 fs:List cq
 tail:Int
structure dJ where
 op:Int
 lat:Int
 code:List bF
 to:bQ
 a:fJ
 b:fJ
 v:Int
 field:List UInt8
def br.MK{P:br->Prop}(h:∀(a b c d e f g i:bz) (hl:[a,b,c,d,e,f,g,i].length=8),P ⟨[a,b,c,d,e,f,g,i],hl⟩)(e:br):P e:=by
 obtain⟨w,hl⟩:=e
 match w,hl with
 | [a,b,c,d,e,f,g,i],hl=>exact h a b c d e f g i hl
def bQ.enc(x:bQ):List V:=.int .i64 x.v::x.c.enc
def cq.enc(x:cq):List V:=.aQ x.name::x.a.enc
def fJ.enc(x:fJ):List V:=[.sl .no 10 (x.fs.map cq.enc),.int .i64 x.tail]
def dj(op lat:Int)(c:V)(to:bQ)(fa:V)(ta:Int)(fb:V)(tb v:Int)(f:List UInt8):List V:=.int .i64 op::.int .i64 lat::c::(to.enc++[fa,.int .i64 ta,fb,.int .i64 tb,.int .i64 v,.aQ f])
def dJ.enc(x:dJ):List V:=dj x.op x.lat (.sl .no 10 (x.code.map bF.enc)) x.to (.sl .no 10 (x.a.fs.map cq.enc)) x.a.tail (.sl .no 10 (x.b.fs.map cq.enc)) x.b.tail x.v x.field
def bQ.zero:bQ:=⟨0,.zero⟩
def fJ.zero:fJ:=⟨[],0⟩
def dJ.zero:dJ:=⟨0,0,[],.zero,.zero,.zero,0,[]⟩
def g_:List V:=dj 0 0 (.sl .aY 10 []) .zero (.sl .aY 10 []) 0 (.sl .aY 10 []) 0 0 []
def bQ.ext'{x y:bQ}(h:x.v=y.v)(k:x.c=y.c):x=y:=by cases x;cases y;simp only at h k;subst h;subst k;rfl
def cq.ext'{x y:cq}(h:x.name=y.name)(k:x.a=y.a):x=y:=by cases x;cases y;simp only at h k;subst h;subst k;rfl
instance:DecidableEq bQ:=λx y=>if h:x.v=y.v/\x.c=y.c then isTrue (bQ.ext' h.1 h.2) else isFalse λe=>h ⟨e▸rfl,e▸rfl⟩
instance:DecidableEq cq:=λx y=>if h:x.name=y.name/\x.a=y.a then isTrue (cq.ext' h.1 h.2) else isFalse λe=>h ⟨e▸rfl,e▸rfl⟩
section
variable {x y:bQ} {n:Nat} {i:Int} {e:br}
def bQ.dG:x.enc.length=9:=by simp[bQ.enc,br.dG]
def bQ.iS:c8 x.enc=true:=by simp[bQ.enc,c8,V.one,br.iS]
def bQ.dT:bK x.enc=true:=by simp[bQ.enc,bK,V.cS,br.dT]
def bQ.dW:a9 x.enc=x.enc:=by simp[bQ.enc,a9,V.erase,br.dW]
def bQ.bR:bE n x.enc=true:=by simp[bQ.enc,bE,V.lo,br.bR]
def bQ.gI:takeN 9 x.enc=U x.enc:=by have:=BW (c:=x.enc);rwa [bQ.dG] at this
def bQ.jE:bP aa 9 x.enc=U (.agg x.enc):=by rw[Bu,bQ.gI];rfl
def bQ.jc:cB 9 x.enc=true:=by have:=A' (c:=x.enc);rwa [bQ.dG] at this
def bQ.iK:over y.enc x.enc=x.enc:=rJ (by rw[bQ.dG,bQ.dG])
theorem bQ.Rk:bP aq 1 x.enc=U (.int .i64 x.v):=rfl
def bQ.Rg:takeN 8 (x.enc.drop 1)=U x.c.enc:=by show takeN 8 x.c.enc=_;exact br.gI
theorem bQ.Rn:Ch=bQ.zero.enc:=by rfl
def bQ.b_v:over x.enc [.int .i64 i]=(bQ.mk i x.c).enc:=by rw[bQ.enc,yo,w7];rfl
theorem bQ.Gb:cB 1 x.enc=true:=rfl
def bQ.aeT:cB 8 (x.enc.drop 1)=true:=by show cB 8 x.c.enc=aa;exact br.jc
def bQ.MB:setAt x.enc 1 e.enc=(bQ.mk x.v e).enc:=by rw[bQ.enc,mz,mT,br.iK];rfl
def bQ.sI:hZ [1,1,1,1,1,1,1,1,1] x.enc y.enc=U (decide (x=y)):=by
 rw[bQ.enc,bQ.enc,xR,br.sI,ve];congr 1;rw[<-DQ];exact xM.2 ⟨λh=>bQ.ext' h.1 h.2,λh=>h▸⟨rfl,rfl⟩⟩
def bQ.al:=ag @bQ.dG <| ag @bQ.iS <| ag @bQ.dT <| ag @bQ.dW <| ag @bQ.bR <| ag @bQ.gI <| ag @bQ.jE <| ag @bQ.jc <| ag @bQ.iK <| ag @bQ.Rk <| ag @bQ.Rg <| ag @bQ.Rn <| ag @bQ.b_v <| ag @bQ.Gb <| ag @bQ.aeT <| ag @bQ.MB @bQ.sI
end
section
variable {x y:cq} {n:Nat} {t:List UInt8} {a:bQ}
def cq.dG:x.enc.length=10:=by simp[cq.enc,bQ.dG]
def cq.iS:c8 x.enc=true:=by simp[cq.enc,c8,V.one,bQ.iS]
def cq.dT:bK x.enc=true:=by simp[cq.enc,bK,V.cS,bQ.dT]
def cq.dW:a9 x.enc=x.enc:=by simp[cq.enc,a9,V.erase,bQ.dW]
def cq.bR:bE n x.enc=true:=by simp[cq.enc,bE,V.lo,bQ.bR]
def cq.gI:takeN 10 x.enc=U x.enc:=by have:=BW (c:=x.enc);rwa [cq.dG] at this
def cq.jE:bP aa 10 x.enc=U (.agg x.enc):=by rw[Bu,cq.gI];rfl
def cq.jc:cB 10 x.enc=true:=by have:=A' (c:=x.enc);rwa [cq.dG] at this
def cq.iK:over y.enc x.enc=x.enc:=rJ (by rw[cq.dG,cq.dG])
theorem cq.w9:bP aq 1 x.enc=U (.aQ x.name):=rfl
def cq.Rf:takeN 9 (x.enc.drop 1)=U x.a.enc:=by show takeN 9 x.a.enc=_;exact bQ.gI
theorem cq.Rn:Nu=(cq.mk [] .zero).enc:=by rfl
theorem cq.MC:over x.enc [.aQ t]=(cq.mk t x.a).enc:=by rfl
theorem cq.Gb:cB 1 x.enc=true:=rfl
def cq.aeU:cB 9 (x.enc.drop 1)=true:=by show cB 9 x.a.enc=aa;exact bQ.jc
def cq.b_a:setAt x.enc 1 a.enc=(cq.mk x.name a).enc:=by rw[cq.enc,mz,mT,bQ.iK];rfl
def cq.sI:hZ [2,1,1,1,1,1,1,1,1,1] x.enc y.enc=U (decide (x=y)):=by
 rw[cq.enc,cq.enc,Nc,bQ.sI,ve];congr 1;rw[<-DQ];exact xM.2 ⟨λh=>cq.ext' h.1 h.2,λh=>h▸⟨rfl,rfl⟩⟩
def cq.al:=ag @cq.dG <| ag @cq.iS <| ag @cq.dT <| ag @cq.dW <| ag @cq.bR <| ag @cq.gI <| ag @cq.jE <| ag @cq.jc <| ag @cq.iK <| ag @cq.w9 <| ag @cq.Rf <| ag @cq.Rn <| ag @cq.MC <| ag @cq.Gb <| ag @cq.aeU <| ag @cq.b_a @cq.sI
end
section
variable {x:fJ} {n:Nat} {u w:V}
theorem fJ.dG:x.enc.length=2:=rfl
theorem fJ.iS:c8 x.enc=true:=rfl
theorem fJ.dT:bK x.enc=true:=rfl
theorem fJ.dW:a9 x.enc=x.enc:=rfl
theorem fJ.bR:bE n x.enc=true:=rfl
theorem fJ.gI:takeN 2 x.enc=U x.enc:=rfl
theorem fJ.jE:bP aa 2 x.enc=U (.agg x.enc):=rfl
theorem fJ.jc:cB 2 x.enc=true:=rfl
theorem fJ.iK:over [u,w] x.enc=x.enc:=rfl
theorem fJ.HR:bP aq 1 x.enc=U (.sl .no 10 (x.fs.map cq.enc)):=rfl
theorem fJ.Rj:bP aq 1 (x.enc.drop 1)=U (.int .i64 x.tail):=rfl
def fJ.al:=ag @fJ.dG <| ag @fJ.iS <| ag @fJ.dT <| ag @fJ.dW <| ag @fJ.bR <| ag @fJ.gI <| ag @fJ.jE <| ag @fJ.jc <| ag @fJ.iK <| ag @fJ.HR @fJ.Rj
end
section
variable {op lat ta tb v i:Int} {c fa fb d:V} {to tp:bQ} {r:fJ} {f g:List UInt8} {x:dJ} {n:Nat}
def rk:(dj op lat c to fa ta fb tb v f).length=18:=by simp[dj,bQ.dG]
def IS:takeN 18 (dj op lat c to fa ta fb tb v f)=U (dj op lat c to fa ta fb tb v f):=by have:=BW (c:=dj op lat c to fa ta fb tb v f);rwa [rk] at this
def ad':cB 18 (dj op lat c to fa ta fb tb v f)=true:=by have:=A' (c:=dj op lat c to fa ta fb tb v f);rwa [rk] at this
def aej{Zw P4 ta' tb' v' : Int}{c' VG VK : V}{f' : List UInt8}:over (dj op lat c to fa ta fb tb v f) (dj Zw P4 c' tp VG ta' VK tb' v' f')=dj Zw P4 c' tp VG ta' VK tb' v' f' := rJ (by rw[rk,rk])
def wg(h1:c.one=aa)(h2:fa.one=aa)(h3:fb.one=aa):c8 (dj op lat c to fa ta fb tb v f)=true:=by
 have h:=@bQ.iS to;simp only[dj,c8,QO,lh,h1];rw[HD,h];simp only[c8,QO,Zv,h2,h3,LX]
def D4(h1:c.cS=aa)(h2:fa.cS=aa)(h3:fb.cS=aa):bK (dj op lat c to fa ta fb tb v f)=true:=by
 have h:=@bQ.dT to;have app:∀{a b:List V},bK a=aa->bK b=aa->bK (a++b)=true:=by
  intro a;induction a with
  | nil=>intro b _ h;exact h
  | cons x a ih=>intro b h1 h2;simp only[bK,bO,gY] at h1 ⊢;exact⟨h1.1,ih h1.2 h2⟩
 simp only[dj,bK,V.cS,lh,h1];exact app h (by simp[bK,V.cS,h2,h3])
def Ga:a9 (dj op lat c to fa ta fb tb v f)=dj op lat c.erase to fa.erase ta fb.erase tb v f:=by
 have h:=@bQ.dW to;have app:∀{a b:List V},a9 (a++b)=a9 a++a9 b:=by
  intro a;induction a with
  | nil=>intro b;rfl
  | cons x a ih=>intro b;simp only[a9,gY,ih]
 simp only[dj,a9,V.erase,app,h]
def AP:(dj op lat c to fa ta fb tb v f).drop 12=[fa,.int .i64 ta,fb,.int .i64 tb,.int .i64 v,.aQ f]:=by
 simp only[dj,FT];exact List.drop_left' bQ.dG
theorem aea:bP aq 1 (dj op lat c to fa ta fb tb v f)=U (.int .i64 op):=rfl
theorem aeb:bP aq 1 ((dj op lat c to fa ta fb tb v f).drop 1)=U (.int .i64 lat):=rfl
theorem aeg:bP aq 1 ((dj op lat c to fa ta fb tb v f).drop 2)=U c:=rfl
def aeh:takeN 9 ((dj op lat c to fa ta fb tb v f).drop 3)=U to.enc:=Se bQ.dG
def aec:takeN 2 ((dj op lat c to fa ta fb tb v f).drop 12)=U [fa,.int .i64 ta]:=by rw[AP];rfl
def aed:takeN 2 ((dj op lat c to fa ta fb tb v f).drop 14)=U [fb,.int .i64 tb]:=by rw[show 14=12+2 from rfl,<-xw,AP];rfl
def aee:bP aq 1 ((dj op lat c to fa ta fb tb v f).drop 16)=U (.int .i64 v):=by rw[show 16=12+4 from rfl,<-xw,AP];rfl
def aef:bP aq 1 ((dj op lat c to fa ta fb tb v f).drop 17)=U (.aQ f):=by rw[show 17=12+5 from rfl,<-xw,AP];rfl
theorem ad3:cB 1 (dj op lat c to fa ta fb tb v f)=true:=rfl
theorem ad4:cB 1 ((dj op lat c to fa ta fb tb v f).drop 1)=true:=rfl
theorem ad9:cB 1 ((dj op lat c to fa ta fb tb v f).drop 2)=true:=rfl
def ad_:cB 9 ((dj op lat c to fa ta fb tb v f).drop 3)=true:=by obtain⟨tv,te⟩:=to;induction te using br.MK;rfl
def ad5:cB 2 ((dj op lat c to fa ta fb tb v f).drop 12)=true:=by rw[AP];rfl
def ad6:cB 2 ((dj op lat c to fa ta fb tb v f).drop 14)=true:=by rw[show 14=12+2 from rfl,<-xw,AP];rfl
def ad7:cB 1 ((dj op lat c to fa ta fb tb v f).drop 16)=true:=by rw[show 16=12+4 from rfl,<-xw,AP];rfl
def ad8:cB 1 ((dj op lat c to fa ta fb tb v f).drop 17)=true:=by rw[show 17=12+5 from rfl,<-xw,AP];rfl
theorem aek:over (dj op lat c to fa ta fb tb v f) [.int .i64 i]=dj i lat c to fa ta fb tb v f:=by rfl
theorem ael:setAt (dj op lat c to fa ta fb tb v f) 1 [.int .i64 i]=dj op i c to fa ta fb tb v f:=by rfl
theorem aes:setAt (dj op lat c to fa ta fb tb v f) 2 [d]=dj op lat d to fa ta fb tb v f:=by rfl
def aet:setAt (dj op lat c to fa ta fb tb v f) 3 tp.enc=dj op lat c tp fa ta fb tb v f:=by rw[dj,mz,mz,mz,mT,KU (by rw[bQ.dG,bQ.dG];exact bU _),bQ.iK];rfl
def D5{m:List V}{k:Nat}:setAt (dj op lat c to fa ta fb tb v f) (12+k) m = .int .i64 op::.int .i64 lat::c::(to.enc++setAt [fa,.int .i64 ta,fb,.int .i64 tb,.int .i64 v,.aQ f] k m):=by
 rw[show 12+k=(9+k)+1+1+1 by omega,dj,mz,mz,mz];congr 3;have key:∀(a b:List V) (n:Nat),setAt (a++b) (a.length+n) m=a++setAt b n m:=by
  intro a;induction a with
  | nil=>intro b n;rw[cZ,mc];rfl
  | cons x a ih=>intro b n;rw[gY,da,show a.length+1+n=(a.length+n)+1 by omega,mz,ih];rfl
 have:=key to.enc [fa,.int .i64 ta,fb,.int .i64 tb,.int .i64 v,.aQ f] k
 rw[bQ.dG] at this;exact this
def aem:setAt (dj op lat c to fa ta fb tb v f) 12 [d,.int .i64 i]=dj op lat c to d i fb tb v f:=D5 (k:=0)
def aeo:setAt (dj op lat c to fa ta fb tb v f) 14 [d,.int .i64 i]=dj op lat c to fa ta d i v f:=D5 (k:=2)
def aeq:setAt (dj op lat c to fa ta fb tb v f) 16 [.int .i64 i]=dj op lat c to fa ta fb tb i f:=D5 (k:=4)
def aer:setAt (dj op lat c to fa ta fb tb v f) 17 [.aQ g]=dj op lat c to fa ta fb tb v g:=D5 (k:=5)
def aen:setAt (dj op lat c to fa ta fb tb v f) 12 r.enc=dj op lat c to (.sl .no 10 (r.fs.map cq.enc)) r.tail fb tb v f:=D5 (k:=0)
def aep:setAt (dj op lat c to fa ta fb tb v f) 14 r.enc=dj op lat c to fa ta (.sl .no 10 (r.fs.map cq.enc)) r.tail v f:=D5 (k:=2)
def dJ.dW:a9 x.enc=x.enc:=Ga
def dJ.dT:bK x.enc=true:=D4 rfl rfl rfl
def hH:=ag @rk <| ag @IS <| ag @ad' <| ag @aej <| ag @aea <| ag @aeb <| ag @aeg <| ag @aeh <| ag @aec <| ag @aed <| ag @aee <| ag @aef <| ag @ad3 <| ag @ad4 <| ag @ad9 <| ag @ad_ <| ag @ad5 <| ag @ad6 <| ag @ad7 <| ag @ad8 <| ag @aek <| ag @ael <| ag @aes <| ag @aet <| ag @aem <| ag @aeo <| ag @aeq <| ag @aer <| ag @aen @aep
end
def eU(op:Int)(k:UInt8):Nat:=(cm op).2.count k
def qc(l:List (List UInt8)):Bool:=l.all dp
def ar.nY(c:ar):Bool:=if eU c.op 110=0 then decide (c.name.an=[]) else dp c.name.an
def ar.kW(c:ar):Bool :=
 if 0<eU c.op 119 then decide (0<c.ak.length)&&qc (c.ak.map aC.an)
 else if 0<eU c.op 102 then decide (c.ak.length=1)&&qc (c.ak.map aC.an)
 else decide (c.ak.length=0)
def kc(p:aC × aC):Bool:=dp p.1.an&&dp p.2.an
def ar.lY(c:ar):Bool:=if eU c.op 112=0 then decide (c.aX.length=0) else c.aX.all kc
def ar.kh(c:ar):Bool :=
 if 0<eU c.op 116 then c.left.ei&&c.right.ei
 else if 0<eU c.op 114 then c.left.jl&&c.right.jl
 else c.left.dm .zero&&c.right.dm .zero
def ar.gj(c:ar):Bool:=decide (0<=c.op/\c.op<=15)&&c.nY&&c.kW&&c.lY&&c.kh
def mS:List (aC × aC)->List (aC × aC)->Bool
 | [],[]=>aa
 | p::ps,q::qs=>decide (p.1.an=q.1.an)&&decide (p.2.an=q.2.an)&&mS ps qs
 | _,_=>aq
def ar.dm(a b:ar):Bool:=decide (a.op=b.op)&&decide (a.name.an=b.name.an)&&eX a.ak b.ak&&mS a.aX b.aX&&a.left.dm b.left&&a.right.dm b.right
def o_(s:aH)(lat:Nat)(n:Nd):bQ:=if n.kind=1 then ⟨bW (jt s.vars n.an),.zero⟩ else ⟨-1,(gN (yy s lat) (n.ae.getD 0 iJ)).1⟩
def sY(s:aH)(lat:Nat)(k:Nd):cq:=⟨k.an,o_ s lat (k.ae.getD 0 iJ)⟩
def BV(s:aH):List aC->Int
 | []=>-1
 | w::_=>bW (jt s.vars w.an)
def acd:∀{l:List aC} (h:0<l.length),BV s (l.take (0+1))=bW (jt s.vars l[0].an)
 | [],h=>by simp at h
 | _::_,_=>rfl
def kf(s:aH)(lat:Nat)(n:Nd):fJ:=if n.kind=1 then ⟨[],bW (jt s.vars n.an)⟩ else ⟨n.ae.map (sY s lat),BV s n.ak⟩
def Sq(s:aH)(v:Option Nat):Int:=match v with | some k=>(match s.vars[k]? with | some x=>x.lat | none=>0) | none=>0
def jA(s:aH)(c:ar):dJ :=
 if c.op=8 then ⟨8,cD s c,(kR s (cD s c) c.left).getD [],o_ s (cD s c).toNat c.right,.zero,.zero,0,[]⟩
 else if c.op=9 then ⟨9,cD s c,[],.zero,kf s (cD s c).toNat c.left,kf s (cD s c).toNat c.right,0,[]⟩
 else ⟨10,Sq s (jt s.vars c.name.an),[],.zero,.zero,.zero,bW (jt s.vars c.name.an),(c.ak.getD 0 ⟨[],0⟩).an⟩
def gi(s:aH)(c:ar):Bool:=decide (8<=c.op)&&decide (c.op<=10)&&c.gj&&decide ((iE s c).cls=0)
structure rW(s:aH)(c:ar):Prop where
 op:8<=c.op/\c.op<=10
 q:c.gj=aa
 none:∀f∈r7 s c,f.cls=0
def Kl:gi s c=aa↔rW s c:=by
 simp only[gi,bO,cU];constructor
 .rintro⟨⟨⟨a,b⟩,d⟩,e⟩;exact⟨⟨a,b⟩,d,(P_ e).2⟩
 .rintro⟨⟨a,b⟩,d,e⟩;exact⟨⟨⟨a,b⟩,d⟩,by rw[iE,Yr e];rfl⟩
section
variable {s:aH} {c:ar} {lat:Int}
variable{t:List UInt8}
theorem avZ:∀f∈fY s lat t p k,f.cls≠0:=by
 intro f hf;unfold fY at hf
 grind
variable{w:aC}
theorem anr:∀f∈fB s w,f.cls≠0:=by
 intro f hf;unfold fB at hf
 grind
def Zg{l:List aM}(h:∀f∈l,f.cls≠0)(k:∀f∈l,f.cls=0):l=[]:=by
 cases l with
 | nil=>rfl
 | cons f l=>exact absurd (k f (by simp)) (h f (by simp))
theorem av0(h:fY s lat t p k=[]):∃v,∃hv:v<s.vars.length,jt s.vars t=U v/\s.vars[v].kind=k/\(0<=lat->s.vars[v].lat=lat):=by
 unfold fY at h;split at h
 .grind
 .rename_i v hv;have az:=Nn hv
  grind
theorem ant(h:fB s w=[]):∃k,fD s.bc w.an=U k/\k<s.bc.length:=by
 unfold fB at h;split at h
 .grind
 .rename_i hn;cases hL:fD s.bc w.an with
  | none=>rw[hL] at hn;simp at hn
  | some k=>exact⟨k,rfl,(AZ hL).1⟩
theorem rW.anv(h:rW s c)(h9:c.op=8\/c.op=9):∃k,fD s.bc c.name.an=U k/\k<s.bc.length:=by
 refine ant (Zg anr λf hf=>h.none f ?_);unfold r7
 grind
def rW.cD(h:rW s c)(h9:c.op=8\/c.op=9):∃k:Nat,cD s c=k/\k<s.bc.length:=by
 obtain⟨k,e,hk⟩:=h.anv h9;exact⟨k,by rw[Go.Am.cD,e];rfl,hk⟩
theorem Ru(h:c.gj=aa):c.nY=aa/\c.kW=aa/\c.lY=aa/\c.kh=true:=by
 simp only[ar.gj,bO] at h
 grind
def rW.labels(h:rW s c)(h8:c.op=8):c.left.ei=aa/\c.right.ei=true:=by
 have:=(Ru h.q).2.2.2
 rw[ar.kh,h8] at this;simpa [show eU 8 116=2 from by decide] using this
def rW.rows(h:rW s c)(h9:c.op=9):c.left.jl=aa/\c.right.jl=true:=by
 have:=(Ru h.q).2.2.2
 rw[ar.kh,h9] at this;simpa [show eU 9 116=0 from by decide,show eU 9 114=2 from by decide] using this
def rW.one(h:rW s c)(eK:c.op=10):∃w,c.ak=[w]/\dp w.an=true:=by
 have:=(Ru h.q).2.1
 rw[ar.kW,eK] at this;simp only[show eU 10 119=0 from by decide,show eU 10 102=1 from by decide,Nat.lt_irrefl,cz,Nat.zero_lt_one,db,bO,cU] at this
 match hq:c.ak,this.1 with
 | [w],_=>exact⟨w,rfl,by have:=this.2;rw[hq] at this;simpa [qc] using this⟩
theorem rW.var(h:rW s c)(eK:c.op=10):∃v,∃hv:v<s.vars.length,jt s.vars c.name.an=U v/\s.vars[v].kind=2:=by
 have:fY s (-1) c.name.an c.name.pos 2=[]:=Zg avZ λf hf=>h.none f (by unfold r7;rw[aL eK];exact hf)
 obtain⟨v,hv,h1,h2,_⟩:=av0 this
 grind
theorem rW.right(h:rW s c)(h8:c.op=8):c.right.kind=1\/c.right.kind=7:=by
 have hl:=(h.labels h8).2;rw[Nd.uI] at hl
 by_cases h1:c.right.kind=1
 .omega
 .by_cases h7:c.right.kind=7
  .omega
  .rw[aB h1,aB h7] at hl
   by_cases JA:c.right.kind=8\/c.right.kind=9
   .have:=h.none ⟨6,c.right.pos⟩ (by unfold r7;rw[aB (by omega),aB (by omega),aL h8];simp[r8,JA])
    grind
   .grind
end
def Nt(k:Nd):Prop:=0<k.ae.length/\∀a∈k.ae,a.kind=1\/0<a.ae.length
theorem Fq{n:Nd}(h:n.jl=aa):∀k∈n.ae,Nt k:=by
 rcases HV h with ⟨_,_,_,hf⟩ | ⟨h1,h⟩
 .intro k hk;obtain⟨_,_,_,a,ha,hq⟩:=Ji (hf k hk);refine⟨by rw[ha];simp,λb hb=>?_⟩;rw[ha] at hb;obtain rfl:=u7.1 hb;have hl:=IV hq;simp only[Nd.qA,bO,qx,cU] at hq
  rcases hq.1 with h | h
  .omega
  .exact .inr (by rw[Da hl h];omega)
 .rw[Nd.uI,aL h1] at h;intro k hk;simp only[Nd.lA,bO,cU] at h
  grind
theorem Lb{n:Nd}(h:n.jl=aa):n.ak.length<=1:=by
 rcases HV h with ⟨_,_,hn,_⟩ | ⟨h1,h⟩
 .grind
 .rw[Nd.uI,aL h1] at h;simp only[Nd.lA,bO,cU] at h;omega
def vW(r:Rl)(p:Int × Int):Rl:=if (0<=p.1/\p.1<(bm r:Nat))/\0<=p.2/\p.2<(bm r:Nat) then r.put p.1.toNat (la (r.get p.1.toNat) p.2) else r
def qS(n:Int)(l:List (Int × Int)):Rl:=l.foldl vW (Rl.of (min n.toNat 64:Nat) λ_=>0#64)
def Zr{n:Int}{l:List (Int × Int)}(hi:i<l.length):qS n (l.take (i+1))=vW (qS n (l.take i)) l[i]:=by rw[qS,qS,iB hi,B8];rfl
def cc(l:List aC):List (List UInt8):=l.map aC.an
def sQ{l:List aC}:(cc l).length=l.length:=by simp[cc]
def zV(l:List (List UInt8))(p:aC × aC):Int × Int:=(bW (dL l p.1.an),bW (dL l p.2.an))
def qV(c:ar):Rl:=kN (qS (c.ak.length:Nat) (c.aX.map (zV (cc c.ak))))
def Fj(l:List bA):bA:=⟨aa,l.flatMap bA.bI⟩
def pq(s:aH)(w:aC):List bA:=match fD s.bc w.an with | some k=>(match s.bc[k]? with | some x=>[x.shape] | none=>[]) | none=>[]
def n5(s:aH)(c:ar):bA:=Fj (c.ak.flatMap (pq s))
def aH.tF(s:aH):Prop:=s.ok/\∀l∈s.bc,l.shape.bI.length<=100
def gG(op:Int):Bool:=decide (1<=op)&&decide (op<=5)
def dw(op:Int):Bool:=decide (op=6)||decide (op=7)
def lR(s:aH)(t:List UInt8):Bool:=(fD s.bc t).isSome
def fZ(s:aH)(t:List UInt8):Bool:=(fD s.bc t).isSome||(jt s.vars t).isSome
def cY(b:Bool)(x y:Int):List aM:=if b then [⟨x,y⟩] else []
def sd(s:aH)(c:ar):List aM :=
 if gG c.op then cY (fZ s c.name.an) 3 c.name.pos
 else cY (!fZ s c.name.an) 3 c.name.pos++cY (fZ s c.name.an&&!lR s c.name.an) 4 c.name.pos
def sD(s:aH)(c:ar)(i:Nat):List aM :=
 let w:=c.ak.getD i ⟨[],0⟩
 if c.op=3 then cY (!fZ s w.an) 3 w.pos++cY (fZ s w.an&&!lR s w.an) 4 w.pos
 else cY ((dL ((cc c.ak).take i) w.an).isSome||(dw c.op&&fZ s w.an)) 3 w.pos
def lW(s:aH)(c:ar)(m:Nat):List aM:=(bH m).flatMap (sD s c)
def mL(c:ar)(w:aC):List aM:=cY (dL (cc c.ak) w.an).isNone 3 w.pos
def qf(c:ar)(p:aC × aC):List aM:=mL c p.1++mL c p.2
def qg(c:ar):List aM:=c.aX.flatMap (qf c)
def kY(c:ar):List aM:=if c.op=5/\c.ak.length<=64 then cY (!lU (qV c)) 5 c.qe else []
def mI(s:aH)(c:ar):List aM :=
 if c.op=6\/c.op=7 then cY (decide ((64:Int) - (s.vars.length:Nat)<(c.ak.length:Nat))) 7 c.pos
 else cY (decide ((if c.op=3 then(8:Int) else if c.op=4 then 8 else 64)<((if c.op=3 then(n5 s c).bI.length else c.ak.length):Nat))||decide (16<=s.bc.length)) 7 c.pos
def xe(s:aH)(c:ar):List aM:=sd s c++lW s c c.ak.length++qg c++kY c++mI s c
def iw(s:aH)(c:ar):aM:=if gG c.op||dw c.op then fH (xe s c) else .zero
section
variable {s:aH} {c:ar}
def ra{b:Bool}{x y:Int}:(cY b x y).length<=1:=by unfold cY;split<;>simp
theorem alI:(sd s c).length<=2:=by
 have h1:=@ra (fZ s c.name.an) 3 c.name.pos;have h2:=@ra (!fZ s c.name.an) 3 c.name.pos;have h3:=@ra (fZ s c.name.an&&!lR s c.name.an) 4 c.name.pos;unfold sd
 grind
def aps{i:Nat}:(sD s c i).length<=2:=by
 unfold sD;simp only;split
 .rw[bL];have h2:=@ra (!fZ s (c.ak.getD i ⟨[],0⟩).an) 3 (c.ak.getD i ⟨[],0⟩).pos;have h3:=@ra (fZ s (c.ak.getD i ⟨[],0⟩).an&&!lR s (c.ak.getD i ⟨[],0⟩).an) 4 (c.ak.getD i ⟨[],0⟩).pos;omega
 .exact yT ra (by omega)
def Zj{m:Nat}:lW s c (m+1)=lW s c m++sD s c m:=by rw[lW,il,rX];simp[lW]
def QF:∀{m:Nat},(lW s c m).length<=2*m
 | 0=>by simp[lW]
 | m + 1 => by
  have h1:=@QF m;have h2:=@aps s c m;rw[Zj,bL];omega
def arQ{p:aC × aC}:(qf c p).length<=2:=by
 unfold qf mL;rw[bL];have h1:=@ra (dL (cc c.ak) p.1.an).isNone 3 p.1.pos;have h2:=@ra (dL (cc c.ak) p.2.an).isNone 3 p.2.pos;omega
def K4{l:List (aC × aC)}:(l.flatMap (qf c)).length<=2*l.length:=by
 have:=xT (f:=qf c) (m:=2) (l:=l) λ_ _=>arQ
 omega
def Zz:(kY c).length<=1:=by
 unfold kY;split
 .exact ra
 .simp
def an1:(mI s c).length<=1:=by unfold mI;split<;>exact ra
end
structure Rm where
 bytes:Int
 fh:Int
 eg:Int
def Rm.enc(r:Rm):List V:=[.int .i64 r.bytes,.int .i64 r.fh,.int .i64 r.eg]
section
variable {r:Rm} {n:Nat} {a b c:V}
theorem Rm.dG:r.enc.length=3:=rfl
theorem Rm.iS:c8 r.enc=true:=rfl
theorem Rm.dT:bK r.enc=true:=rfl
theorem Rm.dW:a9 r.enc=r.enc:=rfl
theorem Rm.bR:bE n r.enc=true:=rfl
theorem Rm.gI:takeN 3 r.enc=U r.enc:=rfl
theorem Rm.jE:bP aa 3 r.enc=U (.agg r.enc):=rfl
theorem Rm.jc:cB 3 r.enc=true:=rfl
theorem Rm.iK:over [a,b,c] r.enc=r.enc:=rfl
theorem Rm.r_b:bP aq 1 r.enc=U (.int .i64 r.bytes):=rfl
theorem Rm.Rf:bP aq 1 (r.enc.drop 1)=U (.int .i64 r.fh):=rfl
theorem Rm.HR:bP aq 1 (r.enc.drop 2)=U (.int .i64 r.eg):=rfl
def Rm.al:=ag @Rm.dG <| ag @Rm.iS <| ag @Rm.dT <| ag @Rm.dW <| ag @Rm.bR <| ag @Rm.gI <| ag @Rm.jE <| ag @Rm.jc <| ag @Rm.iK <| ag @Rm.r_b <| ag @Rm.Rf @Rm.HR
end
def lE(op:Int):Bool:=decide (1<=op)&&decide (op<=10)
def vf(op:Int):Bool:=decide (8<=op)&&decide (op<=10)
def jw(r:Rm)(c:ar):Bool :=
 (lE c.op&&(decide (1024<((dq c).length:Int))||decide (IntKind.i64.wrap (16383 - (dq c).length)<r.bytes)))||(vf c.op&&decide (64<=r.fh))||(decide (c.op=11)&&decide (16<=r.eg))
def iQ(s:aH)(r:Rm)(c:ar):List aM:=[iw s c,iE s c]++cY (jw r c) 7 c.pos++cY (decide (c.op=12)&&decide (r.eg<=1)) 8 c.pos
def VZ(f:Int × Int):aM:=⟨f.1,f.2⟩
def lV(s:aH)(r:Rm)(t:List UInt8):ar × dJ × aM :=
 if (dC t).2.1≠0 then(.zero,.zero,VZ (dC t).2)
 else if (fH (iQ s r (dC t).1)).cls≠0 then(.zero,.zero,fH (iQ s r (dC t).1))
 else((dC t).1,if gi s (dC t).1 then jA s (dC t).1 else .zero,.zero)
def lS(D:Nat)(l:List aM)(s:aH)(c:ar):List V:=[.sl .no 3 (s.bc.map eh.enc),.sl .no 3 (s.vars.map dR.enc),
 .int .i64 c.op,.int .i64 c.pos,.aQ c.name.an,.int .i64 c.name.pos,.sl .no 2 (c.ak.map aC.enc),.sl .no 4 (c.aX.map eJ),.int .i64 c.qe,
 .int .i64 c.left.kind,.int .i64 c.left.pos,.aQ c.left.an,.sl .no 2 (c.left.ak.map aC.enc),.sl .no 5 (c.left.ae.map Nd.enc),.int .i64 c.right.kind,.int .i64 c.right.pos,.aQ c.right.an,.sl .no 2 (c.right.ak.map aC.enc),.sl .no 5 (c.right.ae.map Nd.enc),
 .sl (.tk D) 2 (l.map aM.enc)]
def fN(Z:ab)(b D:Nat)(l:List aM)(s:aH)(c:ar):ab:=(Z.set b (lS D l s c)).aU D l.length
section
variable {Z σ' : ab} {b b' D O n:Nat} {l:List aM} {s:aH} {c:ar} {x y:Int} {d:List V}
def PR:(fN Z b D l s c).box b=U (lS D l s c):=by simp[fN,ab.set,ab.aU]
def zM(h:b' ≠ b):(fN Z b D l s c).box b' = Z.box b' := by simp[fN,ab.set,ab.aU,h]
def X1:(fN Z b D l s c).aS D=U l.length:=by simp[fN,ab.set,ab.aU]
theorem X0(h:b' ≠ b):(fN Z b D l s c).set b' d=fN (Z.set b' d) b D l s c:=by
 simp only[fN,ab.set,ab.aU,ab.mk.injEq,ln]
 grind
theorem am7:((fN Z b D l s c).aU D (l.length+1)).set b ((lS D l s c).take 19++[.sl (.tk D) 2 (l.map aM.enc++[[.int .i64 x,.int .i64 y]])])=fN Z b D (l++[⟨x,y⟩]) s c:=by
 simp only[fN,lS,ab.set,ab.aU,ab.mk.injEq,gm,cQ,fp,aM.enc,bL,eZ,ln]
 simp_all
theorem am8(h:Z.box b=ah)(ht:Z.aS D=ah):Z.sub (fN Z b D l s c):=by
 refine⟨λx cs hx=>?_,λt m hm=>?_,λ_ _ h=>h⟩
 .have:x≠b:=by grind
  rw[zM this];exact hx
 .have:t≠D:=by grind
  simp[fN,ab.set,ab.aU,this];exact hm
theorem XZ(h:b' ≠ b)(hn:Z.box b' = ah):(fN Z b D l s c).sub (fN (Z.set b' d) b D l s c):=by
 refine⟨λx cs hx=>?_,λt m hm=>?_,λ_ _ h=>h⟩
 .by_cases h1:x=b
  .subst h1;rw[PR] at hx ⊢;exact hx
  .rw[zM h1] at hx ⊢
   have:x≠b' := by grind
   simp only[ab.set,this,cz];exact hx
 .simpa [fN,ab.set,ab.aU] using hm
theorem j_f:bP aq 1 ((lS D l s c).drop 19)=U (.sl (.tk D) 2 (l.map aM.enc)):=rfl
theorem j_s:takeN 2 (lS D l s c)=U s.enc:=rfl
theorem j_c:takeN 17 ((lS D l s c).drop 2)=U c.enc:=rfl
theorem j_l:bP aq 1 (lS D l s c)=U (.sl .no 3 (s.bc.map eh.enc)):=rfl
theorem j_v:bP aq 1 ((lS D l s c).drop 1)=U (.sl .no 3 (s.vars.map dR.enc)):=rfl
theorem j_o:bP aq 1 ((lS D l s c).drop 2)=U (.int .i64 c.op):=rfl
theorem j_p:bP aq 1 ((lS D l s c).drop 3)=U (.int .i64 c.pos):=rfl
theorem j_t:bP aq 1 ((lS D l s c).drop 4)=U (.aQ c.name.an):=rfl
theorem j_a:bP aq 1 ((lS D l s c).drop 5)=U (.int .i64 c.name.pos):=rfl
theorem j_n:bP aq 1 ((lS D l s c).drop 6)=U (.sl .no 2 (c.ak.map aC.enc)):=rfl
theorem j_r:bP aq 1 ((lS D l s c).drop 7)=U (.sl .no 4 (c.aX.map eJ)):=rfl
theorem j_q:bP aq 1 ((lS D l s c).drop 8)=U (.int .i64 c.qe):=rfl
theorem j_h:cB 1 ((lS D l s c).drop 19)=true:=rfl
theorem j_w{v:V}:setAt (lS D l s c) 19 [v]=(lS D l s c).take 19++[v]:=rfl
def j0(s:aH):List V:=[.sl .no 3 (s.bc.map eh.enc),.sl .no 3 (s.vars.map dR.enc),.int .i64 0,.int .i64 0,.aQ [],.int .i64 0,.sl .aY 2 [],.sl .aY 4 [],.int .i64 0,.int .i64 0,.int .i64 0,.aQ [],.sl .aY 2 [],.sl .aY 5 [],.int .i64 0,.int .i64 0,.aQ [],.sl .aY 2 [],.sl .aY 5 [],.sl .aY 2 []]
def jz(s:aH)(c:ar):List V:=(lS 0 [] s c).take 19++[.sl .aY 2 []]
theorem amS:over [.sl .aY 3 [],.sl .aY 3 [],.int .i64 0,.int .i64 0,.aQ [],.int .i64 0,.sl .aY 2 [],.sl .aY 4 [],.int .i64 0,.int .i64 0,.int .i64 0,.aQ [],.sl .aY 2 [],.sl .aY 5 [],.int .i64 0,.int .i64 0,.aQ [],.sl .aY 2 [],.sl .aY 5 [],.sl .aY 2 []] s.enc=j0 s:=rfl
theorem amR:cB 17 ((j0 s).drop 2)=true:=rfl
theorem amT:setAt (j0 s) 2 c.enc=jz s c:=by rfl
theorem am9:(jz s c).length=20:=rfl
theorem am':c8 (jz s c)=true:=rfl
theorem am_:bK (jz s c)=true:=rfl
theorem ana:takeN 20 (jz s c)=U (jz s c):=rfl
def X2:=ag @amS <| ag @amR <| ag @amT <| ag @am9 <| ag @am' <| ag @am_ @ana
def kx:=ag @PR <| ag @X1 <| ag @j_f <| ag @j_s <| ag @j_c <| ag @j_l <| ag @j_v <| ag @j_o <| ag @j_p <| ag @j_t <| ag @j_a <| ag @j_n <| ag @j_r <| ag @j_q <| ag @j_h @j_w
end
def ar0{r:Rl}{n:Nat}(h:bm r=min n 64):bm (r.yw n)=bm r:=by rw[h];simp[bm,Rl.yw]
def agc{r:Rl}{n:Nat}(h:bm r=min n 64):kN (r.yw n)=kN r:=by
 have e:=ar0 h;have e1:ud (r.yw n)=ud r:=by
  unfold ud;simp only[jm,e];rfl
 rw[kN,kN,e,e1]
def ry(c:ar)(i:Nat):Rl:=(qS (c.ak.length:Nat) ((c.aX.map (zV (cc c.ak))).take i)).yw (c.ak.length:Nat)
def avf{r:Rl}{p:Int × Int}:(vW r p).n=r.n:=by unfold vW;split<;>rfl
def QK{n:Nat}{l:List (Int × Int)}:bm (qS n l)=min n 64:=by
 have:∀(l:List (Int × Int)) (r:Rl),(l.foldl vW r).n=r.n:=λl=>by
  induction l with
  | nil=>intro r;rfl
  | cons p l ih=>intro r;rw[AA,ih,avf]
 rw[bm,qS,this];simp[Rl.of]
def akK:kN (ry c c.aX.length)=qV c:=by rw[ry,agc QK,yQ (by simp)];rfl
def Wg(hi:i<c.aX.length):ry c (i+1)=(vW (qS (c.ak.length:Nat) ((c.aX.map (zV (cc c.ak))).take i)) (zV (cc c.ak) c.aX[i])).yw (c.ak.length:Nat):=by rw[ry,Zr (by simpa using hi)];simp
def akL{c:ar}{i a b:Nat}(hi:i<c.aX.length)(h1:dL (cc c.ak) c.aX[i].1.an=U a)(h2:dL (cc c.ak) c.aX[i].2.an=U b)(ha:a<64)(hb:b<64)(hl:a<c.ak.length)(hm:b<c.ak.length) :
 ry c (i+1)=(ry c i).put a ((ry c i).get a|||lL b):=by
 have e:∀r:Rl,bm r=min c.ak.length 64->vW r (bW (U a),bW (U b))=r.put a (r.get a|||lL b):=λr hr=>by
  have hc:(0<=bW (U a)/\bW (U a)<(bm r:Nat))/\0<=bW (U b)/\bW (U b)<(bm r:Nat):=by simp only[bW];omega
  rw[vW,aL hc,la,aL (by simp only[bW];omega)];rfl
 rw[Wg hi,zV,h1,h2,e _ QK];rfl
theorem akM(hi:i<c.aX.length)(h:∀a b,dL (cc c.ak) c.aX[i].1.an=U a->dL (cc c.ak) c.aX[i].2.an=U b->¬(a<64/\b<64)):ry c (i+1)=ry c i:=by
 rw[Wg hi,zV,vW,QK,aB]
 .rfl
 .rintro⟨⟨h1,h2⟩,h3,h4⟩;cases ha:dL (cc c.ak) c.aX[i].1.an with
  | none=>rw[ha] at h1;simp[bW] at h1
  | some a =>
   cases hb:dL (cc c.ak) c.aX[i].2.an with
   | none=>rw[hb] at h3;simp[bW] at h3
   | some b =>
    rw[ha] at h2;rw[hb] at h4;simp only[bW] at h2 h4
    grind
def lB(s:aH)(c:ar):bA :=
 if c.op=1 then ⟨aq,[⟨1,cc c.ak,.zero⟩]⟩
 else if c.op=2 then ⟨aq,[⟨2,cc c.ak,.zero⟩]⟩
 else if c.op=4 then ⟨aq,[⟨3,cc c.ak,qV c⟩]⟩
 else if c.op=5 then ⟨aq,[⟨4,cc c.ak,qV c⟩]⟩
 else if c.op=3 then n5 s c
 else ⟨aq,[]⟩
def z_(s:aH)(c:ar)(i:Nat):List aM :=
 let w:=c.ak.getD i ⟨[],0⟩
 if c.op=3 then(if fZ s w.an=aq then [⟨3,w.pos⟩] else if lR s w.an=aq then [⟨4,w.pos⟩] else [])
 else if decide (bW (dL (cc c.ak) w.an)<(i:Nat))||(dw c.op&&fZ s w.an) then [⟨3,w.pos⟩] else []
def rN(s:aH)(c:ar)(m:Nat):List aM:=(bH m).flatMap (z_ s c)
def qW(s:aH)(c:ar):List aM :=
 if dw c.op≠fZ s c.name.an then [⟨3,c.name.pos⟩] else if dw c.op=aa/\lR s c.name.an=aq then [⟨4,c.name.pos⟩] else []
def rM(s:aH)(c:ar):Bool :=
 (!dw c.op&&(decide ((if c.op=3 then(8:Int) else if c.op=4 then 8 else 64)<((if c.op=3 then(n5 s c).bI.length else c.ak.length:Nat):Int))||decide ((16:Int)<=(s.bc.length:Nat)))) ||
 (dw c.op&&decide ((64:Int)<(s.vars.length:Int)+(c.ak.length:Nat)))
def HW(s:aH)(c:ar):List aM:=rN s c c.ak.length++qg c++qW s c++kY c++cY (rM s c) 7 c.pos
section
variable {s:aH} {c:ar}
theorem ata(hi:i<c.ak.length):z_ s c i=sD s c i:=by
 have hg:c.ak.getD i ⟨[],0⟩=c.ak[i]:=by grind
 rw[z_,sD];simp only[hg];split
 .cases fZ s c.ak[i].an<;>cases lR s c.ak[i].an<;>rfl
 .have e:decide (bW (dL (cc c.ak) c.ak[i].an)<(i:Nat))=(dL ((cc c.ak).take i) c.ak[i].an).isSome:=by
   have:=VP (l:=cc c.ak) (i:=i) (by rw[sQ];exact hi)
   rw[show(cc c.ak).getD i []=c.ak[i].an by simp[cc,List.getD,hi]] at this
   grind
  rw[e,cY]
theorem atc:rN s c c.ak.length=lW s c c.ak.length:=by
 rw[rN,lW]
 have:∀l:List Nat,(∀i∈l,i<c.ak.length)->l.flatMap (z_ s c)=l.flatMap (sD s c):=λl=>by
  induction l with
  | nil=>intro _;rfl
  | cons i l ih=>intro h;rw[o7,o7,ata (h i (by simp)),ih λj hj=>h j (by simp[hj])]
 grind
theorem as2(h:(gG c.op||dw c.op)=aa):qW s c=sd s c:=by
 rw[qW,sd];have h2:gG c.op = !dw c.op:=by
  simp only[gG,dw,qx,bO,cU] at h ⊢
  rcases h with h | h
  .rw[aG h.1,aG h.2,aD (by omega),aD (by omega)];rfl
  .grind
 rw[h2];cases dw c.op<;>cases fZ s c.name.an<;>cases lR s c.name.an<;>rfl
theorem as7(h:(gG c.op||dw c.op)=aa):cY (rM s c) 7 c.pos=mI s c:=by
 rw[mI,rM]
 by_cases hv:c.op=6\/c.op=7
 .have e:dw c.op=true:=by rcases hv with h | h<;>rw[h]<;>rfl
  grind
 .have e:dw c.op=false:=by simp only[dw,Aw,Gh];omega
  rw[aB hv,e];congr 1
  grind
theorem atC(h:(gG c.op||dw c.op)=aa):fH (HW s c)=iw s c:=by
 rw[iw,aL h,HW,xe,atc,as2 h,as7 h];refine Yq λf _=>?_
 grind
theorem atb{i:Nat}:(z_ s c i).length<=1:=by
 unfold z_
 grind
def aaH{m:Nat}:rN s c (m+1)=rN s c m++z_ s c m:=by rw[rN,il,rX];simp[rN]
def La:∀{m:Nat},(rN s c m).length<=m
 | 0=>by simp[rN]
 | m + 1 => by
  have h1:=@La m;have h2:=@atb s c m;rw[aaH,bL];omega
def qX(c:ar)(j k:Nat):List aM:=(c.aX.take j).flatMap (qf c)++match c.aX[j]? with | some p=>([p.1,p.2].take k).flatMap (mL c) | none=>[]
theorem atx{j k:Nat}:(qX c j k).length<=2*c.aX.length+2:=by
 have h1:=@K4 c (c.aX.take j);rw[o8] at h1;have h2:∀w,(mL c w).length<=1:=λw=>ra
 rw[qX,bL];cases c.aX[j]? with
 | none=>simp only[cZ];omega
 | some p =>
  have:(([p.1,p.2].take k).flatMap (mL c)).length<=2:=by
   match k with
   | 0=>simp
   | 1=>have:=h2 p.1;simp;omega
   | k+2=>have:=h2 p.1;have:=h2 p.2;simp;omega
  grind
def RD{j:Nat}:qX c j 0=(c.aX.take j).flatMap (qf c):=by rw[qX];cases c.aX[j]?<;>simp
def atz{j:Nat}(h:j<c.aX.length):qX c j 1=qX c j 0++mL c c.aX[j].1:=by simp[qX,h]
def atA{j:Nat}(h:j<c.aX.length):qX c j 2=qX c j 1++mL c c.aX[j].2:=by simp[qX,h]
def aty{j:Nat}(h:j<c.aX.length):qX c (j+1) 0=qX c j 2:=by rw[RD,iB h,rX];simp[qX,h,qf]
end
def aC.mp(Y:Int->Int)(w:aC):aC:=⟨w.an,Y w.pos⟩
mutual
def Nd.mp(Y:Int->Int):Nd->Nd
 | .mk k p t ws ks=>.mk k (Y p) t (ws.map (aC.mp Y)) (BC Y ks)
def BC(Y:Int->Int):List Nd->List Nd
 | []=>[]
 | n::ns=>n.mp Y::BC Y ns
end
def aM.mp(Y:Int->Int)(f:aM):aM:=if f.cls=0 then f else ⟨f.cls,Y f.au⟩
def ar.mp(Y:Int->Int)(c:ar):ar:=⟨c.op,Y c.pos,c.name.mp Y,c.ak.map (aC.mp Y),c.aX.map λp=>(p.1.mp Y,p.2.mp Y),Y c.qe,c.left.mp Y,c.right.mp Y⟩
section
variable {Y:Int->Int}
def Y5:∀{l:List Nd},BC Y l=l.map (Nd.mp Y)
 | []=>rfl
 | n::ns=>by rw[BC,Y5];rfl
def qb(n:Nd):(n.mp Y).kind=n.kind:=by cases n;rw[Nd.mp];rfl
def Dk(n:Nd):(n.mp Y).pos=Y n.pos:=by cases n;rw[Nd.mp];rfl
def qP(n:Nd):(n.mp Y).an=n.an:=by cases n;rw[Nd.mp];rfl
def wU(n:Nd):(n.mp Y).ak=n.ak.map (aC.mp Y):=by cases n;rw[Nd.mp];rfl
def mJ(n:Nd):(n.mp Y).ae=n.ae.map (Nd.mp Y):=by cases n;rw[Nd.mp,<-Y5];rfl
variable{w:aC}
theorem DK:(w.mp Y).an=w.an:=rfl
theorem DJ:(w.mp Y).pos=Y w.pos:=rfl
def Rw{l:List aC}:f_ (l.map (aC.mp Y))=f_ l:=by simp[f_,yL,aC.mp]
def Yn(n:Nd):(n.mp Y).lA=n.lA:=by simp[Nd.lA,qP,wU,mJ]
def Uk(n:Nd):(n.mp Y).kM=n.kM:=by simp[Nd.kM,qP,wU]
def atH(n:Nd):(n.mp Y).kZ=n.kZ:=by simp[Nd.kZ,qb,qP,wU,mJ,Rw]
def F_{f:Nd->Bool}:∀{l:List Nd},(∀n∈l,f (n.mp Y)=f n)->(l.map (Nd.mp Y)).all f=l.all f
 | [],_=>rfl
 | n::ns,h=>by rw[cQ,yO,yO,h n (by simp),F_ λm hm=>h m (by simp[hm])]
def Nd.ind{P:Nd->Prop}(h:∀n,(∀m∈n.ae,P m)->P n)(n:Nd):P n:=by
 obtain⟨k,hk⟩:∃k,n.cW<=k:=⟨_,bU _⟩;induction k generalizing n with
 | zero=>have:=Nd.sW n;omega
 | succ k ih=>exact h n λm hm=>ih m (by have:=me hm;omega)
def U1(n:Nd):(n.mp Y).gg=n.gg:=by
 induction n using Nd.ind with
 | h n ih=>simp only[Nd.AR,qb,qP,wU,mJ,Rw,Yn,Uk,aF,F_ ih,F_ λm _=>atH m]
def W8{f:Nd->Bool}(h:∀n,f (n.mp Y)=f n):∀{l:List Nd},se f (l.map (Nd.mp Y))=se f l
 | []=>rfl
 | n::_=>h n
def Kv(n:Nd):(n.mp Y).ei=n.ei:=by
 induction n using Nd.ind with
 | h n ih=>simp only[Nd.uI,qb,mJ,Yn,Uk,aF,F_ ih,W8 U1]
def aez(n:Nd):(n.mp Y).qA=n.qA:=by simp only[Nd.qA,qb,Kv]
def ajc(n:Nd):(n.mp Y).jr=n.jr:=by simp only[Nd.jr,qb,qP,wU,mJ,aF,W8 aez]
def ato(n:Nd):(n.mp Y).jl=n.jl:=by simp only[Nd.jl,qb,qP,wU,mJ,aF,Rw,F_ λm _=>ajc m,Kv]
def abt:∀{l m:List aC},eX (l.map (aC.mp Y)) m=eX l m
 | [],[]=>rfl
 | [],_::_=>rfl
 | _::_,[]=>rfl
 | w::ws,u::us=>by simp only[cQ,eX,abt];rfl
def auf(n:Nd):(n.mp Y).dm .zero=n.dm .zero:=by
 simp only[Nd.DB,qb,qP,wU,mJ,abt];congr 1;show dY (n.ae.map (Nd.mp Y)) []=dY n.ae [];cases n.ae<;>rfl
def SI{l:List aC}:cc (l.map (aC.mp Y))=cc l:=by simp[cc,yL,aC.mp]
def as4(c:ar):(c.mp Y).gj=c.gj:=by
 have e1:(c.mp Y).ak.map aC.an=c.ak.map aC.an:=by simp[ar.mp,yL,aC.mp]
 have e2:(c.mp Y).nY=c.nY:=rfl;have e3:(c.mp Y).kW=c.kW:=by simp only[ar.kW,e1];simp[ar.mp]
 have e4:(c.mp Y).lY=c.lY:=by simp only[ar.lY];simp[ar.mp,yL,aC.mp];rfl
 have e5:(c.mp Y).kh=c.kh:=by simp only[ar.kh];simp only[ar.mp,Kv,ato,auf]
 simp only[ar.gj,e2,e3,e4,e5];rfl
def Q5{l:List (List UInt8)}:∀{ws:List aC} {s:bz},gU l s (ws.map (aC.mp Y))=((gU l s ws).1,(gU l s ws).2.map Y)
 | [],_=>rfl
 | w :: ws, s => by
  simp only[cQ,gU,DK,DJ];cases dL l w.an with
  | none=>rfl
  | some k=>exact Q5
def aa6{f:bh}:∀{ks:List Nd} {s:bz},sK f s (ks.map (Nd.mp Y))=((sK f s ks).1,(sK f s ks).2.map Y)
 | [],_=>rfl
 | k :: ks, s => by
  simp only[cQ,sK,qP,Dk,wU,Q5];cases dL f.ak k.an with
  | none=>rfl
  | some o =>
   simp only;cases (gU f.ak 0#64 k.ak).2 with
   | some p=>rfl
   | none=>exact aa6
theorem axp{f:bh}(n:Nd):mU f (n.mp Y)=((mU f n).1,(mU f n).2.map Y):=by
 unfold mU;rw[qb,wU,mJ,Q5,aa6,px,px,qP,Dk]
 grind
variable{ks:List Nd}
theorem Cu(h:i<ks.length):(ks.map (Nd.mp Y)).getD i iJ=(ks.getD i iJ).mp Y:=by grind
def axq{s:bA}(h:i<ks.length):iL s (ks.map (Nd.mp Y)) i=((iL s ks i).1,(iL s ks i).2.map Y):=by rw[iL,iL,Cu h,axp]
theorem aih{s:bA}(h:s.bI.length<=ks.length):wy s (ks.map (Nd.mp Y))=((wy s ks).1,(wy s ks).2.map Y):=by
 have e:∀i,i<s.bI.length->iL s (ks.map (Nd.mp Y)) i=((iL s ks i).1,(iL s ks i).2.map Y):=λi hi=>axq (by omega)
 have e1:(bH s.bI.length).find? (λi=>(iL s (ks.map (Nd.mp Y)) i).2.isSome)=(bH s.bI.length).find? (λi=>(iL s ks i).2.isSome) :=
  find_congr λi hi=>by rw[e i (by simpa using hi)];simp
 unfold wy;rw[e1];cases hf:(bH s.bI.length).find? (λi=>(iL s ks i).2.isSome) with
 | some i =>
  grind
 | none =>
  grind
theorem M_{s:bA}(n:Nd):gN s (n.mp Y)=((gN s n).1,(gN s n).2.map Y):=by
 have e1:mN s (n.mp Y)=mN s n:=by simp only[mN,qb,mJ,aF]
 have e2:jb s (n.mp Y)=(jb s n).map (Nd.mp Y):=by unfold jb;split<;>simp[mJ]
 unfold gN;rw[e1,U1];split
 .rename_i h;rw[e2];refine aih ?_;simp only[bO] at h;obtain⟨⟨h1,h2⟩,_⟩:=h;unfold mN at h1;unfold jb;cases ht:s.tuple with
  | true=>rw[ht] at h1;simp only[Bool.not_true,yK,bO,cU] at h1;simp[h1.2]
  | false =>
   simp only[lC,ht,bO,qx,cU,dK,false_or] at h2
   grind
 .simp[Dk]
def aju{f:aM}:(f.mp Y).cls=f.cls:=by unfold aM.mp;split<;>rfl
def A1{x y:Int}(h:x≠0):(aM.mk x y).mp Y=⟨x,Y y⟩:=by rw[aM.mp,aB (by exact h)]
def yB{b:Bool}{x y:Int}(h:x≠0):cY b x (Y y)=(cY b x y).map (aM.mp Y):=by cases b<;>simp[cY,A1 h]
def Gm{G β:Type}{f:G->List aM}{g:β->List aM}{m:G->β}:∀{l:List G},(∀x∈l,g (m x)=(f x).map (aM.mp Y))->(l.map m).flatMap g=(l.flatMap f).map (aM.mp Y)
 | [],_=>rfl
 | x::l,h=>by rw[cQ,o7,o7,gm,h x (by simp),Gm λy hy=>h y (by simp[hy])]
def Nr{f g:Nat->List aM}:∀{l:List Nat},(∀x∈l,g x=(f x).map (aM.mp Y))->l.flatMap g=(l.flatMap f).map (aM.mp Y)
 | [],_=>rfl
 | x::l,h=>by rw[o7,o7,gm,h x (by simp),Nr λy hy=>h y (by simp[hy])]
variable {s:aH} {lat:Int}
variable{t:List UInt8}
def LG:fY s lat t (Y p) k=(fY s lat t p k).map (aM.mp Y):=by
 unfold fY;cases jt s.vars t with
 | none=>simp only;split<;>simp[A1]
 | some v =>
  simp only;cases s.vars[v]? with
  | none=>rfl
  | some x=>simp only;split<;>simp[A1]
def ans:fB s (w.mp Y)=(fB s w).map (aM.mp Y):=by
 unfold fB;rw[DK,DJ];split
 .split<;>simp[A1]
 .rfl
def aij{n:Nd}(h:0<n.ae.length):r_ s lat (n.mp Y)=(r_ s lat n).map Y:=by rw[r_,r_,mJ,Cu h,M_]
def T'(n:Nd):kK s lat (n.mp Y)=(kK s lat n).map (aM.mp Y):=by
 unfold kK;rw[qb,qP,Dk,LG];split
 .rfl
 .split
  .unfold zc;rw[mJ,aF];split
   .rename_i h;rw[aij h.1];cases r_ s lat n<;>simp[A1]
   .rfl
  .rfl
def anm(n:Nd):gF s lat (n.mp Y)=(gF s lat n).map (aM.mp Y):=by
 induction n using Nd.ind with
 | h n ih =>
  rw[Kt,Kt,qb,mJ,T',gm];congr 1;split
  .rfl
  .exact Gm ih
def avE:((ks.map (Nd.mp Y)).take i).map Nd.an=(ks.take i).map Nd.an:=by
 rw[<-Mc,FV];exact List.map_congr_left λn _=>qP n
theorem ati(n:Nd):pz s lat (Y p) (n.mp Y)=(pz s lat p n).map (aM.mp Y):=by
 unfold pz;rw[qb,qP,Dk,LG,mJ,wU,aF];split
 .rfl
 .split
  .rw[gm,gm];congr 1
   .congr 1
    .refine Nr λi hi=>?_
     have hi:i<n.ae.length:=by grind
     rw[Cs,Cs,gm,Cu hi];congr 1
     .rw[vj,vj,avE,Cu hi,qP,Dk];split<;>simp[A1]
     .rw[mJ];exact Gm λm _=>T' m
    .exact Gm λw _=>by rw[DK,DJ,LG]
   .split<;>simp[A1]
  .rfl
theorem agj:r7 s (c.mp Y)=(r7 s c).map (aM.mp Y):=by
 have e:cD s (c.mp Y)=cD s c:=rfl;unfold r7;rw[e];simp only[ar.mp,DK,DJ,LG,ans,anm,ati];have hd:r8 (c.right.mp Y)=(r8 c.right).map (aM.mp Y):=by unfold r8;rw[qb,Dk];split<;>simp[A1]
 grind
def asU:qV (c.mp Y)=qV c:=by
 rw[qV,qV]
 have:(c.mp Y).aX.map (zV (cc (c.mp Y).ak))=c.aX.map (zV (cc c.ak)):=by simp only[ar.mp,SI,FV];rfl
 rw[this];simp only[ar.mp,aF]
def arV:n5 s (c.mp Y)=n5 s c:=by
 rw[n5,n5];congr 1;simp only[ar.mp,List.flatMap_map];rfl
def auk:xe s (c.mp Y)=(xe s c).map (aM.mp Y):=by
 have h1:sd s (c.mp Y)=(sd s c).map (aM.mp Y):=by
  show(if gG c.op then cY (fZ s c.name.an) 3 (Y c.name.pos) else cY (!fZ s c.name.an) 3 (Y c.name.pos)++cY (fZ s c.name.an&&!lR s c.name.an) 4 (Y c.name.pos))=_;unfold sd
  by_cases h:gG c.op=aa
  .rw[aL h,aL h];exact yB (by decide)
  .rw[aB h,aB h,gm,yB (by decide),yB (by decide)]
 have h2:∀i,i<c.ak.length->sD s (c.mp Y) i=(sD s c i).map (aM.mp Y):=λi hi=>by
  have e:(c.mp Y).ak.getD i ⟨[],0⟩=(c.ak.getD i ⟨[],0⟩).mp Y:=by simp[ar.mp,List.getD,hi]
  have e1:cc (c.mp Y).ak=cc c.ak:=SI;have e2:(c.mp Y).op=c.op:=rfl;unfold sD;rw[e,e1,e2];simp only[DK,DJ];split
  .rw[gm,yB (by decide),yB (by decide)]
  .exact yB (by decide)
 have h3:qg (c.mp Y)=(qg c).map (aM.mp Y):=by
  have e1:cc (c.mp Y).ak=cc c.ak:=SI;refine Gm (l:=c.aX) (f:=qf c) (g:=qf (c.mp Y)) λp _=>?_
  rw[qf,qf,mL,mL,mL,mL,e1,gm,DK,DJ,DK,DJ,yB (by decide),yB (by decide)]
 have h4:kY (c.mp Y)=(kY c).map (aM.mp Y):=by
  unfold kY;rw[asU];simp only[ar.mp,aF];split
  .exact yB (by decide)
  .rfl
 have h5:mI s (c.mp Y)=(mI s c).map (aM.mp Y):=by
  unfold mI;rw[arV];simp only[ar.mp,aF];split<;>exact yB (by decide)
 have hn:(c.mp Y).ak.length=c.ak.length:=by simp[ar.mp]
 rw[xe,xe,h1,h3,h4,h5,hn,lW,lW,Nr (f:=sD s c) λi hi=>h2 i (by simpa using hi)];simp
def P9{l:List aM}:(fH l).cls=0↔∀f∈l,f.cls=0 :=
 ⟨λh=>(P_ h).2,λh=>by rw[Yr h];rfl⟩
def Yp{l:List aM}:(fH (l.map (aM.mp Y))).cls=0↔(fH l).cls=0:=by
 rw[P9,P9];simp[aju]
def T_{lat:Nat}{n:Nd}(h:n.kind=1\/0<n.ae.length):o_ s lat (n.mp Y)=o_ s lat n:=by
 unfold o_;rw[qb,qP,mJ];split
 .rfl
 .rename_i h1;rw[Cu (h.resolve_left h1),M_]
theorem anN{lat:Nat}{n:Nd}(h:n.kind=1\/0<n.ae.length):pr s lat (n.mp Y)=pr s lat n:=by
 unfold pr;rw[qb,qP,mJ];split
 .rfl
 .rename_i h1;rw[Cu (h.resolve_left h1),M_]
  grind
def UW{lat:Nat}:∀{l:List Nd},(∀m∈l,kQ s lat (m.mp Y)=kQ s lat m)->lq s lat (l.map (Nd.mp Y))=lq s lat l
 | [],_=>rfl
 | n::ns,h=>by rw[cQ,lq,lq,h n (by simp),UW λm hm=>h m (by simp[hm])]
def agu{lat:Nat}(n:Nd):n.ei=aa->kQ s lat (n.mp Y)=kQ s lat n:=by
 induction n using Nd.ind with
 | h n ih =>
  intro hq;rw[Ec,Ec,qb,mJ];have ho:qT (n.mp Y)=qT n:=by simp only[qT,qb,mJ,aF]
  rw[ho];split
  .rename_i h;rw[anN ?_]
   rcases h with h | h
   .omega
   .exact .inr (by rw[Da hq h];omega)
  .rename_i h;rw[UW λm hm=>ih m hm (PZ hq h m hm)]
theorem aa4{lat:Nat}{n:Nd}(h:∀k∈n.ae,0<k.ae.length/\∀a∈k.ae,a.kind=1\/0<a.ae.length):kf s lat (n.mp Y)=kf s lat n:=by
 unfold kf;rw[qb,qP,mJ,wU,FV];have e1:n.ae.map (sY s lat∘Nd.mp Y)=n.ae.map (sY s lat):=List.map_congr_left λk hk=>by
  obtain⟨h1,h2⟩:=h k hk;show sY s lat (k.mp Y)=_;rw[sY,sY,qP,mJ,Cu h1,T_]
  grind
 have e2:BV s (n.ak.map (aC.mp Y))=BV s n.ak:=by cases n.ak<;>rfl
 grind
end
def YD{r:Rm}(h:jw r c=aa):c.op≠12:=λe=>by
 simp[jw,lE,vf,e] at h
def Hp{s:aH}{r:Rm}{t:List UInt8}(h:(dC t).2.1≠0):lV s r t=(.zero,.zero,VZ (dC t).2):=by rw[lV,aL h]
def Hq{s:aH}{r:Rm}{t:List UInt8}(h:(dC t).2.1=0)(h' : (fH (iQ s r (dC t).1)).cls≠0):lV s r t=(.zero,.zero,fH (iQ s r (dC t).1)):=by rw[lV,aB (by simpa using h),aL h']
def EZ{s:aH}{r:Rm}{t:List UInt8}(h:(dC t).2.1=0)(h' : (fH (iQ s r (dC t).1)).cls=0):lV s r t=((dC t).1,if gi s (dC t).1 then jA s (dC t).1 else .zero,.zero):=by rw[lV,aB (by simpa using h),aB (by simpa using h')]
def o9{β:Type}(f:β->β->Bool):List β->List β->Bool
 | [],[]=>aa
 | x::xs,y::ys=>f x y&&o9 f xs ys
 | _,_=>aq
def Mt:∀a b:List Nd,o9 Nd.dm a b=dY a b
 | [],[]=>by simp[o9,dY]
 | [],_::_=>by simp[o9,dY]
 | _::_,[]=>by simp[o9,dY]
 | x::xs,y::ys=>by simp[o9,dY,Mt xs ys]
def rT(a b:aC):Bool:=decide (a.an=b.an)
def Ms:∀a b:List aC,o9 rT a b=eX a b
 | [],[]=>rfl
 | [],_::_=>rfl
 | _::_,[]=>rfl
 | x::xs,y::ys=>by simp[o9,eX,rT,Ms xs ys]
def at_(pre us:List aA)(fin:Int)(k:Nat):af:=⟨pre++us,((pre.length+k:Nat):Int),fin,ah⟩
variable{post pre:List aA}
def qY{t:aA}{fin:Int}:(at_ pre (t::post) fin 0).cH k=decide (t.tok.kind=k):=by simp[at_,af.cH,af.ok,bd]
def abE{fin:Int}:(at_ pre [] fin 0).cH k=false:=by simp[at_,af.cH,af.ok,bd]
def qo{t:aA}{fin:Int}(h:t.tok.kind=k):(at_ pre (t::post) fin 0).take k=(t,at_ (pre++[t]) post fin 0):=by
 have hs:=qY (pre:=pre) (post:=post) (t:=t) (fin:=fin) (k:=k);rw[aG h] at hs;rw[af.take,aL hs];simp[at_]
variable{β:Type}
def uW(one:Nat->af->β × af)(sm:β->β->Bool)(x:β)(sh:List Sh):Prop :=
 ∀toks:List Tok,toks.map Tok.sh=sh->∃us:List aA,us≠[]/\bM us=toks/\gC us /\
  ∀N,bj us<=N->∀(pre post:List aA) (fin:Int),∃y,one N (at_ pre (us++post) fin 0)=(y,at_ (pre++us) post fin 0)/\sm y x=aa
variable{t:List UInt8}{toks:List Tok}
theorem H2(h:toks.map Tok.sh=[ig t]):∃p,toks=[⟨97,t,p⟩]:=by
 match toks,h with
 | [⟨k, s, p⟩], h =>
  simp[Tok.sh,ig] at h
  simp_all
theorem xf{c:UInt8}(h:toks.map Tok.sh=[bZ c]):∃p,toks=[⟨(c.toNat:Nat),[c],p⟩]:=by
 match toks,h with
 | [⟨k, s, p⟩], h =>
  simp[Tok.sh,bZ] at h
  simp_all
def yi{t:Tok}(h1:closing t.kind=0)(h2:lM t.kind=aq):bM [.mk t [] t.pos]=[t]/\gC [.mk t [] t.pos]:=by
 refine⟨by simp[bM,aA.flat,h1],?_⟩;simp[gC,aA.WF,h2]
def Aq(w:aC):uW (λ_=>af.word) rT w [ig w.an]:=by
 intro toks h;obtain⟨p,rfl⟩:=H2 h;obtain⟨f1,f2⟩:=yi (t:=⟨97,w.an,p⟩) rfl rfl;refine⟨_,by simp,f1,f2,λN _ pre post fin=>⟨⟨w.an,p⟩,?_,by simp[rT]⟩⟩
 have:=qo (pre:=pre) (post:=post) (t:=.mk ⟨97,w.an,p⟩ [] p) (fin:=fin) (k:=97) rfl
 simp only[rf,af.word,this];rfl
def xd{m n:Nd}(k:m.kind=n.kind)(t:m.an=n.an)(w:eX m.ak n.ak=aa)(s:dY m.ae n.ae=aa):m.dm n=true:=by rw[Nd.DB,aG k,aG t,w,s];rfl
def P8{n:Nd}(hk:n.kind=k)(h:n.lA=aa):uW (λ_=>af.leaf k) Nd.dm n [ig n.an]:=by
 intro toks ht;obtain⟨us,h1,h2,h3,h4⟩:=Aq ⟨n.an,0⟩ toks ht;refine⟨us,h1,h2,h3,λN hN pre post fin=>?_⟩;obtain⟨y,e1,e2⟩:=h4 N hN pre post fin;refine⟨.mk k y.pos y.an [] [],by simp only[af.leaf,e1],?_⟩;simp only[Nd.lA,bO,cU] at h;have hn:n.ak=[]:=m0.1 (by omega);have fT:n.ae=[]:=m0.1 (by omega);simp only[rT,cU] at e2;exact xd hk.symm e2 (show eX [] n.ak=aa by rw[hn];rfl) (show dY [] n.ae=aa by rw[fT];simp[dY])
def IC(post:List aA):Prop:=∀t r,post=t::r->t.tok.kind≠44
def apx{fin:Int}(h:IC post):(at_ pre post fin 0).cH 44=false:=by
 cases post with
 | nil=>exact abE
 | cons t r=>rw[qY];exact aD (h t r rfl)
section
variable {β:Type} {one:Nat->af->β × af} {sm:β->β->Bool} {S:β->List Sh}
theorem Wj:∀(xs:List β),(∀x∈xs,uW one sm x (S x))->∀toks:List Tok,toks.map Tok.sh=(xs.map S).flatMap (λy=>bZ 44::y) ->
 ∃us:List aA,bM us=toks/\gC us/\xs.length<=us.length/\∀N,bj us<=N->∀(pre post:List aA) (fin:Int) (n:Nat) (acc:List β),xs.length<=n->IC post ->
  ∃ys,j9 (cV (one N)) n (at_ pre (us++post) fin 0,acc)=(at_ (pre++us) post fin 0,acc++ys)/\o9 sm ys xs=aa
 | [], _, toks, ht => by
  have:toks=[]:=by simp_all
  subst this;refine⟨[],rfl,trivial,by simp,λN _ pre post fin n acc _ hp=>⟨[],?_,rfl⟩⟩;cases n with
  | zero=>simp[j9]
  | succ n=>rw[j9];simp[apx hp]
 | x :: xs, h, toks, ht => by
  simp only[cQ,o7] at ht;obtain⟨t1,t3,rfl,h1,h3⟩:=kH.1 ht;obtain⟨tc,t2,rfl,hc,h2⟩:=kH.1 (show t1.map Tok.sh=[bZ 44]++S x from h1);obtain⟨p,rfl⟩:=xf hc;obtain⟨f1,f2⟩:=yi (t:=⟨((44:UInt8).toNat:Nat),[44],p⟩) rfl rfl;obtain⟨ux,n1,e1,w1,b1⟩:=h x (by simp) t2 h2;obtain⟨us,e2,w2,l2,b2⟩:=Wj xs (λy hy=>h y (by simp[hy])) t3 h3;generalize hT:(aA.mk ⟨((44:UInt8).toNat:Nat),[44],p⟩ [] p)=T at f1 f2;have hk:T.tok.kind=44:=by rw[<-hT];rfl
  refine⟨[T]++ux++us,?_,?_,?_,?_⟩
  .rw[jK,jK,e1,e2,<-f1,<-hT]
  .rw[lJ,lJ];exact⟨⟨by rw[<-hT] at f2 ⊢;exact f2,w1⟩,w2⟩
  .grind
  .intro N hN pre post fin n acc hn hp;simp only[vU] at hN;obtain⟨n,rfl⟩:∃m,n=m+1:=⟨n - 1,by simp at hn;omega⟩;obtain⟨y,q1,q2⟩:=b1 N (by omega) (pre++[T]) (us++post) fin;obtain⟨ys,q3,q4⟩:=b2 N (by omega) (pre++[T]++ux) post fin n (acc++[y]) (by simp at hn;omega) hp;refine⟨y::ys,?_,by simp[o9,q2,q4]⟩;have es:[T]++ux++us++post=T::(ux++(us++post)):=by simp
   rw[es,j9];simp only[qY,hk,bu,db];rw[qo hk];simp only[cV,q1]
   grind
theorem ab3{x:β}{xs:List β}(h:∀y∈x::xs,uW one sm y (S y))(ht:toks.map Tok.sh=fW ((x::xs).map S)):
 ∃us:List aA,us≠[]/\bM us=toks/\gC us/\∀N,bj us<=N->∀(pre post:List aA) (fin:Int),IC post ->
  ∃ys,fy (cV (one N)) (at_ pre (us++post) fin 0)=(at_ (pre++us) post fin 0,ys)/\o9 sm ys (x::xs)=true:=by
 simp only[cQ,fW] at ht;obtain⟨t1,t2,rfl,h1,h2⟩:=kH.1 ht;obtain⟨ux,n1,e1,w1,b1⟩:=h x (by simp) t1 h1;obtain⟨us,e2,w2,l2,b2⟩:=Wj xs (λy hy=>h y (by simp[hy])) t2 h2;refine⟨ux++us,by simp[n1],by rw[jK,e1,e2],by rw[lJ];exact⟨w1,w2⟩,λN hN pre post fin hp=>?_⟩;rw[vU] at hN;obtain⟨y,q1,q2⟩:=b1 N (by omega) pre (us++post) fin;obtain⟨ys,q3,q4⟩:=b2 N (by omega) (pre++ux) post fin (at_ pre (ux++us++post) fin 0).l.length [y] (by simp[at_];omega) hp;refine⟨y::ys,?_,by simp[o9,q2,q4]⟩;unfold fy;simp only[cV,eY] at q1 q3 ⊢
 grind
variable{b:UInt8}
theorem ayb{a:UInt8}(h:closing (a.toNat:Nat)=(b.toNat:Nat)):[UInt8.ofNat (closing (a.toNat:Nat)).toNat]=[b]:=by simp_all
variable{e:Bool}
theorem MH{a:UInt8}{xs:List β}(GG:closing (a.toNat:Nat)=(b.toNat:Nat))(JJ:(b.toNat:Int)≠0)(hca:lM (a.toNat:Nat)=aq)(h:∀y∈xs,uW one sm y (S y))(he:xs=[]->e=aa)
 (ht:toks.map Tok.sh=[bZ a]++fW (xs.map S)++[bZ b]) :
 ∃T:aA,bM [T]=toks/\gC [T]/\T.tok.kind=(a.toNat:Nat)/\∀N,bj [T]<=N+1->∀(pre post:List aA) (fin:Int),
  ∃ys p,(at_ pre (T::post) fin 0).bracket (cV (one N)) (a.toNat:Nat) e=((ys,p),at_ (pre++[T]) post fin 0)/\o9 sm ys xs=true:=by
 obtain⟨t1,t3,rfl,h1,h3⟩:=kH.1 ht;obtain⟨ta,t2,rfl,ha,h2⟩:=kH.1 h1;obtain⟨pa,rfl⟩:=xf ha;obtain⟨pb,rfl⟩:=xf h3;have hc0:closing (a.toNat:Nat)≠0:=by omega
 have key:∃us:List aA,bM us=t2/\gC us/\∀N,bj us<=N->∀(T:aA),T.ae=us->∃ys,af.inside (cV (one N)) e T=(at_ us [] T.fin 0,ys)/\o9 sm ys xs=true:=by
  cases xs with
  | nil =>
   have:t2=[]:=by simpa [fW] using h2
   subst this;refine⟨[],rfl,trivial,λN _ T hT=>⟨[],?_,rfl⟩⟩;rw[af.inside,aL ⟨he rfl,by rw[hT];rfl⟩];simp[aA.inner,at_,hT]
  | cons x xs =>
   obtain⟨us,n1,e1,w1,b1⟩:=ab3 h h2;refine⟨us,e1,w1,λN hN T hT=>?_⟩;obtain⟨ys,q1,q2⟩:=b1 N hN [] [] T.fin (λt r h=>by simp at h);refine⟨ys,?_,q2⟩;rw[af.inside,aB (λh=>n1 (by rw[<-hT];exact m0.1 h.2))]
   have:T.inner=at_ [] (us++[]) T.fin 0:=by simp[aA.inner,at_,hT]
   grind
 obtain⟨us,e1,w1,b1⟩:=key;refine⟨.mk ⟨(a.toNat:Nat),[a],pa⟩ us pb,?_,?_,rfl,?_⟩
 .simp only[bM,aA.flat,eC]
  simp_all
 .simp only[gC,aA.WF];exact⟨⟨hca,λh=>absurd h hc0,w1⟩,trivial⟩
 .intro N hN pre post fin;obtain⟨ys,q1,q2⟩:=b1 N (by simp only[bj,aA.many] at hN;omega) (.mk ⟨(a.toNat:Nat),[a],pa⟩ us pb) rfl;refine⟨ys,pa,?_,q2⟩;unfold af.bracket;rw[qo (t:=.mk ⟨(a.toNat:Nat),[a],pa⟩ us pb) (k:=(a.toNat:Nat)) rfl];simp only[q1];have cw:(at_ (pre++[aA.mk ⟨(a.toNat:Nat),[a],pa⟩ us pb]) post fin 0).ok=true:=rfl;rw[aL cw];have jh:(at_ us [] pb 0).close=at_ us [] pb 0:=by unfold af.close;rw[aB];simp[at_]
  simp only[af.under,aA.fin,jh,aA.tok];rfl
end
variable{us:List aA}
def alK{s:Sh}{r:List Sh}(h0:us≠[])(h:(bM us).map Tok.sh=s::r):∃t ts,us=t::ts/\t.tok.kind=s.1:=by
 cases us with
 | nil=>exact absurd rfl h0
 | cons t ts =>
  refine⟨t,ts,rfl,?_⟩;have e:bM (t::ts)=bM [t]++bM ts:=jK [t] ts;rw[e,Jj] at h;simp only[gY,cQ,mZ] at h;rw[<-h.1];rfl
def BL{fin:Int}{s:Sh}{r:List Sh}(h0:us≠[])(hf:bM us=toks)(h:toks.map Tok.sh=s::r):(at_ pre (us++post) fin 0).cH k=decide (s.1=k):=by
 obtain⟨t,ts,rfl,hk⟩:=alK h0 (by rw[hf];exact h);rw[gY,qY,hk]
def Dj(h:us≠[]):1<=bj us:=by
 cases us with
 | nil=>exact absurd rfl h
 | cons t ts=>simp only[bj];omega
def Fv{c:UInt8}(h:(decide (closing (c.toNat:Nat)=0)&&!lM (c.toNat:Nat))=aa)(ht:toks.map Tok.sh=[bZ c]):∃T:aA,bM [T]=toks/\gC [T]/\T.tok.kind=(c.toNat:Nat):=by
 simp only[bO,cU,v_] at h;obtain⟨p,rfl⟩:=xf ht;obtain⟨f1,f2⟩:=yi (t:=⟨(c.toNat:Nat),[c],p⟩) h.1 h.2;exact⟨_,f1,f2,rfl⟩
variable{ws:List aC}
def acJ(ht:toks.map Tok.sh=[bZ 123]++mV ws++[bZ 125]):
 ∃T:aA,bM [T]=toks/\gC [T]/\T.tok.kind=123/\∀(pre post:List aA) (fin:Int),∃ys p,(at_ pre (T::post) fin 0).words aa=((ys,p),at_ (pre++[T]) post fin 0)/\eX ys ws=true:=by
 obtain⟨T,h1,h2,h3,h4⟩:=MH (one:=λ_=>af.word) (sm:=rT) (S:=λw=>[ig w.an]) (a:=123) (b:=125) (e:=true) (xs:=ws) (by decide) (by decide) (by decide) (λw _=>Aq w) (λ_=>rfl) ht;refine⟨T,h1,h2,h3,λpre post fin=>?_⟩;obtain⟨ys,p,q1,q2⟩:=h4 (bj [T]) (by omega) pre post fin;rw[Ms] at q2;exact⟨ys,p,q1,q2⟩
variable{b:UInt8}{e:Bool}{ks:List Nd}
def KN{one:Nat->af->Nd × af}{a:UInt8}(GG:(decide (closing (a.toNat:Nat)=(b.toNat:Nat))&&decide ((b.toNat:Int)≠0)&&!lM (a.toNat:Nat))=aa)(h:∀y∈ks,uW one Nd.dm y y.jd)(he:ks=[]->e=aa)
 (ht:toks.map Tok.sh=[bZ a]++fW (je ks)++[bZ b]) :
 ∃T:aA,bM [T]=toks/\gC [T]/\T.tok.kind=(a.toNat:Nat)/\∀N,bj [T]<=N+1->∀(pre post:List aA) (fin:Int),
  ∃ys p,(at_ pre (T::post) fin 0).nodes (one N) (a.toNat:Nat) e=((ys,p),at_ (pre++[T]) post fin 0)/\dY ys ks=true:=by
 simp only[bO,cU,v_] at GG;rw[H4] at ht;obtain⟨T,h1,h2,h3,h4⟩:=MH (one:=one) (sm:=Nd.dm) (S:=Nd.jd) (e:=e) GG.1.1 GG.1.2 GG.2 h he ht;refine⟨T,h1,h2,h3,λN hN pre post fin=>?_⟩;obtain⟨ys,p,q1,q2⟩:=h4 N hN pre post fin;rw[Mt] at q2;exact⟨ys,p,q1,q2⟩
def atJ{n:Nd}(h:n.kZ=aa):uW (λ_=>af.rP) Nd.dm n n.jd:=by
 obtain⟨k,h1,h2,h3⟩:=aa9 h;intro toks ht;have e:n.jd=[ig n.an]++[bZ 58]++([bZ 123]++mV n.ak++[bZ 125]):=by rw[Nd.l_,k];rfl
 rw[e] at ht;obtain⟨t1,t3,rfl,a1,a3⟩:=kH.1 ht;obtain⟨tw,tc,rfl,aw,ac⟩:=kH.1 a1;obtain⟨uw,n1,f1,w1,b1⟩:=Aq ⟨n.an,0⟩ tw aw;obtain⟨C,f2,w2,c2⟩:=Fv (by decide) ac;obtain⟨T,f3,w3,c3,b3⟩:=acJ a3;refine⟨uw++[C]++[T],by simp,by rw[jK,jK,f1,f2,f3],by rw[lJ,lJ];exact⟨⟨w1,w2⟩,w3⟩,λN hN pre post fin=>?_⟩;obtain⟨y,q1,q2⟩:=b1 (bj uw) (bU _) pre ([C]++[T]++post) fin;obtain⟨ys,p,q3,q4⟩:=b3 (pre++uw++[C]) post fin;have q5:=qo (pre:=pre++uw) (post:=[T]++post) (t:=C) (fin:=fin) (k:=58) c2;refine⟨.mk 6 y.pos y.an ys [],?_,?_⟩
 .have es:uw++[C]++[T]++post=uw++([C]++[T]++post):=by simp
  have zY : (at_ pre (uw++([C]++[T]++post)) fin 0).word=(y,at_ (pre++uw) ([C]++[T]++post) fin 0):=q1;have Q9 : (at_ (pre++uw) ([C]++[T]++post) fin 0).take 58=(C,at_ (pre++uw++[C]) (T::post) fin 0):=q5;simp only[es,af.rP,zY,Q9,q3];simp
 .simp only[rT,cU] at q2;exact xd k.symm q2 q4 (show dY [] n.ae=aa by rw[h3];simp[dY])
def agy:∀(k:Nat) (n:Nd),n.wt<=k->n.gg=aa->uW af.constant Nd.dm n n.jd:=by
 intro k;induction k with
 | zero=>intro n h _;cases n;simp only[Nd.wt] at h;omega
 | succ k ih =>
  intro n hk h toks ht
  rcases U5 h with ⟨h1,h2⟩ | ⟨h1,h2,h3,h4⟩ | ⟨h1,h2,h3,h4,h5⟩ | ⟨h1,h2,h3,h4⟩
  .have e:n.jd=[ig n.an]:=by rw[Nd.l_,h1];rfl
   rw[e] at ht;obtain⟨us,n1,f1,w1,b1⟩:=P8 h1 h2 toks ht;refine⟨us,n1,f1,w1,λN hN pre post fin=>?_⟩;have hp:=Dj n1;obtain⟨N,rfl⟩:∃m,N=m+1:=⟨N - 1,by omega⟩;obtain⟨y,q1,q2⟩:=b1 _ hN pre post fin;refine⟨y,?_,q2⟩;have s1:=BL (pre:=pre) (post:=post) (fin:=fin) (k:=123) n1 f1 ht;have s2:=BL (pre:=pre) (post:=post) (fin:=fin) (k:=40) n1 f1 ht;have s3:=BL (pre:=pre) (post:=post) (fin:=fin) (k:=91) n1 f1 ht;rw[af.constant,s1,s2,s3];exact q1
  .have e:n.jd=[bZ 123]++mV n.ak++[bZ 125]:=by rw[Nd.l_,h1];rfl
   rw[e] at ht;obtain⟨T,f1,w1,c1,b1⟩:=acJ ht;refine⟨[T],by simp,f1,w1,λN hN pre post fin=>?_⟩;have hp:=Dj (us:=[T]) (by simp);obtain⟨N,rfl⟩:∃m,N=m+1:=⟨N - 1,by omega⟩;obtain⟨ys,p,q1,q2⟩:=b1 pre post fin;refine⟨.mk 3 p [] ys [],?_,xd h1.symm h2.symm q2 (show dY [] n.ae=aa by rw[h4];simp[dY])⟩;rw[rf,af.constant,aL (by rw[qY,c1];rfl),q1]
  .have e:n.jd=[bZ 40]++fW (je n.ae)++[bZ 41]:=by rw[Nd.l_,h1];rfl
   rw[e] at ht;obtain⟨T,f1,w1,c1,b1⟩:=KN (one:=af.constant) (e:=false) (by decide) (λm hm=>ih m (by have:=Ks hm;omega) (h5 m hm)) (λh=>absurd h h4) ht;refine⟨[T],by simp,f1,w1,λN hN pre post fin=>?_⟩;have hp:=Dj (us:=[T]) (by simp);obtain⟨N,rfl⟩:∃m,N=m+1:=⟨N - 1,by omega⟩;obtain⟨ys,p,q1,q2⟩:=b1 N hN pre post fin;refine⟨.mk 4 p [] [] ys,?_,xd h1.symm h2.symm (show eX [] n.ak=aa by rw[h3];rfl) q2⟩;have zY : (at_ pre (T::post) fin 0).nodes (af.constant N) 40 aq=((ys,p),at_ (pre++[T]) post fin 0):=q1;rw[rf,af.constant,aB (by rw[qY,c1];decide),aL (by rw[qY,c1];rfl),zY]
  .have e:n.jd=[bZ 91]++fW (je n.ae)++[bZ 93]:=by rw[Nd.l_,h1];rfl
   rw[e] at ht;obtain⟨T,f1,w1,c1,b1⟩:=KN (one:=λ_=>af.rP) (e:=true) (by decide) (λm hm=>atJ (h4 m hm)) (λ_=>rfl) ht;refine⟨[T],by simp,f1,w1,λN hN pre post fin=>?_⟩;have hp:=Dj (us:=[T]) (by simp);obtain⟨N,rfl⟩:∃m,N=m+1:=⟨N - 1,by omega⟩;obtain⟨ys,p,q1,q2⟩:=b1 N hN pre post fin;refine⟨.mk 5 p [] [] ys,?_,xd h1.symm h2.symm (show eX [] n.ak=aa by rw[h3];rfl) q2⟩;have zY : (at_ pre (T::post) fin 0).nodes af.rP 91 aa=((ys,p),at_ (pre++[T]) post fin 0):=q1;rw[rf,af.constant,aB (by rw[qY,c1];decide),aB (by rw[qY,c1];decide),aL (by rw[qY,c1];rfl),zY]
theorem Ua{n:Nd}(h:n.ei=aa)(hk:n.kind=1\/n.kind=7):uW af.atom Nd.dm n n.jd:=by
 intro toks ht
 rcases Hm h with ⟨h1,h2⟩ | ⟨h1,h2,h3,c,h4,h5⟩ | ⟨h1,_⟩
 .have e:n.jd=[ig n.an]:=by rw[Nd.l_,h1];rfl
  rw[e] at ht;obtain⟨us,n1,f1,w1,b1⟩:=P8 h1 h2 toks ht;refine⟨us,n1,f1,w1,λN hN pre post fin=>?_⟩;obtain⟨y,q1,q2⟩:=b1 _ hN pre post fin;refine⟨y,?_,q2⟩;have s1:=BL (pre:=pre) (post:=post) (fin:=fin) (k:=35) n1 f1 ht;rw[af.atom,s1];exact q1
 .have e:n.jd=[bZ 35]++c.jd:=by rw[Nd.l_,h1,h4];rfl
  rw[e] at ht;obtain⟨t1,t2,rfl,a1,a2⟩:=kH.1 ht;obtain⟨C,f2,w2,c2⟩:=Fv (by decide) a1;obtain⟨us,n1,f1,w1,b1⟩:=agy _ c (bU _) h5 t2 a2;refine⟨[C]++us,by simp,by rw[jK,f1,f2],by rw[lJ];exact⟨w2,w1⟩,λN hN pre post fin=>?_⟩;rw[vU] at hN;obtain⟨y,q1,q2⟩:=b1 N (by omega) (pre++[C]) post fin;have q5:=qo (pre:=pre) (post:=us++post) (t:=C) (fin:=fin) (k:=35) c2;refine⟨.mk 7 C.tok.pos [] [] [y],?_,xd h1.symm h2.symm (show eX [] n.ak=aa by rw[h3];rfl) (show dY [y] n.ae=aa by rw[h4];simp[dY,q2])⟩;rw[eY,rf,af.atom,aL (by rw[qY,c2];rfl),q5]
  grind
 .omega
theorem ann:∀(k:Nat) (n:Nd),n.wt<=k->n.ei=aa->uW af.label Nd.dm n n.jd:=by
 intro k;induction k with
 | zero=>intro n h _;cases n;simp only[Nd.wt] at h;omega
 | succ k ih =>
  intro n hk h toks ht
  by_cases dz:n.kind=1\/n.kind=7
  .obtain⟨us,n1,f1,w1,b1⟩:=Ua h dz toks ht;refine⟨us,n1,f1,w1,λN hN pre post fin=>?_⟩;have hp:=Dj n1;obtain⟨N,rfl⟩:∃m,N=m+1:=⟨N - 1,by omega⟩;obtain⟨y,q1,q2⟩:=b1 _ hN pre post fin;refine⟨y,?_,q2⟩;obtain⟨s,r,hs,qF,pT⟩:∃s r,toks.map Tok.sh=s::r/\s.1≠43/\s.1≠38:=by
    rw[ht,Nd.l_]
    rcases dz with e | e<;>rw[e]
    .exact⟨_,_,rfl,(by decide:(97:Int)≠43),(by decide:(97:Int)≠38)⟩
    .exact⟨_,_,rfl,(by decide:(35:Int)≠43),(by decide:(35:Int)≠38)⟩
   have s1:=BL (pre:=pre) (post:=post) (fin:=fin) (k:=43) n1 f1 hs;have s2:=BL (pre:=pre) (post:=post) (fin:=fin) (k:=38) n1 f1 hs;rw[aD qF] at s1;rw[aD pT] at s2;rw[af.label,s1,s2];exact q1
  .rcases Hm h with ⟨h1,_⟩ | ⟨h1,_⟩ | ⟨h1,h2,h3,h4,h5⟩
   .omega
   .omega
   have mD:=λm hm=>ih m (by have:=Ks hm;omega) (h5 m hm)
   rcases h1 with h1 | h1
   .have e:n.jd=[bZ 43]++([bZ 40]++fW (je n.ae)++[bZ 41]):=by rw[Nd.l_,h1];rfl
    rw[e] at ht;obtain⟨t1,t2,rfl,a1,a2⟩:=kH.1 ht;obtain⟨C,f2,w2,c2⟩:=Fv (by decide) a1;obtain⟨T,f1,w1,c1,b1⟩:=KN (one:=af.label) (e:=false) (by decide) mD (λh=>absurd h h4) a2;refine⟨[C]++[T],by simp,by rw[jK,f1,f2],by rw[lJ];exact⟨w2,w1⟩,λN hN pre post fin=>?_⟩;rw[vU] at hN;have hp:=Dj (us:=[C]) (by simp);obtain⟨N,rfl⟩:∃m,N=m+1:=⟨N - 1,by omega⟩;obtain⟨ys,p,q1,q2⟩:=b1 N (by omega) (pre++[C]) post fin;have q5:=qo (pre:=pre) (post:=T::post) (t:=C) (fin:=fin) (k:=43) c2;refine⟨.mk 8 C.tok.pos [] [] ys,?_,xd h1.symm h2.symm (show eX [] n.ak=aa by rw[h3];rfl) q2⟩;have zY : (at_ (pre++[C]) (T::post) fin 0).nodes (af.label N) 40 aq=((ys,p),at_ (pre++[C]++[T]) post fin 0):=q1;rw[eY,rf,rf,af.label,aL (by rw[qY,c2];rfl),q5]
    grind
   .have e:n.jd=[bZ 38]++([bZ 40]++fW (je n.ae)++[bZ 41]):=by rw[Nd.l_,h1];rfl
    rw[e] at ht;obtain⟨t1,t2,rfl,a1,a2⟩:=kH.1 ht;obtain⟨C,f2,w2,c2⟩:=Fv (by decide) a1;obtain⟨T,f1,w1,c1,b1⟩:=KN (one:=af.label) (e:=false) (by decide) mD (λh=>absurd h h4) a2;refine⟨[C]++[T],by simp,by rw[jK,f1,f2],by rw[lJ];exact⟨w2,w1⟩,λN hN pre post fin=>?_⟩;rw[vU] at hN;have hp:=Dj (us:=[C]) (by simp);obtain⟨N,rfl⟩:∃m,N=m+1:=⟨N - 1,by omega⟩;obtain⟨ys,p,q1,q2⟩:=b1 N (by omega) (pre++[C]) post fin;have q5:=qo (pre:=pre) (post:=T::post) (t:=C) (fin:=fin) (k:=38) c2;refine⟨.mk 9 C.tok.pos [] [] ys,?_,xd h1.symm h2.symm (show eX [] n.ak=aa by rw[h3];rfl) q2⟩;have zY : (at_ (pre++[C]) (T::post) fin 0).nodes (af.label N) 40 aq=((ys,p),at_ (pre++[C]++[T]) post fin 0):=q1;rw[eY,rf,rf,af.label,aB (by rw[qY,c2];decide),aL (by rw[qY,c2];rfl),q5]
    grind
def aje{n:Nd}(h:n.jr=aa):uW af.field Nd.dm n n.jd:=by
 obtain⟨k,h1,h2,c,h3,h4⟩:=Ji h;intro toks ht;have e:n.jd=[ig n.an]++[bZ 61]++c.jd:=by rw[Nd.l_,k,h3];rfl
 rw[e] at ht;obtain⟨t1,t3,rfl,a1,a3⟩:=kH.1 ht;obtain⟨tw,tc,rfl,aw,ac⟩:=kH.1 a1;obtain⟨uw,n1,f1,w1,b1⟩:=Aq ⟨n.an,0⟩ tw aw;obtain⟨C,f2,w2,c2⟩:=Fv (by decide) ac;have hc:c.kind=1\/c.kind=7:=by simp only[Nd.qA,bO,qx,cU] at h4;exact h4.1
 obtain⟨ua,n3,f3,w3,b3⟩:=Ua (IV h4) hc t3 a3;refine⟨uw++[C]++ua,by simp,by rw[jK,jK,f1,f2,f3],by rw[lJ,lJ];exact⟨⟨w1,w2⟩,w3⟩,λN hN pre post fin=>?_⟩;rw[vU] at hN;obtain⟨y,q1,q2⟩:=b1 (bj uw) (bU _) pre ([C]++ua++post) fin;obtain⟨z,q3,q4⟩:=b3 N (by omega) (pre++uw++[C]) post fin;have q5:=qo (pre:=pre++uw) (post:=ua++post) (t:=C) (fin:=fin) (k:=61) c2;refine⟨.mk 11 y.pos y.an [] [z],?_,?_⟩
 .have es:uw++[C]++ua++post=uw++([C]++ua++post):=by simp
  have zY : (at_ pre (uw++([C]++ua++post)) fin 0).word=(y,at_ (pre++uw) ([C]++ua++post) fin 0):=q1;have Q9 : (at_ (pre++uw) ([C]++ua++post) fin 0).take 61=(C,at_ (pre++uw++[C]) (ua++post) fin 0):=q5;simp only[es,af.field,zY,Q9,q3];simp
 .simp only[rT,cU] at q2;exact xd k.symm q2 (show eX [] n.ak=aa by rw[h2];rfl) (show dY [z] n.ae=aa by rw[h3];simp[dY,q4])
theorem Pg(T:aA):T.inner=at_ [] T.ae T.fin 0:=by rfl
def age{fin:Int}:(at_ us [] fin 0).close=at_ us [] fin 0:=by unfold af.close;rw[aB];simp[at_]
def ajg{n:Nd}(h:n.jr=aa):∃r,n.jd=ig n.an::r:=by
 obtain⟨k,_,_,c,h3,_⟩:=Ji h;exact⟨[bZ 61]++c.jd,by rw[Nd.l_,k,h3];rfl⟩
theorem atm{n:Nd}(hn:n.ak=[]\/∃w,n.ak=[w]/\dp w.an=aa)(hf:∀x∈n.ae,x.jr=aa)
 (ht:toks.map Tok.sh=fW (je n.ae)++(if 0<n.ak.length then [bZ 124]++mV n.ak else [])) :
 ∃us:List aA,bM us=toks/\gC us/\∀N,bj us<=N->∀T:aA,T.ae=us->∃ws ks,af.rowOf N T=((at_ us [] T.fin 0,ks),ws)/\eX ws n.ak=aa/\dY ks n.ae=true:=by
 obtain⟨t1,t2,rfl,a1,a2⟩:=kH.1 ht;have Za:(n.ak=[]/\t2=[])\/(∃w C uw,n.ak=[w]/\uw≠[]/\bM ([C]++uw)=t2/\gC ([C]++uw)/\C.tok.kind=124/\∀(pre post:List aA) (fin:Int),∃y,(at_ pre (uw++post) fin 0).word=(y,at_ (pre++uw) post fin 0)/\rT y w=aa):=by
  rcases hn with hn | ⟨w,hn,hw⟩
  .simp_all
  .right;have e:(if 0<n.ak.length then [bZ 124]++mV n.ak else [])=[bZ 124]++[ig w.an]:=by rw[hn];simp[mV,fW]
   rw[e] at a2;obtain⟨tc,tw,rfl,ac,aw⟩:=kH.1 a2;obtain⟨C,f2,w2,c2⟩:=Fv (by decide) ac;obtain⟨uw,n1,f1,w1,b1⟩:=Aq w tw aw;exact⟨w,C,uw,hn,n1,by rw[jK,f1,f2],by rw[lJ];exact⟨w2,w1⟩,c2,λpre post fin=>b1 _ (bU _) pre post fin⟩
 have tail:∀(pre:List aA) (oJ : List aA) (fin:Int) (ks:List Nd),(n.ak=[]/\oJ = []\/∃w C uw,n.ak=[w]/\oJ = [C]++uw/\C.tok.kind=124/\∀(pre post:List aA) (fin:Int),∃y,(at_ pre (uw++post) fin 0).word=(y,at_ (pre++uw) post fin 0)/\rT y w=aa) ->
  ∃ws,(if (at_ pre oJ fin 0).cH 124=aa then(((((at_ pre oJ fin 0).take 124).2.word.2,ks),[((at_ pre oJ fin 0).take 124).2.word.1]):(af × List Nd) × List aC) else((at_ pre oJ fin 0,ks),[]))=((at_ (pre++oJ) [] fin 0,ks),ws)/\eX ws n.ak=true:=by
  intro pre oJ fin ks h
  rcases h with ⟨h1,rfl⟩ | ⟨w,C,uw,h1,rfl,h3,h4⟩
  .rw[abE];exact⟨[],by simp,by rw[h1];rfl⟩
  .obtain⟨y,q1,q2⟩:=h4 (pre++[C]) [] fin;rw[eC] at q1;refine⟨[y],?_,by rw[h1];simpa [eX,rT] using q2⟩;rw[rf,qY,h3,aL (by decide),qo h3,q1];simp
 cases hk:n.ae with
 | nil =>
  rw[hk] at a1
  have:t1=[]:=by simpa [je,fW] using a1
  subst this
  rcases Za with ⟨h1,rfl⟩ | ⟨w,C,uw,h1,h0,h2,h3,h4,h5⟩
  .refine⟨[],rfl,trivial,λN _ T hT=>⟨[],[],?_,by rw[h1];rfl,by simp[dY]⟩⟩;rw[af.rowOf,aL (by rw[hT];rfl),Pg,hT]
  .refine⟨[C]++uw,by simpa using h2,h3,λN _ T hT=>?_⟩;obtain⟨ws,q1,q2⟩:=tail [] ([C]++uw) T.fin [] (.inr ⟨w,C,uw,h1,rfl,h4,h5⟩);refine⟨ws,[],?_,q2,by simp[dY]⟩;rw[af.rowOf,aB (by rw[hT];simp),Pg,hT,af.qj];have hs:(at_ [] ([C]++uw) T.fin 0).cH 124=true:=by rw[rf,qY,h4];rfl
   grind
 | cons x xs =>
  rw[hk,H4] at a1;obtain⟨us,n1,f1,w1,b1⟩:=ab3 (one:=af.field) (sm:=Nd.dm) (S:=Nd.jd) (x:=x) (xs:=xs) (λy hy=>aje (hf y (by rw[hk];exact hy))) a1;obtain⟨r,hr⟩:=ajg (hf x (by rw[hk];simp));have alT:t1.map Tok.sh=ig x.an::(r++(xs.map Nd.jd).flatMap λy=>bZ 44::y):=by rw[a1];simp[fW,hr]
  have go:∀(oJ : List aA),IC oJ -> (n.ak=[]/\oJ = []\/∃w C uw,n.ak=[w]/\oJ = [C]++uw/\C.tok.kind=124/\∀(pre post:List aA) (fin:Int),∃y,(at_ pre (uw++post) fin 0).word=(y,at_ (pre++uw) post fin 0)/\rT y w=aa) ->
   ∀N,bj (us++oJ)<=N->∀T:aA,T.ae=us++oJ -> ∃ws ks,af.rowOf N T=((at_ (us++oJ) [] T.fin 0,ks),ws)/\eX ws n.ak=aa/\dY ks (x::xs)=true:=by
   intro oJ uy hq N hN T hT;rw[vU] at hN;obtain⟨ks,q1,q2⟩:=b1 N (by omega) [] oJ T.fin uy;obtain⟨ws,q3,q4⟩:=tail us oJ T.fin ks hq;rw[Mt] at q2;refine⟨ws,ks,?_,q4,q2⟩;rw[af.rowOf,aB (by rw[hT];intro h;rw[bL] at h;exact n1 (m0.1 (by omega))),Pg,hT,af.qj];have hs:(at_ [] (us++oJ) T.fin 0).cH 124=false:=by rw[BL n1 f1 alT];rfl
   rw[gK] at q1;simp only[hs,dK,cz,q1];exact q3
  rcases Za with ⟨h1,rfl⟩ | ⟨w,C,uw,h1,h0,h2,h3,h4,h5⟩
  .refine⟨us++[],by simpa using f1,by simpa using w1,go [] (λt r h=>by simp at h) (.inl ⟨h1,rfl⟩)⟩
  .refine⟨us++([C]++uw),by rw[jK,f1,h2],by rw[lJ];exact⟨w1,h3⟩,go ([C]++uw) (λt r h=>?_) (.inr ⟨w,C,uw,h1,rfl,h4,h5⟩)⟩;simp only[rf,mZ] at h;rw[<-h.1,h4];decide
def atq{n:Nd}(h:n.jl=aa):uW af.row Nd.dm n n.jd:=by
 intro toks ht
 rcases HV h with ⟨k,h2,hn,hf⟩ | ⟨k,h⟩
 .have e:n.jd=[bZ 91]++(fW (je n.ae)++(if 0<n.ak.length then [bZ 124]++mV n.ak else []))++[bZ 93]:=by rw[Nd.l_,k];rfl
  rw[e] at ht;obtain⟨t1,t3,rfl,h1,h3⟩:=kH.1 ht;obtain⟨ta,t2,rfl,ha,eM⟩:=kH.1 h1;obtain⟨pa,rfl⟩:=xf ha;obtain⟨pb,rfl⟩:=xf h3;obtain⟨us,f1,w1,b1⟩:=atm hn hf eM;generalize hT:aA.mk ⟨((91:UInt8).toNat:Nat),[91],pa⟩ us pb=T;have WV:T.tok.kind=91:=by rw[<-hT];rfl
  have WW:T.ae=us:=by rw[<-hT];rfl
  have hTm:bj [T]=1+bj us:=by simp only[bj,Qu,WW];omega
  refine⟨[T],by simp,?_,?_,λN hN pre post fin=>?_⟩
  .rw[<-hT];have hc:closing ((91:UInt8).toNat:Nat)≠0:=by decide
   simp only[bM,aA.flat,eC];rw[aL hc,f1];rfl
  .rw[<-hT];simp only[gC,aA.WF];exact⟨⟨rfl,λh=>absurd h (by decide),w1⟩,trivial⟩
  .obtain⟨ws,ks,q1,q2,q3⟩:=b1 N (by omega) T WW;refine⟨.mk 10 T.tok.pos [] ws ks,?_,xd k.symm h2.symm q2 q3⟩;have q5:=qo (pre:=pre) (post:=post) (t:=T) (fin:=fin) (k:=91) WV;rw[rf,af.row,aL (by rw[qY,WV];rfl),q5];simp only[q1,af.under,age];rfl
 .have e:n.jd=[ig n.an]:=by rw[Nd.l_,k];rfl
  have hl:n.lA=true:=by
   rcases Hm h with ⟨_,h2⟩ | ⟨h1,_⟩ | ⟨h1,_⟩
   .exact h2
   .omega
   .omega
  rw[e] at ht;obtain⟨us,n1,f1,w1,b1⟩:=P8 k hl toks ht;refine⟨us,n1,f1,w1,λN hN pre post fin=>?_⟩;obtain⟨y,q1,q2⟩:=b1 _ hN pre post fin;refine⟨y,?_,q2⟩;have s1:=BL (pre:=pre) (post:=post) (fin:=fin) (k:=91) n1 f1 ht;rw[af.row,s1];exact q1
def zW(p:aC × aC):List Sh:=[ig p.1.an]++[bZ 60]++[ig p.2.an]
def Dt(k:UInt8)(c:ar)(n:Nd):List Sh :=
 if k=110 then [ig c.name.an]
 else if k=102 then mV c.ak
 else if k=119 then [bZ 123]++mV c.ak++[bZ 125]
 else if k=112 then [bZ 123]++fW (c.aX.map zW)++[bZ 125]
 else n.jd
def nV:List UInt8->List Nd->List (UInt8 × Nd)
 | [],_=>[]
 | k::ks,ts=>(k,ts.headD .zero)::nV ks (if isTerm k=aa then ts.tail else ts)
def ZY(c:ar):∀(ks:List UInt8) (x:List (List UInt8) × List Nd),(ks.foldl (Ab c) x).1=x.1++(nV ks x.2).map λq=>ke q.1 c q.2
 | [],x=>by simp[nV]
 | k :: ks, x => by
  rw[AA,ZY c ks];simp[Ab,nV]
def H3(c:ar):List Sh:=[ig (cm c.op).1]++((nV (cm c.op).2 [c.left,c.right]).map λq=>Dt q.1 c q.2).flatten
def Lp(c:ar):dq c=(cm c.op).1++((nV (cm c.op).2 [c.left,c.right]).map λq=>ke q.1 c q.2).flatMap λy=>[32]++y:=by rw[dq,jj,ZY];rfl
theorem Yz{s:List UInt8}{ks:List Sh}(h:o6 s ks):o6 ([32]++s) ks:=by
 intro n p acc hn
 rcases n with _ | n
 .grind
 obtain⟨toks,e1,e2⟩:=h n (p+1) acc (by simpa using hn);refine⟨toks,?_,e2⟩;rw[rf,fO,aB (λh=>by have:=h.1;revert this;decide),Ld (by decide),aB (by simp),aB (by decide),aL (.inl (by decide)),e1]
def Yx{β:Type}{T:β->List UInt8}{S:β->List Sh}:∀{l:List β},(∀x∈l,lG (T x) (S x))->Stop ((l.map T).flatMap λy=>[32]++y)/\o6 ((l.map T).flatMap λy=>[32]++y) ((l.map S).flatten)
 | [],_=>⟨trivial,lex_nil⟩
 | x :: xs, h => by
  obtain⟨h1,h2⟩:=Yx (l:=xs) λy hy=>h y (by simp[hy])
  simp only[cQ,o7,lj,eY];exact⟨show gh 32=aq by decide,Yz (h x (by simp) _ _ h1 h2)⟩
def anY{p:aC × aC}(h:kc p=aa):lG (ja p) (zW p):=by
 simp only[kc,bO] at h;exact(lG.sign (zO h.1) (by decide)).nn (zO h.2)
def anZ{ps:List (aC × aC)}(h:ps.all kc=aa):tX (y9 (ps.map ja)) ([bZ 123]++fW (ps.map zW)++[bZ 125]) :=
 lG.sign ((yl 123 (by decide)).nn (KF (T:=ja) (S:=zW) λp hp=>anY (ma.1 h p hp))) (by decide)
def apa(h:qc (ws.map aC.an)=aa):f_ ws=true:=by
 simp only[qc,S6] at h;exact h
def Cc(k:UInt8)(c:ar)(n:Nd):Prop :=
 (k=110/\dp c.name.an=aa)\/(k=102/\c.ak.length=1/\f_ c.ak=aa)\/(k=119/\0<c.ak.length/\f_ c.ak=aa)\/(k=112/\c.aX.all kc=aa)\/(k=116/\n.ei=aa)\/(k=114/\n.jl=aa)
def ZX{k:UInt8}{n:Nd}(h:Cc k c n):lG (ke k c n) (Dt k c n):=by
 rcases h with ⟨rfl,h⟩ | ⟨rfl,_,h⟩ | ⟨rfl,_,h⟩ | ⟨rfl,h⟩ | ⟨rfl,h⟩ | ⟨rfl,h⟩
 .exact zO h
 .exact Qg h
 .exact(Qf h).n
 .exact(anZ h).n
 .exact Qt _ n (bU _) h
 .exact aoO h
def aci(h0:dp (cm c.op).1=aa)(h:∀q∈nV (cm c.op).2 [c.left,c.right],Cc q.1 c q.2):(eH (dq c)).2=ah/\(eH (dq c)).1.map Tok.sh=H3 c:=by
 obtain⟨h1,h2⟩:=Yx (T:=λq:UInt8 × Nd=>ke q.1 c q.2) (S:=λq=>Dt q.1 c q.2) (l:=nV (cm c.op).2 [c.left,c.right]) λq hq=>ZX (h q hq)
 have:=zO h0 _ _ h1 h2
 rw[Lp];obtain⟨toks,e1,e2⟩:=this _ 0 [] (bU _);unfold eH;rw[e1];exact⟨rfl,by rw[H3];simpa using e2⟩
def HK(a b:aC × aC):Bool:=decide (a.1.an=b.1.an)&&decide (a.2.an=b.2.an)
def TM:∀a b:List (aC × aC),o9 HK a b=mS a b
 | [],[]=>rfl
 | [],_::_=>rfl
 | _::_,[]=>rfl
 | p::ps,q::qs=>by simp only[o9,mS,HK,TM ps qs]
def arh:∀(ps:List (aC × aC)) (p:aC × aC) (toks:List Tok),toks.map Tok.sh=fW ((p::ps).map zW) ->
 ∃us:List aA,us≠[]/\bM us=toks/\gC us/\∀(n:Nat) (pre:List aA) (fin:Int) (acc:List (aC × aC)),us.length<=n ->
  ∃ys r,af.iR n (at_ pre us fin 0) acc=(r,acc++ys)/\r.aO=ah/\o9 HK ys (p::ps)=true:=by
 intro ps;induction ps with
 | nil =>
  intro p toks ht;have ht:toks.map Tok.sh=[ig p.1.an]++[bZ 60]++[ig p.2.an]:=by simpa [fW,zW] using ht
  obtain⟨t12,t3,rfl,ia,h3⟩:=kH.1 ht;obtain⟨t1,t2,rfl,h1,h2⟩:=kH.1 ia;obtain⟨p1,rfl⟩:=H2 h1;obtain⟨p2,rfl⟩:=xf h2;obtain⟨p3,rfl⟩:=H2 h3;obtain⟨f1,w1⟩:=yi (t:=⟨97,p.1.an,p1⟩) rfl rfl;obtain⟨f2,w2⟩:=yi (t:=⟨((60:UInt8).toNat:Nat),[60],p2⟩) rfl rfl;obtain⟨f3,w3⟩:=yi (t:=⟨97,p.2.an,p3⟩) rfl rfl;refine⟨[.mk ⟨97,p.1.an,p1⟩ [] p1]++[.mk ⟨((60:UInt8).toNat:Nat),[60],p2⟩ [] p2]++[.mk ⟨97,p.2.an,p3⟩ [] p3],by simp,by rw[jK,jK,f1,f2,f3],by rw[lJ,lJ];exact⟨⟨w1,w2⟩,w3⟩,λn pre fin acc hn=>?_⟩;obtain⟨m,rfl⟩:∃m,n=m+1:=⟨n - 1,by simp at hn;omega⟩;generalize GB:(aA.mk ⟨97,p.1.an,p1⟩ [] p1)=T1;generalize GC:(aA.mk ⟨((60:UInt8).toNat:Nat),[60],p2⟩ [] p2)=T2;generalize GD:(aA.mk ⟨97,p.2.an,p3⟩ [] p3)=T3;have e1:(at_ pre (T1::[T2,T3]) fin 0).take 97=(T1,at_ (pre++[T1]) [T2,T3] fin 0):=qo (by rw[<-GB];rfl);have e2:(at_ (pre++[T1]) [T2,T3] fin 0).take 60=(T2,at_ (pre++[T1]++[T2]) [T3] fin 0):=qo (by rw[<-GC];rfl);have e3:(at_ (pre++[T1]++[T2]) [T3] fin 0).take 97=(T3,at_ (pre++[T1]++[T2]++[T3]) [] fin 0):=qo (by rw[<-GD];rfl);refine⟨[(⟨T1.tok.an,T1.tok.pos⟩,⟨T3.tok.an,T3.tok.pos⟩)],at_ (pre++[T1]++[T2]++[T3]) [] fin 0,?_,rfl,?_⟩
  .simp only[af.iR,gY,gK];have Sy:(at_ pre (T1::[T2,T3]) fin 0).word=(⟨T1.tok.an,T1.tok.pos⟩,at_ (pre++[T1]) [T2,T3] fin 0):=by rw[af.word,e1]
   have Sz:(at_ (pre++[T1]++[T2]) [T3] fin 0).word=(⟨T3.tok.an,T3.tok.pos⟩,at_ (pre++[T1]++[T2]++[T3]) [] fin 0):=by rw[af.word,e3]
   rw[aB (by simp[at_])];simp only[Sy,e2,Sz];rw[aL (by simp[at_])]
  .rw[<-GB,<-GD];simp[o9,HK,aA.tok]
 | cons q ps ih =>
  intro p toks ht;have ht:toks.map Tok.sh=[ig p.1.an]++[bZ 60]++[ig p.2.an]++[bZ 44]++fW ((q::ps).map zW):=by simpa [fW,zW] using ht
  obtain⟨ayd,t5,rfl,alh,h5⟩:=kH.1 ht;obtain⟨t123,t4,rfl,zj,h4⟩:=kH.1 alh;obtain⟨t12,t3,rfl,ia,h3⟩:=kH.1 zj;obtain⟨t1,t2,rfl,h1,h2⟩:=kH.1 ia;obtain⟨p1,rfl⟩:=H2 h1;obtain⟨p2,rfl⟩:=xf h2;obtain⟨p3,rfl⟩:=H2 h3;obtain⟨p4,rfl⟩:=xf h4;obtain⟨us,n0,f5,w5,b5⟩:=ih q t5 h5;obtain⟨f1,w1⟩:=yi (t:=⟨97,p.1.an,p1⟩) rfl rfl;obtain⟨f2,w2⟩:=yi (t:=⟨((60:UInt8).toNat:Nat),[60],p2⟩) rfl rfl;obtain⟨f3,w3⟩:=yi (t:=⟨97,p.2.an,p3⟩) rfl rfl;obtain⟨f4,w4⟩:=yi (t:=⟨((44:UInt8).toNat:Nat),[44],p4⟩) rfl rfl;refine⟨[.mk ⟨97,p.1.an,p1⟩ [] p1]++[.mk ⟨((60:UInt8).toNat:Nat),[60],p2⟩ [] p2]++[.mk ⟨97,p.2.an,p3⟩ [] p3]++[.mk ⟨((44:UInt8).toNat:Nat),[44],p4⟩ [] p4]++us,by simp,by rw[jK,jK,jK,jK,f1,f2,f3,f4,f5],by rw[lJ,lJ,lJ,lJ];exact⟨⟨⟨⟨w1,w2⟩,w3⟩,w4⟩,w5⟩,λn pre fin acc hn=>?_⟩;obtain⟨m,rfl⟩:∃m,n=m+1:=⟨n - 1,by simp at hn;omega⟩;generalize GB:(aA.mk ⟨97,p.1.an,p1⟩ [] p1)=T1;generalize GC:(aA.mk ⟨((60:UInt8).toNat:Nat),[60],p2⟩ [] p2)=T2;generalize GD:(aA.mk ⟨97,p.2.an,p3⟩ [] p3)=T3;generalize hT4:(aA.mk ⟨((44:UInt8).toNat:Nat),[44],p4⟩ [] p4)=T4;have e1:(at_ pre (T1::(T2::T3::T4::us)) fin 0).take 97=(T1,at_ (pre++[T1]) (T2::T3::T4::us) fin 0):=qo (by rw[<-GB];rfl);have e2:(at_ (pre++[T1]) (T2::T3::T4::us) fin 0).take 60=(T2,at_ (pre++[T1]++[T2]) (T3::T4::us) fin 0):=qo (by rw[<-GC];rfl);have e3:(at_ (pre++[T1]++[T2]) (T3::T4::us) fin 0).take 97=(T3,at_ (pre++[T1]++[T2]++[T3]) (T4::us) fin 0):=qo (by rw[<-GD];rfl);have e4:(at_ (pre++[T1]++[T2]++[T3]) (T4::us) fin 0).take 44=(T4,at_ (pre++[T1]++[T2]++[T3]++[T4]) us fin 0):=qo (by rw[<-hT4];rfl);obtain⟨ys,r,g1,g2,g3⟩:=b5 m (pre++[T1]++[T2]++[T3]++[T4]) fin (acc++[(⟨T1.tok.an,T1.tok.pos⟩,⟨T3.tok.an,T3.tok.pos⟩)]) (by simp at hn;omega);refine⟨(⟨T1.tok.an,T1.tok.pos⟩,⟨T3.tok.an,T3.tok.pos⟩)::ys,r,?_,g2,?_⟩
  .simp only[af.iR,gY,gK];have Sy:(at_ pre (T1::(T2::T3::T4::us)) fin 0).word=(⟨T1.tok.an,T1.tok.pos⟩,at_ (pre++[T1]) (T2::T3::T4::us) fin 0):=by rw[af.word,e1]
   have Sz:(at_ (pre++[T1]++[T2]) (T3::T4::us) fin 0).word=(⟨T3.tok.an,T3.tok.pos⟩,at_ (pre++[T1]++[T2]++[T3]) (T4::us) fin 0):=by rw[af.word,e3]
   rw[aB (by simp[at_])];simp only[Sy,e2,Sz,e4,g1];rw[aB (by simp[at_];omega)];simp
  .rw[<-GB,<-GD];simp only[o9,HK,g3,aA.tok];simp
def Ir(k:UInt8)(c:ar)(n:Nd)(c0 c1:ar):Prop :=
 (k=110/\∃w:aC,w.an=c.name.an/\c1={c0 with name:=w}) \/
 ((k=102\/k=119)/\∃ws,eX ws c.ak=aa/\c1={c0 with ak:=ws}) \/
 (k=112/\∃ps a,mS ps c.aX=aa/\c1={c0 with aX:=ps,qe:=a}) \/
 ((k=116\/k=114)/\∃m:Nd,m.dm n=aa/\c1=if c0.left.kind=0 then {c0 with left:=m} else {c0 with right:=m})
def adx(k:UInt8)(c:ar)(n:Nd)(toks:List Tok):Prop :=
 ∃us:List aA,us≠[]/\bM us=toks/\gC us/\∀(pre post:List aA) (fin:Int) (c0:ar),(k=112->c0.aX=[])->∃c1,e_ k (at_ pre (us++post) fin 0,c0)=(at_ (pre++us) post fin 0,c1)/\Ir k c n c0 c1
theorem My{fin:Int}:(⟨(at_ pre us fin 0).l,(at_ pre us fin 0).at_,(at_ pre us fin 0).fin,ah⟩:af)=at_ pre us fin 0:=rfl
def aeu{T:aA}{fin:Int}:({at_ pre (T::us) fin 0 with at_:=(at_ pre (T::us) fin 0).at_+1}:af)=at_ (pre++[T]) us fin 0:=by simp[at_]
def arn{k:UInt8}{n:Nd}(h:Cc k c n)(ht:toks.map Tok.sh=Dt k c n):adx k c n toks:=by
 rcases h with ⟨rfl,h⟩ | ⟨rfl,h1,h⟩ | ⟨rfl,h1,h⟩ | ⟨rfl,h⟩ | ⟨rfl,h⟩ | ⟨rfl,h⟩
 .obtain⟨us,n1,f1,w1,b1⟩:=Aq c.name toks ht;refine⟨us,n1,f1,w1,λpre post fin c0 _=>?_⟩;obtain⟨y,q1,q2⟩:=b1 (bj us) (bU _) pre post fin;refine⟨{c0 with name:=y},?_,.inl ⟨rfl,y,by simpa [rT] using q2,rfl⟩⟩;have q1:(at_ pre (us++post) fin 0).word=(y,at_ (pre++us) post fin 0):=q1;have hb:(at_ pre (us++post) fin 0).aO=none:=rfl;simp[e_,hb,q1]
 .obtain⟨w,hw⟩:∃w,c.ak=[w]:=by
   match hc:c.ak,h1 with
   | [w],_=>exact⟨w,rfl⟩
  have ht:toks.map Tok.sh=[ig w.an]:=by rw[ht];simp[Dt,mV,hw,fW]
  obtain⟨us,n1,f1,w1,b1⟩:=Aq w toks ht;refine⟨us,n1,f1,w1,λpre post fin c0 _=>?_⟩;obtain⟨y,q1,q2⟩:=b1 (bj us) (bU _) pre post fin;refine⟨{c0 with ak:=[y]},?_,.inr (.inl ⟨.inl rfl,[y],?_,rfl⟩)⟩
  .have q1:(at_ pre (us++post) fin 0).word=(y,at_ (pre++us) post fin 0):=q1;have hb:(at_ pre (us++post) fin 0).aO=none:=rfl;simp[e_,hb,q1]
  .rw[hw];simpa [eX,rT] using q2
 .obtain⟨T,f1,w1,k1,b1⟩:=MH (one:=λ_=>af.word) (sm:=rT) (S:=λw=>[ig w.an]) (a:=123) (b:=125) (e:=false) (xs:=c.ak) (by decide) (by decide) (by decide) (λw _=>Aq w) (λe=>by rw[e] at h1;simp at h1) (toks:=toks) ht;refine⟨[T],by simp,f1,w1,λpre post fin c0 _=>?_⟩;obtain⟨ys,p,q1,q2⟩:=b1 (bj [T]) (by omega) pre post fin;rw[Ms] at q2;have q1:(at_ pre (T::post) fin 0).words aq=((ys,p),at_ (pre++[T]) post fin 0):=q1;refine⟨{c0 with ak:=ys},?_,.inr (.inl ⟨.inr rfl,ys,q2,rfl⟩)⟩;have hb:(at_ pre (T::post) fin 0).aO=none:=rfl;have hw:kE (at_ pre (T::post) fin 0).l (at_ pre (T::post) fin 0).at_ (at_ pre (T::post) fin 0).fin=(ys,ah):=by
   unfold kE;rw[My,q1];rfl
  have uf:e_ 119 (at_ pre ([T]++post) fin 0,c0)=({at_ pre (T::post) fin 0 with aO:=(kE (at_ pre (T::post) fin 0).l (at_ pre (T::post) fin 0).at_ (at_ pre (T::post) fin 0).fin).2,at_:=(at_ pre (T::post) fin 0).at_+1},{c0 with ak:=(kE (at_ pre (T::post) fin 0).l (at_ pre (T::post) fin 0).at_ (at_ pre (T::post) fin 0).fin).1}):=rfl;rw[uf,hw,<-aeu];rfl
 .have ht:toks.map Tok.sh=[bZ 123]++fW (c.aX.map zW)++[bZ 125]:=ht;obtain⟨t1,t3,rfl,h1,h3⟩:=kH.1 ht;obtain⟨ta,t2,rfl,ha,h2⟩:=kH.1 h1;obtain⟨pa,rfl⟩:=xf ha;obtain⟨pb,rfl⟩:=xf h3;have key:∃us:List aA,bM us=t2/\gC us/\((us=[]/\c.aX=[])\/us≠[]/\∀fin,∃ys r,af.iR (us.length+1) (at_ [] us fin 0) []=(r,ys)/\r.aO=ah/\mS ys c.aX=aa):=by
   cases hc:c.aX with
   | nil =>
    rw[hc] at h2
    have:t2=[]:=by simpa [fW] using h2
    exact⟨[],by rw[this];rfl,trivial,.inl ⟨rfl,rfl⟩⟩
   | cons p ps =>
    rw[hc] at h2;obtain⟨us,n1,f1,w1,b1⟩:=arh ps p t2 h2;refine⟨us,f1,w1,.inr ⟨n1,λfin=>?_⟩⟩;obtain⟨ys,r,q1,q2,q3⟩:=b1 (us.length+1) [] fin [] (by omega);exact⟨ys,r,by rw[q1];rfl,q2,by rw[<-TM];exact q3⟩
  obtain⟨us,f1,w1,hk⟩:=key;refine⟨[.mk ⟨((123:UInt8).toNat:Nat),[123],pa⟩ us pb],by simp,?_,?_,λpre post fin c0 hp=>?_⟩
  .simp only[bM,aA.flat,eC];rw[aL (by decide),f1];rfl
  .simp only[gC,aA.WF];exact⟨⟨by decide,λh=>absurd h (by decide),w1⟩,trivial⟩
  .have hp:=hp rfl;have ue:∀x:af × ar,x.1.aO=ah->e_ 112 x=rK x.1 x.2:=λx hx=>by simp[e_,hx]
   have ir:(at_ pre (aA.mk ⟨((123:UInt8).toNat:Nat),[123],pa⟩ us pb::post) fin 0).take 123=(.mk ⟨((123:UInt8).toNat:Nat),[123],pa⟩ us pb,at_ (pre++[.mk ⟨((123:UInt8).toNat:Nat),[123],pa⟩ us pb]) post fin 0):=qo rfl;rw[ue _ rfl];unfold rK;simp only[gY,gK,ir,aA.ae,aA.tok]
   rcases hk with ⟨rfl,hc⟩ | ⟨n1,hk⟩
   .rw[aL (.inr rfl)];refine⟨_,rfl,.inr (.inr (.inl ⟨rfl,[],pa,by rw[hc];rfl,?_⟩))⟩;cases c0;simp only at hp;subst hp;rfl
   .have hl:us.length≠0:=λh=>n1 (m0.1 h)
    rw[aB (by simp[at_,hl])];obtain⟨ys,r,q1,q2,q3⟩:=hk pb;have eM:(aA.mk ⟨((123:UInt8).toNat:Nat),[123],pa⟩ us pb).inner=at_ [] us pb 0:=by rfl
    rw[eM,q1];simp only[q2,af.xF];exact⟨_,rfl,.inr (.inr (.inl ⟨rfl,ys,pa,q3,rfl⟩))⟩
 .obtain⟨us,n1,f1,w1,b1⟩:=ann _ n (bU _) h toks ht;refine⟨us,n1,f1,w1,λpre post fin c0 _=>?_⟩;have hm:bj us<=bj (at_ pre (us++post) fin 0).l:=by simp only[at_,vU];omega
  obtain⟨y,q1,q2⟩:=b1 _ hm pre post fin;have Ja:∀x:af × ar,x.1.aO=ah->e_ 116 x=ka x.1 x.2 (gJ (af.label (bj x.1.l)) x.1.l x.1.at_ x.1.fin):=λx hx=>by simp[e_,hx]
  rw[Ja _ rfl];unfold gJ;rw[My,q1];refine⟨_,?_,.inr (.inr (.inr ⟨.inl rfl,y,q2,rfl⟩))⟩;simp[ka,at_]
 .obtain⟨us,n1,f1,w1,b1⟩:=atq h toks ht;refine⟨us,n1,f1,w1,λpre post fin c0 _=>?_⟩;have hm:bj us<=bj (at_ pre (us++post) fin 0).l:=by simp only[at_,vU];omega
  obtain⟨y,q1,q2⟩:=b1 _ hm pre post fin;have Cn:∀x:af × ar,x.1.aO=ah->e_ 114 x=ka x.1 x.2 (gJ (af.row (bj x.1.l)) x.1.l x.1.at_ x.1.fin):=λx hx=>by simp[e_,hx]
  rw[Cn _ rfl];unfold gJ;rw[My,q1];refine⟨_,?_,.inr (.inr (.inr ⟨.inr rfl,y,q2,rfl⟩))⟩;simp[ka,at_]
def Is(c:ar):List (UInt8 × Nd)->ar->ar->Prop
 | [],c0,c1=>c1=c0
 | q::qs,c0,c2=>∃c1,Ir q.1 c q.2 c0 c1/\Is c qs c1 c2
variable{c0 c1:ar}
theorem aib{k:UInt8}{n:Nd}(hk:k≠112)(h:Ir k c n c0 c1):c1.aX=c0.aX:=by
 rcases h with ⟨_,w,_,rfl⟩ | ⟨_,w,_,rfl⟩ | ⟨h,_⟩ | ⟨_,m,_,rfl⟩
 .rfl
 .rfl
 .grind
 .grind
theorem ZT{c:ar}:∀(qs:List (UInt8 × Nd)),(∀q∈qs,Cc q.1 c q.2)->(qs.map (·.1)).count 112<=1->∀toks:List Tok,toks.map Tok.sh=(qs.map λq=>Dt q.1 c q.2).flatten ->
 ∃us:List aA,bM us=toks/\gC us/\∀(pre:List aA) (fin:Int) (c0:ar),(112∈qs.map (·.1)->c0.aX=[])->∃c1,jP (qs.map (·.1)) (at_ pre us fin 0,c0)=(at_ (pre++us) [] fin 0,c1)/\Is c qs c0 c1
 | [], _, _, toks, ht => by
  have:toks=[]:=by simp_all
  subst this;exact⟨[],rfl,trivial,λpre fin c0 _=>⟨c0,by simp[jP],rfl⟩⟩
 | q :: qs, h, hc, toks, ht => by
  simp only[cQ,lj] at ht;obtain⟨t1,t2,rfl,h1,h2⟩:=kH.1 ht;obtain⟨u1,_,f1,w1,b1⟩:=arn (h q (by simp)) h1;have hc2:(qs.map (·.1)).count 112<=1:=by grind
  obtain⟨u2,f2,w2,b2⟩:=ZT qs (λx hx=>h x (by simp[hx])) hc2 t2 h2;refine⟨u1++u2,by rw[jK,f1,f2],by rw[lJ];exact⟨w1,w2⟩,λpre fin c0 hp=>?_⟩;obtain⟨c1,e1,g1⟩:=b1 pre u2 fin c0 (λe=>hp (by simp[e]));obtain⟨c2,e2,g2⟩:=b2 (pre++u1) fin c1 (λhm=>by
   by_cases e:q.1=112
   .grind
   .rw[aib e g1];exact hp (by simp only[cQ,m_];exact .inr hm))
  exact⟨c2,by simp only[cQ,jP,e1,e2,eY],c1,g1,g2⟩
def Qb:∀(ks:List UInt8) (ts:List Nd),(nV ks ts).map (·.1)=ks
 | [],_=>rfl
 | k::ks,ts=>by simp only[nV,cQ,Qb ks]
def Hg:List (List UInt8):=[[110,119],[110,119,112],[110,116,116],[110,114,114],[110,102],[],[110]]
theorem Gq{op:Int}(h1:1<=op)(h2:op<=15):(cm op).2∈Hg/\dp (cm op).1=aa/\kb (cm op).1=op:=by
 have key:∀n:Nat,n<15->(cm ((n+1:Nat):Int)).2∈Hg/\dp (cm ((n+1:Nat):Int)).1=aa/\kb (cm ((n+1:Nat):Int)).1=((n+1:Nat):Int):=by decide +kernel
 have:=key (op.toNat - 1) (by omega)
 grind
def HZ:∀a b:List aC,eX a b=decide (a.map aC.an=b.map aC.an)
 | [],[]=>by simp[eX]
 | [],_::_=>by simp[eX]
 | _::_,[]=>by simp[eX]
 | w::ws,u::us=>by simp[eX,HZ ws us]
theorem pA(l:List aA)(a fin k:Int):(⟨l,a,fin,ah⟩:af).cH k=bd l a k:=by rfl
theorem Fx(l:List aA)(a fin:Int)(b:Option Int):(⟨l,a,fin,b⟩:af).spot=kA l a fin:=rfl
variable{a:Int}
def oH{fin:Int}(h:bd l a k=aa):(⟨l,a,fin,ah⟩:af).take k=(bT l a,⟨l,a+1,fin,ah⟩):=by
 obtain⟨j,t,rfl,hj,_,hl⟩:=jC h;simp[af.take,pA,h,bT,hj,List.getD]
def pB{fin:Int}(h:bd l a k=aq):(⟨l,a,fin,ah⟩:af).take k=(.zero,⟨l,a,fin,U (kA l a fin)⟩):=by simp[af.take,pA,h,af.fail,Fx]
def yE(h:bd l a k=aa):(bT l a).tok=gv l a:=by
 obtain⟨j,t,rfl,hj,_,_⟩:=jC h;simp[bT,gv,hj]
def Wl{step:af × List β->af × List β}{a:af × List β}(h:a.1.aO≠ah):∀n,j9 step n a=a
 | 0=>rfl
 | n + 1 => by
  have:a.1.cH 44=false:=by
   simp only[af.cH,af.ok];cases hb:a.1.aO with
   | none=>exact absurd hb h
   | some _=>simp
  simp[j9,this]
def Wm{step:af × List β->af × List β}{a:af × List β}(h:a.1.cH 44=aq):∀n,j9 step n a=a
 | 0=>rfl
 | n+1=>by simp[j9,h]
def Y_{fin:Int}(h:bd l a 97=aa):nameAt l a fin=⟨.mk 0 (gv l a).pos (gv l a).an [] [],a+1,aq,0⟩:=by simp[nameAt,h]
def Y9{fin:Int}(h:bd l a 97=aq):nameAt l a fin=eB l a fin:=by simp[nameAt,h]
theorem R8(l:List aA)(fin:Int):∀(m n:Nat) (a:Nat) (out:List Nd) (ws:List aC),ws=lb out->l.length+1<=m+a->l.length<=n+a->a<=l.length ->
 (d_ (λi=>nameAt l i fin) l m a out).2.aO=aa/\(j9 iU n (iU (⟨l,a,fin,ah⟩,ws))).1.aO=U (d_ (λi=>nameAt l i fin) l m a out).2.pos \/
 (d_ (λi=>nameAt l i fin) l m a out).2.aO=aq/\j9 iU n (iU (⟨l,a,fin,ah⟩,ws))=(⟨l,(d_ (λi=>nameAt l i fin) l m a out).2.next,fin,ah⟩,lb (d_ (λi=>nameAt l i fin) l m a out).1)
 | 0,n,a,out,ws,CZ,hm,hn,ha=>by omega
 | m + 1, n, a, out, ws, CZ, hm, hn, ha => by
  cases hk:bd l a 97
  .left;have e:iU (⟨l,a,fin,ah⟩,ws)=(⟨l,a,fin,U (kA l a fin)⟩,ws++[⟨[],0⟩]):=by simp[iU,af.word,pB hk,aA.zero,aA.tok]
   rw[e,Wl (by simp)];simp[d_,Y9 hk,eB]
  .obtain⟨j,t,hj,_,_,hl⟩:=jC hk;have e:iU (⟨l,a,fin,ah⟩,ws)=(⟨l,(a:Int)+1,fin,ah⟩,ws++[⟨(gv l a).an,(gv l a).pos⟩]):=by simp[iU,af.word,oH hk,yE hk]
   rw[e];simp only[d_,Y_ hk,dK,cz];cases nr:bd l ((a:Int)+1) 44
   .right;rw[Wm (by simp[pA,nr])];simp[CZ,lb,Nd.an,Nd.pos]
   .obtain⟨j2,t2,CK,_,_,iW⟩:=jC nr;obtain⟨n,rfl⟩:∃k,n=k+1:=⟨n - 1,by omega⟩;simp only[j9,pA,nr,db,oH nr];have ih:=R8 l fin m n (a+2) (out++[.mk 0 (gv l a).pos (gv l a).an [] []]) (ws++[⟨(gv l a).an,(gv l a).pos⟩]) (by simp[CZ,lb,Nd.an,Nd.pos]) (by omega) (by omega) (by omega)
    grind
def awU(l:List aA)(a fin:Int) :
 (mP l a fin).2.aO=aa/\kE l a fin=([],U (mP l a fin).2.pos)\/(mP l a fin).2.aO=aq/\kE l a fin=((mP l a fin).1,ah):=by
 cases h:bd l a 123
 .left;have e:(⟨l,a,fin,ah⟩:af).words aq=(([],0),⟨l,a,fin,U (kA l a fin)⟩):=by simp[af.words,af.bracket,pB h,af.ok]
  simp[mP,h,eB,kE,e]
 .have ht:∃t,bT l a=t:=⟨_,rfl⟩;obtain⟨t,ht⟩:=ht;have hw:(⟨l,a,fin,ah⟩:af).words aq=(((fy iU t.inner).2,t.tok.pos),(⟨l,a+1,fin,ah⟩:af).under (fy iU t.inner).1):=by simp[af.words,af.bracket,oH h,af.ok,af.inside,ht]
  have hs:=R8 t.ae t.fin (t.ae.length+1) t.ae.length 0 [] [] rfl (by omega) (by omega) (by omega);have hg:fy iU t.inner=j9 iU t.ae.length (iU (⟨t.ae,((0:Nat):Int),t.fin,ah⟩,[])):=rfl;rw[<-hg] at hs;have hr:mP l a fin=(lb (wholeAt nameAt t aq).1,(wholeAt nameAt t aq).2):=by simp[mP,h,ht]
  have ly:wholeAt nameAt t aq=if (d_ (λi=>nameAt t.ae i t.fin) t.ae (t.ae.length+1) ((0:Nat):Int) []).2.aO=aq/\(d_ (λi=>nameAt t.ae i t.fin) t.ae (t.ae.length+1) ((0:Nat):Int) []).2.next<t.ae.length then([],eB t.ae (d_ (λi=>nameAt t.ae i t.fin) t.ae (t.ae.length+1) ((0:Nat):Int) []).2.next t.fin)
   else d_ (λi=>nameAt t.ae i t.fin) t.ae (t.ae.length+1) ((0:Nat):Int) []:=by simp[wholeAt]
  generalize d_ (λi=>nameAt t.ae i t.fin) t.ae (t.ae.length+1) ((0:Nat):Int) []=S at hs ly;generalize fy iU t.inner=G'' at hs hw
  rcases hs with ⟨h1,h2⟩ | ⟨h1,h2⟩
  .left;rw[h1] at ly;simp only[sS,Ej,cz] at ly;refine⟨by rw[hr,ly];exact h1,?_⟩;rw[hr,ly];have hc:G''.1.close=G''.1:=by simp[af.close,af.ok,h2]
   simp[kE,hw,af.under,hc,h2]
  .rw[h1] at ly;simp only[qq] at ly;rw[h2] at hw
   by_cases hn:S.2.next<t.ae.length
   .left;rw[aL hn] at ly;refine⟨by rw[hr,ly];rfl,?_⟩;rw[hr,ly];simp[kE,hw,af.under,af.close,af.ok,hn,af.fail,Fx,eB]
   .right;rw[aB hn] at ly;refine⟨by rw[hr,ly];exact h1,?_⟩;rw[hr,ly];simp[kE,hw,af.under,af.close,hn]
def Alike(one:af->Nd × af)(g:List aA->Int->Int->bJ):Prop:=∀(l:List aA) (a fin:Int),
 (g l a fin).aO=aa/\(one ⟨l,a,fin,ah⟩).2.aO=U (g l a fin).pos\/(g l a fin).aO=aq/\one ⟨l,a,fin,ah⟩=((g l a fin).node,⟨l,(g l a fin).next,fin,ah⟩)
theorem R5{one:af->Nd × af}{g:List aA->Int->Int->bJ}(H:Alike one g)(A9:uV g)(l:List aA)(fin:Int):∀(m n:Nat) (a:Nat) (out:List Nd),l.length+1<=m+a->l.length<=n+a->a<=l.length ->
 (d_ (λi=>g l i fin) l m a out).2.aO=aa/\(j9 (cV one) n (cV one (⟨l,a,fin,ah⟩,out))).1.aO=U (d_ (λi=>g l i fin) l m a out).2.pos \/
 (d_ (λi=>g l i fin) l m a out).2.aO=aq/\j9 (cV one) n (cV one (⟨l,a,fin,ah⟩,out))=(⟨l,(d_ (λi=>g l i fin) l m a out).2.next,fin,ah⟩,(d_ (λi=>g l i fin) l m a out).1)
 | 0,n,a,out,hm,hn,ha=>by omega
 | m + 1, n, a, out, hm, hn, ha => by
  rcases H l a fin with ⟨h1,h2⟩ | ⟨h1,h2⟩
  .left;have e:(cV one (⟨l,a,fin,ah⟩,out)).1.aO=U (g l a fin).pos:=h2;rw[Wl (by rw[e];simp)];simp only[d_,h1,db]
   grind
  .have hA:=A9 l a fin h1;have e:cV one (⟨l,a,fin,ah⟩,out)=(⟨l,(g l a fin).next,fin,ah⟩,out++[(g l a fin).node]):=by simp[cV,h2]
   rw[e];simp only[d_,h1,dK,cz];cases nr:bd l (g l a fin).next 44
   .right;rw[Wm (by simp[pA,nr])]
    grind
   .obtain⟨b,hb⟩:=yN (show 0<=(g l a fin).next by omega);obtain⟨j2,t2,CK,_,_,iW⟩:=jC nr;obtain⟨n,rfl⟩:∃k,n=k+1:=⟨n - 1,by omega⟩;simp only[j9,pA,nr,db,oH nr];have ih:=R5 H A9 l fin m n (b+1) (out++[(g l a fin).node]) (by omega) (by omega) (by omega)
    grind
variable{g:List aA->Int->Int->bJ}
def awM(t:aA)(empty:Bool)(h:¬(empty=aa/\t.ae.length=0)):wholeAt g t empty=if (d_ (λi=>g t.ae i t.fin) t.ae (t.ae.length+1) ((0:Nat):Int) []).2.aO=aq/\(d_ (λi=>g t.ae i t.fin) t.ae (t.ae.length+1) ((0:Nat):Int) []).2.next<t.ae.length then([],eB t.ae (d_ (λi=>g t.ae i t.fin) t.ae (t.ae.length+1) ((0:Nat):Int) []).2.next t.fin)
 else d_ (λi=>g t.ae i t.fin) t.ae (t.ae.length+1) ((0:Nat):Int) []:=by
 unfold wholeAt;rw[aB h];simp
def Ur{step:af × List β->af × List β}{conv:List Nd->List β}(hc:conv []=[]){fin:Int}{kind:Int}(hk:bd l a kind=aa)(empty:Bool)
 (hs:∀t:aA,(d_ (λi=>g t.ae i t.fin) t.ae (t.ae.length+1) ((0:Nat):Int) []).2.aO=aa/\(fy step t.inner).1.aO=U (d_ (λi=>g t.ae i t.fin) t.ae (t.ae.length+1) ((0:Nat):Int) []).2.pos \/
   (d_ (λi=>g t.ae i t.fin) t.ae (t.ae.length+1) ((0:Nat):Int) []).2.aO=aq/\fy step t.inner=(⟨t.ae,(d_ (λi=>g t.ae i t.fin) t.ae (t.ae.length+1) ((0:Nat):Int) []).2.next,t.fin,ah⟩,conv (d_ (λi=>g t.ae i t.fin) t.ae (t.ae.length+1) ((0:Nat):Int) []).1)) :
 (wholeAt g (bT l a) empty).2.aO=aa/\((⟨l,a,fin,ah⟩:af).bracket step kind empty).2.aO=U (wholeAt g (bT l a) empty).2.pos \/
 (wholeAt g (bT l a) empty).2.aO=aq/\(⟨l,a,fin,ah⟩:af).bracket step kind empty=((conv (wholeAt g (bT l a) empty).1,(gv l a).pos),⟨l,a+1,fin,ah⟩):=by
 have ir:(bT l a).tok=gv l a:=yE hk;have hb:(⟨l,a,fin,ah⟩:af).bracket step kind empty=(((af.inside step empty (bT l a)).2,(gv l a).pos),(⟨l,a+1,fin,ah⟩:af).under (af.inside step empty (bT l a)).1):=by simp[af.bracket,oH hk,af.ok,ir]
 rw[hb];have hs:=hs (bT l a);generalize bT l a=t at hs ⊢
 by_cases he:empty=aa/\t.ae.length=0
 .right;have e1:af.inside step empty t=(t.inner,[]):=by unfold af.inside;rw[aL he]
  have e2:wholeAt g t empty=([],⟨.zero,0,aq,0⟩):=by unfold wholeAt;rw[aL he]
  rw[e1,e2];refine⟨rfl,?_⟩;simp[af.under,af.close,aA.inner,he.2,hc]
 .have e1:af.inside step empty t=fy step t.inner:=by unfold af.inside;rw[aB he]
  rw[e1];have ly:=awM (g:=g) t empty he;generalize d_ (λi=>g t.ae i t.fin) t.ae (t.ae.length+1) ((0:Nat):Int) []=S at hs ly;generalize fy step t.inner=G'' at hs ⊢
  rcases hs with ⟨h1,h2⟩ | ⟨h1,h2⟩
  .left;rw[h1] at ly;simp only[sS,Ej,cz] at ly;rw[ly];have hc:G''.1.close=G''.1:=by simp[af.close,af.ok,h2]
   exact⟨h1,by simp[af.under,hc,h2]⟩
  .rw[h1] at ly;simp only[qq] at ly;rw[h2]
   by_cases hn:S.2.next<t.ae.length
   .left;rw[aL hn] at ly;rw[ly];exact⟨rfl,by simp[af.under,af.close,af.ok,hn,af.fail,Fx,eB]⟩
   .right;rw[aB hn] at ly;rw[ly];exact⟨h1,by simp[af.under,af.close,hn]⟩
def QG{one:af->Nd × af}(H:Alike one g)(A9:uV g){fin kind:Int}(hk:bd l a kind=aa)(empty:Bool):
 (wholeAt g (bT l a) empty).2.aO=aa/\((⟨l,a,fin,ah⟩:af).nodes one kind empty).2.aO=U (wholeAt g (bT l a) empty).2.pos \/
 (wholeAt g (bT l a) empty).2.aO=aq/\(⟨l,a,fin,ah⟩:af).nodes one kind empty=(((wholeAt g (bT l a) empty).1,(gv l a).pos),⟨l,a+1,fin,ah⟩) :=
 Ur (conv:=id) rfl hk empty λt=>R5 H A9 t.ae t.fin (t.ae.length+1) t.ae.length 0 [] (by omega) (by omega) (by omega)
def acI{fin:Int}(hk:bd l a 123=aa)(empty:Bool):
 (wholeAt nameAt (bT l a) empty).2.aO=aa/\((⟨l,a,fin,ah⟩:af).words empty).2.aO=U (wholeAt nameAt (bT l a) empty).2.pos \/
 (wholeAt nameAt (bT l a) empty).2.aO=aq/\(⟨l,a,fin,ah⟩:af).words empty=((lb (wholeAt nameAt (bT l a) empty).1,(gv l a).pos),⟨l,a+1,fin,ah⟩) :=
 Ur (conv:=lb) rfl hk empty λt=>R8 t.ae t.fin (t.ae.length+1) t.ae.length 0 [] [] rfl (by omega) (by omega) (by omega)
def EX(k:Int):Alike (af.leaf k) (sB k):=λl a fin=>by
 unfold sB;cases h:bd l a 97
 .left;simp[af.leaf,af.word,pB h,eB]
 .right;simp[af.leaf,af.word,oH h,yE h]
theorem atI:Alike af.rP rQ:=λl a fin=>by
 unfold rQ af.rP;cases h:bd l a 97
 .left;have hb:∀r:af,r.aO≠ah->((r.take 58).2.words aa).2.aO=r.aO:=λr hr=>by
   obtain⟨x,hx⟩:∃x,r.aO=U x:=by cases hq:r.aO with | none=>exact absurd hq hr | some x=>exact⟨x,rfl⟩
   have e:r.take 58=(.zero,r):=by simp[af.take,af.cH,af.ok,hx,af.fail]
   have e2:r.take 123=(.zero,r):=by simp[af.take,af.cH,af.ok,hx,af.fail]
   simp[e,af.words,af.bracket,e2,af.ok,hx]
  simp only[af.word,pB h,db];exact⟨rfl,hb _ (by simp)⟩
 simp only[af.word,oH h,sS,cz];cases h2:bd l (a+1) 58
 .left;simp only[pB h2,db];refine⟨rfl,?_⟩;rfl
 simp only[oH h2,sS,cz];have e2:a+1+1=a+2:=by omega
 rw[e2];cases h3:bd l (a+2) 123
 .left;simp only[db];refine⟨rfl,?_⟩;simp[af.words,af.bracket,pB h3,af.ok,eB]
 simp only[sS,cz]
 rcases acI (fin:=fin) h3 aa with ⟨p1,p2⟩ | ⟨p1,p2⟩
 .grind
 .right;rw[p1];simp only[dK,cz];refine⟨trivial,?_⟩;rw[p2];simp[yE h];omega
theorem uF{k':Int}(h:bd l a k=aa)(bf:k≠k'):bd l a k' = false:=by
 cases hq:bd l a k' with
 | false=>rfl
 | true =>
  obtain⟨j,t,rfl,hj,hk,_⟩:=jC h;obtain⟨j',t',e,nJ,pZ,_⟩:=jC hq
  grind
def U2:∀n,Alike (af.constant n) (jf n)
 | 0=>EX 2
 | n + 1 => λl a fin => by
  simp only[jf,af.constant,pA];cases dy:bd l a 97
  case true =>
   simp only[uF dy (show(97:Int)≠123 by decide),uF dy (show(97:Int)≠40 by decide),uF dy (show(97:Int)≠91 by decide),dK,cz,db];exact EX 2 l a fin
  simp only[dK,cz];cases zj:bd l a 123
  case true =>
   simp only[db]
   rcases acI (fin:=fin) zj aa with ⟨p1,p2⟩ | ⟨p1,p2⟩
   .left;unfold jB;rw[aL p1];exact⟨p1,p2⟩
   .right;unfold jB;rw[p1,p2];exact⟨rfl,rfl⟩
  simp only[dK,cz];cases uj:bd l a 40
  case true =>
   simp only[db]
   rcases QG (U2 n) (Mr n) (fin:=fin) uj aq with ⟨p1,p2⟩ | ⟨p1,p2⟩
   .left;unfold jB;rw[aL p1];exact⟨p1,p2⟩
   .right;unfold jB;rw[p1,p2];exact⟨rfl,rfl⟩
  simp only[dK,cz];cases vr:bd l a 91
  case true =>
   simp only[db]
   rcases QG atI TH (fin:=fin) vr aa with ⟨p1,p2⟩ | ⟨p1,p2⟩
   .left;unfold jB;rw[aL p1];exact⟨p1,p2⟩
   .right;unfold jB;rw[p1,p2];exact⟨rfl,rfl⟩
  simp only[dK,cz];left;simp[af.leaf,af.word,pB dy,eB]
def ae8{step:af × List β->af × List β}{fin kind:Int}(h:bd l a kind=aq):(⟨l,a,fin,ah⟩:af).bracket step kind e=(([],0),⟨l,a,fin,U (kA l a fin)⟩):=by simp[af.bracket,pB h,af.ok]
theorem agz{n:Nat}{fin:Int}(f:Nd->Nd):
 ((jf n l a fin).put f).aO=aa/\(af.constant n ⟨l,a,fin,ah⟩).2.aO=U ((jf n l a fin).put f).pos\/((jf n l a fin).put f).aO=aq/\(f (af.constant n ⟨l,a,fin,ah⟩).1,(af.constant n ⟨l,a,fin,ah⟩).2)=(((jf n l a fin).put f).node,⟨l,((jf n l a fin).put f).next,fin,ah⟩):=by
 unfold bJ.put
 rcases U2 n l a fin with ⟨p1,p2⟩ | ⟨p1,p2⟩
 .grind
 .grind
def IT(n:Nat)(l:List aA)(a fin:Int):bJ:=if bd l a 35=aa then(jf n l (a+1) fin).put λm=>.mk 7 (gv l a).pos [] [] [m] else sB 1 l a fin
theorem T9(n:Nat):Alike (af.atom n) (IT n):=λl a fin=>by
 unfold IT;simp only[af.atom,pA];cases qE:bd l a 35
 .simp only[dK,cz];exact EX 1 l a fin
 .simp only[db,oH qE,yE qE]
  rcases agz (n:=n) (l:=l) (a:=a+1) (fin:=fin) (λm=>.mk 7 (gv l a).pos [] [] [m]) with ⟨p1,p2⟩ | ⟨p1,p2⟩
  .grind
  .grind
theorem PY:∀n,Alike (af.label n) (gR n)
 | 0=>EX 1
 | n + 1 => λl a fin => by
  have sign:∀(k:Int),bd l a k=aa->∀kd,(kd=8\/kd=9) ->
   let x:Nd × af:=(.mk kd ((⟨l,a,fin,ah⟩:af).take k).1.tok.pos [] [] (((⟨l,a,fin,ah⟩:af).take k).2.nodes (af.label n) 40 aq).1.1,(((⟨l,a,fin,ah⟩:af).take k).2.nodes (af.label n) 40 aq).2)
   let g:=if bd l (a+1) 40=aq then eB l (a+1) fin else jB (wholeAt (gR n) (bT l (a+1)) aq) (λks=>.mk kd (gv l a).pos [] [] ks) (a+2)
   g.aO=aa/\x.2.aO=U g.pos\/g.aO=aq/\x=(g.node,⟨l,g.next,fin,ah⟩):=λk hk kd _=>by
   simp only[oH hk,yE hk];cases uj:bd l (a+1) 40
   .left;simp only[db];unfold af.nodes;rw[ae8 uj];exact⟨rfl,rfl⟩
   .simp only[sS,cz];have e2:a+1+1=a+2:=by omega
    rcases QG (PY n) (F9 n) (fin:=fin) uj aq with ⟨p1,p2⟩ | ⟨p1,p2⟩
    .left;unfold jB;rw[aL p1];exact⟨p1,p2⟩
    .right;unfold jB;rw[p1,p2,e2];exact⟨rfl,rfl⟩
  simp only[gR,af.label,pA];cases dy:bd l a 97
  case true =>
   simp only[uF dy (show(97:Int)≠43 by decide),uF dy (show(97:Int)≠38 by decide),dK,cz,db]
   have:=T9 (n+1) l a fin
   unfold IT at this;rw[uF dy (show(97:Int)≠35 by decide)] at this
   grind
  simp only[dK,cz];cases qE:bd l a 35
  case true =>
   simp only[uF qE (show(35:Int)≠43 by decide),uF qE (show(35:Int)≠38 by decide),dK,cz,db]
   have:=T9 (n+1) l a fin
   unfold IT at this
   grind
  simp only[dK,cz];cases qF:bd l a 43
  case true =>
   simp only[sS,Ej,cz,db,uF qF (show(43:Int)≠38 by decide),dK]
   simp_all
  simp only[dK,cz,qq];cases pT:bd l a 38
  case true =>
   simp_all
  simp only[dK,cz,db];left;refine⟨rfl,?_⟩;simp[af.atom,pA,qE,af.leaf,af.word,pB dy,eB]
theorem aeA(n:Nat)(l:List aA)(a fin:Int):(pM n l a fin).aO=aa/\(af.atom n ⟨l,a,fin,ah⟩).2.aO=U (pM n l a fin).pos\/(pM n l a fin).aO=aq/\af.atom n ⟨l,a,fin,ah⟩=((pM n l a fin).node,⟨l,(pM n l a fin).next,fin,ah⟩)\/n=0/\bd l a 35=true:=by
 cases n with
 | zero =>
  cases qE:bd l a 35
  .unfold pM gR
   by_cases h:bd l a 43=aa\/bd l a 38=aa
   .left;rw[aL h];have dy:bd l a 97=false:=by rcases h with h | h<;>exact uF h (by decide)
    exact⟨rfl,by simp[af.atom,pA,qE,af.leaf,af.word,pB dy,eB]⟩
   .rw[aB h]
    have:=EX 1 l a fin
    simp only[af.atom,pA,qE,dK,cz]
    grind
  .simp
 | succ n =>
  unfold pM
  by_cases h:bd l a 43=aa\/bd l a 38=aa
  .left;rw[aL h];have dy:bd l a 97=false:=by rcases h with h | h<;>exact uF h (by decide)
   have qE:bd l a 35=false:=by rcases h with h | h<;>exact uF h (by decide)
   exact⟨rfl,by simp[af.atom,pA,qE,af.leaf,af.word,pB dy,eB]⟩
  .rw[aB h];have qF:bd l a 43=false:=by cases hq:bd l a 43 with | false=>rfl | true=>exact absurd (.inl hq) h
   have pT:bd l a 38=false:=by cases hq:bd l a 38 with | false=>rfl | true=>exact absurd (.inr hq) h
   have:=PY (n+1) l a fin
   simp only[af.label,pA,qF,pT,dK,cz] at this
   grind
theorem ajd(n:Nat):Alike (af.field (n+1)) (rp (n+1)):=λl a fin=>by
 have dz:∀(b:Int),∀r:af,r.aO=U b->∀m,(af.atom m r).2.aO=U b:=λb r hr m=>by
  have e:∀k,r.cH k=false:=λk=>by simp[af.cH,af.ok,hr]
  have e2:r.take 97=(.zero,r):=by simp[af.take,e,af.fail,hr]
  simp[af.atom,e,af.leaf,af.word,e2,hr]
 unfold rp af.field;cases h:bd l a 97
 .left;simp only[af.word,pB h,db];refine⟨rfl,dz _ _ ?_ _⟩;rfl
 simp only[af.word,oH h,sS,cz];cases h2:bd l (a+1) 61
 .left;simp only[pB h2,db];exact⟨rfl,dz _ _ rfl _⟩
 simp only[oH h2,sS,cz];have e2:a+1+1=a+2:=by omega
 rw[e2];unfold bJ.put
 rcases aeA (n+1) l (a+2) fin with ⟨p1,p2⟩ | ⟨p1,p2⟩ | ⟨h0,_⟩
 .grind
 .right;rw[p1,p2,yE h];exact⟨rfl,rfl⟩
 .omega
def aaM{fin:Int}{nx:Int}{X:(af × List Nd) × List aC}(r1:af)(hr:r1=⟨(bT l a).ae,nx,(bT l a).fin,ah⟩)
 (hX:X=if r1.cH 124=aa then(((r1.take 124).2.word.2,ks),[(r1.take 124).2.word.1]) else((r1,ks),[])) :
 (l9 l a ks nx).aO=aa/\((⟨l,a+1,fin,ah⟩:af).under X.1.1).aO=U (l9 l a ks nx).pos \/
 (l9 l a ks nx).aO=aq/\((Nd.mk 10 (gv l a).pos [] X.2 X.1.2,(⟨l,a+1,fin,ah⟩:af).under X.1.1):Nd × af)=((l9 l a ks nx).node,⟨l,(l9 l a ks nx).next,fin,ah⟩):=by
 subst hr;unfold l9;simp only[pA] at hX;cases s5:bd (bT l a).ae nx 124
 .rw[s5] at hX;simp only[dK,cz] at hX ⊢;subst hX;unfold qi
  by_cases hn:nx<(bT l a).ae.length
  .left;rw[aL hn];exact⟨rfl,by simp[af.under,af.close,af.ok,hn,af.fail,Fx,eB]⟩
  .right;rw[aB hn];exact⟨rfl,by simp[af.under,af.close,hn]⟩
 .rw[s5] at hX;simp only[db,oH s5] at hX ⊢;cases dy:bd (bT l a).ae (nx+1) 97
  .left;have e:nameAt (bT l a).ae (nx+1) (bT l a).fin=eB (bT l a).ae (nx+1) (bT l a).fin:=Y9 dy;rw[e];simp only[eB,db];subst hX;exact⟨trivial,by simp[af.word,pB dy,af.under,af.close,af.ok]⟩
  .rw[Y_ dy];simp only[dK,cz];have hw:(⟨(bT l a).ae,nx+1,(bT l a).fin,ah⟩:af).word=(⟨(gv (bT l a).ae (nx+1)).an,(gv (bT l a).ae (nx+1)).pos⟩,⟨(bT l a).ae,nx+1+1,(bT l a).fin,ah⟩):=by simp[af.word,oH dy,yE dy]
   rw[hw] at hX;subst hX;unfold qi
   by_cases hn:nx+1+1<(bT l a).ae.length
   .left;rw[aL hn];exact⟨rfl,by simp[af.under,af.close,af.ok,hn,af.fail,Fx,eB]⟩
   .right;rw[aB hn];exact⟨rfl,by simp[af.under,af.close,hn,lb,Nd.an,Nd.pos]⟩
theorem atp(n:Nat):Alike (af.row (n+1)) (j5 (n+1)):=λl a fin=>by
 unfold j5;simp only[af.row,pA];cases dy:bd l a 97
 case true =>
  simp only[uF dy (show(97:Int)≠91 by decide),dK,cz,db]
  have:=EX 1 l a fin
  simp only[gR,dy,db];omega
 simp only[dK,cz];cases vr:bd l a 91
 case false =>
  left;simp only[dK,cz,db];exact⟨rfl,by simp[af.leaf,af.word,pB dy,eB]⟩
 simp only[sS,cz,db,oH vr,yE vr];have eM:(bT l a).inner=⟨(bT l a).ae,0,(bT l a).fin,ah⟩:=rfl
 by_cases iH:0<(bT l a).ae.length/\bd (bT l a).ae 0 124=aq
 .rw[aL iH];have hX:af.rowOf (n+1) (bT l a)=if (fy (cV (af.field (n+1))) (bT l a).inner).1.cH 124=aa then((((fy (cV (af.field (n+1))) (bT l a).inner).1.take 124).2.word.2,(fy (cV (af.field (n+1))) (bT l a).inner).2),[((fy (cV (af.field (n+1))) (bT l a).inner).1.take 124).2.word.1]) else(fy (cV (af.field (n+1))) (bT l a).inner,[]):=by
   unfold af.rowOf af.qj;rw[aB (by omega)]
   have:(bT l a).inner.cH 124=false:=by rw[eM,pA];exact iH.2
   grind
  have hs:(rO (n+1) l a).2.aO=aa/\(fy (cV (af.field (n+1))) (bT l a).inner).1.aO=U (rO (n+1) l a).2.pos\/(rO (n+1) l a).2.aO=aq/\fy (cV (af.field (n+1))) (bT l a).inner=(⟨(bT l a).ae,(rO (n+1) l a).2.next,(bT l a).fin,ah⟩,(rO (n+1) l a).1) :=
   R5 (ajd n) (TG (n+1)) (bT l a).ae (bT l a).fin ((bT l a).ae.length+1) (bT l a).ae.length 0 [] (by omega) (by omega) (by omega)
  generalize fy (cV (af.field (n+1))) (bT l a).inner=G'' at hX hs;generalize rO (n+1) l a=S at hs ⊢
  rcases hs with ⟨p1,p2⟩ | ⟨p1,p2⟩
  .left;rw[aL p1];have nM:G''.1.cH 124=false:=by simp[af.cH,af.ok,p2]
   rw[hX,nM];simp only[dK,cz];have hc:G''.1.close=G''.1:=by simp[af.close,af.ok,p2]
   exact⟨p1,by simp[af.under,hc,p2]⟩
  .rw[p1];simp only[dK,cz];rw[p2] at hX;exact aaM _ rfl hX
 .rw[aB iH];refine aaM (ks:=[]) (nx:=0) (bT l a).inner eM ?_;unfold af.rowOf af.qj
  by_cases hk:(bT l a).ae.length=0
  .rw[aL hk]
   have:(bT l a).inner.cH 124=false:=by rw[eM,pA];simp[m0.1 hk,bd]
   grind
  .rw[aB hk];have h0:bd (bT l a).ae 0 124=true:=by
    cases hq:bd (bT l a).ae 0 124 with
    | true=>rfl
    | false=>exact absurd ⟨by omega,hq⟩ iH
   have:(bT l a).inner.cH 124=true:=by rw[eM,pA];exact h0
   grind
theorem aav{one:af->Nd × af}(H:Alike one g)(l:List aA)(a fin:Int):
 (g l a fin).aO=aa/\gJ one l a fin=(.zero,0,U (g l a fin).pos)\/(g l a fin).aO=aq/\gJ one l a fin=((g l a fin).node,(g l a fin).next,ah):=by
 unfold gJ
 rcases H l a fin with ⟨p1,p2⟩ | ⟨p1,p2⟩
 .grind
 .grind
def Im{fin:Int}(h:bd l a 97=aa):(⟨l,a,fin,ah⟩:af).word=(re l a,⟨l,a+1,fin,ah⟩):=by simp[af.word,oH h,yE h,re]
def Il{fin:Int}(h:bd l a 97=aq):(⟨l,a,fin,ah⟩:af).word=(⟨[],0⟩,⟨l,a,fin,U (kA l a fin)⟩):=by simp[af.word,pB h,aA.zero,aA.tok]
theorem Si{fin b:Int}:(⟨l,a,fin,U b⟩:af).take k=(.zero,⟨l,a,fin,U b⟩):=by rfl
theorem acF{fin b:Int}:(⟨l,a,fin,U b⟩:af).word=(⟨[],0⟩,⟨l,a,fin,U b⟩):=by rfl
def BF{i:af}{b:Int}(h:i.aO=U b):∀n acc,(af.iR n i acc).1.aO=U b
 | 0,_=>h
 | n+1,_=>by simp[af.iR,h]
section
variable {N:Int} (h0:0<=N)
include h0
theorem ZL{l:List aA}{fin:Int}(hl:mW N l)(hf:In N fin):∀(n a:Nat) (acc:List (aC × aC)),l.length<n+a->a<=l.length ->
 (tI l fin n a acc).2 = -1/\(af.iR n ⟨l,a,fin,ah⟩ acc).1.aO=ah/\(af.iR n ⟨l,a,fin,ah⟩ acc).2=(tI l fin n a acc).1 \/
 In N (tI l fin n a acc).2/\(af.iR n ⟨l,a,fin,ah⟩ acc).1.aO=U (tI l fin n a acc).2
 | 0,a,acc,hn,ha=>by omega
 | n + 1, a, acc, hn, ha => by
  simp only[af.iR,tI,tE,Dp,cz];cases h1:bd l (a:Nat) 97
  .right;simp only[db,Il h1,Si,acF];refine⟨v5 h0 hl hf,?_⟩;split
   .rfl
   .exact BF rfl _ _
  simp only[Im h1,sS,cz];cases h2:bd l ((a+1:Nat):Int) 60
  .right;have Gx : bd l ((a:Int)+1) 60=false:=h2;simp only[db,pB Gx,acF,Si];refine⟨v5 h0 hl hf,?_⟩;split
   .rfl
   .exact BF rfl _ _
  have Gx : bd l ((a:Int)+1) 60=true:=h2;simp only[oH Gx,sS,cz];rw[show(a:Int)+1+1=((a+2:Nat):Int) by omega];cases h3:bd l ((a+2:Nat):Int) 97
  .right;simp only[db,Il h3,Si];refine⟨v5 h0 hl hf,?_⟩;split
   .rfl
   .exact BF rfl _ _
  have iW:=(qM h3).2;simp only[Im h3,sS,cz];rw[show((a+2:Nat):Int)+1=((a+3:Nat):Int) by omega]
  by_cases fA:a+3=l.length
  .grind
  rw[aB fA,aB (show ¬((a+3:Nat):Int)=(l.length:Int) by omega)];cases h4:bd l ((a+3:Nat):Int) 44
  .right;simp only[db,pB h4];exact⟨v5 h0 hl hf,BF rfl _ _⟩
  simp only[oH h4,sS,cz];rw[show((a+3:Nat):Int)+1=((a+4:Nat):Int) by omega];exact ZL hl hf n (a+4) _ (by omega) (by omega)
def PA(l:List aA)(fin:Int)(P:af × ar)(R:ar × Int × Int):Prop :=
 0<=R.2.2/\P.1.aO=U R.2.2\/R.2.2<0/\P=(⟨l,R.2.1,fin,ah⟩,R.1)
def KA(ks:List UInt8):Prop:=∀k∈ks,k=110\/k=102\/k=119\/k=112\/k=116\/k=114
theorem arl{fin:Int}(hl:mW N l)(hf:In N fin)(hm:0<bj l){k:UInt8}(c:ar)(a:Nat)(hk:k=110\/k=102\/k=119\/k=112\/k=116\/k=114)(hp:k=112->c.aX=[]):
 PA l fin (e_ k (⟨l,a,fin,ah⟩,c)) (ky k c l a fin):=by
 have hs:∀b,In N (kA l b fin):=λb=>v5 h0 hl hf
 rcases hk with rfl | rfl | rfl | rfl | rfl | rfl
 .simp only[e_,ky];cases h:bd l (a:Nat) 97
  .left;simp[Il h];exact(hs _).1
  .right;simp[Im h]
 .simp only[e_,ky];cases h:bd l (a:Nat) 97
  .left;simp[Il h];exact(hs _).1
  .right;simp[Im h]
 .have hi:=acK h0 (a:=(a:Nat)) hl hf
  rcases awU l (a:Nat) fin with ⟨p1,p2⟩ | ⟨p1,p2⟩
  .left;simp[e_,ky,p1,p2];exact hi.1
  .right;simp[e_,ky,p1,p2]
 .have hp:=hp rfl;cases h:bd l (a:Nat) 123
  .left;simp[e_,ky,rK,pB h,h];exact(hs _).1
  .obtain⟨hk,nC⟩:=Lt h0 (a:=(a:Nat)) hl;have ha:=ZL h0 hk nC ((bT l (a:Nat)).ae.length+1) 0 [] (by omega) (by omega);have eM:(bT l (a:Nat)).inner=⟨(bT l (a:Nat)).ae,((0:Nat):Int),(bT l (a:Nat)).fin,ah⟩:=rfl
   by_cases hz:(bT l (a:Nat)).ae.length=0
   .right;simp only[e_,ky,rK,oH h,h,vY]
    grind
   .simp only[e_,ky,rK,oH h,h,vY,eM];generalize af.iR ((bT l (a:Nat)).ae.length+1) ⟨(bT l (a:Nat)).ae,((0:Nat):Int),(bT l (a:Nat)).fin,ah⟩ []=G'' at ha ⊢;generalize tI (bT l (a:Nat)).ae (bT l (a:Nat)).fin ((bT l (a:Nat)).ae.length+1) 0 []=F at ha ⊢
    rcases ha with ⟨p1,p2,p3⟩ | ⟨p1,p2⟩
    .right;simp[hz,p1,p2,p3,af.xF]
    .left
     have:=p1.1
     simp[hz,p2,af.xF];omega
 .have hi:=Hk h0 (bj l) l (a:Nat) fin hl hf;obtain⟨m,hm⟩:∃m,bj l=m+1:=⟨bj l - 1,by omega⟩;rw[hm] at hi;have e1:ky 116 c l (a:Nat) fin=if (gR (bj l) l (a:Nat) fin).aO=aa then(c,(a:Int),(gR (bj l) l (a:Nat) fin).pos) else(if c.left.kind=0 then {c with left:=(gR (bj l) l (a:Nat) fin).node} else {c with right:=(gR (bj l) l (a:Nat) fin).node},(gR (bj l) l (a:Nat) fin).next,-1):=rfl
  have e2:e_ 116 (⟨l,a,fin,ah⟩,c)=ka ⟨l,a,fin,ah⟩ c (gJ (af.label (bj l)) l (a:Nat) fin):=rfl;rw[e1,e2,hm];have ha:=aav (PY (m+1)) l (a:Nat) fin;generalize gJ (af.label (m+1)) l (a:Nat) fin=T at ha ⊢;generalize gR (m+1) l (a:Nat) fin=g at ha hi ⊢
  rcases ha with ⟨p1,p2⟩ | ⟨p1,p2⟩
  .left;rw[aL p1,p2];exact⟨hi.1,rfl⟩
  .right;rw[aB (by simp[p1]),p2];exact⟨show(-1:Int)<0 by decide,rfl⟩
 .have hi:=aaN h0 (bj l) l (a:Nat) fin hl hf;obtain⟨m,hm⟩:∃m,bj l=m+1:=⟨bj l - 1,by omega⟩;rw[hm] at hi;have e1:ky 114 c l (a:Nat) fin=if (j5 (bj l) l (a:Nat) fin).aO=aa then(c,(a:Int),(j5 (bj l) l (a:Nat) fin).pos) else(if c.left.kind=0 then {c with left:=(j5 (bj l) l (a:Nat) fin).node} else {c with right:=(j5 (bj l) l (a:Nat) fin).node},(j5 (bj l) l (a:Nat) fin).next,-1):=rfl
  have e2:e_ 114 (⟨l,a,fin,ah⟩,c)=ka ⟨l,a,fin,ah⟩ c (gJ (af.row (bj l)) l (a:Nat) fin):=rfl;rw[e1,e2,hm];have ha:=aav (atp m) l (a:Nat) fin;generalize gJ (af.row (m+1)) l (a:Nat) fin=T at ha ⊢;generalize j5 (m+1) l (a:Nat) fin=g at ha hi ⊢
  rcases ha with ⟨p1,p2⟩ | ⟨p1,p2⟩
  .left;rw[aL p1,p2];exact⟨hi.1,rfl⟩
  .right;rw[aB (by simp[p1]),p2];exact⟨show(-1:Int)<0 by decide,rfl⟩
theorem KX{b:Int}:∀(ks:List UInt8) (x:af × ar),x.1.aO=U b->(jP ks x).1.aO=U b
 | [],_,h=>h
 | k :: ks, x, h => by
  simp only[jP];exact KX ks _ (by simp[e_,h])
theorem ark{k:UInt8}{fin:Int}(hk:k≠112):(ky k c l a fin).1.aX=c.aX:=by
 unfold ky
 grind
theorem Q0{l:List aA}{fin:Int}(hl:mW N l)(hf:In N fin)(hm:0<bj l):∀(ks:List UInt8) (c:ar) (a:Nat),KA ks->ks.count 112<=1->(112∈ks->c.aX=[]) ->
 PA l fin (jP ks (⟨l,a,fin,ah⟩,c)) (pw l fin ks c a)
 | [],c,a,_,_,_=>.inr ⟨by simp[pw],rfl⟩
 | k :: ks, c, a, hk, hc, hp => by
  have h1:=arl h0 hl hf hm c a (hk k (by simp)) (λh=>hp (by simp[h]));obtain⟨a',A7,_⟩:=ZP k c l a fin;have OU:=ark h0 (k:=k) (c:=c) (l:=l) (a:=(a:Nat)) (fin:=fin);simp only[jP,pw];generalize ky k c l (a:Nat) fin=R at h1 A7 OU ⊢
  rcases h1 with ⟨p1,p2⟩ | ⟨p1,p2⟩
  .rw[aL p1];exact .inl ⟨p1,KX h0 ks _ p2⟩
  .rw[aB (by omega),p2,A7]
   by_cases e:k=112
   .have hn:ks.count 112=0:=by grind
    exact Q0 hl hf hm ks _ a' (λk h=>hk k (by simp[h])) (by omega) (λh=>absurd h (List.count_eq_zero.1 hn))
   .refine Q0 hl hf hm ks _ a' (λk h=>hk k (by simp[h])) ?_ (λh=>?_)
    .grind
    .grind
end
def Zn{w:List UInt8}:∀n op,(∀k:Nat,op<=k->k<op+n->0<k->(cm k).1≠w)->qR w n op=0
 | 0,_,_=>rfl
 | n + 1, op, h => by
  simp only[qR];rw[aB (λ⟨x,y⟩=>h op (by omega) (by omega) x y)];exact Zn n (op+1) λk a b c=>h k (by omega) (by omega) c
def Zx{w:List UInt8}(r:Int):∀n op,(∀k:Nat,op<=k->k<op+n->(cm k).1≠w)->lX w n op r=r
 | 0,_,_=>rfl
 | n + 1, op, h => by
  simp only[lX];rw[aB (λe=>h op (by omega) (by omega) e.symm)];exact Zx r n (op+1) λk a b=>h k (by omega) (by omega)
def apQ(w:List UInt8):kb w=lX w 15 1 0:=by
 by_cases h:∃k:Nat,k<16/\0<k/\(cm k).1=w
 .obtain⟨k,h1,h2,rfl⟩:=h;have key:∀k:Nat,k<16->0<k->qR (cm k).1 16 0=lX (cm k).1 15 1 0:=by decide +kernel
  exact key k h1 h2
 .have hn:∀k:Nat,k<16->0<k->(cm k).1≠w:=λk h1 h2 e=>h ⟨k,h1,h2,e⟩
  unfold kb;rw[Zn 16 0 (λk _ h1 h2=>hn k (by omega) h2),Zx 0 15 1 (λk h1 h2=>hn k (by omega) (by omega))]
theorem Jn(op:Int):KA (cm op).2/\(cm op).2.count 112<=1:=by
 unfold cm KA;split
 .rename_i h1;have az:op.toNat<16:=by omega
  generalize op.toNat=n at az ⊢;have key:∀n<16,(∀k∈(j8.getD n ([],[])).2,k=110\/k=102\/k=119\/k=112\/k=116\/k=114)/\(j8.getD n ([],[])).2.count 112<=1:=by decide +kernel
  grind
 .simp
theorem agp(h0:0<=N){fin:Int}(hl:mW N l)(hf:In N fin):wo l fin=wq l fin:=by
 cases l with
 | nil=>rfl
 | cons t ts =>
  have hm:0<bj (t::ts):=by have:=iv (t::ts);simp at this;omega
  have hk:bd (t::ts) ((0:Nat):Int) 97=decide (t.tok.kind=97):=by rfl
  unfold wo wq;simp only
  by_cases dy:t.tok.kind=97
  .have ur:bd (t::ts) 0 97=true:=by grind
   have hw:(⟨t::ts,0,fin,ah⟩:af).word=(⟨t.tok.an,t.tok.pos⟩,⟨t::ts,((1:Nat):Int),fin,ah⟩):=by rw[Im ur];rfl
   simp only[hw,aL dy,<-apQ];generalize kb t.tok.an=op
   by_cases hz:op=0
   .grind
   .rw[aB hz,aB hz];obtain⟨f1,f2⟩:=Jn op;have GZ:=Q0 h0 hl hf hm (cm op).2 {ar.zero with op:=op,pos:=t.tok.pos} 1 f1 f2 (λ_=>rfl);rw[show((1:Nat):Int)=1 from rfl] at GZ ⊢;generalize pw (t::ts) fin (cm op).2 {ar.zero with op:=op,pos:=t.tok.pos} 1=R at GZ ⊢
    rcases GZ with ⟨p1,p2⟩ | ⟨p1,p2⟩
    .rw[aL p1];unfold zf
     grind
    .rw[aB (by omega),p2];unfold zf
     by_cases fA:R.2.1<((t::ts).length:Int)
     .rw[aL fA];simp only[qq,aL fA,af.fail,Fx]
     .grind
  .have ur:bd (t::ts) 0 97=false:=by grind
   rw[Il ur,aB dy];rfl
def aax(s:List UInt8):dC s=Dy s:=by
 unfold dC Dy;rw[DF];have h:=(YF s).1;rw[agp (N:=s.length) (by omega) h ⟨by omega,by omega⟩]
 all_goals rfl
theorem Q3(h:c.gj=aa)(h1:1<=c.op):∀q∈nV (cm c.op).2 [c.left,c.right],Cc q.1 c q.2:=by
 simp only[ar.gj,bO,cU] at h;obtain⟨⟨⟨⟨h0,hn⟩,nM⟩,hp⟩,ht⟩:=h;obtain⟨hk,_,_⟩:=Gq h1 h0.2;simp only[ar.nY,ar.kW,ar.lY,ar.kh,eU] at hn nM hp ht;have nm:∀l,qc (l.map aC.an)=aa->f_ l=true:=λl h=>apa h
 simp only[Hg,m_,FY,HE] at hk
 rcases hk with e | e | e | e | e | e | e
 all_goals simp[e] at hn nM hp ht
 all_goals simp[e,nV,isTerm,Cc]
 .grind
 .grind
 .grind
 .grind
 .grind
 .exact hn
mutual
theorem Nd.BK:∀(n m:Nd),n.dm m=aa->m.dm n=aa
 | .mk k p t ws ks, m, h => by
  rw[Nd.DB] at h;simp only[bO,cU] at h;obtain⟨⟨⟨h1,h2⟩,h3⟩,h4⟩:=h;refine xd h1.symm h2.symm ?_ (abz ks m.ae h4);rw[HZ] at h3 ⊢
  grind
theorem abz:∀(a b:List Nd),dY a b=aa->dY b a=aa
 | [],[],_=>by simp[dY]
 | [],_::_,h=>by simp[dY] at h
 | _::_,[],h=>by simp[dY] at h
 | n :: ns, m :: ms, h => by
  simp only[dY,bO] at h ⊢;exact⟨Nd.BK n m h.1,abz ns ms h.2⟩
end
def abp:∀(a b:List (aC × aC)),mS a b=aa->mS b a=aa
 | [],[],_=>rfl
 | [],_::_,h=>by simp[mS] at h
 | _::_,[],h=>by simp[mS] at h
 | p :: ps, q :: qs, h => by
  simp only[mS,bO,cU] at h ⊢;exact⟨⟨h.1.1.symm,h.1.2.symm⟩,abp ps qs h.2⟩
def ar.BK{a b:ar}(h:a.dm b=aa):b.dm a=true:=by
 unfold ar.dm at h ⊢;rw[HZ] at h ⊢;simp only[bO,cU] at h ⊢;obtain⟨⟨⟨⟨⟨h1,h2⟩,h3⟩,h4⟩,h5⟩,h6⟩:=h;exact⟨⟨⟨⟨⟨h1.symm,h2.symm⟩,h3.symm⟩,abp _ _ h4⟩,Nd.BK _ _ h5⟩,Nd.BK _ _ h6⟩
theorem X3{m n:Nd}(h:m.dm n=aa):m.kind=n.kind:=by
 rw[Nd.DB] at h
 grind
def X6{n:Nd}(h:n.ei=aa):n.kind≠0:=by rcases Hm h with ⟨h,_⟩ | ⟨h,_⟩ | ⟨h,_⟩<;>omega
def aaP{n:Nd}(h:n.jl=aa):n.kind≠0:=by rcases HV h with ⟨h,_⟩ | ⟨h,_⟩<;>omega
def aie{d:ar}(h:c.gj=aa)(h1:1<=c.op)(he:Is c (nV (cm c.op).2 [c.left,c.right]) {ar.zero with op:=c.op,pos:=p} d):d.dm c=true:=by
 simp only[ar.gj,bO,cU] at h;obtain⟨⟨⟨⟨h0,hn⟩,nM⟩,hp⟩,ht⟩:=h;obtain⟨hk,_,_⟩:=Gq h1 h0.2;simp only[ar.nY,ar.kW,ar.lY,ar.kh,eU] at hn nM hp ht;simp only[Hg,m_,FY,HE] at hk;have zl:∀n:Nd,n.dm .zero=aa->Nd.zero.dm n=true:=λn h=>Nd.BK _ _ h
 have hz:(Nd.zero).kind=0:=rfl;have w0:c.ak=[]->eX [] c.ak=true:=λe=>by rw[e];rfl
 have p0:c.aX=[]->mS [] c.aX=true:=λe=>by rw[e];rfl
 rcases hk with e | e | e | e | e | e | e
 all_goals simp[e] at hn nM hp ht
 all_goals simp[e,nV,isTerm,Is,Ir] at he
 .obtain⟨c1,⟨w,a1,rfl⟩,ws,a2,rfl⟩:=he;simp[ar.dm,a1,a2,ar.zero,p0 hp,zl _ ht.1,zl _ ht.2]
 .obtain⟨c1,⟨w,a1,rfl⟩,c2,⟨ws,a2,rfl⟩,ps,a3,⟨a,rfl⟩⟩:=he;simp[ar.dm,a1,a2,a3,ar.zero,zl _ ht.1,zl _ ht.2]
 .obtain⟨c1,⟨w,a1,rfl⟩,c2,⟨m,a2,rfl⟩,m2,a3,rfl⟩:=he
  have:=X3 a2
  have:=X6 ht.1
  have hm:m.kind≠0:=by omega
  simp[ar.dm,a1,a2,a3,ar.zero,hz,hm,w0 nM,p0 hp]
 .obtain⟨c1,⟨w,a1,rfl⟩,c2,⟨m,a2,rfl⟩,m2,a3,rfl⟩:=he
  have:=X3 a2
  have:=aaP ht.1
  have hm:m.kind≠0:=by omega
  simp[ar.dm,a1,a2,a3,ar.zero,hz,hm,w0 nM,p0 hp]
 .obtain⟨c1,⟨w,a1,rfl⟩,ws,a2,rfl⟩:=he;simp[ar.dm,a1,a2,ar.zero,p0 hp,zl _ ht.1,zl _ ht.2]
 .subst he;simp[ar.dm,ar.zero,hn,w0 nM,p0 hp,zl _ ht.1,zl _ ht.2]
 .obtain⟨w,a1,rfl⟩:=he;simp[ar.dm,a1,ar.zero,w0 nM,p0 hp,zl _ ht.1,zl _ ht.2]
def agn(h:c.gj=aa)(h1:1<=c.op)(ht:toks.map Tok.sh=H3 c):
 ∃us:List aA,bM us=toks/\gC us/\∀fin:Int,∃d:ar,wo us fin=(d,0,0)/\d.dm c=true:=by
 have pS:c.op<=15:=by simp only[ar.gj,bO,cU] at h;exact h.1.1.1.1.2
 obtain⟨_,k2,k3⟩:=Gq h1 pS;unfold H3 at ht;obtain⟨t1,t2,rfl,a1,a2⟩:=kH.1 ht;obtain⟨u1,n1,f1,w1,b1⟩:=Aq ⟨(cm c.op).1,0⟩ t1 a1;obtain⟨u2,f2,w2,b2⟩:=ZT (nV (cm c.op).2 [c.left,c.right]) (Q3 h h1) (by rw[Qb];exact(Jn c.op).2) t2 a2;refine⟨u1++u2,by rw[jK,f1,f2],by rw[lJ];exact⟨w1,w2⟩,λfin=>?_⟩;obtain⟨y,q1,q2⟩:=b1 (bj u1) (bU _) [] u2 fin;have q1:(at_ [] (u1++u2) fin 0).word=(y,at_ u1 u2 fin 0):=q1;have q2:y.an=(cm c.op).1:=by simpa [rT] using q2
 obtain⟨d,e1,e2⟩:=b2 u1 fin {ar.zero with op:=c.op,pos:=y.pos} (λ_=>rfl);rw[Qb] at e1;refine⟨d,?_,aie h h1 e2⟩;have hq:(⟨u1++u2,0,fin,ah⟩:af).word=(y,at_ u1 u2 fin 0):=q1;obtain⟨t,ts,hu⟩:∃t ts,u1++u2=t::ts:=by
  cases u1 with
  | nil=>exact absurd rfl n1
  | cons t r=>exact⟨t,r++u2,rfl⟩
 rw[hu] at hq ⊢;unfold wo;simp only[hq,q2,k3];rw[aB (by omega),e1];unfold zf;simp[at_]
def aqQ(h:c.gj=aa)(h0:c.op=0):dq c=[]/\ar.zero.dm c=true:=by
 simp only[ar.gj,bO,cU] at h;obtain⟨⟨⟨⟨_,hn⟩,nM⟩,hp⟩,ht⟩:=h;have e:(cm c.op).2=[]:=by rw[h0];rfl
 have e1:(cm c.op).1=[]:=by rw[h0];rfl
 simp only[ar.nY,ar.kW,ar.lY,ar.kh,eU] at hn nM hp ht;simp[e] at hn nM hp ht;have zl:∀n:Nd,n.dm .zero=aa->Nd.zero.dm n=true:=λn h=>Nd.BK _ _ h
 refine⟨by simp[dq,jj,e,e1,iZ],?_⟩;simp[ar.dm,ar.zero,h0,hn,nM,hp,eX,mS,zl _ ht.1,zl _ ht.2]
theorem asS(h:c.gj=aa):(eH (dq c)).2=ah /\
 ((iy (eH (dq c)).1).2=ah->∃d,dC (dq c)=(d,0,0)/\c.dm d=aa)/\(∀a,(iy (eH (dq c)).1).2=U a->dC (dq c)=(.zero,2,a)):=by
 have h0:0<=c.op:=by simp only[ar.gj,bO,cU] at h;exact h.1.1.1.1.1
 have pS:c.op<=15:=by simp only[ar.gj,bO,cU] at h;exact h.1.1.1.1.2
 by_cases hz:c.op=0
 .obtain⟨e1,e2⟩:=aqQ h hz;rw[e1];refine⟨rfl,λ_=>⟨.zero,rfl,ar.BK e2⟩,λa ha=>?_⟩
  have:(iy (eH []).1).2=none:=by rfl
  grind
 .have h1:1<=c.op:=by omega
  obtain⟨_,k2,_⟩:=Gq h1 pS;obtain⟨l1,l2⟩:=aci k2 (Q3 h h1);obtain⟨us,f1,w1,b1⟩:=agn h h1 l2;refine⟨l1,λhd=>?_,λa ha=>?_⟩
  .have ht:(iy (eH (dq c)).1).1=us:=by rw[<-f1] at hd ⊢;exact aco w1 hd
   obtain⟨d,e1,e2⟩:=b1 ((dq c).length:Nat);refine⟨d,?_,ar.BK e2⟩;unfold dC;rw[DF,l1,hd,ht];exact e1
  .unfold dC;rw[DF,l1,ha]
mutual
theorem RR:∀(n m:Nd),n.dm m=aa->n.dn=m.dn
 | .mk k p t ws ks, m, h => by
  rw[Nd.DB] at h;simp only[bO,cU] at h;obtain⟨⟨⟨h1,h2⟩,h3⟩,h4⟩:=h;rw[HZ] at h3;simp only[cU] at h3;have h5:dV (Nd.mk k p t ws ks).ae=dV m.ae:=abw ks m.ae h4;have h6:gX (Nd.mk k p t ws ks).ak=gX m.ak:=by unfold gX;rw[h3]
  have h7:(Nd.mk k p t ws ks).ak.length=m.ak.length:=by have:=mf List.length h3;simpa using this
  rw[Nd.xk (.mk k p t ws ks),Nd.xk m,h1,h2,h5,h6]
  grind
theorem abw:∀(a b:List Nd),dY a b=aa->dV a=dV b
 | [],[],_=>rfl
 | [],_::_,h=>by simp[dY] at h
 | _::_,[],h=>by simp[dY] at h
 | n :: ns, m :: ms, h => by
  simp only[dY,bO] at h;simp only[dV,RR n m h.1,abw ns ms h.2]
end
def abq:∀(a b:List (aC × aC)),mS a b=aa->a.map ja=b.map ja
 | [],[],_=>rfl
 | [],_::_,h=>by simp[mS] at h
 | _::_,[],h=>by simp[mS] at h
 | p :: ps, q :: qs, h => by
  simp only[mS,bO,cU] at h;simp only[cQ,ja,h.1.1,h.1.2,abq ps qs h.2]
theorem aug{a b:ar}(h:a.dm b=aa):dq a=dq b:=by
 unfold ar.dm at h;rw[HZ] at h;simp only[bO,cU] at h;obtain⟨⟨⟨⟨⟨h1,h2⟩,h3⟩,h4⟩,h5⟩,h6⟩:=h;have hp:=abq _ _ h4;have key:∀(ks:List UInt8) (ts us:List Nd),ts.map Nd.dn=us.map Nd.dn->(nV ks ts).map (λq=>ke q.1 a q.2)=(nV ks us).map (λq=>ke q.1 b q.2):=by
  intro ks;induction ks with
  | nil=>intros;rfl
  | cons k ks ih =>
   intro ts us vN;have hh:(ts.headD .zero).dn=(us.headD .zero).dn:=by
    cases ts with
    | nil => cases us with
     | nil=>rfl
     | cons=>simp at vN
    | cons => cases us with
     | nil=>simp at vN
     | cons=>simp at vN;exact vN.1
   have ht:(if isTerm k=aa then ts.tail else ts).map Nd.dn=(if isTerm k=aa then us.tail else us).map Nd.dn:=by
    split
    .simp_all
    .omega
   simp only[nV,cQ,ih _ _ ht];congr 1;unfold ke
   grind
 rw[Lp,Lp,h1,key _ [a.left,a.right] [b.left,b.right] (by simp[RR _ _ h5,RR _ _ h6])]
def D1(t:Tok):Prop:=(t.kind=97/\dp t.an=aa)\/∃c:UInt8,t.kind=(c.toNat:Nat)/\t.an=[c]/\(lD (c.toNat:Nat)&&!gh c&&decide (c.toNat≠45))=aa
theorem auP(c:UInt8)(h:lD (c.toNat:Nat)=aa):(lD (c.toNat:Nat)&&!gh c&&decide (c.toNat≠45))=true:=by
 have key:∀n<256,lD ((UInt8.ofNat n).toNat:Nat)=aa->(lD ((UInt8.ofNat n).toNat:Nat)&&!gh (UInt8.ofNat n)&&decide ((UInt8.ofNat n).toNat≠45))=true:=by decide +kernel
 have:=key c.toNat c.toNat_lt
 simp_all
theorem KD:∀(n p:Nat) (r:List UInt8) (acc:List Tok),(∀t∈acc,D1 t)->∀t∈(fO n p r acc).1,D1 t
 | 0,_,r,acc,h=>by cases r<;>simpa [fO] using h
 | n+1,p,[],acc,h=>by simpa [fO] using h
 | n + 1, p, c :: r, acc, h => by
  simp only[fO];split
  .exact h
  .split
   .rename_i hr;refine KD n _ _ _ λt ht=>?_
    rcases lk.1 ht with ht | ht
    .grind
    .rw[u7.1 ht];exact .inl ⟨rfl,hr.2⟩
   .split
    .rename_i hs;refine KD n _ _ _ λt ht=>?_
     rcases lk.1 ht with ht | ht
     .grind
     .rw[u7.1 ht];exact .inr ⟨c,rfl,rfl,auP c hs⟩
    .split
     .exact KD n _ _ _ h
     .simp
def qt(l:List Tok):Nat:=(l.map λt=>t.an.length+1).sum
def LB(a b:List Tok):qt (a++b)=qt a+qt b:=by simp[qt]
def KE:∀(n p:Nat) (r:List UInt8) (acc:List Tok),qt (fO n p r acc).1<=qt acc+2*r.length
 | 0,_,r,acc=>by cases r<;>simp[fO]
 | n+1,p,[],acc=>by simp[fO]
 | n + 1, p, c :: r, acc => by
  simp only[fO];have hr:=RG (c::r);simp only[da] at hr ⊢;split
  .simp
  .split
   .rename_i h1
    have:=KE n (p+(eR (c::r)).length) ((c::r).drop (eR (c::r)).length) (acc++[⟨97,eR (c::r),p⟩])
    simp only[LB,List.length_drop,da] at this;simp only[qt,cQ,fp,pJ,u9] at this ⊢;omega
   .split
    .have:=KE n (p+1) r (acc++[⟨(c.toNat:Nat),[c],p⟩])
     simp only[LB] at this;simp only[qt,cQ,fp,pJ,u9,da,cZ] at this ⊢;omega
    .split
     .have:=KE n (p+1) r acc;omega
     .simp[qt]
theorem YB:∀(toks:List Tok) (k:Option Int),(∀t∈toks,D1 t)->o6 (kj k toks) (toks.map Tok.sh)/\(k=U 97->Stop (kj k toks))
 | [],k,_=>⟨lex_nil,λ_=>trivial⟩
 | t :: ts, k, h => by
  obtain⟨h1,h2⟩:=YB ts (U t.kind) λx hx=>h x (by simp[hx])
  rcases h t (by simp) with ⟨hk,hn⟩ | ⟨c,hk,ht,hc⟩
  .have hl:o6 (t.an++kj (U t.kind) ts) ((t::ts).map Tok.sh):=by
    have:=Yw hn (h2 (by rw[hk])) h1
    have e:t.sh=ig t.an:=by unfold Tok.sh ig;rw[hk]
    grind
   by_cases Xd:k=U 97
   .have e:kj k (t::ts)=[32]++(t.an++kj (U t.kind) ts):=by simp[kj,Xd,hk]
    rw[e];exact⟨Yz hl,λ_=>show gh 32=aq by decide⟩
   .have e:kj k (t::ts)=t.an++kj (U t.kind) ts:=by simp[kj,Xd]
    grind
  .simp only[bO,v_,cU] at hc;have dy:t.kind≠97:=λe=>by
    have h3:=hc.1.1;rw[<-hk,e] at h3;revert h3;decide
   have e:kj k (t::ts)=[c]++kj (U t.kind) ts:=by simp[kj,dy,ht]
   rw[e];have es:t.sh=bZ c:=by unfold Tok.sh bZ;rw[hk,ht]
   rw[cQ,es];exact⟨Yy hc.1.1 hc.1.2 hc.2 h1,λ_=>hc.1.2⟩
theorem anW{s:List UInt8}{a b:List Sh}(h:o6 s a)(k:o6 s b):a=b:=by
 obtain⟨x,e1,e2⟩:=h s.length 0 [] (bU _);obtain⟨y,f1,f2⟩:=k s.length 0 [] (bU _)
 grind
def abW{T:List UInt8}{S:List Sh}(h:∀t∈toks,D1 t)(hL:lG T S)(ht:gu toks=T):toks.map Tok.sh=S:=by
 have h1:o6 (T++[]) (S++[]):=hL [] [] trivial lex_nil;rw[eC,eC,<-ht] at h1;exact anW (YB toks ah h).1 h1
theorem Sj:∀(toks:List Tok) (k:Option Int),(kj k toks).length<=qt toks
 | [],k=>by simp[kj]
 | t :: ts, k => by
  have:=Sj ts (U t.kind)
  simp only[kj,bL,qt,cQ,pJ] at this ⊢
  grind
def avz(h:toks≠[]):(gu toks).length+1<=qt toks:=by
 cases toks with
 | nil=>exact absurd rfl h
 | cons t ts =>
  have:=Sj ts (U t.kind)
  simp only[gu,kj,bL,qt,cQ,pJ,reduceCtorEq,Ej,cz,cZ] at this ⊢;omega
theorem anj{l m:List Tok}(h:l.map Tok.kind=m.map Tok.kind)(i:Nat):eP l i=eP m i:=by
 have e:∀x:List Tok,eP x i=((x.map Tok.kind)[i]?).getD 0:=λx=>by
  unfold eP;rw[AD];cases x[i]?<;>rfl
 grind
def VJ{l m:List Tok}(h:l.map Tok.kind=m.map Tok.kind):∀n i o,kS l n i o=kS m n i o
 | 0,_,_=>rfl
 | n + 1, i, o => by
  have hk:eP l=eP m:=funext (anj h);have ih:kS l n=kS m n:=funext λi=>funext λo=>VJ h n i o
  simp only[kS,hk,ih]
theorem avM{l m:List Tok}(h:l.map Tok.sh=m.map Tok.sh)(hn:(iy l).2=ah):(iy m).2=none:=by
 have hk:l.map Tok.kind=m.map Tok.kind:=by
  have:=mf (List.map Prod.fst) h
  simpa [FV,yL,Tok.sh] using this
 have hl:l.length=m.length:=by simpa using mf List.length h
 unfold iy at hn ⊢;rw[VJ hk,hl] at hn
 grind
variable{seg:List aA}
theorem M9{r':af}(h:jQ r r' seg):0<=r.at_/\r'.at_=r.at_+(seg.length:Nat)/\r'.at_<=(r.l.length:Nat):=by
 obtain⟨pre,post,e1,e2,e3⟩:=h.ex
 grind
def Jb{r':af}(h:jQ r r' seg)(hg:fV r.l):fV r'.l:=by rw[h.l];exact hg
def amZ(x y:List UInt8)(l:List (List UInt8)):b_ (x::y::l)=x++[44]++b_ (y::l):=by simp[b_]
theorem ahJ{t:aA}{i:af}(h:jQ t.inner i seg)(he:i.at_=(t.ae.length:Nat)):seg=t.ae:=by
 obtain⟨pre,post,e1,e2,e3⟩:=h.ex;have e0:t.inner.at_=0:=rfl;have el:t.inner.l=t.ae:=rfl;rw[e0] at e2;have hp:pre=[]:=m0.1 (by omega);subst hp;rw[el] at e1;have hq:post=[]:=by
  rw[e3,e1] at he;simp only[gK,bL] at he;exact m0.1 (by omega)
 grind
theorem ZJ:∀(n:Nat) (i:af) (acc:List (aC × aC)),fV i.l->i.at_<=(i.l.length:Nat)->(i.l.length:Int)<n+i.at_->(af.iR n i acc).1.aO=ah ->
 ∃seg ps,jQ i (af.iR n i acc).1 seg/\(af.iR n i acc).2=acc++ps/\ps≠[]/\gu (bM seg)=b_ (ps.map ja)/\ps.all kc=aa/\(af.iR n i acc).1.at_=(i.l.length:Nat)
 | 0,i,acc,_,h1,h2,_=>by omega
 | n + 1, i, acc, hg, h1, h2, hb => by
  have JZ:i.aO=none:=by
   cases hq:i.aO with
   | none=>rfl
   | some b=>have:=BF hq (n+1) acc;rw[hb] at this;simp at this
  have one:∀(hc:((i.word.2.take 60).2.word).2.aO=ah),∃seg,jQ i ((i.word.2.take 60).2.word).2 seg/\0<seg.length/\gu (bM seg)=ja (i.word.1,((i.word.2.take 60).2.word).1)/\kc (i.word.1,((i.word.2.take 60).2.word).1)=true:=by
   intro hc;have l1:i.word.2.l=i.l:=i.gW 97;have l2:(i.word.2.take 60).2.l=i.l:=(af.gW _ 60).trans l1;obtain⟨s3,Vh,e32,e33,_⟩:=yI (i.word.2.take 60).2 (by rw[l2];exact hg) hc;obtain⟨c1,c2⟩:=q_ Vh.b;obtain⟨s1,e11,e12,e13,_⟩:=yI i hg c1.b;have pY:=(c1.lu (by rw[l1];exact hg)).1;refine⟨s1++[(i.word.2.take 60).1]++s3,(e11.trans c1).trans Vh,by simp only[bL,eZ];omega,?_,?_⟩
   .rw[Ai (by rw[c2];decide) (by rw[c2];rfl),e12,e32,tN pY c2 (by decide)];rfl
   .simp[kc,e13,e33]
  simp only[af.iR] at hb ⊢;rw[aB (by simp[JZ])] at hb ⊢;split
  .rename_i fA;rw[aL fA] at hb;obtain⟨seg,e1,_,e2,e3⟩:=one hb;refine⟨seg,[(i.word.1,((i.word.2.take 60).2.word).1)],e1,rfl,by simp,?_,?_,fA⟩
   .rw[e2];simp[b_]
   .grind
  .rename_i fA;rw[aB fA] at hb;have hq:(((i.word.2.take 60).2.word).2.take 44).2.aO=none:=by
    cases hq:(((i.word.2.take 60).2.word).2.take 44).2.aO with
    | none=>rfl
    | some b=>have:=BF hq n (acc++[(i.word.1,((i.word.2.take 60).2.word).1)]);rw[hb] at this;simp at this
   obtain⟨c1,c2⟩:=q_ hq;obtain⟨seg,e1,e0,e2,e3⟩:=one c1.b;have et:=e1.trans c1;have pY:=(c1.lu (Jb e1 hg)).1;obtain⟨a1,a2,a3⟩:=M9 et;have hl:(((i.word.2.take 60).2.word).2.take 44).2.l=i.l:=et.l;simp only[bL,eZ] at a2;obtain⟨sg,ps,g1,g2,g3,g4,g5,g6⟩:=ZJ n (((i.word.2.take 60).2.word).2.take 44).2 (acc++[(i.word.1,((i.word.2.take 60).2.word).1)]) (Jb et hg) (by rw[hl];exact a3) (by rw[hl];omega) hb;refine⟨seg++[(((i.word.2.take 60).2.word).2.take 44).1]++sg,(i.word.1,((i.word.2.take 60).2.word).1)::ps,et.trans g1,?_,by simp,?_,?_,?_⟩
   .grind
   .rw[Ai (by rw[c2];decide) (by rw[c2];rfl),e2,g4,tN pY c2 (by decide)];obtain⟨p,qs,rfl⟩:∃p qs,ps=p::qs:=by
     cases ps with
     | nil=>exact absurd rfl g3
     | cons p qs=>exact⟨p,qs,rfl⟩
    simp only[cQ,amZ];rfl
   .grind
   .grind
def yM(k:UInt8)(seg:List aA)(c0 c1:ar):Prop :=
 (k=110/\∃w:aC,dp w.an=aa/\gu (bM seg)=w.an/\c1={c0 with name:=w}) \/
 (k=102/\∃w:aC,dp w.an=aa/\gu (bM seg)=w.an/\c1={c0 with ak:=[w]}) \/
 (k=119/\∃ws:List aC,0<ws.length/\f_ ws=aa/\gu (bM seg)=[123]++gX ws++[125]/\c1={c0 with ak:=ws}) \/
 (k=112/\∃(ps:List (aC × aC)) (a:Int),ps.all kc=aa/\gu (bM seg)=y9 (ps.map ja)/\c1={c0 with aX:=ps,qe:=a}) \/
 (k=116/\∃m:Nd,m.ei=aa/\gu (bM seg)=m.dn/\c1=if c0.left.kind=0 then {c0 with left:=m} else {c0 with right:=m}) \/
 (k=114/\∃m:Nd,m.jl=aa/\gu (bM seg)=m.dn/\c1=if c0.left.kind=0 then {c0 with left:=m} else {c0 with right:=m})
def abG(h:0<kg seg):seg≠[]:=λe=>by rw[e] at h;simp[kg,bj] at h
def Zm{fin:Int}{one:af->Nd × af}{Q:Nd->Prop}(hs:Sound one Nd.dn Q SN)(hg:fV l)(hb:(ka ⟨l,a,fin,ah⟩ c (gJ one l a fin)).1.aO=ah):
 ∃seg m,seg≠[]/\jQ ⟨l,a,fin,ah⟩ (ka ⟨l,a,fin,ah⟩ c (gJ one l a fin)).1 seg/\Q m/\gu (bM seg)=m.dn/\(ka ⟨l,a,fin,ah⟩ c (gJ one l a fin)).2=if c.left.kind=0 then {c with left:=m} else {c with right:=m}:=by
 unfold gJ at hb ⊢;cases hq:(one ⟨l,a,fin,ah⟩).2.aO with
 | some b=>rw[hq] at hb;simp[ka] at hb
 | none =>
  obtain⟨seg,e1,e2,e3,e4⟩:=hs ⟨l,a,fin,ah⟩ hg hq;refine⟨seg,_,abG ?_,⟨e1.ex,rfl,rfl,rfl⟩,e3,e2,rfl⟩;simp only[SN] at e4;omega
theorem arq{k:UInt8}(hk:k=110\/k=102\/k=119\/k=112\/k=116\/k=114)(hg:fV x.1.l)(hp:k=112->x.2.aX=[])(hb:(e_ k x).1.aO=ah):
 ∃seg,seg≠[]/\jQ x.1 (e_ k x).1 seg/\yM k seg x.2 (e_ k x).2:=by
 obtain⟨⟨l,a,fin,aO⟩,c⟩:=x;have Pa:aO=none:=by
  cases aO with
  | none=>rfl
  | some b=>simp[e_] at hb
 subst Pa;have uC:∀(h:(⟨l,a,fin,ah⟩:af).word.2.aO=ah),∃seg,seg≠[]/\jQ ⟨l,a,fin,ah⟩ (⟨l,a,fin,ah⟩:af).word.2 seg/\gu (bM seg)=(⟨l,a,fin,ah⟩:af).word.1.an/\dp (⟨l,a,fin,ah⟩:af).word.1.an=true:=λh=>by
  obtain⟨seg,e1,e2,e3,e4⟩:=yI ⟨l,a,fin,ah⟩ hg h;exact⟨seg,abG (by simp only[SW] at e4;omega),e1,e2,e3⟩
 rcases hk with rfl | rfl | rfl | rfl | rfl | rfl
 .have e:e_ 110 (⟨l,a,fin,ah⟩,c)=((⟨l,a,fin,ah⟩:af).word.2,{c with name:=(⟨l,a,fin,ah⟩:af).word.1}):=by rfl
  rw[e] at hb ⊢;obtain⟨seg,h1,h2,h3,h4⟩:=uC hb;exact⟨seg,h1,h2,.inl ⟨rfl,_,h4,h3,rfl⟩⟩
 .have e:e_ 102 (⟨l,a,fin,ah⟩,c)=((⟨l,a,fin,ah⟩:af).word.2,{c with ak:=[(⟨l,a,fin,ah⟩:af).word.1]}):=by rfl
  rw[e] at hb ⊢;obtain⟨seg,h1,h2,h3,h4⟩:=uC hb;exact⟨seg,h1,h2,.inr (.inl ⟨rfl,_,h4,h3,rfl⟩)⟩
 .have e:e_ 119 (⟨l,a,fin,ah⟩,c)=(⟨l,a+1,fin,(kE l a fin).2⟩,{c with ak:=(kE l a fin).1}):=by rfl
  rw[e] at hb ⊢;have hw:((⟨l,a,fin,ah⟩:af).words aq).2.aO=none:=by
   cases hq:((⟨l,a,fin,ah⟩:af).words aq).2.aO with
   | none=>rfl
   | some b=>simp[kE,hq] at hb
  have ew:kE l a fin=(((⟨l,a,fin,ah⟩:af).words aq).1.1,ah):=by simp[kE,hw]
  obtain⟨t,b1,b2,b3,b4,_,b6⟩:=MI (one:=af.word) yI (k:=123) (e:=false) (r:=⟨l,a,fin,ah⟩) hg hw;have nG:=(b1.lu hg).1;rw[ew];refine⟨[t],by simp,?_,.inr (.inr (.inl ⟨rfl,_,b6 rfl,Rx b4,?_,rfl⟩))⟩
  .obtain⟨pre,post,e1,e2,e3⟩:=b1.ex;have e2:a=(pre.length:Nat):=e2;refine⟨⟨pre,post,e1,e2,?_⟩,rfl,rfl,rfl⟩
   grind
  .rw[FC (by rw[b2];decide),b3,tN nG b2 (by decide),b2];rfl
 .have hp:=hp rfl;have e:e_ 112 (⟨l,a,fin,ah⟩,c)=rK ⟨l,a,fin,ah⟩ c:=by rfl
  rw[e] at hb ⊢;unfold rK at hb ⊢;simp only at hb ⊢ hp;split
  .rename_i hc;rw[aL hc] at hb;have hb:((⟨l,a,fin,ah⟩:af).take 123).2.aO=none:=hb;obtain⟨t1,t2⟩:=q_ hb;have nG:=(t1.lu hg).1;have mD:((⟨l,a,fin,ah⟩:af).take 123).1.ae=[]:=by grind
   refine⟨[((⟨l,a,fin,ah⟩:af).take 123).1],by simp,t1,.inr (.inr (.inr (.inl ⟨rfl,[],((⟨l,a,fin,ah⟩:af).take 123).1.tok.pos,rfl,?_,?_⟩)))⟩
   .rw[FC (by rw[t2];decide),mD,tN nG t2 (by decide),t2];rfl
   .grind
  .rename_i hc;rw[aB hc] at hb;have h1:((⟨l,a,fin,ah⟩:af).take 123).2.aO=none:=by
    cases hq:((⟨l,a,fin,ah⟩:af).take 123).2.aO with
    | none=>rfl
    | some b=>exact absurd (.inl (by rw[hq];simp)) hc
   obtain⟨t1,t2⟩:=q_ h1;have nG:=(t1.lu hg).1;have wH:=((A5 _).1 nG).2.2;generalize ((⟨l,a,fin,ah⟩:af).take 123).2=r1 at hb t1 h1 ⊢;generalize ((⟨l,a,fin,ah⟩:af).take 123).1=t at hb t1 t2 nG wH ⊢;have hG:(af.iR (t.ae.length+1) t.inner []).1.aO=none:=by
    cases hq:(af.iR (t.ae.length+1) t.inner []).1.aO with
    | none=>rfl
    | some b=>rw[hq] at hb;simp[af.xF] at hb
   have el:t.inner.l=t.ae:=rfl;have ea:t.inner.at_=0:=rfl;obtain⟨sg,ps,g1,g2,g3,g4,g5,g6⟩:=ZJ (t.ae.length+1) t.inner [] wH (by rw[ea];omega) (by rw[el,ea];omega) hG;have hs:=ahJ g1 g6;subst hs;refine⟨[t],by simp,?_,.inr (.inr (.inr (.inl ⟨rfl,ps,t.tok.pos,g5,?_,?_⟩)))⟩
   .rw[hG];exact t1
   .rw[FC (by rw[t2];decide),g4,tN nG t2 (by decide),t2];rfl
   .grind
 .have e:e_ 116 (⟨l,a,fin,ah⟩,c)=ka ⟨l,a,fin,ah⟩ c (gJ (af.label (bj l)) l a fin):=by rfl
  rw[e] at hb ⊢;obtain⟨seg,m,h1,h2,h3,h4,h5⟩:=Zm (Kw (bj l)) hg hb;exact⟨seg,h1,h2,.inr (.inr (.inr (.inr (.inl ⟨rfl,m,h3,h4,h5⟩))))⟩
 .have e:e_ 114 (⟨l,a,fin,ah⟩,c)=ka ⟨l,a,fin,ah⟩ c (gJ (af.row (bj l)) l a fin):=by rfl
  rw[e] at hb ⊢;obtain⟨seg,m,h1,h2,h3,h4,h5⟩:=Zm (aaQ (bj l)) hg hb;exact⟨seg,h1,h2,.inr (.inr (.inr (.inr (.inr ⟨rfl,m,h3,h4,h5⟩))))⟩
def LY:List UInt8->List aA->ar->ar->Prop
 | [],us,c0,c1=>us=[]/\c1=c0
 | k::ks,us,c0,c2=>∃a b c1,us=a++b/\a≠[]/\yM k a c0 c1/\LY ks b c1 c2
theorem ak'{k:UInt8}(hk:k≠112)(h:yM k seg c0 c1):c1.aX=c0.aX:=by
 rcases h with ⟨_,w,_,_,rfl⟩ | ⟨_,w,_,_,rfl⟩ | ⟨_,w,_,_,_,rfl⟩ | ⟨h,_⟩ | ⟨_,m,_,_,rfl⟩ | ⟨_,m,_,_,rfl⟩
 .rfl
 .rfl
 .rfl
 .grind
 .grind
 .grind
theorem ZV:∀(ks:List UInt8) (x:af × ar),KA ks->ks.count 112<=1->(112∈ks->x.2.aX=[])->fV x.1.l->x.1.aO=ah->0<=x.1.at_->x.1.at_<=(x.1.l.length:Nat)->(jP ks x).1.aO=ah ->
 ∃us,jQ x.1 (jP ks x).1 us/\LY ks us x.2 (jP ks x).2
 | [], x, _, _, _, _, hb, h0, h1, _ => by
  refine⟨[],⟨⟨x.1.l.take x.1.at_.toNat,x.1.l.drop x.1.at_.toNat,by simp,?_,?_⟩,rfl,hb,hb⟩,rfl,rfl⟩
  .grind
  .show x.1.at_=_
   grind
 | k :: ks, x, hk, hc, hp, hg, hb, h0, h1, hn => by
  simp only[jP] at hn ⊢;have dX:(e_ k x).1.aO=none:=by
   cases hq:(e_ k x).1.aO with
   | none=>rfl
   | some b=>have:=KX (N:=0) (Int.le_refl 0) ks _ hq;rw[hn] at this;simp at this
  obtain⟨sg,n1,e1,g1⟩:=arq (hk k (by simp)) hg (λe=>hp (by simp[e])) dX;obtain⟨a1,a2,a3⟩:=M9 e1;have GK:ks.count 112<=1:=by grind
  obtain⟨us,e2,g2⟩:=ZV ks (e_ k x) (λk h=>hk k (by simp[h])) GK (λhm=>by
   by_cases e:k=112
   .grind
   .rw[ak' e g1];exact hp (by simp[hm])) (Jb e1 hg) dX (by omega) (by rw[e1.l];exact a3) hn
  exact⟨sg++us,e1.trans e2,sg,us,_,rfl,n1,g1,g2⟩
def Ep(h:yM 110 seg c0 c1):∃w:aC,dp w.an=aa/\gu (bM seg)=w.an/\c1={c0 with name:=w}:=by rcases h with ⟨_,h⟩ | ⟨e,_⟩ | ⟨e,_⟩ | ⟨e,_⟩ | ⟨e,_⟩ | ⟨e,_⟩<;>first | exact h | exact absurd e (by decide)
def ak9(h:yM 102 seg c0 c1):∃w:aC,dp w.an=aa/\gu (bM seg)=w.an/\c1={c0 with ak:=[w]}:=by rcases h with ⟨e,_⟩ | ⟨_,h⟩ | ⟨e,_⟩ | ⟨e,_⟩ | ⟨e,_⟩ | ⟨e,_⟩<;>first | exact h | exact absurd e (by decide)
def Wx(h:yM 119 seg c0 c1):∃ws:List aC,0<ws.length/\f_ ws=aa/\gu (bM seg)=[123]++gX ws++[125]/\c1={c0 with ak:=ws}:=by rcases h with ⟨e,_⟩ | ⟨e,_⟩ | ⟨_,h⟩ | ⟨e,_⟩ | ⟨e,_⟩ | ⟨e,_⟩<;>first | exact h | exact absurd e (by decide)
def ak_(h:yM 112 seg c0 c1):∃(ps:List (aC × aC)) (a:Int),ps.all kc=aa/\gu (bM seg)=y9 (ps.map ja)/\c1={c0 with aX:=ps,qe:=a}:=by rcases h with ⟨e,_⟩ | ⟨e,_⟩ | ⟨e,_⟩ | ⟨_,h⟩ | ⟨e,_⟩ | ⟨e,_⟩<;>first | exact h | exact absurd e (by decide)
def Ww(h:yM 116 seg c0 c1):∃m:Nd,m.ei=aa/\gu (bM seg)=m.dn/\c1=if c0.left.kind=0 then {c0 with left:=m} else {c0 with right:=m}:=by rcases h with ⟨e,_⟩ | ⟨e,_⟩ | ⟨e,_⟩ | ⟨e,_⟩ | ⟨_,h⟩ | ⟨e,_⟩<;>first | exact h | exact absurd e (by decide)
def Wv(h:yM 114 seg c0 c1):∃m:Nd,m.jl=aa/\gu (bM seg)=m.dn/\c1=if c0.left.kind=0 then {c0 with left:=m} else {c0 with right:=m}:=by rcases h with ⟨e,_⟩ | ⟨e,_⟩ | ⟨e,_⟩ | ⟨e,_⟩ | ⟨e,_⟩ | ⟨_,h⟩<;>first | exact h | exact absurd e (by decide)
def F7(c:ar):List (UInt8 × Nd)->List aA->Prop
 | [],us=>us=[]
 | q::qs,us=>∃a b,us=a++b/\a≠[]/\Cc q.1 c q.2/\gu (bM a)=ke q.1 c q.2/\F7 c qs b
def aaD(h:f_ ws=aa):qc (ws.map aC.an)=true:=by
 simp only[qc,S6];exact h
theorem ala{op:Int}(h1:1<=op)(h2:op<=15)(h:LY (cm op).2 us {ar.zero with op:=op,pos:=p} c):c.op=op/\c.gj=aa/\F7 c (nV (cm op).2 [c.left,c.right]) us:=by
 obtain⟨hk,_,_⟩:=Gq h1 h2;simp only[Hg,m_,FY,HE] at hk;have hz:(Nd.zero).kind=0:=rfl;have zz:=Nd.HY Nd.zero;have h0:0<=op:=by omega
 rcases hk with e | e | e | e | e | e | e
 all_goals rw[e] at h
 .obtain⟨a,b,c1,rfl,na,ga,a2,b2,c2,rfl,nb,gb,rfl,rfl⟩:=h;obtain⟨w,w1,w2,rfl⟩:=Ep ga;obtain⟨ws,v1,v2,v3,rfl⟩:=Wx gb;refine⟨rfl,?_,?_⟩
  .simp[ar.gj,ar.nY,ar.kW,ar.lY,ar.kh,eU,e,h0,h2,w1,v1,aaD v2,ar.zero,zz]
  .rw[e];exact⟨a,_,rfl,na,.inl ⟨rfl,w1⟩,w2,a2,[],rfl,nb,.inr (.inr (.inl ⟨rfl,v1,v2⟩)),v3,rfl⟩
 .obtain⟨a,b,c1,rfl,na,ga,a2,b2,c2,rfl,nb,gb,a3,b3,c3,rfl,nc,gc,rfl,rfl⟩:=h;obtain⟨w,w1,w2,rfl⟩:=Ep ga;obtain⟨ws,v1,v2,v3,rfl⟩:=Wx gb;obtain⟨ps,pa,u1,u2,rfl⟩:=ak_ gc;refine⟨rfl,?_,?_⟩
  .simp only[ma] at u1;simp[ar.gj,ar.nY,ar.kW,ar.lY,ar.kh,eU,e,h0,h2,w1,v1,aaD v2,ar.zero,zz]
   grind
  .rw[e];exact⟨a,_,rfl,na,.inl ⟨rfl,w1⟩,w2,a2,_,rfl,nb,.inr (.inr (.inl ⟨rfl,v1,v2⟩)),v3,a3,[],rfl,nc,.inr (.inr (.inr (.inl ⟨rfl,u1⟩))),u2,rfl⟩
 .obtain⟨a,b,c1,rfl,na,ga,a2,b2,c2,rfl,nb,gb,a3,b3,c3,rfl,nc,gc,rfl,rfl⟩:=h;obtain⟨w,w1,w2,rfl⟩:=Ep ga;obtain⟨m,v1,v2,rfl⟩:=Ww gb;obtain⟨m2,u1,u2,rfl⟩:=Ww gc;have hm:=X6 v1;rw[aL (show({ar.zero with op:=op,pos:=p,name:=w}:ar).left.kind=0 from rfl),aB hm];refine⟨rfl,?_,?_⟩
  .simp[ar.gj,ar.nY,ar.kW,ar.lY,ar.kh,eU,e,h0,h2,w1,v1,u1,ar.zero]
  .rw[e];exact⟨a,_,rfl,na,.inl ⟨rfl,w1⟩,w2,a2,_,rfl,nb,.inr (.inr (.inr (.inr (.inl ⟨rfl,v1⟩)))),v2,a3,[],rfl,nc,.inr (.inr (.inr (.inr (.inl ⟨rfl,u1⟩)))),u2,rfl⟩
 .obtain⟨a,b,c1,rfl,na,ga,a2,b2,c2,rfl,nb,gb,a3,b3,c3,rfl,nc,gc,rfl,rfl⟩:=h;obtain⟨w,w1,w2,rfl⟩:=Ep ga;obtain⟨m,v1,v2,rfl⟩:=Wv gb;obtain⟨m2,u1,u2,rfl⟩:=Wv gc;have hm:=aaP v1;rw[aL (show({ar.zero with op:=op,pos:=p,name:=w}:ar).left.kind=0 from rfl),aB hm];refine⟨rfl,?_,?_⟩
  .simp[ar.gj,ar.nY,ar.kW,ar.lY,ar.kh,eU,e,h0,h2,w1,v1,u1,ar.zero]
  .rw[e];exact⟨a,_,rfl,na,.inl ⟨rfl,w1⟩,w2,a2,_,rfl,nb,.inr (.inr (.inr (.inr (.inr ⟨rfl,v1⟩)))),v2,a3,[],rfl,nc,.inr (.inr (.inr (.inr (.inr ⟨rfl,u1⟩)))),u2,rfl⟩
 .obtain⟨a,b,c1,rfl,na,ga,a2,b2,c2,rfl,nb,gb,rfl,rfl⟩:=h;obtain⟨w,w1,w2,rfl⟩:=Ep ga;obtain⟨w',v1,v2,rfl⟩:=ak9 gb;refine⟨rfl,?_,?_⟩
  .simp[ar.gj,ar.nY,ar.kW,ar.lY,ar.kh,eU,e,h0,h2,w1,v1,qc,ar.zero,zz]
  .rw[e];exact⟨a,_,rfl,na,.inl ⟨rfl,w1⟩,w2,a2,[],rfl,nb,.inr (.inl ⟨rfl,rfl,Rx (by simp[v1])⟩),by rw[v2];simp[ke,b_],rfl⟩
 .obtain⟨rfl,rfl⟩:=h;refine⟨rfl,?_,by rw[e];rfl⟩;simp[ar.gj,ar.nY,ar.kW,ar.lY,ar.kh,eU,e,h0,h2,ar.zero,zz]
 .obtain⟨a,b,c1,rfl,na,ga,rfl,rfl⟩:=h;obtain⟨w,w1,w2,rfl⟩:=Ep ga;refine⟨rfl,?_,?_⟩
  .simp[ar.gj,ar.nY,ar.kW,ar.lY,ar.kh,eU,e,h0,h2,w1,ar.zero,zz]
  .rw[e];exact⟨a,[],rfl,na,.inl ⟨rfl,w1⟩,w2,rfl⟩
def ajo{a:List aA}(h:a≠[]):bM a≠[]:=by
 cases a with
 | nil=>exact absurd rfl h
 | cons t ts=>cases t;simp[bM,aA.flat]
def abI{c:ar}:∀(qs:List (UInt8 × Nd)) (us:List aA),F7 c qs us->(∀t∈bM us,D1 t)->(bM us).map Tok.sh=(qs.map λq=>Dt q.1 c q.2).flatten
 | [],us,h,_=>by have h:us=[]:=h;subst h;rfl
 | q :: qs, us, ⟨a, b, e, _, h1, h2, h3⟩, ht => by
  subst e;rw[jK] at ht ⊢;rw[gm,cQ,lj,abI qs b h3 λt h=>ht t (by simp[h]),abW (λt h=>ht t (by simp[h])) (ZX h1) h2]
theorem abH{c:ar}:∀(qs:List (UInt8 × Nd)) (us:List aA),F7 c qs us->((qs.map λq=>ke q.1 c q.2).flatMap λy=>[32]++y).length<=qt (bM us)
 | [],us,h=>by simp
 | q :: qs, us, ⟨a, b, e, h0, h1, h2, h3⟩ => by
  subst e;have ih:=abH qs b h3;have h4:=avz (ajo h0);rw[h2] at h4;rw[jK,LB,cQ,o7,bL,bL]
  grind
theorem Zo{w:List UInt8}:∀(n op:Nat),qR w n op≠0->(cm (qR w n op)).1=w/\1<=qR w n op/\qR w n op<op+n
 | 0,op,h=>by simp[qR] at h
 | n + 1, op, h => by
  simp only[qR] at h ⊢;split
  .grind
  .rename_i hc;rw[aB hc] at h;obtain⟨h1,h2,h3⟩:=Zo n (op+1) h
   grind
theorem agm{fin:Int}(hg:fV l)(h:wo l fin=(c,0,0)):l=[]/\c = .zero \/
 ∃a b,l=a++b/\gu (bM a)=(cm c.op).1/\dp (cm c.op).1=aa/\c.gj=aa/\F7 c (nV (cm c.op).2 [c.left,c.right]) b:=by
 cases l with
 | nil=>left;simp only[wo] at h;exact⟨rfl,(mf Prod.fst h).symm⟩
 | cons t ts =>
  right;unfold wo at h;simp only at h
  by_cases hz:kb (⟨t::ts,0,fin,ah⟩:af).word.1.an=0
  .grind
  .rw[aB hz] at h;obtain⟨n1,n2,n3⟩:=Zo 16 0 hz;have n1:(cm (kb (⟨t::ts,0,fin,ah⟩:af).word.1.an)).1=(⟨t::ts,0,fin,ah⟩:af).word.1.an:=n1;have n2:1<=kb (⟨t::ts,0,fin,ah⟩:af).word.1.an:=n2;have n3:kb (⟨t::ts,0,fin,ah⟩:af).word.1.an<=15:=by unfold kb;omega
   have Xl:=λb hb=>KX (N:=0) (Int.le_refl 0) (b:=b) (cm (kb (⟨t::ts,0,fin,ah⟩:af).word.1.an)).2 ((⟨t::ts,0,fin,ah⟩:af).word.2,{ar.zero with op:=kb (⟨t::ts,0,fin,ah⟩:af).word.1.an,pos:=(⟨t::ts,0,fin,ah⟩:af).word.1.pos}) hb
   have Xn:=λzt hb h0 h1 hn=>ZV (cm (kb (⟨t::ts,0,fin,ah⟩:af).word.1.an)).2 ((⟨t::ts,0,fin,ah⟩:af).word.2,{ar.zero with op:=kb (⟨t::ts,0,fin,ah⟩:af).word.1.an,pos:=(⟨t::ts,0,fin,ah⟩:af).word.1.pos}) (Jn _).1 (Jn _).2 (λ_=>rfl) zt hb h0 h1 hn
   have CZ:=yI (⟨t::ts,0,fin,ah⟩:af) hg;have x9:=λus c=>ala (op:=kb (⟨t::ts,0,fin,ah⟩:af).word.1.an) (p:=(⟨t::ts,0,fin,ah⟩:af).word.1.pos) (us:=us) (c:=c) n2 n3
   generalize jP (cm (kb (⟨t::ts,0,fin,ah⟩:af).word.1.an)).2 ((⟨t::ts,0,fin,ah⟩:af).word.2,{ar.zero with op:=kb (⟨t::ts,0,fin,ah⟩:af).word.1.an,pos:=(⟨t::ts,0,fin,ah⟩:af).word.1.pos})=x at h Xl Xn;have Pa:x.1.aO=ah/\¬x.1.at_<x.1.l.length/\c=x.2:=by
    unfold zf at h
    by_cases hc:x.1.aO=ah/\x.1.at_<x.1.l.length
    .rw[aL hc] at h;cases hq:x.1.fail.aO with
     | none=>exact absurd hq x.1.Jh
     | some b=>rw[hq] at h;simp at h
    .grind
   obtain⟨XG,XH,rfl⟩:=Pa;have XF:(⟨t::ts,0,fin,ah⟩:af).word.2.aO=none:=by
    cases hq:(⟨t::ts,0,fin,ah⟩:af).word.2.aO with
    | none=>rfl
    | some b=>have:=Xl b hq;rw[XG] at this;simp at this
   obtain⟨sg,e1,e2,e3,_⟩:=CZ XF;obtain⟨a1,a2,a3⟩:=M9 e1;obtain⟨us,f1,f2⟩:=Xn (Jb e1 hg) XF (by simp only at a2 ⊢;omega) (by simp only;rw[e1.l];exact a3) XG;obtain⟨g1,g2,g3⟩:=x9 us x.2 f2;have et:=e1.trans f1;have dd:t::ts=sg++us:=by
    obtain⟨pre,post,q1,q2,q3⟩:=et.ex;have hp:pre=[]:=m0.1 (by simp only at q2;omega);subst hp;have q1:t::ts=[]++(sg++us)++post:=q1;have hl:x.1.l=t::ts:=et.l;have hq:post=[]:=by
     rw[hl,q1,q3] at XH;simp only[gK,bL] at XH;exact m0.1 (by omega)
    grind
   grind
theorem TI{s:List UInt8}(h:dC s=(c,0,0)):c.gj=aa/\(iy (eH (dq c)).1).2=ah/\(dq c).length<=2*s.length:=by
 unfold dC at h;cases hl:(eH s).2 with
 | some a=>rw[hl] at h;simp at h
 | none =>
  rw[hl] at h;simp only at h;cases ht:(iT (eH s).1 [] []).2 with
  | some a=>rw[ht] at h;simp at h
  | none =>
   rw[ht] at h;simp only at h;have cw:=EY s.length 0 s [] (by simp);have al8:=KD s.length 0 s [] (by simp);obtain⟨w1,w2⟩:=Ic (eH s).1 [] [] cw (by simp) (by simp[gC]) ht;simp only[zU,bM,gK] at w2;have hg:fV (iT (eH s).1 [] []).1:=by rw[DF];exact YG s
   have dE:qt (eH s).1<=qt []+2*s.length:=KE s.length 0 s [];rw[show qt []=0 from rfl,mc] at dE;rw[DF] at ht
   rcases agm hg h with ⟨h1,rfl⟩ | ⟨a,b,h1,h2,h3,h4,h5⟩
   .refine⟨by decide +kernel,by decide +kernel,?_⟩
    have:dq ar.zero=[]:=by rfl
    grind
   .rw[h1,jK] at w2;have hL:∀t∈bM a++bM b,D1 t:=by rw[w2];exact al8
    have s1:(bM a).map Tok.sh=[ig (cm c.op).1]:=abW (λt ht=>hL t (by simp[ht])) (zO h3) h2;have s2:=abI _ b h5 (λt ht=>hL t (by simp[ht]));have hs:(eH s).1.map Tok.sh=H3 c:=by rw[<-w2,gm,s1,s2];rfl
    have nN:1<=c.op:=by
     have h6:=h4;simp only[ar.gj,bO,cU] at h6;have h0:=h6.1.1.1.1.1
     by_cases hz:c.op=0
     .rw[hz] at h3;exact absurd h3 (by decide +kernel)
     .omega
    have pS:c.op<=15:=by simp only[ar.gj,bO,cU] at h4;exact h4.1.1.1.1.2
    obtain⟨l1,l2⟩:=aci h3 (Q3 h4 nN);refine⟨h4,avM (hs.trans l2.symm) ht,?_⟩;have hb:=abH _ b h5;have ha:(cm c.op).1.length<=qt (bM a):=by rw[<-h2];exact Sj _ _
    rw[<-w2,LB] at dE;rw[Lp,bL];omega
theorem agk(h0:0<=N){fin:Int}(hl:mW N l)(hf:In N fin):(wq l fin).2.1=0/\(wq l fin).2.2=0\/(wq l fin).1 = .zero/\(wq l fin).2.1=2/\In N (wq l fin).2.2:=by
 have hpr:∀(ks:List UInt8) (c:ar) (a:Int),(pw l fin ks c a).2.2<0\/In N (pw l fin ks c a).2.2:=by
  intro ks;induction ks with
  | nil=>intro c a;left;simp[pw]
  | cons k ks ih =>
   intro c a;simp only[pw];split
   .rename_i vB;right;have CE:=v5 h0 (a:=a) hl hf;have W_:=acK h0 (a:=a) hl hf;have Oy:=ard h0 (a:=a) hl;have hi4:=Hk h0 (bj l) l a fin hl hf;have hi5:=aaN h0 (bj l) l a fin hl hf;revert vB;unfold ky;split
    .grind
    split
    .grind
    split
    .split
     .simp only;intro h
      rcases Oy with e | e
      .omega
      .exact e
     .grind
    .grind
   .grind
 cases l with
 | nil=>exact .inl ⟨rfl,rfl⟩
 | cons t ts =>
  unfold wq;simp only;generalize (if t.tok.kind=97 then lX t.tok.an 15 1 0 else 0)=op;split
  .exact .inr ⟨rfl,rfl,(hl t (by simp)).pos⟩
  .split
   .grind
   .split
    .exact .inr ⟨rfl,rfl,v5 h0 hl hf⟩
    .simp
def ai4(s:List UInt8):(∃c,dC s=(c,0,0))\/∃k a,dC s=(.zero,k,a)/\(k=1\/k=2)/\0<=a/\a<=(s.length:Nat):=by
 rw[aax];unfold Dy;have hl:=Yv s;have ht:=YF s;cases h1:(eH s).2 with
 | some a=>exact .inr ⟨1,a,rfl,.inl rfl,hl.2 a h1⟩
 | none =>
  simp only;cases h2:(iy (eH s).1).2 with
  | some a=>exact .inr ⟨2,a,rfl,.inr rfl,ht.2 a h2⟩
  | none =>
   simp only;have hc:=agk (N:=(s.length:Nat)) (by omega) ht.1 (fin:=(s.length:Nat)) ⟨by omega,by omega⟩;generalize wq (iy (eH s).1).1 (s.length:Nat)=R at hc ⊢;obtain⟨c,k,a⟩:=R;simp only at hc
   rcases hc with ⟨rfl,rfl⟩ | ⟨rfl,rfl,h⟩
   .simp
   .exact .inr ⟨2,a,rfl,.inr rfl,h⟩
end Go.Am
