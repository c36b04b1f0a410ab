/-
  Part 1 of the proof of StackDropsUptoCardSaid: a logic over the model, the forms of the functions that the law reaches, and what they compute.
-/
import Derived.WalkKit
import Derived.Orders
import Derived.Below
import Derived.Laws.Append
import Derived.Laws.AppendOwn
import Derived.Laws.Cells
import Derived.Laws.CopyRow
import Derived.Laws.BytesString
import Derived.Laws.Slices
import Derived.Laws.Small
import Derived.Laws.StructEq
import Derived.ChangeKeysEq
set_option linter.unusedVariables false
set_option linter.unusedSimpArgs false
set_option linter.defProp false
set_option linter.unusedSectionVars false
set_option maxRecDepth 4000
set_option maxHeartbeats 4000000
open Option renaming some->U,none->ae
open Bool renaming true->aa,false->ak
open List renaming replicate->aA,range->cc,getD->gU,zipWith->lg
open Eq renaming mpr->eN
open Ne renaming symm->fm
namespace Go.Am
def af := @And.intro
def aB := @if_neg
def aD := @if_pos
def aK := @decide_eq_false
def aO := @List.length_map
def aP := @decide_eq_true
def aY := @Option.some.injEq
def bA := @Bool.and_eq_true
def bI := @List.length_append
def bL := @Nat.le_refl
def bS := @decide_true
def bX := @List.map_cons
def b7 := @decide_eq_true_eq
def ck := @if_false
def cC := @if_true
def cH := @List.getElem?_eq_getElem
def cZ := @Option.map_eq_some_iff
def db := @List.length_cons
def di := @Bool.false_eq_true
def dZ := @List.append_assoc
def eg := @List.append_nil
def eh := @List.forall_mem_cons
def ei := @List.length_nil
def eC := @List.map_nil
def eH := @List.take_length
def eX := @List.getElem?_eq_some_iff
def ff := @decide_false
def fu := @List.getElem_mem
def fX := @List.map_append
def fY := @List.nil_append
def gu := @List.cons.injEq
def gv := @List.length_singleton
def gw := @and_true
def gE := @List.cons_append
def gV := @Option.bind_eq_some_iff
def gX := @congrArg
def iP := @List.length_take
def iQ := @Nat.add_mul
def jb := @List.map_eq_append_iff
def jc := @Nat.zero_add
def jq := @List.length_eq_zero_iff
def jr := @List.take_succ_eq_append_getElem
def jC := @Int.toNat_natCast
def jE := @List.mem_append
def ky := @Array.getElem?_eq_some_iff
def kz := @List.flatten_cons
def kA := @List.mem_cons
def lf := @List.all_eq_true
def lP := @Array.getElem?_eq_getElem
def mg := @Bool.or_eq_true
def mi := @List.drop_eq_getElem_cons
def mN := @List.singleton_append
def mO := @List.sum_cons
def nC := @Prod.mk.injEq
def o_ := @List.mem_singleton
def pU := @Array.getD_eq_getD_getElem?
def pW := @Bool.true_and
def pX := @Bool.true_eq_false
def pY := @List.flatMap_cons
def qt := @true_and
def qy := @List.take_append_drop
def rz := @List.mem_of_getElem?
def rA := @List.sum_nil
def rB := @Nat.mul_le_mul_right
def rE := @decide_eq_decide
def su := @List.eq_nil_of_length_eq_zero
def sv := @List.getElem?_append_left
def tP := @Bool.not_eq_true'
def tR := @List.all_cons
def tS := @List.flatten_append
def tT := @List.getElem?_drop
def tU := @List.range_eq_range'
def tV := @List.range_succ
def tW := @Nat.lt_of_lt_of_le
def tX := @Nat.mul_one
def tY := @Option.some.inj
def vp := @Bool.and_true
def vr := @Function.comp_def
def vu := @List.getElem?_map
def vv := @List.mem_map
def vw := @List.take_succ_cons
def vz := @Nat.add_zero
def vA := @Nat.lt_or_ge
def vB := @Option.bind_some
def vC := @Option.map_some
def wW := @Bool.decide_and
def wX := @Int.natCast_zero
def wZ := @List.drop_drop
def w7 := @Nat.le_trans
def w8 := @Nat.min_eq_left
def w9 := @Nat.one_mul
def yN := @List.flatMap_append
def yO := @List.foldl_cons
def yP := @List.getElem?_eq_none
def yQ := @List.getElem?_take_of_lt
def yR := @List.replicate_succ
def yS := @List.take_of_length_le
def AK := @Array.getElem?_setIfInBounds_ne
def AL := @Array.length_toList
def AM := @BitVec.getLsbD_and
def AN := @Bool.or_eq_false_iff
def AS := @List.foldl_append
def AT := @List.getElem?_append_right
def AU := @List.mem_of_mem_take
def AV := @List.mem_range
def AY := @Option.isNone_none
def A6 := @beq_iff_eq
def A' := @decide_eq_false_iff_not
def Cj := @Array.ext'
def Cl := @BitVec.getLsbD_of_ge
def Cm := @Bool.and_eq_false_iff
def Co := @Int.eq_ofNat_of_zero_le
def Cp := @List.any_eq_true
def Cq := @List.drop_succ_cons
def Cr := @List.find?_append
def Cs := @List.getElem?_set_ne
def Ct := @List.map_map
def Cu := @List.range'_succ
def Cv := @Nat.add_comm
def Cw := @Nat.lt_trichotomy
def Cx := @Option.isNone_iff_eq_none
def Cy := @Option.isNone_some
def Cz := @Option.isSome_none
def CS := @dif_pos
def CW := @false_and
def D' := @or_false
def EM := @Bool.eq_iff_iff
def EN := @Bool.false_or
def EU := @List.drop_length
def EV := @List.find?_eq_some_iff_append
def EW := @List.getElem_cons_succ
def EX := @List.getLast?_concat
def EY := @List.map_singleton
def EZ := @List.not_mem_nil
def E5 := @Nat.add_assoc
def E6 := @Nat.le_zero
def E7 := @Nat.succ_mul
def E9 := @Option.getD_some
def E_ := @Option.isSome_some
def Hx := @not_true_eq_false
def Iv := @Bool.and_self
def Iz := @Int.le_refl
def IB := @List.all_append
def IC := @List.all_eq_false
def ID := @List.dropLast_concat
def IE := @List.drop_take
def IF := @List.drop_zero
def IG := @List.filterMap_cons
def IH := @List.find?_eq_none
def II := @List.getElem?_cons_zero
def IJ := @List.getElem?_range
def IK := @List.getElem?_take
def IL := @List.getElem?_zip_eq_some
def IM := @List.length_drop
def IN := @List.mem_zipIdx_iff_getElem?
def IQ := @Nat.eq_zero_or_pos
def IS := @Nat.le_of_lt
def IT := @Nat.lt_succ_self
def IU := @Nat.zero_le
def I2 := @and_assoc
def My := @of_decide_eq_true
def Oz := @Array.getElem?_toList
def OA := @Array.mem_of_getElem?
def OB := @Array.toList_setIfInBounds
def OC := @Bool.false_and
def OH := @Int.ofNat_eq_natCast
def OI := @List.all_nil
def OJ := @List.count_cons_self
def OK := @List.count_eq_zero
def OL := @List.drop_eq_nil_of_le
def OM := @List.drop_of_length_le
def ON := @List.eq_nil_or_concat
def OO := @List.ext_getElem
def OP := @List.ext_getElem?
def OR := @List.filter_cons
def OS := @List.flatMap_nil
def OT := @List.flatten_nil
def OU := @List.getElem?_set_self
def OV := @List.getElem?_zipIdx
def OW := @List.getElem_map
def OX := @List.mem_cons_of_mem
def OY := @List.mem_filterMap
def OZ := @List.mem_flatMap
def O0 := @List.mem_of_find?_eq_some
def O1 := @List.nodup_cons
def O2 := @List.range'_append
def O3 := @List.size_toArray
def O4 := @Nat.mod_eq_of_lt
def O5 := @Nat.mul_le_mul
def O7 := @Option.isSome_iff_exists
def Pe := @UInt8.toNat_inj
def Un := @not_false_eq_true
def XB := @Array.getElem?_extract
def XC := @Array.getElem?_setIfInBounds
def XD := @BitVec.toNat_shiftLeft
def XG := @List.append_inj_right'
def XH := @List.drop_append_of_le_length
def XI := @List.filter_eq_nil_iff
def XJ := @List.getElem?_replicate
def XK := @List.getElem?_toArray
def XL := @List.mem_iff_getElem?
def XM := @List.perm_append_singleton
def XN := @List.set_getElem_self
def XO := @List.takeWhile_sublist
def XP := @List.take_append_of_le_length
def XQ := @Nat.add_sub_cancel_left
def XR := @Nat.lt_succ_iff_lt_or_eq
def XT := @Nat.testBit_two_pow_sub_one
end Go.Am
namespace Go.Am
inductive Pl where
 | aC (i:Nat)
 | out (b:Nat)
 | jM (b:Nat)
inductive Tk where
 | no
 | aW
 | tk (t:Nat)
inductive V where
 | any
 | bool (b:Bool)
 | int (k:IntKind) (n:Int)
 | aF (s:List UInt8)
 | iL
 | ptr (p:Pl) (off:Nat)
 | elt (cs:List V) (off:Nat)
 | sl (t:Tk) (k:Nat) (l:List (List V))
 | agg (cs:List V)
 | bq (cs:List V)
 | fn (f:Fn) (first cap:List V)
 | raw (v:Value)
inductive eP where
 | const
 | lU
 | iB (i:Nat)
 | pH
 | gh (t c:Nat)
def eP.gW:eP->Nat->Prop
 | .const,_=>True
 | .gh _ c,o=>o<c
 | _,_=>False
structure Env where
 w:World
 aZ:Nat->eP
 aC:Nat->Option Nat
 aJ:Nat->Option Nat
def Env.nl(E:Env):Env:={E with aC:=λ_=>ae}
@[simp] theorem Env.Ui(E:Env):E.nl.w=E.w:=rfl
@[simp] theorem Env.Uh(E:Env):E.nl.aZ=E.aZ:=rfl
@[simp] theorem Env.atq(E:Env):E.nl.aJ=E.aJ:=rfl
@[simp] theorem Env.atp(E:Env)(i:Nat):E.nl.aC i=none:=rfl
@[simp] theorem Env.alP(E:Env):E.nl.nl=E.nl:=rfl
def ub(E:Env)(k n:Nat)(a:Option Addr)(cap:Nat):Tk->Prop
 | .no=>True
 | .aW=>cap=n
 | .tk t=>∃m,E.aJ t=U m/\n<=m/\(n=m->cap=n\/∃b cs e,a=U ⟨b,0,ae⟩/\E.aZ b = .gh t (n*k)/\E.w.heap[b]?=U (.cells cs e (0,0))/\cs.size=cap*k)
mutual
def R:Env->V->Value->Prop
 | _,.any,_=>True
 | _,.bool b,v=>v = .bool b
 | _,.int k n,v=>v = .int k n
 | _,.aF s,v=>v = .string ⟨s.toArray⟩
 | _,.iL,v=>v = .pointer ae
 | E,.ptr (.aC i) off,v=>∃b,E.aC i=U b/\v = .pointer (U ⟨b,off,ae⟩)
 | _,.ptr (.out b) off,v=>v = .pointer (U ⟨b,off,ae⟩)
 | _,.ptr (.jM b) off,v=>v = .pointer (U ⟨b,off,ae⟩)
 | E,.elt cs off,v=>∃b o,v = .pointer (U ⟨b,o+off,ae⟩)/\dQ E.nl cs b o
 | E,.sl t k l,v=>∃a cap,v = .slice a l.length cap/\l.length<=cap/\(l=[]\/∃b o,a=U ⟨b,o,ae⟩/\fK E.nl k l b o)/\ub E k l.length a cap t
 | E,.agg cs,v=>∃vs,v = .agg vs/\RL E cs vs.toList
 | E,.bq cs,v=>∃vs,v = .tuple vs/\RL E cs vs.toList
 | E,.fn f first cap,v=>∃fs cs,v = .func f fs cs/\RL E first fs.toList/\RL E cap cs.toList
 | _,.raw u,v=>v=u
def dQ:Env->List V->Nat->Nat->Prop
 | _,[],_,_=>True
 | E,x::xs,b,o=>(∃c,E.w.cell? ⟨b,o,ae⟩=U c/\(E.aZ b).gW o/\c.oneCell' = aa/\R E x c)/\dQ E xs b (o+1)
def fK:Env->Nat->List (List V)->Nat->Nat->Prop
 | _,_,[],_,_=>True
 | E,k,x::xs,b,o=>x.length=k/\dQ E x b o/\fK E k xs b (o+k)
def RL:Env->List V->List Value->Prop
 | _,[],[]=>True
 | E,x::xs,v::vs=>R E x v/\RL E xs vs
 | _,_,_=>False
end
structure Env.le(E E' : Env):Prop where
 cell:∀b o c,(E.aZ b).gW o->E.w.cell? ⟨b,o,ae⟩=U c->(E'.aZ b).gW o/\E'.w.cell? ⟨b,o,ae⟩=U c
 aC:∀i b,E.aC i=U b->E'.aC i=U b
 tok:∀t n,E.aJ t=U n->∃n',E'.aJ t=U n' /\ n<=n' /\ (n' = n->∀b c,E.aZ b = .gh t c ->
  E'.aZ b = .gh t c/\∀cs e,E.w.heap[b]?=U (.cells cs e (0,0))->∃cs',E'.w.heap[b]?=U (.cells cs' e (0,0))/\cs'.size=cs.size)
variable{E E':Env}
def Env.le.nl(h:E.le E'):E.nl.le E'.nl:=⟨h.cell,λ_ _ h=>by simp at h,h.tok⟩
def Env.le.refl(E:Env):E.le E:=⟨λ_ _ _ h h' => ⟨h,h'⟩,λ_ _ h=>h,λ_ n h=>⟨n,h,bL _,λ_ _ _ hr=>⟨hr,λcs _ hc=>⟨cs,hc,rfl⟩⟩⟩⟩
def Env.le.trans{F G'':Env}(h:E.le F)(k:F.le G''):E.le G'':=by
 refine⟨λb o c hc hv=>?_,λi b hb=>k.aC i b (h.aC i b hb),λt n hn=>?_⟩
 .obtain⟨h1,h2⟩:=h.cell b o c hc hv;exact k.cell b o c h1 h2
 .obtain⟨n',h1,h2,h3⟩:=h.tok t n hn;obtain⟨T_,k1,k2,k3⟩:=k.tok t n' h1;refine⟨T_,k1,w7 h2 k2,λhe b c hr=>?_⟩;have e1:n' = n:=by omega
  have e2:T_ = n' := by omega
  obtain⟨r1,r2⟩:=h3 e1 b c hr;obtain⟨s1,s2⟩:=k3 e2 b c r1;refine⟨s1,λcs e bP=>?_⟩;obtain⟨cs',q1,q2⟩:=r2 cs e bP;obtain⟨abi,q3,q4⟩:=s2 cs' e q1;exact⟨abi,q3,q4.trans q2⟩
variable{a:Option Addr}{cap k:Nat}
def ub.mono(h:E.le E'){n:Nat}{t:Tk}(ht:ub E k n a cap t):ub E' k n a cap t:=by
 cases t with
 | no=>trivial
 | aW=>exact ht
 | tk t =>
  obtain⟨m,h1,h2,h3⟩:=ht;obtain⟨m',k1,k2,k3⟩:=h.tok t m h1;refine⟨m',k1,w7 h2 k2,λhe=>?_⟩;have e1:n=m:=by omega
  have e2:m' = m:=by omega
  rcases h3 e1 with h4 | ⟨b,cs,e,ha,hr,hc,hs⟩
  .exact .inl h4
  .obtain⟨r1,r2⟩:=k3 e2 b _ hr;obtain⟨cs',r3,r4⟩:=r2 cs e hc;exact .inr ⟨b,cs',e,ha,r1,r3,r4.trans hs⟩
mutual
def R.mono:∀(x:V) {E E' : Env} (_:E.le E') {v:Value},R E x v->R E' x v
 | .any,_,_,_,_,_=>by simp only[R]
 | .bool _,_,_,_,_,hr=>by simp only[R] at hr ⊢;exact hr
 | .int _ _,_,_,_,_,hr=>by simp only[R] at hr ⊢;exact hr
 | .aF _,_,_,_,_,hr=>by simp only[R] at hr ⊢;exact hr
 | .iL,_,_,_,_,hr=>by simp only[R] at hr ⊢;exact hr
 | .ptr (.aC i) _, _, _, h, _, hr => by
  simp only[R] at hr ⊢;obtain⟨b,h1,h2⟩:=hr;exact⟨b,h.aC i b h1,h2⟩
 | .ptr (.out _) _,_,_,_,_,hr=>by simp only[R] at hr ⊢;exact hr
 | .ptr (.jM _) _,_,_,_,_,hr=>by simp only[R] at hr ⊢;exact hr
 | .elt cs _, _, _, h, _, hr => by
  simp only[R] at hr ⊢;obtain⟨b,o,h1,h2⟩:=hr;exact⟨b,o,h1,dQ.mono cs h.nl h2⟩
 | .sl t k l, _, _, h, _, hr => by
  simp only[R] at hr ⊢;obtain⟨a,cap,h1,h2,h3,h4⟩:=hr;refine⟨a,cap,h1,h2,?_,h4.mono h⟩
  rcases h3 with h3 | ⟨b,o,h3,h5⟩
  .exact .inl h3
  .exact .inr ⟨b,o,h3,fK.mono l h.nl h5⟩
 | .agg cs, _, _, h, _, hr => by
  simp only[R] at hr ⊢;obtain⟨vs,h1,h2⟩:=hr;exact⟨vs,h1,RL.mono cs h h2⟩
 | .bq cs, _, _, h, _, hr => by
  simp only[R] at hr ⊢;obtain⟨vs,h1,h2⟩:=hr;exact⟨vs,h1,RL.mono cs h h2⟩
 | .fn _ first cap, _, _, h, _, hr => by
  simp only[R] at hr ⊢;obtain⟨fs,cs,h1,h2,h3⟩:=hr;exact⟨fs,cs,h1,RL.mono first h h2,RL.mono cap h h3⟩
 | .raw _,_,_,_,_,hr=>by simp only[R] at hr ⊢;exact hr
def dQ.mono:∀(l:List V) {E E' : Env} (_:E.le E') {b o:Nat},dQ E l b o->dQ E' l b o
 | [],_,_,_,_,_,_=>by simp only[dQ]
 | x :: xs, _, _, h, b, o, hr => by
  simp only[dQ] at hr ⊢;obtain⟨⟨c,h1,h2,h5,h3⟩,h4⟩:=hr;obtain⟨k1,k2⟩:=h.cell b o c h2 h1;exact⟨⟨c,k2,k1,h5,R.mono x h h3⟩,dQ.mono xs h h4⟩
def fK.mono:∀(l:List (List V)) {E E' : Env} (_:E.le E') {k b o:Nat},fK E k l b o->fK E' k l b o
 | [],_,_,_,_,_,_,_=>by simp only[fK]
 | x :: xs, _, _, h, _, _, _, hr => by
  simp only[fK] at hr ⊢;obtain⟨h1,h2,h3⟩:=hr;exact⟨h1,dQ.mono x h h2,fK.mono xs h h3⟩
def RL.mono:∀(l:List V) {E E' : Env} (_:E.le E') {vs:List Value},RL E l vs->RL E' l vs
 | [],_,_,_,[],_=>by simp only[RL]
 | [],_,_,_,_::_,hr=>by simp only[RL] at hr
 | _::_,_,_,_,[],hr=>by simp only[RL] at hr
 | x :: xs, _, _, h, v :: vs, hr => by
  simp only[RL] at hr ⊢;exact⟨R.mono x h hr.1,RL.mono xs h hr.2⟩
end
structure ag where
 box:Nat->Option (List V)
 aJ:Nat->Option Nat
 bO:Nat->Option (List V)
structure St where
 t:List V
 aC:List (List V)
 out:ag
def ja(E:Env)(b:Nat)(cs:List V):Prop :=
 ∃c e,E.w.heap[b]?=U (.cells c e (0,0))/\cs.length<=c.size/\∀(j:Nat) x,cs[j]?=U x->∃v,c[j]?=U v/\R E x v
structure Env.ok(E:Env)(D:ag):Prop where
 box:∀b cs,D.box b=U cs->E.aZ b = .pH/\ja E.nl b cs
 aJ:∀t n,D.aJ t=U n->E.aJ t=U n
 fresh:∀b,E.w.heap.size<=b->E.aZ b = .const
 nt:∃N,∀t,N<=t->E.aJ t=ae
 bO:∀b cs,D.bO b=U cs->dQ E.nl cs b 0
structure Env.cU(E:Env)(ls:List (List V)):Prop where
 box:∀i cs,ls[i]?=U cs->∃b,E.aC i=U b/\E.aZ b = .iB i/\ja E b cs
 none:∀i,ls.length<=i->E.aC i=ae
def ag9(w:World)(c:Array Value)(t:TypeId)(a:Addr):(w.alloc (.cells c t)).frozen? a=w.frozen? a:=by
 by_cases h:a.block=w.heap.size
 .have e1:(w.alloc (.cells c t)).heap[a.block]?=U (.cells c t):=by rw[h];exact heap_alloc_new w _
  have e2:w.heap[a.block]?=none:=by rw[h];simp
  simp[World.frozen?,e1,e2]
 .by_cases h2:a.block<w.heap.size
  .simp only[World.frozen?,heap_alloc_old w (.cells c t) h2]
  .have e2:w.heap[a.block]?=none:=by simp;omega
   have e1:(w.alloc (.cells c t)).heap[a.block]?=none:=by simp;omega
   simp only[World.frozen?,e1,e2]
variable{b:Nat}{c new:Array Value}{e:TypeId}{w:World}
def C3(hb:w.heap[b]?=U (.cells c e (0,0)))(a:Addr):(w.setRow b new).frozen? a=w.frozen? a:=by
 by_cases h:a.block=b
 .have e1:=setRow_heap w b c new e _ hb;rw[<-h] at hb e1;simp only[World.frozen?,h] at hb e1 ⊢;simp only[e1,hb]
 .simp only[World.frozen?,setRow_other w b a.block new h]
structure Fr(E E' : Env):Prop where
 os:E'.w.os=E.w.os
 output:E'.w.output=E.w.output
 tape:E'.w.tape=E.w.tape
 size:E.w.heap.size<=E'.w.heap.size
 gl:∀a,E'.w.frozen? a=E.w.frozen? a
 cell:∀b o c,(E.aZ b).gW o->E.w.cell? ⟨b,o,ae⟩=U c->(E'.aZ b).gW o/\E'.w.cell? ⟨b,o,ae⟩=U c
 tok:∀t n,E.aJ t=U n->∃n',E'.aJ t=U n' /\ n<=n' /\ (n' = n->∀b c,E.aZ b = .gh t c ->
  E'.aZ b = .gh t c/\∀cs e,E.w.heap[b]?=U (.cells cs e (0,0))->∃cs',E'.w.heap[b]?=U (.cells cs' e (0,0))/\cs'.size=cs.size)
 same:∀b,b<E.w.heap.size->E.aZ b = .const\/E.aZ b = .lU->E'.w.heap[b]?=E.w.heap[b]?/\E'.aZ b=E.aZ b
 CH:∀b,b<E.w.heap.size->E'.aZ b = .pH->E.aZ b = .pH\/∃j,E.aZ b = .iB j
 CJ:∀b t c,b<E.w.heap.size->E'.aZ b = .gh t c->∃c0,E.aZ b = .gh t c0
 A5:∀b i,b<E.w.heap.size->E'.aZ b = .iB i->∃j,E.aZ b = .iB j
 shape:∀(b:Nat) (c:Array Value) (e:TypeId),E.w.heap[b]?=U (.cells c e (0,0))->∃c' : Array Value,E'.w.heap[b]?=U (.cells c' e (0,0))/\c'.size=c.size
def Fr.le(h:Fr E E')(hl:∀i b,E.aC i=U b->E'.aC i=U b):E.le E' := ⟨h.cell,hl,h.tok⟩
def Fr.nl(h:Fr E E'):E.nl.le E'.nl:=⟨h.cell,λ_ _ h=>by simp at h,h.tok⟩
def Fr.refl(E:Env):Fr E E :=
 ⟨rfl,rfl,rfl,bL _,λ_=>rfl,(Env.le.refl E).cell,(Env.le.refl E).tok,λ_ _ _=>⟨rfl,rfl⟩,λ_ _ h=>.inl h,λ_ _ c _ h=>⟨c,h⟩,λ_ i _ h=>⟨i,h⟩,λ_ c _ h=>⟨c,h,rfl⟩⟩
def Fr.trans{F G'':Env}(h:Fr E F)(k:Fr F G''):Fr E G'':=by
 refine⟨k.os.trans h.os,k.output.trans h.output,k.tape.trans h.tape,w7 h.size k.size,λa=>(k.gl a).trans (h.gl a),?_,?_,?_,?_,?_,?_,?_⟩
 .intro b o c hc hv;obtain⟨h1,h2⟩:=h.cell b o c hc hv;exact k.cell b o c h1 h2
 .have h' : Env.le {E with aC:=λ_=>ae} {F with aC:=λ_=>ae}:=⟨h.cell,λ_ _ h=>h,h.tok⟩;have k' : Env.le {F with aC:=λ_=>ae} {G'' with aC:=λ_=>ae}:=⟨k.cell,λ_ _ h=>h,k.tok⟩;exact(h'.trans k').tok
 .intro b hb hr;obtain⟨h1,h2⟩:=h.same b hb hr;obtain⟨k1,k2⟩:=k.same b (tW hb h.size) (by rw[h2];exact hr);exact⟨k1.trans h1,k2.trans h2⟩
 .intro b hb hr
  rcases k.CH b (tW hb h.size) hr with h1 | ⟨j,hj⟩
  .exact h.CH b hb h1
  .exact .inr (h.A5 b j hb hj)
 .intro b t c hb hr;obtain⟨c0,h0⟩:=k.CJ b t c (tW hb h.size) hr;exact h.CJ b t c0 hb h0
 .intro b i hb hr;obtain⟨j,hj⟩:=k.A5 b i (tW hb h.size) hr;exact h.A5 b j hb hj
 .intro b c e hb;obtain⟨c1,h1,h2⟩:=h.shape b c e hb;obtain⟨c2,k1,k2⟩:=k.shape b c1 e h1;exact⟨c2,k1,k2.trans h2⟩
structure bB(E:Env)(st:St)(a:Act):Prop where
 ok:E.ok st.out
 cU:E.cU st.aC
 defers:a.defers=[]
 slot:RL E st.t a.tmps.toList
def iD(P:Program)(c:Code)(Q:Exit->St->Prop)(st:St):Prop :=
 ∀E a,bB E st a->c.wp P (λe a' w' => ∃E' aH,E'.w=w' /\ bB E' aH a' /\ Fr E E' /\ Q e aH) a E.w
def OE(P:Program)(f:FuncId):Prop:=∀args w,(callFunc f args).run P w = .ok (.enter f args) w
def cm(P:Program)(f:FuncId)(args:List V)(D:ag)(R' : V->ag->Prop):Prop :=
 OE P f/\∀(E:Env) (vs:Array Value),(∀i,E.aC i=ae)->E.ok D->RL E args vs.toList ->
  Calls P f vs E.w λe w' => ∃v x E' σ',e = .returned x/\E'.w=w' /\ (∀i,E'.aC i=ae)/\E'.ok σ' /\ R E' v x/\Fr E E' /\ R' v σ'
variable{P:Program}{f:FuncId}{D:ag}
def cm.mono{args:List V}{Pa Pb:V->ag->Prop}(h:cm P f args D Pa)
 (hr:∀v σ',Pa v σ' -> Pb v σ'):cm P f args D Pb :=
 ⟨h.1,λE vs h1 h2 h3=>(h.2 E vs h1 h2 h3).mono λ_ _ ⟨v,x,E',σ',a,b,c,d,e,f,g⟩=>⟨v,x,E',σ',a,b,c,d,e,f,hr _ _ g⟩⟩
variable{Q:Exit->St->Prop}{st:St}
def MZ{c:Code}{Q':Exit->St->Prop}(h:iD P c Q st)(hq:∀e st,Q e st->Q' e st):iD P c Q' st :=
 λE a hs=>wp_mono (h E a hs) λ_ _ _ ⟨E',aH,h1,h2,h3,h4⟩=>⟨E',aH,h1,h2,h3,hq _ _ h4⟩
def XY(P:Program)(c:Code)(Q:Exit->St->Prop):Exit->St->Prop
 | .normal,st=>iD P c Q st
 | e,st=>Q e st
def aox{x y:Code}(h:iD P x (XY P y Q) st):iD P (.seq x y) Q st:=by
 intro E a hs;refine wp_seq (wp_mono (h E a hs) ?_);rintro e a' w' ⟨E',aH,rfl,h2,h3,h4⟩;cases e with
 | normal=>exact wp_mono (h4 E' a' h2) λ_ _ _ ⟨mh,Et,k1,k2,k3,k4⟩=>⟨mh,Et,k1,k2,h3.trans k3,k4⟩
 | exit id=>exact⟨E',aH,rfl,h2,h3,h4⟩
 | goto l=>exact⟨E',aH,rfl,h2,h3,h4⟩
 | ret=>exact⟨E',aH,rfl,h2,h3,h4⟩
 | panic c=>exact⟨E',aH,rfl,h2,h3,h4⟩
 | outgrown=>exact⟨E',aH,rfl,h2,h3,h4⟩
def aoy(h:Q .normal st):iD P .skip Q st :=
 λE _ hs=>wp_skip ⟨E,st,rfl,hs,Fr.refl E,h⟩
def aor{id:Nat}(h:Q (.exit id) st):iD P (.exit id) Q st :=
 λE _ hs=>wp_exit ⟨E,st,rfl,hs,Fr.refl E,h⟩
def aov(h:Q .ret st):iD P .ret Q st :=
 λE _ hs=>wp_ret ⟨E,st,rfl,hs,Fr.refl E,h⟩
def aos{l:Nat}(h:Q .normal st):iD P (.label l) Q st :=
 λE _ hs=>wp_label ⟨E,st,rfl,hs,Fr.refl E,h⟩
def ry(id:Nat)(Q:Exit->St->Prop):Exit->St->Prop
 | .exit zN,st=>if zN = id then Q .normal st else Q (.exit zN) st
 | e,st=>Q e st
def aoq{c:Code}{id:Nat}(h:iD P c (ry id Q) st):iD P (.block id c) Q st:=by
 intro E a hs;refine wp_block (wp_mono (h E a hs) ?_);rintro e a' w' ⟨E',aH,rfl,h2,h3,h4⟩;cases e with
 | exit zN =>
  simp only[ry] at h4;simp only[Exit.inBlock];split
  .rename_i h5;rw[aD h5] at h4;exact⟨E',aH,rfl,h2,h3,h4⟩
  .rename_i h5;rw[aB h5] at h4;exact⟨E',aH,rfl,h2,h3,h4⟩
 | normal=>exact⟨E',aH,rfl,h2,h3,h4⟩
 | goto l=>exact⟨E',aH,rfl,h2,h3,h4⟩
 | ret=>exact⟨E',aH,rfl,h2,h3,h4⟩
 | panic c=>exact⟨E',aH,rfl,h2,h3,h4⟩
 | outgrown=>exact⟨E',aH,rfl,h2,h3,h4⟩
def Fe{E:Env}:∀{l:List V} {vs:List Value},RL E l vs->∀(n:Nat) (u:Value),R E (l.getD n .any) (vs.getD n u)
 | [],[],_,n,u=>by simp[R]
 | [],_::_,h,_,_=>by simp[RL] at h
 | _::_,[],h,_,_=>by simp[RL] at h
 | x :: xs, v :: vs, h, n, u => by
  simp only[RL] at h;cases n with
  | zero=>simpa using h.1
  | succ n=>simpa using Fe h.2 n u
def fC{E:Env}:∀{l:List V} {vs:List Value},RL E l vs->l.length=vs.length
 | [],[],_=>rfl
 | [],_::_,h=>by simp[RL] at h
 | _::_,[],h=>by simp[RL] at h
 | x :: xs, v :: vs, h => by
  simp only[RL] at h;simp[fC h.2]
def qA{E:Env}:∀{l:List V} {vs:List Value},RL E l vs->∀(n:Nat) (x:V),l[n]?=U x->∃v,vs[n]?=U v/\R E x v
 | [],[],_,n,x,hx=>by simp at hx
 | [],_::_,h,_,_,_=>by simp[RL] at h
 | _::_,[],h,_,_,_=>by simp[RL] at h
 | x :: xs, v :: vs, h, n, y, hy => by
  simp only[RL] at h;cases n with
  | zero=>simp at hy;subst hy;exact⟨v,by simp,h.1⟩
  | succ n=>simp at hy;obtain⟨u,h1,h2⟩:=qA h.2 n y hy;exact⟨u,by simpa using h1,h2⟩
def CC{E:Env}:∀{l:List V} {vs:List Value},l.length=vs.length->(∀(n:Nat) x v,l[n]?=U x->vs[n]?=U v->R E x v)->RL E l vs
 | [],[],_,_=>by simp[RL]
 | [],_::_,h,_=>by simp at h
 | _::_,[],h,_=>by simp at h
 | x :: xs, v :: vs, h, hx => by
  simp only[RL];exact⟨hx 0 x v (by simp) (by simp),CC (by simpa using h) λn y u h1 h2=>hx (n+1) y u (by simpa using h1) (by simpa using h2)⟩
def Ff{E:Env}:∀{l:List V} {vs:List Value},RL E l vs->∀(n:Nat) {x:V} {v:Value},R E x v->RL E (l.set n x) (vs.set n v)
 | [],[],_,_,_,_,_=>by simp[RL]
 | [],_::_,h,_,_,_,_=>by simp[RL] at h
 | _::_,[],h,_,_,_,_=>by simp[RL] at h
 | x :: xs, v :: vs, h, n, y, u, hy => by
  simp only[RL] at h;cases n with
  | zero=>simp only[List.set,RL];exact⟨hy,h.2⟩
  | succ n=>simp only[List.set,RL];exact⟨h.1,Ff h.2 n hy⟩
def tZ{E:Env}:∀{l:List V} {vs:List Value} {m:List V} {us:List Value},RL E l vs->RL E m us->RL E (l++m) (vs++us)
 | [],[],_,_,_,h=>by simpa using h
 | [],_::_,_,_,h,_=>by simp[RL] at h
 | _::_,[],_,_,h,_=>by simp[RL] at h
 | x :: xs, v :: vs, _, _, h, k => by
  simp only[RL,gE] at h ⊢;exact⟨h.1,tZ h.2 k⟩
def O9(vs:List Value):RL E (aA vs.length V.any) vs:=by
 induction vs with
 | nil=>simp[RL]
 | cons v vs ih=>simp only[db,yR,RL];exact⟨by simp[R],ih⟩
def St.put(st:St)(d:Option Nat)(v:V):St :=
 match d with
 | some n=>⟨st.t.set n v,st.aC,st.out⟩
 | none=>st
variable{v:V}
def bB.put{a:Act}(h:bB E st a){x:Value}(hv:R E v x)(d:Option Nat):bB E (st.put d v) (a.put d x):=by
 cases d with
 | none=>exact h
 | some n=>exact⟨h.ok,h.cU,h.defers,by simpa [St.put,Act.put] using Ff h.slot n hv⟩
def aM:Nat:=268435456
inductive X where
 | s (n:Nat)
 | c (v:V)
inductive OQ where
 | nil
 | len
 | idx (k:Nat)
 | kv (k:Nat) (lo hi mx:Bool)
 | app (k:Nat)
 | mk (z:List V)
 | lE (k:Nat)
 | new (k:Nat)
 | min
 | max
 | HX (m k:Nat) (lo hi:Bool)
 | gl (k:Nat) (lo hi:Bool)
 | Jv
 | mj
 | I5
 | A_ (k:Nat)
 | Jn
 | Lm
 | GY (m:Nat)
 | aE
inductive aG where
 | mv (x:X)
 | pick (c a b:X)
 | alloc (z:List V)
 | box (n:Nat) (x:X)
 | ug (n:Nat) (x:X)
 | build (z:List V) (ps:List (Nat × Nat × X))
 | j9 (k:Nat) (xs:List X)
 | load (agg:Bool) (n:Nat) (x:X)
 | store (n:Nat) (a x:X)
 | uX (x:X)
 | eD (op:BinOp) (x y:X)
 | nD (op:BinOp) (x y:X)
 | vI (neg:Bool) (x y:X)
 | cat (x y:X)
 | jf (neg:Bool) (ks:List Nat) (x y:X)
 | rF (neg:Bool) (x y:X)
 | not (x:X)
 | uS (x:X)
 | uT (x:X)
 | nM (off:Nat) (x:X)
 | uy (agg:Bool) (off n:Nat) (x:X)
 | rZ (k:Nat) (x i:X)
 | sV (x i:X)
 | qZ (m k:Nat) (x i:X)
 | call (f:FuncId) (xs:List X)
 | ij (x:X) (xs:List X)
 | app (k:Nat) (s x:X)
 | mj (s x:X)
 | kv (k:Nat) (x:X) (lo hi mx:Option X)
 | yy (x:X) (lo hi:Option X)
 | ext (x:X) (i:Nat)
 | jx (f:Fn) (first cap:List X)
 | pn (k:IntKind) (x:X)
 | sF (x:X)
 | pe (z:List V)
 | fZ (n:Nat) (x:X)
 | own (q:OQ) (xs:List X)
structure AO where
 dst:Option Nat
 op:aG
 guard:Option (Nat × Bool)
def ev(st:St):X->V
 | .s n=>st.t.getD n .any
 | .c v=>v
def cW(st:St):List X->List V
 | []=>[]
 | x::xs=>ev st x::cW st xs
def V.wd:V->Option Nat
 | .agg cs=>U cs.length
 | .any=>ae
 | .bq _=>ae
 | .raw u=>if u.oneCell' then U 1 else ae
 | _=>U 1
def V.cells:V->List V
 | .agg cs=>cs
 | v=>[v]
def V.one:V->Bool
 | .bool _ | .int _ _ | .aF _ | .iL | .ptr _ _ | .elt _ _ | .sl _ _ _ | .fn _ _ _=>aa
 | .raw u=>u.oneCell'
 | _=>ak
def cB:List V->Bool
 | []=>aa
 | x::xs=>x.one&&cB xs
mutual
def V.cG:V->Bool
 | .ptr (.aC _) _=>ak
 | .agg cs=>bH cs
 | .bq cs=>bH cs
 | .fn _ first cap=>bH first&&bH cap
 | _=>aa
def bH:List V->Bool
 | []=>aa
 | x::xs=>x.cG&&bH xs
end
mutual
def V.erase:V->V
 | .sl _ k l=>.sl .no k l
 | .agg cs=>.agg (bw cs)
 | .bq cs=>.bq (bw cs)
 | v=>v
def bw:List V->List V
 | []=>[]
 | x::xs=>x.erase::bw xs
end
def takeN:Nat->List V->Option (List V)
 | 0,_=>U []
 | n+1,x::xs=>(takeN n xs).map (x::·)
 | _+1,[]=>ae
def bD:Bool->Nat->List V->Option V
 | true,n,cs=>(takeN n cs).map V.agg
 | false,_,c::_=>U c
 | false,_,[]=>ae
def over:List V->List V->List V
 | [],_=>[]
 | l,[]=>l
 | _::l,x::xs=>x::over l xs
def setAt:List V->Nat->List V->List V
 | l,0,xs=>over l xs
 | [],_+1,_=>[]
 | a::l,n+1,xs=>a::setAt l n xs
def bW:Nat->List V->Bool
 | 0,_=>aa
 | n+1,_::xs=>bW n xs
 | _+1,[]=>ak
def ag.set(D:ag)(b:Nat)(cs:List V):ag:={D with box:=λx=>if x=b then U cs else D.box x}
def ag.aR(D:ag)(t n:Nat):ag:={D with aJ:=λx=>if x=t then U n else D.aJ x}
def FC(st:St):Pl->Option (List V)
 | .aC i=>st.aC[i]?
 | .out b=>st.out.box b
 | .jM b=>st.out.bO b
def kR(st:St)(agg:Bool)(n:Nat):V->Option V
 | .ptr p off=>(FC st p).bind λcs=>bD agg n (cs.drop off)
 | .elt cs off=>bD agg n (cs.drop off)
 | _=>ae
def dm(st:St)(n:Nat)(x:V):V->Option St
 | .ptr (.aC i) off=>(st.aC[i]?).bind λcs=>if bW n (cs.drop off)=aa/\x.wd=U n/\cB x.cells=aa then U ⟨st.t,st.aC.set i (setAt cs off x.cells),st.out⟩ else ae
 | .ptr (.out b) off=>(st.out.box b).bind λcs=>if bW n (cs.drop off)=aa/\x.wd=U n/\cB x.cells=aa/\bH x.cells=aa then U ⟨st.t,st.aC,st.out.set b (setAt cs off x.cells)⟩ else ae
 | _=>ae
def nG(st:St):List V->List (Nat × Nat × X)->Option (List V)
 | z,[]=>U z
 | z,(off,n,x)::ps=>if bW n (z.drop off)=aa/\(ev st x).wd=U n then nG st (setAt z off (ev st x).cells) ps else ae
def kY(st:St)(k:Nat):List X->Option (List (List V))
 | []=>U []
 | x::xs=>if (ev st x).wd=U k/\bH (ev st x).cells=aa/\cB (ev st x).cells=aa then(kY st k xs).map (bw (ev st x).cells::·) else ae
def zP:IntKind->IntKind->Bool
 | .i8,.i8 | .i16,.i16 | .i32,.i32 | .i64,.i64 | .u8,.u8 | .u16,.u16 | .u32,.u32 | .u64,.u64=>aa
 | _,_=>ak
def GZ{a b:IntKind}(h:zP a b=aa):a=b:=by cases a<;>cases b<;>first | rfl | (simp[zP] at h)
def hC(k:IntKind)(a b:Int):BinOp->Option V
 | .add=>U (.int k (k.wrap (a+b)))
 | .sub=>U (.int k (k.wrap (a - b)))
 | .mul=>U (.int k (k.wrap (a*b)))
 | .eql=>U (.bool (decide (a=b)))
 | .neq=>U (.bool (!decide (a=b)))
 | .lss=>U (.bool (decide (a<b)))
 | .leq=>U (.bool (decide (a<=b)))
 | .gtr=>U (.bool (decide (b<a)))
 | .geq=>U (.bool (decide (b<=a)))
 | .quo=>if b=0 then ae else U (.int k (k.wrap (a.tdiv b)))
 | .rem=>if b=0 then ae else U (.int k (a.tmod b))
 | .and=>U (.int k (k.wrap ((BitVec.ofInt k.bits a&&&BitVec.ofInt k.bits b).toNat:Nat)))
 | .or=>U (.int k (k.wrap ((BitVec.ofInt k.bits a|||BitVec.ofInt k.bits b).toNat:Nat)))
 | .xor=>U (.int k (k.wrap ((BitVec.ofInt k.bits a ^^^ BitVec.ofInt k.bits b).toNat:Nat)))
 | .andNot=>U (.int k (k.wrap ((BitVec.ofInt k.bits a&&&~~~BitVec.ofInt k.bits b).toNat:Nat)))
 | .shl=>if b<0 then ae else U (.int k (k.wrap (a*2^(Nat.min b.toNat k.bits))))
 | .shr=>if b<0 then ae else U (.int k (a.fdiv (2^(Nat.min b.toNat k.bits))))
def zQ:BinOp->Bool
 | .shl | .shr=>aa
 | _=>ak
def uf(op:BinOp):V->V->Option V
 | .int k a,.int k' b=>if zP k k' = aa\/zQ op=aa then hC k a b op else ae
 | _,_=>ae
def wI(a b:List UInt8):BinOp->Option V
 | .eql=>U (.bool (decide (a=b)))
 | .neq=>U (.bool (!decide (a=b)))
 | .lss=>U (.bool (Op.bytesLess a b))
 | .leq=>U (.bool (Op.bytesLess a b||decide (a=b)))
 | .gtr=>U (.bool (!(Op.bytesLess a b||decide (a=b))))
 | .geq=>U (.bool (!Op.bytesLess a b))
 | _=>ae
def y3(op:BinOp):V->V->Option V
 | .aF a,.aF b=>wI a b op
 | _,_=>ae
def xq(neg:Bool):V->V->Option V
 | .bool a,.bool b=>U (.bool (if neg then !decide (a=b) else decide (a=b)))
 | _,_=>ae
def fE:List Nat->List V->List V->Option Bool
 | [],[],[]=>U aa
 | 1::ks,.int k a::xs,.int k' b::ys=>if zP k k' = aa then(fE ks xs ys).map (decide (a=b)&&·) else ae
 | 2::ks,.aF a::xs,.aF b::ys=>(fE ks xs ys).map (decide (a=b)&&·)
 | 0::ks,.bool a::xs,.bool b::ys=>(fE ks xs ys).map (decide (a=b)&&·)
 | _,_,_=>ae
def xp(neg:Bool)(ks:List Nat):V->V->Option V
 | .agg xs,.agg ys=>(fE ks xs ys).map λb=>.bool (if neg then !b else b)
 | _,_=>ae
def isNil:V->Option Bool
 | .iL=>U aa
 | .ptr _ _=>U ak
 | _=>ae
def K2(K:V->St->Prop)(st:St):V->Prop:=λv=>K v st
def opt(o:Option V)(K:V->Prop):Prop:=match o with | some v=>K v | none=>False
def Iy(l:List (List V))(i:V)(K:List V->Prop):Prop:=∃k n x,i = .int k n/\0<=n/\l[n.toNat]?=U x/\K x
def pT(D:ag)(k:Nat)(s x:V)(K:V->ag->Prop):Prop :=
 ∃t l m,s = .sl t k l/\(∃t',x = .sl t' k m)/\l.length+m.length<=aM /\
  match t with
  | .aW=>(∀Z,D.aJ Z=ae->K (.sl (.tk Z) k (l++m)) (D.aR Z (l.length+m.length)))\/K (.sl .no k (l++m)) D\/∃Z,D.aJ Z=U l.length/\K (.sl (.tk Z) k (l++m)) (D.aR Z (l.length+m.length))
  | .tk Z=>D.aJ Z=U l.length/\K (.sl (.tk Z) k (l++m)) (D.aR Z (l.length+m.length))
  | .no=>False
def dc(s:List UInt8):List (List V):=s.map λb=>[.int .u8 b.toNat]
def kF(b:Bool)(d:Nat)(vs:List V)(K:Nat->List V->Prop):Prop :=
 match b,vs with
 | false,vs=>K d vs
 | true,.int _ j::vs=>0<=j/\K j.toNat vs
 | true,_=>False
def yL(D:ag)(k:Nat)(a:Option Addr)(n cap:Nat)(m:List (List V))(K:V->ag->Prop):Prop :=
 n<=cap/\n+m.length<=aM/\bH m.flatten=aa /\
 (m=[]->K (.raw (.slice a n cap)) D) /\
 (m≠[]->n+m.length<=cap->∃b cs,a=U ⟨b,0,ae⟩/\D.box b=U cs/\n*k+m.length*k<=cs.length/\K (.raw (.slice a (n+m.length) cap)) (D.set b (setAt cs (n*k) m.flatten))) /\
 (cap<n+m.length->∃cs,(n=0/\cs=[]\/∃b,a=U ⟨b,0,ae⟩/\D.box b=U cs/\n*k<=cs.length) /\
   ∀b' nH,D.box b' = ae->n+m.length<=nH -> K (.raw (.slice (U ⟨b',0,ae⟩) (n+m.length) nH)) (D.set b' (cs.take (n*k)++m.flatten++aA ((nH - (n+m.length))*k) .any)))
def x_(k:Nat):List V->Option (List (List V))
 | []=>U []
 | v::vs=>if v.wd=U k/\bH v.cells=aa/\cB v.cells=aa then(x_ k vs).map (v.cells::·) else ae
def zh:List UInt8->UInt8->Int
 | [],_=>-1
 | b::l,c=>if b == c then 0 else if zh l c == -1 then -1 else zh l c+1
def A7(cs:List V):List (List V):=cs.map λx=>[x]
def ag.del(D:ag)(b:Nat):ag:={D with box:=λx=>if x=b then ae else D.box x}
def HR(D:ag)(a:Option Addr)(n:Nat)(s:List UInt8):Prop:=s.length=n/\(n=0\/∃b o cs,a=U ⟨b,o,ae⟩/\D.box b=U cs/\(cs.drop o).take n=s.map λc=>.int .u8 c.toNat)
def LM(k:Nat)(vs:List V)(H:List (List V)->Prop):Prop:=∃l,x_ k vs=U l/\H l
def AQ(D:ag)(k:Nat)(a:Option Addr)(m:Nat)(xs:List V)(K:V->ag->Prop):Prop :=
 (m=0->K (.int .i64 0) D)/\(m≠0->∃b o cs,a=U ⟨b,o,ae⟩/\D.box b=U cs/\o+m*k<=cs.length/\K (.int .i64 m) (D.set b (setAt cs o xs)))
def OD(D:ag)(a:Option Addr)(n:Nat)(xs:List V):Prop :=
 n=0/\xs=[]\/∃b o cs,a=U ⟨b,o,ae⟩/\D.box b=U cs/\o+n<=cs.length/\xs=(cs.drop o).take n/\cB xs=aa
def D_(o:Option V)(K:V->Prop):Prop:=match o with | some c=>K c | none=>False
def OQ.a7(D:ag)(K:V->ag->Prop):OQ->List V->Prop
 | .nil,[]=>K (.raw (.slice ae 0 0)) D
 | .len,[.raw (.slice _ n _)]=>K (.int .i64 n) D
 | .idx k,[.raw (.slice (U ⟨b,o,ae⟩) n _),.int _ j]=>0<=j/\j<n/\K (.ptr (.out b) (o+j.toNat*k)) D
 | .kv k lo hi mx,.raw (.slice a n cap)::vs=>kF lo 0 vs λm vs=>kF hi n vs λh vs=>kF mx cap vs λM vs=>vs=[]/\m<=h/\h<=M/\M<=cap/\K (.raw (.slice (if M=m then a else a.map (·.add (m*k))) (h - m) (M - m))) D
 | .app k,[.raw (.slice a n cap),.sl _ k' m]=>k' = k/\yL D k a n cap m K
 | .mk z,[.int _ n]=>0<=n/\n<=aM/\bH z=aa/\0<z.length/\∀b',D.box b' = ae->K (.raw (.slice (U ⟨b',0,ae⟩) n.toNat n.toNat)) (D.set b' (aA n.toNat z).flatten)
 | .lE k,vs=>LM k vs λl=>K (.sl .aW k l) D
 | .new k,vs=>LM k vs λl=>bH l.flatten=aa/\∀b',D.box b' = ae->K (.raw (.slice (U ⟨b',0,ae⟩) l.length l.length)) (D.set b' l.flatten)
 | .min,[.int k a,.int k' b]=>zP k k' = aa/\K (.int k (if b<a then b else a)) D
 | .max,[.int k a,.int k' b]=>zP k k' = aa/\K (.int k (if a<b then b else a)) D
 | .HX m k lo hi,.ptr (.out b) o::vs=>kF lo 0 vs λl vs=>kF hi m vs λh vs=>vs=[]/\l<=h/\h<=m/\K (.raw (.slice (U (if m=l then ⟨b,o,ae⟩ else ⟨b,o+l*k,ae⟩)) (h - l) (m - l))) D
 | .gl k lo hi,.raw (.slice (U ⟨b,o,ae⟩) n cap)::vs=>kF lo 0 vs λl vs=>kF hi n vs λh vs=>vs=[]/\l<=h/\h<=cap/\k=1 /\
  ∃cs,D.box b=U cs/\o+h<=cs.length/\cB (((cs.drop o).take h).drop l)=aa/\bH (((cs.drop o).take h).drop l)=aa/\K (.sl .no 1 (A7 (((cs.drop o).take h).drop l))) (D.del b)
 | .Jn,[.aF s,.int .u8 c]=>K (.int .i64 (s.count c.toNat.toUInt8:Nat)) D
 | .Lm,[.aF s,.int .u8 c]=>K (.int .i64 (zh s c.toNat.toUInt8)) D
 | .Jv,[.raw (.slice a n _)]=>∃s,HR D a n s/\K (.aF s) D
 | .mj,[.raw (.slice a n cap),.aF s]=>yL D 1 a n cap (dc s) K
 | .I5,[.raw (.slice a n cap),.raw (.slice a' n' _)]=>∃s,HR D a' n' s/\yL D 1 a n cap (dc s) K
 | .GY m,[.agg cs,.int _ j]=>0<=j/\j<m/\D_ cs[j.toNat]? λc=>c.cG=aa/\K c D
 | .A_ k,[.raw (.slice a n _),.raw (.slice a' n' _)]=>∃xs,OD D a' (Nat.min n' n*k) xs/\AQ D k a (Nat.min n' n) xs K
 | .A_ k,[.raw (.slice a n _),.sl _ k' m]=>k' = k/\m.length<=n/\AQ D k a m.length m.flatten K
 | _,_=>False
def OQ.pure:OQ->Bool
 | .nil | .len | .idx _ | .kv .. | .lE _ | .min | .max | .HX .. | .Jn | .Lm | .GY _=>aa
 | .app _ | .mk _ | .new _ | .gl .. | .Jv | .mj | .I5 | .A_ _ | .aE=>ak
def aG.a7(P:Program)(st:St)(K:V->St->Prop):aG->Prop
 | .mv x=>K (ev st x) st
 | .pick c a b=>match ev st c with | .bool aa=>K (ev st a) st | .bool ak=>K (ev st b) st | _=>False
 | .alloc z=>K (.ptr (.aC st.aC.length) 0) ⟨st.t,st.aC++[z],st.out⟩
 | .box n x=>(ev st x).wd=U n/\K (.ptr (.aC st.aC.length) 0) ⟨st.t,st.aC++[(ev st x).cells],st.out⟩
 | .ug n x=>(ev st x).wd=U n/\cB (ev st x).cells=aa/\K (.ptr (.aC st.aC.length) 0) ⟨st.t,st.aC++[(ev st x).cells],st.out⟩
 | .build z ps=>opt ((nG st z ps).map V.agg) (K2 K st)
 | .j9 k xs=>opt ((kY st k xs).map (V.sl .aW k)) (K2 K st)
 | .load agg n x=>opt (kR st agg n (ev st x)) (K2 K st)
 | .store n a x=>match dm st n (ev st x) (ev st a) with | some aH => K .any aH | none=>False
 | .uX x=>match ev st x with | .ptr p o=>K (.ptr p o) st | .elt c o=>K (.elt c o) st | .fn (.func f) a b=>K (.fn (.func f) a b) st | _=>False
 | .eD op x y=>opt (uf op (ev st x) (ev st y)) (K2 K st)
 | .nD op x y=>opt (y3 op (ev st x) (ev st y)) (K2 K st)
 | .vI neg x y=>opt (xq neg (ev st x) (ev st y)) (K2 K st)
 | .cat x y=>∃a b,ev st x = .aF a/\ev st y = .aF b/\a.length+b.length<=aM/\K (.aF (a++b)) st
 | .jf neg ks x y=>opt (xp neg ks (ev st x) (ev st y)) (K2 K st)
 | .rF neg x y=>match isNil (ev st x),ev st y with | some a,.iL=>K (.bool (if neg then !a else a)) st | _,_=>False
 | .not x=>match ev st x with | .bool b=>K (.bool (!b)) st | _=>False
 | .uS x=>match ev st x with | .sl _ _ l=>K (.int .i64 l.length) st | .raw (.slice _ n _)=>K (.int .i64 n) st | _=>False
 | .uT x=>match ev st x with | .aF s=>K (.int .i64 s.length) st | _=>False
 | .nM off x=>match ev st x with | .ptr p o=>K (.ptr p (o+off)) st | .elt c o=>K (.elt c (o+off)) st | _=>False
 | .uy agg off n x=>match ev st x with | .agg cs=>opt (bD agg n (cs.drop off)) (K2 K st) | _=>False
 | .rZ k x i => match ev st x with
  | .sl _ k' l=>k' = k/\Iy l (ev st i) λc=>K (.elt c 0) st
  | .raw (.slice (U ⟨b,o,ae⟩) n _)=>∃ik j,ev st i = .int ik j/\0<=j/\j<n/\K (.ptr (.out b) (o+j.toNat*k)) st
  | _=>False
 | .qZ m k x i => match ev st x with
  | .ptr p o=>∃kk n,ev st i = .int kk n/\0<=n/\n<(m:Nat)/\K (.ptr p (o+n.toNat*k)) st
  | .elt c o=>∃kk n,ev st i = .int kk n/\0<=n/\n<(m:Nat)/\K (.elt c (o+n.toNat*k)) st
  | _=>False
 | .sV x i=>match ev st x with | .aF s=>∃k n c,ev st i = .int k n/\0<=n/\s[n.toNat]?=U c/\K (.int .u8 c.toNat) st | _=>False
 | .call f xs=>bH (cW st xs)=aa/\cm P f (cW st xs) st.out λv D=>K v ⟨st.t,st.aC,D⟩
 | .ij x xs=>match ev st x with | .fn (.func f) a b=>bH (a++cW st xs++b)=aa/\cm P f (a++cW st xs++b) st.out λv D=>K v ⟨st.t,st.aC,D⟩ | _=>False
 | .app k s x=>pT st.out k (ev st s) (ev st x) λv D=>K v ⟨st.t,st.aC,D⟩
 | .mj s x=>∃a,ev st x = .aF a/\pT st.out 1 (ev st s) (.sl .no 1 (dc a)) λv D=>K v ⟨st.t,st.aC,D⟩
 | .kv k x lo hi mx=>(∃t l a b,ev st x = .sl t k l/\a<=b/\b<=l.length/\(match lo with | none=>a=0 | some y=>∃j,ev st y = .int j a) /\
  (match hi with | none=>b=l.length | some y=>∃j,ev st y = .int j b) /\
  match mx with
  | none=>K (.sl .no k ((l.take b).drop a)) st
  | some y=>(∃j,ev st y = .int j b)/\K (.sl .aW k ((l.take b).drop a)) st) \/
  ∃a n cap m h,ev st x = .raw (.slice a n cap)/\m<=h/\h<=cap/\(match lo with | none=>m=0 | some y=>∃j,ev st y = .int j m)/\(match hi with | none=>h=n | some y=>∃j,ev st y = .int j h)/\mx.isNone=aa /\
   K (.raw (.slice (if cap=m then a else a.map (·.add (m*k))) (h - m) (cap - m))) st
 | .yy x lo hi=>∃s a b,ev st x = .aF s/\a<=b/\b<=s.length/\(match lo with | none=>a=0 | some y=>∃j,ev st y = .int j a) /\
  (match hi with | none=>b=s.length | some y=>∃j,ev st y = .int j b)/\K (.aF ((s.take b).drop a)) st
 | .ext x i=>match ev st x with | .bq vs=>opt vs[i]? (K2 K st) | _=>False
 | .jx f first cap=>K (.fn f (cW st first) (cW st cap)) st
 | .pn k x=>match ev st x with | .int _ n=>K (.int k (k.wrap n)) st | _=>False
 | .sF x=>∃t s,ev st x = .sl t 1 (dc s)/\K (.aF s) st
 | .pe z=>bH z=aa/\∀b,st.out.box b=ae->K (.ptr (.out b) 0) ⟨st.t,st.aC,st.out.set b z⟩
 | .fZ n x=>(ev st x).wd=U n/\bH (ev st x).cells=aa/\∀b,st.out.box b=ae->K (.ptr (.out b) 0) ⟨st.t,st.aC,st.out.set b (ev st x).cells⟩
 | .own q xs=>q.a7 st.out (λv D=>K v ⟨st.t,st.aC,D⟩) (cW st xs)
def bT(P:Program):List AO->(St->Prop)->St->Prop
 | [],K,st=>K st
 | o :: r, K, st =>
  match o.guard with
  | none=>o.op.a7 P st λv aH => bT P r K (aH.put o.dst v)
  | some (g, want) =>
   match ev st (.s g) with
   | .bool b=>if b=want then o.op.a7 P st (λv aH => bT P r K (aH.put o.dst v)) else bT P r K (st.put o.dst (.bq []))
   | .bq []=>bT P r K (st.put o.dst (.bq []))
   | _=>False
mutual
def R.erase:∀(x:V) {E:Env} {v:Value},R E x v->R E x.erase v
 | .sl t k l, E, v, h => by
  simp only[V.erase,R] at h ⊢;obtain⟨a,cap,h1,h2,h3,_⟩:=h;exact⟨a,cap,h1,h2,h3,trivial⟩
 | .agg cs, E, v, h => by
  simp only[V.erase,R] at h ⊢;obtain⟨vs,h1,h2⟩:=h;exact⟨vs,h1,RL.erase cs h2⟩
 | .bq cs, E, v, h => by
  simp only[V.erase,R] at h ⊢;obtain⟨vs,h1,h2⟩:=h;exact⟨vs,h1,RL.erase cs h2⟩
 | .any,_,_,h=>by simpa [V.erase] using h
 | .bool _,_,_,h=>by simpa [V.erase] using h
 | .int _ _,_,_,h=>by simpa [V.erase] using h
 | .aF _,_,_,h=>by simpa [V.erase] using h
 | .iL,_,_,h=>by simpa [V.erase] using h
 | .ptr _ _,_,_,h=>by simpa [V.erase] using h
 | .elt _ _,_,_,h=>by simpa [V.erase] using h
 | .fn _ _ _,_,_,h=>by simpa [V.erase] using h
 | .raw _,_,_,h=>by simpa [V.erase] using h
def RL.erase:∀(l:List V) {E:Env} {vs:List Value},RL E l vs->RL E (bw l) vs
 | [],_,[],_=>by simp only[bw,RL]
 | [],_,_::_,h=>by simp only[RL] at h
 | _::_,_,[],h=>by simp only[RL] at h
 | x :: xs, _, v :: vs, h => by
  simp only[bw,RL] at h ⊢;exact⟨R.erase x h.1,RL.erase xs h.2⟩
end
def QP:∀l:List V,(bw l).length=l.length
 | []=>rfl
 | x::xs=>by simp[bw,QP xs]
variable{vs:List V}
def y4{b:Bool}{d:Nat}{K K' : Nat->List V->Prop}(h:kF b d vs K)(hk:∀n vs,K n vs->K' n vs):kF b d vs K' := by
 unfold kF at h ⊢;split at h
 .exact hk _ _ h
 .exact⟨h.1,hk _ _ h.2⟩
 .exact h.elim
variable{K K':V->ag->Prop}
def yL.mono{n:Nat}{m:List (List V)}(hk:∀v σ',K v σ' -> K' v σ')(h:yL D k a n cap m K):yL D k a n cap m K' := by
 obtain⟨h1,h2,h3,h4,h5,h6⟩:=h;refine⟨h1,h2,h3,λe=>hk _ _ (h4 e),λe e' => ?_,λe=>?_⟩
 .obtain⟨b,cs,g1,g2,g3,g4⟩:=h5 e e';exact⟨b,cs,g1,g2,g3,hk _ _ g4⟩
 .obtain⟨cs,g1,g2⟩:=h6 e;exact⟨cs,g1,λb' nH p1 p2=>hk _ _ (g2 b' nH p1 p2)⟩
variable{m:Nat}
def AQ.mono{xs:List V}(hk:∀v σ',K v σ' -> K' v σ')(h:AQ D k a m xs K):AQ D k a m xs K' :=
 ⟨λe=>hk _ _ (h.1 e),λe=>let ⟨b,o,cs,h1,h2,h3,h4⟩:=h.2 e;⟨b,o,cs,h1,h2,h3,hk _ _ h4⟩⟩
def OQ.mono(hk:∀v σ',K v σ' -> K' v σ')(q:OQ)(vs:List V)(h:q.a7 D K vs):q.a7 D K' vs:=by
 unfold OQ.a7 at h ⊢;split at h
 .exact hk _ _ h
 .exact hk _ _ h
 .exact⟨h.1,h.2.1,hk _ _ h.2.2⟩
 .exact y4 h λ_ _ h=>y4 h λ_ _ h=>y4 h λ_ _ h=>⟨h.1,h.2.1,h.2.2.1,h.2.2.2.1,hk _ _ h.2.2.2.2⟩
 .obtain⟨h0,h1,h2,h3,h4,h5,h6⟩:=h;refine⟨h0,h1,h2,h3,λe=>hk _ _ (h4 e),λe e' => ?_,λe=>?_⟩
  .obtain⟨b,cs,g1,g2,g3,g4⟩:=h5 e e';exact⟨b,cs,g1,g2,g3,hk _ _ g4⟩
  .obtain⟨cs,g1,g2⟩:=h6 e;exact⟨cs,g1,λb' nH p1 p2=>hk _ _ (g2 b' nH p1 p2)⟩
 .exact⟨h.1,h.2.1,h.2.2.1,h.2.2.2.1,λb' hb=>hk _ _ (h.2.2.2.2 b' hb)⟩
 .obtain⟨l,h1,h2⟩:=h;exact⟨l,h1,hk _ _ h2⟩
 .obtain⟨l,h1,h2,h3⟩:=h;exact⟨l,h1,h2,λb' hb=>hk _ _ (h3 b' hb)⟩
 .exact⟨h.1,hk _ _ h.2⟩
 .exact⟨h.1,hk _ _ h.2⟩
 .exact y4 h λ_ _ h=>y4 h λ_ _ h=>⟨h.1,h.2.1,h.2.2.1,hk _ _ h.2.2.2⟩
 .exact y4 h λ_ _ h=>y4 h λ_ _ h=>by
   obtain⟨g1,g2,g3,g4,cs,g5,g6,g7,g8,g9⟩:=h;exact⟨g1,g2,g3,g4,cs,g5,g6,g7,g8,hk _ _ g9⟩
 .exact hk _ _ h
 .exact hk _ _ h
 .obtain⟨s,h1,h2⟩:=h;exact⟨s,h1,hk _ _ h2⟩
 .exact h.mono hk
 .obtain⟨s,h1,h2⟩:=h;exact⟨s,h1,h2.mono hk⟩
 .obtain⟨h1,h2,h3⟩:=h;refine⟨h1,h2,?_⟩;unfold D_ at h3 ⊢;split at h3
  .exact⟨h3.1,hk _ _ h3.2⟩
  .exact h3.elim
 .obtain⟨s,h1,h2⟩:=h;exact⟨s,h1,h2.mono hk⟩
 .exact⟨h.1,h.2.1,h.2.2.mono hk⟩
 .exact h.elim
def CL{b:Bool}{d:Nat}{K:Nat->List V->Prop}(h:kF b d vs K):∃n Cb,K n Cb /\ ∀K' : Nat->List V->Prop,K' n Cb -> kF b d vs K' := by
 unfold kF at h;split at h
 .exact⟨_,_,h,λ_ h=>by unfold kF;exact h⟩
 .exact⟨_,_,h.2,λ_ h' => by unfold kF;exact⟨h.1,h'⟩⟩
 .exact h.elim
def OQ.Qu{q:OQ}(hp:q.pure=aa)(h:q.a7 D K vs):∃v,K v D/\∀(fQ:ag) (K' : V->ag->Prop),K' v fQ->q.a7 fQ K' vs:=by
 unfold OQ.a7 at h;split at h
 .exact⟨_,h,λ_ _ h=>by unfold OQ.a7;exact h⟩
 .exact⟨_,h,λ_ _ h=>by unfold OQ.a7;exact h⟩
 .exact⟨_,h.2.2,λ_ _ h' => by unfold OQ.a7;exact⟨h.1,h.2.1,h'⟩⟩
 .obtain⟨m,v1,h1,g1⟩:=CL h;obtain⟨hh,v2,h2,g2⟩:=CL h1;obtain⟨M,v3,h3,g3⟩:=CL h2;obtain⟨e1,e2,e3,e4,h4⟩:=h3;exact⟨_,h4,λ_ _ h' => by unfold OQ.a7;exact g1 _ (g2 _ (g3 _ ⟨e1,e2,e3,e4,h'⟩))⟩
 .simp[OQ.pure] at hp
 .simp[OQ.pure] at hp
 .obtain⟨l,h1,h2⟩:=h;exact⟨_,h2,λ_ _ h' => by unfold OQ.a7;exact⟨l,h1,h'⟩⟩
 .simp[OQ.pure] at hp
 .exact⟨_,h.2,λ_ _ h' => by unfold OQ.a7;exact⟨h.1,h'⟩⟩
 .exact⟨_,h.2,λ_ _ h' => by unfold OQ.a7;exact⟨h.1,h'⟩⟩
 .obtain⟨m,v1,h1,g1⟩:=CL h;obtain⟨hh,v2,h2,g2⟩:=CL h1;obtain⟨e1,e2,e3,h4⟩:=h2;exact⟨_,h4,λ_ _ h' => by unfold OQ.a7;exact g1 _ (g2 _ ⟨e1,e2,e3,h'⟩)⟩
 .simp[OQ.pure] at hp
 .exact⟨_,h,λ_ _ h=>by unfold OQ.a7;exact h⟩
 .exact⟨_,h,λ_ _ h=>by unfold OQ.a7;exact h⟩
 .simp[OQ.pure] at hp
 .simp[OQ.pure] at hp
 .simp[OQ.pure] at hp
 .obtain⟨h1,h2,h3⟩:=h;unfold D_ at h3;split at h3
  .rename_i c hc;exact⟨c,h3.2,λ_ _ h' => by unfold OQ.a7;refine⟨h1,h2,?_⟩;unfold D_;rw[hc];exact⟨h3.1,h'⟩⟩
  .exact h3.elim
 .simp[OQ.pure] at hp
 .simp[OQ.pure] at hp
 .exact h.elim
def IX:R E (.bq []) undef:=by simp only[R];exact⟨#[],rfl,by simp[RL]⟩
def O'{v:Value}(h:R E (.bq []) v):v=undef:=by
 simp only[R] at h;obtain⟨vs,rfl,h⟩:=h;cases hv:vs.toList with
 | nil =>
  have:vs=#[]:=by cases vs;simpa using hv
  subst this;rfl
 | cons x xs=>rw[hv] at h;simp[RL] at h
def cv:V->Value->Bool
 | .bool b,.bool c=>b == c
 | .int k n,.int j m=>decide (k=j)&&decide (n=m)
 | .aF s,.string t=>decide (s=t.data.toList)
 | .iL,.pointer ae=>aa
 | .sl .aW _ [],.slice ae 0 0=>aa
 | .raw .nilFunc,.nilFunc=>aa
 | .raw .nilIface,.nilIface=>aa
 | .raw (.map ae),.map ae=>aa
 | _,_=>ak
def xl:List V->List Value->Bool
 | [],[]=>aa
 | x::xs,v::vs=>cv x v&&xl xs vs
 | _,_=>ak
def Jh(f:Nat->Option (List V)):List Nat->Option (List V)
 | []=>U []
 | t::ts=>(f t).bind λa=>(Jh f ts).map (a++·)
def zeroV(P:Program):Nat->TypeId->Option (List V)
 | 0,_=>ae
 | n + 1, t =>
  match P.underlying t with
  | some .bool=>U [.bool ak]
  | some (.int k)=>U [.int k 0]
  | some .string=>U [.aF []]
  | some (.pointer _)=>U [.iL]
  | some (.slice e)=>U [.sl .aW (P.cellsOf e) []]
  | some (.func _ _ _)=>U [.raw .nilFunc]
  | some (.interface _)=>U [.raw .nilIface]
  | some (.map _ _)=>U [.raw (.map ae)]
  | some (.struct fs)=>Jh (zeroV P n) (fs.toList.map (·.type))
  | some (.array k e)=>Jh (zeroV P n) (aA k e)
  | _=>ae
def jB(P:Program)(t:TypeId):Option (List V) :=
 match P.info? t,zeroV P 30 t with
 | some i, U zs =>
  match i.zero with
  | some z=>if xl zs z.cells.toList=aa/\zs.length=i.size then U zs else ae
  | none=>ae
 | _,_=>ae
def Js(P:Program)(t:TypeId):Value->Option V
 | .slice ae 0 0 =>
  match P.underlying t with
  | some (.slice e)=>U (.sl .aW (P.cellsOf e) [])
  | _=>ae
 | .agg vs =>
  match jB P t with
  | some zs=>if xl zs vs.toList=aa then U (.agg zs) else ae
  | none=>ae
 | .bool b=>U (.bool b)
 | .int k n=>U (.int k n)
 | .string s=>U (.aF s.data.toList)
 | .pointer ae=>U .iL
 | .nilFunc=>U (.raw .nilFunc)
 | .nilIface=>U (.raw .nilIface)
 | _=>ae
def cu(P:Program)(t:TypeId):Operand->Option X
 | .tmp n=>U (.s n)
 | .const v=>(Js P t v).map .c
 | .func f=>U (.c (.fn (.func f) [] []))
 | .global g=>U (.c (.ptr (.jM g) 0))
def iU(P:Program):List TypeId->List Operand->Option (List X)
 | [],[]=>U []
 | t::ts,x::xs=>(cu P t x).bind λy=>(iU P ts xs).map (y::·)
 | _,_=>ae
def kn(P:Program)(t:TypeId):Option Operand->Option (Option X)
 | none=>U ae
 | some x=>(cu P t x).map U
def gG(P:Program)(t:TypeId):Option Bool :=
 match P.underlying t with
 | some (.struct _) | some (.array _ _)=>U aa
 | some _=>U ak
 | none=>ae
def dO(P:Program)(t:TypeId):Option Nat:=(P.info? t).map (·.size)
def zZ(P:Program)(place:Nat->Option (Nat × TypeId)):List (Nat × Operand)->Option (List (Nat × Nat × X))
 | []=>U []
 | (i, x) :: ps =>
  match place i with
  | some (off, t) =>
   match dO P t,cu P t x with
   | some n,U y=>if n=0 then ae else(zZ P place ps).map ((off,n,y)::·)
   | _,_=>ae
  | none=>ae
def HM(f:TypeId->Nat->Option (List (Nat × Nat)))(size:TypeId->Nat)(all:Nat):List Field->Nat->Option (List (Nat × Nat))
 | [],_=>U []
 | x::xs,off=>if x.name = "_" \/ all<x.offset+size x.type then ae else(f x.type (off+x.offset)).bind λa=>(HM f size all xs off).map (a++·)
def HN(f:Nat->Option (List (Nat × Nat)))(size all:Nat):List Nat->Nat->Option (List (Nat × Nat))
 | [],_=>U []
 | i::is,off=>if all<i*size+size then ae else(f (off+i*size)).bind λa=>(HN f size all is off).map (a++·)
def wD(P:Program):Nat->TypeId->Nat->Option (List (Nat × Nat))
 | 0,_,_=>ae
 | n + 1, t, off =>
  match P.info? t,P.underlying t with
  | some _,U .bool=>if P.cellsOf t=1 then U [(off,0)] else ae
  | some _,U (.int _)=>if P.cellsOf t=1 then U [(off,1)] else ae
  | some _,U .string=>if P.cellsOf t=1 then U [(off,2)] else ae
  | some _,U (.struct fs)=>if P.stoodInHeld t=aa then ae else HM (wD P n) P.cellsOf (P.cellsOf t) fs.toList off
  | some _,U (.array k e)=>match P.info? e with | some _=>HN (wD P n e) (P.cellsOf e) (P.cellsOf t) (cc k) off | none=>ae
  | _,_=>ae
def MT(P:Program)(t:TypeId):Option (List Nat) :=
 match wD P 20 t 0 with
 | some pl=>if pl.map (·.1)=cc (P.cellsOf t)/\P.eqGuardType P.depth t=ak then U (pl.map (·.2)) else ae
 | none=>ae
def yf(P:Program)(o:Oper):Option aG :=
 match o.op with
 | .move x | .assign x=>(cu P o.type x).map .mv
 | .pick c a b =>
  match cu P o.type c,cu P o.type a,cu P o.type b with
  | some c,U a,U b=>U (.pick c a b)
  | _,_,_=>ae
 | .alloc t=>(jB P t).map .alloc
 | .box t x =>
  match dO P t,cu P t x with
  | some n,U y=>U (.box n y)
  | _,_=>ae
 | .build t ps =>
  match jB P t,P.underlying t with
  | some z,U (.struct fs)=>if fs.toList.all (λf=>(P.info? f.type).isSome)=aa then(zZ P (λi=>(fs[i]?).map λf=>(f.offset,f.type)) ps.toList).map (.build z) else ae
  | some z,U (.array _ e)=>if (P.info? e).isSome=aa then(zZ P (λi=>U (i*P.cellsOf e,e)) ps.toList).map (.build z) else ae
  | _,_=>ae
 | .buildSlice t len ps =>
  match P.underlying t with
  | some (.slice e) =>
   match dO P e,jB P e,iU P (aA len e) (ps.toList.map (·.2)) with
   | some k,U _,U xs=>if ps.toList.map (·.1)=cc len/\len*k<=16777216/\0<k then U (.j9 k xs) else ae
   | _,_,_=>ae
  | _=>ae
 | .load t x =>
  match gG P t,dO P t,cu P t x with
  | some g,U n,U y=>U (.load g n y)
  | _,_,_=>ae
 | .store t x y =>
  match dO P t,cu P t x,cu P t y with
  | some n,U x,U y=>if n=0 then ae else U (.store n x y)
  | _,_,_=>ae
 | .nilCheck x=>(cu P o.type x).map .uX
 | .binOp op t x y _ =>
  match cu P t x,cu P t y with
  | some x, U y =>
   match P.underlying t with
   | some (.int _)=>U (.eD op x y)
   | some .string=>match op with | .add=>U (.cat x y) | _=>U (.nD op x y)
   | some .bool=>match op with | .eql=>U (.vI ak x y) | .neq=>U (.vI aa x y) | _=>ae
   | some (.struct _) | some (.array _ _) =>
    match MT P t with
    | some ks=>match op with | .eql=>U (.jf ak ks x y) | .neq=>U (.jf aa ks x y) | _=>ae
    | none=>ae
   | _=>ae
  | _,_=>ae
 | .unOp .not _ x=>(cu P o.type x).map .not
 | .convert src dst x =>
  match P.underlying src,P.underlying dst,cu P src x with
  | some (.int _),U (.int k),U y=>U (.pn k y)
  | some (.slice e),U .string,U y=>match P.underlying e with | some (.int .u8)=>U (.sF y) | _=>ae
  | _,_,_=>ae
 | .makeFunc f first cap =>
  match iU P (aA first.size 0) first.toList,iU P (aA cap.size 0) cap.toList with
  | some a,U b=>U (.jx f a b)
  | _,_=>ae
 | .slice t x lo hi mx =>
  match cu P t x,kn P t lo,kn P t hi,kn P t mx with
  | some x, U lo, U hi, U mx =>
   match P.underlying t with
   | some (.slice e)=>match dO P e with | some k=>if mx.isSome=aa->hi.isSome=aa then U (.kv k x lo hi mx) else ae | none=>ae
   | some .string=>match mx with | none=>U (.yy x lo hi) | some _=>ae
   | _=>ae
  | _,_,_,_=>ae
 | .fieldAddr s x i =>
  match P.underlying s,cu P s x with
  | some (.struct fs), U y =>
   match fs[i]? with
   | some f=>match dO P f.type with | some n=>if n=0 then ae else U (.nM f.offset y) | none=>ae
   | none=>ae
  | _,_=>ae
 | .field s x i =>
  match P.underlying s,cu P s x with
  | some (.struct fs), U y =>
   match fs[i]? with
   | some f=>match gG P f.type,dO P f.type with | some g,U n=>U (.uy g f.offset n y) | _,_=>ae
   | none=>ae
  | _,_=>ae
 | .indexAddr t x i =>
  match P.underlying t,cu P t x,cu P t i with
  | some (.slice e),U x,U i=>(dO P e).map λk=>.rZ k x i
  | some (.array m e),U x,U i=>(dO P e).map λk=>.qZ m k x i
  | _,_,_=>ae
 | .index t x i =>
  match P.underlying t,cu P t x,cu P t i with
  | some .string,U x,U i=>U (.sV x i)
  | _,_,_=>ae
 | .extract x i=>(cu P o.type x).map λy=>.ext y i
 | .call c =>
  match c.callee with
  | .value (.func f)=>(iU P c.argTypes.toList c.args.toList).map (.call f)
  | .value x =>
   match cu P 0 x,iU P c.argTypes.toList c.args.toList with
   | some y,U xs=>U (.ij y xs)
   | _,_=>ae
  | .builtin .len =>
   match c.argTypes.toList,c.args.toList with
   | [t], [x] =>
    match P.underlying t,cu P t x with
    | some (.slice _),U y=>U (.uS y)
    | some .string,U y=>U (.uT y)
    | _,_=>ae
   | _,_=>ae
  | .builtin .append =>
   match c.argTypes.toList,c.args.toList with
   | [t, u], [s, x] =>
    match P.underlying t,P.underlying u,cu P t s,cu P u x with
    | some (.slice e), U (.slice e'), U s, U x =>
     match P.info? e,jB P e with
     | some i,U _=>if e=e' /\ i.bytes<=4096/\0<i.size then U (.app i.size s x) else ae
     | _,_=>ae
    | some (.slice e), U .string, U s, U x =>
     match P.info? e,jB P e with
     | some i,U _=>match P.underlying e with | some (.int .u8)=>if i.size=1/\i.bytes=1 then U (.mj s x) else ae | _=>ae
     | _,_=>ae
    | _,_,_,_=>ae
   | _,_=>ae
  | _=>ae
 | _=>ae
def abm:∀{x:V} {v:Value},cv x v=aa->R E x v:=by
 intro x v h;unfold cv at h;split at h<;>simp_all [R,ub]
def qH{E:Env}:∀{xs:List V} {vs:List Value},xl xs vs=aa->RL E xs vs
 | [],[],_=>by simp[RL]
 | [],_::_,h=>by simp[xl] at h
 | _::_,[],h=>by simp[xl] at h
 | x :: xs, v :: vs, h => by
  simp only[xl,bA] at h;simp only[RL];exact⟨abm h.1,qH h.2⟩
variable{t:TypeId}{zs:List V}
def sr(h:jB P t=U zs):
 ∃i z,P.info? t=U i/\i.zero=U z/\xl zs z.cells.toList=aa/\zs.length=i.size:=by
 unfold jB at h;split at h
 .rename_i i ys h1 h2;split at h
  .rename_i z hz;split at h
   .rename_i hc;simp only[aY] at h;subst h;exact⟨i,z,h1,hz,hc.1,hc.2⟩
   .simp at h
  .simp at h
 .simp at h
def aaU{v:Value}{x:V}(h:Js P t v=U x):R E x v:=by
 unfold Js at h;split at h
 .split at h
  .simp only[aY] at h;subst h;simp[R,ub]
  .simp at h
 .rename_i vs;split at h
  .rename_i zs hz;split at h
   .rename_i hc;simp only[aY] at h;subst h;simp only[R];exact⟨vs,rfl,qH hc⟩
   .simp at h
  .simp at h
 all_goals first | (simp only[aY] at h;subst h;simp[R];done) | (simp at h)
def Be{a:Act}(h:RL E st.t a.tmps.toList)(n:Nat):R E (ev st (.s n)) (a.eval (.tmp n)):=by
 have:=Fe h n undef
 simpa [ev,Act.eval,pU,gU] using this
variable{x:Operand}
def mz{a:Act}{y:X}(h:RL E st.t a.tmps.toList)(hx:cu P t x=U y):
 R E (ev st y) (a.eval x):=by
 cases x with
 | tmp n=>simp only[cu,aY] at hx;subst hx;exact Be h n
 | const v =>
  simp only[cu,cZ] at hx;obtain⟨u,hu,rfl⟩:=hx;exact aaU hu
 | func f=>simp only[cu,aY] at hx;subst hx;simp only[ev,R,Act.eval];exact⟨#[],#[],rfl,by simp[RL],by simp[RL]⟩
 | global g=>simp only[cu,aY] at hx;subst hx;simp only[ev,R,Act.eval]
def Mg{P:Program}{E:Env}{st:St}{a:Act}(h:RL E st.t a.tmps.toList):∀{ts:List TypeId} {xs:List Operand} {ys:List X},iU P ts xs=U ys ->
 RL E (cW st ys) (xs.map a.eval)
 | [],[],ys,hx=>by simp only[iU,aY] at hx;subst hx;simp[cW,RL]
 | [],_::_,_,hx=>by simp[iU] at hx
 | _::_,[],_,hx=>by simp[iU] at hx
 | t :: ts, x :: xs, ys, hx => by
  simp only[iU,gV,cZ] at hx;obtain⟨y,h1,zs,h2,rfl⟩:=hx;simp only[cW,bX,RL];exact⟨mz h h1,Mg h h2⟩
def dz(E:Env)(a:Act)(d:Option Tmp)(K:V->St->Prop):Act->World->Prop :=
 λa' w' => ∃E' v x aH,E'.w=w' /\ Fr E E' /\ bB E' aH a/\R E' v x/\a' = a.put d x/\K v aH
section
variable {P:Program} {E:Env} {st:St} {a:Act} {o:Oper} {K:V->St->Prop} {Q:Exit->Act->World->Prop}
def cP(hs:bB E st a){x:Value}(hr:(execOp a.eval o).run P E.w = .ok (.value x) E.w)(hv:R E v x)(hk:K v st):o.wp P a E.w (dz E a o.dst K) Q:=by
 unfold Oper.wp;rw[hr];exact⟨E,v,x,st,rfl,Fr.refl E,hs,hv,rfl,hk⟩
def Rd(E:Env)(cs:List V)(b o:Nat):Prop:=∀(j:Nat) x,cs[j]?=U x->∃v,E.w.cell? ⟨b,o+j,ae⟩=U v/\R E x v
def Env.Ms(E:Env):E.nl.le E:=⟨λ_ _ _ h h' => ⟨h,h'⟩,λ_ _ h=>by simp at h,(Env.le.refl E).tok⟩
variable{cs:List V}
def Rd.mono{E E' : Env}(h:E.le E')(hw:E'.w=E.w){b o:Nat}(hr:Rd E cs b o):Rd E' cs b o:=λj x hx=>by
 obtain⟨v,h1,h2⟩:=hr j x hx;exact⟨v,by rw[hw];exact h1,h2.mono _ h⟩
def Rd.Ur{E:Env}(h:ja E b cs):Rd E cs b 0:=by
 obtain⟨c,e,h1,h2,h3⟩:=h;intro j x hx;obtain⟨v,hv,hr⟩:=h3 j x hx;exact⟨v,by simp[World.cell?,h1,hv],hr⟩
def Rd.Mw{E:Env}:∀{cs:List V} {b o:Nat},dQ E cs b o->Rd E cs b o
 | [],_,_,_=>λj x hx=>by simp at hx
 | y :: ys, b, o, h => λj x hx => by
  simp only[dQ] at h;obtain⟨⟨c,h1,_,_,h3⟩,h4⟩:=h;cases j with
  | zero=>simp at hx;subst hx;exact⟨c,h1,h3⟩
  | succ j =>
   simp at hx;obtain⟨v,hv,hr⟩:=Rd.Mw h4 j x hx;exact⟨v,by rw[show o+(j+1)=o+1+j from by omega];exact hv,hr⟩
def Rd.drop{E:Env}{b o:Nat}(h:Rd E cs b o)(n:Nat):Rd E (cs.drop n) b (o+n):=λj x hx=>by
 rw[tT] at hx;obtain⟨v,hv,hr⟩:=h _ x hx;exact⟨v,by rw[show o+n+j=o+(n+j) from by omega];exact hv,hr⟩
def NZ:∀{n:Nat} {cs xs:List V},takeN n cs=U xs->xs=cs.take n/\n<=cs.length
 | 0,cs,xs,h=>by simp[takeN] at h;subst h;simp
 | n+1,[],xs,h=>by simp[takeN] at h
 | n + 1, c :: cs, xs, h => by
  simp only[takeN,cZ] at h;obtain⟨ys,h1,rfl⟩:=h;obtain⟨rfl,h2⟩:=NZ h1;simp;omega
def Rd.cells{E:Env}:∀{cs:List V} {b o:Nat},Rd E cs b o->∃vs,RL E cs vs/\∀(j:Nat) v,vs[j]?=U v->E.w.cell? ⟨b,o+j,ae⟩=U v
 | [],_,_,_=>⟨[],by simp[RL],λj v h=>by simp at h⟩
 | c :: cs, b, o, h => by
  obtain⟨v,h1,h2⟩:=h 0 c (by simp);obtain⟨vs,h3,h4⟩:=Rd.cells (cs:=cs) (b:=b) (o:=o+1) λj x hx=>by
   obtain⟨v,hv,hr⟩:=h (j+1) x (by simpa using hx);exact⟨v,by rw[show o+1+j=o+(j+1) from by omega];exact hv,hr⟩
  refine⟨v::vs,?_,λj u hu=>?_⟩
  .simp only[RL];exact⟨h2,h3⟩
  .cases j with
   | zero=>simp at hu;subst hu;simpa using h1
   | succ j=>simp at hu;rw[show o+(j+1)=o+1+j from by omega];exact h4 j u hu
def lh(b o j:Nat):(⟨b,o,ae⟩:Addr).add j=⟨b,o+j,ae⟩:=by
 unfold Addr.add;split<;>simp_all
variable{g:Bool}
def Ao(h:gG P t=U g)(w:World):(isAgg t).run P w = .ok g w:=by
 unfold gG at h;cases hu:P.underlying t with
 | none=>simp[hu] at h
 | some d =>
  simp only[hu] at h;simp only[isAgg,Sem.run_bind,run_underlying hu,Result.andThen_ok];cases d<;>simp_all
def nh{n:Nat}(h:dO P t=U n)(w:World):(sizeOf t).run P w = .ok n w:=by
 unfold dO at h;simp only[cZ] at h;obtain⟨i,hi,rfl⟩:=h;simp[sizeOf,typeInfo,hi]
def run_load{n:Nat}(ht:gG P t=U g)(hn:dO P t=U n){b o:Nat}(h:Rd E cs b o)(hv:bD g n cs=U v):
 ∃x,(loadVar t ⟨b,o,ae⟩).run P E.w = .ok x E.w/\R E v x:=by
 cases g with
 | false =>
  cases cs with
  | nil=>simp[bD] at hv
  | cons c cs =>
   simp only[bD,aY] at hv;subst hv;obtain⟨x,h1,h2⟩:=h 0 c (by simp);exact⟨x,by simp only[vz] at h1;simp[loadVar,Ao ht,h1],h2⟩
 | true =>
  simp only[bD,cZ] at hv;obtain⟨xs,h1,rfl⟩:=hv;obtain⟨rfl,h2⟩:=NZ h1;have h' : Rd E (cs.take n) b o:=λj x hx=>by
   rw[IK] at hx;split at hx
   .exact h j x hx
   .simp at hx
  obtain⟨vs,h3,h4⟩:=h'.cells;have hl:=fC h3;have gz : vs.length=n:=by rw[<-hl];simp;omega
  refine⟨.agg vs.toArray,?_,by simp only[R];exact⟨vs.toArray,rfl,by simpa using h3⟩⟩;have hc:=run_loadCells_list (P:=P) E.w ⟨b,o,ae⟩ vs (λj u hu=>by rw[lh];exact h4 j u hu);rw[gz] at hc;simp[loadVar,Ao ht,nh hn,hc]
def To(hs:bB E st a){n:Nat}{p:V}{x:Value}(h:kR st g n p=U v)(hp:R E p x):
 ∃b o cs,x = .pointer (U ⟨b,o,ae⟩)/\Rd E cs b o/\bD g n cs=U v:=by
 cases p with
 | ptr p off =>
  cases p with
  | aC i =>
   simp only[kR,FC,gV] at h;obtain⟨cs,h1,h2⟩:=h;simp only[R] at hp;obtain⟨b,hb,rfl⟩:=hp;obtain⟨b',h3,_,h5⟩:=hs.cU.box i cs h1;rw[hb] at h3;simp only[aY] at h3;subst h3;exact⟨b,off,cs.drop off,rfl,by simpa using (Rd.Ur h5).drop off,h2⟩
  | out b =>
   simp only[kR,FC,gV] at h;obtain⟨cs,h1,h2⟩:=h;simp only[R] at hp;subst hp;obtain⟨_,h5⟩:=hs.ok.box b cs h1;exact⟨b,off,cs.drop off,rfl,by simpa using ((Rd.Ur h5).mono E.Ms rfl).drop off,h2⟩
  | jM b =>
   simp only[kR,FC,gV] at h;obtain⟨cs,h1,h2⟩:=h;simp only[R] at hp;subst hp;exact⟨b,off,cs.drop off,rfl,by simpa using ((Rd.Mw (hs.ok.bO b cs h1)).mono E.Ms rfl).drop off,h2⟩
 | elt cs off =>
  simp only[kR] at h;simp only[R] at hp;obtain⟨b,o,rfl,h2⟩:=hp;exact⟨b,o+off,cs.drop off,rfl,((Rd.Mw h2).mono E.Ms rfl).drop off,h⟩
 | _=>simp[kR] at h
def asG(hs:bB E st a){n:Nat}{y:X}(ho:o.op = .load t x)(ht:gG P t=U g)(hn:dO P t=U n)(hy:R E (ev st y) (a.eval x))
 (h:opt (kR st g n (ev st y)) (K2 K st)):o.wp P a E.w (dz E a o.dst K) Q:=by
 unfold opt K2 at h;split at h
 .rename_i v hv;obtain⟨b,off,cs,h1,h2,h3⟩:=To hs hv hy;obtain⟨u,h4,h5⟩:=run_load ht hn h2 h3;exact cP hs (by simp[execOp,ho,Instr.loadAt,Instr.sureAddr,h1,h4]) h5 h
 .exact h.elim
end
structure Ext(w w' : World):Prop where
 os:w'.os=w.os
 output:w'.output=w.output
 tape:w'.tape=w.tape
 size:w.heap.size<=w'.heap.size
 block:∀b,b<w.heap.size->w'.heap[b]?=w.heap[b]?
 gl:∀a,w'.frozen? a=w.frozen? a
def Ext.refl(w:World):Ext w w:=⟨rfl,rfl,rfl,bL _,λ_ _=>rfl,λ_=>rfl⟩
variable{w':World}
def Ext.drew(h:Ext w w'):Ext w w'.drew:=⟨h.os,h.output,h.tape,h.size,h.block,h.gl⟩
def Ext.alloc(h:Ext w w')(c:Array Value)(t:TypeId):Ext w (w'.alloc (.cells c t)) :=
 ⟨h.os,h.output,h.tape,by simp;have:=h.size;omega,λb hb=>(heap_alloc_old w' _ (tW hb h.size)).trans (h.block b hb),λa=>(ag9 w' c t a).trans (h.gl a)⟩
def A8{o:Nat}(h:w'.heap[b]?=w.heap[b]?):w'.cell? ⟨b,o,ae⟩=w.cell? ⟨b,o,ae⟩:=by simp[World.cell?,h]
def TU{o:Nat}{c:Value}(h:w.cell? ⟨b,o,ae⟩=U c):b<w.heap.size:=World.block_lt_of_cell? (a:=⟨b,o,ae⟩) w h
def ko{x:Obj}(h:w.heap[b]?=U x):b<w.heap.size:=(ky.1 h).1
def xx(hf:∀b,E.w.heap.size<=b->E.aZ b = .const)(hx:Ext E.w E'.w)(hr:∀b,b<E.w.heap.size->E'.aZ b=E.aZ b)
 (ht:∀t n,E.aJ t=U n->E'.aJ t=U n):Fr E E' := by
 refine⟨hx.os,hx.output,hx.tape,hx.size,hx.gl,?_,?_,?_,?_,?_,?_,λb c e hb=>⟨c,(hx.block b (ko hb)).trans hb,rfl⟩⟩
 .intro b o c hc hv;have hb:=TU hv;exact⟨by rw[hr b hb];exact hc,by rw[A8 (hx.block b hb)];exact hv⟩
 .intro t n hn;refine⟨n,ht t n hn,bL _,λ_ b c hb=>?_⟩;have az:b<E.w.heap.size:=by
   rcases vA b E.w.heap.size with h | h
   .exact h
   .rw[hf b h] at hb;simp at hb
  exact⟨by rw[hr b az];exact hb,λcs e bP=>⟨cs,by rw[hx.block b az];exact bP,rfl⟩⟩
 .intro b hb _;exact⟨hx.block b hb,hr b hb⟩
 .intro b hb h;rw[hr b hb] at h;exact .inl h
 .intro b t c hb h;rw[hr b hb] at h;exact⟨c,h⟩
 .intro b i hb h;rw[hr b hb] at h;exact⟨i,h⟩
variable{cs:List V}
def ja.mono(h:E.le E')(hb:E'.w.heap[b]?=E.w.heap[b]?)(k:ja E b cs):ja E' b cs:=by
 obtain⟨c,e,h1,h2,h3⟩:=k;exact⟨c,e,by rw[hb];exact h1,h2,λj x hx=>let ⟨v,hv,hr⟩:=h3 j x hx;⟨v,hv,hr.mono _ h⟩⟩
def BT(h:E.ok D)(hle:E.nl.le E'.nl)(hb:∀b,E.aZ b = .pH->b<E.w.heap.size->E'.aZ b = .pH/\E'.w.heap[b]?=E.w.heap[b]?)
 (ht:∀t n,E.aJ t=U n->E'.aJ t=U n) (hf:∀b,E'.w.heap.size<=b->E'.aZ b = .const) (hn:∃N,∀t,N<=t->E'.aJ t=ae):E'.ok D:=by
 refine⟨λb cs bP=>?_,λt n kP=>ht t n (h.aJ t n kP),hf,hn,λb cs hc=>dQ.mono _ hle (h.bO b cs hc)⟩;obtain⟨h1,h2⟩:=h.box b cs bP;have az:b<E.w.heap.size:=by obtain⟨c,e,h3,_⟩:=h2;exact ko (w:=E.w) h3
 obtain⟨h3,h4⟩:=hb b h1 az;exact⟨h3,h2.mono hle h4⟩
def pI{ls:List (List V)}(h:E.cU ls)(hle:E.le E')(hb:∀b i,E.aZ b = .iB i->b<E.w.heap.size->E'.aZ b = .iB i/\E'.w.heap[b]?=E.w.heap[b]?)
 (hl:∀i,ls.length<=i->E'.aC i=ae):E'.cU ls:=by
 refine⟨λi cs bP=>?_,hl⟩;obtain⟨b,h1,h2,h3⟩:=h.box i cs bP;have az:b<E.w.heap.size:=by obtain⟨c,e,h3,_⟩:=h3;exact ko (w:=E.w) h3
 obtain⟨h4,h5⟩:=hb b i h2 az;exact⟨b,hle.aC i b h1,h4,h3.mono hle h5⟩
section
variable {P:Program} {E:Env} {st:St} {a:Act} {o:Oper} {K:V->St->Prop} {Q:Exit->Act->World->Prop}
def Es(hs:bB E st a)(hx:Ext E.w w'):Fr E {E with w:=w'}/\E.le {E with w:=w'}/\bB {E with w:=w'} st a:=by
 have ba:Fr E {E with w:=w'}:=xx hs.ok.fresh hx (λ_ _=>rfl) (λ_ _ h=>h);have hle:E.le {E with w:=w'}:=ba.le λ_ _ h=>h
 refine⟨ba,hle,BT hs.ok ba.nl (λb h hb=>⟨h,hx.block b hb⟩) (λ_ _ h=>h) (λb hb=>hs.ok.fresh b (w7 hx.size hb)) hs.ok.nt,
  pI hs.cU hle (λb i h hb=>⟨h,hx.block b hb⟩) hs.cU.none,hs.defers,RL.mono _ hle hs.slot⟩
def Xj(hs:bB E st a)(hx:Ext E.w w'){x:Value}(hr:(execOp a.eval o).run P E.w = .ok (.value x) w')(hv:R {E with w:=w'} v x)(hk:K v st):
 o.wp P a E.w (dz E a o.dst K) Q:=by
 unfold Oper.wp;rw[hr];obtain⟨h1,_,h3⟩:=Es hs hx;exact⟨_,v,x,st,rfl,h1,h3,hv,rfl,hk⟩
def Xl(hs:bB E st a)(hr:(execOp a.eval o).run P E.w = .ok (.value (.pointer (U ⟨E.w.heap.size,0,ae⟩))) (E.w.alloc (.cells c e)))
 (hz:RL E zs c.toList) (hk:K (.ptr (.aC st.aC.length) 0) ⟨st.t,st.aC++[zs],st.out⟩):o.wp P a E.w (dz E a o.dst K) Q:=by
 unfold Oper.wp;rw[hr]
 let E' : Env:={w:=E.w.alloc (.cells c e),aZ:=λb=>if b=E.w.heap.size then .iB st.aC.length else E.aZ b,aC:=λi=>if i=st.aC.length then U E.w.heap.size else E.aC i,aJ:=E.aJ}
 have hx:Ext E.w E'.w:=(Ext.refl _).alloc _ _;have ba:Fr E E' := xx hs.ok.fresh hx (λb hb=>by simp only[E'];rw[aB (by omega)]) (λ_ _ h=>h);have hle:E.le E' := ba.le λi b h=>by
  simp only[E'];split
  .rename_i hi;rw[hs.cU.none i (by omega)] at h;simp at h
  .exact h
 refine⟨E',_,_,⟨st.t,st.aC++[zs],st.out⟩,rfl,ba,⟨?_,⟨?_,?_⟩,hs.defers,RL.mono _ hle hs.slot⟩,?_,rfl,hk⟩
 .refine BT hs.ok ba.nl (λb h hb=>⟨by simp only[E'];rw[aB (by omega)];exact h,hx.block b hb⟩) (λ_ _ h=>h) (λb hb=>?_) hs.ok.nt;simp only[E',World.size_alloc] at hb ⊢;rw[aB (by omega)];exact hs.ok.fresh b (by omega)
 .intro i cs bP
  rcases Cw i st.aC.length with hi | hi | hi
  .rw[sv hi] at bP;obtain⟨b,h1,h2,h3⟩:=hs.cU.box i cs bP;have az:b<E.w.heap.size:=by obtain⟨c,e,h3,_⟩:=h3;exact ko (w:=E.w) h3
   exact⟨b,hle.aC i b h1,by simp only[E'];rw[aB (by omega)];exact h2,h3.mono hle (hx.block b az)⟩
  .subst hi;rw[AT (bL _)] at bP;simp at bP;subst bP;have hl:=fC hz;refine⟨E.w.heap.size,by simp[E'],by simp[E'],c,e,heap_alloc_new _ _,by simp at hl;omega,λj x hx=>?_⟩;obtain⟨v,hv,cg⟩:=qA hz j x hx;exact⟨v,by simpa using hv,cg.mono _ hle⟩
  .rw[yP (by simp;omega)] at bP;simp at bP
 .intro i hi;simp at hi;simp only[E'];rw[aB (by omega)];exact hs.cU.none i (by omega)
 .simp only[R];exact⟨E.w.heap.size,by simp[E'],rfl⟩
def xc{x:V}{v:Value}{n:Nat}(h:R E x v)(hw:x.wd=U n):RL E x.cells v.cells.toList/\v.cells.size=n:=by
 cases x<;>simp only[V.wd,aY] at hw<;>try simp at hw
 case agg cs =>
  simp only[R] at h;obtain⟨vs,rfl,h2⟩:=h
  have:=fC h2
  exact⟨by simpa [V.cells,Value.cells] using h2,by simp[Value.cells];simp at this;omega⟩
 case raw u =>
  simp only[R] at h;subst h;obtain⟨ho,rfl⟩:=hw;cases v<;>simp_all [Value.oneCell',Value.cells,V.cells,RL,R]
 case ptr p off =>
  subst hw;have h' := h;cases p
  .simp only[R] at h;obtain⟨b,_,rfl⟩:=h;simp[Value.cells,V.cells,RL];exact h'
  .simp only[R] at h;subst h;simp[Value.cells,V.cells,RL];exact h'
  .simp only[R] at h;subst h;simp[Value.cells,V.cells,RL];exact h'
 all_goals
  subst hw;have h' := h;simp only[R] at h
  first
   | (subst h;simp[Value.cells,V.cells,RL];exact h')
   | (obtain⟨b,o,rfl,_⟩:=h;simp[Value.cells,V.cells,RL];exact h')
def yj:∀{xs:List V} {vs:List Value},RL E xs vs->cB xs=aa->∀v∈vs,v.oneCell' = aa
 | [],[],_,_=>λv hv=>by simp at hv
 | [],_::_,h,_=>by simp[RL] at h
 | _::_,[],h,_=>by simp[RL] at h
 | x :: xs, v :: vs, h, ho => by
  simp only[RL] at h;simp only[cB,bA] at ho;intro u hu
  rcases kA.1 hu with rfl | hu
  .obtain⟨hr,_⟩:=h;have h1:=ho.1;cases x<;>simp only[V.one] at h1<;>try (simp at h1;done)
   case ptr p off=>cases p<;>simp only[R] at hr<;>first | (subst hr;rfl) | (obtain⟨b,_,rfl⟩:=hr;rfl)
   all_goals
    simp only[R] at hr
    first
     | (subst hr;first | rfl | exact h1)
     | (obtain⟨b,o,rfl,_⟩:=hr;rfl)
  .exact yj h.2 ho.2 u hu
def Ko:∀{n:Nat} {xs:List V},bW n xs=aa->n<=xs.length
 | 0,_,_=>IU _
 | n+1,[],h=>by simp[bW] at h
 | n+1,x::xs,h=>by simp only[bW] at h;have:=Ko h;simp;omega
def Uy:∀{l xs:List V},xs.length<=l.length->∀j:Nat,(over l xs)[j]?=if j<xs.length then xs[j]? else l[j]?
 | [],[],_,j=>by simp[over]
 | [],_::_,h,_=>by simp at h
 | a::l,[],_,j=>by simp[over]
 | a :: l, x :: xs, h, j => by
  cases j with
  | zero=>simp[over]
  | succ j=>simp[over,Uy (l:=l) (xs:=xs) (by simpa using h)]
def Uz:∀{l xs:List V},(over l xs).length=l.length
 | [],_=>by simp[over]
 | a::l,[]=>by simp[over]
 | a::l,x::xs=>by simp[over,Uz]
def NI:∀{l:List V} {n:Nat} {xs:List V},(setAt l n xs).length=l.length
 | l,0,xs=>by cases l<;>simp[setAt,Uz]
 | [],n+1,xs=>by simp[setAt]
 | a::l,n+1,xs=>by simp[setAt,NI]
def NH:∀{l:List V} {n:Nat} {xs:List V},n+xs.length<=l.length->∀j:Nat,
 (setAt l n xs)[j]?=if j<n then l[j]? else if j<n+xs.length then xs[j - n]? else l[j]?
 | l, 0, xs, h, j => by
  have h' : setAt l 0 xs=over l xs:=by cases l<;>simp[setAt]
  rw[h',Uy (by omega)];simp
 | [],n+1,xs,h,j=>by simp at h
 | a :: l, n + 1, xs, h, j => by
  cases j with
  | zero=>simp[setAt]
  | succ j =>
   have:=NH (l:=l) (n:=n) (xs:=xs) (by simp at h;omega) j
   simp only[setAt,List.getElem?_cons_succ,this]
   by_cases h1:j<n
   .rw[aD h1,aD (show j+1<n+1 by omega)]
   .rw[aB h1,aB (show ¬j+1<n+1 by omega)]
    by_cases h2:j<n+xs.length
    .rw[aD h2,aD (show j+1<n+1+xs.length by omega),show j+1 - (n+1)=j - n from by omega]
    .rw[aB h2,aB (show ¬j+1<n+1+xs.length by omega)]
variable{off:Nat}
def Nt{n:Nat}(hn:dO P t=U n)(hb:w.heap[b]?=U (.cells c e (0,0))){v:Value}(hv:v.cells.size=n)
 (wa:off+n<=c.size) (h1:∀u∈v.cells.toList,u.oneCell' = aa) :
 (storeVar t ⟨b,off,ae⟩ v).run P w = .ok () (w.setRow b (c.toList.take off++v.cells.toList++c.toList.drop (off+n)).toArray):=by
 have h:=run_storeCells_at (P:=P) b off e v.cells.toList 0 c w hb (by simp;omega) h1;simp only[vz,AL,hv] at h;simp[storeVar,nh hn,hv,h]
def Er{c vs:List Value}(h:off+vs.length<=c.length)(j:Nat):
 (c.take off++vs++c.drop (off+vs.length))[j]?=if j<off then c[j]? else if j<off+vs.length then vs[j - off]? else c[j]?:=by
 have hl:(c.take off).length=off:=by simp;omega
 by_cases h1:j<off
 .rw[aD h1,dZ,sv (by omega),IK,aD h1]
 .rw[aB h1]
  by_cases h2:j<off+vs.length
  .rw[aD h2,dZ,AT (by omega),sv (by omega),hl]
  .rw[aB h2,AT (by simp;omega),tT];congr 1;simp;omega
def FD(hc:cs.length<=c.size)(hb:∀(j:Nat) x,cs[j]?=U x->∃v,c[j]?=U v/\R E' x v)
 {xs:List V} {vs:List Value} (hx:RL E' xs vs) {off:Nat} (wa:off+xs.length<=cs.length)
 (hn:E'.w.heap[b]?=U (.cells (c.toList.take off++vs++c.toList.drop (off+vs.length)).toArray e (0,0))):ja E' b (setAt cs off xs):=by
 have hl:=fC hx;refine⟨_,e,hn,?_,λj x hj=>?_⟩
 .simp[NI];omega
 .rw[NH wa] at hj;have hs:=Er (c:=c.toList) (vs:=vs) (off:=off) (by simp;omega) j;simp only[XK];rw[hs]
  by_cases h1:j<off
  .rw[aD h1] at hj ⊢;simpa using hb j x hj
  .rw[aB h1] at hj ⊢
   by_cases h2:j<off+xs.length
   .rw[aD h2] at hj;rw[aD (by omega)];exact qA hx _ x hj
   .rw[aB h2] at hj;rw[aB (by omega)];simpa using hb j x hj
end
mutual
def R.n9:∀(x:V) {E E' : Env} (_:E.nl.le E'.nl) (_:x.cG=aa) {v:Value},R E x v->R E' x v
 | .any,_,_,_,_,_,_=>by simp only[R]
 | .bool _,_,_,_,_,_,hr=>by simp only[R] at hr ⊢;exact hr
 | .int _ _,_,_,_,_,_,hr=>by simp only[R] at hr ⊢;exact hr
 | .aF _,_,_,_,_,_,hr=>by simp only[R] at hr ⊢;exact hr
 | .iL,_,_,_,_,_,hr=>by simp only[R] at hr ⊢;exact hr
 | .ptr (.aC i) _,_,_,_,hn,_,_=>by simp[V.cG] at hn
 | .ptr (.out _) _,_,_,_,_,_,hr=>by simp only[R] at hr ⊢;exact hr
 | .ptr (.jM _) _,_,_,_,_,_,hr=>by simp only[R] at hr ⊢;exact hr
 | .elt cs _, _, _, h, _, _, hr => by
  simp only[R] at hr ⊢;obtain⟨b,o,h1,h2⟩:=hr;exact⟨b,o,h1,dQ.mono cs h h2⟩
 | .sl t k l, E, E', h, _, _, hr => by
  simp only[R] at hr ⊢;obtain⟨a,cap,h1,h2,h3,h4⟩:=hr;have h4' : ub E.nl k l.length a cap t:=h4;refine⟨a,cap,h1,h2,?_,(h4'.mono h:ub E'.nl k l.length a cap t)⟩
  rcases h3 with h3 | ⟨b,o,h3,h5⟩
  .exact .inl h3
  .exact .inr ⟨b,o,h3,fK.mono l h h5⟩
 | .agg cs, _, _, h, hn, _, hr => by
  simp only[R] at hr ⊢;simp only[V.cG] at hn;obtain⟨vs,h1,h2⟩:=hr;exact⟨vs,h1,RL.n9 cs h hn h2⟩
 | .bq cs, _, _, h, hn, _, hr => by
  simp only[R] at hr ⊢;simp only[V.cG] at hn;obtain⟨vs,h1,h2⟩:=hr;exact⟨vs,h1,RL.n9 cs h hn h2⟩
 | .fn _ first cap, _, _, h, hn, _, hr => by
  simp only[R] at hr ⊢;simp only[V.cG,bA] at hn;obtain⟨fs,cs,h1,h2,h3⟩:=hr;exact⟨fs,cs,h1,RL.n9 first h hn.1 h2,RL.n9 cap h hn.2 h3⟩
 | .raw _,_,_,_,_,_,hr=>by simp only[R] at hr ⊢;exact hr
def RL.n9:∀(l:List V) {E E' : Env} (_:E.nl.le E'.nl) (_:bH l=aa) {vs:List Value},RL E l vs->RL E' l vs
 | [],_,_,_,_,[],_=>by simp only[RL]
 | [],_,_,_,_,_::_,hr=>by simp only[RL] at hr
 | _::_,_,_,_,_,[],hr=>by simp only[RL] at hr
 | x :: xs, _, _, h, hn, v :: vs, hr => by
  simp only[RL] at hr ⊢;simp only[bH,bA] at hn;exact⟨R.n9 x h hn.1 hr.1,RL.n9 xs h hn.2 hr.2⟩
end
def F8(hb:E.w.heap[b]?=U (.cells c e (0,0)))(hr:(∃i,E.aZ b = .iB i)\/E.aZ b = .pH)(cD:new.size=c.size):
 Fr E {E with w:=E.w.setRow b new}:=by
 refine⟨rfl,rfl,rfl,by simp,C3 hb,?_,?_,?_,λ_ _ h=>.inl h,λ_ _ c _ h=>⟨c,h⟩,λ_ i _ h=>⟨i,h⟩,λb' c' e' hc=>?_⟩
 .intro b' o v hc hv;have aQ:b' ≠ b:=by
   rintro rfl
   rcases hr with ⟨i,hi⟩ | hi<;>rw[hi] at hc<;>exact hc.elim
  exact⟨hc,by rw[cell_setRow_other E.w b new ⟨b',o,ae⟩ aQ];exact hv⟩
 .intro t n hn;refine⟨n,hn,bL _,λ_ b' k hk=>⟨hk,λcs e' bP=>?_⟩⟩;have aQ:b' ≠ b:=by
   rintro rfl
   rcases hr with ⟨i,hi⟩ | hi<;>rw[hi] at hk<;>simp at hk
  exact⟨cs,by simp only[setRow_other E.w b b' new aQ];exact bP,rfl⟩
 .intro b' _ hk;have aQ:b' ≠ b:=by
   rintro rfl
   rcases hr with ⟨i,hi⟩ | hi<;>rw[hi] at hk<;>simp at hk
  exact⟨setRow_other E.w b b' new aQ,rfl⟩
 .by_cases cp:b' = b
  .subst cp;rw[hb] at hc;simp only[aY,Obj.cells.injEq] at hc;obtain⟨rfl,rfl,_⟩:=hc;exact⟨new,setRow_heap E.w b' c new e _ hb,cD⟩
  .exact⟨c',(setRow_other E.w b b' new cp).trans hc,rfl⟩
def ag.dR(D:ag)(b:Nat)(cs:List V):(D.set b cs).box b=U cs:=by simp[ag.set]
def ag.dW(D:ag){x:Nat}(cs:List V)(h:x≠b):(D.set b cs).box x=D.box x:=by simp[ag.set,h]
section
variable {P:Program} {E:Env} {st:St} {a:Act} {o:Oper} {K:V->St->Prop} {Q:Exit->Act->World->Prop}
variable{off:Nat}
def WK{n:Nat}(iJ:0<n)(hn:dO P t=U n)(hb:E.w.heap[b]?=U (.cells c e (0,0)))(hlen:cs.length<=c.size)
 {ay:V} {v:Value} (hy:R E ay v) (hh:bW n (cs.drop off)=aa) (qX:ay.wd=U n) (fG:cB ay.cells=aa) :
 ∃vs:List Value,RL E ay.cells vs/\off+ay.cells.length<=cs.length /\
  (storeVar t ⟨b,off,ae⟩ v).run P E.w = .ok () (E.w.setRow b (c.toList.take off++vs++c.toList.drop (off+vs.length)).toArray) /\
  (E.w.setRow b (c.toList.take off++vs++c.toList.drop (off+vs.length)).toArray).heap[b]?=U (.cells (c.toList.take off++vs++c.toList.drop (off+vs.length)).toArray e (0,0)):=by
 obtain⟨rJ,cD⟩:=xc hy qX;have hl:=fC rJ;have hle:=Ko hh;simp at hle hl;have bP:off+n<=cs.length:=by omega
 refine⟨v.cells.toList,rJ,by omega,?_,setRow_heap E.w b c _ e _ hb⟩
 have:=Nt (P:=P) (off:=off) hn hb cD (by omega) (yj rJ fG)
 rw[this];simp[cD]
def HV{v:Value}(h:(storeVar t ⟨b,off,ae⟩ v).run P w = .ok () w'):
 (Instr.storeAt t (.pointer (U ⟨b,off,ae⟩)) v).run P w = .ok () w' := by
 simp[Instr.storeAt,Instr.sureAddr,h]
variable{y:Operand}
def Xn(hs:bB E st a){n:Nat}{ax ay:V}(iJ:0<n)(ho:o.op = .store t x y)(hn:dO P t=U n)(hx:R E ax (a.eval x))(hy:R E ay (a.eval y))
 {aH : St} (h:dm st n ay ax=U aH) (hk:K .any aH):o.wp P a E.w (dz E a o.dst K) Q:=by
 cases ax with
 | ptr p off =>
  cases p with
  | jM b=>simp[dm] at h
  | aC i =>
   simp only[dm,gV] at h;obtain⟨cs,h1,h2⟩:=h;split at h2
   case isFalse=>simp at h2
   rename_i hc;obtain⟨hh,qX,fG⟩:=hc;simp only[aY] at h2;subst h2;simp only[R] at hx;obtain⟨b,hb,hx⟩:=hx;obtain⟨b',h3,dp,c,e,eT,hlen,nR⟩:=hs.cU.box i cs h1;rw[hb] at h3;simp only[aY] at h3;subst h3;obtain⟨vs,rJ,wa,cS,gn⟩:=WK (P:=P) (t:=t) iJ hn eT hlen hy hh qX fG;have ba:=F8 (E:=E) (new:=(c.toList.take off++vs++c.toList.drop (off+vs.length)).toArray) eT (.inl ⟨i,dp⟩) (by have:=fC rJ;simp;omega);have hle:=ba.le λ_ _ h=>h
   have nQ:=FD (E' := {E with w:=E.w.setRow b (c.toList.take off++vs++c.toList.drop (off+vs.length)).toArray}) hlen
    (λj x hj=>let ⟨u,h1,h2⟩:=nR j x hj;⟨u,h1,h2.mono _ hle⟩) (RL.mono _ hle rJ) wa gn
   generalize (c.toList.take off++vs++c.toList.drop (off+vs.length)).toArray=new at cS gn ba hle nQ;have jR : ∀b',b' ≠ b->(E.w.setRow b new).heap[b']?=E.w.heap[b']?:=λb' aQ=>setRow_other E.w b b' new aQ
   unfold Oper.wp;rw[show(execOp a.eval o).run P E.w = .ok .skip (E.w.setRow b new) from by simp[execOp,ho,hx,HV cS]];refine⟨{E with w:=E.w.setRow b new},.any,undef,⟨st.t,st.aC.set i (setAt cs off ay.cells),st.out⟩,rfl,ba,⟨?_,⟨?_,?_⟩,hs.defers,RL.mono _ hle hs.slot⟩,by simp[R],rfl,hk⟩
   .exact BT hs.ok ba.nl (λb' hr _=>⟨hr,jR b' (by rintro rfl;rw[dp] at hr;simp at hr)⟩) (λ_ _ h=>h) (λb' b8 => hs.ok.fresh b' (by simpa using b8)) hs.ok.nt
   .intro j ds hj
    by_cases fw:j=i
    .subst fw;have az:j<st.aC.length:=(eX.1 h1).1;simp only[OU az,aY] at hj;subst hj;exact⟨b,hb,dp,nQ⟩
    .simp only[Cs (fm fw)] at hj;obtain⟨b',k1,k2,k3⟩:=hs.cU.box j ds hj;exact⟨b',k1,k2,k3.mono hle (jR b' (by rintro rfl;rw[dp] at k2;simp at k2;exact fw k2.symm))⟩
   .intro j hj;exact hs.cU.none j (by simpa using hj)
  | out b =>
   simp only[dm,gV] at h;obtain⟨cs,h1,h2⟩:=h;split at h2
   case isFalse=>simp at h2
   rename_i hc;obtain⟨hh,qX,fG,nW⟩:=hc;simp only[aY] at h2;subst h2;simp only[R] at hx;obtain⟨dp,c,e,eT,hlen,nR⟩:=hs.ok.box b cs h1;have Gm : E.w.heap[b]?=U (.cells c e (0,0)):=eT;obtain⟨vs,rJ,wa,cS,gn⟩:=WK (P:=P) (t:=t) iJ hn Gm hlen hy hh qX fG;have ba:=F8 (E:=E) (new:=(c.toList.take off++vs++c.toList.drop (off+vs.length)).toArray) Gm (.inr dp) (by have:=fC rJ;simp;omega);have hle:=ba.le λ_ _ h=>h
   have nQ:=FD (E' := Env.nl {E with w:=E.w.setRow b (c.toList.take off++vs++c.toList.drop (off+vs.length)).toArray}) hlen
    (λj x hj=>let ⟨u,h1,h2⟩:=nR j x hj;⟨u,h1,h2.mono _ ba.nl⟩) (RL.mono _ ba.nl (RL.n9 (E:=E) (E' := E.nl) _ (Env.le.refl E.nl) nW rJ)) wa gn
   generalize (c.toList.take off++vs++c.toList.drop (off+vs.length)).toArray=new at cS gn ba hle nQ;have jR : ∀b',b' ≠ b->(E.w.setRow b new).heap[b']?=E.w.heap[b']?:=λb' aQ=>setRow_other E.w b b' new aQ
   unfold Oper.wp;rw[show(execOp a.eval o).run P E.w = .ok .skip (E.w.setRow b new) from by simp[execOp,ho,hx,HV cS]];refine⟨{E with w:=E.w.setRow b new},.any,undef,⟨st.t,st.aC,st.out.set b (setAt cs off ay.cells)⟩,rfl,ba,⟨⟨?_,hs.ok.aJ,λb' b8 => hs.ok.fresh b' (by simpa using b8),hs.ok.nt,λb cs hc=>dQ.mono _ ba.nl (hs.ok.bO b cs hc)⟩,
    pI hs.cU hle (λb' i hr _=>⟨hr,jR b' (by rintro rfl;rw[dp] at hr;simp at hr)⟩) hs.cU.none,hs.defers,RL.mono _ hle hs.slot⟩,by simp[R],rfl,hk⟩
   intro b' ds jP
   by_cases cp:b' = b
   .subst cp;rw[ag.dR] at jP;simp only[aY] at jP;subst jP;exact⟨dp,nQ⟩
   .rw[ag.dW _ _ cp] at jP;obtain⟨k1,k2⟩:=hs.ok.box b' ds jP;exact⟨k1,k2.mono ba.nl (jR b' cp)⟩
 | _=>simp[dm] at h
end
def eP.ly:eP->eP
 | .iB _=>.lU
 | r=>r
def eP.Sl(r:eP)(o:Nat):r.ly.gW o↔r.gW o:=by cases r<;>simp[eP.ly,eP.gW]
def Env.call(E:Env):Env:={w:=E.w,aZ:=λb=>(E.aZ b).ly,aC:=λ_=>ae,aJ:=E.aJ}
def eP.back:eP->eP->eP
 | .iB i,_=>.iB i
 | _,r=>r
def Env.back(E E' : Env):Env:={w:=E'.w,aZ:=λb=>(E.aZ b).back (E'.aZ b),aC:=E.aC,aJ:=E'.aJ}
def Jf(E:Env):E.nl.le E.call.nl :=
 ⟨λb o c hc hv=>⟨(eP.Sl _ _).2 hc,hv⟩,λ_ _ h=>by simp at h,λt n hn=>⟨n,hn,bL _,λ_ b c hb=>⟨by
  show(E.aZ b).ly=_;have b8 : E.aZ b = .gh t c:=hb;rw[b8];rfl,λcs _ hc=>⟨cs,hc,rfl⟩⟩⟩⟩
def Z'(h:E.ok D):E.call.ok D:=by
 refine⟨λb cs bP=>?_,h.aJ,λb hb=>?_,h.nt,λb cs hc=>dQ.mono _ (Jf E) (h.bO b cs hc)⟩
 .obtain⟨h1,h2⟩:=h.box b cs bP;exact⟨by show(E.aZ b).ly=_;rw[h1];rfl,h2.mono (Jf E) rfl⟩
 .show(E.aZ b).ly=_;rw[h.fresh b hb];rfl
section
variable {E E' : Env} (hf:∀b,E.w.heap.size<=b->E.aZ b = .const) (h:Fr E.call E')
variable{i:Nat}
include hf h in
theorem Fx(hb:E.aZ b = .iB i):b<E.w.heap.size/\E'.aZ b = .lU/\E'.w.heap[b]?=E.w.heap[b]?:=by
 have az:b<E.w.heap.size:=by
  rcases vA b E.w.heap.size with h | h
  .exact h
  .rw[hf b h] at hb;simp at hb
 have hr:E.call.aZ b = .lU:=by show(E.aZ b).ly=_;rw[hb];rfl
 obtain⟨h1,h2⟩:=h.same b az (.inr hr);exact⟨az,h2.trans hr,h1⟩
include hf h in
theorem PI(b o:Nat):((E.back E').aZ b).gW o↔(E'.aZ b).gW o:=by
 show(((E.aZ b).back (E'.aZ b)).gW o↔_);cases hb:E.aZ b with
 | iB i =>
  obtain⟨_,h2,_⟩:=Fx hf h hb;simp[eP.back,h2,eP.gW]
 | _=>simp[eP.back]
include hf h in
theorem PJ{t c:Nat}(hb:E'.aZ b = .gh t c):(E.back E').aZ b = .gh t c:=by
 show(E.aZ b).back (E'.aZ b)=_;cases hr:E.aZ b with
 | iB i =>
  obtain⟨_,h2,_⟩:=Fx hf h hr;rw[hb] at h2;simp at h2
 | _=>simp[eP.back,hb]
include hf h in
theorem Zn(hb:E'.aZ b = .pH):(E.back E').aZ b = .pH:=by
 show(E.aZ b).back (E'.aZ b)=_;cases hr:E.aZ b with
 | iB i =>
  obtain⟨_,h2,_⟩:=Fx hf h hr;rw[hb] at h2;simp at h2
 | _=>simp[eP.back,hb]
include hf h in
theorem Zm:E'.nl.le (E.back E').nl :=
 ⟨λb o _ hc hv=>⟨(PI hf h b o).2 hc,hv⟩,λ_ _ h=>by simp at h,λ_ n hn=>⟨n,hn,bL _,λ_ _ _ hb=>⟨PJ hf h hb,λcs _ hc=>⟨cs,hc,rfl⟩⟩⟩⟩
include hf h in
theorem Zl:Fr E (E.back E'):=by
 refine⟨h.os,h.output,h.tape,h.size,h.gl,?_,?_,?_,?_,?_,?_,h.shape⟩
 .intro b o c hc hv;obtain⟨h1,h2⟩:=h.cell b o c ((eP.Sl _ _).2 hc) hv;exact⟨(PI hf h b o).2 h1,h2⟩
 .intro t n hn;obtain⟨n',h1,h2,h3⟩:=h.tok t n hn;refine⟨n',h1,h2,λhe b c hb=>?_⟩;obtain⟨h4,h5⟩:=h3 he b c (by show(E.aZ b).ly=_;rw[hb];rfl);exact⟨PJ hf h h4,h5⟩
 .intro b hb hr;have aQ:(E.aZ b).ly=E.aZ b:=by rcases hr with hr | hr<;>rw[hr]<;>rfl
  obtain⟨h1,h2⟩:=h.same b hb (by show(E.aZ b).ly=_\/(E.aZ b).ly=_;rw[aQ];exact hr);refine⟨h1,?_⟩;show(E.aZ b).back (E'.aZ b)=_;have vS : E'.aZ b=(E.aZ b).ly:=h2;rw[vS,aQ]
  rcases hr with hr | hr<;>rw[hr]<;>rfl
 .intro b hb hr;have cg : (E.aZ b).back (E'.aZ b) = .pH:=hr;cases hq:E.aZ b with
  | iB i=>rw[hq] at cg;simp[eP.back] at cg
  | pH=>exact .inl rfl
  | _ =>
   rw[hq] at cg;simp only[eP.back] at cg
   rcases h.CH b hb cg with h' | ⟨j,h'⟩
   .have h' : (E.aZ b).ly = .pH:=h';rw[hq] at h';simp[eP.ly] at h'
   .have h' : (E.aZ b).ly = .iB j:=h';rw[hq] at h';simp[eP.ly] at h'
 .intro b t c hb hr;have cg : (E.aZ b).back (E'.aZ b) = .gh t c:=hr;cases hq:E.aZ b with
  | iB i=>rw[hq] at cg;simp[eP.back] at cg
  | _ =>
   rw[hq] at cg;simp only[eP.back] at cg;obtain⟨c0,this⟩:=h.CJ b t c hb cg;have h' : (E.aZ b).ly = .gh t c0:=this;rw[hq] at h'
   first | (simp[eP.ly] at h';done) | exact⟨c0,h'⟩
 .intro b i hb hr;have cg : (E.aZ b).back (E'.aZ b) = .iB i:=hr;cases hq:E.aZ b with
  | iB j=>exact⟨j,rfl⟩
  | _ =>
   rw[hq] at cg;simp only[eP.back] at cg;obtain⟨c0,this⟩:=h.A5 b i hb cg;have h' : (E.aZ b).ly = .iB c0:=this;rw[hq] at h';simp[eP.ly] at h'
end
section
variable {P:Program} {E:Env} {st:St} {a:Act} {o:Oper} {K:V->St->Prop} {Q:Exit->Act->World->Prop}
def Z_(hs:bB E st a){xs:List V}{vs:Array Value}(hx:RL E xs vs.toList)(hn:bH xs=aa)(hc:cm P f xs st.out λv D=>K v ⟨st.t,st.aC,D⟩):
 Calls P f vs E.w λe w' => ∃E' v x aH,e = .returned x/\E'.w=w' /\ Fr E E' /\ bB E' aH a/\R E' v x/\K v aH := by
 have hf:=hs.ok.fresh;refine(hc.2 E.call vs (λ_=>rfl) (Z' hs.ok) (RL.n9 _ (Jf E) hn hx)).mono ?_;rintro e w' ⟨v,x,E',σ',rfl,rfl,KU,b9,hr,ba,hk⟩;have xI := Zl hf ba;have hle:E.le (E.back E'):=xI.le λ_ _ h=>h
 have Kt:=Zm hf ba;refine⟨E.back E',v,x,⟨st.t,st.aC,σ'⟩,rfl,rfl,xI,⟨⟨?_,b9.aJ,?_,b9.nt,λb cs hc=>dQ.mono _ Kt (b9.bO b cs hc)⟩,?_,hs.defers,RL.mono _ hle hs.slot⟩,?_,hk⟩
 .intro b cs bP;obtain⟨h1,h2⟩:=b9.box b cs bP;exact⟨Zn hf ba h1,h2.mono Kt rfl⟩
 .intro b hb;have b8 : E'.w.heap.size<=b:=hb;show(E.aZ b).back (E'.aZ b)=_;rw[hf b (w7 ba.size b8)];exact b9.fresh b b8
 .refine pI hs.cU hle (λb i cg az=>?_) hs.cU.none;obtain⟨_,_,h3⟩:=Fx hf ba cg;exact⟨by show(E.aZ b).back (E'.aZ b)=_;rw[cg];rfl,h3⟩
 .have h1:E'.nl.le (E.back E').nl:=Kt;have h2:E'.le (E.back E'):=⟨h1.cell,λi b hb=>by rw[KU i] at hb;simp at hb,h1.tok⟩;exact hr.mono _ h2
def Xg(hs:bB E st a){xs:List V}{vs:Array Value}(hx:RL E xs vs.toList)(hn:bH xs=aa)(hc:cm P f xs st.out λv D=>K v ⟨st.t,st.aC,D⟩)
 (hr:(execOp a.eval o).run P E.w=(callFunc f vs).run P E.w):o.wp P a E.w (dz E a o.dst K) Q:=by
 unfold Oper.wp;rw[hr,hc.1];simp only[Oper.upon_enter];refine(Z_ hs hx hn hc).mono ?_;rintro e w' ⟨E',v,x,aH,rfl,rfl,h1,h2,h3,h4⟩;exact⟨E',v,x,aH,rfl,h1,h2,h3,rfl,h4⟩
end
def xa{E:Env}:∀{xs ys:List V} {b o:Nat},dQ E (xs++ys) b o↔dQ E xs b o/\dQ E ys b (o+xs.length)
 | [],ys,b,o=>by simp[dQ]
 | x :: xs, ys, b, o => by
  simp only[gE,dQ,xa (xs:=xs),db,I2];rw[show o+1+xs.length=o+(xs.length+1) from by omega]
def qz{E:Env}{k:Nat}:∀{l:List (List V)} {b o:Nat},fK E k l b o↔(∀x∈l,x.length=k)/\dQ E l.flatten b o
 | [],b,o=>by simp[fK,dQ]
 | x :: xs, b, o => by
  simp only[fK,kz,xa,qz (l:=xs),eh];constructor
  .rintro⟨h1,h2,h3,h4⟩;exact⟨⟨h1,h3⟩,h2,by rw[h1];exact h4⟩
  .rintro⟨⟨h1,h3⟩,h2,h4⟩;exact⟨h1,h2,h3,by rw[h1] at h4;exact h4⟩
def mm{k:Nat}:∀{l:List (List V)},(∀x∈l,x.length=k)->l.flatten.length=l.length*k
 | [],_=>by simp
 | x :: xs, h => by
  simp only[eh] at h;simp only[kz,bI,h.1,mm h.2,db,iQ,w9];omega
def Fb{E:Env}:∀{cs:List V} {b o:Nat},dQ E cs b o->∃vs:List Value,RL E cs vs/\(∀(j:Nat) v,vs[j]?=U v->E.w.cell? ⟨b,o+j,ae⟩=U v) /\
 (∀v∈vs,v.oneCell' = aa)/\∀j,j<cs.length->(E.aZ b).gW (o+j)
 | [],_,_,_=>⟨[],by simp[RL],λj v h=>by simp at h,λv hv=>by simp at hv,λj hj=>by simp at hj⟩
 | x :: xs, b, o, h => by
  simp only[dQ] at h;obtain⟨⟨c,h1,h2,h3,h4⟩,h5⟩:=h;obtain⟨vs,k1,k2,k3,k4⟩:=Fb h5;refine⟨c::vs,?_,λj v hv=>?_,λv hv=>?_,λj hj=>?_⟩
  .simp only[RL];exact⟨h4,k1⟩
  .cases j with
   | zero=>simp at hv;subst hv;exact h1
   | succ j=>simp at hv;rw[show o+(j+1)=o+1+j from by omega];exact k2 j v hv
  .rcases kA.1 hv with rfl | hv
   .exact h3
   .exact k3 v hv
  .cases j with
   | zero=>exact h2
   | succ j=>rw[show o+(j+1)=o+1+j from by omega];exact k4 j (by simpa using hj)
def AZ{E:Env}{b:Nat}:∀{cs:List V} {vs:List Value} {o:Nat},RL E cs vs->(∀v∈vs,v.oneCell' = aa)->(∀(j:Nat) v,vs[j]?=U v->E.w.cell? ⟨b,o+j,ae⟩=U v) ->
 (∀j,j<cs.length->(E.aZ b).gW (o+j))->dQ E cs b o
 | [],_,_,_,_,_,_=>by simp[dQ]
 | _::_,[],_,h,_,_,_=>by simp[RL] at h
 | x :: xs, v :: vs, o, h, h1, h2, h3 => by
  simp only[RL] at h;simp only[dQ];refine⟨⟨v,by simpa using h2 0 v (by simp),by simpa using h3 0 (by simp),h1 v (by simp),h.1⟩,AZ h.2 (λu hu=>h1 u (by simp[hu])) (λj u hu=>?_) (λj hj=>?_)⟩
  .rw[show o+1+j=o+(j+1) from by omega];exact h2 (j+1) u (by simpa using hu)
  .rw[show o+1+j=o+(j+1) from by omega];exact h3 (j+1) (by simpa using hj)
structure Src(P:Program)(w:World)(size m:Nat)(ty:TypeId)(x:Value)(news:List Value):Prop where
 ty:∃d,P.underlying ty=U d/\∀k,d≠.int k
 len:∀w',(Builtin.lenOf x).run P w' = .ok m w'
 cells:(Builtin.firstCells size m x).run P w = .ok news.toArray w
 nJ : (Builtin.firstCells size m x).run P w.drew = .ok news.toArray w.drew
 size:news.length=m*size
section
variable {P:Program} {w:World} {t u ty e:TypeId} {i:TypeInfo} {z:Value}
variable{base:Option Addr}
def VT(ht:P.underlying t=U (.slice e))(hi:P.info? e=U i){n:Nat}(hn:n<=cap){x:Value}(hx:Src P w i.size 0 u x []):
 (Builtin.append_ #[t,u] ty #[.slice base n cap,x]).run P w = .ok (.slice base n cap) w:=by
 obtain⟨d,hd,hk⟩:=hx.ty;cases base<;>simp[Builtin.append_,run_underlying ht,run_underlying hd,sizeOf,typeInfo,hi,hx.len,hn,hx.cells,storeCells]
def Nr(ht:P.underlying t=U (.slice e))(hi:P.info? e=U i){g n:Nat}{cur:Array Value}{e' : TypeId}(hg:w.heap[g]?=U (.cells cur e' (0,0)))
 {x:Value} {news:List Value} (hx:Src P w i.size m u x news) (h1:∀v∈news,v.oneCell' = aa) (nY:n+m<=cap) (nU:n*i.size+news.length<=cur.size) :
 (Builtin.append_ #[t,u] ty #[.slice (U ⟨g,0,ae⟩) n cap,x]).run P w =
  .ok (.slice (U ⟨g,0,ae⟩) (n+m) cap) (w.setRow g (cur.toList.take (n*i.size)++news++cur.toList.drop (n*i.size+news.length)).toArray):=by
 obtain⟨d,hd,hk⟩:=hx.ty;have dV:=run_storeCells_at (P:=P) g (n*i.size) e' news 0 cur w hg (by simpa using nU) h1;simp only[vz] at dV;simp[Builtin.append_,run_underlying ht,run_underlying hd,sizeOf,typeInfo,hi,hx.len,nY,hx.cells,lh,dV]
def Nq(ht:P.underlying t=U (.slice e))(hi:P.info? e=U i)(hzv:i.zero=U z){n:Nat}{gC:List Value}
 (ho:(Builtin.firstCells i.size n (.slice base n cap)).run P w.drew = .ok gC.toArray w.drew)
 {x:Value} {news:List Value} (hx:Src P w i.size m u x news) (hg:cap<n+m) (hb:(n+m)*i.bytes<=140737488355328) (hs:n+m<=9223372036854775807) :
 (Builtin.append_ #[t,u] ty #[.slice base n cap,x]).run P w =
  .ok (.slice (U ⟨w.heap.size,0,ae⟩) (n+m) (grownCap w (n+m) cap e))
   (w.drew.alloc (.cells (gC++(news++(Builtin.zeroCells z.cells (grownCap w (n+m) cap e - (n+m))).toList)).toArray e)):=by
 obtain⟨d,hd,hk⟩:=hx.ty;have hn:¬(n+m<=cap):=by omega
 have ahP : ¬(9223372036854775807<((n:Int)+(m:Int))):=by omega
 have nU:=growslice_fits (need:=n+m) (old:=cap) (bytes:=i.bytes) hg hb;have ahO : ¬(281474976710656<Builtin.nextslicecap (n+m) cap*i.bytes):=by omega
 have jv : (Builtin.firstCells i.size m x).run P w.drew = .ok news.toArray w.drew:=hx.nJ;simp[Builtin.append_,run_underlying ht,run_underlying hd,sizeOf,typeInfo,zeroValue,hi,hzv,hx.len,hn,ahP,ahO,Question.forced,ho,jv,newRow,grownCap];congr 2;apply Cj;simp
end
variable{u:TypeId}
def H2{e':TypeId}(hu:P.underlying u=U (.slice e')){t' : Tk}{m:List (List V)}{x:Value}(h:R E (.sl t' k m) x):
 ∃news,Src P E.w k m.length u x news/\RL E.nl m.flatten news/\(∀v∈news,v.oneCell' = aa)/\∀y∈m,y.length=k:=by
 simp only[R] at h;obtain⟨a,cap,rfl,_,h3,_⟩:=h;have SP:∃d,P.underlying u=U d/\∀k,d≠.int k:=⟨_,hu,λ_ h=>by simp at h⟩
 rcases h3 with rfl | ⟨b,o,rfl,hr⟩
 .refine⟨[],⟨SP,λw' => by simp[Builtin.lenOf],?_,?_,by simp⟩,by simp[RL],λv hv=>by simp at hv,λy hy=>by simp at hy⟩ <;>
   cases a<;>simp[Builtin.firstCells,loadCells,loadCellsFrom]
 .obtain⟨h1,h2⟩:=qz.1 hr;obtain⟨vs,k1,k2,k3,_⟩:=Fb h2;have hl:=fC k1;rw[mm h1] at hl;have hc:∀(j:Nat) v,vs[j]?=U v->E.w.cell? ((⟨b,o,ae⟩:Addr).add j)=U v:=λj v hv=>by rw[lh];exact k2 j v hv
  refine⟨vs,⟨SP,λw' => by simp[Builtin.lenOf],?_,?_,hl.symm⟩,k1,k3,h1⟩
  .have:=run_loadCells_list (P:=P) E.w ⟨b,o,ae⟩ vs hc
   simp only[Builtin.firstCells];rw[hl];exact this
  .have:=run_loadCells_list (P:=P) E.w.drew ⟨b,o,ae⟩ vs hc
   simp only[Builtin.firstCells];rw[hl];exact this
variable{l:List (List V)}
def Us(h3:l=[]\/∃b o,a=U ⟨b,o,ae⟩/\fK E.nl k l b o):
 ∃gC,(Builtin.firstCells k l.length (.slice a l.length cap)).run P E.w.drew = .ok gC.toArray E.w.drew/\RL E.nl l.flatten gC/\(∀v∈gC,v.oneCell' = aa)/\(∀y∈l,y.length=k)/\gC.length=l.length*k:=by
 rcases h3 with rfl | ⟨b,o,rfl,hr⟩
 .refine⟨[],?_,by simp[RL],λv hv=>by simp at hv,λy hy=>by simp at hy,by simp⟩;cases a<;>simp[Builtin.firstCells,loadCells,loadCellsFrom]
 .obtain⟨h1,h2⟩:=qz.1 hr;obtain⟨vs,k1,k2,k3,_⟩:=Fb h2;have hl:=fC k1;rw[mm h1] at hl;have hc:∀(j:Nat) v,vs[j]?=U v->E.w.cell? ((⟨b,o,ae⟩:Addr).add j)=U v:=λj v hv=>by rw[lh];exact k2 j v hv
  refine⟨vs,?_,k1,k3,h1,hl.symm⟩
  have:=run_loadCells_list (P:=P) E.w.drew ⟨b,o,ae⟩ vs hc
  simp only[Builtin.firstCells];rw[hl];exact this
section
variable {P:Program} {E:Env} {st:St} {a:Act} {o:Oper} {K:V->St->Prop} {Q:Exit->Act->World->Prop}
def Fc{nb:Nat}{vs rest:List Value}{fr:Nat × Nat}(hl:∀y∈l,y.length=k)(hr:RL E'.nl l.flatten vs)(h1:∀v∈vs,v.oneCell' = aa)
 (hb:E'.w.heap[nb]?=U (.cells (vs++rest).toArray e fr)) (hc:∀j,j<l.length*k->(E'.aZ nb).gW j):fK E'.nl k l nb 0:=by
 refine qz.2 ⟨hl,AZ hr h1 (λj v hv=>?_) (λj hj=>by rw[mm hl] at hj;simpa using hc j hj)⟩;have az:=(eX.1 hv).1;simp[World.cell?,hb,sv az,hv]
def EI(hs:bB E st a){ty:TypeId}{i:TypeInfo}{z:Value}(ht:P.underlying t=U (.slice e))(hi:P.info? e=U i)(hz:i.zero=U z)(iK:z.cells.size=i.size)
 (mo:i.bytes<=4096) {vs vx:Value} {tk:Tk} {l m:List (List V)}
 (cS:(execOp a.eval o).run P E.w=((Builtin.append_ #[t,u] ty #[vs,vx]).run P E.w).andThen λv w' => .ok (.value v) w')
 (d_:R E (.sl tk i.size l) vs) {news:List Value} (qV:Src P E.w i.size m.length u vx news) (rQ:RL E.nl m.flatten news) (fG:∀v∈news,v.oneCell' = aa) (hm:∀y∈m,y.length=i.size)
 (jO:l.length+m.length<=aM)
 (hk:match (generalizing:=false) tk with
   | .aW=>(∀Z,st.out.aJ Z=ae->K (.sl (.tk Z) i.size (l++m)) ⟨st.t,st.aC,st.out.aR Z (l.length+m.length)⟩)\/K (.sl .no i.size (l++m)) st
   | .tk Z=>st.out.aJ Z=U l.length/\K (.sl (.tk Z) i.size (l++m)) ⟨st.t,st.aC,st.out.aR Z (l.length+m.length)⟩
   | .no=>False):o.wp P a E.w (dz E a o.dst K) Q:=by
 simp only[R] at d_;obtain⟨base,cap,rfl,zt,lv,uO⟩:=d_;obtain⟨gC,hold,Ki,J5,dB,hlen⟩:=Us (P:=P) (cap:=cap) lv;have Dg:(l.length+m.length)*i.bytes<=140737488355328:=by
  have:=O5 jO mo
  simp only[aM] at this;omega
 have DE:l.length+m.length<=9223372036854775807:=by simp only[aM] at jO;omega
 have dj:∀y∈l++m,y.length=i.size:=λy hy=>by
  rcases jE.1 hy with h | h
  .exact dB y h
  .exact hm y h
 have Kh:RL E.nl (l++m).flatten (gC++news):=by rw[tS];exact tZ Ki rQ
 have RN:∀v∈gC++news,v.oneCell' = true:=λv hv=>by
  rcases jE.1 hv with h | h
  .exact J5 v h
  .exact fG v h
 have rO:=qV.size
 -- the ways on which the row is laid anew
 have grow:cap<l.length+m.length->(execOp a.eval o).run P E.w = .ok (.value (.slice (U ⟨E.w.heap.size,0,ae⟩) (l.length+m.length) (grownCap E.w (l.length+m.length) cap e)))
  (E.w.drew.alloc (.cells (gC++(news++(Builtin.zeroCells z.cells (grownCap E.w (l.length+m.length) cap e - (l.length+m.length))).toList)).toArray e)):=λaz=>by
  rw[cS,Nq (P:=P) ht hi hz hold qV az Dg DE];rfl
 have idle:m=[]->(execOp a.eval o).run P E.w = .ok (.value (.slice base l.length cap)) E.w:=λh0=>by
  subst h0
  have:news=[]:=su (by simpa using rO)
  subst this;rw[cS,VT (P:=P) ht hi zt qV];rfl
 have qe:=grownCap_ge E.w (l.length+m.length) cap e;have size:cap<l.length+m.length->(gC++(news++(Builtin.zeroCells z.cells (grownCap E.w (l.length+m.length) cap e - (l.length+m.length))).toList)).toArray.size=grownCap E.w (l.length+m.length) cap e*i.size:=λ_=>by
  simp only[O3,bI,AL,size_zeroCells,iK,hlen,rO];rw[<-E5,<-iQ,<-iQ];congr 1;omega
 generalize grownCap E.w (l.length+m.length) cap e=nc at grow qe size;generalize wb:(Builtin.zeroCells z.cells (nc - (l.length+m.length))).toList=rest at grow size;have ahZ:gC++(news++rest)=(gC++news)++rest:=by simp
 rw[ahZ] at grow size
 -- the row laid anew,as the last of its line
 have RK:∀Z,(E.aJ Z=ae\/E.aJ Z=U l.length)->cap<l.length+m.length->0<m.length->K (.sl (.tk Z) i.size (l++m)) ⟨st.t,st.aC,st.out.aR Z (l.length+m.length)⟩ ->
  o.wp P a E.w (dz E a o.dst K) Q:=λZ bp az iJ hK=>by
  let E' : Env:={w:=E.w.drew.alloc (.cells ((gC++news)++rest).toArray e),aZ:=λb=>if b=E.w.heap.size then .gh Z ((l.length+m.length)*i.size) else match E.aZ b with | .gh t c=>if t=Z then .const else .gh t c | r=>r,aC:=E.aC,aJ:=λt=>if t=Z then U (l.length+m.length) else E.aJ t}
  have hx:Ext E.w E'.w:=((Ext.refl _).drew).alloc _ _;have gn:∀b,b<E.w.heap.size->E'.aZ b=match E.aZ b with | .gh t c=>if t=Z then .const else .gh t c | r=>r:=λb hb=>by
   simp only[E'];rw[aB (by omega)]
  have Lb:E'.w.heap.size=E.w.heap.size+1:=by simp[E']
  have KT:∀b,b<E.w.heap.size->∀t c,E'.aZ b = .gh t c->E.aZ b = .gh t c:=λb hb t c h=>by
   rw[gn b hb] at h;cases hq:E.aZ b<;>rw[hq] at h<;>simp at h;split at h<;>simp at h;obtain⟨rfl,rfl⟩:=h;rfl
  have ba:Fr E E' := by
   refine⟨rfl,rfl,rfl,hx.size,hx.gl,?_,?_,?_,?_,?_,?_,λb c e hb=>⟨c,(hx.block b (ko hb)).trans hb,rfl⟩⟩
   .intro b o' c hc hv;have hb:=TU hv;refine⟨?_,by rw[A8 (hx.block b hb)];exact hv⟩;rw[gn b hb];cases hq:E.aZ b<;>rw[hq] at hc<;>simp only[]
    all_goals first | exact hc | (split<;>first | trivial | exact hc)
   .intro t n hn
    by_cases qW:t=Z
    .subst qW;have KY : n=l.length:=by rcases bp with h | h<;>rw[h] at hn<;>simp at hn;exact hn.symm
     exact⟨l.length+m.length,by simp[E'],by omega,λh=>by omega⟩
    .refine⟨n,by simp only[E'];rw[aB qW];exact hn,bL _,λ_ b c hb=>?_⟩;have lA : b<E.w.heap.size:=by
      rcases vA b E.w.heap.size with h | h
      .exact h
      .rw[hs.ok.fresh b h] at hb;simp at hb
     refine⟨by rw[gn b lA,hb];simp[qW],λcs Bb bP=>⟨cs,by rw[hx.block b lA];exact bP,rfl⟩⟩
   .intro b hb hr;refine⟨hx.block b hb,?_⟩;rw[gn b hb]
    rcases hr with hr | hr<;>rw[hr]
   .intro b hb h;rw[gn b hb] at h;cases hq:E.aZ b<;>rw[hq] at h<;>first | exact .inl rfl | (simp at h;done) | (simp only[] at h;split at h<;>simp at h)
   .intro b t c hb h;exact⟨c,KT b hb t c h⟩
   .intro b i' hb h;rw[gn b hb] at h;cases hq:E.aZ b<;>rw[hq] at h<;>try (simp at h;done)
    .exact⟨_,rfl⟩
    .simp only[] at h;split at h<;>simp at h
  have hle:E.le E' := ba.le λ_ _ h=>h
  unfold Oper.wp;rw[grow az];refine⟨E',_,_,⟨st.t,st.aC,st.out.aR Z (l.length+m.length)⟩,rfl,ba,⟨⟨?_,?_,?_,?_,λb cs hc=>dQ.mono _ ba.nl (hs.ok.bO b cs hc)⟩,?_,hs.defers,RL.mono _ hle hs.slot⟩,?_,rfl,hK⟩
  .intro b cs bP;obtain⟨k1,k2⟩:=hs.ok.box b cs bP;have lA : b<E.w.heap.size:=by obtain⟨c,e,h3,_⟩:=k2;exact ko (w:=E.w) h3
   exact⟨by rw[gn b lA,k1],k2.mono ba.nl (hx.block b lA)⟩
  .intro t n kP;simp only[ag.aR] at kP;simp only[E'];split at kP
   .rename_i h;rw[aD h];exact kP
   .rename_i h;rw[aB h];exact hs.ok.aJ t n kP
  .intro b hb;rw[Lb] at hb;simp only[E'];rw[aB (by omega),hs.ok.fresh b (by omega)]
  .obtain⟨N,hN⟩:=hs.ok.nt;exact⟨max N (Z+1),λt pB => by simp only[E'];rw[aB (by omega)];exact hN t (by omega)⟩
  .exact pI hs.cU hle (λb i' hr lA => ⟨by rw[gn b lA,hr],hx.block b lA⟩) hs.cU.none
  .have rP:E'.w.heap[E.w.heap.size]?=U (.cells ((gC++news)++rest).toArray e (0,0)):=heap_alloc_new E.w.drew _;have fy:E'.aZ E.w.heap.size = .gh Z ((l.length+m.length)*i.size):=by simp[E']
   simp only[R,bI];refine⟨U ⟨E.w.heap.size,0,ae⟩,nc,rfl,qe,.inr ⟨_,_,rfl,Fc dj (RL.mono _ ba.nl Kh) RN rP (λj hj=>by rw[fy];simpa [eP.gW] using hj)⟩,l.length+m.length,by simp[E'],bL _,λ_=>.inr ⟨_,_,_,rfl,fy,rP,size az⟩⟩
 -- the state where only a tip is new
 have WV:∀Z,(E.aJ Z=ae\/E.aJ Z=U l.length)->m=[]->cap=l.length\/E.aJ Z=U l.length->K (.sl (.tk Z) i.size (l++m)) ⟨st.t,st.aC,st.out.aR Z (l.length+m.length)⟩ ->
  ub {E with aJ:=λt=>if t=Z then U l.length else E.aJ t} i.size l.length base cap (.tk Z)->o.wp P a E.w (dz E a o.dst K) Q:=λZ bp qf _ hK b9=>by
  let E' : Env:={E with aJ:=λt=>if t=Z then U l.length else E.aJ t}
  have ba:Fr E E' := xx (E' := E') hs.ok.fresh (Ext.refl _) (λ_ _=>rfl) (λt n hn=>by
   simp only[E'];split
   .rename_i h;subst h;rcases bp with h | h<;>rw[h] at hn<;>simp at hn;rw[hn]
   .exact hn)
  have hle:E.le E' := ba.le λ_ _ h=>h
  unfold Oper.wp;rw[idle qf];refine⟨E',_,_,⟨st.t,st.aC,st.out.aR Z (l.length+m.length)⟩,rfl,ba,⟨⟨?_,?_,hs.ok.fresh,?_,λb cs hc=>dQ.mono _ ba.nl (hs.ok.bO b cs hc)⟩,?_,hs.defers,RL.mono _ hle hs.slot⟩,?_,rfl,hK⟩
  .intro b cs bP;obtain⟨k1,k2⟩:=hs.ok.box b cs bP;exact⟨k1,k2.mono ba.nl rfl⟩
  .intro t n kP;subst qf;simp only[ag.aR,ei,vz] at kP;simp only[E'];split at kP
   .rename_i h;rw[aD h];exact kP
   .rename_i h;rw[aB h];exact hs.ok.aJ t n kP
  .obtain⟨N,hN⟩:=hs.ok.nt;exact⟨max N (Z+1),λt pB => by simp only[E'];rw[aB (by omega)];exact hN t (by omega)⟩
  .exact pI hs.cU hle (λb i' hr lA => ⟨hr,rfl⟩) hs.cU.none
  .subst qf;simp only[R,eg];refine⟨base,cap,rfl,zt,?_,b9⟩
   rcases lv with h | ⟨b,o',h,hr⟩
   .exact .inl h
   .exact .inr ⟨b,o',h,fK.mono _ ba.nl hr⟩
 cases tk with
 | no=>exact hk.elim
 | aW =>
  simp only[ub] at uO
  rcases hk with hk | hk
  .obtain⟨N,hN⟩:=hs.ok.nt;have KH:st.out.aJ N=none:=by
    cases h:st.out.aJ N with
    | none=>rfl
    | some n=>have:=hs.ok.aJ N n h;rw[hN N (bL _)] at this;simp at this
   have hK:=hk N KH
   rcases IQ m.length with h0 | h0
   .have qf:=su h0;exact WV N (.inl (hN N (bL _))) qf (.inl uO) hK ⟨l.length,by simp,bL _,λ_=>.inl uO⟩
   .exact RK N (.inl (hN N (bL _))) (by omega) h0 hK
  .rcases IQ m.length with h0 | h0
   .have qf:=su h0;refine cP hs (idle qf) ?_ hk;subst qf;simp only[R,eg];exact⟨base,cap,rfl,zt,lv,trivial⟩
   .refine Xj hs (((Ext.refl _).drew).alloc _ _) (grow (by omega)) ?_ hk;have rP:(E.w.drew.alloc (.cells ((gC++news)++rest).toArray e)).heap[E.w.heap.size]?=U (.cells ((gC++news)++rest).toArray e (0,0)):=heap_alloc_new E.w.drew _;obtain⟨ba,_,_⟩:=Es hs (((Ext.refl E.w).drew).alloc ((gC++news)++rest).toArray e);simp only[R,bI];exact⟨U ⟨E.w.heap.size,0,ae⟩,nc,rfl,qe,.inr ⟨_,_,rfl,Fc dj (RL.mono _ ba.nl Kh) RN rP (λj _=>by rw[show({E with w:=E.w.drew.alloc (.cells ((gC++news)++rest).toArray e)}:Env).aZ E.w.heap.size = .const from hs.ok.fresh _ (bL _)];trivial)⟩,trivial⟩
 | tk Z =>
  obtain⟨bp,hK⟩:=hk;have hE:=hs.ok.aJ Z _ bp;obtain⟨n',h1,_,h3⟩:=uO;rw[hE] at h1;simp only[aY] at h1;subst h1
  rcases IQ m.length with h0 | h0
  .have qf:=su h0;exact WV Z (.inr hE) qf (.inr hE) hK ⟨l.length,by simp,bL _,h3⟩
  .rcases vA cap (l.length+m.length) with az | nY
   .exact RK Z (.inr hE) az h0 hK
   .rcases h3 rfl with hc | ⟨b,cs,e',rfl,dp,eT,cD⟩
    .omega
    .have nU:l.length*i.size+news.length<=cs.size:=by
      rw[rO,cD,<-iQ];exact rB _ nY
     have jh:=Nr (P:=P) (ty:=ty) ht hi eT qV fG nY nU;have uH:∀j:Nat,(cs.toList.take (l.length*i.size)++news++cs.toList.drop (l.length*i.size+news.length)).toArray[j]?=if j<l.length*i.size then cs[j]? else if j<l.length*i.size+news.length then news[j - l.length*i.size]? else cs[j]?:=λj=>by
      have:=Er (c:=cs.toList) (vs:=news) (off:=l.length*i.size) (by simpa using nU) j
      simpa using this
     have rW:(cs.toList.take (l.length*i.size)++news++cs.toList.drop (l.length*i.size+news.length)).toArray.size=cs.size:=by
      simp;omega
     generalize (cs.toList.take (l.length*i.size)++news++cs.toList.drop (l.length*i.size+news.length)).toArray=new at jh uH rW;have ah1:l.length*i.size<=(l.length+m.length)*i.size:=rB _ (by omega)
     let E' : Env:={w:=E.w.setRow b new,aZ:=λb' => if b' = b then .gh Z ((l.length+m.length)*i.size) else E.aZ b',aC:=E.aC,aJ:=λt=>if t=Z then U (l.length+m.length) else E.aJ t}
     have iy:∀b',b' ≠ b->E'.w.heap[b']?=E.w.heap[b']?:=λb' aQ=>setRow_other E.w b b' new aQ
     have lX:∀b',b' ≠ b->E'.aZ b' = E.aZ b' := λb' aQ=>by simp only[E'];rw[aB aQ]
     have b8 : E'.w.heap[b]?=U (.cells new e' (0,0)):=setRow_heap E.w b cs new e' _ eT;have py:E'.aZ b = .gh Z ((l.length+m.length)*i.size):=by simp[E']
     have aQ:∀b' r,E.aZ b' = r->(∀c,r≠.gh Z c)->b' ≠ b:=λb' r h h' => by rintro rfl;rw[dp] at h;exact h' _ h.symm
     have ba:Fr E E' := by
      refine⟨rfl,rfl,rfl,by simp[E'],C3 eT,?_,?_,?_,?_,?_,?_,λb' c' Bb hc=>by
       by_cases cp:b' = b
       .subst cp;rw[eT] at hc;simp only[aY,Obj.cells.injEq] at hc;obtain⟨rfl,rfl,_⟩:=hc;exact⟨new,b8,rW⟩
       .exact⟨c',(iy b' cp).trans hc,rfl⟩⟩
      .intro b' o' c hc hv
       by_cases cp:b' = b
       .subst cp;rw[dp] at hc;simp only[eP.gW] at hc;refine⟨by rw[py];simp only[eP.gW];omega,?_⟩;simp only[World.cell?,eT] at hv;simp only[World.cell?,b8,uH,aD hc];exact hv
       .exact⟨by rw[lX b' cp];exact hc,by rw[A8 (iy b' cp)];exact hv⟩
      .intro t n hn
       by_cases qW:t=Z
       .subst qW;rw[hE] at hn;simp only[aY] at hn;exact⟨l.length+m.length,by simp[E'],by omega,λh=>by omega⟩
       .refine⟨n,by simp only[E'];rw[aB qW];exact hn,bL _,λ_ b' c zq=>?_⟩;have cp:b' ≠ b:=aQ b' _ zq (λc' h=>by simp at h;exact qW h.1);exact⟨by rw[lX b' cp];exact zq,λcs' Bb bP=>⟨cs',by rw[iy b' cp];exact bP,rfl⟩⟩
      .intro b' _ hr;have cp:b' ≠ b:=by rcases hr with hr | hr<;>exact aQ b' _ hr (λc h=>by simp at h)
       exact⟨iy b' cp,lX b' cp⟩
      .intro b' _ h;have cp:b' ≠ b:=by rintro rfl;rw[py] at h;simp at h
       rw[lX b' cp] at h;exact .inl h
      .intro b' t c _ h
       by_cases cp:b' = b
       .subst cp;rw[py] at h;simp at h;obtain⟨rfl,_⟩:=h;exact⟨_,dp⟩
       .rw[lX b' cp] at h;exact⟨c,h⟩
      .intro b' i' _ h;have cp:b' ≠ b:=by rintro rfl;rw[py] at h;simp at h
       rw[lX b' cp] at h;exact⟨_,h⟩
     have hle:E.le E' := ba.le λ_ _ h=>h
     unfold Oper.wp;rw[cS,jh];refine⟨E',_,_,⟨st.t,st.aC,st.out.aR Z (l.length+m.length)⟩,rfl,ba,⟨⟨?_,?_,?_,?_,λb cs hc=>dQ.mono _ ba.nl (hs.ok.bO b cs hc)⟩,?_,hs.defers,RL.mono _ hle hs.slot⟩,?_,rfl,hK⟩
     .intro b' cs' bP;obtain⟨k1,k2⟩:=hs.ok.box b' cs' bP;have cp:b' ≠ b:=aQ b' _ k1 (λc h=>by simp at h);exact⟨by rw[lX b' cp];exact k1,k2.mono ba.nl (iy b' cp)⟩
     .intro t n kP;simp only[ag.aR] at kP;simp only[E'];split at kP
      .rename_i h;rw[aD h];exact kP
      .rename_i h;rw[aB h];exact hs.ok.aJ t n kP
     .intro b' qb;have cp:b' ≠ b:=by
       rintro rfl
       have:=ko eT
       simp[E'] at qb;omega
      rw[lX b' cp];exact hs.ok.fresh b' (by simpa [E'] using qb)
     .obtain⟨N,hN⟩:=hs.ok.nt;exact⟨max N (Z+1),λt pB => by simp only[E'];rw[aB (by omega)];exact hN t (by omega)⟩
     .refine pI hs.cU hle (λb' i' hr _=>?_) hs.cU.none;have cp:b' ≠ b:=aQ b' _ hr (λc h=>by simp at h);exact⟨by rw[lX b' cp];exact hr,iy b' cp⟩
     .have ato:RL E'.nl (l++m).flatten (gC++news):=RL.mono _ ba.nl Kh
      -- the cells of the row,as they now are
      have Kg:fK E'.nl i.size (l++m) b 0:=by
       have Du:fK E.nl i.size l b 0:=by
        rcases lv with h | ⟨b2,o2,h,hr⟩
        .subst h;simp[fK]
        .simp only[aY,Addr.mk.injEq] at h;obtain⟨rfl,rfl,_⟩:=h;exact hr
       refine qz.2 ⟨dj,?_⟩;rw[tS];refine xa.2 ⟨(qz.1 (fK.mono _ ba.nl Du)).2,AZ (RL.mono _ ba.nl rQ) fG (λj v hv=>?_) (λj hj=>?_)⟩
       .have hj:=(eX.1 hv).1;rw[mm dB];simp only[Env.Ui,World.cell?,b8,uH];simp only[Cz,di,ck];rw[aB (show ¬(0+l.length*i.size+j<l.length*i.size) by omega),aD (show 0+l.length*i.size+j<l.length*i.size+news.length by omega)];rw[show 0+l.length*i.size+j - l.length*i.size=j from by omega];exact hv
       .rw[mm dB];rw[mm hm] at hj;simp only[Env.Uh,py,eP.gW];rw[iQ];omega
      simp only[R,bI];exact⟨U ⟨b,0,ae⟩,cap,rfl,nY,.inr ⟨b,0,rfl,Kg⟩,l.length+m.length,by simp[E'],bL _,λ_=>.inr ⟨b,new,e',rfl,py,b8,rW.trans cD⟩⟩
end
section
variable {P:Program} {E:Env} {st:St} {a:Act} {o:Oper} {K:V->St->Prop} {Q:Exit->Act->World->Prop}
def Xk(hs:bB E st a)(ho:o.op = .move x\/o.op = .assign x)(hx:R E v (a.eval x))(hk:K v st):o.wp P a E.w (dz E a o.dst K) Q :=
 cP hs (by rcases ho with ho | ho<;>simp[execOp,ho]) hx hk
variable{vx vy:V}{y:Operand}
def asK(hs:bB E st a){c:Operand}{vc:V}(ho:o.op = .pick c x y)(hc:R E vc (a.eval c))(hx:R E vx (a.eval x))(hy:R E vy (a.eval y))
 (hk:match (generalizing:=false) vc with | .bool aa=>K vx st | .bool ak=>K vy st | _=>False):o.wp P a E.w (dz E a o.dst K) Q:=by
 cases vc<;>try exact False.elim hk
 rename_i b;simp only[R] at hc;cases b
 .exact cP hs (by simp[execOp,ho,hc,asBool]) hy hk
 .exact cP hs (by simp[execOp,ho,hc,asBool]) hx hk
def asn(hs:bB E st a)(ho:o.op = .alloc t)(hz:jB P t=U zs)(hk:K (.ptr (.aC st.aC.length) 0) ⟨st.t,st.aC++[zs],st.out⟩):
 o.wp P a E.w (dz E a o.dst K) Q:=by
 obtain⟨i,z,h1,h2,h3,_⟩:=sr hz;refine Xl hs (c:=z.cells) (e:=t) ?_ (qH h3) hk;simp[execOp,ho,Instr.alloc,zeroValue,typeInfo,h1,h2,newVar,newRow]
def asr(hs:bB E st a){n:Nat}(ho:o.op = .box t x)(hx:R E v (a.eval x))(hw:v.wd=U n)(hk:K (.ptr (.aC st.aC.length) 0) ⟨st.t,st.aC++[v.cells],st.out⟩):
 o.wp P a E.w (dz E a o.dst K) Q:=by
 refine Xl hs (c:=(a.eval x).cells) (e:=t) ?_ (xc hx hw).1 hk;simp[execOp,ho,Instr.box,newVar,newRow]
def asI(hs:bB E st a)(ho:o.op = .nilCheck x)(hx:R E v (a.eval x))
 (hk:match (generalizing:=false) v with | .ptr p o=>K (.ptr p o) st | .elt c o=>K (.elt c o) st | .fn (.func f) a b=>K (.fn (.func f) a b) st | _=>False):o.wp P a E.w (dz E a o.dst K) Q:=by
 cases v<;>try exact False.elim hk
 case ptr p off =>
  refine cP hs (v:=.ptr p off) (x:=a.eval x) ?_ hx hk;cases p<;>simp only[R] at hx
  .obtain⟨b,_,h⟩:=hx;simp[execOp,ho,h]
  .simp[execOp,ho,hx]
  .simp[execOp,ho,hx]
 case elt c off =>
  refine cP hs (v:=.elt c off) (x:=a.eval x) ?_ hx hk;simp only[R] at hx;obtain⟨b,o',h,_⟩:=hx;simp[execOp,ho,h]
 case fn f as bs =>
  cases f<;>try exact False.elim hk
  rename_i f;refine cP hs (v:=.fn (.func f) as bs) (x:=a.eval x) ?_ hx hk;simp only[R] at hx;obtain⟨fs,cs,h,_⟩:=hx;simp[execOp,ho,h]
variable{t':TypeId}
def asp(hs:bB E st a){op:BinOp}(ho:o.op = .binOp op t x y t')(hx:R E vx (a.eval x))(hy:R E vy (a.eval y))
 (hk:opt (uf op vx vy) (K2 K st)):o.wp P a E.w (dz E a o.dst K) Q:=by
 unfold opt K2 at hk;split at hk
 case h_2=>exact hk.elim
 rename_i v hv;unfold uf at hv;split at hv
 case h_2=>simp at hv
 rename_i k n k' m;split at hv
 case isFalse=>simp at hv
 rename_i iw;simp only[R] at hx hy
 by_cases GP:zQ op=aa
 .cases op<;>simp only[zQ,di] at GP
  .simp only[hC] at hv;split at hv
   case isTrue=>simp at hv
   rename_i hm;simp only[aY] at hv;subst hv;refine cP hs (x:=.int k (k.wrap (n*2^(Nat.min m.toNat k.bits)))) ?_ (by simp only[R]) hk;simp only[execOp,ho,hx,hy];simp[eqGuard,binOp,Op.shift,hm]
  .simp only[hC] at hv;split at hv
   case isTrue=>simp at hv
   rename_i hm;simp only[aY] at hv;subst hv;refine cP hs (x:=.int k (n.fdiv (2^(Nat.min m.toNat k.bits)))) ?_ (by simp only[R]) hk;simp only[execOp,ho,hx,hy];simp[eqGuard,binOp,Op.shift,hm]
 have iw:=iw.resolve_right GP;obtain rfl:=GZ iw;cases op<;>simp only[hC,aY] at hv<;>try (simp at hv;done)
 case shl=>simp[zQ] at GP
 case shr=>simp[zQ] at GP
 case quo =>
  split at hv
  case isTrue=>simp at hv
  rename_i hm;simp only[aY] at hv;subst hv;refine cP hs (by simp only[execOp,ho,hx,hy];simp only[eqGuard,binOp,Op.intDiv];simp[hm];rfl) (by simp only[R];try rfl) hk
 case rem =>
  split at hv
  case isTrue=>simp at hv
  rename_i hm;simp only[aY] at hv;subst hv;refine cP hs (by simp only[execOp,ho,hx,hy];simp only[eqGuard,binOp,Op.intDiv];simp[hm];rfl) (by simp only[R];try rfl) hk
 case andNot =>
  subst hv;refine cP hs (x:=.int k (k.wrap ((BitVec.ofInt k.bits n&&&~~~BitVec.ofInt k.bits m).toNat:Nat))) ?_ (by simp only[R]) hk;simp only[execOp,ho,hx,hy];simp only[eqGuard,binOp,Op.intBits];simp
 all_goals
  subst hv;refine cP hs (by simp only[execOp,ho,hx,hy];simp only[eqGuard,binOp,Op.intArith,Op.intCmp,Op.intBits];simp;first | rfl | simp) (by simp only[R];try rfl) hk
def TM(x y:List UInt8):(x == y)=decide (x=y):=by
 rw[EM];simp
def asq(hs:bB E st a){op:BinOp}(ho:o.op = .binOp op t x y t')(hx:R E vx (a.eval x))(hy:R E vy (a.eval y))
 (hk:opt (y3 op vx vy) (K2 K st)):o.wp P a E.w (dz E a o.dst K) Q:=by
 unfold opt K2 at hk;split at hk
 case h_2=>exact hk.elim
 rename_i v hv;unfold y3 at hv;split at hv
 case h_2=>simp at hv
 rename_i n m;simp only[R] at hx hy;cases op<;>simp only[wI,aY] at hv<;>try (simp at hv;done)
 all_goals
  subst hv;refine cP hs (by simp only[execOp,ho,hx,hy];simp only[eqGuard,binOp,Op.stringOp,ByteArray.toList_mk];simp[TM];rfl) (by simp[R]) hk
def asv(hs:bB E st a)(ho:o.op = .binOp .add t x y t')(hx:R E vx (a.eval x))(hy:R E vy (a.eval y))
 (hk:∃m n,vx = .aF m/\vy = .aF n/\m.length+n.length<=aM/\K (.aF (m++n)) st):o.wp P a E.w (dz E a o.dst K) Q:=by
 obtain⟨m,n,rfl,rfl,hb,hk⟩:=hk;simp only[R] at hx hy;have cD:¬(9223372036854775807<((m.length:Int)+(n.length:Int))):=by simp only[aM] at hb;omega
 have e1:(⟨m.toArray⟩:ByteArray).size=m.length:=by simp[ByteArray.size]
 have e2:(⟨n.toArray⟩:ByteArray).size=n.length:=by simp[ByteArray.size]
 refine cP hs (v:=.aF (m++n)) (x:=.string ⟨(m++n).toArray⟩) ?_ (by simp only[R]) hk;simp only[execOp,ho,hx,hy];simp only[eqGuard,binOp,Op.stringOp,e1,e2];have e3:(⟨m.toArray⟩:ByteArray)++(⟨n.toArray⟩:ByteArray)=⟨(m++n).toArray⟩:=by
  apply ByteArray.ext;simp[ByteArray.data_append]
 simp[IntKind.max,IntKind.signed,IntKind.bits,cD,e3]
def Xe(hs:bB E st a){neg:Bool}{op:BinOp}(lW:op=if neg then .neq else .eql)(ht:P.underlying t=U .bool)(ho:o.op = .binOp op t x y t')(hx:R E vx (a.eval x))(hy:R E vy (a.eval y))
 (hk:opt (xq neg vx vy) (K2 K st)):o.wp P a E.w (dz E a o.dst K) Q:=by
 unfold opt K2 at hk;split at hk
 case h_2=>exact hk.elim
 rename_i v hv;unfold xq at hv;split at hv
 case h_2=>simp at hv
 rename_i m n;simp only[R] at hx hy;simp only[aY] at hv;subst hv;subst lW;cases neg
 .refine cP hs (x:=.bool (decide (m=n))) ?_ (by simp[R]) hk;simp only[execOp,ho,hx,hy];simp[eqGuard,run_eql_bool E.w t m n ht];cases m<;>cases n<;>rfl
 .refine cP hs (x:=.bool (!decide (m=n))) ?_ (by simp[R]) hk;simp only[execOp,ho,hx,hy];simp[eqGuard,run_neq_bool E.w t m n ht];cases m<;>cases n<;>rfl
def asJ(hs:bB E st a)(ho:o.op = .unOp .not t x)(hx:R E v (a.eval x))(hk:match (generalizing:=false) v with | .bool b=>K (.bool (!b)) st | _=>False):
 o.wp P a E.w (dz E a o.dst K) Q:=by
 cases v<;>try exact False.elim hk
 simp only[R] at hx;exact cP hs (by simp[execOp,ho,hx,Op.unary];rfl) (by simp only[R]) hk
def asE(hs:bB E st a)(ho:o.op = .call {callee:=.builtin .len,args:=#[x],argTypes:=#[t]})(ht:P.underlying t=U (.slice e))(hx:R E v (a.eval x))
 (hk:match (generalizing:=false) v with | .sl _ _ l=>K (.int .i64 l.length) st | .raw (.slice _ n _)=>K (.int .i64 n) st | _=>False):o.wp P a E.w (dz E a o.dst K) Q:=by
 cases v<;>try exact False.elim hk
 case raw u =>
  cases u<;>try exact False.elim hk
  simp only[R] at hx;exact cP hs (by simp[execOp,ho,resolve,invoke,builtin,Builtin.len_,run_underlying ht,hx];rfl) (by simp[R,goInt]) hk
 simp only[R] at hx;obtain⟨b,c,h,_⟩:=hx;exact cP hs (by simp[execOp,ho,resolve,invoke,builtin,Builtin.len_,run_underlying ht,h];rfl) (by simp[R,goInt]) hk
def asF(hs:bB E st a)(ho:o.op = .call {callee:=.builtin .len,args:=#[x],argTypes:=#[t]})(ht:P.underlying t=U .string)(hx:R E v (a.eval x))
 (hk:match (generalizing:=false) v with | .aF s=>K (.int .i64 s.length) st | _=>False):o.wp P a E.w (dz E a o.dst K) Q:=by
 cases v<;>try exact False.elim hk
 simp only[R] at hx;exact cP hs (by simp[execOp,ho,resolve,invoke,builtin,Builtin.len_,run_underlying ht,hx];rfl) (by simp[R,goInt,ByteArray.size]) hk
variable{i:Nat}
def asz(hs:bB E st a){s:TypeId}{n:Nat}{fs:Array Field}{f:Field}(ho:o.op = .fieldAddr s x i)(ht:P.underlying s=U (.struct fs))(hf:fs[i]?=U f)
 (hn:dO P f.type=U n) (BC:n≠0) (hx:R E v (a.eval x)) (hk:match (generalizing:=false) v with | .ptr p o=>K (.ptr p (o+f.offset)) st | .elt c o=>K (.elt c (o+f.offset)) st | _=>False) :
 o.wp P a E.w (dz E a o.dst K) Q:=by
 have run:∀b off:Nat,(Instr.fieldAt s (.pointer (U ⟨b,off,ae⟩)) i).run P E.w = .ok (.pointer (U ⟨b,off+f.offset,ae⟩)) E.w:=λb off=>by
  simp[Instr.fieldAt,run_underlying ht,hf,Instr.sureAddr,fieldPlace,nh hn,BC,lh]
 cases v<;>try exact False.elim hk
 case ptr p off =>
  cases p with
  | aC j =>
   simp only[R] at hx;obtain⟨b,hb,h⟩:=hx;exact cP hs (by simp[execOp,ho,h,run];rfl) (by simp only[R];exact⟨b,hb,rfl⟩) hk
  | out b =>
   simp only[R] at hx;exact cP hs (by simp[execOp,ho,hx,run];rfl) (by simp only[R]) hk
  | jM b =>
   simp only[R] at hx;exact cP hs (by simp[execOp,ho,hx,run];rfl) (by simp only[R]) hk
 case elt c off =>
  simp only[R] at hx;obtain⟨b,o',h,hr⟩:=hx;exact cP hs (by simp[execOp,ho,h,run];rfl) (by simp only[R];exact⟨b,o',by rw[E5],hr⟩) hk
def asy(hs:bB E st a)(ho:o.op = .extract x i)(hx:R E v (a.eval x))(hk:match (generalizing:=false) v with | .bq vs=>opt vs[i]? (K2 K st) | _=>False):
 o.wp P a E.w (dz E a o.dst K) Q:=by
 cases v<;>try exact False.elim hk
 rename_i vs;simp only[opt,K2] at hk;cases hu:vs[i]? with
 | none=>rw[hu] at hk;exact False.elim hk
 | some u =>
  rw[hu] at hk;simp only[R] at hx;obtain⟨us,h,hr⟩:=hx;obtain⟨y,h1,h2⟩:=qA hr i u hu;have vR : us[i]?=U y:=by simpa using h1
  exact cP hs (by simp[execOp,ho,h,Instr.extract,vR]) h2 hk
def asH(hs:bB E st a){f:Fn}{first cap:Array Operand}{as bs:List V}(ho:o.op = .makeFunc f first cap)(ha:RL E as (first.toList.map a.eval))(hb:RL E bs (cap.toList.map a.eval))(hk:K (.fn f as bs) st):
 o.wp P a E.w (dz E a o.dst K) Q:=by
 refine cP hs (x:=.func f (first.map a.eval) (cap.map a.eval)) (by simp[execOp,ho,Instr.makeFunc]) ?_ hk;simp only[R];exact⟨_,_,rfl,by simpa using ha,by simpa using hb⟩
def asx(hs:bB E st a){src dst:TypeId}{k k' : IntKind}(ho:o.op = .convert src dst x)(h1:P.underlying src=U (.int k'))(h2:P.underlying dst=U (.int k))(hx:R E v (a.eval x))
 (hk:match (generalizing:=false) v with | .int _ n=>K (.int k (k.wrap n)) st | _=>False):o.wp P a E.w (dz E a o.dst K) Q:=by
 cases v<;>try exact False.elim hk
 simp only[R] at hx;exact cP hs (by simp[execOp,ho,hx,convert,run_underlying h1,run_underlying h2,Conv.intToInt];rfl) (by simp only[R]) hk
def asB(hs:bB E st a){n:Nat}{i:Operand}{vi:V}(ho:o.op = .indexAddr t x i)(ht:P.underlying t=U (.slice e))(hn:dO P e=U n)(hx:R E vx (a.eval x))(hi:R E vi (a.eval i))
 (hk:match (generalizing:=false) vx with
   | .sl _ k' l=>k' = n/\Iy l vi λc=>K (.elt c 0) st
   | .raw (.slice (U ⟨b,o,ae⟩) m _)=>∃ik j,vi = .int ik j/\0<=j/\j<m/\K (.ptr (.out b) (o+j.toNat*n)) st
   | _=>False):o.wp P a E.w (dz E a o.dst K) Q:=by
 cases vx<;>try exact False.elim hk
 case raw u =>
  split at hk
  .simp_all
  .rename_i b off m cap e;simp only[V.raw.injEq] at e;subst e;obtain⟨ik,j,rfl,g1,g2,hk⟩:=hk;simp only[R] at hx hi;refine cP hs (v:=.ptr (.out b) (off+j.toNat*n)) (x:=.pointer (U ⟨b,off+j.toNat*n,ae⟩)) ?_ (by simp only[R]) hk;simp[execOp,ho,hx,hi,Instr.indexAt,asIntOf,run_underlying ht,g1,g2,nh hn,lh]
  .exact hk.elim
 rename_i tk k' l;obtain⟨rfl,ki,m,c,rfl,hm,hc,hk⟩:=hk;simp only[R] at hx hi;obtain⟨base,cap,h,_,h3,_⟩:=hx;have az:=(eX.1 hc).1
 rcases h3 with h3 | ⟨b,off,rfl,hr⟩
 .subst h3;simp at hc
 .have uE:dQ E.nl c b (off+m.toNat*k'):=by
   obtain⟨h1,h2⟩:=qz.1 hr;have Lc:l=l.take m.toNat++c::l.drop (m.toNat+1):=by
    have:=qy m.toNat l
    rw[mi az] at this;rw[(eX.1 hc).2] at this;exact this.symm
   rw[Lc,tS,kz,xa,xa] at h2;have hl:(l.take m.toNat).flatten.length=m.toNat*k' := by
    rw[mm (λx hx=>h1 x (AU hx))];rw[iP,w8 (by omega)]
   rw[hl] at h2;simpa using h2.2.1
  have lA : m<(l.length:Int):=by omega
  refine cP hs (v:=.elt c 0) (x:=.pointer (U ⟨b,off+m.toNat*k',ae⟩)) ?_ (by simp only[R];exact⟨b,off+m.toNat*k',rfl,uE⟩) hk;simp[execOp,ho,h,hi,Instr.indexAt,asIntOf,run_underlying ht,hm,lA,nh hn,lh]
def asC(hs:bB E st a){n:Nat}{i:Operand}{vi:V}(ho:o.op = .indexAddr t x i)(ht:P.underlying t=U (.array m e))(hn:dO P e=U n)(hx:R E vx (a.eval x))(hi:R E vi (a.eval i))
 (hk:match (generalizing:=false) vx with
   | .ptr p o=>∃kk j,vi = .int kk j/\0<=j/\j<(m:Nat)/\K (.ptr p (o+j.toNat*n)) st
   | .elt c o=>∃kk j,vi = .int kk j/\0<=j/\j<(m:Nat)/\K (.elt c (o+j.toNat*n)) st
   | _=>False):o.wp P a E.w (dz E a o.dst K) Q:=by
 have run:∀(b off:Nat) (kk:IntKind) (j:Int),0<=j->j<(m:Nat)->(Instr.indexAt t (.pointer (U ⟨b,off,ae⟩)) (.int kk j)).run P E.w = .ok (.pointer (U ⟨b,off+j.toNat*n,ae⟩)) E.w:=λb off kk j h0 h1=>by
  simp[Instr.indexAt,asIntOf,run_underlying ht,Instr.sureAddr,h0,h1,nh hn,lh]
 cases vx<;>try exact False.elim hk
 case ptr p off =>
  obtain⟨kk,j,rfl,h0,h1,hk⟩:=hk;simp only[R] at hi;cases p with
  | aC q =>
   simp only[R] at hx;obtain⟨b,hb,h⟩:=hx;exact cP hs (by simp[execOp,ho,h,hi,run _ _ _ _ h0 h1];rfl) (by simp only[R];exact⟨b,hb,rfl⟩) hk
  | out b =>
   simp only[R] at hx;exact cP hs (by simp[execOp,ho,hx,hi,run _ _ _ _ h0 h1];rfl) (by simp only[R]) hk
  | jM b =>
   simp only[R] at hx;exact cP hs (by simp[execOp,ho,hx,hi,run _ _ _ _ h0 h1];rfl) (by simp only[R]) hk
 case elt c off =>
  obtain⟨kk,j,rfl,h0,h1,hk⟩:=hk;simp only[R] at hi hx;obtain⟨b,o',h,hr⟩:=hx;exact cP hs (by simp[execOp,ho,h,hi,run _ _ _ _ h0 h1];rfl) (by simp only[R];exact⟨b,o',by rw[E5],hr⟩) hk
def asD(hs:bB E st a){i:Operand}{vi:V}(ho:o.op = .index t x i)(ht:P.underlying t=U .string)(hx:R E vx (a.eval x))(hi:R E vi (a.eval i))
 (hk:match (generalizing:=false) vx with | .aF s=>∃k n c,vi = .int k n/\0<=n/\s[n.toNat]?=U c/\K (.int .u8 c.toNat) st | _=>False):o.wp P a E.w (dz E a o.dst K) Q:=by
 cases vx<;>try exact False.elim hk
 rename_i s;obtain⟨k,n,c,rfl,hn,hc,hk⟩:=hk;simp only[R] at hx hi;have az:=(eX.1 hc).1;have lA : n<((⟨s.toArray⟩:ByteArray).size:Int):=by simp[ByteArray.size];omega
 refine cP hs (v:=.int .u8 c.toNat) (x:=.int .u8 c.toNat) ?_ (by simp only[R]) hk
 have:=run_index_string (P:=P) E.w t ⟨s.toArray⟩ k n ht
 rw[CS ⟨hn,lA⟩] at this;simp only[execOp,ho,hx,hi,Sem.run_bind,this,Result.andThen_ok];have hg:(⟨s.toArray⟩:ByteArray)[n.toNat]'(by simp[ByteArray.size];exact az)=c:=(eX.1 hc).2;simp[hg]
end
def vJ:Nat->Value->Value->Option Bool
 | 1,.int k a,.int k' b=>if k=k' then U (decide (a=b)) else ae
 | 2,.string a,.string b=>U (a.toList == b.toList)
 | 0,.bool a,.bool b=>U (a == b)
 | _,_,_=>ae
section
variable {P:Program} {w:World}
def qJ(xs ys:Array Value):List (Nat × Nat)->Option Bool
 | []=>U aa
 | (j, k) :: js =>
  match xs[j]?,ys[j]? with
  | some x,U y=>(vJ k x y).bind λb=>(qJ xs ys js).map (b&&·)
  | _,_=>ae
def JG{xs ys:Array Value}:∀{l m:List (Nat × Nat)} {b:Bool},qJ xs ys (l++m)=U b->∃b1 b2,qJ xs ys l=U b1/\qJ xs ys m=U b2/\b=(b1&&b2)
 | [],m,b,h=>⟨aa,b,rfl,h,by simp⟩
 | (j, k) :: l, m, b, h => by
  simp only[gE,qJ] at h ⊢;split at h
  .simp only[gV,cZ] at h;obtain⟨c,h1,d,h2,rfl⟩:=h;obtain⟨b1,b2,k1,k2,rfl⟩:=JG h2;exact⟨c&&b1,b2,by simp[h1,k1],k2,by simp[Bool.and_assoc]⟩
  .simp at h
def At(P:Program)(t:TypeId)(xs:Array Value)(off:Nat)(x:Value):Prop :=
 match gG P t with
 | some aa=>x = .agg (xs.extract off (off+P.cellsOf t))/\off+P.cellsOf t<=xs.size
 | some ak=>xs[off]?=U x
 | none=>False
def PU{i:TypeInfo}(h:P.info? t=U i):P.cellsOf t=i.size:=by simp[Program.cellsOf,h]
variable{g:Bool}{off:Nat}
def HU{i:TypeInfo}(hi:P.info? u=U i){xs:Array Value}{o':Nat}(hle:o' + P.cellsOf u<=P.cellsOf t)(cD:off+P.cellsOf t<=xs.size)(hg:gG P u=U g)(iJ:g=ak->P.cellsOf u=1):
 ∃y,(part u (xs.extract off (off+P.cellsOf t)) o').run P w = .ok y w/\At P u xs (off+o') y:=by
 have hs:(sizeOf u).run P w = .ok (P.cellsOf u) w:=by simp[sizeOf,typeInfo,hi,PU hi]
 unfold At;rw[hg];cases g
 .have h1:=iJ rfl;have az:off+o' < xs.size:=by omega
  refine⟨xs[off+o'],?_,by simp[az]⟩
  have:(xs.extract off (off+P.cellsOf t))[o']?=U xs[off+o']:=by
   rw[XB];simp[lP az];omega
  simp[part,Ao hg,this]
 .refine⟨_,by simp[part,Ao hg,hs];rfl,?_,by omega⟩;congr 2;omega
def U1{n:Nat}{pl:List (Nat × Nat)}(h:wD P n u off=U pl):∃i g,P.info? u=U i/\gG P u=U g/\(g=ak->P.cellsOf u=1):=by
 cases n with
 | zero=>simp[wD] at h
 | succ n =>
  simp only[wD] at h;split at h
  .rename_i i hi hu;split at h<;>simp at h;rename_i hc;exact⟨_,ak,hi,by simp[gG,hu],λ_=>hc⟩
  .rename_i i hi hu;split at h<;>simp at h;rename_i hc;exact⟨_,ak,hi,by simp[gG,hu],λ_=>hc⟩
  .rename_i i hi hu;split at h<;>simp at h;rename_i hc;exact⟨_,ak,hi,by simp[gG,hu],λ_=>hc⟩
  .rename_i i hi hu;exact⟨_,aa,hi,by simp[gG,hu],λh=>by simp at h⟩
  .rename_i i hi hu;exact⟨_,aa,hi,by simp[gG,hu],λh=>by simp at h⟩
  .simp at h
def an2:∀(n:Nat) (t:TypeId) (off:Nat) (pl:List (Nat × Nat)),wD P n t off=U pl->∀(d:Nat),n<=d->∀(xs ys:Array Value) (x y:Value),At P t xs off x->At P t ys off y ->
 ∀b,qJ xs ys pl=U b->(Op.equalIn d t x y).run P w = .ok b w:=by
 intro n;induction n with
 | zero=>intro t off pl h;simp[wD] at h
 | succ n ih =>
  intro t off pl h d hd xs ys x y hx hy b hb;obtain⟨d,rfl⟩:∃d',d=d' + 1:=⟨d - 1,by omega⟩;have one:∀k,gG P t=U ak->pl=[(off,k)]->vJ k x y=U b:=λk hg hp=>by
   subst hp;unfold At at hx hy;rw[hg] at hx hy;have jv : xs[off]?=U x:=hx;have zK : ys[off]?=U y:=hy;simp only[qJ,jv,zK,gV,vC,aY] at hb;obtain⟨c,h1,h2⟩:=hb;rw[h1];simpa using h2
  simp only[wD] at h;split at h
  .rename_i i hi hu;split at h
   case isFalse=>simp at h
   simp only[aY] at h;have hc:=one 0 (by simp[gG,hu]) h.symm;unfold vJ at hc;split at hc<;>simp at *;subst hc;exact run_equalIn_bool w d t _ _ hu
  .rename_i i k hi hu;split at h
   case isFalse=>simp at h
   simp only[aY] at h;have hc:=one 1 (by simp[gG,hu]) h.symm;unfold vJ at hc;split at hc<;>simp at *;obtain⟨rfl,hc⟩:=hc;subst hc;exact run_equalIn_int w d t _ _ _ _ hu
  .rename_i i hi hu;split at h
   case isFalse=>simp at h
   simp only[aY] at h;have hc:=one 2 (by simp[gG,hu]) h.symm;unfold vJ at hc;split at hc<;>simp at *;subst hc;exact run_equalIn_string w d t _ _ hu
  .rename_i i fs hi hu;split at h
   .simp at h
   rename_i dV;unfold At at hx hy;have hg:gG P t=U true:=by simp[gG,hu]
   rw[hg] at hx hy;obtain⟨rfl,pD⟩:=hx;obtain⟨rfl,pE⟩:=hy;have uG:P.fieldsOf t=fs:=by simp[Program.fieldsOf,hu]
   rw[run_equalIn_struct w d t _ _ (by rw[uG];exact hu) (by simpa using dV),uG];clear hu uG dV;clear one;generalize fs.toList=l at h;revert b pl;induction l with
   | nil=>intro pl b hb h;simp[HM] at h;subst h;simp[qJ] at hb;subst hb;simp[Op.eqFields]
   | cons f l Lo =>
    intro pl b hb h;simp only[HM] at h;split at h
    .simp at h
    rename_i hc;simp only[gV,cZ] at h;obtain⟨p1,h1,p2,h2,rfl⟩:=h;obtain⟨b1,b2,e1,e2,rfl⟩:=JG hb;obtain⟨i',g,c_,qd,kN⟩:=U1 h1;have hn:f.name ≠ "_" := λe=>hc (.inl e)
    have hle:f.offset+P.cellsOf f.type<=P.cellsOf t:=by omega
    obtain⟨u,r1,a1⟩:=HU (P:=P) (w:=w) c_ hle pD qd kN;obtain⟨v,r2,a2⟩:=HU (P:=P) (w:=w) c_ hle pE qd kN;have r3:=ih f.type (off+f.offset) p1 h1 d (by omega) xs ys u v a1 a2 b1 e1;have r4:=Lo p2 b2 e2 h2;simp only[Op.eqFields,hn,ne_eq,Un,cC,Sem.run_bind,r1,r2,r3,Result.andThen_ok];cases b1
    .simp
    .simpa using r4
  .rename_i i k e hi hu;split at h
   case h_2=>simp at h
   rename_i ie zy;unfold At at hx hy;have hg:gG P t=U true:=by simp[gG,hu]
   rw[hg] at hx hy;obtain⟨rfl,pD⟩:=hx;obtain⟨rfl,pE⟩:=hy;rw[run_equalIn_array w d _ _ hu zy];clear hu;clear one;generalize cc k=l at h;revert b pl;induction l with
   | nil=>intro pl b hb h;simp[HN] at h;subst h;simp[qJ] at hb;subst hb;simp[Op.eqItems]
   | cons j l Lo =>
    intro pl b hb h;simp only[HN] at h;split at h
    .simp at h
    rename_i hc;simp only[gV,cZ] at h;obtain⟨p1,h1,p2,h2,rfl⟩:=h;obtain⟨b1,b2,e1,e2,rfl⟩:=JG hb;obtain⟨i',g,c_,qd,kN⟩:=U1 h1;have hle:j*P.cellsOf e+P.cellsOf e<=P.cellsOf t:=by omega
    obtain⟨u,r1,a1⟩:=HU (P:=P) (w:=w) c_ hle pD qd kN;obtain⟨v,r2,a2⟩:=HU (P:=P) (w:=w) c_ hle pE qd kN;have r3:=ih e (off+j*P.cellsOf e) p1 h1 d (by omega) xs ys u v a1 a2 b1 e1;have r4:=Lo p2 b2 e2 h2;simp only[Op.eqItems,Sem.run_bind,r1,r2,r3,Result.andThen_ok];cases b1
    .simp
    .simpa using r4
  .simp at h
end
section
variable {P:Program} {E:Env} {st:St} {a:Act} {o:Oper} {K:V->St->Prop} {Q:Exit->Act->World->Prop}
def bool_beq(x y:Bool):(x == y)=decide (x=y):=by cases x<;>cases y<;>rfl
def QL{xs ys:Array Value}:∀{ks:List Nat} {vx vy:List V} {us ws:List Value} {b:Bool} (pl:List (Nat × Nat)) (off:Nat),fE ks vx vy=U b->RL E vx us->RL E vy ws ->
 (∀(j:Nat) u,us[j]?=U u->xs[off+j]?=U u)->(∀(j:Nat) u,ws[j]?=U u->ys[off+j]?=U u)->pl.map (·.2)=ks->pl.map (·.1)=List.range' off pl.length->qJ xs ys pl=U b
 | [], vx, vy, us, ws, b, pl, off, h, hx, hy, h1, h2, h3, h4 => by
  have:pl=[]:=by simpa using h3
  subst this;cases vx<;>cases vy<;>simp[fE] at h;subst h;simp[qJ]
 | k :: ks, vx, vy, us, ws, b, pl, off, h, hx, hy, h1, h2, h3, h4 => by
  obtain⟨⟨j,k'⟩,pl,rfl⟩:∃p q,pl=p::q:=by cases pl with | nil=>simp at h3 | cons p q=>exact⟨p,q,rfl⟩
  simp only[bX,gu,db,Cu] at h3 h4;obtain⟨rfl,h3⟩:=h3;obtain⟨rfl,h4⟩:=h4;have step:∀{x y:V} {N8 N9 : List V} {c d:Bool},vx=x::N8 -> vy=y::N9 -> (∀u v,R E x u->R E y v->vJ k' u v=U c)->fE ks N8 N9 = U d->b=(c&&d)->qJ xs ys ((j,k')::pl)=U b :=
   λ{x y N8 N9 c d} e1 e2 hc hd hb=>by
    subst e1;subst e2;cases us with
    | nil=>simp[RL] at hx
    | cons u us =>
     cases ws with
     | nil=>simp[RL] at hy
     | cons v ws =>
      simp only[RL] at hx hy;have hu:=h1 0 u (by simp);have hv:=h2 0 v (by simp);simp only[vz] at hu hv;have ih:=QL (ks:=ks) (us:=us) (ws:=ws) pl (j+1) hd hx.2 hy.2 (λi u hu=>by rw[show j+1+i=j+(i+1) from by omega];exact h1 (i+1) u (by simpa using hu))
       (λi u hu=>by rw[show j+1+i=j+(i+1) from by omega];exact h2 (i+1) u (by simpa using hu)) h3 h4
      simp only[qJ,hu,hv,hc u v hx.1 hy.1,ih,vB,vC,hb]
  unfold fE at h;split at h
  .simp at *
  .rename_i hk;simp only[gu] at hk;obtain⟨rfl,rfl⟩:=hk;split at h
   case isFalse=>simp at h
   rename_i iw;obtain rfl:=GZ iw;simp only[cZ] at h;obtain⟨d,hd,rfl⟩:=h;exact step rfl rfl (λu v hu hv=>by simp only[R] at hu hv;subst hu;subst hv;simp[vJ]) hd rfl
  .rename_i hk;simp only[gu] at hk;obtain⟨rfl,rfl⟩:=hk;simp only[cZ] at h;obtain⟨d,hd,rfl⟩:=h;exact step rfl rfl (λu v hu hv=>by simp only[R] at hu hv;subst hu;subst hv;simp[vJ,TM]) hd rfl
  .rename_i hk;simp only[gu] at hk;obtain⟨rfl,rfl⟩:=hk;simp only[cZ] at h;obtain⟨d,hd,rfl⟩:=h;exact step rfl rfl (λu v hu hv=>by simp only[R] at hu hv;subst hu;subst hv;simp[vJ,bool_beq]) hd rfl
  .simp at h
def FV:∀{ks:List Nat} {vx vy:List V} {b:Bool},fE ks vx vy=U b->vx.length=ks.length/\vy.length=ks.length
 | [],vx,vy,b,h=>by cases vx<;>cases vy<;>simp[fE] at h;simp
 | k :: ks, vx, vy, b, h => by
  unfold fE at h;split at h
  .simp at *
  .rename_i hk;simp only[gu] at hk;obtain⟨rfl,rfl⟩:=hk;split at h
   case isFalse=>simp at h
   simp only[cZ] at h;obtain⟨d,hd,_⟩:=h
   have:=FV hd;simp[this]
  .rename_i hk;simp only[gu] at hk;obtain⟨rfl,rfl⟩:=hk;simp only[cZ] at h;obtain⟨d,hd,_⟩:=h
   have:=FV hd;simp[this]
  .rename_i hk;simp only[gu] at hk;obtain⟨rfl,rfl⟩:=hk;simp only[cZ] at h;obtain⟨d,hd,_⟩:=h
   have:=FV hd;simp[this]
  .simp at h
variable{t':TypeId}{vx vy:V}{y:Operand}
def Io(hs:bB E st a){neg:Bool}{op:BinOp}(lW:op=if neg then .neq else .eql){ks:List Nat}(ht:MT P t=U ks)(ho:o.op = .binOp op t x y t')
 (hg:gG P t=U aa) (hx:R E vx (a.eval x)) (hy:R E vy (a.eval y)) (hk:opt (xp neg ks vx vy) (K2 K st)):o.wp P a E.w (dz E a o.dst K) Q:=by
 unfold opt K2 at hk;split at hk
 case h_2=>exact hk.elim
 rename_i v hv;unfold xp at hv;split at hv
 case h_2=>simp at hv
 rename_i xs ys;simp only[cZ] at hv;obtain⟨b,hb,rfl⟩:=hv;simp only[R] at hx hy;obtain⟨us,uP,SX⟩:=hx;obtain⟨ws,SZ,S0⟩:=hy;unfold MT at ht;split at ht
 case h_2=>simp at ht
 rename_i pl nX;split at ht
 case isFalse=>simp at ht
 rename_i hc;obtain⟨hr,nV⟩:=hc;simp only[aY] at ht;have hlen:pl.length=P.cellsOf t:=by have:=gX List.length hr;simpa using this
 obtain⟨l1,l2⟩:=FV hb;have atj:ks.length=P.cellsOf t:=by rw[<-ht];simp[hlen]
 have Lg:us.size=P.cellsOf t:=by have:=fC SX;simp at this;omega
 have zJ:ws.size=P.cellsOf t:=by have:=fC S0;simp at this;omega
 have dj:=QL (E:=E) (xs:=us) (ys:=ws) pl 0 hb SX S0 (λj u hu=>by simpa using hu) (λj u hu=>by simpa using hu) ht (by rw[hr,hlen,tU]);have fp:∀(zs:Array Value),zs.size=P.cellsOf t->At P t zs 0 (.agg zs):=λzs hz=>by
  unfold At;rw[hg];exact⟨by rw[jc,<-hz,Array.extract_size],by omega⟩
 have cS:=an2 (P:=P) (w:=E.w) 20 t 0 pl nX 10000 (by omega) us ws _ _ (fp us Lg) (fp ws zJ) b dj;subst lW;cases neg
 .refine cP hs (x:=.bool b) ?_ (by simp[R]) hk;simp only[execOp,ho,uP,SZ,di,ck];simp only[Sem.run_bind,run_eqGuard_agg E.w _ t x y us ws nV,Result.andThen_ok,run_eql_struct,cS,Sem.run_pure]
 .refine cP hs (x:=.bool (!b)) ?_ (by simp[R]) hk;simp only[execOp,ho,uP,SZ,cC];simp only[Sem.run_bind,run_eqGuard_agg E.w _ t x y us ws nV,Result.andThen_ok,run_neq_struct,cS,Sem.run_pure]
variable{g:Bool}{i:Nat}
def asA(hs:bB E st a){s:TypeId}{n:Nat}{fs:Array Field}{f:Field}(ho:o.op = .field s x i)(ht:P.underlying s=U (.struct fs))(hf:fs[i]?=U f)
 (hg:gG P f.type=U g) (hn:dO P f.type=U n) (hx:R E v (a.eval x)) (hk:match (generalizing:=false) v with | .agg cs=>opt (bD g n (cs.drop f.offset)) (K2 K st) | _=>False) :
 o.wp P a E.w (dz E a o.dst K) Q:=by
 cases v<;>try exact False.elim hk
 rename_i cs;simp only[opt,K2] at hk;simp only[R] at hx;obtain⟨vs,h,hr⟩:=hx;cases g with
 | false =>
  cases hd:cs.drop f.offset with
  | nil=>rw[hd] at hk;exact False.elim hk
  | cons c rest =>
   rw[hd] at hk;have hc:cs[f.offset]?=U c:=by
    have:=gX (·[0]?) hd
    simpa using this
   obtain⟨u,h1,h2⟩:=qA hr f.offset c hc;have vR : vs[f.offset]?=U u:=by simpa using h1
   exact cP hs (v:=c) (x:=u) (by simp[execOp,ho,h,Instr.field,run_underlying ht,hf,asAgg,part,Ao hg,vR]) h2 hk
 | true =>
  cases hd:takeN n (cs.drop f.offset) with
  | none=>simp only[bD,hd,Option.map_none] at hk;
  | some ys =>
   simp only[bD,hd,vC] at hk;obtain⟨rfl,hle⟩:=NZ hd;refine cP hs (x:=.agg (vs.extract f.offset (f.offset+n))) (by simp[execOp,ho,h,Instr.field,run_underlying ht,hf,asAgg,part,Ao hg,nh hn]) ?_ hk;simp only[R];refine⟨_,rfl,?_⟩;have hl:=fC hr;refine CC ?_ λj y u h1 h2=>?_
   .simp at hl hle ⊢;omega
   .have hj:j<n:=by have:=(eX.1 h1).1;simp at this;omega
    rw[IK,aD hj,tT] at h1;obtain⟨u',h3,h4⟩:=qA hr _ y h1
    have:(vs.extract f.offset (f.offset+n)).toList[j]?=U u' := by
     have az:=(eX.1 h3).1;simp at az;simp only[Oz] at h3 ⊢;rw[XB];rw[aD (by omega)];exact h3
    rw[this] at h2;simp only[aY] at h2;subst h2;exact h4
def Rh:∀(l:List Value) (n off:Nat) (cells:Array Value),off+n+l.length<=cells.size ->
 ((l.zipIdx n).foldl (λcs (c,j)=>cs.setIfInBounds (off+j) c) cells).toList=cells.toList.take (off+n)++l++cells.toList.drop (off+n+l.length)
 | [],n,off,cells,h=>by simp
 | v :: l, n, off, cells, h => by
  simp only[db] at h;have ih:=Rh l (n+1) off (cells.setIfInBounds (off+n) v) (by simp;omega);simp only[List.zipIdx_cons,yO];rw[ih];have e:=list_seg_step cells.toList (off+n) v l (by simp;omega);simpa [OB,E5,Cv 1] using e
variable{off:Nat}
def Q1{place:Nat->Option (Nat × Nat)}{cells:Array Value}{n:Nat}{v:Value}{rest:List (Nat × Value)}(hp:place i=U (off,n))(hv:v.cells.size=n)(wa:off+n<=cells.size):
 Instr.fill place cells ((i,v)::rest)=Instr.fill place (cells.toList.take off++v.cells.toList++cells.toList.drop (off+n)).toArray rest:=by
 have h:=Rh v.cells.toList 0 off cells (by simp;omega);have e:v.cells.zipIdx.foldl (λcs (c,j)=>cs.setIfInBounds (off+j) c) cells=(cells.toList.take off++v.cells.toList++cells.toList.drop (off+n)).toArray:=by
  apply Cj;rw[<-Array.foldl_toList,Array.toList_zipIdx,h];simp[hv]
 simp only[Instr.fill,hp,hv,ne_eq,Hx,ff,EN];rw[aB (by simp;omega),e]
def JJ(hs:RL E st.t a.tmps.toList){place:Nat->Option (Nat × TypeId)}{place' : Nat->Option (Nat × Nat)}(nX:∀i off t n,place i=U (off,t)->dO P t=U n->place' i=U (off,n)) :
 ∀{parts:List (Nat × Operand)} {ps:List (Nat × Nat × X)} {z cs:List V} {cells:Array Value},zZ P place parts=U ps->nG st z ps=U cs->RL E z cells.toList ->
 ∃nJ,Instr.fill place' cells (parts.map λ(i,x)=>(i,a.eval x))=U nJ /\ RL E cs nJ.toList
 | [], ps, z, cs, cells, hp, hb, hz => by
  simp only[zZ,aY] at hp;subst hp;simp only[nG,aY] at hb;subst hb;exact⟨cells,by simp[Instr.fill],hz⟩
 | (i, x) :: parts, ps, z, cs, cells, hp, hb, hz => by
  simp only[zZ] at hp;split at hp
  case h_2=>simp at hp
  rename_i off t BD;split at hp
  case h_2=>simp at hp
  rename_i n y hn hy;split at hp
  .simp at hp
  rename_i BC;simp only[cZ] at hp;obtain⟨U8,kN,rfl⟩:=hp;simp only[nG] at hb;split at hb
  case isFalse=>simp at hb
  rename_i hc;have hx:=mz (E:=E) (st:=st) (a:=a) hs hy;obtain⟨h1,h2⟩:=xc hx hc.2;have hle:=Ko hc.1;have hl:=fC hz;have Ds:=fC h1;simp at hle hl Ds;have wa:off+n<=cells.size:=by omega
  .have mu:RL E (setAt z off (ev st y).cells) (cells.toList.take off++(a.eval x).cells.toList++cells.toList.drop (off+n)):=by
    refine CC (by simp[NI];omega) λj u v h3 h4=>?_
    rw[NH (by omega)] at h3;have wc:=Er (c:=cells.toList) (vs:=(a.eval x).cells.toList) (off:=off) (by simp;omega) j;simp only[AL,h2] at wc;rw[wc] at h4
    by_cases k1:j<off
    .rw[aD k1] at h3 h4;obtain⟨v',k3,k4⟩:=qA hz j u h3;rw[k3] at h4;simp only[aY] at h4;subst h4;exact k4
    .rw[aB k1] at h3 h4
     by_cases k2:j<off+n
     .rw[aD (by omega)] at h3;rw[aD k2] at h4;obtain⟨v',k3,k4⟩:=qA h1 _ u h3;rw[k3] at h4;simp only[aY] at h4;subst h4;exact k4
     .rw[aB (by omega)] at h3;rw[aB k2] at h4;obtain⟨v',k3,k4⟩:=qA hz j u h3;rw[k3] at h4;simp only[aY] at h4;subst h4;exact k4
   obtain⟨nJ,k1,k2⟩:=JJ hs nX kN hb (cells:=(cells.toList.take off++(a.eval x).cells.toList++cells.toList.drop (off+n)).toArray) (by simpa using mu);refine⟨nJ,?_,k2⟩;rw[bX,Q1 (nX i off t n BD hn) h2 wa];exact k1
def TX:∀(fs:List Field),fs.all (λf=>(P.info? f.type).isSome)=aa->∃places:List (Nat × Nat),fs.mapM (λf=>(P.info? f.type).map λi=>(f.offset,i.size))=U places /\
 ∀i:Nat,places[i]?=(fs[i]?).bind λf=>(P.info? f.type).map λi=>(f.offset,i.size)
 | [],_=>⟨[],by simp,λi=>by simp⟩
 | f :: fs, h => by
  simp only[tR,bA] at h;obtain⟨i,hi⟩:=O7.1 h.1;obtain⟨places,h1,h2⟩:=TX fs h.2;refine⟨(f.offset,i.size)::places,by simp[hi,h1],λj=>?_⟩;cases j with
  | zero=>simp[hi]
  | succ j=>simp[h2]
variable{parts:Array (Nat × Operand)}{z:List V}
def wp_build(hs:bB E st a){ps:List (Nat × Nat × X)}(ho:o.op = .build t parts)(hz:jB P t=U z){place:Nat->Option (Nat × TypeId)}
 (nX:(∃fs,P.underlying t=U (.struct fs)/\fs.toList.all (λf=>(P.info? f.type).isSome)=aa/\place=λi=>(fs[i]?).map λf=>(f.offset,f.type)) \/
   ∃k e,P.underlying t=U (.array k e)/\(P.info? e).isSome=aa/\place=λi=>U (i*P.cellsOf e,e))
 (hp:zZ P place parts.toList=U ps) (hk:opt ((nG st z ps).map V.agg) (K2 K st)):o.wp P a E.w (dz E a o.dst K) Q:=by
 unfold opt K2 at hk;split at hk
 case h_2=>exact hk.elim
 rename_i v hv;simp only[cZ] at hv;obtain⟨cs,hb,rfl⟩:=hv;obtain⟨i,zv,h1,h2,h3,_⟩:=sr hz;have S2:RL E z zv.cells.toList:=qH h3;have key:∃nJ,P.built t (parts.map λ(i,x)=>(i,a.eval x)).toList=U nJ /\ RL E cs nJ.toList:=by
  rcases nX with ⟨fs,hu,dj,rfl⟩ | ⟨k,e,hu,aio,rfl⟩
  .obtain⟨places,hm,hg⟩:=TX (P:=P) fs.toList dj;obtain⟨nJ,k1,k2⟩:=JJ (P:=P) (st:=st) hs.slot (place' := λi=>places.toArray[i]?) (λi off t' n h hn=>by
    simp only[cZ] at h;obtain⟨f,hf,h⟩:=h;simp only[nC] at h;obtain⟨rfl,rfl⟩:=h;simp only[XK,hg];unfold dO at hn;simp only[cZ] at hn;obtain⟨i',c_,rfl⟩:=hn;simp[hf,c_]) hp hb S2
   exact⟨nJ,by simpa [Program.built,h1,hu,h2,hm] using k1,k2⟩
  .obtain⟨ie,zy⟩:=O7.1 aio;obtain⟨nJ,k1,k2⟩:=JJ (P:=P) (st:=st) hs.slot (place' := λi=>U (i*ie.size,ie.size)) (λi off t' n h hn=>by
    simp only[aY,nC] at h;obtain⟨rfl,rfl⟩:=h;simp only[dO,zy,vC,aY] at hn;simp[PU zy,hn]) hp hb S2
   exact⟨nJ,by simpa [Program.built,h1,hu,h2,zy] using k1,k2⟩
 obtain⟨nJ,k1,k2⟩:=key;refine cP hs (x:=.agg nJ) ?_ (by simp only[R];exact⟨nJ,rfl,k2⟩) hk
 have:=run_build (P:=P) E.w t _ _ k1
 simp only[execOp,ho,Sem.run_bind,this,Result.andThen_ok,Sem.run_pure]
def JK{k:Nat}:∀(ps:List (Nat × Value)) (i0:Nat) (cells:Array Value),ps.map (·.1)=List.range' i0 ps.length->(∀p∈ps,p.2.cells.size=k)->cells.size=(i0+ps.length)*k ->
 Instr.fill (λi=>U (i*k,k)) cells ps=U (cells.toList.take (i0*k)++(ps.map λp=>p.2.cells.toList).flatten).toArray
 | [], i0, cells, _, _, cD => by
  simp only[Instr.fill,eC,OT,eg];rw[yS (by simp at cD ⊢;omega)]
 | (i, v) :: ps, i0, cells, hm, dj, cD => by
  simp only[bX,db,Cu,gu] at hm;obtain⟨rfl,hm⟩:=hm;simp only[eh] at dj;have rL:(i+(ps.length+1))*k=i*k+k+ps.length*k:=by rw[iQ,iQ];omega
  simp only[db,rL] at cD;rw[Q1 (n:=k) rfl dj.1 (by omega)];have ih:=JK ps (i+1) (cells.toList.take (i*k)++v.cells.toList++cells.toList.drop (i*k+k)).toArray hm dj.2 (by simp[dj.1,iQ];omega);rw[ih];congr 2;simp only[bX,kz,<-dZ];congr 1;rw[show(i+1)*k=i*k+k from by rw[iQ];omega]
  have:(cells.toList.take (i*k)++v.cells.toList).length=i*k+k:=by simp[dj.1];omega
  rw[XP (by omega),yS (by omega)]
def VD(hs:RL E st.t a.tmps.toList){k:Nat}{e:TypeId}:∀{n:Nat} {xs:List Operand} {ys:List X} {l:List (List V)},iU P (aA n e) xs=U ys->kY st k ys=U l ->
 xs.length=n/\l.length=n/\(∀x∈xs,(a.eval x).cells.size=k)/\(∀y∈l,y.length=k)/\RL E.nl l.flatten (xs.map λx=>(a.eval x).cells.toList).flatten/\∀v∈(xs.map λx=>(a.eval x).cells.toList).flatten,v.oneCell' = aa
 | 0, [], ys, l, h1, h2 => by
  simp only[List.replicate_zero,iU,aY] at h1;subst h1;simp only[kY,aY] at h2;subst h2;simp[RL]
 | 0,_::_,ys,l,h1,h2=>by simp[iU] at h1
 | n+1,[],ys,l,h1,h2=>by simp[yR,iU] at h1
 | n + 1, x :: xs, ys, l, h1, h2 => by
  simp only[yR,iU,gV,cZ] at h1;obtain⟨y,hy,Xw,pE,rfl⟩:=h1;simp only[kY] at h2;split at h2
  case isFalse=>simp at h2
  rename_i hc;simp only[cZ] at h2;obtain⟨l',gz,rfl⟩:=h2;obtain⟨k1,k2,k3,k4,k5,k6⟩:=VD hs pE gz;have hx:=mz (E:=E) (st:=st) (a:=a) hs hy;obtain⟨r1,r2⟩:=xc hx hc.1;have r3:=RL.n9 (E:=E) (E' := E.nl) _ (Env.le.refl E.nl) hc.2.1 r1;have r4:=yj r1 hc.2.2;refine⟨by simp[k1],by simp[k2],?_,?_,?_,?_⟩
  .simp only[eh];exact⟨r2,k3⟩
  .simp only[eh];exact⟨by have:=fC r1;rw[QP];simp at this;omega,k4⟩
  .simp only[kz,bX];exact tZ (RL.erase _ r3) k5
  .simp only[bX,kz];intro v hv
   rcases jE.1 hv with h | h
   .exact r4 v h
   .exact k6 v h
def Xf(hs:bB E st a){len:Nat}(ho:o.op = .buildSlice t len parts)(ht:P.underlying t=U (.slice e))(hn:dO P e=U k)(hz:jB P e=U z)
 (hr:parts.toList.map (·.1)=cc len) (cD:len*k<=16777216) {l:List (List V)}
 (hf:(parts.toList.map (·.2)).length=len/\l.length=len/\(∀x∈parts.toList.map (·.2),(a.eval x).cells.size=k)/\(∀y∈l,y.length=k)/\RL E.nl l.flatten ((parts.toList.map (·.2)).map λx=>(a.eval x).cells.toList).flatten/\∀v∈((parts.toList.map (·.2)).map λx=>(a.eval x).cells.toList).flatten,v.oneCell' = aa)
 (hk:K (V.sl .aW k l) st):o.wp P a E.w (dz E a o.dst K) Q:=by
 obtain⟨k1,k2,k3,k4,k5,k6⟩:=hf;obtain⟨i,zv,h1,h2,h3,h4⟩:=sr hz;have hlen:parts.toList.length=len:=by simpa using k1
 let ps:List (Nat × Value):=parts.toList.map λ(i,x)=>(i,a.eval x)
 have K5:ps.map (·.1)=List.range' 0 ps.length:=by
  have:ps.map (·.1)=parts.toList.map (·.1):=by simp[ps,vr]
  rw[this,hr,tU];congr 1;simp[ps];simpa using hlen.symm
 have K6:(ps.map λp=>p.2.cells.toList)=(parts.toList.map (·.2)).map λx=>(a.eval x).cells.toList:=by simp[ps,vr]
 have dj:∀p∈ps,p.2.cells.size=k:=λp hp=>by
  simp only[ps,vv] at hp;obtain⟨q,hq,rfl⟩:=hp;exact k3 q.2 (vv.2 ⟨q,hq,rfl⟩)
 have nX:ps.length=len:=by simp[ps];simpa using hlen
 have fill:∀cells:Array Value,cells.size=len*k->Instr.fill (λi=>U (i*k,k)) cells ps=U ((parts.toList.map (·.2)).map λx=>(a.eval x).cells.toList).flatten.toArray:=λcells hc=>by
  have:=JK ps 0 cells K5 dj (by rw[nX];simpa using hc)
  rw[this,K6];simp
 generalize rQ:((parts.toList.map (·.2)).map λx=>(a.eval x).cells.toList).flatten=news at fill k5 k6;refine Xj hs (w' := E.w.alloc (.cells news.toArray e)) (x:=.slice (U ⟨E.w.heap.size,0,ae⟩) len len) ((Ext.refl _).alloc _ _) ?_ ?_ hk
 .have iK:(zeroValue e).run P E.w = .ok zv E.w:=by simp[zeroValue,typeInfo,h1,h2]
  have DA:(parts.map λ(i,x)=>(i,a.eval x)).toList=ps:=by simp[ps]
  have xT : ¬(16777216<len*k):=by omega
  simp only[execOp,ho,Sem.run_bind];have key:(Instr.buildSlice t len (parts.map λ(i,x)=>(i,a.eval x))).run P E.w = .ok (.slice (U ⟨E.w.heap.size,0,ae⟩) len len) (E.w.alloc (.cells news.toArray e)):=by
   unfold Instr.buildSlice;simp only[Sem.run_bind,run_underlying ht,Result.andThen_ok,nh hn];rw[aB (by simpa using xT)];rw[DA]
   by_cases h0:len*k=0
   .rw[aD h0];simp only[Sem.run_bind,Sem.run_pure,Result.andThen_ok];rw[fill _ (by simp)];simp[newRow]
   .rw[aB h0];simp only[Sem.run_bind,iK,Result.andThen_ok,Sem.run_pure];rw[fill _ (by simp)];simp[newRow]
  rw[key];rfl
 .obtain⟨ba,_,_⟩:=Es hs ((Ext.refl E.w).alloc news.toArray e);have rP:(E.w.alloc (.cells news.toArray e)).heap[E.w.heap.size]?=U (.cells (news++[]).toArray e (0,0)):=by simpa using heap_alloc_new E.w (.cells news.toArray e)
  simp only[R,k2];refine⟨U ⟨E.w.heap.size,0,ae⟩,len,rfl,bL _,.inr ⟨_,_,rfl,?_⟩,rfl⟩;exact Fc (E' := {E with w:=E.w.alloc (.cells news.toArray e)}) k4 (RL.mono _ ba.nl k5) k6 rP (λj _=>by rw[show({E with w:=E.w.alloc (.cells news.toArray e)}:Env).aZ E.w.heap.size = .const from hs.ok.fresh _ (bL _)];trivial)
def ast(hs:bB E st a){len:Nat}{ys:List X}(ho:o.op = .buildSlice t len parts)(ht:P.underlying t=U (.slice e))(hn:dO P e=U k)(hz:jB P e=U z)
 (hl:iU P (aA len e) (parts.toList.map (·.2))=U ys) (hr:parts.toList.map (·.1)=cc len) (cD:len*k<=16777216)
 (hk:opt ((kY st k ys).map (V.sl .aW k)) (K2 K st)):o.wp P a E.w (dz E a o.dst K) Q:=by
 unfold opt K2 at hk;split at hk
 case h_2=>exact hk.elim
 rename_i v hv;simp only[cZ] at hv;obtain⟨l,hb,rfl⟩:=hv;exact Xf hs ho ht hn hz hr cD (VD (E:=E) hs.slot hl hb) hk
def LN(hs:RL E st.t a.tmps.toList){k:Nat}{e:TypeId}:∀{n:Nat} {xs:List Operand} {ys:List X} {l:List (List V)},iU P (aA n e) xs=U ys->x_ k (cW st ys)=U l ->
 xs.length=n/\l.length=n/\(∀x∈xs,(a.eval x).cells.size=k)/\(∀y∈l,y.length=k)/\RL E.nl l.flatten (xs.map λx=>(a.eval x).cells.toList).flatten/\∀v∈(xs.map λx=>(a.eval x).cells.toList).flatten,v.oneCell' = aa
 | 0, [], ys, l, h1, h2 => by
  simp only[List.replicate_zero,iU,aY] at h1;subst h1;simp only[cW,x_,aY] at h2;subst h2;simp[RL]
 | 0,_::_,ys,l,h1,h2=>by simp[iU] at h1
 | n+1,[],ys,l,h1,h2=>by simp[yR,iU] at h1
 | n + 1, x :: xs, ys, l, h1, h2 => by
  simp only[yR,iU,gV,cZ] at h1;obtain⟨y,hy,Xw,pE,rfl⟩:=h1;simp only[cW,x_] at h2;split at h2
  case isFalse=>simp at h2
  rename_i hc;simp only[cZ] at h2;obtain⟨l',gz,rfl⟩:=h2;obtain⟨k1,k2,k3,k4,k5,k6⟩:=LN hs pE gz;have hx:=mz (E:=E) (st:=st) (a:=a) hs hy;obtain⟨r1,r2⟩:=xc hx hc.1;have r3:=RL.n9 (E:=E) (E' := E.nl) _ (Env.le.refl E.nl) hc.2.1 r1;have r4:=yj r1 hc.2.2;refine⟨by simp[k1],by simp[k2],?_,?_,?_,?_⟩
  .simp only[eh];exact⟨r2,k3⟩
  .simp only[eh];exact⟨by have:=fC r1;simp at this;omega,k4⟩
  .simp only[kz,bX];exact tZ r3 k5
  .simp only[bX,kz];intro v hv
   rcases jE.1 hv with h | h
   .exact r4 v h
   .exact k6 v h
end
section
variable {P:Program} {E:Env} {st:St} {a:Act} {o:Oper} {K:V->St->Prop} {Q:Exit->Act->World->Prop}
def JD(s:List UInt8):(dc s).flatten=s.map λb=>V.int .u8 b.toNat:=by
 induction s with
 | nil=>rfl
 | cons b s ih=>simp only[dc,bX,kz] at ih ⊢;rw[ih];rfl
def O_{E:Env}:∀{s:List UInt8} {vs:List Value},RL E (s.map λb=>V.int .u8 b.toNat) vs->vs=(s.map λb=>(b.toNat:Int)).map (Value.int .u8)
 | [],[],_=>rfl
 | [],_::_,h=>by simp[RL] at h
 | _::_,[],h=>by simp[RL] at h
 | b :: s, v :: vs, h => by
  simp only[bX,RL,R] at h;simp only[bX];rw[h.1,O_ h.2]
def MY:∀(s:List UInt8) (r:List UInt8),(s.map λb=>(b.toNat:Int)).foldl (λ(r:ByteArray) n=>r.push (UInt8.ofNat n.toNat)) ⟨r.toArray⟩=⟨(r++s).toArray⟩
 | [],r=>by simp
 | b :: s, r => by
  have e:(⟨r.toArray⟩:ByteArray).push (UInt8.ofNat ((b.toNat:Int)).toNat)=⟨(r++[b]).toArray⟩:=by
   apply ByteArray.ext;simp[ByteArray.push]
  simp only[bX,yO,e,MY s (r++[b])];simp
def asw(hs:bB E st a){src dst:TypeId}(ho:o.op = .convert src dst x)(h1:P.underlying src=U (.slice e))(h2:P.underlying dst=U .string)(h3:P.underlying e=U (.int .u8))(hx:R E v (a.eval x))
 (hk:∃t s,v = .sl t 1 (dc s)/\K (.aF s) st):o.wp P a E.w (dz E a o.dst K) Q:=by
 obtain⟨t,s,rfl,hk⟩:=hk;simp only[R] at hx;obtain⟨base,cap,hv,_,lv,_⟩:=hx;refine cP hs (v:=.aF s) (x:=.string ⟨s.toArray⟩) ?_ (by simp only[R]) hk;have key:(Conv.bytesToString (a.eval x)).run P E.w = .ok (.string ⟨s.toArray⟩) E.w:=by
  rw[hv]
  rcases lv with h | ⟨b,off,rfl,hr⟩
  .have GN:s=[]:=by simpa [dc] using h
   subst GN;cases base with
   | none=>simp[Conv.bytesToString];rfl
   | some ad =>
    have:=run_bytesToString (P:=P) E.w ad 0 cap [] (by simp[loadCells,loadCellsFrom])
    simp[dc] at this ⊢;exact this
  .obtain⟨_,h5⟩:=qz.1 hr;obtain⟨vs,k1,k2,_,_⟩:=Fb h5;rw[JD] at k1;have e1:=O_ k1;have hl:vs.length=(dc s).length:=by rw[e1];simp[dc]
   have hc:=run_loadCells_list (P:=P) E.w ⟨b,off,ae⟩ vs (λj u hu=>by rw[lh];exact k2 j u hu);rw[hl,e1] at hc
   have:=run_bytesToString (P:=P) E.w ⟨b,off,ae⟩ (dc s).length cap _ hc
   rw[this];have hp:=MY s [];simp only[fY] at hp;exact gX (λz=>Result.ok (Value.string z) E.w) hp
 rw[hv] at key;simp only[execOp,ho,Sem.run_bind,hv,run_convert_bytes_string E.w src dst e base _ cap h1 h3 h2,key,Result.andThen_ok,Sem.run_pure]
def XW{E:Env}{b o m n:Nat}(h:fK E k l b o)(sU:m<=n)(hn:n<=l.length):fK E k ((l.take n).drop m) b (o+m*k):=by
 obtain⟨h1,h2⟩:=qz.1 h;refine qz.2 ⟨λx hx=>h1 x (AU (List.mem_of_mem_drop hx)),?_⟩;have e:l=(l.take n).take m++((l.take n).drop m++l.drop n):=by
  rw[<-dZ,qy,qy]
 rw[e,tS,tS,xa,xa] at h2;have hl:((l.take n).take m).flatten.length=m*k:=by
  rw[mm (λx hx=>h1 x (AU (AU hx)))];simp only[iP];congr 1;omega
 rw[hl] at h2;exact h2.2.1
def lH{E:Env}(hs:RL E st.t a.tmps.toList){x:Option Operand}{y:Option X}(h:kn P t x=U y):
 (x=ae/\y=ae)\/∃u v,x=U u/\y=U v/\R E (ev st v) (a.eval u):=by
 cases x with
 | none=>simp only[kn,aY] at h;exact .inl ⟨rfl,h.symm⟩
 | some x =>
  simp only[kn,cZ] at h;obtain⟨v,hv,rfl⟩:=h;exact .inr ⟨x,v,rfl,rfl,mz hs hv⟩
def qo{j:IntKind}{n y:Nat}{c:BoundsCode}(h:n<=y):(Instr.sliceBound (.int j n) y c).run P w = .ok n w:=by
 simp[Instr.sliceBound,asIntOf,h]
def Rs(hs:bB E st a){Z:Nat}{v:Value}(ht:st.out.aJ Z=U l.length)(h:R E (.sl .aW k l) v):R E (.sl (.tk Z) k l) v:=by
 simp only[R] at h ⊢;obtain⟨ad,cap,h1,h2,h3,h4⟩:=h;exact⟨ad,cap,h1,h2,h3,l.length,hs.ok.aJ Z _ ht,bL _,λ_=>.inl h4⟩
variable{c_ mx' my:Option X}{hi mx:Option Operand}
def Ns{lo:Option Operand}(hs:bB E st a)(h1:kn P t lo=U my)(h2:kn P t hi=U c_)(h3:kn P t mx=U mx')(uL:mx'.isSome=aa->c_.isSome=aa){len n M:Nat}
 (dB:match (generalizing:=false) my with | none=>m=0 | some y=>∃j,ev st y = .int j m) (mr:match (generalizing:=false) c_ with | none=>n=len | some y=>∃j,ev st y = .int j n) (hM:match (generalizing:=false) mx' with | none=>M=cap | some y=>∃j,ev st y = .int j M)
 (sU:m<=n) (hnM:n<=M) (Ka:M<=cap):(Instr.sliceBounds aa len cap (lo.map a.eval) (hi.map a.eval) (mx.map a.eval)).run P E.w = .ok (m,n,M) E.w:=by
 have e1:∀c,(match (lo.map a.eval:Option Value) with | some v=>Instr.sliceBound v n c | none=>pure 0:Sem Nat).run P E.w = .ok m E.w:=λc=>by
  rcases lH (E:=E) hs.slot h1 with ⟨rfl,rfl⟩ | ⟨u,v,rfl,rfl,hr⟩
  .simp only at dB;subst dB;simp
  .obtain⟨j,hj⟩:=dB;rw[hj] at hr;simp only[R] at hr;simp only[vC,hr];exact qo sU
 rcases lH (E:=E) hs.slot h3 with ⟨rfl,rfl⟩ | ⟨u3,v3,rfl,rfl,zE⟩
 .simp only at hM;subst hM
  rcases lH (E:=E) hs.slot h2 with ⟨rfl,rfl⟩ | ⟨u,v,rfl,rfl,hr⟩
  .simp only at mr;subst mr
   have:=e1 .sliceB
   rcases lH (E:=E) hs.slot h1 with ⟨rfl,rfl⟩ | ⟨u',v',rfl,rfl,cg⟩<;>simp[Instr.sliceBounds] at this ⊢
   .exact this
   .simp[this]
  .obtain⟨j,hj⟩:=mr;rw[hj] at hr;simp only[R] at hr
   have:=e1 .sliceB
   have e2:=qo (P:=P) (w:=E.w) (j:=j) (c:=.sliceAcap) (show n<=M by omega)
   rcases lH (E:=E) hs.slot h1 with ⟨rfl,rfl⟩ | ⟨u',v',rfl,rfl,cg⟩<;>simp[Instr.sliceBounds,hr,e2] at this ⊢
   .exact this
   .simp[this]
 .obtain⟨j3,KO⟩:=hM;rw[KO] at zE;simp only[R] at zE;have e3:=qo (P:=P) (w:=E.w) (j:=j3) (c:=.slice3Acap) Ka
  rcases lH (E:=E) hs.slot h2 with ⟨rfl,rfl⟩ | ⟨u,v,rfl,rfl,hr⟩
  .simp at uL
  .obtain⟨j,hj⟩:=mr;rw[hj] at hr;simp only[R] at hr
   have:=e1 .slice3C
   have e2:=qo (P:=P) (w:=E.w) (j:=j) (c:=.slice3B) hnM
   rcases lH (E:=E) hs.slot h1 with ⟨rfl,rfl⟩ | ⟨u',v',rfl,rfl,cg⟩<;>simp[Instr.sliceBounds,hr,zE,e2,e3] at this ⊢
   .exact this
   .simp[this]
variable{vx:V}
def asM(hs:bB E st a){lo:Option Operand}(ho:o.op = .slice t x lo hi mx)(ht:P.underlying t=U (.slice e))(hn:dO P e=U k)
 (hx:R E vx (a.eval x)) (h1:kn P t lo=U my) (h2:kn P t hi=U c_) (h3:kn P t mx=U mx') (uL:mx'.isSome=aa->c_.isSome=aa)
 (hk:∃t l m n,vx = .sl t k l/\m<=n/\n<=l.length/\(match (generalizing:=false) my with | none=>m=0 | some y=>∃j,ev st y = .int j m)/\(match (generalizing:=false) c_ with | none=>n=l.length | some y=>∃j,ev st y = .int j n) /\
   match (generalizing:=false) mx' with
   | none=>K (.sl .no k ((l.take n).drop m)) st
   | some y=>(∃j,ev st y = .int j n)/\K (.sl .aW k ((l.take n).drop m)) st):o.wp P a E.w (dz E a o.dst K) Q:=by
 obtain⟨tk,l,m,n,rfl,sU,qg,dB,mr,hk⟩:=hk;simp only[R] at hx;obtain⟨base,cap,hv,zt,lv,_⟩:=hx;have key:∀M:Nat,n<=M->M<=cap->(mx' = ae->M=cap)->(mx'.isSome=aa->M=n)->(Instr.sliceBounds aa l.length cap (lo.map a.eval) (hi.map a.eval) (mx.map a.eval)).run P E.w = .ok (m,n,M) E.w:=λM hM Ka hM1 hM2=>by
  have e1:∀c,(match (lo.map a.eval:Option Value) with | some v=>Instr.sliceBound v n c | none=>pure 0:Sem Nat).run P E.w = .ok m E.w:=λc=>by
   rcases lH (E:=E) hs.slot h1 with ⟨rfl,rfl⟩ | ⟨u,v,rfl,rfl,hr⟩
   .simp only at dB;subst dB;simp
   .obtain⟨j,hj⟩:=dB;rw[hj] at hr;simp only[R] at hr;simp only[vC,hr];exact qo sU
  rcases lH (E:=E) hs.slot h3 with ⟨rfl,rfl⟩ | ⟨u3,v3,rfl,rfl,zE⟩
  .obtain rfl:=hM1 rfl
   rcases lH (E:=E) hs.slot h2 with ⟨rfl,rfl⟩ | ⟨u,v,rfl,rfl,hr⟩
   .simp only at mr;subst mr
    have:=e1 .sliceB
    rcases lH (E:=E) hs.slot h1 with ⟨rfl,rfl⟩ | ⟨u',v',rfl,rfl,cg⟩<;>simp[Instr.sliceBounds] at this ⊢
    .exact this
    .simp[this]
   .obtain⟨j,hj⟩:=mr;rw[hj] at hr;simp only[R] at hr
    have:=e1 .sliceB
    have e2:=qo (P:=P) (w:=E.w) (j:=j) (c:=.sliceAcap) (show n<=M by omega)
    rcases lH (E:=E) hs.slot h1 with ⟨rfl,rfl⟩ | ⟨u',v',rfl,rfl,cg⟩<;>simp[Instr.sliceBounds,hr,e2] at this ⊢
    .exact this
    .simp[this]
  .obtain rfl:=hM2 rfl;simp only at hk;obtain⟨⟨j3,KO⟩,hk⟩:=hk;rw[KO] at zE;simp only[R] at zE;have e3:=qo (P:=P) (w:=E.w) (j:=j3) (c:=.slice3Acap) Ka
   rcases lH (E:=E) hs.slot h2 with ⟨rfl,rfl⟩ | ⟨u,v,rfl,rfl,hr⟩
   .simp at uL
   .obtain⟨j,hj⟩:=mr;rw[hj] at hr;simp only[R] at hr
    have:=e1 .slice3C
    have e2:=qo (P:=P) (w:=E.w) (j:=j) (c:=.slice3B) (bL M)
    rcases lH (E:=E) hs.slot h1 with ⟨rfl,rfl⟩ | ⟨u',v',rfl,rfl,cg⟩<;>simp[Instr.sliceBounds,hr,zE,e2,e3] at this ⊢
    .exact this
    .simp[this]
 have run:∀M:Nat,n<=M->M<=cap->(mx' = ae->M=cap)->(mx'.isSome=aa->M=n)->(execOp a.eval o).run P E.w = .ok (.value (.slice (if M=m then base else base.map (·.add (m*k))) (n - m) (M - m))) E.w:=λM h1 h2 h3 h4=>by
  simp only[execOp,ho,Sem.run_bind,hv];simp[Instr.sliceAt,run_underlying ht,Instr.slice,key M h1 h2 h3 h4,nh hn]
 have val:∀M kx,n<=M->M<=cap->(kx = Tk.no\/(kx = Tk.aW/\M=n))->R E (.sl kx k ((l.take n).drop m)) (.slice (if M=m then base else base.map (·.add (m*k))) (n - m) (M - m)):=λM kx h1 h2 h3=>by
  have hlen:((l.take n).drop m).length=n - m:=by simp;omega
  simp only[R,hlen];refine⟨_,_,rfl,by omega,?_,?_⟩
  .rcases vA m n with az | qe
   .right
    rcases lv with h | ⟨b,off,rfl,hr⟩
    .subst h;simp at qg;omega
    .refine⟨b,off+m*k,?_,XW hr sU qg⟩;rw[aB (by omega)];simp[lh]
   .left;exact su (by omega)
  .rcases h3 with rfl | ⟨rfl,rfl⟩
   .trivial
   .rfl
 cases mx' with
 | none=>exact cP hs (run cap (by omega) (bL _) (λ_=>rfl) (λh=>by simp at h)) (val cap .no (by omega) (bL _) (.inl rfl)) hk
 | some y=>exact cP hs (run n (bL _) (by omega) (λh=>by simp at h) (λ_=>rfl)) (val n .aW (bL _) (by omega) (.inr ⟨rfl,rfl⟩)) hk.2
def asL(hs:bB E st a){lo:Option Operand}(ho:o.op = .slice t x lo hi ae)(ht:P.underlying t=U .string)
 (hx:R E vx (a.eval x)) (h1:kn P t lo=U my) (h2:kn P t hi=U c_)
 (hk:∃s m n,vx = .aF s/\m<=n/\n<=s.length/\(match (generalizing:=false) my with | none=>m=0 | some y=>∃j,ev st y = .int j m)/\(match (generalizing:=false) c_ with | none=>n=s.length | some y=>∃j,ev st y = .int j n)/\K (.aF ((s.take n).drop m)) st) :
 o.wp P a E.w (dz E a o.dst K) Q:=by
 obtain⟨s,m,n,rfl,sU,qg,dB,mr,hk⟩:=hk;simp only[R] at hx;have cD:(⟨s.toArray⟩:ByteArray).size=s.length:=by simp[ByteArray.size]
 have key:(Instr.sliceBounds ak s.length s.length (lo.map a.eval) (hi.map a.eval) ae).run P E.w = .ok (m,n,s.length) E.w:=by
  rcases lH (E:=E) hs.slot h2 with ⟨rfl,rfl⟩ | ⟨u,v,rfl,rfl,hr⟩
  .simp only at mr;subst mr
   rcases lH (E:=E) hs.slot h1 with ⟨rfl,rfl⟩ | ⟨u',v',rfl,rfl,cg⟩
   .simp only at dB;subst dB;simp[Instr.sliceBounds]
   .obtain⟨j',gI⟩:=dB;rw[gI] at cg;simp only[R] at cg;have e2:=qo (P:=P) (w:=E.w) (j:=j') (c:=.sliceB) sU;simp[Instr.sliceBounds,cg,e2]
  .obtain⟨j,hj⟩:=mr;rw[hj] at hr;simp only[R] at hr;have e2:=qo (P:=P) (w:=E.w) (j:=j) (c:=.sliceAlen) qg
   rcases lH (E:=E) hs.slot h1 with ⟨rfl,rfl⟩ | ⟨u',v',rfl,rfl,cg⟩
   .simp only at dB;subst dB;simp[Instr.sliceBounds,hr,e2]
   .obtain⟨j',gI⟩:=dB;rw[gI] at cg;simp only[R] at cg;have e3:=qo (P:=P) (w:=E.w) (j:=j') (c:=.sliceB) sU;simp[Instr.sliceBounds,hr,cg,e2,e3]
 refine cP hs (v:=.aF ((s.take n).drop m)) (x:=.string ⟨((s.take n).drop m).toArray⟩) ?_ (by simp only[R]) hk;have he:(⟨s.toArray⟩:ByteArray).extract m n=⟨((s.take n).drop m).toArray⟩:=by
  apply ByteArray.ext;rw[ByteArray.data_extract];apply Cj;simp[IE]
 simp only[execOp,ho,Sem.run_bind,hx];simp[Instr.sliceAt,run_underlying ht,Instr.slice,cD,key,he]
def Wz(hu:P.underlying u=U .string)(s:List UInt8):
 ∃news,Src P w 1 (dc s).length u (.string ⟨s.toArray⟩) news/\RL E (dc s).flatten news/\(∀v∈news,v.oneCell' = aa)/\∀y∈dc s,y.length=1:=by
 have cD:(⟨s.toArray⟩:ByteArray).size=s.length:=by simp[ByteArray.size]
 have hx:((⟨s.toArray⟩:ByteArray).extract 0 s.length).data.map (λb:UInt8=>Value.int .u8 (b.toNat:Int))=(s.map λb:UInt8=>Value.int .u8 (b.toNat:Int)).toArray:=by
  apply Cj;rw[ByteArray.data_extract];simp
 refine⟨s.map λb=>Value.int .u8 b.toNat,⟨⟨_,hu,λ_ h=>by simp at h⟩,λw' => by simp[Builtin.lenOf,cD,dc],?_,?_,by simp[dc]⟩,?_,?_,?_⟩
 .simp only[Builtin.firstCells,dc,aO,hx,Sem.run_pure]
 .simp only[Builtin.firstCells,dc,aO,hx,Sem.run_pure]
 .rw[JD];induction s with
  | nil=>simp[RL]
  | cons b s ih=>simp only[bX,RL,R];exact⟨trivial,by
   clear cD hx ih;induction s with
   | nil=>simp[RL]
   | cons c s ih=>simp only[bX,RL,R];exact⟨trivial,ih⟩⟩
 .intro v hv;simp only[vv] at hv;obtain⟨b,_,rfl⟩:=hv;rfl
 .intro y hy;simp only[dc,vv] at hy;obtain⟨b,_,rfl⟩:=hy;rfl
def D3{ao:aG}(hl:yf P o=U ao)(hs:bB E st a)(h:ao.a7 P st K):o.wp P a E.w (dz E a o.dst K) Q:=by
 have X:=λ{t:TypeId} {x:Operand} {y:X} (hx:cu P t x=U y)=>mz (E:=E) (st:=st) (a:=a) hs.slot hx
 have XS:=λ{ts:List TypeId} {xs:List Operand} {ys:List Go.Am.X} (hx:iU P ts xs=U ys)=>Mg (E:=E) (st:=st) (a:=a) hs.slot hx
 unfold yf at hl;split at hl
 .rename_i x ho;simp only[cZ] at hl;obtain⟨y,hy,rfl⟩:=hl;exact Xk hs (.inl ho) (X hy) h
 .rename_i x ho;simp only[cZ] at hl;obtain⟨y,hy,rfl⟩:=hl;exact Xk hs (.inr ho) (X hy) h
 .rename_i c x y ho;split at hl
  case h_2=>simp at hl
  rename_i h1 h2 h3;simp only[aY] at hl;subst hl;exact asK hs ho (X h1) (X h2) (X h3) h
 .rename_i t ho;simp only[cZ] at hl;obtain⟨z,hz,rfl⟩:=hl;exact asn hs ho hz h
 .rename_i t x ho;split at hl
  case h_2=>simp at hl
  rename_i h1 h2;simp only[aY] at hl;subst hl;exact asr hs ho (X h2) h.1 h.2
 .rename_i t ps ho;split at hl
  .rename_i z fs hz hu;split at hl
   case isFalse=>simp at hl
   rename_i dj;simp only[cZ] at hl;obtain⟨U8,hp,rfl⟩:=hl;exact wp_build hs ho hz (.inl ⟨fs,hu,dj,rfl⟩) hp h
  .rename_i z k e hz hu;split at hl
   case isFalse=>simp at hl
   rename_i dj;simp only[cZ] at hl;obtain⟨U8,hp,rfl⟩:=hl;exact wp_build hs ho hz (.inr ⟨k,e,hu,dj,rfl⟩) hp h
  .simp at hl
 .rename_i t len ps ho;split at hl
  case h_2=>simp at hl
  rename_i e hu;split at hl
  case h_2=>simp at hl
  rename_i k z xs h1 h2 h3;split at hl
  case isFalse=>simp at hl
  rename_i hc;simp only[aY] at hl;subst hl;exact ast hs ho hu h1 h2 h3 hc.1 hc.2.1 h
 .rename_i t x ho;split at hl
  case h_2=>simp at hl
  rename_i h1 h2 h3;simp only[aY] at hl;subst hl;exact asG hs ho h1 h2 (X h3) h
 .rename_i t x y ho;split at hl
  case h_2=>simp at hl
  rename_i n ax ay h1 h2 h3;split at hl
  .simp at hl
  rename_i BC;simp only[aY] at hl;subst hl;simp only[aG.a7] at h;split at h
  case h_2=>exact h.elim
  rename_i aH dV;exact Xn hs (Nat.pos_of_ne_zero BC) ho h1 (X h2) (X h3) dV h
 .rename_i x ho;simp only[cZ] at hl;obtain⟨y,hy,rfl⟩:=hl;exact asI hs ho (X hy) h
 .rename_i op t x y t' ho;split at hl
  case h_2=>simp at hl
  rename_i ax ay h1 h2;split at hl
  .simp only[aY] at hl;subst hl;exact asp hs ho (X h1) (X h2) h
  .split at hl
   .simp only[aY] at hl;subst hl;exact asv hs ho (X h1) (X h2) h
   .simp only[aY] at hl;subst hl;exact asq hs ho (X h1) (X h2) h
  .rename_i hu;split at hl
   .simp only[aY] at hl;subst hl;exact Xe hs (neg:=false) rfl hu ho (X h1) (X h2) h
   .simp only[aY] at hl;subst hl;exact Xe hs (neg:=true) rfl hu ho (X h1) (X h2) h
   .simp at hl
  .rename_i fs hu;split at hl
   case h_2=>simp at hl
   rename_i ks fM;split at hl
   .simp only[aY] at hl;subst hl;exact Io hs (neg:=false) rfl fM ho (by simp[gG,hu]) (X h1) (X h2) h
   .simp only[aY] at hl;subst hl;exact Io hs (neg:=true) rfl fM ho (by simp[gG,hu]) (X h1) (X h2) h
   .simp at hl
  .rename_i fs e hu;split at hl
   case h_2=>simp at hl
   rename_i ks fM;split at hl
   .simp only[aY] at hl;subst hl;exact Io hs (neg:=false) rfl fM ho (by simp[gG,hu]) (X h1) (X h2) h
   .simp only[aY] at hl;subst hl;exact Io hs (neg:=true) rfl fM ho (by simp[gG,hu]) (X h1) (X h2) h
   .simp at hl
  .simp at hl
 .rename_i t x ho;simp only[cZ] at hl;obtain⟨y,hy,rfl⟩:=hl;exact asJ hs ho (X hy) h
 .rename_i src dst x ho;split at hl
  .rename_i h1 h2 h3;simp only[aY] at hl;subst hl;exact asx hs ho h1 h2 (X h3) h
  .rename_i h1 h2 h3;split at hl
   case h_2=>simp at hl
   rename_i h4;simp only[aY] at hl;subst hl;exact asw hs ho h1 h2 h4 (X h3) h
  .simp at hl
 .rename_i f first cap ho
  split at hl
  case h_2=>simp at hl
  rename_i h1 h2;simp only[aY] at hl;subst hl;exact asH hs ho (XS h1) (XS h2) h
 .rename_i t x lo hi mx ho;split at hl
  case h_2=>simp at hl
  rename_i h1 h2 h3 h4;split at hl
  .rename_i e hu;split at hl
   case h_2=>simp at hl
   rename_i k hk;split at hl
   case isFalse=>simp at hl
   rename_i uL;simp only[aY] at hl;subst hl;simp only[aG.a7] at h
   rcases h with h | ⟨base,n,cap,m,hh,e1,k1,k2,g1,g2,g3,hK⟩
   .exact asM hs ho hu hk (X h1) h2 h3 h4 uL h
   .have fH:=X h1;rw[e1] at fH;simp only[R] at fH;rename_i mx' _ _;have g3:mx' = none:=by cases mx' with | none=>rfl | some _=>simp at g3
    subst g3;have hb:=Ns (P:=P) (M:=cap) hs h2 h3 h4 uL g1 g2 rfl k1 k2 (bL _);refine cP hs (v:=.raw _) (x:=.slice (if cap=m then base else base.map (·.add (m*k))) (hh - m) (cap - m)) ?_ (by simp only[R]) hK;simp only[execOp,ho,Sem.run_bind,fH];simp[Instr.sliceAt,run_underlying hu,Instr.slice,hb,nh hk]
  .rename_i hu;split at hl
   case h_2=>simp at hl
   simp only[aY] at hl;subst hl;have uL:mx=none:=by cases mx with | none=>rfl | some m=>simp[kn] at h4
   subst uL;exact asL hs ho hu (X h1) h2 h3 h
  .simp at hl
 .rename_i s x i ho;split at hl
  case h_2=>simp at hl
  rename_i fs y h1 h2;split at hl
  case h_2=>simp at hl
  rename_i f hf;split at hl
  case h_2=>simp at hl
  rename_i n hn;split at hl
  .simp at hl
  rename_i BC;simp only[aY] at hl;subst hl;exact asz hs ho h1 hf hn BC (X h2) h
 .rename_i s x i ho;split at hl
  case h_2=>simp at hl
  rename_i fs y h1 h2;split at hl
  case h_2=>simp at hl
  rename_i f hf;split at hl
  case h_2=>simp at hl
  rename_i g n hg hn;simp only[aY] at hl;subst hl;exact asA hs ho h1 hf hg hn (X h2) h
 .rename_i t x i ho;split at hl
  case h_3=>simp at hl
  case h_1 =>
   rename_i e ax ai h1 h2 h3;simp only[cZ] at hl;obtain⟨k,hk,rfl⟩:=hl;exact asB hs ho h1 hk (X h2) (X h3) h
  case h_2 =>
   rename_i m e ax ai h1 h2 h3;simp only[cZ] at hl;obtain⟨k,hk,rfl⟩:=hl;exact asC hs ho h1 hk (X h2) (X h3) h
 .rename_i t x i ho;split at hl
  case h_2=>simp at hl
  rename_i ax ai h1 h2 h3;simp only[aY] at hl;subst hl;exact asD hs ho h1 (X h2) (X h3) h
 .rename_i x i ho;simp only[cZ] at hl;obtain⟨y,hy,rfl⟩:=hl;exact asy hs ho (X hy) h
 .rename_i c ho;obtain⟨callee,args,argTypes⟩:=c;simp only at hl;split at hl
  .rename_i f;simp only[cZ] at hl;obtain⟨ys,pE,rfl⟩:=hl;refine Xg hs (vs:=args.map a.eval) (by simpa using XS pE) h.1 h.2 ?_;simp[execOp,ho,resolve,Act.eval,Deferred.ofValue,invoke]
  .rename_i x;split at hl
   case h_2=>simp at hl
   rename_i y ys h1 h2;simp only[aY] at hl;subst hl;have hx:=X h1;simp only[aG.a7] at h;split at h
   case h_2=>exact h.elim
   rename_i f as bs KF;rw[KF] at hx;simp only[R] at hx;obtain⟨fs,cs,he,r1,r2⟩:=hx;refine Xg hs (vs:=fs++args.map a.eval++cs) (by simpa using tZ (tZ r1 (XS h2)) r2) h.1 h.2 ?_;simp[execOp,ho,resolve,he,Deferred.ofValue,invoke]
  .split at hl
   case h_2=>simp at hl
   rename_i t x ht hx;have e1:argTypes=#[t]:=by cases argTypes;simpa using ht
   have e2:args=#[x]:=by cases args;simpa using hx
   subst e1;subst e2;split at hl
   .rename_i e y hu hy;simp only[aY] at hl;subst hl;exact asE hs ho hu (X hy) h
   .rename_i y hu hy;simp only[aY] at hl;subst hl;exact asF hs ho hu (X hy) h
   .simp at hl
  .split at hl
   case h_2=>simp at hl
   rename_i t u s x ht hx;have e1:argTypes=#[t,u]:=by cases argTypes;simpa using ht
   have e2:args=#[s,x]:=by cases args;simpa using hx
   subst e1;subst e2;have cS:(execOp a.eval o).run P E.w=((Builtin.append_ #[t,u] o.type #[a.eval s,a.eval x]).run P E.w).andThen λv w' => .ok (.value v) w' := by
    simp[execOp,ho,resolve,invoke,builtin]
   split at hl
   .rename_i e e' ys yx h1 h2 h3 h4;split at hl
    case h_2=>simp at hl
    rename_i i z hi hz;split at hl
    case isFalse=>simp at hl
    rename_i hc;obtain⟨rfl,mo,iJ⟩:=hc;simp only[aY] at hl;subst hl;obtain⟨i',zv,k1,k2,k3,k4⟩:=sr hz;rw[hi] at k1;simp only[aY] at k1;subst k1;have iK:zv.cells.size=i.size:=by have:=fC (qH (E:=E) k3);simp at this;omega
    simp only[aG.a7,pT] at h;obtain⟨tk,l,m,es,⟨t',ex⟩,jO,hk⟩:=h;have hS:=X h3;have hX:=X h4;rw[es] at hS;rw[ex] at hX;obtain⟨news,q1,q2,q3,q4⟩:=H2 (P:=P) h2 hX;cases tk with
    | no=>exact hk.elim
    | tk Z=>exact EI hs h1 hi k2 iK mo cS hS q1 q2 q3 q4 jO hk
    | aW =>
     rcases hk with hk | hk | ⟨Z,h5,h6⟩
     .exact EI hs h1 hi k2 iK mo cS hS q1 q2 q3 q4 jO (.inl hk)
     .exact EI hs h1 hi k2 iK mo cS hS q1 q2 q3 q4 jO (.inr hk)
     .exact EI hs h1 hi k2 iK mo cS (tk:=.tk Z) (Rs hs h5 hS) q1 q2 q3 q4 jO ⟨h5,h6⟩
   .rename_i e ys yx h1 h2 h3 h4;split at hl
    case h_2=>simp at hl
    rename_i i z hi hz;split at hl
    case h_2=>simp at hl
    split at hl
    case isFalse=>simp at hl
    rename_i hc;simp only[aY] at hl;subst hl;obtain⟨i',zv,k1,k2,k3,k4⟩:=sr hz;rw[hi] at k1;simp only[aY] at k1;subst k1;have iK:zv.cells.size=i.size:=by have:=fC (qH (E:=E) k3);simp at this;omega
    simp only[aG.a7,pT] at h;obtain⟨s',ex,tk,l,m,es,⟨t',em⟩,jO,hk⟩:=h;simp only[V.sl.injEq,qt] at em;obtain⟨_,rfl⟩:=em;have hS:=X h3;have hX:=X h4;rw[es] at hS;rw[ex] at hX;simp only[R] at hX;obtain⟨news,q1,q2,q3,q4⟩:=Wz (P:=P) (E:=E.nl) (w:=E.w) h2 s';have Gd:i.size=1:=hc.1;have fin:∀tk,R E (.sl tk 1 l) (a.eval s)->(match (generalizing:=false) tk with
     | .aW=>(∀Z,st.out.aJ Z=ae->K (.sl (.tk Z) 1 (l++dc s')) ⟨st.t,st.aC,st.out.aR Z (l.length+(dc s').length)⟩)\/K (.sl .no 1 (l++dc s')) st
     | .tk Z=>st.out.aJ Z=U l.length/\K (.sl (.tk Z) 1 (l++dc s')) ⟨st.t,st.aC,st.out.aR Z (l.length+(dc s').length)⟩
     | .no=>False)->o.wp P a E.w (dz E a o.dst K) Q:=λtk hS hk=>by
     refine EI hs h1 hi k2 iK (by omega) cS (tk:=tk) (l:=l) (m:=dc s') (news:=news) (by rw[Gd];exact hS) (by rw[Gd,hX];exact q1) q2 q3 (by rw[Gd];exact q4) jO ?_;rw[Gd];exact hk
    cases tk with
    | no=>exact hk.elim
    | tk Z=>exact fin _ hS hk
    | aW =>
     rcases hk with hk | hk | ⟨Z,h5,h6⟩
     .exact fin _ hS (.inl hk)
     .exact fin _ hS (.inr hk)
     .exact fin (.tk Z) (Rs hs h5 hS) ⟨h5,h6⟩
   .simp at hl
  .simp at hl
 .simp at hl
end
def X.slot:X->List Nat
 | .s n=>[n]
 | .c _=>[]
def sa:Option X->List X
 | none=>[]
 | some x=>[x]
def aG.xs:aG->List X
 | .mv x | .box _ x | .ug _ x | .fZ _ x | .load _ _ x | .uX x | .not x | .uS x | .uT x | .nM _ x | .uy _ _ _ x | .ext x _ | .pn _ x | .sF x=>[x]
 | .pick c a b=>[c,a,b]
 | .alloc _ | .pe _=>[]
 | .build _ ps=>ps.map (·.2.2)
 | .j9 _ xs | .call _ xs | .own _ xs=>xs
 | .store _ a x | .eD _ a x | .nD _ a x | .vI _ a x | .cat a x | .jf _ _ a x | .rF _ a x | .rZ _ a x | .sV a x | .qZ _ _ a x | .app _ a x | .mj a x=>[a,x]
 | .ij x xs=>x::xs
 | .kv _ x lo hi mx=>x::(sa lo++sa hi++sa mx)
 | .yy x lo hi=>x::(sa lo++sa hi)
 | .jx _ first cap=>first++cap
def aG.bf:aG->Bool
 | .alloc _ | .box _ _ | .ug _ _ | .pe _ | .fZ _ _ | .store _ _ _ | .call _ _ | .ij _ _ | .app _ _ _ | .mj _ _=>aa
 | .own q _=>!q.pure
 | _=>ak
def aG.BO:aG->Bool
 | .load _ _ _=>aa
 | _=>ak
abbrev c7:=List (List V) × ag
def bV(t:List V)(s:c7):St:=⟨t,s.1,s.2⟩
def Exact(t:List V)(v:V)(s:c7):V->St->Prop:=λv' aH => v' = v/\aH = bV t s
variable{s:c7}
def ac_{t t2:List V}{s2:c7}{x:X}(h:∀n∈x.slot,t2.getD n .any=t.getD n .any):ev (bV t2 s2) x=ev (bV t s) x:=by
 cases x with
 | s n=>exact h n (by simp[X.slot])
 | c v=>rfl
def Bf{t t2:List V}{s s2:c7}:∀{xs:List X},(∀x∈xs,ev (bV t2 s2) x=ev (bV t s) x)->cW (bV t2 s2) xs=cW (bV t s) xs
 | [],_=>rfl
 | x :: xs, h => by
  simp only[eh] at h;simp only[cW,h.1,Bf h.2]
def PT{t t2:List V}{s s2:c7}:∀{ps:List (Nat × Nat × X)} {z:List V},(∀x∈ps.map (·.2.2),ev (bV t2 s2) x=ev (bV t s) x)->nG (bV t2 s2) z ps=nG (bV t s) z ps
 | [],_,_=>rfl
 | (off, n, x) :: ps, z, h => by
  simp only[bX,eh] at h;simp only[nG,h.1,PT h.2]
def VE{t t2:List V}{s s2:c7}{k:Nat}:∀{xs:List X},(∀x∈xs,ev (bV t2 s2) x=ev (bV t s) x)->kY (bV t2 s2) k xs=kY (bV t s) k xs
 | [],_=>rfl
 | x :: xs, h => by
  simp only[eh] at h;simp only[kY,h.1,VE h.2]
def rb(s:c7)(g:Bool)(n:Nat)(a:V):Option V:=kR (bV [] s) g n a
variable{g:Bool}
def Tp{t:List V}{n:Nat}{a:V}:kR (bV t s) g n a=rb s g n a:=by
 unfold rb;cases a<;>simp only[kR];rename_i p o;cases p<;>rfl
def mk_inj{t:List V}{A:List (List V)}{B:ag}(h:(⟨t,A,B⟩:St)=bV t s):s=(A,B):=by
 have:=gX (λq:St=>(q.aC,q.out)) h
 exact this.symm
section
variable {P:Program}
def apV{op:aG}{t t2:List V}{s2 s':c7}(hx:∀x∈op.xs,ev (bV t2 s2) x=ev (bV t s) x)(sN:op.bf=aa->s2=s)
 (v9:∀g n x,op = .load g n x->rb s2 g n (ev (bV t s) x)=U v) (h:op.a7 P (bV t s) (Exact t v s')) :
 op.a7 P (bV t2 s2) (Exact t2 v (if op.bf then s' else s2)):=by
 cases op with
 | mv x =>
  simp only[aG.xs,eh] at hx;simp only[aG.a7,Exact] at h ⊢;exact⟨by rw[hx.1];exact h.1,rfl⟩
 | pick c a b =>
  simp only[aG.xs,eh] at hx;simp only[aG.a7] at h ⊢;rw[hx.1,hx.2.1,hx.2.2.1];split at h
  .exact⟨h.1,rfl⟩
  .exact⟨h.1,rfl⟩
  .exact h.elim
 | alloc z =>
  obtain rfl:=sN rfl;simp only[aG.a7,Exact] at h ⊢;obtain rfl:=mk_inj h.2;exact⟨h.1,by simp[aG.bf,bV]⟩
 | box n x =>
  obtain rfl:=sN rfl;simp only[aG.xs,eh] at hx;simp only[aG.a7,Exact] at h ⊢;rw[hx.1];obtain rfl:=mk_inj h.2.2;exact⟨h.1,h.2.1,by simp[aG.bf,bV]⟩
 | ug n x =>
  obtain rfl:=sN rfl;simp only[aG.xs,eh] at hx;simp only[aG.a7,Exact] at h ⊢;rw[hx.1];obtain rfl:=mk_inj h.2.2.2;exact⟨h.1,h.2.1,h.2.2.1,by simp[aG.bf,bV]⟩
 | build z ps =>
  simp only[aG.a7] at h ⊢;rw[PT (ps:=ps) hx];cases hb:(nG (bV t s) z ps).map V.agg with
  | none=>rw[hb] at h;exact h.elim
  | some u=>rw[hb] at h;exact⟨h.1,rfl⟩
 | j9 k xs =>
  simp only[aG.a7] at h ⊢;rw[VE (xs:=xs) hx];cases hb:(kY (bV t s) k xs).map (V.sl .aW k) with
  | none=>rw[hb] at h;exact h.elim
  | some u=>rw[hb] at h;exact⟨h.1,rfl⟩
 | load g n x =>
  simp only[aG.xs,eh] at hx;simp only[aG.a7] at h ⊢;rw[hx.1,Tp,v9 g n x rfl];exact⟨rfl,rfl⟩
 | store n a x =>
  obtain rfl:=sN rfl;simp only[aG.xs,eh] at hx;simp only[aG.a7] at h ⊢;rw[hx.1,hx.2.1];generalize ev (bV t s2) x=xv at h ⊢;generalize ev (bV t s2) a=av at h ⊢;have key:∀aH,dm (bV t s2) n xv av=U aH -> dm (bV t2 s2) n xv av=U (bV t2 (aH.aC,aH.out)):=λaH he=>by
   cases av with
   | ptr p off =>
    cases p with
    | jM b=>simp[dm] at he
    | aC i =>
     simp only[dm,bV,gV] at he ⊢;obtain⟨cs,h1,h2⟩:=he;refine⟨cs,h1,?_⟩
     by_cases hc:bW n (cs.drop off)=aa/\xv.wd=U n/\cB xv.cells=aa
     .rw[aD hc] at h2 ⊢;simp only[aY] at h2;subst h2;rfl
     .rw[aB hc] at h2;simp at h2
    | out b =>
     simp only[dm,bV,gV] at he ⊢;obtain⟨cs,h1,h2⟩:=he;refine⟨cs,h1,?_⟩
     by_cases hc:bW n (cs.drop off)=aa/\xv.wd=U n/\cB xv.cells=aa/\bH xv.cells=aa
     .rw[aD hc] at h2 ⊢;simp only[aY] at h2;subst h2;rfl
     .rw[aB hc] at h2;simp at h2
   | _=>simp[dm] at he
  split at h
  case h_2=>exact h.elim
  rename_i aH he;rw[key aH he]
  have:=gX (λq:St=>(q.aC,q.out)) h.2
  have h2:(aH.aC,aH.out)=s' := this;exact⟨h.1,by rw[h2];rfl⟩
 | uX x =>
  simp only[aG.xs,eh] at hx;simp only[aG.a7] at h ⊢;rw[hx.1];split at h<;>first | exact⟨h.1,rfl⟩ | exact h.elim
 | eD op x y =>
  simp only[aG.xs,eh] at hx;simp only[aG.a7] at h ⊢;rw[hx.1,hx.2.1];cases hb:uf op (ev (bV t s) x) (ev (bV t s) y) with
  | none=>rw[hb] at h;exact h.elim
  | some u=>rw[hb] at h;exact⟨h.1,rfl⟩
 | nD op x y =>
  simp only[aG.xs,eh] at hx;simp only[aG.a7] at h ⊢;rw[hx.1,hx.2.1];cases hb:y3 op (ev (bV t s) x) (ev (bV t s) y) with
  | none=>rw[hb] at h;exact h.elim
  | some u=>rw[hb] at h;exact⟨h.1,rfl⟩
 | vI neg x y =>
  simp only[aG.xs,eh] at hx;simp only[aG.a7] at h ⊢;rw[hx.1,hx.2.1];cases hb:xq neg (ev (bV t s) x) (ev (bV t s) y) with
  | none=>rw[hb] at h;exact h.elim
  | some u=>rw[hb] at h;exact⟨h.1,rfl⟩
 | cat x y =>
  simp only[aG.xs,eh] at hx;simp only[aG.a7] at h ⊢;rw[hx.1,hx.2.1];obtain⟨a,b,h1,h2,h3,h4⟩:=h;exact⟨a,b,h1,h2,h3,h4.1,rfl⟩
 | jf neg n x y =>
  simp only[aG.xs,eh] at hx;simp only[aG.a7] at h ⊢;rw[hx.1,hx.2.1];cases hb:xp neg n (ev (bV t s) x) (ev (bV t s) y) with
  | none=>rw[hb] at h;exact h.elim
  | some u=>rw[hb] at h;exact⟨h.1,rfl⟩
 | rF neg x y =>
  simp only[aG.xs,eh] at hx;simp only[aG.a7] at h ⊢;rw[hx.1,hx.2.1];split at h
  .exact⟨h.1,rfl⟩
  .exact h.elim
 | not x =>
  simp only[aG.xs,eh] at hx;simp only[aG.a7] at h ⊢;rw[hx.1];split at h
  .exact⟨h.1,rfl⟩
  .exact h.elim
 | uS x =>
  simp only[aG.xs,eh] at hx;simp only[aG.a7] at h ⊢;rw[hx.1];split at h
  .exact⟨h.1,rfl⟩
  .exact⟨h.1,rfl⟩
  .exact h.elim
 | uT x =>
  simp only[aG.xs,eh] at hx;simp only[aG.a7] at h ⊢;rw[hx.1];split at h
  .exact⟨h.1,rfl⟩
  .exact h.elim
 | nM off x =>
  simp only[aG.xs,eh] at hx;simp only[aG.a7] at h ⊢;rw[hx.1];split at h
  .exact⟨h.1,rfl⟩
  .exact⟨h.1,rfl⟩
  .exact h.elim
 | uy g off n x =>
  simp only[aG.xs,eh] at hx;simp only[aG.a7] at h ⊢;rw[hx.1];split at h
  case h_2=>exact h.elim
  rename_i cs e;cases hb:bD g n (cs.drop off) with
  | none=>rw[hb] at h;exact h.elim
  | some u=>rw[hb] at h;exact⟨h.1,rfl⟩
 | rZ k x i =>
  simp only[aG.xs,eh] at hx;simp only[aG.a7] at h ⊢;rw[hx.1,hx.2.1];split at h
  .obtain⟨h1,k',n,c,h2,h3,h4,h5⟩:=h;exact⟨h1,k',n,c,h2,h3,h4,h5.1,rfl⟩
  .obtain⟨k',n,h2,h3,h4,h5⟩:=h;exact⟨k',n,h2,h3,h4,h5.1,rfl⟩
  .exact h.elim
 | qZ m k x i =>
  simp only[aG.xs,eh] at hx;simp only[aG.a7] at h ⊢;rw[hx.1,hx.2.1];split at h
  .obtain⟨kk,n,h1,h2,h3,h4⟩:=h;exact⟨kk,n,h1,h2,h3,h4.1,rfl⟩
  .obtain⟨kk,n,h1,h2,h3,h4⟩:=h;exact⟨kk,n,h1,h2,h3,h4.1,rfl⟩
  .exact h.elim
 | sV x i =>
  simp only[aG.xs,eh] at hx;simp only[aG.a7] at h ⊢;rw[hx.1,hx.2.1];split at h
  case h_2=>exact h.elim
  obtain⟨k',n,c,h2,h3,h4,h5⟩:=h;exact⟨k',n,c,h2,h3,h4,h5.1,rfl⟩
 | call f xs =>
  obtain rfl:=sN rfl;simp only[aG.a7] at h ⊢;rw[Bf (xs:=xs) hx];refine⟨h.1,h.2.mono λu D hu=>?_⟩;obtain rfl:=mk_inj hu.2;exact⟨hu.1,rfl⟩
 | ij x xs =>
  obtain rfl:=sN rfl;simp only[aG.xs,eh] at hx;simp only[aG.a7] at h ⊢;rw[hx.1,Bf hx.2];split at h
  case h_2=>exact h.elim
  refine⟨h.1,h.2.mono λu D hu=>?_⟩;obtain rfl:=mk_inj hu.2;exact⟨hu.1,rfl⟩
 | app k x y =>
  obtain rfl:=sN rfl;simp only[aG.xs,eh] at hx;simp only[aG.a7,pT] at h ⊢;rw[hx.1,hx.2.1];obtain⟨tk,l,m,h1,h2,h3,h4⟩:=h;refine⟨tk,l,m,h1,h2,h3,?_⟩;have conv:∀{u:V} {D:ag},Exact t v s' u ⟨t,s2.1,D⟩->Exact t2 v (if (aG.app k x y).bf then s' else s2) u ⟨t2,s2.1,D⟩:=λ{u D} hu=>by
   obtain rfl:=mk_inj hu.2;exact⟨hu.1,rfl⟩
  cases tk with
  | no=>exact h4
  | aW =>
   rcases h4 with h4 | h4 | ⟨Z,h4,h5⟩
   .exact .inl λZ bp=>conv (h4 Z bp)
   .exact .inr (.inl (conv h4))
   .exact .inr (.inr ⟨Z,h4,conv h5⟩)
  | tk Z=>exact⟨h4.1,conv h4.2⟩
 | mj x y =>
  obtain rfl:=sN rfl;simp only[aG.xs,eh] at hx;simp only[aG.a7,pT] at h ⊢;rw[hx.1,hx.2.1];obtain⟨aF,h0,tk,l,m,h1,h2,h3,h4⟩:=h;refine⟨aF,h0,tk,l,m,h1,h2,h3,?_⟩;have conv:∀{u:V} {D:ag},Exact t v s' u ⟨t,s2.1,D⟩->Exact t2 v (if (aG.mj x y).bf then s' else s2) u ⟨t2,s2.1,D⟩:=λ{u D} hu=>by
   obtain rfl:=mk_inj hu.2;exact⟨hu.1,rfl⟩
  cases tk with
  | no=>exact h4
  | aW =>
   rcases h4 with h4 | h4 | ⟨Z,h4,h5⟩
   .exact .inl λZ bp=>conv (h4 Z bp)
   .exact .inr (.inl (conv h4))
   .exact .inr (.inr ⟨Z,h4,conv h5⟩)
  | tk Z=>exact⟨h4.1,conv h4.2⟩
 | kv k x lo hi mx =>
  simp only[aG.xs,eh] at hx;simp only[aG.a7] at h ⊢;rw[hx.1]
  rcases h with ⟨tk,l,m,n,h1,h2,h3,h4,h5,h6⟩ | ⟨a,n,cap,m,hh,h1,h2,h3,h4,h5,h6,h7⟩
  .refine .inl ⟨tk,l,m,n,h1,h2,h3,?_,?_,?_⟩
   .cases lo with
    | none=>exact h4
    | some y=>simp only at h4 ⊢;rw[hx.2 y (by simp[sa])];exact h4
   .cases hi with
    | none=>exact h5
    | some y=>simp only at h5 ⊢;rw[hx.2 y (by simp[sa])];exact h5
   .cases mx with
    | none=>exact⟨h6.1,rfl⟩
    | some y=>simp only at h6 ⊢;rw[hx.2 y (by simp[sa])];exact⟨h6.1,h6.2.1,rfl⟩
  .refine .inr ⟨a,n,cap,m,hh,h1,h2,h3,?_,?_,h6,h7.1,rfl⟩
   .cases lo with
    | none=>exact h4
    | some y=>simp only at h4 ⊢;rw[hx.2 y (by simp[sa])];exact h4
   .cases hi with
    | none=>exact h5
    | some y=>simp only at h5 ⊢;rw[hx.2 y (by simp[sa])];exact h5
 | yy x lo hi =>
  simp only[aG.xs,eh] at hx;simp only[aG.a7] at h ⊢;rw[hx.1];obtain⟨l,m,n,h1,h2,h3,h4,h5,h6⟩:=h;refine⟨l,m,n,h1,h2,h3,?_,?_,h6.1,rfl⟩
  .cases lo with
   | none=>exact h4
   | some y=>simp only at h4 ⊢;rw[hx.2 y (by simp[sa])];exact h4
  .cases hi with
   | none=>exact h5
   | some y=>simp only at h5 ⊢;rw[hx.2 y (by simp[sa])];exact h5
 | ext x i =>
  simp only[aG.xs,eh] at hx;simp only[aG.a7] at h ⊢;rw[hx.1];split at h
  case h_2=>exact h.elim
  rename_i vs e;cases hb:vs[i]? with
  | none=>rw[hb] at h;exact h.elim
  | some u=>rw[hb] at h;exact⟨h.1,rfl⟩
 | jx f first cap =>
  simp only[aG.xs,List.forall_mem_append] at hx;simp only[aG.a7] at h ⊢;rw[Bf hx.1,Bf hx.2];exact⟨h.1,rfl⟩
 | pn k x =>
  simp only[aG.xs,eh] at hx;simp only[aG.a7] at h ⊢;rw[hx.1];split at h
  .exact⟨h.1,rfl⟩
  .exact h.elim
 | sF x =>
  simp only[aG.xs,eh] at hx;simp only[aG.a7] at h ⊢;rw[hx.1];obtain⟨tk,aF,h1,h2⟩:=h;exact⟨tk,aF,h1,h2.1,rfl⟩
 | pe z =>
  obtain rfl:=sN rfl;simp only[aG.a7,Exact] at h ⊢;refine⟨h.1,λb hb=>?_⟩;obtain⟨h1,h2⟩:=h.2 b hb;obtain rfl:=mk_inj h2;exact⟨h1,by simp[aG.bf,bV]⟩
 | fZ n x =>
  obtain rfl:=sN rfl;simp only[aG.xs,eh] at hx;simp only[aG.a7,Exact] at h ⊢;rw[hx.1];refine⟨h.1,h.2.1,λb hb=>?_⟩;obtain⟨h1,h2⟩:=h.2.2 b hb;obtain rfl:=mk_inj h2;exact⟨h1,by simp[aG.bf,bV]⟩
 | own q xs =>
  simp only[aG.a7,aG.xs] at h hx ⊢;rw[Bf hx];cases hp:q.pure
  .have he:(aG.own q xs).bf=true:=by simp[aG.bf,hp]
   obtain rfl:=sN he;refine OQ.mono (λu σ' hu=>?_) q _ h;obtain rfl:=mk_inj hu.2;exact⟨hu.1,by rw[aD he];rfl⟩
  .have he:¬((aG.own q xs).bf=aa):=by simp[aG.bf,hp]
   obtain⟨u,h1,h2⟩:=OQ.Qu hp h;exact h2 _ _ ⟨h1.1,by rw[aB he]⟩
end
def yI(D:ag)(k:Nat)(s x:V)(K:V->ag->Prop):Prop :=
 ∃t l m,s = .sl t k l/\(∃t',x = .sl t' k m)/\l.length+m.length<=aM /\
  match t with
  | .aW=>K (.sl .no k (l++m)) D\/∃Z,D.aJ Z=U l.length/\K (.sl (.tk Z) k (l++m)) (D.aR Z (l.length+m.length))
  | .tk Z=>D.aJ Z=U l.length/\K (.sl (.tk Z) k (l++m)) (D.aR Z (l.length+m.length))
  | .no=>False
def aG.lL(P:Program)(st:St)(K:V->St->Prop):aG->Prop
 | .call f xs=>bH (cW st xs)=aa/\∃v D,cm P f (cW st xs) st.out (λv' σ' => v' = v/\σ' = D)/\K v ⟨st.t,st.aC,D⟩
 | .ij x xs => match ev st x with
  | .fn (.func f) a b=>bH (a++cW st xs++b)=aa/\∃v D,cm P f (a++cW st xs++b) st.out (λv' σ' => v' = v/\σ' = D)/\K v ⟨st.t,st.aC,D⟩
  | _=>False
 | .app k s x=>yI st.out k (ev st s) (ev st x) λv D=>K v ⟨st.t,st.aC,D⟩
 | .mj s x=>∃a,ev st x = .aF a/\yI st.out 1 (ev st s) (.sl .no 1 (dc a)) λv D=>K v ⟨st.t,st.aC,D⟩
 | .pe _ | .fZ _ _=>False
 | .own q xs=>q.pure=aa/\q.a7 st.out (λv D=>K v ⟨st.t,st.aC,D⟩) (cW st xs)
 | op=>op.a7 P st K
structure TR where
 dst:Option Nat
 val:V
 bf:Bool
 yD:c7
def j1(t:List V)(d:Option Nat)(v:V):List V :=
 match d with
 | some n=>t.set n v
 | none=>t
def Ee(t:List V)(s:c7)(d:Option Nat)(v:V):(bV t s).put d v=bV (j1 t d v) s:=by cases d<;>rfl
def B5:c7:=([],⟨λ_=>ae,λ_=>ae,λ_=>ae⟩)
def y6(SN:List c7)(g:Bool)(n:Nat)(a v:V):List Nat->Prop
 | []=>True
 | m::ms=>rb (SN.getD m B5) g n a=U v/\y6 SN g n a v ms
def p7(SN:List c7):List (V × Bool × Nat × V × List Nat)->Prop
 | []=>True
 | (a,g,n,v,ms)::r=>y6 SN g n a v ms/\p7 SN r
def PW{SN:List c7}{g:Bool}{n:Nat}{a v:V}:∀{ms:List Nat},y6 SN g n a v ms->∀m∈ms,rb (SN.getD m B5) g n a=U v
 | [],_,_,h=>by simp at h
 | m :: ms, h, m', h' => by
  rcases kA.1 h' with rfl | h'
  .exact h.1
  .exact PW h.2 m' h'
def LY(st:St)(ms:List Nat)(v:V):aG->List (V × Bool × Nat × V × List Nat)
 | .load g n x=>[(ev st x,g,n,v,ms)]
 | _=>[]
def cf(P:Program):List (AO × List Nat)->List c7->List (V × Bool × Nat × V × List Nat)->(St->Prop)->St->Prop
 | [],SN,L,K,st=>p7 SN L/\K st
 | (o, ms) :: r, SN, L, K, st =>
  match o.guard with
  | none=>o.op.lL P st λv aH => cf P r (if o.op.bf then SN++[(aH.aC,aH.out)] else SN) (LY st ms v o.op++L) K (aH.put o.dst v)
  | some (g, want) =>
   match ev st (.s g) with
   | .bool b =>
    if b=want then o.op.lL P st λv aH => cf P r (if o.op.bf then SN++[(aH.aC,aH.out)] else SN) (LY st ms v o.op++L) K (aH.put o.dst v)
    else cf P r (if o.op.bf then SN++[(st.aC,st.out)] else SN) L K (st.put o.dst (.bq []))
   | .bq []=>cf P r (if o.op.bf then SN++[(st.aC,st.out)] else SN) L K (st.put o.dst (.bq []))
   | _=>False
def Pc(P:Program)(SN:List c7)(o:AO)(ms:List Nat)(t:List V)(s:c7)(r:TR):Prop :=
 r.dst=o.dst/\r.bf=o.op.bf/\∃run:Bool,
  (match o.guard with | none=>run=aa | some (g,want)=>(∃b,t.getD g .any = .bool b/\run=(b == want))\/t.getD g .any = .bq []/\run=ak) /\
  (run=aa->o.op.a7 P (bV t s) (Exact t r.val (if o.op.bf then r.yD else s))/\∀g n x,o.op = .load g n x->∀m∈ms,rb (SN.getD m B5) g n (ev (bV t s) x)=U r.val) /\
  (run=ak->r.val = .bq []/\(r.bf=aa->r.yD=s))
def xe(P:Program)(SN:List c7):List (AO × List Nat)->List TR->List V->c7->Prop
 | [],[],_,_=>True
 | (o,ms)::l,r::tr,t,s=>Pc P SN o ms t s r/\xe P SN l tr (j1 t r.dst r.val) (if r.bf then r.yD else s)
 | _,_,_,_=>False
def runT:List TR->List V->List V
 | [],t=>t
 | r::tr,t=>runT tr (j1 t r.dst r.val)
def dr:List TR->c7->c7
 | [],s=>s
 | r::tr,s=>dr tr (if r.bf then r.yD else s)
def j_:List TR->List c7
 | []=>[]
 | r::tr=>if r.bf then r.yD::j_ tr else j_ tr
section
variable {P:Program}
def apU{op:aG}{t:List V}{K:V->St->Prop}(h:op.lL P (bV t s) K):∃v s',op.a7 P (bV t s) (Exact t v s')/\K v (bV t s')/\(op.bf=ak->s' = s):=by
 have wE:∀{o:Option V},opt o (K2 K (bV t s))->∃v,opt o (K2 (Exact t v s) (bV t s))/\K v (bV t s):=λ{o} h=>by
  cases o with
  | none=>exact h.elim
  | some u=>exact⟨u,⟨rfl,rfl⟩,h⟩
 cases op with
 | mv x=>exact⟨_,s,⟨rfl,rfl⟩,h,λ_=>rfl⟩
 | pick c a b =>
  simp only[aG.lL,aG.a7] at h ⊢;split at h
  .rename_i e;exact⟨_,s,⟨rfl,rfl⟩,h,λ_=>rfl⟩
  .rename_i e;exact⟨_,s,⟨rfl,rfl⟩,h,λ_=>rfl⟩
  .exact h.elim
 | alloc z=>exact⟨_,(s.1++[z],s.2),⟨rfl,rfl⟩,h,λh=>by simp[aG.bf] at h⟩
 | box n x=>exact⟨_,(s.1++[(ev (bV t s) x).cells],s.2),⟨h.1,rfl,rfl⟩,h.2,λh=>by simp[aG.bf] at h⟩
 | ug n x=>exact⟨_,(s.1++[(ev (bV t s) x).cells],s.2),⟨h.1,h.2.1,rfl,rfl⟩,h.2.2,λh=>by simp[aG.bf] at h⟩
 | build z ps=>obtain⟨v,h1,h2⟩:=wE h;exact⟨v,s,h1,h2,λ_=>rfl⟩
 | j9 k xs=>obtain⟨v,h1,h2⟩:=wE h;exact⟨v,s,h1,h2,λ_=>rfl⟩
 | load g n x=>obtain⟨v,h1,h2⟩:=wE h;exact⟨v,s,h1,h2,λ_=>rfl⟩
 | store n a x =>
  simp only[aG.lL,aG.a7] at h ⊢;split at h
  case h_2=>exact h.elim
  rename_i aH he;have ht:aH.t=t:=by
   generalize ev (bV t s) a=av at he;generalize ev (bV t s) x=xv at he;cases av with
   | ptr p off =>
    cases p with
    | jM b=>simp[dm] at he
    | aC i =>
     simp only[dm,gV] at he;obtain⟨cs,_,h2⟩:=he;split at h2
     .simp only[aY] at h2;subst h2;rfl
     .simp at h2
    | out b =>
     simp only[dm,gV] at he;obtain⟨cs,_,h2⟩:=he;split at h2
     .simp only[aY] at h2;subst h2;rfl
     .simp at h2
   | _=>simp[dm] at he
  obtain⟨t',l',o'⟩:=aH;simp only at ht;subst ht;exact⟨.any,(l',o'),⟨rfl,rfl⟩,h,λh=>by simp[aG.bf] at h⟩
 | uX x =>
  simp only[aG.lL,aG.a7] at h ⊢;split at h<;>first | exact⟨_,s,⟨rfl,rfl⟩,h,λ_=>rfl⟩ | exact h.elim
 | eD op x y=>obtain⟨v,h1,h2⟩:=wE h;exact⟨v,s,h1,h2,λ_=>rfl⟩
 | nD op x y=>obtain⟨v,h1,h2⟩:=wE h;exact⟨v,s,h1,h2,λ_=>rfl⟩
 | vI neg x y=>obtain⟨v,h1,h2⟩:=wE h;exact⟨v,s,h1,h2,λ_=>rfl⟩
 | cat x y =>
  obtain⟨a,b,h1,h2,h3,h4⟩:=h;exact⟨_,s,⟨a,b,h1,h2,h3,rfl,rfl⟩,h4,λ_=>rfl⟩
 | jf neg n x y=>obtain⟨v,h1,h2⟩:=wE h;exact⟨v,s,h1,h2,λ_=>rfl⟩
 | rF neg x y =>
  simp only[aG.lL,aG.a7] at h ⊢;split at h
  .exact⟨_,s,⟨rfl,rfl⟩,h,λ_=>rfl⟩
  .exact h.elim
 | not x =>
  simp only[aG.lL,aG.a7] at h ⊢;split at h
  .exact⟨_,s,⟨rfl,rfl⟩,h,λ_=>rfl⟩
  .exact h.elim
 | uS x =>
  simp only[aG.lL,aG.a7] at h ⊢;split at h
  .exact⟨_,s,⟨rfl,rfl⟩,h,λ_=>rfl⟩
  .exact⟨_,s,⟨rfl,rfl⟩,h,λ_=>rfl⟩
  .exact h.elim
 | uT x =>
  simp only[aG.lL,aG.a7] at h ⊢;split at h
  .exact⟨_,s,⟨rfl,rfl⟩,h,λ_=>rfl⟩
  .exact h.elim
 | nM off x =>
  simp only[aG.lL,aG.a7] at h ⊢;split at h
  .exact⟨_,s,⟨rfl,rfl⟩,h,λ_=>rfl⟩
  .exact⟨_,s,⟨rfl,rfl⟩,h,λ_=>rfl⟩
  .exact h.elim
 | uy g off n x =>
  simp only[aG.lL,aG.a7] at h ⊢;split at h
  .obtain⟨v,h1,h2⟩:=wE h;exact⟨v,s,h1,h2,λ_=>rfl⟩
  .exact h.elim
 | rZ k x i =>
  simp only[aG.lL,aG.a7] at h ⊢;split at h
  .obtain⟨h1,k',n,c,h2,h3,h4,h5⟩:=h;exact⟨_,s,⟨h1,k',n,c,h2,h3,h4,rfl,rfl⟩,h5,λ_=>rfl⟩
  .obtain⟨k',n,h2,h3,h4,h5⟩:=h;exact⟨_,s,⟨k',n,h2,h3,h4,rfl,rfl⟩,h5,λ_=>rfl⟩
  .exact h.elim
 | qZ m k x i =>
  simp only[aG.lL,aG.a7] at h ⊢;split at h
  .obtain⟨kk,n,h1,h2,h3,h4⟩:=h;exact⟨_,s,⟨kk,n,h1,h2,h3,rfl,rfl⟩,h4,λ_=>rfl⟩
  .obtain⟨kk,n,h1,h2,h3,h4⟩:=h;exact⟨_,s,⟨kk,n,h1,h2,h3,rfl,rfl⟩,h4,λ_=>rfl⟩
  .exact h.elim
 | sV x i =>
  simp only[aG.lL,aG.a7] at h ⊢;split at h
  .obtain⟨k',n,c,h2,h3,h4,h5⟩:=h;exact⟨_,s,⟨k',n,c,h2,h3,h4,rfl,rfl⟩,h5,λ_=>rfl⟩
  .exact h.elim
 | call f xs =>
  obtain⟨h1,v,D,h2,h3⟩:=h;exact⟨v,(s.1,D),⟨h1,h2.mono λu σ' hu=>⟨hu.1,by rw[hu.2];rfl⟩⟩,h3,λh=>by simp[aG.bf] at h⟩
 | ij x xs =>
  simp only[aG.lL,aG.a7] at h ⊢;split at h
  .rename_i e;obtain⟨h1,v,D,h2,h3⟩:=h;refine⟨v,(s.1,D),?_,h3,λh=>by simp[aG.bf] at h⟩
   (try rw[e])
   exact⟨h1,h2.mono λu σ' hu=>⟨hu.1,by rw[hu.2];rfl⟩⟩
  .exact h.elim
 | app k x y =>
  obtain⟨tk,l,m,h1,h2,h3,h4⟩:=h;cases tk with
  | no=>exact h4.elim
  | aW =>
   rcases h4 with h4 | ⟨Z,h4,h5⟩
   .exact⟨_,s,⟨_,l,m,h1,h2,h3,.inr (.inl ⟨rfl,rfl⟩)⟩,h4,λh=>by simp[aG.bf] at h⟩
   .exact⟨_,(s.1,_),⟨_,l,m,h1,h2,h3,.inr (.inr ⟨Z,h4,rfl,rfl⟩)⟩,h5,λh=>by simp[aG.bf] at h⟩
  | tk Z=>exact⟨_,(s.1,_),⟨_,l,m,h1,h2,h3,h4.1,rfl,rfl⟩,h4.2,λh=>by simp[aG.bf] at h⟩
 | mj x y =>
  obtain⟨a,h0,tk,l,m,h1,h2,h3,h4⟩:=h;cases tk with
  | no=>exact h4.elim
  | aW =>
   rcases h4 with h4 | ⟨Z,h4,h5⟩
   .exact⟨_,s,⟨a,h0,_,l,m,h1,h2,h3,.inr (.inl ⟨rfl,rfl⟩)⟩,h4,λh=>by simp[aG.bf] at h⟩
   .exact⟨_,(s.1,_),⟨a,h0,_,l,m,h1,h2,h3,.inr (.inr ⟨Z,h4,rfl,rfl⟩)⟩,h5,λh=>by simp[aG.bf] at h⟩
  | tk Z=>exact⟨_,(s.1,_),⟨a,h0,_,l,m,h1,h2,h3,h4.1,rfl,rfl⟩,h4.2,λh=>by simp[aG.bf] at h⟩
 | kv k x lo hi mx =>
  simp only[aG.lL,aG.a7] at h ⊢
  rcases h with ⟨tk,l,m,n,h1,h2,h3,h4,h5,h6⟩ | ⟨a,n,cap,m,hh,h1,h2,h3,h4,h5,h6,h7⟩
  .cases mx with
   | none=>exact⟨_,s,.inl ⟨tk,l,m,n,h1,h2,h3,h4,h5,rfl,rfl⟩,h6,λ_=>rfl⟩
   | some y=>exact⟨_,s,.inl ⟨tk,l,m,n,h1,h2,h3,h4,h5,h6.1,rfl,rfl⟩,h6.2,λ_=>rfl⟩
  .exact⟨_,s,.inr ⟨a,n,cap,m,hh,h1,h2,h3,h4,h5,h6,rfl,rfl⟩,h7,λ_=>rfl⟩
 | yy x lo hi =>
  obtain⟨l,m,n,h1,h2,h3,h4,h5,h6⟩:=h;exact⟨_,s,⟨l,m,n,h1,h2,h3,h4,h5,rfl,rfl⟩,h6,λ_=>rfl⟩
 | ext x i =>
  simp only[aG.lL,aG.a7] at h ⊢;split at h
  .obtain⟨v,h1,h2⟩:=wE h;exact⟨v,s,h1,h2,λ_=>rfl⟩
  .exact h.elim
 | jx f first cap=>exact⟨_,s,⟨rfl,rfl⟩,h,λ_=>rfl⟩
 | pn k x =>
  simp only[aG.lL,aG.a7] at h ⊢;split at h
  .exact⟨_,s,⟨rfl,rfl⟩,h,λ_=>rfl⟩
  .exact h.elim
 | sF x =>
  obtain⟨tk,aF,h1,h2⟩:=h;exact⟨_,s,⟨tk,aF,h1,rfl,rfl⟩,h2,λ_=>rfl⟩
 | pe z=>exact h.elim
 | fZ n x=>exact h.elim
 | own q xs =>
  obtain⟨hp,h⟩:=h;obtain⟨v,h1,h2⟩:=OQ.Qu hp h;have hE:(aG.own q xs).a7 P (bV t s) (Exact t v s):=h2 s.2 (λu D=>Exact t v s u ⟨t,s.1,D⟩) ⟨rfl,rfl⟩;exact⟨v,s,hE,h1,λ_=>rfl⟩
def PX{SN:List c7}:∀{l m:List (V × Bool × Nat × V × List Nat)},p7 SN (l++m)↔p7 SN l/\p7 SN m
 | [],m=>by simp[p7]
 | (a,g,n,v,ms)::l,m=>by simp only[gE,p7,PX,I2]
def Ik{K:St->Prop}:∀{l:List (AO × List Nat)} {SN:List c7} {L:List (V × Bool × Nat × V × List Nat)} {t:List V} {s:c7},cf P l SN L K (bV t s) ->
 ∃tr,xe P (SN++j_ tr) l tr t s/\p7 (SN++j_ tr) L/\K (bV (runT tr t) (dr tr s))
 | [],SN,L,t,s,h=>⟨[],trivial,by simpa [j_] using h.1,h.2⟩
 | (o, ms) :: l, SN, L, t, s, h => by
  have go:o.op.lL P (bV t s) (λv aH => cf P l (if o.op.bf then SN++[(aH.aC,aH.out)] else SN) (LY (bV t s) ms v o.op++L) K (aH.put o.dst v)) ->
   (match o.guard with | none=>True | some (g,want)=>∃b,t.getD g .any = .bool b/\aa=(b == want)) ->
   ∃tr,xe P (SN++j_ tr) ((o,ms)::l) tr t s/\p7 (SN++j_ tr) L/\K (bV (runT tr t) (dr tr s)):=λh hg=>by
   obtain⟨v,s',h1,h2,h3⟩:=apU h;rw[Ee] at h2;obtain⟨tr,k1,k2,k3⟩:=Ik h2;have dh : (if o.op.bf then s' else s)=s' := by cases he:o.op.bf<;>simp[he] at h3 ⊢;exact h3.symm
   have sM:SN++j_ (⟨o.dst,v,o.op.bf,s'⟩::tr)=(if o.op.bf then SN++[s'] else SN)++j_ tr:=by
    cases o.op.bf<;>simp[j_]
   have ahQ : (if o.op.bf then SN++[((bV t s').aC,(bV t s').out)] else SN)=(if o.op.bf then SN++[s'] else SN):=rfl;rw[ahQ] at k1 k2;rw[PX] at k2;refine⟨⟨o.dst,v,o.op.bf,s'⟩::tr,?_,by rw[sM];exact k2.2,?_⟩
   .rw[sM];refine⟨⟨rfl,rfl,aa,?_,λ_=>⟨by rw[dh];exact h1,λg n x hx m hm=>?_⟩,λh=>by simp at h⟩,by simp only[dh];exact k1⟩
    .cases nV:o.guard with
     | none=>rfl
     | some p=>rw[nV] at hg;exact .inl hg
    .rw[hx] at k2
     have:=PW k2.1.1 m hm
     rw[<-hx] at this;exact this
   .simp only[runT,dr,dh];exact k3
  simp only[cf] at h;cases nV:o.guard with
  | none=>rw[nV] at h;exact go h (by rw[nV];trivial)
  | some p =>
   obtain⟨g,want⟩:=p;rw[nV] at h;simp only at h;have skip:∀b8 : ((∃b,t.getD g .any = .bool b/\ak=(b == want))\/t.getD g .any = .bq []/\ak=ak),cf P l (if o.op.bf then SN++[((bV t s).aC,(bV t s).out)] else SN) L K ((bV t s).put o.dst (.bq [])) ->
    ∃tr,xe P (SN++j_ tr) ((o,ms)::l) tr t s/\p7 (SN++j_ tr) L/\K (bV (runT tr t) (dr tr s)):=λb8 h=>by
    rw[Ee] at h;obtain⟨tr,k1,k2,k3⟩:=Ik h;have SJ:(if o.op.bf then s else s)=s:=by simp
    have sM:SN++j_ (⟨o.dst,.bq [],o.op.bf,s⟩::tr)=(if o.op.bf then SN++[s] else SN)++j_ tr:=by
     cases o.op.bf<;>simp[j_]
    refine⟨⟨o.dst,.bq [],o.op.bf,s⟩::tr,?_,by rw[sM];exact k2,?_⟩
    .rw[sM];refine⟨⟨rfl,rfl,ak,by rw[nV];exact b8,λh=>by simp at h,λ_=>⟨rfl,λ_=>rfl⟩⟩,by simp only[SJ];exact k1⟩
    .simp only[runT,dr,SJ];exact k3
   split at h
   .rename_i b hb;have b8 : t.getD g .any = .bool b:=hb;split at h
    .rename_i hw;exact go h (by rw[nV];exact⟨b,b8,by simp[hw]⟩)
    .rename_i hw;exact skip (.inl ⟨b,b8,by simp[hw]⟩) h
   .rename_i hb;exact skip (.inr ⟨hb,rfl⟩) h
   .exact h.elim
end
def cq(S:Nat->Bool):Nat->List TR->List TR
 | _,[]=>[]
 | i,r::tr=>if S i then r::cq S (i+1) tr else cq S (i+1) tr
def cw(S:Nat->Bool):Nat->List TR->Nat
 | _,[]=>0
 | i,r::tr=>(if S i&&r.bf then 1 else 0)+cw S (i+1) tr
def HP(t:List V)(d:Option Nat)(v:V):(j1 t d v).length=t.length:=by cases d<;>simp[j1]
def JW(t:List V)(d:Option Nat)(v:V)(x:Nat):(j1 t d v).getD x .any=if d=U x then(if x<t.length then v else .any) else t.getD x .any:=by
 cases d with
 | none=>simp[j1]
 | some n =>
  simp only[j1,aY]
  by_cases h:n=x
  .subst h;rw[aD rfl]
   by_cases hl:n<t.length
   .rw[aD hl];simp[gU,OU hl]
   .rw[aB hl,gU,yP (by simp;omega)];rfl
  .rw[aB h];simp[gU,Cs h]
def yz{S S' : Nat->Bool}{x:Nat}:∀{tr:List TR} {i:Nat} {t t' : List V},t.length=t'.length->t.getD x .any=t'.getD x .any ->
 (∀(j:Nat) r,tr[j]?=U r->r.dst=U x->S (i+j)=S' (i+j))->(runT (cq S i tr) t).getD x .any=(runT (cq S' i tr) t').getD x .any
 | [],i,t,t',_,h,_=>h
 | r :: tr, i, t, t', hl, h, hS => by
  have wb:∀(j:Nat) r',tr[j]?=U r' -> r'.dst=U x->S (i+1+j)=S' (i+1+j):=λj r' hr hd=>by
   have:=hS (j+1) r' (by simpa using hr) hd
   rw[show i+(j+1)=i+1+j from by omega] at this;exact this
  have h0:r.dst=U x->S i=S' i:=λhd=>by simpa using hS 0 r (by simp) hd
  simp only[cq]
  by_cases hd:r.dst=U x
  .rw[h0 hd];cases S' i
   .exact yz hl h wb
   .simp only[cC,runT];refine yz (by simp[HP,hl]) ?_ wb;rw[JW,JW,aD hd,aD hd,hl]
  .have e:∀t:List V,(j1 t r.dst r.val).getD x .any=t.getD x .any:=λt=>by rw[JW,aB hd]
   cases S i<;>cases S' i<;>simp only[cC,ck,di,runT]
   .exact yz hl h wb
   .exact yz (by simp[HP,hl]) (by rw[e];exact h) wb
   .exact yz (by simp[HP,hl]) (by rw[e];exact h) wb
   .exact yz (by simp[HP,hl]) (by rw[e,e];exact h) wb
def aom(t:List V){d d' : Option Nat}(v v' : V)(h:∀n,d=U n->d' ≠ U n):j1 (j1 t d v) d' v' = j1 (j1 t d' v') d v:=by
 cases d with
 | none=>rfl
 | some n =>
  cases d' with
  | none=>rfl
  | some m =>
   simp only[j1];rw[List.set_comm];intro e;exact h n rfl (by rw[e])
def VS:∀{tr:List TR} {t:List V} {d:Option Nat} {v:V},(∀r∈tr,∀n,d=U n->r.dst≠U n)->runT tr (j1 t d v)=j1 (runT tr t) d v
 | [],_,_,_,_=>rfl
 | r :: tr, t, d, v, h => by
  simp only[eh] at h;simp only[runT];rw[aom t v r.val h.1,VS h.2]
def NF{S:Nat->Bool}:∀{tr:List TR} {i:Nat} {r:TR},r∈cq S i tr->∃j,tr[j]?=U r/\S (i+j)=aa
 | [],_,_,h=>by simp[cq] at h
 | q :: tr, i, r, h => by
  simp only[cq] at h;split at h
  .rename_i hS
   rcases kA.1 h with rfl | h
   .exact⟨0,by simp,by simpa using hS⟩
   .obtain⟨j,h1,h2⟩:=NF h;exact⟨j+1,by simpa using h1,by rw[show i+(j+1)=i+1+j from by omega];exact h2⟩
  .obtain⟨j,h1,h2⟩:=NF h;exact⟨j+1,by simpa using h1,by rw[show i+(j+1)=i+1+j from by omega];exact h2⟩
def add(S:Nat->Bool)(k:Nat):Nat->Bool:=λj=>S j||decide (j=k)
def Wg{S:Nat->Bool}{k:Nat}:∀{tr:List TR} {i:Nat},k<i->cq (add S k) i tr=cq S i tr
 | [],_,_=>rfl
 | r :: tr, i, h => by
  have:add S k i=S i:=by simp[add];intro e;omega
  simp only[cq,this,Wg (k:=k) (tr:=tr) (i:=i+1) (by omega)]
def VP{S:Nat->Bool}{k:Nat}{r:TR}:∀{tr:List TR} {i:Nat} {t:List V},i<=k->tr[k - i]?=U r->S k=ak->(∀(j:Nat) r',tr[j]?=U r' -> i+j≠k->∀n,r.dst=U n->r'.dst≠U n) ->
 runT (cq (add S k) i tr) t=j1 (runT (cq S i tr) t) r.dst r.val
 | [],i,t,_,h,_,_=>by simp at h
 | q :: tr, i, t, hik, hr, hS, hd => by
  by_cases he:i=k
  .subst he;simp at hr;subst hr;have h1:add S i i=true:=by simp[add]
   simp only[cq,h1,cC,hS,di,ck,runT];rw[Wg (by omega)];refine VS λr' cg n hn=>?_
   obtain⟨j,h1,_⟩:=NF cg;exact hd (j+1) r' (by simpa using h1) (by omega) n hn
  .have h1:add S k i=S i:=by simp[add,he]
   have cg : tr[k - (i+1)]?=U r:=by
    rw[show k - i=(k - (i+1))+1 from by omega] at hr;simpa using hr
   have ih:=λt=>VP (tr:=tr) (i:=i+1) (t:=t) (by omega) cg hS (λj r' hj aQ n hn=>hd (j+1) r' (by simpa using hj) (by omega) n hn)
   simp only[cq,h1];cases S i
   .simpa using ih t
   .simpa [runT] using ih _
def VO{S:Nat->Bool}:∀{tr:List TR} {i:Nat} {s:c7},(∀(j:Nat) r,tr[j]?=U r->r.bf=aa->S (i+j)=ak)->dr (cq S i tr) s=s/\cw S i tr=0
 | [],_,_,_=>⟨rfl,rfl⟩
 | r :: tr, i, s, h => by
  have ih:=λs=>VO (S:=S) (tr:=tr) (i:=i+1) (s:=s) λj r' hj he=>by
   have:=h (j+1) r' (by simpa using hj) he
   rw[show i+(j+1)=i+1+j from by omega] at this;exact this
  have h0:r.bf=aa->S i=false:=λhe=>by simpa using h 0 r (by simp) he
  simp only[cq,cw];cases he:r.bf
  .cases S i<;>simp[dr,he,(ih s).1,(ih s).2]
  .rw[h0 he];simp[(ih s).1,(ih s).2]
def VN{S:Nat->Bool}:∀{tr:List TR} {i:Nat} {s:c7},(∀(j k:Nat) r r',tr[j]?=U r->tr[k]?=U r' -> r.bf=aa->r'.bf=aa->j<k->S (i+k)=aa->S (i+j)=aa) ->
 dr (cq S i tr) s=(s::j_ tr).getD (cw S i tr) B5
 | [],_,_,_=>by simp[cq,dr,cw]
 | r :: tr, i, s, h => by
  have wb:∀(j k:Nat) r r',tr[j]?=U r->tr[k]?=U r' -> r.bf=aa->r'.bf=aa->j<k->S (i+1+k)=aa->S (i+1+j)=true:=λj k q q' h1 h2 h3 h4 h5 h6=>by
   have:=h (j+1) (k+1) q q' (by simpa using h1) (by simpa using h2) h3 h4 (by omega) (by rw[show i+(k+1)=i+1+k from by omega];exact h6)
   rw[show i+(j+1)=i+1+j from by omega] at this;exact this
  have ih:=λs=>VN (S:=S) (tr:=tr) (i:=i+1) (s:=s) wb
  simp only[cq,cw,j_];cases he:r.bf
  .cases S i<;>simp[dr,he,ih]
  .cases hS:S i
   .obtain⟨h1,h2⟩:=VO (S:=S) (tr:=tr) (i:=i+1) (s:=s) λj r' hj Gv => by
     cases hq:S (i+1+j) with
     | false=>rfl
     | true =>
      have:=h 0 (j+1) r r' (by simp) (by simpa using hj) he Gv (by omega) (by rw[show i+(j+1)=i+1+j from by omega];exact hq)
      simp[hS] at this
    simp[h1,h2]
   .simp only[cC,dr,he,ih,Iv];rw[Cv 1,List.getD_cons_succ]
def FI{S S' : Nat->Bool}:∀{tr:List TR} {i:Nat},(∀(j:Nat) r,tr[j]?=U r->r.bf=aa->S (i+j)=S' (i+j))->cw S i tr=cw S' i tr
 | [],_,_=>rfl
 | r :: tr, i, h => by
  have ih:=FI (S:=S) (S' := S') (tr:=tr) (i:=i+1) λj r' hj he=>by
   have:=h (j+1) r' (by simpa using hj) he
   rw[show i+(j+1)=i+1+j from by omega] at this;exact this
  have h0:r.bf=aa->S i=S' i:=λhe=>by simpa using h 0 r (by simp) he
  simp only[cw,ih];cases he:r.bf
  .simp
  .rw[h0 he]
def Jo{S S' : Nat->Bool}:∀{tr:List TR} {i:Nat},(∀(j:Nat) r,tr[j]?=U r->r.bf=aa->S (i+j)=aa->S' (i+j)=aa)->cw S i tr<=cw S' i tr
 | [],_,_=>bL _
 | r :: tr, i, h => by
  have ih:=Jo (S:=S) (S' := S') (tr:=tr) (i:=i+1) λj r' hj he hS=>by
   have:=h (j+1) r' (by simpa using hj) he (by rw[show i+(j+1)=i+1+j from by omega];exact hS)
   rw[show i+(j+1)=i+1+j from by omega] at this;exact this
  have h0:r.bf=aa->S i=aa->S' i=true:=λhe hS=>by simpa using h 0 r (by simp) he (by simpa using hS)
  simp only[cw];cases he:r.bf
  .simpa using ih
  .cases hS:S i
   .simp;omega
   .simp[h0 he hS];exact ih
def Wh{S:Nat->Bool}:∀{tr:List TR} {i:Nat},(∀j,j<tr.length->S (i+j)=aa)->cq S i tr=tr
 | [],_,_=>rfl
 | r :: tr, i, h => by
  have h0:S i=true:=by simpa using h 0 (by simp)
  simp only[cq,h0,cC];rw[Wh λj hj=>by
   have:=h (j+1) (by simp;omega)
   rw[show i+(j+1)=i+1+j from by omega] at this;exact this]
def dP(k:Nat):Nat->Bool:=λj=>decide (j<k)
def Fh{P:Program}{SN:List c7}:∀{l:List (AO × List Nat)} {tr:List TR} {t:List V} {s:c7},xe P SN l tr t s->l.length=tr.length
 | [],[],_,_,_=>rfl
 | [],_::_,_,_,h=>h.elim
 | (o,ms)::_,[],_,_,h=>h.elim
 | (o,ms)::l,r::tr,t,s,h=>by simp[Fh h.2]
def NG:∀{tr:List TR} {i k:Nat},k<=i->cq (dP k) i tr=[]
 | [],_,_,_=>rfl
 | r :: tr, i, k, h => by
  have:dP k i=false:=by simp[dP];omega
  simp only[cq,this,di,ck];exact NG (by omega)
def Fi{P:Program}{SN:List c7}{o:AO}{ms:List Nat}{r:TR}:∀{l:List (AO × List Nat)} {tr:List TR} {t:List V} {s:c7} {i k:Nat},xe P SN l tr t s->l[k]?=U (o,ms)->tr[k]?=U r ->
 Pc P SN o ms (runT (cq (dP (i+k)) i tr) t) (dr (cq (dP (i+k)) i tr) s) r
 | [],_,_,_,_,_,_,h,_=>by simp at h
 | (_,_)::_,[],_,_,_,_,h,_,_=>h.elim
 | (o', ms') :: l, r' :: tr, t, s, i, k, h, hl, ht => by
  cases k with
  | zero =>
   simp at hl ht;obtain⟨rfl,rfl⟩:=hl;subst ht;rw[NG (by omega)];exact h.1
  | succ k =>
   have h1:dP (i+(k+1)) i=true:=by simp[dP]
   simp only[cq,h1,cC,runT,dr];rw[show i+(k+1)=i+1+k from by omega];exact Fi h.2 (by simpa using hl) (by simpa using ht)
def yp(o:AO):List Nat:=o.op.xs.flatMap X.slot++(match o.guard with | some (g,_)=>[g] | none=>[])
structure DI where
 dst:Option Nat
 reads:List Nat
 bf:Bool
 ld:Bool
 ms:List Nat
 mask:Nat
def eY(p:AO × List Nat)(m:Nat):DI:=⟨p.1.dst,yp p.1,p.1.op.bf,p.1.op.BO,p.2,m⟩
def HA(b:List Nat)(o:Oper):Nat:=o.after.toList.foldl (λs e=>if Region.binds .any e then s|||2^e.on|||b.getD e.on 0 else s) 0
def CM(i:Nat)(x:DI)(j:Nat)(y:DI):Bool :=
 (match y.dst with
  | some d=>(!(x.reads.contains d)||(i != j&&(x.mask.testBit j||y.mask.testBit i)))&&(i == j||x.dst != U d)
  | none=>aa)&&(!(decide (i<j)&&x.bf&&y.bf)||y.mask.testBit i)
def A9(p:Nat->DI->Bool)(l:List DI):Nat:=(l.zipIdx.filter λ(x,j)=>x.bf&&p j x).length
def n5(l:List DI)(x:DI):Nat:=A9 (λj _=>x.mask.testBit j) l
def xK(l:List DI)(i:Nat):Nat:=A9 (λ_ y=>!(y.mask.testBit i)) l
def Ae(l:List DI)(i:Nat):Nat:=A9 (λj _=>decide (j<i)) l
def PY(l:List DI)(i:Nat)(x:DI):Bool :=
 !x.ld||((cc (xK l i+1 - n5 l x)).all λq=>x.ms.contains (n5 l x+q)||n5 l x+q == Ae l i)
def xo(ops:Array Oper)(l:List (AO × List Nat))(b:List Nat):Bool :=
 let d:=lg eY l b
 decide (l.length=ops.size)&&decide (b.length=ops.size) &&
 ((ops.toList.zip b).zipIdx.all λ((o,m),i)=>(o.after.toList.all λe=>!(Region.binds .any e)||decide (e.on<i))&&decide (m=HA b o)) &&
 (d.zipIdx.all λ(x,i)=>(d.zipIdx.all λ(y,j)=>CM i x j y)&&PY d i x)
def wy:List Oper->List Nat->List Nat
 | [],b=>b
 | o::os,b=>wy os (b++[HA b o])
def tg(P:Program)(ops:Array Oper)(o:Oper):Option AO :=
 match yf P o with
 | none=>ae
 | some op =>
  match o.guard with
  | none=>U ⟨o.dst,op,ae⟩
  | some (j, want) =>
   match (ops[j]?).bind (·.dst) with
   | some g=>U ⟨o.dst,op,U (g,want)⟩
   | none=>ae
def zX(P:Program)(ops:Array Oper):List Oper->Option (List AO)
 | []=>U []
 | o::os=>(tg P ops o).bind λx=>(zX P ops os).map (x::·)
def Hn(P:Program)(ops:Array Oper):Option (List (AO × List Nat)) :=
 match zX P ops ops.toList with
 | none=>ae
 | some l0 =>
  let b:=wy ops.toList []
  let d:=lg eY (l0.map λo=>(o,[])) b
  let l:=(l0.zip d).zipIdx.map λ((o,x),i)=>(o,if o.op.BO then((cc (xK d i+1 - n5 d x)).map (n5 d x+·)).filter (· != Ae d i) else [])
  if xo ops l b=aa/\P.follows .mixedOrders=aa then U l else ae
structure yK(ops:Array Oper)(l:List (AO × List Nat))(b:List Nat):Prop where
 size:l.length=ops.size
 back:∀(i:Nat) o,ops[i]?=U o->∀e∈o.after,Region.binds .any e=aa->e.on<i
 mask:∀(i:Nat) o,ops[i]?=U o->∀j,(b.getD i 0).testBit j=aa->∃e∈o.after,Region.binds .any e=aa/\(j=e.on\/(b.getD e.on 0).testBit j=aa)
 slot:∀(i j:Nat) (x y:AO × List Nat),l[i]?=U x->l[j]?=U y->∀d,y.1.dst=U d->d∈yp x.1->i≠j/\((b.getD i 0).testBit j=aa\/(b.getD j 0).testBit i=aa)
 dst:∀(i j:Nat) (x y:AO × List Nat),l[i]?=U x->l[j]?=U y->i≠j->∀d,y.1.dst=U d->x.1.dst≠U d
 bf:∀(i j:Nat) (x y:AO × List Nat),l[i]?=U x->l[j]?=U y->i<j->x.1.op.bf=aa->y.1.op.bf=aa->(b.getD j 0).testBit i=aa
 load:∀(i:Nat) (x:AO × List Nat),l[i]?=U x->x.1.op.BO=aa->∀m,n5 (lg eY l b) (eY x (b.getD i 0))<=m->m<=xK (lg eY l b) i->m∈x.2\/m=Ae (lg eY l b) i
def ang{b:List Nat}{o:Oper}{j:Nat}(h:(HA b o).testBit j=aa):∃e∈o.after,Region.binds .any e=aa/\(j=e.on\/(b.getD e.on 0).testBit j=aa):=by
 have key:∀(l:List Edge) (s:Nat),(l.foldl (λs e=>if Region.binds .any e then s|||2^e.on|||b.getD e.on 0 else s) s).testBit j=aa ->
  s.testBit j=aa\/∃e∈l,Region.binds .any e=aa/\(j=e.on\/(b.getD e.on 0).testBit j=aa):=by
  intro l;induction l with
  | nil=>intro s h;exact .inl h
  | cons e l ih =>
   intro s h;rw[yO] at h
   rcases ih _ h with h1 | ⟨e',h1,h2⟩
   .split at h1
    .rename_i hb;simp only[Nat.testBit_or,mg,Nat.testBit_two_pow,b7] at h1
     rcases h1 with(h1 | h1) | h1
     .exact .inl h1
     .exact .inr ⟨e,by simp,hb,.inl h1.symm⟩
     .exact .inr ⟨e,by simp,hb,.inr h1⟩
    .exact .inl h1
   .exact .inr ⟨e',by simp[h1],h2⟩
 rcases key o.after.toList 0 h with h1 | ⟨e,h1,h2⟩
 .simp at h1
 .exact⟨e,by simpa using h1,h2⟩
variable{i:Nat}
def ata{l:List (AO × List Nat)}{b:List Nat}(hl:b.length=l.length){x:AO × List Nat}(h:l[i]?=U x):(lg eY l b)[i]?=U (eY x (b.getD i 0)):=by
 have az:=(eX.1 h).1;rw[List.getElem?_zipWith,h]
 have:b[i]?=U (b.getD i 0):=by
  rw[gU,cH (by omega)];rfl
 rw[this]
variable{ops:Array Oper}
def facts{l:List (AO × List Nat)}{b:List Nat}(h:xo ops l b=aa):yK ops l b:=by
 unfold xo at h;simp only[bA,b7,lf] at h;obtain⟨⟨⟨h1,h2⟩,h3⟩,h4⟩:=h;have S1:∀(i:Nat) o,ops[i]?=U o->((o,b.getD i 0),i)∈(ops.toList.zip b).zipIdx:=λi o ho=>by
  have az:=(ky.1 ho).1;rw[IN];rw[IL];refine⟨by simpa using ho,?_⟩;rw[gU,cH (by omega)];rfl
 have hd:∀(i:Nat) x,l[i]?=U x->(eY x (b.getD i 0),i)∈(lg eY l b).zipIdx:=λi x hx=>by
  rw[IN];exact ata (by omega) hx
 have pair:∀(i j:Nat) x y,l[i]?=U x->l[j]?=U y->CM i (eY x (b.getD i 0)) j (eY y (b.getD j 0))=true:=λi j x y hx hy=>(h4 _ (hd i x hx)).1 _ (hd j y hy)
 refine⟨h1,λi o ho e he hb=>?_,λi o ho j hj=>?_,λi j x y hx hy d zu hr=>?_,λi j x y hx hy aQ d zu=>?_,λi j x y hx hy az he1 he2=>?_,λi x hx v9 m dB mr=>?_⟩
 .have:=(h3 _ (S1 i o ho)).1 e (by simpa using he)
  simpa [hb] using this
 .have this:b.getD i 0=HA b o:=(h3 _ (S1 i o ho)).2;rw[this] at hj;exact ang hj
 .have:=pair i j x y hx hy
  simp only[CM,eY,zu,bA,mg,tP,bne_iff_ne,A6] at this;have hc:(yp x.1).contains d=true:=by simpa using hr
  rcases this.1.1 with h | ⟨h5,h6⟩
  .rw[hc] at h;simp at h
  .exact⟨h5,h6⟩
 .have:=pair i j x y hx hy
  simp only[CM,eY,zu,bA,mg,tP,bne_iff_ne,A6] at this
  rcases this.1.2 with h | h
  .exact absurd h aQ
  .exact h
 .have:=pair i j x y hx hy
  simp only[CM,eY,bA,mg,tP,he1,he2,az,bS,Iv] at this
  rcases this.2 with h | h
  .simp at h
  .exact h
 .have:=(h4 _ (hd i x hx)).2
  simp only[PY,eY,v9,mg,tP,lf,AV,A6] at this
  rcases this with h | h
  .simp at h
  .have:=h (m - n5 (lg eY l b) (eY x (b.getD i 0))) (by simp only[eY,v9] at dB ⊢;omega)
   simp only[eY,v9] at this dB;rw[show n5 (lg eY l b) ⟨x.1.dst,yp x.1,x.1.op.bf,aa,x.2,b.getD i 0⟩+(m - n5 (lg eY l b) ⟨x.1.dst,yp x.1,x.1.op.bf,aa,x.2,b.getD i 0⟩)=m from by omega] at this
   rcases this with h | h
   .left;simpa using h
   .exact .inr h
def Ma{P:Program}{ops:Array Oper}:∀{os:List Oper} {l:List AO},zX P ops os=U l->l.length=os.length/\∀i:Nat,∀o,os[i]?=U o->∃x,l[i]?=U x/\tg P ops o=U x
 | [],l,h=>by simp only[zX,aY] at h;subst h;exact⟨rfl,λi o h=>by simp at h⟩
 | o :: os, l, h => by
  simp only[zX,gV,cZ] at h;obtain⟨x,h1,l',h2,rfl⟩:=h;obtain⟨h3,h4⟩:=Ma h2;refine⟨by simp[h3],λi q hq=>?_⟩;cases i with
  | zero=>simp at hq;subst hq;exact⟨x,by simp,h1⟩
  | succ i=>simp at hq;obtain⟨y,k1,k2⟩:=h4 i q hq;exact⟨y,by simpa using k1,k2⟩
def akV{l:List (AO × List Nat)}(h:Hn P ops=U l):
 ∃b,yK ops l b/\b.length=ops.size/\P.follows .mixedOrders=aa/\∀(i:Nat) o,ops[i]?=U o->∃x:AO × List Nat,l[i]?=U x/\tg P ops o=U x.1:=by
 unfold Hn at h;cases h0:zX P ops ops.toList with
 | none=>rw[h0] at h;simp at h
 | some l0 =>
 rw[h0] at h;simp only at h;split at h
 case isFalse=>simp at h
 rename_i hc;simp only[aY] at h;subst h;refine⟨_,facts hc.1,?_,hc.2,λi o ho=>?_⟩
 .have:=hc.1
  unfold xo at this;simp only[bA,b7] at this;exact this.1.1.2
 .have hlen:=(facts hc.1).size;obtain⟨h1,h2⟩:=Ma h0;obtain⟨x,k1,k2⟩:=h2 i o (by simpa using ho);have az:=(ky.1 ho).1;generalize hL:(l0.zip (lg eY (l0.map λo=>(o,[])) (wy ops.toList [])))=z at hlen ⊢;have hz:i<z.length:=by simp at hlen;omega
  refine⟨_,by rw[vu,OV,cH hz];rfl,?_⟩
  have:z[i].1=x:=by
   have e:z[i]?=U z[i]:=cH hz;subst hL;rw[IL] at e;rw[k1] at e;exact(tY e.1).symm
  simpa [this] using k2
end Go.Am
