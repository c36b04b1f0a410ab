/-
  Part 1 of the proof of StackNobodyUptoCardSaid: a logic over the model, the forms of the functions that the law reaches, and what they compute.
-/
import Derived.WalkKit
import Derived.Orders
import Derived.Below
import Derived.Laws.Append
import Derived.Laws.AppendOwn
import Derived.Laws.Cells
import Derived.Laws.CopyRow
import Derived.Laws.BytesString
import Derived.Laws.Slices
import Derived.Laws.Small
import Derived.Laws.StructEq
import Derived.ChangeKeysEq
set_option linter.unusedVariables false
set_option linter.unusedSimpArgs false
set_option linter.defProp false
set_option linter.unusedSectionVars false
set_option maxRecDepth 4000
set_option maxHeartbeats 4000000
open Option renaming some->U,none->af
open Bool renaming true->aa,false->ak
open List renaming replicate->au,range->bU,getD->gU,zipWith->lq
open Eq renaming mpr->eQ
open Ne renaming symm->fi
namespace Go.Am
def ae := @And.intro
def aC := @if_neg
def aE := @if_pos
def aM := @decide_eq_false
def aN := @List.length_map
def aQ := @decide_eq_true
def aZ := @Option.some.injEq
def bC := @Bool.and_eq_true
def bM := @decide_true
def bN := @List.length_append
def bP := @Nat.le_refl
def b8 := @List.map_cons
def ca := @decide_eq_true_eq
def cn := @if_false
def cD := @if_true
def cL := @List.getElem?_eq_getElem
def c7 := @Option.map_eq_some_iff
def dd := @List.length_cons
def dm := @Bool.false_eq_true
def eB := @List.append_assoc
def eD := @List.append_nil
def eE := @List.forall_mem_cons
def eM := @List.length_nil
def eN := @List.take_length
def eR := @List.map_nil
def fg := @List.getElem?_eq_some_iff
def fh := @List.getElem_mem
def fk := @decide_false
def f_ := @List.map_append
def gd := @List.nil_append
def gz := @List.cons.injEq
def gC := @List.length_singleton
def gI := @List.cons_append
def gX := @congrArg
def ij := @and_true
def iI := @Option.bind_eq_some_iff
def iR := @List.length_take
def jd := @List.map_eq_append_iff
def je := @Nat.add_mul
def ju := @Int.toNat_natCast
def jv := @List.length_eq_zero_iff
def jw := @List.mem_append
def jx := @List.take_succ_eq_append_getElem
def jy := @Nat.zero_add
def kG := @Array.getElem?_eq_some_iff
def kH := @List.flatten_cons
def kI := @List.mem_cons
def lj := @Bool.true_and
def ln := @List.all_eq_true
def lU := @Array.getElem?_eq_getElem
def mn := @Bool.or_eq_true
def mq := @List.drop_eq_getElem_cons
def mU := @List.singleton_append
def nM := @List.sum_cons
def nN := @Prod.mk.injEq
def pj := @List.mem_singleton
def pU := @true_and
def pY := @Array.getD_eq_getD_getElem?
def pZ := @Bool.true_eq_false
def p7 := @List.flatMap_cons
def qz := @List.range_succ
def qA := @List.take_append_drop
def rA := @List.mem_of_getElem?
def rB := @List.sum_nil
def rC := @Nat.mul_le_mul_right
def rG := @decide_eq_decide
def sz := @List.eq_nil_of_length_eq_zero
def sA := @List.getElem?_append_left
def sB := @Nat.mul_one
def tQ := @BitVec.getLsbD_and
def tR := @Bool.not_eq_true'
def tT := @List.all_cons
def tU := @List.flatten_append
def tV := @List.getElem?_drop
def tW := @List.mem_map
def tX := @List.range_eq_range'
def tY := @Option.some.inj
def vp := @Bool.and_true
def vq := @Function.comp_def
def vt := @List.getElem?_map
def vu := @List.take_succ_cons
def vv := @Nat.lt_of_lt_of_le
def vw := @Nat.lt_or_ge
def vA := @Option.bind_some
def vB := @Option.map_some
def wV := @Bool.decide_and
def wW := @Int.natCast_zero
def wY := @List.drop_drop
def wZ := @Nat.add_zero
def w7 := @Nat.le_trans
def w8 := @Nat.min_eq_left
def w9 := @Nat.one_mul
def yK := @List.flatMap_append
def yL := @List.foldl_cons
def yM := @List.getElem?_eq_none
def yN := @List.getElem?_take_of_lt
def yO := @List.mem_range
def yP := @List.replicate_succ
def yQ := @List.take_of_length_le
def yR := @Nat.lt_trichotomy
def AK := @Array.getElem?_setIfInBounds_ne
def AL := @Array.length_toList
def AQ := @List.foldl_append
def AR := @List.getElem?_append_right
def AS := @List.mem_of_mem_take
def AU := @Option.isNone_none
def A2 := @beq_iff_eq
def Ch := @Array.ext'
def Cj := @BitVec.getLsbD_of_ge
def Ck := @Bool.and_eq_false_iff
def Cl := @Bool.eq_iff_iff
def Cm := @Bool.or_eq_false_iff
def Co := @Int.eq_ofNat_of_zero_le
def Cp := @List.drop_succ_cons
def Cq := @List.find?_append
def Cr := @List.getElem?_set_ne
def Cs := @List.map_map
def Ct := @List.range'_succ
def Cu := @Nat.add_comm
def Cv := @Option.isNone_iff_eq_none
def Cw := @Option.isNone_some
def Cx := @Option.isSome_none
def CR := @decide_eq_false_iff_not
def CT := @dif_pos
def CW := @false_and
def D9 := @or_false
def EK := @Bool.false_or
def EP := @List.any_eq_true
def ER := @List.drop_length
def ES := @List.filter_cons
def ET := @List.find?_eq_some_iff_append
def EU := @List.getElem_cons_succ
def EV := @List.getLast?_concat
def EW := @List.map_singleton
def EX := @List.not_mem_nil
def EY := @Nat.add_assoc
def EZ := @Nat.le_zero
def E5 := @Nat.succ_mul
def E8 := @Option.getD_some
def E9 := @Option.isSome_some
def Hu := @not_true_eq_false
def Iw := @Bool.and_self
def IB := @Int.le_refl
def IC := @Int.ofNat_eq_natCast
def IE := @List.all_append
def IF := @List.all_eq_false
def IG := @List.dropLast_concat
def IH := @List.drop_take
def II := @List.drop_zero
def IJ := @List.filterMap_cons
def IK := @List.filter_append
def IL := @List.find?_eq_none
def IM := @List.getElem?_range
def IN := @List.getElem?_take
def IP := @List.getElem?_zip_eq_some
def IQ := @List.length_drop
def IS := @List.mem_zipIdx_iff_getElem?
def IU := @Nat.eq_zero_or_pos
def IV := @Nat.le_of_lt
def IW := @Nat.zero_le
def I2 := @and_assoc
def MC := @of_decide_eq_true
def OC := @Array.getElem?_toList
def OD := @Array.mem_of_getElem?
def OE := @Array.toList_setIfInBounds
def OF := @BitVec.getLsbD_or
def OG := @BitVec.toNat_shiftLeft
def OH := @Bool.false_and
def OM := @List.all_nil
def ON := @List.count_cons_self
def OO := @List.count_eq_zero
def OP := @List.drop_eq_nil_of_le
def OR := @List.drop_of_length_le
def OS := @List.eq_nil_or_concat
def OT := @List.ext_getElem
def OU := @List.ext_getElem?
def OV := @List.flatMap_nil
def OW := @List.flatten_nil
def OX := @List.getElem?_set_self
def OY := @List.getElem?_zipIdx
def OZ := @List.getElem_map
def O0 := @List.length_filter_le
def O1 := @List.mem_cons_of_mem
def O2 := @List.mem_filter
def O3 := @List.mem_filterMap
def O4 := @List.mem_flatMap
def O5 := @List.mem_of_find?_eq_some
def O6 := @List.nodup_cons
def O7 := @List.range'_append
def O8 := @List.size_toArray
def O9 := @Nat.mod_eq_of_lt
def O_ := @Nat.mul_le_mul
def O' := @Nat.shiftLeft_eq
def Pb := @Option.isSome_iff_exists
def Pm := @UInt8.toNat_inj
def Uz := @not_false_eq_true
def XO := @Array.getElem?_extract
def XP := @Array.getElem?_setIfInBounds
def XQ := @BitVec.getLsbD_shiftLeft
def XR := @BitVec.getLsbD_ushiftRight
def XV := @List.append_inj_right'
def XW := @List.drop_append_of_le_length
def XX := @List.filter_eq_nil_iff
def XY := @List.getElem?_cons_zero
def XZ := @List.getElem?_replicate
def X0 := @List.getElem?_toArray
def X1 := @List.mem_iff_getElem?
def X2 := @List.perm_append_singleton
def X3 := @List.set_getElem_self
def X4 := @List.takeWhile_sublist
def X5 := @List.take_append_of_le_length
def X6 := @Nat.add_sub_cancel_left
def X7 := @Nat.lt_succ_iff_lt_or_eq
def X8 := @Nat.testBit_two_pow_sub_one
end Go.Am
namespace Go.Am
inductive Pl where
 | aD (i:Nat)
 | out (b:Nat)
 | jT (b:Nat)
inductive Tk where
 | no
 | aV
 | tk (t:Nat)
inductive V where
 | any
 | bool (b:Bool)
 | int (k:IntKind) (n:Int)
 | aF (s:List UInt8)
 | fV
 | ptr (p:Pl) (off:Nat)
 | elt (cs:List V) (off:Nat)
 | sl (t:Tk) (k:Nat) (l:List (List V))
 | agg (cs:List V)
 | bt (cs:List V)
 | fn (f:Fn) (first cap:List V)
 | raw (v:Value)
inductive eT where
 | const
 | l6
 | iB (i:Nat)
 | pJ
 | gl (t c:Nat)
def eT.gW:eT->Nat->Prop
 | .const,_=>True
 | .gl _ c,o=>o<c
 | _,_=>False
structure Env where
 w:World
 a7:Nat->eT
 aD:Nat->Option Nat
 aK:Nat->Option Nat
def Env.nl(E:Env):Env:={E with aD:=λ_=>af}
@[simp] theorem Env.Uu(E:Env):E.nl.w=E.w:=rfl
@[simp] theorem Env.Ut(E:Env):E.nl.a7=E.a7:=rfl
@[simp] theorem Env.atX(E:Env):E.nl.aK=E.aK:=rfl
@[simp] theorem Env.atW(E:Env)(i:Nat):E.nl.aD i=none:=rfl
@[simp] theorem Env.al8(E:Env):E.nl.nl=E.nl:=rfl
def ub(E:Env)(k n:Nat)(a:Option Addr)(cap:Nat):Tk->Prop
 | .no=>True
 | .aV=>cap=n
 | .tk t=>∃m,E.aK t=U m/\n<=m/\(n=m->cap=n\/∃b cs e,a=U ⟨b,0,af⟩/\E.a7 b = .gl t (n*k)/\E.w.heap[b]?=U (.cells cs e (0,0))/\cs.size=cap*k)
mutual
def R:Env->V->Value->Prop
 | _,.any,_=>True
 | _,.bool b,v=>v = .bool b
 | _,.int k n,v=>v = .int k n
 | _,.aF s,v=>v = .string ⟨s.toArray⟩
 | _,.fV,v=>v = .pointer af
 | E,.ptr (.aD i) off,v=>∃b,E.aD i=U b/\v = .pointer (U ⟨b,off,af⟩)
 | _,.ptr (.out b) off,v=>v = .pointer (U ⟨b,off,af⟩)
 | _,.ptr (.jT b) off,v=>v = .pointer (U ⟨b,off,af⟩)
 | E,.elt cs off,v=>∃b o,v = .pointer (U ⟨b,o+off,af⟩)/\dZ E.nl cs b o
 | E,.sl t k l,v=>∃a cap,v = .slice a l.length cap/\l.length<=cap/\(l=[]\/∃b o,a=U ⟨b,o,af⟩/\gq E.nl k l b o)/\ub E k l.length a cap t
 | E,.agg cs,v=>∃vs,v = .agg vs/\RL E cs vs.toList
 | E,.bt cs,v=>∃vs,v = .tuple vs/\RL E cs vs.toList
 | E,.fn f first cap,v=>∃fs cs,v = .func f fs cs/\RL E first fs.toList/\RL E cap cs.toList
 | _,.raw u,v=>v=u
def dZ:Env->List V->Nat->Nat->Prop
 | _,[],_,_=>True
 | E,x::xs,b,o=>(∃c,E.w.cell? ⟨b,o,af⟩=U c/\(E.a7 b).gW o/\c.oneCell' = aa/\R E x c)/\dZ E xs b (o+1)
def gq:Env->Nat->List (List V)->Nat->Nat->Prop
 | _,_,[],_,_=>True
 | E,k,x::xs,b,o=>x.length=k/\dZ E x b o/\gq E k xs b (o+k)
def RL:Env->List V->List Value->Prop
 | _,[],[]=>True
 | E,x::xs,v::vs=>R E x v/\RL E xs vs
 | _,_,_=>False
end
structure Env.le(E E' : Env):Prop where
 cell:∀b o c,(E.a7 b).gW o->E.w.cell? ⟨b,o,af⟩=U c->(E'.a7 b).gW o/\E'.w.cell? ⟨b,o,af⟩=U c
 aD:∀i b,E.aD i=U b->E'.aD i=U b
 tok:∀t n,E.aK t=U n->∃n',E'.aK t=U n' /\ n<=n' /\ (n' = n->∀b c,E.a7 b = .gl t c ->
  E'.a7 b = .gl t c/\∀cs e,E.w.heap[b]?=U (.cells cs e (0,0))->∃cs',E'.w.heap[b]?=U (.cells cs' e (0,0))/\cs'.size=cs.size)
variable{E E':Env}
def Env.le.nl(h:E.le E'):E.nl.le E'.nl:=⟨h.cell,λ_ _ h=>by simp at h,h.tok⟩
def Env.le.refl(E:Env):E.le E:=⟨λ_ _ _ h h' => ⟨h,h'⟩,λ_ _ h=>h,λ_ n h=>⟨n,h,bP _,λ_ _ _ hr=>⟨hr,λcs _ hc=>⟨cs,hc,rfl⟩⟩⟩⟩
def Env.le.trans{F G'':Env}(h:E.le F)(k:F.le G''):E.le G'':=by
 refine⟨λb o c hc hv=>?_,λi b hb=>k.aD i b (h.aD i b hb),λt n hn=>?_⟩
 .obtain⟨h1,h2⟩:=h.cell b o c hc hv;exact k.cell b o c h1 h2
 .obtain⟨n',h1,h2,h3⟩:=h.tok t n hn;obtain⟨Uk,k1,k2,k3⟩:=k.tok t n' h1;refine⟨Uk,k1,w7 h2 k2,λhe b c hr=>?_⟩;have e1:n' = n:=by omega
  have e2:Uk = n' := by omega
  obtain⟨r1,r2⟩:=h3 e1 b c hr;obtain⟨s1,s2⟩:=k3 e2 b c r1;refine⟨s1,λcs e bR=>?_⟩;obtain⟨cs',q1,q2⟩:=r2 cs e bR;obtain⟨abw,q3,q4⟩:=s2 cs' e q1;exact⟨abw,q3,q4.trans q2⟩
variable{a:Option Addr}{cap k:Nat}
def ub.mono(h:E.le E'){n:Nat}{t:Tk}(ht:ub E k n a cap t):ub E' k n a cap t:=by
 cases t with
 | no=>trivial
 | aV=>exact ht
 | tk t =>
  obtain⟨m,h1,h2,h3⟩:=ht;obtain⟨m',k1,k2,k3⟩:=h.tok t m h1;refine⟨m',k1,w7 h2 k2,λhe=>?_⟩;have e1:n=m:=by omega
  have e2:m' = m:=by omega
  rcases h3 e1 with h4 | ⟨b,cs,e,ha,hr,hc,hs⟩
  .exact .inl h4
  .obtain⟨r1,r2⟩:=k3 e2 b _ hr;obtain⟨cs',r3,r4⟩:=r2 cs e hc;exact .inr ⟨b,cs',e,ha,r1,r3,r4.trans hs⟩
mutual
def R.mono:∀(x:V) {E E' : Env} (_:E.le E') {v:Value},R E x v->R E' x v
 | .any,_,_,_,_,_=>by simp only[R]
 | .bool _,_,_,_,_,hr=>by simp only[R] at hr ⊢;exact hr
 | .int _ _,_,_,_,_,hr=>by simp only[R] at hr ⊢;exact hr
 | .aF _,_,_,_,_,hr=>by simp only[R] at hr ⊢;exact hr
 | .fV,_,_,_,_,hr=>by simp only[R] at hr ⊢;exact hr
 | .ptr (.aD i) _, _, _, h, _, hr => by
  simp only[R] at hr ⊢;obtain⟨b,h1,h2⟩:=hr;exact⟨b,h.aD i b h1,h2⟩
 | .ptr (.out _) _,_,_,_,_,hr=>by simp only[R] at hr ⊢;exact hr
 | .ptr (.jT _) _,_,_,_,_,hr=>by simp only[R] at hr ⊢;exact hr
 | .elt cs _, _, _, h, _, hr => by
  simp only[R] at hr ⊢;obtain⟨b,o,h1,h2⟩:=hr;exact⟨b,o,h1,dZ.mono cs h.nl h2⟩
 | .sl t k l, _, _, h, _, hr => by
  simp only[R] at hr ⊢;obtain⟨a,cap,h1,h2,h3,h4⟩:=hr;refine⟨a,cap,h1,h2,?_,h4.mono h⟩
  rcases h3 with h3 | ⟨b,o,h3,h5⟩
  .exact .inl h3
  .exact .inr ⟨b,o,h3,gq.mono l h.nl h5⟩
 | .agg cs, _, _, h, _, hr => by
  simp only[R] at hr ⊢;obtain⟨vs,h1,h2⟩:=hr;exact⟨vs,h1,RL.mono cs h h2⟩
 | .bt cs, _, _, h, _, hr => by
  simp only[R] at hr ⊢;obtain⟨vs,h1,h2⟩:=hr;exact⟨vs,h1,RL.mono cs h h2⟩
 | .fn _ first cap, _, _, h, _, hr => by
  simp only[R] at hr ⊢;obtain⟨fs,cs,h1,h2,h3⟩:=hr;exact⟨fs,cs,h1,RL.mono first h h2,RL.mono cap h h3⟩
 | .raw _,_,_,_,_,hr=>by simp only[R] at hr ⊢;exact hr
def dZ.mono:∀(l:List V) {E E' : Env} (_:E.le E') {b o:Nat},dZ E l b o->dZ E' l b o
 | [],_,_,_,_,_,_=>by simp only[dZ]
 | x :: xs, _, _, h, b, o, hr => by
  simp only[dZ] at hr ⊢;obtain⟨⟨c,h1,h2,h5,h3⟩,h4⟩:=hr;obtain⟨k1,k2⟩:=h.cell b o c h2 h1;exact⟨⟨c,k2,k1,h5,R.mono x h h3⟩,dZ.mono xs h h4⟩
def gq.mono:∀(l:List (List V)) {E E' : Env} (_:E.le E') {k b o:Nat},gq E k l b o->gq E' k l b o
 | [],_,_,_,_,_,_,_=>by simp only[gq]
 | x :: xs, _, _, h, _, _, _, hr => by
  simp only[gq] at hr ⊢;obtain⟨h1,h2,h3⟩:=hr;exact⟨h1,dZ.mono x h h2,gq.mono xs h h3⟩
def RL.mono:∀(l:List V) {E E' : Env} (_:E.le E') {vs:List Value},RL E l vs->RL E' l vs
 | [],_,_,_,[],_=>by simp only[RL]
 | [],_,_,_,_::_,hr=>by simp only[RL] at hr
 | _::_,_,_,_,[],hr=>by simp only[RL] at hr
 | x :: xs, _, _, h, v :: vs, hr => by
  simp only[RL] at hr ⊢;exact⟨R.mono x h hr.1,RL.mono xs h hr.2⟩
end
structure ag where
 box:Nat->Option (List V)
 aK:Nat->Option Nat
 bY:Nat->Option (List V)
structure St where
 t:List V
 aD:List (List V)
 out:ag
def jc(E:Env)(b:Nat)(cs:List V):Prop :=
 ∃c e,E.w.heap[b]?=U (.cells c e (0,0))/\cs.length<=c.size/\∀(j:Nat) x,cs[j]?=U x->∃v,c[j]?=U v/\R E x v
structure Env.ok(E:Env)(Z:ag):Prop where
 box:∀b cs,Z.box b=U cs->E.a7 b = .pJ/\jc E.nl b cs
 aK:∀t n,Z.aK t=U n->E.aK t=U n
 fresh:∀b,E.w.heap.size<=b->E.a7 b = .const
 nt:∃N,∀t,N<=t->E.aK t=af
 bY:∀b cs,Z.bY b=U cs->dZ E.nl cs b 0
structure Env.cV(E:Env)(ls:List (List V)):Prop where
 box:∀i cs,ls[i]?=U cs->∃b,E.aD i=U b/\E.a7 b = .iB i/\jc E b cs
 none:∀i,ls.length<=i->E.aD i=af
def ahq(w:World)(c:Array Value)(t:TypeId)(a:Addr):(w.alloc (.cells c t)).frozen? a=w.frozen? a:=by
 by_cases h:a.block=w.heap.size
 .have e1:(w.alloc (.cells c t)).heap[a.block]?=U (.cells c t):=by rw[h];exact heap_alloc_new w _
  have e2:w.heap[a.block]?=none:=by rw[h];simp
  simp[World.frozen?,e1,e2]
 .by_cases h2:a.block<w.heap.size
  .simp only[World.frozen?,heap_alloc_old w (.cells c t) h2]
  .have e2:w.heap[a.block]?=none:=by simp;omega
   have e1:(w.alloc (.cells c t)).heap[a.block]?=none:=by simp;omega
   simp only[World.frozen?,e1,e2]
variable{b:Nat}{c new:Array Value}{e:TypeId}{w:World}
def C3(hb:w.heap[b]?=U (.cells c e (0,0)))(a:Addr):(w.setRow b new).frozen? a=w.frozen? a:=by
 by_cases h:a.block=b
 .have e1:=setRow_heap w b c new e _ hb;rw[<-h] at hb e1;simp only[World.frozen?,h] at hb e1 ⊢;simp only[e1,hb]
 .simp only[World.frozen?,setRow_other w b a.block new h]
structure Fr(E E' : Env):Prop where
 os:E'.w.os=E.w.os
 output:E'.w.output=E.w.output
 tape:E'.w.tape=E.w.tape
 size:E.w.heap.size<=E'.w.heap.size
 gu:∀a,E'.w.frozen? a=E.w.frozen? a
 cell:∀b o c,(E.a7 b).gW o->E.w.cell? ⟨b,o,af⟩=U c->(E'.a7 b).gW o/\E'.w.cell? ⟨b,o,af⟩=U c
 tok:∀t n,E.aK t=U n->∃n',E'.aK t=U n' /\ n<=n' /\ (n' = n->∀b c,E.a7 b = .gl t c ->
  E'.a7 b = .gl t c/\∀cs e,E.w.heap[b]?=U (.cells cs e (0,0))->∃cs',E'.w.heap[b]?=U (.cells cs' e (0,0))/\cs'.size=cs.size)
 same:∀b,b<E.w.heap.size->E.a7 b = .const\/E.a7 b = .l6->E'.w.heap[b]?=E.w.heap[b]?/\E'.a7 b=E.a7 b
 CH:∀b,b<E.w.heap.size->E'.a7 b = .pJ->E.a7 b = .pJ\/∃j,E.a7 b = .iB j
 CJ:∀b t c,b<E.w.heap.size->E'.a7 b = .gl t c->∃c0,E.a7 b = .gl t c0
 A0:∀b i,b<E.w.heap.size->E'.a7 b = .iB i->∃j,E.a7 b = .iB j
 shape:∀(b:Nat) (c:Array Value) (e:TypeId),E.w.heap[b]?=U (.cells c e (0,0))->∃c' : Array Value,E'.w.heap[b]?=U (.cells c' e (0,0))/\c'.size=c.size
def Fr.le(h:Fr E E')(hl:∀i b,E.aD i=U b->E'.aD i=U b):E.le E' := ⟨h.cell,hl,h.tok⟩
def Fr.nl(h:Fr E E'):E.nl.le E'.nl:=⟨h.cell,λ_ _ h=>by simp at h,h.tok⟩
def Fr.refl(E:Env):Fr E E :=
 ⟨rfl,rfl,rfl,bP _,λ_=>rfl,(Env.le.refl E).cell,(Env.le.refl E).tok,λ_ _ _=>⟨rfl,rfl⟩,λ_ _ h=>.inl h,λ_ _ c _ h=>⟨c,h⟩,λ_ i _ h=>⟨i,h⟩,λ_ c _ h=>⟨c,h,rfl⟩⟩
def Fr.trans{F G'':Env}(h:Fr E F)(k:Fr F G''):Fr E G'':=by
 refine⟨k.os.trans h.os,k.output.trans h.output,k.tape.trans h.tape,w7 h.size k.size,λa=>(k.gu a).trans (h.gu a),?_,?_,?_,?_,?_,?_,?_⟩
 .intro b o c hc hv;obtain⟨h1,h2⟩:=h.cell b o c hc hv;exact k.cell b o c h1 h2
 .have h' : Env.le {E with aD:=λ_=>af} {F with aD:=λ_=>af}:=⟨h.cell,λ_ _ h=>h,h.tok⟩;have k' : Env.le {F with aD:=λ_=>af} {G'' with aD:=λ_=>af}:=⟨k.cell,λ_ _ h=>h,k.tok⟩;exact(h'.trans k').tok
 .intro b hb hr;obtain⟨h1,h2⟩:=h.same b hb hr;obtain⟨k1,k2⟩:=k.same b (vv hb h.size) (by rw[h2];exact hr);exact⟨k1.trans h1,k2.trans h2⟩
 .intro b hb hr
  rcases k.CH b (vv hb h.size) hr with h1 | ⟨j,hj⟩
  .exact h.CH b hb h1
  .exact .inr (h.A0 b j hb hj)
 .intro b t c hb hr;obtain⟨c0,h0⟩:=k.CJ b t c (vv hb h.size) hr;exact h.CJ b t c0 hb h0
 .intro b i hb hr;obtain⟨j,hj⟩:=k.A0 b i (vv hb h.size) hr;exact h.A0 b j hb hj
 .intro b c e hb;obtain⟨c1,h1,h2⟩:=h.shape b c e hb;obtain⟨c2,k1,k2⟩:=k.shape b c1 e h1;exact⟨c2,k1,k2.trans h2⟩
structure bE(E:Env)(st:St)(a:Act):Prop where
 ok:E.ok st.out
 cV:E.cV st.aD
 defers:a.defers=[]
 slot:RL E st.t a.tmps.toList
def iF(P:Program)(c:Code)(Q:Exit->St->Prop)(st:St):Prop :=
 ∀E a,bE E st a->c.wp P (λe a' w' => ∃E' aJ,E'.w=w' /\ bE E' aJ a' /\ Fr E E' /\ Q e aJ) a E.w
def OJ(P:Program)(f:FuncId):Prop:=∀args w,(callFunc f args).run P w = .ok (.enter f args) w
def cg(P:Program)(f:FuncId)(args:List V)(Z:ag)(R' : V->ag->Prop):Prop :=
 OJ P f/\∀(E:Env) (vs:Array Value),(∀i,E.aD i=af)->E.ok Z->RL E args vs.toList ->
  Calls P f vs E.w λe w' => ∃v x E' σ',e = .returned x/\E'.w=w' /\ (∀i,E'.aD i=af)/\E'.ok σ' /\ R E' v x/\Fr E E' /\ R' v σ'
variable{P:Program}{f:FuncId}{Z:ag}
def cg.mono{args:List V}{Pg Ph:V->ag->Prop}(h:cg P f args Z Pg)
 (hr:∀v σ',Pg v σ' -> Ph v σ'):cg P f args Z Ph :=
 ⟨h.1,λE vs h1 h2 h3=>(h.2 E vs h1 h2 h3).mono λ_ _ ⟨v,x,E',σ',a,b,c,d,e,f,g⟩=>⟨v,x,E',σ',a,b,c,d,e,f,hr _ _ g⟩⟩
variable{Q:Exit->St->Prop}{st:St}
def M3{c:Code}{Q':Exit->St->Prop}(h:iF P c Q st)(hq:∀e st,Q e st->Q' e st):iF P c Q' st :=
 λE a hs=>wp_mono (h E a hs) λ_ _ _ ⟨E',aJ,h1,h2,h3,h4⟩=>⟨E',aJ,h1,h2,h3,hq _ _ h4⟩
def Yb(P:Program)(c:Code)(Q:Exit->St->Prop):Exit->St->Prop
 | .normal,st=>iF P c Q st
 | e,st=>Q e st
def aoX{x y:Code}(h:iF P x (Yb P y Q) st):iF P (.seq x y) Q st:=by
 intro E a hs;refine wp_seq (wp_mono (h E a hs) ?_);rintro e a' w' ⟨E',aJ,rfl,h2,h3,h4⟩;cases e with
 | normal=>exact wp_mono (h4 E' a' h2) λ_ _ _ ⟨mo,Es,k1,k2,k3,k4⟩=>⟨mo,Es,k1,k2,h3.trans k3,k4⟩
 | exit id=>exact⟨E',aJ,rfl,h2,h3,h4⟩
 | goto l=>exact⟨E',aJ,rfl,h2,h3,h4⟩
 | ret=>exact⟨E',aJ,rfl,h2,h3,h4⟩
 | panic c=>exact⟨E',aJ,rfl,h2,h3,h4⟩
 | outgrown=>exact⟨E',aJ,rfl,h2,h3,h4⟩
def aoY(h:Q .normal st):iF P .skip Q st :=
 λE _ hs=>wp_skip ⟨E,st,rfl,hs,Fr.refl E,h⟩
def aoR{id:Nat}(h:Q (.exit id) st):iF P (.exit id) Q st :=
 λE _ hs=>wp_exit ⟨E,st,rfl,hs,Fr.refl E,h⟩
def aoV(h:Q .ret st):iF P .ret Q st :=
 λE _ hs=>wp_ret ⟨E,st,rfl,hs,Fr.refl E,h⟩
def aoS{l:Nat}(h:Q .normal st):iF P (.label l) Q st :=
 λE _ hs=>wp_label ⟨E,st,rfl,hs,Fr.refl E,h⟩
def rz(id:Nat)(Q:Exit->St->Prop):Exit->St->Prop
 | .exit zL,st=>if zL = id then Q .normal st else Q (.exit zL) st
 | e,st=>Q e st
def aoQ{c:Code}{id:Nat}(h:iF P c (rz id Q) st):iF P (.block id c) Q st:=by
 intro E a hs;refine wp_block (wp_mono (h E a hs) ?_);rintro e a' w' ⟨E',aJ,rfl,h2,h3,h4⟩;cases e with
 | exit zL =>
  simp only[rz] at h4;simp only[Exit.inBlock];split
  .rename_i h5;rw[aE h5] at h4;exact⟨E',aJ,rfl,h2,h3,h4⟩
  .rename_i h5;rw[aC h5] at h4;exact⟨E',aJ,rfl,h2,h3,h4⟩
 | normal=>exact⟨E',aJ,rfl,h2,h3,h4⟩
 | goto l=>exact⟨E',aJ,rfl,h2,h3,h4⟩
 | ret=>exact⟨E',aJ,rfl,h2,h3,h4⟩
 | panic c=>exact⟨E',aJ,rfl,h2,h3,h4⟩
 | outgrown=>exact⟨E',aJ,rfl,h2,h3,h4⟩
def Fc{E:Env}:∀{l:List V} {vs:List Value},RL E l vs->∀(n:Nat) (u:Value),R E (l.getD n .any) (vs.getD n u)
 | [],[],_,n,u=>by simp[R]
 | [],_::_,h,_,_=>by simp[RL] at h
 | _::_,[],h,_,_=>by simp[RL] at h
 | x :: xs, v :: vs, h, n, u => by
  simp only[RL] at h;cases n with
  | zero=>simpa using h.1
  | succ n=>simpa using Fc h.2 n u
def fI{E:Env}:∀{l:List V} {vs:List Value},RL E l vs->l.length=vs.length
 | [],[],_=>rfl
 | [],_::_,h=>by simp[RL] at h
 | _::_,[],h=>by simp[RL] at h
 | x :: xs, v :: vs, h => by
  simp only[RL] at h;simp[fI h.2]
def qC{E:Env}:∀{l:List V} {vs:List Value},RL E l vs->∀(n:Nat) (x:V),l[n]?=U x->∃v,vs[n]?=U v/\R E x v
 | [],[],_,n,x,hx=>by simp at hx
 | [],_::_,h,_,_,_=>by simp[RL] at h
 | _::_,[],h,_,_,_=>by simp[RL] at h
 | x :: xs, v :: vs, h, n, y, hy => by
  simp only[RL] at h;cases n with
  | zero=>simp at hy;subst hy;exact⟨v,by simp,h.1⟩
  | succ n=>simp at hy;obtain⟨u,h1,h2⟩:=qC h.2 n y hy;exact⟨u,by simpa using h1,h2⟩
def CA{E:Env}:∀{l:List V} {vs:List Value},l.length=vs.length->(∀(n:Nat) x v,l[n]?=U x->vs[n]?=U v->R E x v)->RL E l vs
 | [],[],_,_=>by simp[RL]
 | [],_::_,h,_=>by simp at h
 | _::_,[],h,_=>by simp at h
 | x :: xs, v :: vs, h, hx => by
  simp only[RL];exact⟨hx 0 x v (by simp) (by simp),CA (by simpa using h) λn y u h1 h2=>hx (n+1) y u (by simpa using h1) (by simpa using h2)⟩
def Fe{E:Env}:∀{l:List V} {vs:List Value},RL E l vs->∀(n:Nat) {x:V} {v:Value},R E x v->RL E (l.set n x) (vs.set n v)
 | [],[],_,_,_,_,_=>by simp[RL]
 | [],_::_,h,_,_,_,_=>by simp[RL] at h
 | _::_,[],h,_,_,_,_=>by simp[RL] at h
 | x :: xs, v :: vs, h, n, y, u, hy => by
  simp only[RL] at h;cases n with
  | zero=>simp only[List.set,RL];exact⟨hy,h.2⟩
  | succ n=>simp only[List.set,RL];exact⟨h.1,Fe h.2 n hy⟩
def tZ{E:Env}:∀{l:List V} {vs:List Value} {m:List V} {us:List Value},RL E l vs->RL E m us->RL E (l++m) (vs++us)
 | [],[],_,_,_,h=>by simpa using h
 | [],_::_,_,_,h,_=>by simp[RL] at h
 | _::_,[],_,_,h,_=>by simp[RL] at h
 | x :: xs, v :: vs, _, _, h, k => by
  simp only[RL,gI] at h ⊢;exact⟨h.1,tZ h.2 k⟩
def Pd(vs:List Value):RL E (au vs.length V.any) vs:=by
 induction vs with
 | nil=>simp[RL]
 | cons v vs ih=>simp only[dd,yP,RL];exact⟨by simp[R],ih⟩
def St.put(st:St)(d:Option Nat)(v:V):St :=
 match d with
 | some n=>⟨st.t.set n v,st.aD,st.out⟩
 | none=>st
variable{v:V}
def bE.put{a:Act}(h:bE E st a){x:Value}(hv:R E v x)(d:Option Nat):bE E (st.put d v) (a.put d x):=by
 cases d with
 | none=>exact h
 | some n=>exact⟨h.ok,h.cV,h.defers,by simpa [St.put,Act.put] using Fe h.slot n hv⟩
def aO:Nat:=268435456
inductive X where
 | s (n:Nat)
 | c (v:V)
inductive OQ where
 | nil
 | len
 | idx (k:Nat)
 | kF (k:Nat) (lo hi mx:Bool)
 | app (k:Nat)
 | mk (z:List V)
 | lI (k:Nat)
 | new (k:Nat)
 | min
 | max
 | HV (m k:Nat) (lo hi:Bool)
 | gu (k:Nat) (lo hi:Bool)
 | Ju
 | mu
 | I5
 | A7 (k:Nat)
 | Jm
 | Lr
 | GU (m:Nat)
 | aG
inductive aI where
 | mv (x:X)
 | pick (c a b:X)
 | alloc (z:List V)
 | box (n:Nat) (x:X)
 | uh (n:Nat) (x:X)
 | build (z:List V) (ps:List (Nat × Nat × X))
 | kf (k:Nat) (xs:List X)
 | load (agg:Bool) (n:Nat) (x:X)
 | store (n:Nat) (a x:X)
 | uX (x:X)
 | ek (op:BinOp) (x y:X)
 | mW (op:BinOp) (x y:X)
 | uf (neg:Bool) (x y:X)
 | cat (x y:X)
 | ir (neg:Bool) (ks:List Nat) (x y:X)
 | qK (neg:Bool) (x y:X)
 | not (x:X)
 | uS (x:X)
 | uT (x:X)
 | nW (off:Nat) (x:X)
 | uz (agg:Bool) (off n:Nat) (x:X)
 | r6 (k:Nat) (x i:X)
 | sZ (x i:X)
 | q_ (m k:Nat) (x i:X)
 | call (f:FuncId) (xs:List X)
 | il (x:X) (xs:List X)
 | app (k:Nat) (s x:X)
 | mu (s x:X)
 | kF (k:Nat) (x:X) (lo hi mx:Option X)
 | yu (x:X) (lo hi:Option X)
 | ext (x:X) (i:Nat)
 | jG (f:Fn) (first cap:List X)
 | pr (k:IntKind) (x:X)
 | sI (x:X)
 | nP (z:List V)
 | gf (n:Nat) (x:X)
 | own (q:OQ) (xs:List X)
structure AO where
 dst:Option Nat
 op:aI
 guard:Option (Nat × Bool)
def ev(st:St):X->V
 | .s n=>st.t.getD n .any
 | .c v=>v
def cX(st:St):List X->List V
 | []=>[]
 | x::xs=>ev st x::cX st xs
def V.wd:V->Option Nat
 | .agg cs=>U cs.length
 | .any=>af
 | .bt _=>af
 | .raw u=>if u.oneCell' then U 1 else af
 | _=>U 1
def V.cells:V->List V
 | .agg cs=>cs
 | v=>[v]
def V.one:V->Bool
 | .bool _ | .int _ _ | .aF _ | .fV | .ptr _ _ | .elt _ _ | .sl _ _ _ | .fn _ _ _=>aa
 | .raw u=>u.oneCell'
 | _=>ak
def cC:List V->Bool
 | []=>aa
 | x::xs=>x.one&&cC xs
mutual
def V.cI:V->Bool
 | .ptr (.aD _) _=>ak
 | .agg cs=>bK cs
 | .bt cs=>bK cs
 | .fn _ first cap=>bK first&&bK cap
 | _=>aa
def bK:List V->Bool
 | []=>aa
 | x::xs=>x.cI&&bK xs
end
mutual
def V.erase:V->V
 | .sl _ k l=>.sl .no k l
 | .agg cs=>.agg (bx cs)
 | .bt cs=>.bt (bx cs)
 | v=>v
def bx:List V->List V
 | []=>[]
 | x::xs=>x.erase::bx xs
end
def takeN:Nat->List V->Option (List V)
 | 0,_=>U []
 | n+1,x::xs=>(takeN n xs).map (x::·)
 | _+1,[]=>af
def bF:Bool->Nat->List V->Option V
 | true,n,cs=>(takeN n cs).map V.agg
 | false,_,c::_=>U c
 | false,_,[]=>af
def over:List V->List V->List V
 | [],_=>[]
 | l,[]=>l
 | _::l,x::xs=>x::over l xs
def setAt:List V->Nat->List V->List V
 | l,0,xs=>over l xs
 | [],_+1,_=>[]
 | a::l,n+1,xs=>a::setAt l n xs
def bZ:Nat->List V->Bool
 | 0,_=>aa
 | n+1,_::xs=>bZ n xs
 | _+1,[]=>ak
def ag.set(Z:ag)(b:Nat)(cs:List V):ag:={Z with box:=λx=>if x=b then U cs else Z.box x}
def ag.aY(Z:ag)(t n:Nat):ag:={Z with aK:=λx=>if x=t then U n else Z.aK x}
def Fz(st:St):Pl->Option (List V)
 | .aD i=>st.aD[i]?
 | .out b=>st.out.box b
 | .jT b=>st.out.bY b
def kW(st:St)(agg:Bool)(n:Nat):V->Option V
 | .ptr p off=>(Fz st p).bind λcs=>bF agg n (cs.drop off)
 | .elt cs off=>bF agg n (cs.drop off)
 | _=>af
def dq(st:St)(n:Nat)(x:V):V->Option St
 | .ptr (.aD i) off=>(st.aD[i]?).bind λcs=>if bZ n (cs.drop off)=aa/\x.wd=U n/\cC x.cells=aa then U ⟨st.t,st.aD.set i (setAt cs off x.cells),st.out⟩ else af
 | .ptr (.out b) off=>(st.out.box b).bind λcs=>if bZ n (cs.drop off)=aa/\x.wd=U n/\cC x.cells=aa/\bK x.cells=aa then U ⟨st.t,st.aD,st.out.set b (setAt cs off x.cells)⟩ else af
 | _=>af
def nQ(st:St):List V->List (Nat × Nat × X)->Option (List V)
 | z,[]=>U z
 | z,(off,n,x)::ps=>if bZ n (z.drop off)=aa/\(ev st x).wd=U n then nQ st (setAt z off (ev st x).cells) ps else af
def lb(st:St)(k:Nat):List X->Option (List (List V))
 | []=>U []
 | x::xs=>if (ev st x).wd=U k/\bK (ev st x).cells=aa/\cC (ev st x).cells=aa then(lb st k xs).map (bx (ev st x).cells::·) else af
def zN:IntKind->IntKind->Bool
 | .i8,.i8 | .i16,.i16 | .i32,.i32 | .i64,.i64 | .u8,.u8 | .u16,.u16 | .u32,.u32 | .u64,.u64=>aa
 | _,_=>ak
def GV{a b:IntKind}(h:zN a b=aa):a=b:=by cases a<;>cases b<;>first | rfl | (simp[zN] at h)
def hD(k:IntKind)(a b:Int):BinOp->Option V
 | .add=>U (.int k (k.wrap (a+b)))
 | .sub=>U (.int k (k.wrap (a - b)))
 | .mul=>U (.int k (k.wrap (a*b)))
 | .eql=>U (.bool (decide (a=b)))
 | .neq=>U (.bool (!decide (a=b)))
 | .lss=>U (.bool (decide (a<b)))
 | .leq=>U (.bool (decide (a<=b)))
 | .gtr=>U (.bool (decide (b<a)))
 | .geq=>U (.bool (decide (b<=a)))
 | .quo=>if b=0 then af else U (.int k (k.wrap (a.tdiv b)))
 | .rem=>if b=0 then af else U (.int k (a.tmod b))
 | .and=>U (.int k (k.wrap ((BitVec.ofInt k.bits a&&&BitVec.ofInt k.bits b).toNat:Nat)))
 | .or=>U (.int k (k.wrap ((BitVec.ofInt k.bits a|||BitVec.ofInt k.bits b).toNat:Nat)))
 | .xor=>U (.int k (k.wrap ((BitVec.ofInt k.bits a ^^^ BitVec.ofInt k.bits b).toNat:Nat)))
 | .andNot=>U (.int k (k.wrap ((BitVec.ofInt k.bits a&&&~~~BitVec.ofInt k.bits b).toNat:Nat)))
 | .shl=>if b<0 then af else U (.int k (k.wrap (a*2^(Nat.min b.toNat k.bits))))
 | .shr=>if b<0 then af else U (.int k (a.fdiv (2^(Nat.min b.toNat k.bits))))
def zO:BinOp->Bool
 | .shl | .shr=>aa
 | _=>ak
def ug(op:BinOp):V->V->Option V
 | .int k a,.int k' b=>if zN k k' = aa\/zO op=aa then hD k a b op else af
 | _,_=>af
def wH(a b:List UInt8):BinOp->Option V
 | .eql=>U (.bool (decide (a=b)))
 | .neq=>U (.bool (!decide (a=b)))
 | .lss=>U (.bool (Op.bytesLess a b))
 | .leq=>U (.bool (Op.bytesLess a b||decide (a=b)))
 | .gtr=>U (.bool (!(Op.bytesLess a b||decide (a=b))))
 | .geq=>U (.bool (!Op.bytesLess a b))
 | _=>af
def yZ(op:BinOp):V->V->Option V
 | .aF a,.aF b=>wH a b op
 | _,_=>af
def xq(neg:Bool):V->V->Option V
 | .bool a,.bool b=>U (.bool (if neg then !decide (a=b) else decide (a=b)))
 | _,_=>af
def fA:List Nat->List V->List V->Option Bool
 | [],[],[]=>U aa
 | 1::ks,.int k a::xs,.int k' b::ys=>if zN k k' = aa then(fA ks xs ys).map (decide (a=b)&&·) else af
 | 2::ks,.aF a::xs,.aF b::ys=>(fA ks xs ys).map (decide (a=b)&&·)
 | 0::ks,.bool a::xs,.bool b::ys=>(fA ks xs ys).map (decide (a=b)&&·)
 | _,_,_=>af
def xp(neg:Bool)(ks:List Nat):V->V->Option V
 | .agg xs,.agg ys=>(fA ks xs ys).map λb=>.bool (if neg then !b else b)
 | _,_=>af
def isNil:V->Option Bool
 | .fV=>U aa
 | .ptr _ _=>U ak
 | _=>af
def K2(K:V->St->Prop)(st:St):V->Prop:=λv=>K v st
def opt(o:Option V)(K:V->Prop):Prop:=match o with | some v=>K v | none=>False
def IA(l:List (List V))(i:V)(K:List V->Prop):Prop:=∃k n x,i = .int k n/\0<=n/\l[n.toNat]?=U x/\K x
def pX(Z:ag)(k:Nat)(s x:V)(K:V->ag->Prop):Prop :=
 ∃t l m,s = .sl t k l/\(∃t',x = .sl t' k m)/\l.length+m.length<=aO /\
  match t with
  | .aV=>(∀Y,Z.aK Y=af->K (.sl (.tk Y) k (l++m)) (Z.aY Y (l.length+m.length)))\/K (.sl .no k (l++m)) Z\/∃Y,Z.aK Y=U l.length/\K (.sl (.tk Y) k (l++m)) (Z.aY Y (l.length+m.length))
  | .tk Y=>Z.aK Y=U l.length/\K (.sl (.tk Y) k (l++m)) (Z.aY Y (l.length+m.length))
  | .no=>False
def de(s:List UInt8):List (List V):=s.map λb=>[.int .u8 b.toNat]
def kM(b:Bool)(d:Nat)(vs:List V)(K:Nat->List V->Prop):Prop :=
 match b,vs with
 | false,vs=>K d vs
 | true,.int _ j::vs=>0<=j/\K j.toNat vs
 | true,_=>False
def yH(Z:ag)(k:Nat)(a:Option Addr)(n cap:Nat)(m:List (List V))(K:V->ag->Prop):Prop :=
 n<=cap/\n+m.length<=aO/\bK m.flatten=aa /\
 (m=[]->K (.raw (.slice a n cap)) Z) /\
 (m≠[]->n+m.length<=cap->∃b cs,a=U ⟨b,0,af⟩/\Z.box b=U cs/\n*k+m.length*k<=cs.length/\K (.raw (.slice a (n+m.length) cap)) (Z.set b (setAt cs (n*k) m.flatten))) /\
 (cap<n+m.length->∃cs,(n=0/\cs=[]\/∃b,a=U ⟨b,0,af⟩/\Z.box b=U cs/\n*k<=cs.length) /\
   ∀b' nR,Z.box b' = af->n+m.length<=nR -> K (.raw (.slice (U ⟨b',0,af⟩) (n+m.length) nR)) (Z.set b' (cs.take (n*k)++m.flatten++au ((nR - (n+m.length))*k) .any)))
def x7(k:Nat):List V->Option (List (List V))
 | []=>U []
 | v::vs=>if v.wd=U k/\bK v.cells=aa/\cC v.cells=aa then(x7 k vs).map (v.cells::·) else af
def zd:List UInt8->UInt8->Int
 | [],_=>-1
 | b::l,c=>if b == c then 0 else if zd l c == -1 then -1 else zd l c+1
def A4(cs:List V):List (List V):=cs.map λx=>[x]
def ag.del(Z:ag)(b:Nat):ag:={Z with box:=λx=>if x=b then af else Z.box x}
def HO(Z:ag)(a:Option Addr)(n:Nat)(s:List UInt8):Prop:=s.length=n/\(n=0\/∃b o cs,a=U ⟨b,o,af⟩/\Z.box b=U cs/\(cs.drop o).take n=s.map λc=>.int .u8 c.toNat)
def LR(k:Nat)(vs:List V)(H:List (List V)->Prop):Prop:=∃l,x7 k vs=U l/\H l
def AN(Z:ag)(k:Nat)(a:Option Addr)(m:Nat)(xs:List V)(K:V->ag->Prop):Prop :=
 (m=0->K (.int .i64 0) Z)/\(m≠0->∃b o cs,a=U ⟨b,o,af⟩/\Z.box b=U cs/\o+m*k<=cs.length/\K (.int .i64 m) (Z.set b (setAt cs o xs)))
def OI(Z:ag)(a:Option Addr)(n:Nat)(xs:List V):Prop :=
 n=0/\xs=[]\/∃b o cs,a=U ⟨b,o,af⟩/\Z.box b=U cs/\o+n<=cs.length/\xs=(cs.drop o).take n/\cC xs=aa
def D8(o:Option V)(K:V->Prop):Prop:=match o with | some c=>K c | none=>False
def OQ.ba(Z:ag)(K:V->ag->Prop):OQ->List V->Prop
 | .nil,[]=>K (.raw (.slice af 0 0)) Z
 | .len,[.raw (.slice _ n _)]=>K (.int .i64 n) Z
 | .idx k,[.raw (.slice (U ⟨b,o,af⟩) n _),.int _ j]=>0<=j/\j<n/\K (.ptr (.out b) (o+j.toNat*k)) Z
 | .kF k lo hi mx,.raw (.slice a n cap)::vs=>kM lo 0 vs λm vs=>kM hi n vs λh vs=>kM mx cap vs λM vs=>vs=[]/\m<=h/\h<=M/\M<=cap/\K (.raw (.slice (if M=m then a else a.map (·.add (m*k))) (h - m) (M - m))) Z
 | .app k,[.raw (.slice a n cap),.sl _ k' m]=>k' = k/\yH Z k a n cap m K
 | .mk z,[.int _ n]=>0<=n/\n<=aO/\bK z=aa/\0<z.length/\∀b',Z.box b' = af->K (.raw (.slice (U ⟨b',0,af⟩) n.toNat n.toNat)) (Z.set b' (au n.toNat z).flatten)
 | .lI k,vs=>LR k vs λl=>K (.sl .aV k l) Z
 | .new k,vs=>LR k vs λl=>bK l.flatten=aa/\∀b',Z.box b' = af->K (.raw (.slice (U ⟨b',0,af⟩) l.length l.length)) (Z.set b' l.flatten)
 | .min,[.int k a,.int k' b]=>zN k k' = aa/\K (.int k (if b<a then b else a)) Z
 | .max,[.int k a,.int k' b]=>zN k k' = aa/\K (.int k (if a<b then b else a)) Z
 | .HV m k lo hi,.ptr (.out b) o::vs=>kM lo 0 vs λl vs=>kM hi m vs λh vs=>vs=[]/\l<=h/\h<=m/\K (.raw (.slice (U (if m=l then ⟨b,o,af⟩ else ⟨b,o+l*k,af⟩)) (h - l) (m - l))) Z
 | .gu k lo hi,.raw (.slice (U ⟨b,o,af⟩) n cap)::vs=>kM lo 0 vs λl vs=>kM hi n vs λh vs=>vs=[]/\l<=h/\h<=cap/\k=1 /\
  ∃cs,Z.box b=U cs/\o+h<=cs.length/\cC (((cs.drop o).take h).drop l)=aa/\bK (((cs.drop o).take h).drop l)=aa/\K (.sl .no 1 (A4 (((cs.drop o).take h).drop l))) (Z.del b)
 | .Jm,[.aF s,.int .u8 c]=>K (.int .i64 (s.count c.toNat.toUInt8:Nat)) Z
 | .Lr,[.aF s,.int .u8 c]=>K (.int .i64 (zd s c.toNat.toUInt8)) Z
 | .Ju,[.raw (.slice a n _)]=>∃s,HO Z a n s/\K (.aF s) Z
 | .mu,[.raw (.slice a n cap),.aF s]=>yH Z 1 a n cap (de s) K
 | .I5,[.raw (.slice a n cap),.raw (.slice a' n' _)]=>∃s,HO Z a' n' s/\yH Z 1 a n cap (de s) K
 | .GU m,[.agg cs,.int _ j]=>0<=j/\j<m/\D8 cs[j.toNat]? λc=>c.cI=aa/\K c Z
 | .A7 k,[.raw (.slice a n _),.raw (.slice a' n' _)]=>∃xs,OI Z a' (Nat.min n' n*k) xs/\AN Z k a (Nat.min n' n) xs K
 | .A7 k,[.raw (.slice a n _),.sl _ k' m]=>k' = k/\m.length<=n/\AN Z k a m.length m.flatten K
 | _,_=>False
def OQ.pure:OQ->Bool
 | .nil | .len | .idx _ | .kF .. | .lI _ | .min | .max | .HV .. | .Jm | .Lr | .GU _=>aa
 | .app _ | .mk _ | .new _ | .gu .. | .Ju | .mu | .I5 | .A7 _ | .aG=>ak
def aI.ba(P:Program)(st:St)(K:V->St->Prop):aI->Prop
 | .mv x=>K (ev st x) st
 | .pick c a b=>match ev st c with | .bool aa=>K (ev st a) st | .bool ak=>K (ev st b) st | _=>False
 | .alloc z=>K (.ptr (.aD st.aD.length) 0) ⟨st.t,st.aD++[z],st.out⟩
 | .box n x=>(ev st x).wd=U n/\K (.ptr (.aD st.aD.length) 0) ⟨st.t,st.aD++[(ev st x).cells],st.out⟩
 | .uh n x=>(ev st x).wd=U n/\cC (ev st x).cells=aa/\K (.ptr (.aD st.aD.length) 0) ⟨st.t,st.aD++[(ev st x).cells],st.out⟩
 | .build z ps=>opt ((nQ st z ps).map V.agg) (K2 K st)
 | .kf k xs=>opt ((lb st k xs).map (V.sl .aV k)) (K2 K st)
 | .load agg n x=>opt (kW st agg n (ev st x)) (K2 K st)
 | .store n a x=>match dq st n (ev st x) (ev st a) with | some aJ => K .any aJ | none=>False
 | .uX x=>match ev st x with | .ptr p o=>K (.ptr p o) st | .elt c o=>K (.elt c o) st | .fn (.func f) a b=>K (.fn (.func f) a b) st | _=>False
 | .ek op x y=>opt (ug op (ev st x) (ev st y)) (K2 K st)
 | .mW op x y=>opt (yZ op (ev st x) (ev st y)) (K2 K st)
 | .uf neg x y=>opt (xq neg (ev st x) (ev st y)) (K2 K st)
 | .cat x y=>∃a b,ev st x = .aF a/\ev st y = .aF b/\a.length+b.length<=aO/\K (.aF (a++b)) st
 | .ir neg ks x y=>opt (xp neg ks (ev st x) (ev st y)) (K2 K st)
 | .qK neg x y=>match isNil (ev st x),ev st y with | some a,.fV=>K (.bool (if neg then !a else a)) st | _,_=>False
 | .not x=>match ev st x with | .bool b=>K (.bool (!b)) st | _=>False
 | .uS x=>match ev st x with | .sl _ _ l=>K (.int .i64 l.length) st | .raw (.slice _ n _)=>K (.int .i64 n) st | _=>False
 | .uT x=>match ev st x with | .aF s=>K (.int .i64 s.length) st | _=>False
 | .nW off x=>match ev st x with | .ptr p o=>K (.ptr p (o+off)) st | .elt c o=>K (.elt c (o+off)) st | _=>False
 | .uz agg off n x=>match ev st x with | .agg cs=>opt (bF agg n (cs.drop off)) (K2 K st) | _=>False
 | .r6 k x i => match ev st x with
  | .sl _ k' l=>k' = k/\IA l (ev st i) λc=>K (.elt c 0) st
  | .raw (.slice (U ⟨b,o,af⟩) n _)=>∃ik j,ev st i = .int ik j/\0<=j/\j<n/\K (.ptr (.out b) (o+j.toNat*k)) st
  | _=>False
 | .q_ m k x i => match ev st x with
  | .ptr p o=>∃kk n,ev st i = .int kk n/\0<=n/\n<(m:Nat)/\K (.ptr p (o+n.toNat*k)) st
  | .elt c o=>∃kk n,ev st i = .int kk n/\0<=n/\n<(m:Nat)/\K (.elt c (o+n.toNat*k)) st
  | _=>False
 | .sZ x i=>match ev st x with | .aF s=>∃k n c,ev st i = .int k n/\0<=n/\s[n.toNat]?=U c/\K (.int .u8 c.toNat) st | _=>False
 | .call f xs=>bK (cX st xs)=aa/\cg P f (cX st xs) st.out λv Z=>K v ⟨st.t,st.aD,Z⟩
 | .il x xs=>match ev st x with | .fn (.func f) a b=>bK (a++cX st xs++b)=aa/\cg P f (a++cX st xs++b) st.out λv Z=>K v ⟨st.t,st.aD,Z⟩ | _=>False
 | .app k s x=>pX st.out k (ev st s) (ev st x) λv Z=>K v ⟨st.t,st.aD,Z⟩
 | .mu s x=>∃a,ev st x = .aF a/\pX st.out 1 (ev st s) (.sl .no 1 (de a)) λv Z=>K v ⟨st.t,st.aD,Z⟩
 | .kF k x lo hi mx=>(∃t l a b,ev st x = .sl t k l/\a<=b/\b<=l.length/\(match lo with | none=>a=0 | some y=>∃j,ev st y = .int j a) /\
  (match hi with | none=>b=l.length | some y=>∃j,ev st y = .int j b) /\
  match mx with
  | none=>K (.sl .no k ((l.take b).drop a)) st
  | some y=>(∃j,ev st y = .int j b)/\K (.sl .aV k ((l.take b).drop a)) st) \/
  ∃a n cap m h,ev st x = .raw (.slice a n cap)/\m<=h/\h<=cap/\(match lo with | none=>m=0 | some y=>∃j,ev st y = .int j m)/\(match hi with | none=>h=n | some y=>∃j,ev st y = .int j h)/\mx.isNone=aa /\
   K (.raw (.slice (if cap=m then a else a.map (·.add (m*k))) (h - m) (cap - m))) st
 | .yu x lo hi=>∃s a b,ev st x = .aF s/\a<=b/\b<=s.length/\(match lo with | none=>a=0 | some y=>∃j,ev st y = .int j a) /\
  (match hi with | none=>b=s.length | some y=>∃j,ev st y = .int j b)/\K (.aF ((s.take b).drop a)) st
 | .ext x i=>match ev st x with | .bt vs=>opt vs[i]? (K2 K st) | _=>False
 | .jG f first cap=>K (.fn f (cX st first) (cX st cap)) st
 | .pr k x=>match ev st x with | .int _ n=>K (.int k (k.wrap n)) st | _=>False
 | .sI x=>∃t s,ev st x = .sl t 1 (de s)/\K (.aF s) st
 | .nP z=>bK z=aa/\∀b,st.out.box b=af->K (.ptr (.out b) 0) ⟨st.t,st.aD,st.out.set b z⟩
 | .gf n x=>(ev st x).wd=U n/\bK (ev st x).cells=aa/\∀b,st.out.box b=af->K (.ptr (.out b) 0) ⟨st.t,st.aD,st.out.set b (ev st x).cells⟩
 | .own q xs=>q.ba st.out (λv Z=>K v ⟨st.t,st.aD,Z⟩) (cX st xs)
def bV(P:Program):List AO->(St->Prop)->St->Prop
 | [],K,st=>K st
 | o :: r, K, st =>
  match o.guard with
  | none=>o.op.ba P st λv aJ => bV P r K (aJ.put o.dst v)
  | some (g, want) =>
   match ev st (.s g) with
   | .bool b=>if b=want then o.op.ba P st (λv aJ => bV P r K (aJ.put o.dst v)) else bV P r K (st.put o.dst (.bt []))
   | .bt []=>bV P r K (st.put o.dst (.bt []))
   | _=>False
mutual
def R.erase:∀(x:V) {E:Env} {v:Value},R E x v->R E x.erase v
 | .sl t k l, E, v, h => by
  simp only[V.erase,R] at h ⊢;obtain⟨a,cap,h1,h2,h3,_⟩:=h;exact⟨a,cap,h1,h2,h3,trivial⟩
 | .agg cs, E, v, h => by
  simp only[V.erase,R] at h ⊢;obtain⟨vs,h1,h2⟩:=h;exact⟨vs,h1,RL.erase cs h2⟩
 | .bt cs, E, v, h => by
  simp only[V.erase,R] at h ⊢;obtain⟨vs,h1,h2⟩:=h;exact⟨vs,h1,RL.erase cs h2⟩
 | .any,_,_,h=>by simpa [V.erase] using h
 | .bool _,_,_,h=>by simpa [V.erase] using h
 | .int _ _,_,_,h=>by simpa [V.erase] using h
 | .aF _,_,_,h=>by simpa [V.erase] using h
 | .fV,_,_,h=>by simpa [V.erase] using h
 | .ptr _ _,_,_,h=>by simpa [V.erase] using h
 | .elt _ _,_,_,h=>by simpa [V.erase] using h
 | .fn _ _ _,_,_,h=>by simpa [V.erase] using h
 | .raw _,_,_,h=>by simpa [V.erase] using h
def RL.erase:∀(l:List V) {E:Env} {vs:List Value},RL E l vs->RL E (bx l) vs
 | [],_,[],_=>by simp only[bx,RL]
 | [],_,_::_,h=>by simp only[RL] at h
 | _::_,_,[],h=>by simp only[RL] at h
 | x :: xs, _, v :: vs, h => by
  simp only[bx,RL] at h ⊢;exact⟨R.erase x h.1,RL.erase xs h.2⟩
end
def QW:∀l:List V,(bx l).length=l.length
 | []=>rfl
 | x::xs=>by simp[bx,QW xs]
variable{vs:List V}
def y1{b:Bool}{d:Nat}{K K' : Nat->List V->Prop}(h:kM b d vs K)(hk:∀n vs,K n vs->K' n vs):kM b d vs K' := by
 unfold kM at h ⊢;split at h
 .exact hk _ _ h
 .exact⟨h.1,hk _ _ h.2⟩
 .exact h.elim
variable{K K':V->ag->Prop}
def yH.mono{n:Nat}{m:List (List V)}(hk:∀v σ',K v σ' -> K' v σ')(h:yH Z k a n cap m K):yH Z k a n cap m K' := by
 obtain⟨h1,h2,h3,h4,h5,h6⟩:=h;refine⟨h1,h2,h3,λe=>hk _ _ (h4 e),λe e' => ?_,λe=>?_⟩
 .obtain⟨b,cs,g1,g2,g3,g4⟩:=h5 e e';exact⟨b,cs,g1,g2,g3,hk _ _ g4⟩
 .obtain⟨cs,g1,g2⟩:=h6 e;exact⟨cs,g1,λb' nR p1 p2=>hk _ _ (g2 b' nR p1 p2)⟩
variable{m:Nat}
def AN.mono{xs:List V}(hk:∀v σ',K v σ' -> K' v σ')(h:AN Z k a m xs K):AN Z k a m xs K' :=
 ⟨λe=>hk _ _ (h.1 e),λe=>let ⟨b,o,cs,h1,h2,h3,h4⟩:=h.2 e;⟨b,o,cs,h1,h2,h3,hk _ _ h4⟩⟩
def OQ.mono(hk:∀v σ',K v σ' -> K' v σ')(q:OQ)(vs:List V)(h:q.ba Z K vs):q.ba Z K' vs:=by
 unfold OQ.ba at h ⊢;split at h
 .exact hk _ _ h
 .exact hk _ _ h
 .exact⟨h.1,h.2.1,hk _ _ h.2.2⟩
 .exact y1 h λ_ _ h=>y1 h λ_ _ h=>y1 h λ_ _ h=>⟨h.1,h.2.1,h.2.2.1,h.2.2.2.1,hk _ _ h.2.2.2.2⟩
 .obtain⟨h0,h1,h2,h3,h4,h5,h6⟩:=h;refine⟨h0,h1,h2,h3,λe=>hk _ _ (h4 e),λe e' => ?_,λe=>?_⟩
  .obtain⟨b,cs,g1,g2,g3,g4⟩:=h5 e e';exact⟨b,cs,g1,g2,g3,hk _ _ g4⟩
  .obtain⟨cs,g1,g2⟩:=h6 e;exact⟨cs,g1,λb' nR p1 p2=>hk _ _ (g2 b' nR p1 p2)⟩
 .exact⟨h.1,h.2.1,h.2.2.1,h.2.2.2.1,λb' hb=>hk _ _ (h.2.2.2.2 b' hb)⟩
 .obtain⟨l,h1,h2⟩:=h;exact⟨l,h1,hk _ _ h2⟩
 .obtain⟨l,h1,h2,h3⟩:=h;exact⟨l,h1,h2,λb' hb=>hk _ _ (h3 b' hb)⟩
 .exact⟨h.1,hk _ _ h.2⟩
 .exact⟨h.1,hk _ _ h.2⟩
 .exact y1 h λ_ _ h=>y1 h λ_ _ h=>⟨h.1,h.2.1,h.2.2.1,hk _ _ h.2.2.2⟩
 .exact y1 h λ_ _ h=>y1 h λ_ _ h=>by
   obtain⟨g1,g2,g3,g4,cs,g5,g6,g7,g8,g9⟩:=h;exact⟨g1,g2,g3,g4,cs,g5,g6,g7,g8,hk _ _ g9⟩
 .exact hk _ _ h
 .exact hk _ _ h
 .obtain⟨s,h1,h2⟩:=h;exact⟨s,h1,hk _ _ h2⟩
 .exact h.mono hk
 .obtain⟨s,h1,h2⟩:=h;exact⟨s,h1,h2.mono hk⟩
 .obtain⟨h1,h2,h3⟩:=h;refine⟨h1,h2,?_⟩;unfold D8 at h3 ⊢;split at h3
  .exact⟨h3.1,hk _ _ h3.2⟩
  .exact h3.elim
 .obtain⟨s,h1,h2⟩:=h;exact⟨s,h1,h2.mono hk⟩
 .exact⟨h.1,h.2.1,h.2.2.mono hk⟩
 .exact h.elim
def CL{b:Bool}{d:Nat}{K:Nat->List V->Prop}(h:kM b d vs K):∃n B9,K n B9 /\ ∀K' : Nat->List V->Prop,K' n B9 -> kM b d vs K' := by
 unfold kM at h;split at h
 .exact⟨_,_,h,λ_ h=>by unfold kM;exact h⟩
 .exact⟨_,_,h.2,λ_ h' => by unfold kM;exact⟨h.1,h'⟩⟩
 .exact h.elim
def OQ.QC{q:OQ}(hp:q.pure=aa)(h:q.ba Z K vs):∃v,K v Z/\∀(fz:ag) (K' : V->ag->Prop),K' v fz->q.ba fz K' vs:=by
 unfold OQ.ba at h;split at h
 .exact⟨_,h,λ_ _ h=>by unfold OQ.ba;exact h⟩
 .exact⟨_,h,λ_ _ h=>by unfold OQ.ba;exact h⟩
 .exact⟨_,h.2.2,λ_ _ h' => by unfold OQ.ba;exact⟨h.1,h.2.1,h'⟩⟩
 .obtain⟨m,v1,h1,g1⟩:=CL h;obtain⟨hh,v2,h2,g2⟩:=CL h1;obtain⟨M,v3,h3,g3⟩:=CL h2;obtain⟨e1,e2,e3,e4,h4⟩:=h3;exact⟨_,h4,λ_ _ h' => by unfold OQ.ba;exact g1 _ (g2 _ (g3 _ ⟨e1,e2,e3,e4,h'⟩))⟩
 .simp[OQ.pure] at hp
 .simp[OQ.pure] at hp
 .obtain⟨l,h1,h2⟩:=h;exact⟨_,h2,λ_ _ h' => by unfold OQ.ba;exact⟨l,h1,h'⟩⟩
 .simp[OQ.pure] at hp
 .exact⟨_,h.2,λ_ _ h' => by unfold OQ.ba;exact⟨h.1,h'⟩⟩
 .exact⟨_,h.2,λ_ _ h' => by unfold OQ.ba;exact⟨h.1,h'⟩⟩
 .obtain⟨m,v1,h1,g1⟩:=CL h;obtain⟨hh,v2,h2,g2⟩:=CL h1;obtain⟨e1,e2,e3,h4⟩:=h2;exact⟨_,h4,λ_ _ h' => by unfold OQ.ba;exact g1 _ (g2 _ ⟨e1,e2,e3,h'⟩)⟩
 .simp[OQ.pure] at hp
 .exact⟨_,h,λ_ _ h=>by unfold OQ.ba;exact h⟩
 .exact⟨_,h,λ_ _ h=>by unfold OQ.ba;exact h⟩
 .simp[OQ.pure] at hp
 .simp[OQ.pure] at hp
 .simp[OQ.pure] at hp
 .obtain⟨h1,h2,h3⟩:=h;unfold D8 at h3;split at h3
  .rename_i c hc;exact⟨c,h3.2,λ_ _ h' => by unfold OQ.ba;refine⟨h1,h2,?_⟩;unfold D8;rw[hc];exact⟨h3.1,h'⟩⟩
  .exact h3.elim
 .simp[OQ.pure] at hp
 .simp[OQ.pure] at hp
 .exact h.elim
def IZ:R E (.bt []) undef:=by simp only[R];exact⟨#[],rfl,by simp[RL]⟩
def Pf{v:Value}(h:R E (.bt []) v):v=undef:=by
 simp only[R] at h;obtain⟨vs,rfl,h⟩:=h;cases hv:vs.toList with
 | nil =>
  have:vs=#[]:=by cases vs;simpa using hv
  subst this;rfl
 | cons x xs=>rw[hv] at h;simp[RL] at h
def cv:V->Value->Bool
 | .bool b,.bool c=>b == c
 | .int k n,.int j m=>decide (k=j)&&decide (n=m)
 | .aF s,.string t=>decide (s=t.data.toList)
 | .fV,.pointer af=>aa
 | .sl .aV _ [],.slice af 0 0=>aa
 | .raw .nilFunc,.nilFunc=>aa
 | .raw .nilIface,.nilIface=>aa
 | .raw (.map af),.map af=>aa
 | _,_=>ak
def xl:List V->List Value->Bool
 | [],[]=>aa
 | x::xs,v::vs=>cv x v&&xl xs vs
 | _,_=>ak
def Jg(f:Nat->Option (List V)):List Nat->Option (List V)
 | []=>U []
 | t::ts=>(f t).bind λa=>(Jg f ts).map (a++·)
def zeroV(P:Program):Nat->TypeId->Option (List V)
 | 0,_=>af
 | n + 1, t =>
  match P.underlying t with
  | some .bool=>U [.bool ak]
  | some (.int k)=>U [.int k 0]
  | some .string=>U [.aF []]
  | some (.pointer _)=>U [.fV]
  | some (.slice e)=>U [.sl .aV (P.cellsOf e) []]
  | some (.func _ _ _)=>U [.raw .nilFunc]
  | some (.interface _)=>U [.raw .nilIface]
  | some (.map _ _)=>U [.raw (.map af)]
  | some (.struct fs)=>Jg (zeroV P n) (fs.toList.map (·.type))
  | some (.array k e)=>Jg (zeroV P n) (au k e)
  | _=>af
def jK(P:Program)(t:TypeId):Option (List V) :=
 match P.info? t,zeroV P 30 t with
 | some i, U zs =>
  match i.zero with
  | some z=>if xl zs z.cells.toList=aa/\zs.length=i.size then U zs else af
  | none=>af
 | _,_=>af
def Jr(P:Program)(t:TypeId):Value->Option V
 | .slice af 0 0 =>
  match P.underlying t with
  | some (.slice e)=>U (.sl .aV (P.cellsOf e) [])
  | _=>af
 | .agg vs =>
  match jK P t with
  | some zs=>if xl zs vs.toList=aa then U (.agg zs) else af
  | none=>af
 | .bool b=>U (.bool b)
 | .int k n=>U (.int k n)
 | .string s=>U (.aF s.data.toList)
 | .pointer af=>U .fV
 | .nilFunc=>U (.raw .nilFunc)
 | .nilIface=>U (.raw .nilIface)
 | _=>af
def cw(P:Program)(t:TypeId):Operand->Option X
 | .tmp n=>U (.s n)
 | .const v=>(Jr P t v).map .c
 | .func f=>U (.c (.fn (.func f) [] []))
 | .global g=>U (.c (.ptr (.jT g) 0))
def iV(P:Program):List TypeId->List Operand->Option (List X)
 | [],[]=>U []
 | t::ts,x::xs=>(cw P t x).bind λy=>(iV P ts xs).map (y::·)
 | _,_=>af
def ku(P:Program)(t:TypeId):Option Operand->Option (Option X)
 | none=>U af
 | some x=>(cw P t x).map U
def gJ(P:Program)(t:TypeId):Option Bool :=
 match P.underlying t with
 | some (.struct _) | some (.array _ _)=>U aa
 | some _=>U ak
 | none=>af
def dW(P:Program)(t:TypeId):Option Nat:=(P.info? t).map (·.size)
def zX(P:Program)(place:Nat->Option (Nat × TypeId)):List (Nat × Operand)->Option (List (Nat × Nat × X))
 | []=>U []
 | (i, x) :: ps =>
  match place i with
  | some (off, t) =>
   match dW P t,cw P t x with
   | some n,U y=>if n=0 then af else(zX P place ps).map ((off,n,y)::·)
   | _,_=>af
  | none=>af
def HJ(f:TypeId->Nat->Option (List (Nat × Nat)))(size:TypeId->Nat)(all:Nat):List Field->Nat->Option (List (Nat × Nat))
 | [],_=>U []
 | x::xs,off=>if x.name = "_" \/ all<x.offset+size x.type then af else(f x.type (off+x.offset)).bind λa=>(HJ f size all xs off).map (a++·)
def HK(f:Nat->Option (List (Nat × Nat)))(size all:Nat):List Nat->Nat->Option (List (Nat × Nat))
 | [],_=>U []
 | i::is,off=>if all<i*size+size then af else(f (off+i*size)).bind λa=>(HK f size all is off).map (a++·)
def wC(P:Program):Nat->TypeId->Nat->Option (List (Nat × Nat))
 | 0,_,_=>af
 | n + 1, t, off =>
  match P.info? t,P.underlying t with
  | some _,U .bool=>if P.cellsOf t=1 then U [(off,0)] else af
  | some _,U (.int _)=>if P.cellsOf t=1 then U [(off,1)] else af
  | some _,U .string=>if P.cellsOf t=1 then U [(off,2)] else af
  | some _,U (.struct fs)=>if P.stoodInHeld t=aa then af else HJ (wC P n) P.cellsOf (P.cellsOf t) fs.toList off
  | some _,U (.array k e)=>match P.info? e with | some _=>HK (wC P n e) (P.cellsOf e) (P.cellsOf t) (bU k) off | none=>af
  | _,_=>af
def MW(P:Program)(t:TypeId):Option (List Nat) :=
 match wC P 20 t 0 with
 | some pl=>if pl.map (·.1)=bU (P.cellsOf t)/\P.eqGuardType P.depth t=ak then U (pl.map (·.2)) else af
 | none=>af
def yb(P:Program)(o:Oper):Option aI :=
 match o.op with
 | .move x | .assign x=>(cw P o.type x).map .mv
 | .pick c a b =>
  match cw P o.type c,cw P o.type a,cw P o.type b with
  | some c,U a,U b=>U (.pick c a b)
  | _,_,_=>af
 | .alloc t=>(jK P t).map .alloc
 | .box t x =>
  match dW P t,cw P t x with
  | some n,U y=>U (.box n y)
  | _,_=>af
 | .build t ps =>
  match jK P t,P.underlying t with
  | some z,U (.struct fs)=>if fs.toList.all (λf=>(P.info? f.type).isSome)=aa then(zX P (λi=>(fs[i]?).map λf=>(f.offset,f.type)) ps.toList).map (.build z) else af
  | some z,U (.array _ e)=>if (P.info? e).isSome=aa then(zX P (λi=>U (i*P.cellsOf e,e)) ps.toList).map (.build z) else af
  | _,_=>af
 | .buildSlice t len ps =>
  match P.underlying t with
  | some (.slice e) =>
   match dW P e,jK P e,iV P (au len e) (ps.toList.map (·.2)) with
   | some k,U _,U xs=>if ps.toList.map (·.1)=bU len/\len*k<=16777216/\0<k then U (.kf k xs) else af
   | _,_,_=>af
  | _=>af
 | .load t x =>
  match gJ P t,dW P t,cw P t x with
  | some g,U n,U y=>U (.load g n y)
  | _,_,_=>af
 | .store t x y =>
  match dW P t,cw P t x,cw P t y with
  | some n,U x,U y=>if n=0 then af else U (.store n x y)
  | _,_,_=>af
 | .nilCheck x=>(cw P o.type x).map .uX
 | .binOp op t x y _ =>
  match cw P t x,cw P t y with
  | some x, U y =>
   match P.underlying t with
   | some (.int _)=>U (.ek op x y)
   | some .string=>match op with | .add=>U (.cat x y) | _=>U (.mW op x y)
   | some .bool=>match op with | .eql=>U (.uf ak x y) | .neq=>U (.uf aa x y) | _=>af
   | some (.struct _) | some (.array _ _) =>
    match MW P t with
    | some ks=>match op with | .eql=>U (.ir ak ks x y) | .neq=>U (.ir aa ks x y) | _=>af
    | none=>af
   | _=>af
  | _,_=>af
 | .unOp .not _ x=>(cw P o.type x).map .not
 | .convert src dst x =>
  match P.underlying src,P.underlying dst,cw P src x with
  | some (.int _),U (.int k),U y=>U (.pr k y)
  | some (.slice e),U .string,U y=>match P.underlying e with | some (.int .u8)=>U (.sI y) | _=>af
  | _,_,_=>af
 | .makeFunc f first cap =>
  match iV P (au first.size 0) first.toList,iV P (au cap.size 0) cap.toList with
  | some a,U b=>U (.jG f a b)
  | _,_=>af
 | .slice t x lo hi mx =>
  match cw P t x,ku P t lo,ku P t hi,ku P t mx with
  | some x, U lo, U hi, U mx =>
   match P.underlying t with
   | some (.slice e)=>match dW P e with | some k=>if mx.isSome=aa->hi.isSome=aa then U (.kF k x lo hi mx) else af | none=>af
   | some .string=>match mx with | none=>U (.yu x lo hi) | some _=>af
   | _=>af
  | _,_,_,_=>af
 | .fieldAddr s x i =>
  match P.underlying s,cw P s x with
  | some (.struct fs), U y =>
   match fs[i]? with
   | some f=>match dW P f.type with | some n=>if n=0 then af else U (.nW f.offset y) | none=>af
   | none=>af
  | _,_=>af
 | .field s x i =>
  match P.underlying s,cw P s x with
  | some (.struct fs), U y =>
   match fs[i]? with
   | some f=>match gJ P f.type,dW P f.type with | some g,U n=>U (.uz g f.offset n y) | _,_=>af
   | none=>af
  | _,_=>af
 | .indexAddr t x i =>
  match P.underlying t,cw P t x,cw P t i with
  | some (.slice e),U x,U i=>(dW P e).map λk=>.r6 k x i
  | some (.array m e),U x,U i=>(dW P e).map λk=>.q_ m k x i
  | _,_,_=>af
 | .index t x i =>
  match P.underlying t,cw P t x,cw P t i with
  | some .string,U x,U i=>U (.sZ x i)
  | _,_,_=>af
 | .extract x i=>(cw P o.type x).map λy=>.ext y i
 | .call c =>
  match c.callee with
  | .value (.func f)=>(iV P c.argTypes.toList c.args.toList).map (.call f)
  | .value x =>
   match cw P 0 x,iV P c.argTypes.toList c.args.toList with
   | some y,U xs=>U (.il y xs)
   | _,_=>af
  | .builtin .len =>
   match c.argTypes.toList,c.args.toList with
   | [t], [x] =>
    match P.underlying t,cw P t x with
    | some (.slice _),U y=>U (.uS y)
    | some .string,U y=>U (.uT y)
    | _,_=>af
   | _,_=>af
  | .builtin .append =>
   match c.argTypes.toList,c.args.toList with
   | [t, u], [s, x] =>
    match P.underlying t,P.underlying u,cw P t s,cw P u x with
    | some (.slice e), U (.slice e'), U s, U x =>
     match P.info? e,jK P e with
     | some i,U _=>if e=e' /\ i.bytes<=4096/\0<i.size then U (.app i.size s x) else af
     | _,_=>af
    | some (.slice e), U .string, U s, U x =>
     match P.info? e,jK P e with
     | some i,U _=>match P.underlying e with | some (.int .u8)=>if i.size=1/\i.bytes=1 then U (.mu s x) else af | _=>af
     | _,_=>af
    | _,_,_,_=>af
   | _,_=>af
  | _=>af
 | _=>af
def abA:∀{x:V} {v:Value},cv x v=aa->R E x v:=by
 intro x v h;unfold cv at h;split at h<;>simp_all [R,ub]
def qH{E:Env}:∀{xs:List V} {vs:List Value},xl xs vs=aa->RL E xs vs
 | [],[],_=>by simp[RL]
 | [],_::_,h=>by simp[xl] at h
 | _::_,[],h=>by simp[xl] at h
 | x :: xs, v :: vs, h => by
  simp only[xl,bC] at h;simp only[RL];exact⟨abA h.1,qH h.2⟩
variable{t:TypeId}{zs:List V}
def sy(h:jK P t=U zs):
 ∃i z,P.info? t=U i/\i.zero=U z/\xl zs z.cells.toList=aa/\zs.length=i.size:=by
 unfold jK at h;split at h
 .rename_i i ys h1 h2;split at h
  .rename_i z hz;split at h
   .rename_i hc;simp only[aZ] at h;subst h;exact⟨i,z,h1,hz,hc.1,hc.2⟩
   .simp at h
  .simp at h
 .simp at h
def aa7{v:Value}{x:V}(h:Jr P t v=U x):R E x v:=by
 unfold Jr at h;split at h
 .split at h
  .simp only[aZ] at h;subst h;simp[R,ub]
  .simp at h
 .rename_i vs;split at h
  .rename_i zs hz;split at h
   .rename_i hc;simp only[aZ] at h;subst h;simp only[R];exact⟨vs,rfl,qH hc⟩
   .simp at h
  .simp at h
 all_goals first | (simp only[aZ] at h;subst h;simp[R];done) | (simp at h)
def Ba{a:Act}(h:RL E st.t a.tmps.toList)(n:Nat):R E (ev st (.s n)) (a.eval (.tmp n)):=by
 have:=Fc h n undef
 simpa [ev,Act.eval,pY,gU] using this
variable{x:Operand}
def mG{a:Act}{y:X}(h:RL E st.t a.tmps.toList)(hx:cw P t x=U y):
 R E (ev st y) (a.eval x):=by
 cases x with
 | tmp n=>simp only[cw,aZ] at hx;subst hx;exact Ba h n
 | const v =>
  simp only[cw,c7] at hx;obtain⟨u,hu,rfl⟩:=hx;exact aa7 hu
 | func f=>simp only[cw,aZ] at hx;subst hx;simp only[ev,R,Act.eval];exact⟨#[],#[],rfl,by simp[RL],by simp[RL]⟩
 | global g=>simp only[cw,aZ] at hx;subst hx;simp only[ev,R,Act.eval]
def Mk{P:Program}{E:Env}{st:St}{a:Act}(h:RL E st.t a.tmps.toList):∀{ts:List TypeId} {xs:List Operand} {ys:List X},iV P ts xs=U ys ->
 RL E (cX st ys) (xs.map a.eval)
 | [],[],ys,hx=>by simp only[iV,aZ] at hx;subst hx;simp[cX,RL]
 | [],_::_,_,hx=>by simp[iV] at hx
 | _::_,[],_,hx=>by simp[iV] at hx
 | t :: ts, x :: xs, ys, hx => by
  simp only[iV,iI,c7] at hx;obtain⟨y,h1,zs,h2,rfl⟩:=hx;simp only[cX,b8,RL];exact⟨mG h h1,Mk h h2⟩
def dJ(E:Env)(a:Act)(d:Option Tmp)(K:V->St->Prop):Act->World->Prop :=
 λa' w' => ∃E' v x aJ,E'.w=w' /\ Fr E E' /\ bE E' aJ a/\R E' v x/\a' = a.put d x/\K v aJ
section
variable {P:Program} {E:Env} {st:St} {a:Act} {o:Oper} {K:V->St->Prop} {Q:Exit->Act->World->Prop}
def cR(hs:bE E st a){x:Value}(hr:(execOp a.eval o).run P E.w = .ok (.value x) E.w)(hv:R E v x)(hk:K v st):o.wp P a E.w (dJ E a o.dst K) Q:=by
 unfold Oper.wp;rw[hr];exact⟨E,v,x,st,rfl,Fr.refl E,hs,hv,rfl,hk⟩
def Rd(E:Env)(cs:List V)(b o:Nat):Prop:=∀(j:Nat) x,cs[j]?=U x->∃v,E.w.cell? ⟨b,o+j,af⟩=U v/\R E x v
def Env.Mw(E:Env):E.nl.le E:=⟨λ_ _ _ h h' => ⟨h,h'⟩,λ_ _ h=>by simp at h,(Env.le.refl E).tok⟩
variable{cs:List V}
def Rd.mono{E E' : Env}(h:E.le E')(hw:E'.w=E.w){b o:Nat}(hr:Rd E cs b o):Rd E' cs b o:=λj x hx=>by
 obtain⟨v,h1,h2⟩:=hr j x hx;exact⟨v,by rw[hw];exact h1,h2.mono _ h⟩
def Rd.UD{E:Env}(h:jc E b cs):Rd E cs b 0:=by
 obtain⟨c,e,h1,h2,h3⟩:=h;intro j x hx;obtain⟨v,hv,hr⟩:=h3 j x hx;exact⟨v,by simp[World.cell?,h1,hv],hr⟩
def Rd.MA{E:Env}:∀{cs:List V} {b o:Nat},dZ E cs b o->Rd E cs b o
 | [],_,_,_=>λj x hx=>by simp at hx
 | y :: ys, b, o, h => λj x hx => by
  simp only[dZ] at h;obtain⟨⟨c,h1,_,_,h3⟩,h4⟩:=h;cases j with
  | zero=>simp at hx;subst hx;exact⟨c,h1,h3⟩
  | succ j =>
   simp at hx;obtain⟨v,hv,hr⟩:=Rd.MA h4 j x hx;exact⟨v,by rw[show o+(j+1)=o+1+j from by omega];exact hv,hr⟩
def Rd.drop{E:Env}{b o:Nat}(h:Rd E cs b o)(n:Nat):Rd E (cs.drop n) b (o+n):=λj x hx=>by
 rw[tV] at hx;obtain⟨v,hv,hr⟩:=h _ x hx;exact⟨v,by rw[show o+n+j=o+(n+j) from by omega];exact hv,hr⟩
def N1:∀{n:Nat} {cs xs:List V},takeN n cs=U xs->xs=cs.take n/\n<=cs.length
 | 0,cs,xs,h=>by simp[takeN] at h;subst h;simp
 | n+1,[],xs,h=>by simp[takeN] at h
 | n + 1, c :: cs, xs, h => by
  simp only[takeN,c7] at h;obtain⟨ys,h1,rfl⟩:=h;obtain⟨rfl,h2⟩:=N1 h1;simp;omega
def Rd.cells{E:Env}:∀{cs:List V} {b o:Nat},Rd E cs b o->∃vs,RL E cs vs/\∀(j:Nat) v,vs[j]?=U v->E.w.cell? ⟨b,o+j,af⟩=U v
 | [],_,_,_=>⟨[],by simp[RL],λj v h=>by simp at h⟩
 | c :: cs, b, o, h => by
  obtain⟨v,h1,h2⟩:=h 0 c (by simp);obtain⟨vs,h3,h4⟩:=Rd.cells (cs:=cs) (b:=b) (o:=o+1) λj x hx=>by
   obtain⟨v,hv,hr⟩:=h (j+1) x (by simpa using hx);exact⟨v,by rw[show o+1+j=o+(j+1) from by omega];exact hv,hr⟩
  refine⟨v::vs,?_,λj u hu=>?_⟩
  .simp only[RL];exact⟨h2,h3⟩
  .cases j with
   | zero=>simp at hu;subst hu;simpa using h1
   | succ j=>simp at hu;rw[show o+(j+1)=o+1+j from by omega];exact h4 j u hu
def mr(b o j:Nat):(⟨b,o,af⟩:Addr).add j=⟨b,o+j,af⟩:=by
 unfold Addr.add;split<;>simp_all
variable{g:Bool}
def An(h:gJ P t=U g)(w:World):(isAgg t).run P w = .ok g w:=by
 unfold gJ at h;cases hu:P.underlying t with
 | none=>simp[hu] at h
 | some d =>
  simp only[hu] at h;simp only[isAgg,Sem.run_bind,run_underlying hu,Result.andThen_ok];cases d<;>simp_all
def ny{n:Nat}(h:dW P t=U n)(w:World):(sizeOf t).run P w = .ok n w:=by
 unfold dW at h;simp only[c7] at h;obtain⟨i,hi,rfl⟩:=h;simp[sizeOf,typeInfo,hi]
def run_load{n:Nat}(ht:gJ P t=U g)(hn:dW P t=U n){b o:Nat}(h:Rd E cs b o)(hv:bF g n cs=U v):
 ∃x,(loadVar t ⟨b,o,af⟩).run P E.w = .ok x E.w/\R E v x:=by
 cases g with
 | false =>
  cases cs with
  | nil=>simp[bF] at hv
  | cons c cs =>
   simp only[bF,aZ] at hv;subst hv;obtain⟨x,h1,h2⟩:=h 0 c (by simp);exact⟨x,by simp only[wZ] at h1;simp[loadVar,An ht,h1],h2⟩
 | true =>
  simp only[bF,c7] at hv;obtain⟨xs,h1,rfl⟩:=hv;obtain⟨rfl,h2⟩:=N1 h1;have h' : Rd E (cs.take n) b o:=λj x hx=>by
   rw[IN] at hx;split at hx
   .exact h j x hx
   .simp at hx
  obtain⟨vs,h3,h4⟩:=h'.cells;have hl:=fI h3;have hC : vs.length=n:=by rw[<-hl];simp;omega
  refine⟨.agg vs.toArray,?_,by simp only[R];exact⟨vs.toArray,rfl,by simpa using h3⟩⟩;have hc:=run_loadCells_list (P:=P) E.w ⟨b,o,af⟩ vs (λj u hu=>by rw[mr];exact h4 j u hu);rw[hC] at hc;simp[loadVar,An ht,ny hn,hc]
def Tx(hs:bE E st a){n:Nat}{p:V}{x:Value}(h:kW st g n p=U v)(hp:R E p x):
 ∃b o cs,x = .pointer (U ⟨b,o,af⟩)/\Rd E cs b o/\bF g n cs=U v:=by
 cases p with
 | ptr p off =>
  cases p with
  | aD i =>
   simp only[kW,Fz,iI] at h;obtain⟨cs,h1,h2⟩:=h;simp only[R] at hp;obtain⟨b,hb,rfl⟩:=hp;obtain⟨b',h3,_,h5⟩:=hs.cV.box i cs h1;rw[hb] at h3;simp only[aZ] at h3;subst h3;exact⟨b,off,cs.drop off,rfl,by simpa using (Rd.UD h5).drop off,h2⟩
  | out b =>
   simp only[kW,Fz,iI] at h;obtain⟨cs,h1,h2⟩:=h;simp only[R] at hp;subst hp;obtain⟨_,h5⟩:=hs.ok.box b cs h1;exact⟨b,off,cs.drop off,rfl,by simpa using ((Rd.UD h5).mono E.Mw rfl).drop off,h2⟩
  | jT b =>
   simp only[kW,Fz,iI] at h;obtain⟨cs,h1,h2⟩:=h;simp only[R] at hp;subst hp;exact⟨b,off,cs.drop off,rfl,by simpa using ((Rd.MA (hs.ok.bY b cs h1)).mono E.Mw rfl).drop off,h2⟩
 | elt cs off =>
  simp only[kW] at h;simp only[R] at hp;obtain⟨b,o,rfl,h2⟩:=hp;exact⟨b,o+off,cs.drop off,rfl,((Rd.MA h2).mono E.Mw rfl).drop off,h⟩
 | _=>simp[kW] at h
def as5(hs:bE E st a){n:Nat}{y:X}(ho:o.op = .load t x)(ht:gJ P t=U g)(hn:dW P t=U n)(hy:R E (ev st y) (a.eval x))
 (h:opt (kW st g n (ev st y)) (K2 K st)):o.wp P a E.w (dJ E a o.dst K) Q:=by
 unfold opt K2 at h;split at h
 .rename_i v hv;obtain⟨b,off,cs,h1,h2,h3⟩:=Tx hs hv hy;obtain⟨u,h4,h5⟩:=run_load ht hn h2 h3;exact cR hs (by simp[execOp,ho,Instr.loadAt,Instr.sureAddr,h1,h4]) h5 h
 .exact h.elim
end
structure Ext(w w' : World):Prop where
 os:w'.os=w.os
 output:w'.output=w.output
 tape:w'.tape=w.tape
 size:w.heap.size<=w'.heap.size
 block:∀b,b<w.heap.size->w'.heap[b]?=w.heap[b]?
 gu:∀a,w'.frozen? a=w.frozen? a
def Ext.refl(w:World):Ext w w:=⟨rfl,rfl,rfl,bP _,λ_ _=>rfl,λ_=>rfl⟩
variable{w':World}
def Ext.drew(h:Ext w w'):Ext w w'.drew:=⟨h.os,h.output,h.tape,h.size,h.block,h.gu⟩
def Ext.alloc(h:Ext w w')(c:Array Value)(t:TypeId):Ext w (w'.alloc (.cells c t)) :=
 ⟨h.os,h.output,h.tape,by simp;have:=h.size;omega,λb hb=>(heap_alloc_old w' _ (vv hb h.size)).trans (h.block b hb),λa=>(ahq w' c t a).trans (h.gu a)⟩
def A5{o:Nat}(h:w'.heap[b]?=w.heap[b]?):w'.cell? ⟨b,o,af⟩=w.cell? ⟨b,o,af⟩:=by simp[World.cell?,h]
def T_{o:Nat}{c:Value}(h:w.cell? ⟨b,o,af⟩=U c):b<w.heap.size:=World.block_lt_of_cell? (a:=⟨b,o,af⟩) w h
def kx{x:Obj}(h:w.heap[b]?=U x):b<w.heap.size:=(kG.1 h).1
def xw(hf:∀b,E.w.heap.size<=b->E.a7 b = .const)(hx:Ext E.w E'.w)(hr:∀b,b<E.w.heap.size->E'.a7 b=E.a7 b)
 (ht:∀t n,E.aK t=U n->E'.aK t=U n):Fr E E' := by
 refine⟨hx.os,hx.output,hx.tape,hx.size,hx.gu,?_,?_,?_,?_,?_,?_,λb c e hb=>⟨c,(hx.block b (kx hb)).trans hb,rfl⟩⟩
 .intro b o c hc hv;have hb:=T_ hv;exact⟨by rw[hr b hb];exact hc,by rw[A5 (hx.block b hb)];exact hv⟩
 .intro t n hn;refine⟨n,ht t n hn,bP _,λ_ b c hb=>?_⟩;have aB:b<E.w.heap.size:=by
   rcases vw b E.w.heap.size with h | h
   .exact h
   .rw[hf b h] at hb;simp at hb
  exact⟨by rw[hr b aB];exact hb,λcs e bR=>⟨cs,by rw[hx.block b aB];exact bR,rfl⟩⟩
 .intro b hb _;exact⟨hx.block b hb,hr b hb⟩
 .intro b hb h;rw[hr b hb] at h;exact .inl h
 .intro b t c hb h;rw[hr b hb] at h;exact⟨c,h⟩
 .intro b i hb h;rw[hr b hb] at h;exact⟨i,h⟩
variable{cs:List V}
def jc.mono(h:E.le E')(hb:E'.w.heap[b]?=E.w.heap[b]?)(k:jc E b cs):jc E' b cs:=by
 obtain⟨c,e,h1,h2,h3⟩:=k;exact⟨c,e,by rw[hb];exact h1,h2,λj x hx=>let ⟨v,hv,hr⟩:=h3 j x hx;⟨v,hv,hr.mono _ h⟩⟩
def BR(h:E.ok Z)(hle:E.nl.le E'.nl)(hb:∀b,E.a7 b = .pJ->b<E.w.heap.size->E'.a7 b = .pJ/\E'.w.heap[b]?=E.w.heap[b]?)
 (ht:∀t n,E.aK t=U n->E'.aK t=U n) (hf:∀b,E'.w.heap.size<=b->E'.a7 b = .const) (hn:∃N,∀t,N<=t->E'.aK t=af):E'.ok Z:=by
 refine⟨λb cs bR=>?_,λt n kU=>ht t n (h.aK t n kU),hf,hn,λb cs hc=>dZ.mono _ hle (h.bY b cs hc)⟩;obtain⟨h1,h2⟩:=h.box b cs bR;have aB:b<E.w.heap.size:=by obtain⟨c,e,h3,_⟩:=h2;exact kx (w:=E.w) h3
 obtain⟨h3,h4⟩:=hb b h1 aB;exact⟨h3,h2.mono hle h4⟩
def pK{ls:List (List V)}(h:E.cV ls)(hle:E.le E')(hb:∀b i,E.a7 b = .iB i->b<E.w.heap.size->E'.a7 b = .iB i/\E'.w.heap[b]?=E.w.heap[b]?)
 (hl:∀i,ls.length<=i->E'.aD i=af):E'.cV ls:=by
 refine⟨λi cs bR=>?_,hl⟩;obtain⟨b,h1,h2,h3⟩:=h.box i cs bR;have aB:b<E.w.heap.size:=by obtain⟨c,e,h3,_⟩:=h3;exact kx (w:=E.w) h3
 obtain⟨h4,h5⟩:=hb b i h2 aB;exact⟨b,hle.aD i b h1,h4,h3.mono hle h5⟩
section
variable {P:Program} {E:Env} {st:St} {a:Act} {o:Oper} {K:V->St->Prop} {Q:Exit->Act->World->Prop}
def Er(hs:bE E st a)(hx:Ext E.w w'):Fr E {E with w:=w'}/\E.le {E with w:=w'}/\bE {E with w:=w'} st a:=by
 have bf:Fr E {E with w:=w'}:=xw hs.ok.fresh hx (λ_ _=>rfl) (λ_ _ h=>h);have hle:E.le {E with w:=w'}:=bf.le λ_ _ h=>h
 refine⟨bf,hle,BR hs.ok bf.nl (λb h hb=>⟨h,hx.block b hb⟩) (λ_ _ h=>h) (λb hb=>hs.ok.fresh b (w7 hx.size hb)) hs.ok.nt,
  pK hs.cV hle (λb i h hb=>⟨h,hx.block b hb⟩) hs.cV.none,hs.defers,RL.mono _ hle hs.slot⟩
def Xy(hs:bE E st a)(hx:Ext E.w w'){x:Value}(hr:(execOp a.eval o).run P E.w = .ok (.value x) w')(hv:R {E with w:=w'} v x)(hk:K v st):
 o.wp P a E.w (dJ E a o.dst K) Q:=by
 unfold Oper.wp;rw[hr];obtain⟨h1,_,h3⟩:=Er hs hx;exact⟨_,v,x,st,rfl,h1,h3,hv,rfl,hk⟩
def XA(hs:bE E st a)(hr:(execOp a.eval o).run P E.w = .ok (.value (.pointer (U ⟨E.w.heap.size,0,af⟩))) (E.w.alloc (.cells c e)))
 (hz:RL E zs c.toList) (hk:K (.ptr (.aD st.aD.length) 0) ⟨st.t,st.aD++[zs],st.out⟩):o.wp P a E.w (dJ E a o.dst K) Q:=by
 unfold Oper.wp;rw[hr]
 let E' : Env:={w:=E.w.alloc (.cells c e),a7:=λb=>if b=E.w.heap.size then .iB st.aD.length else E.a7 b,aD:=λi=>if i=st.aD.length then U E.w.heap.size else E.aD i,aK:=E.aK}
 have hx:Ext E.w E'.w:=(Ext.refl _).alloc _ _;have bf:Fr E E' := xw hs.ok.fresh hx (λb hb=>by simp only[E'];rw[aC (by omega)]) (λ_ _ h=>h);have hle:E.le E' := bf.le λi b h=>by
  simp only[E'];split
  .rename_i hi;rw[hs.cV.none i (by omega)] at h;simp at h
  .exact h
 refine⟨E',_,_,⟨st.t,st.aD++[zs],st.out⟩,rfl,bf,⟨?_,⟨?_,?_⟩,hs.defers,RL.mono _ hle hs.slot⟩,?_,rfl,hk⟩
 .refine BR hs.ok bf.nl (λb h hb=>⟨by simp only[E'];rw[aC (by omega)];exact h,hx.block b hb⟩) (λ_ _ h=>h) (λb hb=>?_) hs.ok.nt;simp only[E',World.size_alloc] at hb ⊢;rw[aC (by omega)];exact hs.ok.fresh b (by omega)
 .intro i cs bR
  rcases yR i st.aD.length with hi | hi | hi
  .rw[sA hi] at bR;obtain⟨b,h1,h2,h3⟩:=hs.cV.box i cs bR;have aB:b<E.w.heap.size:=by obtain⟨c,e,h3,_⟩:=h3;exact kx (w:=E.w) h3
   exact⟨b,hle.aD i b h1,by simp only[E'];rw[aC (by omega)];exact h2,h3.mono hle (hx.block b aB)⟩
  .subst hi;rw[AR (bP _)] at bR;simp at bR;subst bR;have hl:=fI hz;refine⟨E.w.heap.size,by simp[E'],by simp[E'],c,e,heap_alloc_new _ _,by simp at hl;omega,λj x hx=>?_⟩;obtain⟨v,hv,ck⟩:=qC hz j x hx;exact⟨v,by simpa using hv,ck.mono _ hle⟩
  .rw[yM (by simp;omega)] at bR;simp at bR
 .intro i hi;simp at hi;simp only[E'];rw[aC (by omega)];exact hs.cV.none i (by omega)
 .simp only[R];exact⟨E.w.heap.size,by simp[E'],rfl⟩
def xc{x:V}{v:Value}{n:Nat}(h:R E x v)(hw:x.wd=U n):RL E x.cells v.cells.toList/\v.cells.size=n:=by
 cases x<;>simp only[V.wd,aZ] at hw<;>try simp at hw
 case agg cs =>
  simp only[R] at h;obtain⟨vs,rfl,h2⟩:=h
  have:=fI h2
  exact⟨by simpa [V.cells,Value.cells] using h2,by simp[Value.cells];simp at this;omega⟩
 case raw u =>
  simp only[R] at h;subst h;obtain⟨ho,rfl⟩:=hw;cases v<;>simp_all [Value.oneCell',Value.cells,V.cells,RL,R]
 case ptr p off =>
  subst hw;have h' := h;cases p
  .simp only[R] at h;obtain⟨b,_,rfl⟩:=h;simp[Value.cells,V.cells,RL];exact h'
  .simp only[R] at h;subst h;simp[Value.cells,V.cells,RL];exact h'
  .simp only[R] at h;subst h;simp[Value.cells,V.cells,RL];exact h'
 all_goals
  subst hw;have h' := h;simp only[R] at h
  first
   | (subst h;simp[Value.cells,V.cells,RL];exact h')
   | (obtain⟨b,o,rfl,_⟩:=h;simp[Value.cells,V.cells,RL];exact h')
def yg:∀{xs:List V} {vs:List Value},RL E xs vs->cC xs=aa->∀v∈vs,v.oneCell' = aa
 | [],[],_,_=>λv hv=>by simp at hv
 | [],_::_,h,_=>by simp[RL] at h
 | _::_,[],h,_=>by simp[RL] at h
 | x :: xs, v :: vs, h, ho => by
  simp only[RL] at h;simp only[cC,bC] at ho;intro u hu
  rcases kI.1 hu with rfl | hu
  .obtain⟨hr,_⟩:=h;have h1:=ho.1;cases x<;>simp only[V.one] at h1<;>try (simp at h1;done)
   case ptr p off=>cases p<;>simp only[R] at hr<;>first | (subst hr;rfl) | (obtain⟨b,_,rfl⟩:=hr;rfl)
   all_goals
    simp only[R] at hr
    first
     | (subst hr;first | rfl | exact h1)
     | (obtain⟨b,o,rfl,_⟩:=hr;rfl)
  .exact yg h.2 ho.2 u hu
def Ks:∀{n:Nat} {xs:List V},bZ n xs=aa->n<=xs.length
 | 0,_,_=>IW _
 | n+1,[],h=>by simp[bZ] at h
 | n+1,x::xs,h=>by simp only[bZ] at h;have:=Ks h;simp;omega
def UK:∀{l xs:List V},xs.length<=l.length->∀j:Nat,(over l xs)[j]?=if j<xs.length then xs[j]? else l[j]?
 | [],[],_,j=>by simp[over]
 | [],_::_,h,_=>by simp at h
 | a::l,[],_,j=>by simp[over]
 | a :: l, x :: xs, h, j => by
  cases j with
  | zero=>simp[over]
  | succ j=>simp[over,UK (l:=l) (xs:=xs) (by simpa using h)]
def UL:∀{l xs:List V},(over l xs).length=l.length
 | [],_=>by simp[over]
 | a::l,[]=>by simp[over]
 | a::l,x::xs=>by simp[over,UL]
def NK:∀{l:List V} {n:Nat} {xs:List V},(setAt l n xs).length=l.length
 | l,0,xs=>by cases l<;>simp[setAt,UL]
 | [],n+1,xs=>by simp[setAt]
 | a::l,n+1,xs=>by simp[setAt,NK]
def NJ:∀{l:List V} {n:Nat} {xs:List V},n+xs.length<=l.length->∀j:Nat,
 (setAt l n xs)[j]?=if j<n then l[j]? else if j<n+xs.length then xs[j - n]? else l[j]?
 | l, 0, xs, h, j => by
  have h' : setAt l 0 xs=over l xs:=by cases l<;>simp[setAt]
  rw[h',UK (by omega)];simp
 | [],n+1,xs,h,j=>by simp at h
 | a :: l, n + 1, xs, h, j => by
  cases j with
  | zero=>simp[setAt]
  | succ j =>
   have:=NJ (l:=l) (n:=n) (xs:=xs) (by simp at h;omega) j
   simp only[setAt,List.getElem?_cons_succ,this]
   by_cases h1:j<n
   .rw[aE h1,aE (show j+1<n+1 by omega)]
   .rw[aC h1,aC (show ¬j+1<n+1 by omega)]
    by_cases h2:j<n+xs.length
    .rw[aE h2,aE (show j+1<n+1+xs.length by omega),show j+1 - (n+1)=j - n from by omega]
    .rw[aC h2,aC (show ¬j+1<n+1+xs.length by omega)]
variable{off:Nat}
def Nv{n:Nat}(hn:dW P t=U n)(hb:w.heap[b]?=U (.cells c e (0,0))){v:Value}(hv:v.cells.size=n)
 (v8:off+n<=c.size) (h1:∀u∈v.cells.toList,u.oneCell' = aa) :
 (storeVar t ⟨b,off,af⟩ v).run P w = .ok () (w.setRow b (c.toList.take off++v.cells.toList++c.toList.drop (off+n)).toArray):=by
 have h:=run_storeCells_at (P:=P) b off e v.cells.toList 0 c w hb (by simp;omega) h1;simp only[wZ,AL,hv] at h;simp[storeVar,ny hn,hv,h]
def Ep{c vs:List Value}(h:off+vs.length<=c.length)(j:Nat):
 (c.take off++vs++c.drop (off+vs.length))[j]?=if j<off then c[j]? else if j<off+vs.length then vs[j - off]? else c[j]?:=by
 have hl:(c.take off).length=off:=by simp;omega
 by_cases h1:j<off
 .rw[aE h1,eB,sA (by omega),IN,aE h1]
 .rw[aC h1]
  by_cases h2:j<off+vs.length
  .rw[aE h2,eB,AR (by omega),sA (by omega),hl]
  .rw[aC h2,AR (by simp;omega),tV];congr 1;simp;omega
def FB(hc:cs.length<=c.size)(hb:∀(j:Nat) x,cs[j]?=U x->∃v,c[j]?=U v/\R E' x v)
 {xs:List V} {vs:List Value} (hx:RL E' xs vs) {off:Nat} (v8:off+xs.length<=cs.length)
 (hn:E'.w.heap[b]?=U (.cells (c.toList.take off++vs++c.toList.drop (off+vs.length)).toArray e (0,0))):jc E' b (setAt cs off xs):=by
 have hl:=fI hx;refine⟨_,e,hn,?_,λj x hj=>?_⟩
 .simp[NK];omega
 .rw[NJ v8] at hj;have hs:=Ep (c:=c.toList) (vs:=vs) (off:=off) (by simp;omega) j;simp only[X0];rw[hs]
  by_cases h1:j<off
  .rw[aE h1] at hj ⊢;simpa using hb j x hj
  .rw[aC h1] at hj ⊢
   by_cases h2:j<off+xs.length
   .rw[aE h2] at hj;rw[aE (by omega)];exact qC hx _ x hj
   .rw[aC h2] at hj;rw[aC (by omega)];simpa using hb j x hj
end
mutual
def R.o7:∀(x:V) {E E' : Env} (_:E.nl.le E'.nl) (_:x.cI=aa) {v:Value},R E x v->R E' x v
 | .any,_,_,_,_,_,_=>by simp only[R]
 | .bool _,_,_,_,_,_,hr=>by simp only[R] at hr ⊢;exact hr
 | .int _ _,_,_,_,_,_,hr=>by simp only[R] at hr ⊢;exact hr
 | .aF _,_,_,_,_,_,hr=>by simp only[R] at hr ⊢;exact hr
 | .fV,_,_,_,_,_,hr=>by simp only[R] at hr ⊢;exact hr
 | .ptr (.aD i) _,_,_,_,hn,_,_=>by simp[V.cI] at hn
 | .ptr (.out _) _,_,_,_,_,_,hr=>by simp only[R] at hr ⊢;exact hr
 | .ptr (.jT _) _,_,_,_,_,_,hr=>by simp only[R] at hr ⊢;exact hr
 | .elt cs _, _, _, h, _, _, hr => by
  simp only[R] at hr ⊢;obtain⟨b,o,h1,h2⟩:=hr;exact⟨b,o,h1,dZ.mono cs h h2⟩
 | .sl t k l, E, E', h, _, _, hr => by
  simp only[R] at hr ⊢;obtain⟨a,cap,h1,h2,h3,h4⟩:=hr;have h4' : ub E.nl k l.length a cap t:=h4;refine⟨a,cap,h1,h2,?_,(h4'.mono h:ub E'.nl k l.length a cap t)⟩
  rcases h3 with h3 | ⟨b,o,h3,h5⟩
  .exact .inl h3
  .exact .inr ⟨b,o,h3,gq.mono l h h5⟩
 | .agg cs, _, _, h, hn, _, hr => by
  simp only[R] at hr ⊢;simp only[V.cI] at hn;obtain⟨vs,h1,h2⟩:=hr;exact⟨vs,h1,RL.o7 cs h hn h2⟩
 | .bt cs, _, _, h, hn, _, hr => by
  simp only[R] at hr ⊢;simp only[V.cI] at hn;obtain⟨vs,h1,h2⟩:=hr;exact⟨vs,h1,RL.o7 cs h hn h2⟩
 | .fn _ first cap, _, _, h, hn, _, hr => by
  simp only[R] at hr ⊢;simp only[V.cI,bC] at hn;obtain⟨fs,cs,h1,h2,h3⟩:=hr;exact⟨fs,cs,h1,RL.o7 first h hn.1 h2,RL.o7 cap h hn.2 h3⟩
 | .raw _,_,_,_,_,_,hr=>by simp only[R] at hr ⊢;exact hr
def RL.o7:∀(l:List V) {E E' : Env} (_:E.nl.le E'.nl) (_:bK l=aa) {vs:List Value},RL E l vs->RL E' l vs
 | [],_,_,_,_,[],_=>by simp only[RL]
 | [],_,_,_,_,_::_,hr=>by simp only[RL] at hr
 | _::_,_,_,_,_,[],hr=>by simp only[RL] at hr
 | x :: xs, _, _, h, hn, v :: vs, hr => by
  simp only[RL] at hr ⊢;simp only[bK,bC] at hn;exact⟨R.o7 x h hn.1 hr.1,RL.o7 xs h hn.2 hr.2⟩
end
def F7(hb:E.w.heap[b]?=U (.cells c e (0,0)))(hr:(∃i,E.a7 b = .iB i)\/E.a7 b = .pJ)(cG:new.size=c.size):
 Fr E {E with w:=E.w.setRow b new}:=by
 refine⟨rfl,rfl,rfl,by simp,C3 hb,?_,?_,?_,λ_ _ h=>.inl h,λ_ _ c _ h=>⟨c,h⟩,λ_ i _ h=>⟨i,h⟩,λb' c' e' hc=>?_⟩
 .intro b' o v hc hv;have aX:b' ≠ b:=by
   rintro rfl
   rcases hr with ⟨i,hi⟩ | hi<;>rw[hi] at hc<;>exact hc.elim
  exact⟨hc,by rw[cell_setRow_other E.w b new ⟨b',o,af⟩ aX];exact hv⟩
 .intro t n hn;refine⟨n,hn,bP _,λ_ b' k hk=>⟨hk,λcs e' bR=>?_⟩⟩;have aX:b' ≠ b:=by
   rintro rfl
   rcases hr with ⟨i,hi⟩ | hi<;>rw[hi] at hk<;>simp at hk
  exact⟨cs,by simp only[setRow_other E.w b b' new aX];exact bR,rfl⟩
 .intro b' _ hk;have aX:b' ≠ b:=by
   rintro rfl
   rcases hr with ⟨i,hi⟩ | hi<;>rw[hi] at hk<;>simp at hk
  exact⟨setRow_other E.w b b' new aX,rfl⟩
 .by_cases cq:b' = b
  .subst cq;rw[hb] at hc;simp only[aZ,Obj.cells.injEq] at hc;obtain⟨rfl,rfl,_⟩:=hc;exact⟨new,setRow_heap E.w b' c new e _ hb,cG⟩
  .exact⟨c',(setRow_other E.w b b' new cq).trans hc,rfl⟩
def ag.d_(Z:ag)(b:Nat)(cs:List V):(Z.set b cs).box b=U cs:=by simp[ag.set]
def ag.eg(Z:ag){x:Nat}(cs:List V)(h:x≠b):(Z.set b cs).box x=Z.box x:=by simp[ag.set,h]
section
variable {P:Program} {E:Env} {st:St} {a:Act} {o:Oper} {K:V->St->Prop} {Q:Exit->Act->World->Prop}
variable{off:Nat}
def WX{n:Nat}(lF:0<n)(hn:dW P t=U n)(hb:E.w.heap[b]?=U (.cells c e (0,0)))(hlen:cs.length<=c.size)
 {ay:V} {v:Value} (hy:R E ay v) (hh:bZ n (cs.drop off)=aa) (qY:ay.wd=U n) (fL:cC ay.cells=aa) :
 ∃vs:List Value,RL E ay.cells vs/\off+ay.cells.length<=cs.length /\
  (storeVar t ⟨b,off,af⟩ v).run P E.w = .ok () (E.w.setRow b (c.toList.take off++vs++c.toList.drop (off+vs.length)).toArray) /\
  (E.w.setRow b (c.toList.take off++vs++c.toList.drop (off+vs.length)).toArray).heap[b]?=U (.cells (c.toList.take off++vs++c.toList.drop (off+vs.length)).toArray e (0,0)):=by
 obtain⟨rL,cG⟩:=xc hy qY;have hl:=fI rL;have hle:=Ks hh;simp at hle hl;have bR:off+n<=cs.length:=by omega
 refine⟨v.cells.toList,rL,by omega,?_,setRow_heap E.w b c _ e _ hb⟩
 have:=Nv (P:=P) (off:=off) hn hb cG (by omega) (yg rL fL)
 rw[this];simp[cG]
def HT{v:Value}(h:(storeVar t ⟨b,off,af⟩ v).run P w = .ok () w'):
 (Instr.storeAt t (.pointer (U ⟨b,off,af⟩)) v).run P w = .ok () w' := by
 simp[Instr.storeAt,Instr.sureAddr,h]
variable{y:Operand}
def XC(hs:bE E st a){n:Nat}{ax ay:V}(lF:0<n)(ho:o.op = .store t x y)(hn:dW P t=U n)(hx:R E ax (a.eval x))(hy:R E ay (a.eval y))
 {aJ : St} (h:dq st n ay ax=U aJ) (hk:K .any aJ):o.wp P a E.w (dJ E a o.dst K) Q:=by
 cases ax with
 | ptr p off =>
  cases p with
  | jT b=>simp[dq] at h
  | aD i =>
   simp only[dq,iI] at h;obtain⟨cs,h1,h2⟩:=h;split at h2
   case isFalse=>simp at h2
   rename_i hc;obtain⟨hh,qY,fL⟩:=hc;simp only[aZ] at h2;subst h2;simp only[R] at hx;obtain⟨b,hb,hx⟩:=hx;obtain⟨b',h3,dv,c,e,eX,hlen,n5⟩:=hs.cV.box i cs h1;rw[hb] at h3;simp only[aZ] at h3;subst h3;obtain⟨vs,rL,v8,cT,gw⟩:=WX (P:=P) (t:=t) lF hn eX hlen hy hh qY fL;have bf:=F7 (E:=E) (new:=(c.toList.take off++vs++c.toList.drop (off+vs.length)).toArray) eX (.inl ⟨i,dv⟩) (by have:=fI rL;simp;omega);have hle:=bf.le λ_ _ h=>h
   have nZ:=FB (E' := {E with w:=E.w.setRow b (c.toList.take off++vs++c.toList.drop (off+vs.length)).toArray}) hlen
    (λj x hj=>let ⟨u,h1,h2⟩:=n5 j x hj;⟨u,h1,h2.mono _ hle⟩) (RL.mono _ hle rL) v8 gw
   generalize (c.toList.take off++vs++c.toList.drop (off+vs.length)).toArray=new at cT gw bf hle nZ;have jY : ∀b',b' ≠ b->(E.w.setRow b new).heap[b']?=E.w.heap[b']?:=λb' aX=>setRow_other E.w b b' new aX
   unfold Oper.wp;rw[show(execOp a.eval o).run P E.w = .ok .skip (E.w.setRow b new) from by simp[execOp,ho,hx,HT cT]];refine⟨{E with w:=E.w.setRow b new},.any,undef,⟨st.t,st.aD.set i (setAt cs off ay.cells),st.out⟩,rfl,bf,⟨?_,⟨?_,?_⟩,hs.defers,RL.mono _ hle hs.slot⟩,by simp[R],rfl,hk⟩
   .exact BR hs.ok bf.nl (λb' hr _=>⟨hr,jY b' (by rintro rfl;rw[dv] at hr;simp at hr)⟩) (λ_ _ h=>h) (λb' b9 => hs.ok.fresh b' (by simpa using b9)) hs.ok.nt
   .intro j ds hj
    by_cases fC:j=i
    .subst fC;have aB:j<st.aD.length:=(fg.1 h1).1;simp only[OX aB,aZ] at hj;subst hj;exact⟨b,hb,dv,nZ⟩
    .simp only[Cr (fi fC)] at hj;obtain⟨b',k1,k2,k3⟩:=hs.cV.box j ds hj;exact⟨b',k1,k2,k3.mono hle (jY b' (by rintro rfl;rw[dv] at k2;simp at k2;exact fC k2.symm))⟩
   .intro j hj;exact hs.cV.none j (by simpa using hj)
  | out b =>
   simp only[dq,iI] at h;obtain⟨cs,h1,h2⟩:=h;split at h2
   case isFalse=>simp at h2
   rename_i hc;obtain⟨hh,qY,fL,n8⟩:=hc;simp only[aZ] at h2;subst h2;simp only[R] at hx;obtain⟨dv,c,e,eX,hlen,n5⟩:=hs.ok.box b cs h1;have Gl : E.w.heap[b]?=U (.cells c e (0,0)):=eX;obtain⟨vs,rL,v8,cT,gw⟩:=WX (P:=P) (t:=t) lF hn Gl hlen hy hh qY fL;have bf:=F7 (E:=E) (new:=(c.toList.take off++vs++c.toList.drop (off+vs.length)).toArray) Gl (.inr dv) (by have:=fI rL;simp;omega);have hle:=bf.le λ_ _ h=>h
   have nZ:=FB (E' := Env.nl {E with w:=E.w.setRow b (c.toList.take off++vs++c.toList.drop (off+vs.length)).toArray}) hlen
    (λj x hj=>let ⟨u,h1,h2⟩:=n5 j x hj;⟨u,h1,h2.mono _ bf.nl⟩) (RL.mono _ bf.nl (RL.o7 (E:=E) (E' := E.nl) _ (Env.le.refl E.nl) n8 rL)) v8 gw
   generalize (c.toList.take off++vs++c.toList.drop (off+vs.length)).toArray=new at cT gw bf hle nZ;have jY : ∀b',b' ≠ b->(E.w.setRow b new).heap[b']?=E.w.heap[b']?:=λb' aX=>setRow_other E.w b b' new aX
   unfold Oper.wp;rw[show(execOp a.eval o).run P E.w = .ok .skip (E.w.setRow b new) from by simp[execOp,ho,hx,HT cT]];refine⟨{E with w:=E.w.setRow b new},.any,undef,⟨st.t,st.aD,st.out.set b (setAt cs off ay.cells)⟩,rfl,bf,⟨⟨?_,hs.ok.aK,λb' b9 => hs.ok.fresh b' (by simpa using b9),hs.ok.nt,λb cs hc=>dZ.mono _ bf.nl (hs.ok.bY b cs hc)⟩,
    pK hs.cV hle (λb' i hr _=>⟨hr,jY b' (by rintro rfl;rw[dv] at hr;simp at hr)⟩) hs.cV.none,hs.defers,RL.mono _ hle hs.slot⟩,by simp[R],rfl,hk⟩
   intro b' ds jW
   by_cases cq:b' = b
   .subst cq;rw[ag.d_] at jW;simp only[aZ] at jW;subst jW;exact⟨dv,nZ⟩
   .rw[ag.eg _ _ cq] at jW;obtain⟨k1,k2⟩:=hs.ok.box b' ds jW;exact⟨k1,k2.mono bf.nl (jY b' cq)⟩
 | _=>simp[dq] at h
end
def eT.lB:eT->eT
 | .iB _=>.l6
 | r=>r
def eT.Su(r:eT)(o:Nat):r.lB.gW o↔r.gW o:=by cases r<;>simp[eT.lB,eT.gW]
def Env.call(E:Env):Env:={w:=E.w,a7:=λb=>(E.a7 b).lB,aD:=λ_=>af,aK:=E.aK}
def eT.back:eT->eT->eT
 | .iB i,_=>.iB i
 | _,r=>r
def Env.back(E E' : Env):Env:={w:=E'.w,a7:=λb=>(E.a7 b).back (E'.a7 b),aD:=E.aD,aK:=E'.aK}
def Je(E:Env):E.nl.le E.call.nl :=
 ⟨λb o c hc hv=>⟨(eT.Su _ _).2 hc,hv⟩,λ_ _ h=>by simp at h,λt n hn=>⟨n,hn,bP _,λ_ b c hb=>⟨by
  show(E.a7 b).lB=_;have b9 : E.a7 b = .gl t c:=hb;rw[b9];rfl,λcs _ hc=>⟨cs,hc,rfl⟩⟩⟩⟩
def aan(h:E.ok Z):E.call.ok Z:=by
 refine⟨λb cs bR=>?_,h.aK,λb hb=>?_,h.nt,λb cs hc=>dZ.mono _ (Je E) (h.bY b cs hc)⟩
 .obtain⟨h1,h2⟩:=h.box b cs bR;exact⟨by show(E.a7 b).lB=_;rw[h1];rfl,h2.mono (Je E) rfl⟩
 .show(E.a7 b).lB=_;rw[h.fresh b hb];rfl
section
variable {E E' : Env} (hf:∀b,E.w.heap.size<=b->E.a7 b = .const) (h:Fr E.call E')
variable{i:Nat}
include hf h in
theorem Fv(hb:E.a7 b = .iB i):b<E.w.heap.size/\E'.a7 b = .l6/\E'.w.heap[b]?=E.w.heap[b]?:=by
 have aB:b<E.w.heap.size:=by
  rcases vw b E.w.heap.size with h | h
  .exact h
  .rw[hf b h] at hb;simp at hb
 have hr:E.call.a7 b = .l6:=by show(E.a7 b).lB=_;rw[hb];rfl
 obtain⟨h1,h2⟩:=h.same b aB (.inr hr);exact⟨aB,h2.trans hr,h1⟩
include hf h in
theorem PQ(b o:Nat):((E.back E').a7 b).gW o↔(E'.a7 b).gW o:=by
 show(((E.a7 b).back (E'.a7 b)).gW o↔_);cases hb:E.a7 b with
 | iB i =>
  obtain⟨_,h2,_⟩:=Fv hf h hb;simp[eT.back,h2,eT.gW]
 | _=>simp[eT.back]
include hf h in
theorem PR{t c:Nat}(hb:E'.a7 b = .gl t c):(E.back E').a7 b = .gl t c:=by
 show(E.a7 b).back (E'.a7 b)=_;cases hr:E.a7 b with
 | iB i =>
  obtain⟨_,h2,_⟩:=Fv hf h hr;rw[hb] at h2;simp at h2
 | _=>simp[eT.back,hb]
include hf h in
theorem ZC(hb:E'.a7 b = .pJ):(E.back E').a7 b = .pJ:=by
 show(E.a7 b).back (E'.a7 b)=_;cases hr:E.a7 b with
 | iB i =>
  obtain⟨_,h2,_⟩:=Fv hf h hr;rw[hb] at h2;simp at h2
 | _=>simp[eT.back,hb]
include hf h in
theorem ZB:E'.nl.le (E.back E').nl :=
 ⟨λb o _ hc hv=>⟨(PQ hf h b o).2 hc,hv⟩,λ_ _ h=>by simp at h,λ_ n hn=>⟨n,hn,bP _,λ_ _ _ hb=>⟨PR hf h hb,λcs _ hc=>⟨cs,hc,rfl⟩⟩⟩⟩
include hf h in
theorem ZA:Fr E (E.back E'):=by
 refine⟨h.os,h.output,h.tape,h.size,h.gu,?_,?_,?_,?_,?_,?_,h.shape⟩
 .intro b o c hc hv;obtain⟨h1,h2⟩:=h.cell b o c ((eT.Su _ _).2 hc) hv;exact⟨(PQ hf h b o).2 h1,h2⟩
 .intro t n hn;obtain⟨n',h1,h2,h3⟩:=h.tok t n hn;refine⟨n',h1,h2,λhe b c hb=>?_⟩;obtain⟨h4,h5⟩:=h3 he b c (by show(E.a7 b).lB=_;rw[hb];rfl);exact⟨PR hf h h4,h5⟩
 .intro b hb hr;have aX:(E.a7 b).lB=E.a7 b:=by rcases hr with hr | hr<;>rw[hr]<;>rfl
  obtain⟨h1,h2⟩:=h.same b hb (by show(E.a7 b).lB=_\/(E.a7 b).lB=_;rw[aX];exact hr);refine⟨h1,?_⟩;show(E.a7 b).back (E'.a7 b)=_;have vP : E'.a7 b=(E.a7 b).lB:=h2;rw[vP,aX]
  rcases hr with hr | hr<;>rw[hr]<;>rfl
 .intro b hb hr;have ck : (E.a7 b).back (E'.a7 b) = .pJ:=hr;cases hq:E.a7 b with
  | iB i=>rw[hq] at ck;simp[eT.back] at ck
  | pJ=>exact .inl rfl
  | _ =>
   rw[hq] at ck;simp only[eT.back] at ck
   rcases h.CH b hb ck with h' | ⟨j,h'⟩
   .have h' : (E.a7 b).lB = .pJ:=h';rw[hq] at h';simp[eT.lB] at h'
   .have h' : (E.a7 b).lB = .iB j:=h';rw[hq] at h';simp[eT.lB] at h'
 .intro b t c hb hr;have ck : (E.a7 b).back (E'.a7 b) = .gl t c:=hr;cases hq:E.a7 b with
  | iB i=>rw[hq] at ck;simp[eT.back] at ck
  | _ =>
   rw[hq] at ck;simp only[eT.back] at ck;obtain⟨c0,this⟩:=h.CJ b t c hb ck;have h' : (E.a7 b).lB = .gl t c0:=this;rw[hq] at h'
   first | (simp[eT.lB] at h';done) | exact⟨c0,h'⟩
 .intro b i hb hr;have ck : (E.a7 b).back (E'.a7 b) = .iB i:=hr;cases hq:E.a7 b with
  | iB j=>exact⟨j,rfl⟩
  | _ =>
   rw[hq] at ck;simp only[eT.back] at ck;obtain⟨c0,this⟩:=h.A0 b i hb ck;have h' : (E.a7 b).lB = .iB c0:=this;rw[hq] at h';simp[eT.lB] at h'
end
section
variable {P:Program} {E:Env} {st:St} {a:Act} {o:Oper} {K:V->St->Prop} {Q:Exit->Act->World->Prop}
def aam(hs:bE E st a){xs:List V}{vs:Array Value}(hx:RL E xs vs.toList)(hn:bK xs=aa)(hc:cg P f xs st.out λv Z=>K v ⟨st.t,st.aD,Z⟩):
 Calls P f vs E.w λe w' => ∃E' v x aJ,e = .returned x/\E'.w=w' /\ Fr E E' /\ bE E' aJ a/\R E' v x/\K v aJ := by
 have hf:=hs.ok.fresh;refine(hc.2 E.call vs (λ_=>rfl) (aan hs.ok) (RL.o7 _ (Je E) hn hx)).mono ?_;rintro e w' ⟨v,x,E',σ',rfl,rfl,KZ,b_,hr,bf,hk⟩;have xH := ZA hf bf;have hle:E.le (E.back E'):=xH.le λ_ _ h=>h
 have Kw:=ZB hf bf;refine⟨E.back E',v,x,⟨st.t,st.aD,σ'⟩,rfl,rfl,xH,⟨⟨?_,b_.aK,?_,b_.nt,λb cs hc=>dZ.mono _ Kw (b_.bY b cs hc)⟩,?_,hs.defers,RL.mono _ hle hs.slot⟩,?_,hk⟩
 .intro b cs bR;obtain⟨h1,h2⟩:=b_.box b cs bR;exact⟨ZC hf bf h1,h2.mono Kw rfl⟩
 .intro b hb;have b9 : E'.w.heap.size<=b:=hb;show(E.a7 b).back (E'.a7 b)=_;rw[hf b (w7 bf.size b9)];exact b_.fresh b b9
 .refine pK hs.cV hle (λb i ck aB=>?_) hs.cV.none;obtain⟨_,_,h3⟩:=Fv hf bf ck;exact⟨by show(E.a7 b).back (E'.a7 b)=_;rw[ck];rfl,h3⟩
 .have h1:E'.nl.le (E.back E').nl:=Kw;have h2:E'.le (E.back E'):=⟨h1.cell,λi b hb=>by rw[KZ i] at hb;simp at hb,h1.tok⟩;exact hr.mono _ h2
def Xv(hs:bE E st a){xs:List V}{vs:Array Value}(hx:RL E xs vs.toList)(hn:bK xs=aa)(hc:cg P f xs st.out λv Z=>K v ⟨st.t,st.aD,Z⟩)
 (hr:(execOp a.eval o).run P E.w=(callFunc f vs).run P E.w):o.wp P a E.w (dJ E a o.dst K) Q:=by
 unfold Oper.wp;rw[hr,hc.1];simp only[Oper.upon_enter];refine(aam hs hx hn hc).mono ?_;rintro e w' ⟨E',v,x,aJ,rfl,rfl,h1,h2,h3,h4⟩;exact⟨E',v,x,aJ,rfl,h1,h2,h3,rfl,h4⟩
end
def xa{E:Env}:∀{xs ys:List V} {b o:Nat},dZ E (xs++ys) b o↔dZ E xs b o/\dZ E ys b (o+xs.length)
 | [],ys,b,o=>by simp[dZ]
 | x :: xs, ys, b, o => by
  simp only[gI,dZ,xa (xs:=xs),dd,I2];rw[show o+1+xs.length=o+(xs.length+1) from by omega]
def qB{E:Env}{k:Nat}:∀{l:List (List V)} {b o:Nat},gq E k l b o↔(∀x∈l,x.length=k)/\dZ E l.flatten b o
 | [],b,o=>by simp[gq,dZ]
 | x :: xs, b, o => by
  simp only[gq,kH,xa,qB (l:=xs),eE];constructor
  .rintro⟨h1,h2,h3,h4⟩;exact⟨⟨h1,h3⟩,h2,by rw[h1];exact h4⟩
  .rintro⟨⟨h1,h3⟩,h2,h4⟩;exact⟨h1,h2,h3,by rw[h1] at h4;exact h4⟩
def my{k:Nat}:∀{l:List (List V)},(∀x∈l,x.length=k)->l.flatten.length=l.length*k
 | [],_=>by simp
 | x :: xs, h => by
  simp only[eE] at h;simp only[kH,bN,h.1,my h.2,dd,je,w9];omega
def Fa{E:Env}:∀{cs:List V} {b o:Nat},dZ E cs b o->∃vs:List Value,RL E cs vs/\(∀(j:Nat) v,vs[j]?=U v->E.w.cell? ⟨b,o+j,af⟩=U v) /\
 (∀v∈vs,v.oneCell' = aa)/\∀j,j<cs.length->(E.a7 b).gW (o+j)
 | [],_,_,_=>⟨[],by simp[RL],λj v h=>by simp at h,λv hv=>by simp at hv,λj hj=>by simp at hj⟩
 | x :: xs, b, o, h => by
  simp only[dZ] at h;obtain⟨⟨c,h1,h2,h3,h4⟩,h5⟩:=h;obtain⟨vs,k1,k2,k3,k4⟩:=Fa h5;refine⟨c::vs,?_,λj v hv=>?_,λv hv=>?_,λj hj=>?_⟩
  .simp only[RL];exact⟨h4,k1⟩
  .cases j with
   | zero=>simp at hv;subst hv;exact h1
   | succ j=>simp at hv;rw[show o+(j+1)=o+1+j from by omega];exact k2 j v hv
  .rcases kI.1 hv with rfl | hv
   .exact h3
   .exact k3 v hv
  .cases j with
   | zero=>exact h2
   | succ j=>rw[show o+(j+1)=o+1+j from by omega];exact k4 j (by simpa using hj)
def Cz{E:Env}{b:Nat}:∀{cs:List V} {vs:List Value} {o:Nat},RL E cs vs->(∀v∈vs,v.oneCell' = aa)->(∀(j:Nat) v,vs[j]?=U v->E.w.cell? ⟨b,o+j,af⟩=U v) ->
 (∀j,j<cs.length->(E.a7 b).gW (o+j))->dZ E cs b o
 | [],_,_,_,_,_,_=>by simp[dZ]
 | _::_,[],_,h,_,_,_=>by simp[RL] at h
 | x :: xs, v :: vs, o, h, h1, h2, h3 => by
  simp only[RL] at h;simp only[dZ];refine⟨⟨v,by simpa using h2 0 v (by simp),by simpa using h3 0 (by simp),h1 v (by simp),h.1⟩,Cz h.2 (λu hu=>h1 u (by simp[hu])) (λj u hu=>?_) (λj hj=>?_)⟩
  .rw[show o+1+j=o+(j+1) from by omega];exact h2 (j+1) u (by simpa using hu)
  .rw[show o+1+j=o+(j+1) from by omega];exact h3 (j+1) (by simpa using hj)
structure Src(P:Program)(w:World)(size m:Nat)(ty:TypeId)(x:Value)(news:List Value):Prop where
 ty:∃d,P.underlying ty=U d/\∀k,d≠.int k
 len:∀w',(Builtin.lenOf x).run P w' = .ok m w'
 cells:(Builtin.firstCells size m x).run P w = .ok news.toArray w
 nU : (Builtin.firstCells size m x).run P w.drew = .ok news.toArray w.drew
 size:news.length=m*size
section
variable {P:Program} {w:World} {t u ty e:TypeId} {i:TypeInfo} {z:Value}
variable{base:Option Addr}
def V5(ht:P.underlying t=U (.slice e))(hi:P.info? e=U i){n:Nat}(hn:n<=cap){x:Value}(hx:Src P w i.size 0 u x []):
 (Builtin.append_ #[t,u] ty #[.slice base n cap,x]).run P w = .ok (.slice base n cap) w:=by
 obtain⟨d,hd,hk⟩:=hx.ty;cases base<;>simp[Builtin.append_,run_underlying ht,run_underlying hd,sizeOf,typeInfo,hi,hx.len,hn,hx.cells,storeCells]
def Nt(ht:P.underlying t=U (.slice e))(hi:P.info? e=U i){g n:Nat}{cur:Array Value}{e' : TypeId}(hg:w.heap[g]?=U (.cells cur e' (0,0)))
 {x:Value} {news:List Value} (hx:Src P w i.size m u x news) (h1:∀v∈news,v.oneCell' = aa) (n_:n+m<=cap) (n6:n*i.size+news.length<=cur.size) :
 (Builtin.append_ #[t,u] ty #[.slice (U ⟨g,0,af⟩) n cap,x]).run P w =
  .ok (.slice (U ⟨g,0,af⟩) (n+m) cap) (w.setRow g (cur.toList.take (n*i.size)++news++cur.toList.drop (n*i.size+news.length)).toArray):=by
 obtain⟨d,hd,hk⟩:=hx.ty;have ec:=run_storeCells_at (P:=P) g (n*i.size) e' news 0 cur w hg (by simpa using n6) h1;simp only[wZ] at ec;simp[Builtin.append_,run_underlying ht,run_underlying hd,sizeOf,typeInfo,hi,hx.len,n_,hx.cells,mr,ec]
def Ns(ht:P.underlying t=U (.slice e))(hi:P.info? e=U i)(hzv:i.zero=U z){n:Nat}{gG:List Value}
 (ho:(Builtin.firstCells i.size n (.slice base n cap)).run P w.drew = .ok gG.toArray w.drew)
 {x:Value} {news:List Value} (hx:Src P w i.size m u x news) (hg:cap<n+m) (hb:(n+m)*i.bytes<=140737488355328) (hs:n+m<=9223372036854775807) :
 (Builtin.append_ #[t,u] ty #[.slice base n cap,x]).run P w =
  .ok (.slice (U ⟨w.heap.size,0,af⟩) (n+m) (grownCap w (n+m) cap e))
   (w.drew.alloc (.cells (gG++(news++(Builtin.zeroCells z.cells (grownCap w (n+m) cap e - (n+m))).toList)).toArray e)):=by
 obtain⟨d,hd,hk⟩:=hx.ty;have hn:¬(n+m<=cap):=by omega
 have ah7 : ¬(9223372036854775807<((n:Int)+(m:Int))):=by omega
 have n6:=growslice_fits (need:=n+m) (old:=cap) (bytes:=i.bytes) hg hb;have ah6 : ¬(281474976710656<Builtin.nextslicecap (n+m) cap*i.bytes):=by omega
 have jC : (Builtin.firstCells i.size m x).run P w.drew = .ok news.toArray w.drew:=hx.nU;simp[Builtin.append_,run_underlying ht,run_underlying hd,sizeOf,typeInfo,zeroValue,hi,hzv,hx.len,hn,ah7,ah6,Question.forced,ho,jC,newRow,grownCap];congr 2;apply Ch;simp
end
variable{u:TypeId}
def HZ{e':TypeId}(hu:P.underlying u=U (.slice e')){t' : Tk}{m:List (List V)}{x:Value}(h:R E (.sl t' k m) x):
 ∃news,Src P E.w k m.length u x news/\RL E.nl m.flatten news/\(∀v∈news,v.oneCell' = aa)/\∀y∈m,y.length=k:=by
 simp only[R] at h;obtain⟨a,cap,rfl,_,h3,_⟩:=h;have SZ:∃d,P.underlying u=U d/\∀k,d≠.int k:=⟨_,hu,λ_ h=>by simp at h⟩
 rcases h3 with rfl | ⟨b,o,rfl,hr⟩
 .refine⟨[],⟨SZ,λw' => by simp[Builtin.lenOf],?_,?_,by simp⟩,by simp[RL],λv hv=>by simp at hv,λy hy=>by simp at hy⟩ <;>
   cases a<;>simp[Builtin.firstCells,loadCells,loadCellsFrom]
 .obtain⟨h1,h2⟩:=qB.1 hr;obtain⟨vs,k1,k2,k3,_⟩:=Fa h2;have hl:=fI k1;rw[my h1] at hl;have hc:∀(j:Nat) v,vs[j]?=U v->E.w.cell? ((⟨b,o,af⟩:Addr).add j)=U v:=λj v hv=>by rw[mr];exact k2 j v hv
  refine⟨vs,⟨SZ,λw' => by simp[Builtin.lenOf],?_,?_,hl.symm⟩,k1,k3,h1⟩
  .have:=run_loadCells_list (P:=P) E.w ⟨b,o,af⟩ vs hc
   simp only[Builtin.firstCells];rw[hl];exact this
  .have:=run_loadCells_list (P:=P) E.w.drew ⟨b,o,af⟩ vs hc
   simp only[Builtin.firstCells];rw[hl];exact this
variable{l:List (List V)}
def UE(h3:l=[]\/∃b o,a=U ⟨b,o,af⟩/\gq E.nl k l b o):
 ∃gG,(Builtin.firstCells k l.length (.slice a l.length cap)).run P E.w.drew = .ok gG.toArray E.w.drew/\RL E.nl l.flatten gG/\(∀v∈gG,v.oneCell' = aa)/\(∀y∈l,y.length=k)/\gG.length=l.length*k:=by
 rcases h3 with rfl | ⟨b,o,rfl,hr⟩
 .refine⟨[],?_,by simp[RL],λv hv=>by simp at hv,λy hy=>by simp at hy,by simp⟩;cases a<;>simp[Builtin.firstCells,loadCells,loadCellsFrom]
 .obtain⟨h1,h2⟩:=qB.1 hr;obtain⟨vs,k1,k2,k3,_⟩:=Fa h2;have hl:=fI k1;rw[my h1] at hl;have hc:∀(j:Nat) v,vs[j]?=U v->E.w.cell? ((⟨b,o,af⟩:Addr).add j)=U v:=λj v hv=>by rw[mr];exact k2 j v hv
  refine⟨vs,?_,k1,k3,h1,hl.symm⟩
  have:=run_loadCells_list (P:=P) E.w.drew ⟨b,o,af⟩ vs hc
  simp only[Builtin.firstCells];rw[hl];exact this
section
variable {P:Program} {E:Env} {st:St} {a:Act} {o:Oper} {K:V->St->Prop} {Q:Exit->Act->World->Prop}
def Fb{nb:Nat}{vs rest:List Value}{fr:Nat × Nat}(hl:∀y∈l,y.length=k)(hr:RL E'.nl l.flatten vs)(h1:∀v∈vs,v.oneCell' = aa)
 (hb:E'.w.heap[nb]?=U (.cells (vs++rest).toArray e fr)) (hc:∀j,j<l.length*k->(E'.a7 nb).gW j):gq E'.nl k l nb 0:=by
 refine qB.2 ⟨hl,Cz hr h1 (λj v hv=>?_) (λj hj=>by rw[my hl] at hj;simpa using hc j hj)⟩;have aB:=(fg.1 hv).1;simp[World.cell?,hb,sA aB,hv]
def EH(hs:bE E st a){ty:TypeId}{i:TypeInfo}{z:Value}(ht:P.underlying t=U (.slice e))(hi:P.info? e=U i)(hz:i.zero=U z)(iN:z.cells.size=i.size)
 (mA:i.bytes<=4096) {vs vx:Value} {tk:Tk} {l m:List (List V)}
 (cT:(execOp a.eval o).run P E.w=((Builtin.append_ #[t,u] ty #[vs,vx]).run P E.w).andThen λv w' => .ok (.value v) w')
 (cY:R E (.sl tk i.size l) vs) {news:List Value} (qW:Src P E.w i.size m.length u vx news) (rT:RL E.nl m.flatten news) (fL:∀v∈news,v.oneCell' = aa) (hm:∀y∈m,y.length=i.size)
 (jV:l.length+m.length<=aO)
 (hk:match (generalizing:=false) tk with
   | .aV=>(∀Y,st.out.aK Y=af->K (.sl (.tk Y) i.size (l++m)) ⟨st.t,st.aD,st.out.aY Y (l.length+m.length)⟩)\/K (.sl .no i.size (l++m)) st
   | .tk Y=>st.out.aK Y=U l.length/\K (.sl (.tk Y) i.size (l++m)) ⟨st.t,st.aD,st.out.aY Y (l.length+m.length)⟩
   | .no=>False):o.wp P a E.w (dJ E a o.dst K) Q:=by
 simp only[R] at cY;obtain⟨base,cap,rfl,zp,sR,uO⟩:=cY;obtain⟨gG,hold,Kl,J8,dK,hlen⟩:=UE (P:=P) (cap:=cap) sR;have Df:(l.length+m.length)*i.bytes<=140737488355328:=by
  have:=O_ jV mA
  simp only[aO] at this;omega
 have DD:l.length+m.length<=9223372036854775807:=by simp only[aO] at jV;omega
 have dp:∀y∈l++m,y.length=i.size:=λy hy=>by
  rcases jw.1 hy with h | h
  .exact dK y h
  .exact hm y h
 have Kk:RL E.nl (l++m).flatten (gG++news):=by rw[tU];exact tZ Kl rT
 have RY:∀v∈gG++news,v.oneCell' = true:=λv hv=>by
  rcases jw.1 hv with h | h
  .exact J8 v h
  .exact fL v h
 have rQ:=qW.size
 -- the ways on which the row is laid anew
 have grow:cap<l.length+m.length->(execOp a.eval o).run P E.w = .ok (.value (.slice (U ⟨E.w.heap.size,0,af⟩) (l.length+m.length) (grownCap E.w (l.length+m.length) cap e)))
  (E.w.drew.alloc (.cells (gG++(news++(Builtin.zeroCells z.cells (grownCap E.w (l.length+m.length) cap e - (l.length+m.length))).toList)).toArray e)):=λaB=>by
  rw[cT,Ns (P:=P) ht hi hz hold qW aB Df DD];rfl
 have idle:m=[]->(execOp a.eval o).run P E.w = .ok (.value (.slice base l.length cap)) E.w:=λh0=>by
  subst h0
  have:news=[]:=sz (by simpa using rQ)
  subst this;rw[cT,V5 (P:=P) ht hi zp qW];rfl
 have qf:=grownCap_ge E.w (l.length+m.length) cap e;have size:cap<l.length+m.length->(gG++(news++(Builtin.zeroCells z.cells (grownCap E.w (l.length+m.length) cap e - (l.length+m.length))).toList)).toArray.size=grownCap E.w (l.length+m.length) cap e*i.size:=λ_=>by
  simp only[O8,bN,AL,size_zeroCells,iN,hlen,rQ];rw[<-EY,<-je,<-je];congr 1;omega
 generalize grownCap E.w (l.length+m.length) cap e=nc at grow qf size;generalize v9:(Builtin.zeroCells z.cells (nc - (l.length+m.length))).toList=rest at grow size;have aif:gG++(news++rest)=(gG++news)++rest:=by simp
 rw[aif] at grow size
 -- the row laid anew,as the last of its line
 have RW:∀Y,(E.aK Y=af\/E.aK Y=U l.length)->cap<l.length+m.length->0<m.length->K (.sl (.tk Y) i.size (l++m)) ⟨st.t,st.aD,st.out.aY Y (l.length+m.length)⟩ ->
  o.wp P a E.w (dJ E a o.dst K) Q:=λY br aB lF hK=>by
  let E' : Env:={w:=E.w.drew.alloc (.cells ((gG++news)++rest).toArray e),a7:=λb=>if b=E.w.heap.size then .gl Y ((l.length+m.length)*i.size) else match E.a7 b with | .gl t c=>if t=Y then .const else .gl t c | r=>r,aD:=E.aD,aK:=λt=>if t=Y then U (l.length+m.length) else E.aK t}
  have hx:Ext E.w E'.w:=((Ext.refl _).drew).alloc _ _;have gw:∀b,b<E.w.heap.size->E'.a7 b=match E.a7 b with | .gl t c=>if t=Y then .const else .gl t c | r=>r:=λb hb=>by
   simp only[E'];rw[aC (by omega)]
  have Lg:E'.w.heap.size=E.w.heap.size+1:=by simp[E']
  have KY:∀b,b<E.w.heap.size->∀t c,E'.a7 b = .gl t c->E.a7 b = .gl t c:=λb hb t c h=>by
   rw[gw b hb] at h;cases hq:E.a7 b<;>rw[hq] at h<;>simp at h;split at h<;>simp at h;obtain⟨rfl,rfl⟩:=h;rfl
  have bf:Fr E E' := by
   refine⟨rfl,rfl,rfl,hx.size,hx.gu,?_,?_,?_,?_,?_,?_,λb c e hb=>⟨c,(hx.block b (kx hb)).trans hb,rfl⟩⟩
   .intro b o' c hc hv;have hb:=T_ hv;refine⟨?_,by rw[A5 (hx.block b hb)];exact hv⟩;rw[gw b hb];cases hq:E.a7 b<;>rw[hq] at hc<;>simp only[]
    all_goals first | exact hc | (split<;>first | trivial | exact hc)
   .intro t n hn
    by_cases qX:t=Y
    .subst qX;have K4 : n=l.length:=by rcases br with h | h<;>rw[h] at hn<;>simp at hn;exact hn.symm
     exact⟨l.length+m.length,by simp[E'],by omega,λh=>by omega⟩
    .refine⟨n,by simp only[E'];rw[aC qX];exact hn,bP _,λ_ b c hb=>?_⟩;have lD : b<E.w.heap.size:=by
      rcases vw b E.w.heap.size with h | h
      .exact h
      .rw[hs.ok.fresh b h] at hb;simp at hb
     refine⟨by rw[gw b lD,hb];simp[qX],λcs A9 bR=>⟨cs,by rw[hx.block b lD];exact bR,rfl⟩⟩
   .intro b hb hr;refine⟨hx.block b hb,?_⟩;rw[gw b hb]
    rcases hr with hr | hr<;>rw[hr]
   .intro b hb h;rw[gw b hb] at h;cases hq:E.a7 b<;>rw[hq] at h<;>first | exact .inl rfl | (simp at h;done) | (simp only[] at h;split at h<;>simp at h)
   .intro b t c hb h;exact⟨c,KY b hb t c h⟩
   .intro b i' hb h;rw[gw b hb] at h;cases hq:E.a7 b<;>rw[hq] at h<;>try (simp at h;done)
    .exact⟨_,rfl⟩
    .simp only[] at h;split at h<;>simp at h
  have hle:E.le E' := bf.le λ_ _ h=>h
  unfold Oper.wp;rw[grow aB];refine⟨E',_,_,⟨st.t,st.aD,st.out.aY Y (l.length+m.length)⟩,rfl,bf,⟨⟨?_,?_,?_,?_,λb cs hc=>dZ.mono _ bf.nl (hs.ok.bY b cs hc)⟩,?_,hs.defers,RL.mono _ hle hs.slot⟩,?_,rfl,hK⟩
  .intro b cs bR;obtain⟨k1,k2⟩:=hs.ok.box b cs bR;have lD : b<E.w.heap.size:=by obtain⟨c,e,h3,_⟩:=k2;exact kx (w:=E.w) h3
   exact⟨by rw[gw b lD,k1],k2.mono bf.nl (hx.block b lD)⟩
  .intro t n kU;simp only[ag.aY] at kU;simp only[E'];split at kU
   .rename_i h;rw[aE h];exact kU
   .rename_i h;rw[aC h];exact hs.ok.aK t n kU
  .intro b hb;rw[Lg] at hb;simp only[E'];rw[aC (by omega),hs.ok.fresh b (by omega)]
  .obtain⟨N,hN⟩:=hs.ok.nt;exact⟨max N (Y+1),λt qi => by simp only[E'];rw[aC (by omega)];exact hN t (by omega)⟩
  .exact pK hs.cV hle (λb i' hr lD => ⟨by rw[gw b lD,hr],hx.block b lD⟩) hs.cV.none
  .have rR:E'.w.heap[E.w.heap.size]?=U (.cells ((gG++news)++rest).toArray e (0,0)):=heap_alloc_new E.w.drew _;have fE:E'.a7 E.w.heap.size = .gl Y ((l.length+m.length)*i.size):=by simp[E']
   simp only[R,bN];refine⟨U ⟨E.w.heap.size,0,af⟩,nc,rfl,qf,.inr ⟨_,_,rfl,Fb dp (RL.mono _ bf.nl Kk) RY rR (λj hj=>by rw[fE];simpa [eT.gW] using hj)⟩,l.length+m.length,by simp[E'],bP _,λ_=>.inr ⟨_,_,_,rfl,fE,rR,size aB⟩⟩
 -- the state where only a tip is new
 have W7:∀Y,(E.aK Y=af\/E.aK Y=U l.length)->m=[]->cap=l.length\/E.aK Y=U l.length->K (.sl (.tk Y) i.size (l++m)) ⟨st.t,st.aD,st.out.aY Y (l.length+m.length)⟩ ->
  ub {E with aK:=λt=>if t=Y then U l.length else E.aK t} i.size l.length base cap (.tk Y)->o.wp P a E.w (dJ E a o.dst K) Q:=λY br qg _ hK b_=>by
  let E' : Env:={E with aK:=λt=>if t=Y then U l.length else E.aK t}
  have bf:Fr E E' := xw (E' := E') hs.ok.fresh (Ext.refl _) (λ_ _=>rfl) (λt n hn=>by
   simp only[E'];split
   .rename_i h;subst h;rcases br with h | h<;>rw[h] at hn<;>simp at hn;rw[hn]
   .exact hn)
  have hle:E.le E' := bf.le λ_ _ h=>h
  unfold Oper.wp;rw[idle qg];refine⟨E',_,_,⟨st.t,st.aD,st.out.aY Y (l.length+m.length)⟩,rfl,bf,⟨⟨?_,?_,hs.ok.fresh,?_,λb cs hc=>dZ.mono _ bf.nl (hs.ok.bY b cs hc)⟩,?_,hs.defers,RL.mono _ hle hs.slot⟩,?_,rfl,hK⟩
  .intro b cs bR;obtain⟨k1,k2⟩:=hs.ok.box b cs bR;exact⟨k1,k2.mono bf.nl rfl⟩
  .intro t n kU;subst qg;simp only[ag.aY,eM,wZ] at kU;simp only[E'];split at kU
   .rename_i h;rw[aE h];exact kU
   .rename_i h;rw[aC h];exact hs.ok.aK t n kU
  .obtain⟨N,hN⟩:=hs.ok.nt;exact⟨max N (Y+1),λt qi => by simp only[E'];rw[aC (by omega)];exact hN t (by omega)⟩
  .exact pK hs.cV hle (λb i' hr lD => ⟨hr,rfl⟩) hs.cV.none
  .subst qg;simp only[R,eD];refine⟨base,cap,rfl,zp,?_,b_⟩
   rcases sR with h | ⟨b,o',h,hr⟩
   .exact .inl h
   .exact .inr ⟨b,o',h,gq.mono _ bf.nl hr⟩
 cases tk with
 | no=>exact hk.elim
 | aV =>
  simp only[ub] at uO
  rcases hk with hk | hk
  .obtain⟨N,hN⟩:=hs.ok.nt;have KL:st.out.aK N=none:=by
    cases h:st.out.aK N with
    | none=>rfl
    | some n=>have:=hs.ok.aK N n h;rw[hN N (bP _)] at this;simp at this
   have hK:=hk N KL
   rcases IU m.length with h0 | h0
   .have qg:=sz h0;exact W7 N (.inl (hN N (bP _))) qg (.inl uO) hK ⟨l.length,by simp,bP _,λ_=>.inl uO⟩
   .exact RW N (.inl (hN N (bP _))) (by omega) h0 hK
  .rcases IU m.length with h0 | h0
   .have qg:=sz h0;refine cR hs (idle qg) ?_ hk;subst qg;simp only[R,eD];exact⟨base,cap,rfl,zp,sR,trivial⟩
   .refine Xy hs (((Ext.refl _).drew).alloc _ _) (grow (by omega)) ?_ hk;have rR:(E.w.drew.alloc (.cells ((gG++news)++rest).toArray e)).heap[E.w.heap.size]?=U (.cells ((gG++news)++rest).toArray e (0,0)):=heap_alloc_new E.w.drew _;obtain⟨bf,_,_⟩:=Er hs (((Ext.refl E.w).drew).alloc ((gG++news)++rest).toArray e);simp only[R,bN];exact⟨U ⟨E.w.heap.size,0,af⟩,nc,rfl,qf,.inr ⟨_,_,rfl,Fb dp (RL.mono _ bf.nl Kk) RY rR (λj _=>by rw[show({E with w:=E.w.drew.alloc (.cells ((gG++news)++rest).toArray e)}:Env).a7 E.w.heap.size = .const from hs.ok.fresh _ (bP _)];trivial)⟩,trivial⟩
 | tk Y =>
  obtain⟨br,hK⟩:=hk;have hE:=hs.ok.aK Y _ br;obtain⟨n',h1,_,h3⟩:=uO;rw[hE] at h1;simp only[aZ] at h1;subst h1
  rcases IU m.length with h0 | h0
  .have qg:=sz h0;exact W7 Y (.inr hE) qg (.inr hE) hK ⟨l.length,by simp,bP _,h3⟩
  .rcases vw cap (l.length+m.length) with aB | n_
   .exact RW Y (.inr hE) aB h0 hK
   .rcases h3 rfl with hc | ⟨b,cs,e',rfl,dv,eX,cG⟩
    .omega
    .have n6:l.length*i.size+news.length<=cs.size:=by
      rw[rQ,cG,<-je];exact rC _ n_
     have jl:=Nt (P:=P) (ty:=ty) ht hi eX qW fL n_ n6;have uH:∀j:Nat,(cs.toList.take (l.length*i.size)++news++cs.toList.drop (l.length*i.size+news.length)).toArray[j]?=if j<l.length*i.size then cs[j]? else if j<l.length*i.size+news.length then news[j - l.length*i.size]? else cs[j]?:=λj=>by
      have:=Ep (c:=cs.toList) (vs:=news) (off:=l.length*i.size) (by simpa using n6) j
      simpa using this
     have rY:(cs.toList.take (l.length*i.size)++news++cs.toList.drop (l.length*i.size+news.length)).toArray.size=cs.size:=by
      simp;omega
     generalize (cs.toList.take (l.length*i.size)++news++cs.toList.drop (l.length*i.size+news.length)).toArray=new at jl uH rY;have aii:l.length*i.size<=(l.length+m.length)*i.size:=rC _ (by omega)
     let E' : Env:={w:=E.w.setRow b new,a7:=λb' => if b' = b then .gl Y ((l.length+m.length)*i.size) else E.a7 b',aD:=E.aD,aK:=λt=>if t=Y then U (l.length+m.length) else E.aK t}
     have iy:∀b',b' ≠ b->E'.w.heap[b']?=E.w.heap[b']?:=λb' aX=>setRow_other E.w b b' new aX
     have l9:∀b',b' ≠ b->E'.a7 b' = E.a7 b' := λb' aX=>by simp only[E'];rw[aC aX]
     have b9 : E'.w.heap[b]?=U (.cells new e' (0,0)):=setRow_heap E.w b cs new e' _ eX;have pB:E'.a7 b = .gl Y ((l.length+m.length)*i.size):=by simp[E']
     have aX:∀b' r,E.a7 b' = r->(∀c,r≠.gl Y c)->b' ≠ b:=λb' r h h' => by rintro rfl;rw[dv] at h;exact h' _ h.symm
     have bf:Fr E E' := by
      refine⟨rfl,rfl,rfl,by simp[E'],C3 eX,?_,?_,?_,?_,?_,?_,λb' c' A9 hc=>by
       by_cases cq:b' = b
       .subst cq;rw[eX] at hc;simp only[aZ,Obj.cells.injEq] at hc;obtain⟨rfl,rfl,_⟩:=hc;exact⟨new,b9,rY⟩
       .exact⟨c',(iy b' cq).trans hc,rfl⟩⟩
      .intro b' o' c hc hv
       by_cases cq:b' = b
       .subst cq;rw[dv] at hc;simp only[eT.gW] at hc;refine⟨by rw[pB];simp only[eT.gW];omega,?_⟩;simp only[World.cell?,eX] at hv;simp only[World.cell?,b9,uH,aE hc];exact hv
       .exact⟨by rw[l9 b' cq];exact hc,by rw[A5 (iy b' cq)];exact hv⟩
      .intro t n hn
       by_cases qX:t=Y
       .subst qX;rw[hE] at hn;simp only[aZ] at hn;exact⟨l.length+m.length,by simp[E'],by omega,λh=>by omega⟩
       .refine⟨n,by simp only[E'];rw[aC qX];exact hn,bP _,λ_ b' c zn=>?_⟩;have cq:b' ≠ b:=aX b' _ zn (λc' h=>by simp at h;exact qX h.1);exact⟨by rw[l9 b' cq];exact zn,λcs' A9 bR=>⟨cs',by rw[iy b' cq];exact bR,rfl⟩⟩
      .intro b' _ hr;have cq:b' ≠ b:=by rcases hr with hr | hr<;>exact aX b' _ hr (λc h=>by simp at h)
       exact⟨iy b' cq,l9 b' cq⟩
      .intro b' _ h;have cq:b' ≠ b:=by rintro rfl;rw[pB] at h;simp at h
       rw[l9 b' cq] at h;exact .inl h
      .intro b' t c _ h
       by_cases cq:b' = b
       .subst cq;rw[pB] at h;simp at h;obtain⟨rfl,_⟩:=h;exact⟨_,dv⟩
       .rw[l9 b' cq] at h;exact⟨c,h⟩
      .intro b' i' _ h;have cq:b' ≠ b:=by rintro rfl;rw[pB] at h;simp at h
       rw[l9 b' cq] at h;exact⟨_,h⟩
     have hle:E.le E' := bf.le λ_ _ h=>h
     unfold Oper.wp;rw[cT,jl];refine⟨E',_,_,⟨st.t,st.aD,st.out.aY Y (l.length+m.length)⟩,rfl,bf,⟨⟨?_,?_,?_,?_,λb cs hc=>dZ.mono _ bf.nl (hs.ok.bY b cs hc)⟩,?_,hs.defers,RL.mono _ hle hs.slot⟩,?_,rfl,hK⟩
     .intro b' cs' bR;obtain⟨k1,k2⟩:=hs.ok.box b' cs' bR;have cq:b' ≠ b:=aX b' _ k1 (λc h=>by simp at h);exact⟨by rw[l9 b' cq];exact k1,k2.mono bf.nl (iy b' cq)⟩
     .intro t n kU;simp only[ag.aY] at kU;simp only[E'];split at kU
      .rename_i h;rw[aE h];exact kU
      .rename_i h;rw[aC h];exact hs.ok.aK t n kU
     .intro b' qc;have cq:b' ≠ b:=by
       rintro rfl
       have:=kx eX
       simp[E'] at qc;omega
      rw[l9 b' cq];exact hs.ok.fresh b' (by simpa [E'] using qc)
     .obtain⟨N,hN⟩:=hs.ok.nt;exact⟨max N (Y+1),λt qi => by simp only[E'];rw[aC (by omega)];exact hN t (by omega)⟩
     .refine pK hs.cV hle (λb' i' hr _=>?_) hs.cV.none;have cq:b' ≠ b:=aX b' _ hr (λc h=>by simp at h);exact⟨by rw[l9 b' cq];exact hr,iy b' cq⟩
     .have atV:RL E'.nl (l++m).flatten (gG++news):=RL.mono _ bf.nl Kk
      -- the cells of the row,as they now are
      have Kj:gq E'.nl i.size (l++m) b 0:=by
       have Dt:gq E.nl i.size l b 0:=by
        rcases sR with h | ⟨b2,o2,h,hr⟩
        .subst h;simp[gq]
        .simp only[aZ,Addr.mk.injEq] at h;obtain⟨rfl,rfl,_⟩:=h;exact hr
       refine qB.2 ⟨dp,?_⟩;rw[tU];refine xa.2 ⟨(qB.1 (gq.mono _ bf.nl Dt)).2,Cz (RL.mono _ bf.nl rT) fL (λj v hv=>?_) (λj hj=>?_)⟩
       .have hj:=(fg.1 hv).1;rw[my dK];simp only[Env.Uu,World.cell?,b9,uH];simp only[Cx,dm,cn];rw[aC (show ¬(0+l.length*i.size+j<l.length*i.size) by omega),aE (show 0+l.length*i.size+j<l.length*i.size+news.length by omega)];rw[show 0+l.length*i.size+j - l.length*i.size=j from by omega];exact hv
       .rw[my dK];rw[my hm] at hj;simp only[Env.Ut,pB,eT.gW];rw[je];omega
      simp only[R,bN];exact⟨U ⟨b,0,af⟩,cap,rfl,n_,.inr ⟨b,0,rfl,Kj⟩,l.length+m.length,by simp[E'],bP _,λ_=>.inr ⟨b,new,e',rfl,pB,b9,rY.trans cG⟩⟩
end
section
variable {P:Program} {E:Env} {st:St} {a:Act} {o:Oper} {K:V->St->Prop} {Q:Exit->Act->World->Prop}
def Xz(hs:bE E st a)(ho:o.op = .move x\/o.op = .assign x)(hx:R E v (a.eval x))(hk:K v st):o.wp P a E.w (dJ E a o.dst K) Q :=
 cR hs (by rcases ho with ho | ho<;>simp[execOp,ho]) hx hk
variable{vx vy:V}{y:Operand}
def as9(hs:bE E st a){c:Operand}{vc:V}(ho:o.op = .pick c x y)(hc:R E vc (a.eval c))(hx:R E vx (a.eval x))(hy:R E vy (a.eval y))
 (hk:match (generalizing:=false) vc with | .bool aa=>K vx st | .bool ak=>K vy st | _=>False):o.wp P a E.w (dJ E a o.dst K) Q:=by
 cases vc<;>try exact False.elim hk
 rename_i b;simp only[R] at hc;cases b
 .exact cR hs (by simp[execOp,ho,hc,asBool]) hy hk
 .exact cR hs (by simp[execOp,ho,hc,asBool]) hx hk
def asM(hs:bE E st a)(ho:o.op = .alloc t)(hz:jK P t=U zs)(hk:K (.ptr (.aD st.aD.length) 0) ⟨st.t,st.aD++[zs],st.out⟩):
 o.wp P a E.w (dJ E a o.dst K) Q:=by
 obtain⟨i,z,h1,h2,h3,_⟩:=sy hz;refine XA hs (c:=z.cells) (e:=t) ?_ (qH h3) hk;simp[execOp,ho,Instr.alloc,zeroValue,typeInfo,h1,h2,newVar,newRow]
def asQ(hs:bE E st a){n:Nat}(ho:o.op = .box t x)(hx:R E v (a.eval x))(hw:v.wd=U n)(hk:K (.ptr (.aD st.aD.length) 0) ⟨st.t,st.aD++[v.cells],st.out⟩):
 o.wp P a E.w (dJ E a o.dst K) Q:=by
 refine XA hs (c:=(a.eval x).cells) (e:=t) ?_ (xc hx hw).1 hk;simp[execOp,ho,Instr.box,newVar,newRow]
def as7(hs:bE E st a)(ho:o.op = .nilCheck x)(hx:R E v (a.eval x))
 (hk:match (generalizing:=false) v with | .ptr p o=>K (.ptr p o) st | .elt c o=>K (.elt c o) st | .fn (.func f) a b=>K (.fn (.func f) a b) st | _=>False):o.wp P a E.w (dJ E a o.dst K) Q:=by
 cases v<;>try exact False.elim hk
 case ptr p off =>
  refine cR hs (v:=.ptr p off) (x:=a.eval x) ?_ hx hk;cases p<;>simp only[R] at hx
  .obtain⟨b,_,h⟩:=hx;simp[execOp,ho,h]
  .simp[execOp,ho,hx]
  .simp[execOp,ho,hx]
 case elt c off =>
  refine cR hs (v:=.elt c off) (x:=a.eval x) ?_ hx hk;simp only[R] at hx;obtain⟨b,o',h,_⟩:=hx;simp[execOp,ho,h]
 case fn f as bs =>
  cases f<;>try exact False.elim hk
  rename_i f;refine cR hs (v:=.fn (.func f) as bs) (x:=a.eval x) ?_ hx hk;simp only[R] at hx;obtain⟨fs,cs,h,_⟩:=hx;simp[execOp,ho,h]
variable{t':TypeId}
def asO(hs:bE E st a){op:BinOp}(ho:o.op = .binOp op t x y t')(hx:R E vx (a.eval x))(hy:R E vy (a.eval y))
 (hk:opt (ug op vx vy) (K2 K st)):o.wp P a E.w (dJ E a o.dst K) Q:=by
 unfold opt K2 at hk;split at hk
 case h_2=>exact hk.elim
 rename_i v hv;unfold ug at hv;split at hv
 case h_2=>simp at hv
 rename_i k n k' m;split at hv
 case isFalse=>simp at hv
 rename_i iw;simp only[R] at hx hy
 by_cases GM:zO op=aa
 .cases op<;>simp only[zO,dm] at GM
  .simp only[hD] at hv;split at hv
   case isTrue=>simp at hv
   rename_i hm;simp only[aZ] at hv;subst hv;refine cR hs (x:=.int k (k.wrap (n*2^(Nat.min m.toNat k.bits)))) ?_ (by simp only[R]) hk;simp only[execOp,ho,hx,hy];simp[eqGuard,binOp,Op.shift,hm]
  .simp only[hD] at hv;split at hv
   case isTrue=>simp at hv
   rename_i hm;simp only[aZ] at hv;subst hv;refine cR hs (x:=.int k (n.fdiv (2^(Nat.min m.toNat k.bits)))) ?_ (by simp only[R]) hk;simp only[execOp,ho,hx,hy];simp[eqGuard,binOp,Op.shift,hm]
 have iw:=iw.resolve_right GM;obtain rfl:=GV iw;cases op<;>simp only[hD,aZ] at hv<;>try (simp at hv;done)
 case shl=>simp[zO] at GM
 case shr=>simp[zO] at GM
 case quo =>
  split at hv
  case isTrue=>simp at hv
  rename_i hm;simp only[aZ] at hv;subst hv;refine cR hs (by simp only[execOp,ho,hx,hy];simp only[eqGuard,binOp,Op.intDiv];simp[hm];rfl) (by simp only[R];try rfl) hk
 case rem =>
  split at hv
  case isTrue=>simp at hv
  rename_i hm;simp only[aZ] at hv;subst hv;refine cR hs (by simp only[execOp,ho,hx,hy];simp only[eqGuard,binOp,Op.intDiv];simp[hm];rfl) (by simp only[R];try rfl) hk
 case andNot =>
  subst hv;refine cR hs (x:=.int k (k.wrap ((BitVec.ofInt k.bits n&&&~~~BitVec.ofInt k.bits m).toNat:Nat))) ?_ (by simp only[R]) hk;simp only[execOp,ho,hx,hy];simp only[eqGuard,binOp,Op.intBits];simp
 all_goals
  subst hv;refine cR hs (by simp only[execOp,ho,hx,hy];simp only[eqGuard,binOp,Op.intArith,Op.intCmp,Op.intBits];simp;first | rfl | simp) (by simp only[R];try rfl) hk
def TY(x y:List UInt8):(x == y)=decide (x=y):=by
 rw[Cl];simp
def asP(hs:bE E st a){op:BinOp}(ho:o.op = .binOp op t x y t')(hx:R E vx (a.eval x))(hy:R E vy (a.eval y))
 (hk:opt (yZ op vx vy) (K2 K st)):o.wp P a E.w (dJ E a o.dst K) Q:=by
 unfold opt K2 at hk;split at hk
 case h_2=>exact hk.elim
 rename_i v hv;unfold yZ at hv;split at hv
 case h_2=>simp at hv
 rename_i n m;simp only[R] at hx hy;cases op<;>simp only[wH,aZ] at hv<;>try (simp at hv;done)
 all_goals
  subst hv;refine cR hs (by simp only[execOp,ho,hx,hy];simp only[eqGuard,binOp,Op.stringOp,ByteArray.toList_mk];simp[TY];rfl) (by simp[R]) hk
def asU(hs:bE E st a)(ho:o.op = .binOp .add t x y t')(hx:R E vx (a.eval x))(hy:R E vy (a.eval y))
 (hk:∃m n,vx = .aF m/\vy = .aF n/\m.length+n.length<=aO/\K (.aF (m++n)) st):o.wp P a E.w (dJ E a o.dst K) Q:=by
 obtain⟨m,n,rfl,rfl,hb,hk⟩:=hk;simp only[R] at hx hy;have cG:¬(9223372036854775807<((m.length:Int)+(n.length:Int))):=by simp only[aO] at hb;omega
 have e1:(⟨m.toArray⟩:ByteArray).size=m.length:=by simp[ByteArray.size]
 have e2:(⟨n.toArray⟩:ByteArray).size=n.length:=by simp[ByteArray.size]
 refine cR hs (v:=.aF (m++n)) (x:=.string ⟨(m++n).toArray⟩) ?_ (by simp only[R]) hk;simp only[execOp,ho,hx,hy];simp only[eqGuard,binOp,Op.stringOp,e1,e2];have e3:(⟨m.toArray⟩:ByteArray)++(⟨n.toArray⟩:ByteArray)=⟨(m++n).toArray⟩:=by
  apply ByteArray.ext;simp[ByteArray.data_append]
 simp[IntKind.max,IntKind.signed,IntKind.bits,cG,e3]
def Xt(hs:bE E st a){neg:Bool}{op:BinOp}(l8:op=if neg then .neq else .eql)(ht:P.underlying t=U .bool)(ho:o.op = .binOp op t x y t')(hx:R E vx (a.eval x))(hy:R E vy (a.eval y))
 (hk:opt (xq neg vx vy) (K2 K st)):o.wp P a E.w (dJ E a o.dst K) Q:=by
 unfold opt K2 at hk;split at hk
 case h_2=>exact hk.elim
 rename_i v hv;unfold xq at hv;split at hv
 case h_2=>simp at hv
 rename_i m n;simp only[R] at hx hy;simp only[aZ] at hv;subst hv;subst l8;cases neg
 .refine cR hs (x:=.bool (decide (m=n))) ?_ (by simp[R]) hk;simp only[execOp,ho,hx,hy];simp[eqGuard,run_eql_bool E.w t m n ht];cases m<;>cases n<;>rfl
 .refine cR hs (x:=.bool (!decide (m=n))) ?_ (by simp[R]) hk;simp only[execOp,ho,hx,hy];simp[eqGuard,run_neq_bool E.w t m n ht];cases m<;>cases n<;>rfl
def as8(hs:bE E st a)(ho:o.op = .unOp .not t x)(hx:R E v (a.eval x))(hk:match (generalizing:=false) v with | .bool b=>K (.bool (!b)) st | _=>False):
 o.wp P a E.w (dJ E a o.dst K) Q:=by
 cases v<;>try exact False.elim hk
 simp only[R] at hx;exact cR hs (by simp[execOp,ho,hx,Op.unary];rfl) (by simp only[R]) hk
def as3(hs:bE E st a)(ho:o.op = .call {callee:=.builtin .len,args:=#[x],argTypes:=#[t]})(ht:P.underlying t=U (.slice e))(hx:R E v (a.eval x))
 (hk:match (generalizing:=false) v with | .sl _ _ l=>K (.int .i64 l.length) st | .raw (.slice _ n _)=>K (.int .i64 n) st | _=>False):o.wp P a E.w (dJ E a o.dst K) Q:=by
 cases v<;>try exact False.elim hk
 case raw u =>
  cases u<;>try exact False.elim hk
  simp only[R] at hx;exact cR hs (by simp[execOp,ho,resolve,invoke,builtin,Builtin.len_,run_underlying ht,hx];rfl) (by simp[R,goInt]) hk
 simp only[R] at hx;obtain⟨b,c,h,_⟩:=hx;exact cR hs (by simp[execOp,ho,resolve,invoke,builtin,Builtin.len_,run_underlying ht,h];rfl) (by simp[R,goInt]) hk
def as4(hs:bE E st a)(ho:o.op = .call {callee:=.builtin .len,args:=#[x],argTypes:=#[t]})(ht:P.underlying t=U .string)(hx:R E v (a.eval x))
 (hk:match (generalizing:=false) v with | .aF s=>K (.int .i64 s.length) st | _=>False):o.wp P a E.w (dJ E a o.dst K) Q:=by
 cases v<;>try exact False.elim hk
 simp only[R] at hx;exact cR hs (by simp[execOp,ho,resolve,invoke,builtin,Builtin.len_,run_underlying ht,hx];rfl) (by simp[R,goInt,ByteArray.size]) hk
variable{i:Nat}
def asY(hs:bE E st a){s:TypeId}{n:Nat}{fs:Array Field}{f:Field}(ho:o.op = .fieldAddr s x i)(ht:P.underlying s=U (.struct fs))(hf:fs[i]?=U f)
 (hn:dW P f.type=U n) (By:n≠0) (hx:R E v (a.eval x)) (hk:match (generalizing:=false) v with | .ptr p o=>K (.ptr p (o+f.offset)) st | .elt c o=>K (.elt c (o+f.offset)) st | _=>False) :
 o.wp P a E.w (dJ E a o.dst K) Q:=by
 have run:∀b off:Nat,(Instr.fieldAt s (.pointer (U ⟨b,off,af⟩)) i).run P E.w = .ok (.pointer (U ⟨b,off+f.offset,af⟩)) E.w:=λb off=>by
  simp[Instr.fieldAt,run_underlying ht,hf,Instr.sureAddr,fieldPlace,ny hn,By,mr]
 cases v<;>try exact False.elim hk
 case ptr p off =>
  cases p with
  | aD j =>
   simp only[R] at hx;obtain⟨b,hb,h⟩:=hx;exact cR hs (by simp[execOp,ho,h,run];rfl) (by simp only[R];exact⟨b,hb,rfl⟩) hk
  | out b =>
   simp only[R] at hx;exact cR hs (by simp[execOp,ho,hx,run];rfl) (by simp only[R]) hk
  | jT b =>
   simp only[R] at hx;exact cR hs (by simp[execOp,ho,hx,run];rfl) (by simp only[R]) hk
 case elt c off =>
  simp only[R] at hx;obtain⟨b,o',h,hr⟩:=hx;exact cR hs (by simp[execOp,ho,h,run];rfl) (by simp only[R];exact⟨b,o',by rw[EY],hr⟩) hk
def asX(hs:bE E st a)(ho:o.op = .extract x i)(hx:R E v (a.eval x))(hk:match (generalizing:=false) v with | .bt vs=>opt vs[i]? (K2 K st) | _=>False):
 o.wp P a E.w (dJ E a o.dst K) Q:=by
 cases v<;>try exact False.elim hk
 rename_i vs;simp only[opt,K2] at hk;cases hu:vs[i]? with
 | none=>rw[hu] at hk;exact False.elim hk
 | some u =>
  rw[hu] at hk;simp only[R] at hx;obtain⟨us,h,hr⟩:=hx;obtain⟨y,h1,h2⟩:=qC hr i u hu;have vO : us[i]?=U y:=by simpa using h1
  exact cR hs (by simp[execOp,ho,h,Instr.extract,vO]) h2 hk
def as6(hs:bE E st a){f:Fn}{first cap:Array Operand}{as bs:List V}(ho:o.op = .makeFunc f first cap)(ha:RL E as (first.toList.map a.eval))(hb:RL E bs (cap.toList.map a.eval))(hk:K (.fn f as bs) st):
 o.wp P a E.w (dJ E a o.dst K) Q:=by
 refine cR hs (x:=.func f (first.map a.eval) (cap.map a.eval)) (by simp[execOp,ho,Instr.makeFunc]) ?_ hk;simp only[R];exact⟨_,_,rfl,by simpa using ha,by simpa using hb⟩
def asW(hs:bE E st a){src dst:TypeId}{k k' : IntKind}(ho:o.op = .convert src dst x)(h1:P.underlying src=U (.int k'))(h2:P.underlying dst=U (.int k))(hx:R E v (a.eval x))
 (hk:match (generalizing:=false) v with | .int _ n=>K (.int k (k.wrap n)) st | _=>False):o.wp P a E.w (dJ E a o.dst K) Q:=by
 cases v<;>try exact False.elim hk
 simp only[R] at hx;exact cR hs (by simp[execOp,ho,hx,convert,run_underlying h1,run_underlying h2,Conv.intToInt];rfl) (by simp only[R]) hk
def as0(hs:bE E st a){n:Nat}{i:Operand}{vi:V}(ho:o.op = .indexAddr t x i)(ht:P.underlying t=U (.slice e))(hn:dW P e=U n)(hx:R E vx (a.eval x))(hi:R E vi (a.eval i))
 (hk:match (generalizing:=false) vx with
   | .sl _ k' l=>k' = n/\IA l vi λc=>K (.elt c 0) st
   | .raw (.slice (U ⟨b,o,af⟩) m _)=>∃ik j,vi = .int ik j/\0<=j/\j<m/\K (.ptr (.out b) (o+j.toNat*n)) st
   | _=>False):o.wp P a E.w (dJ E a o.dst K) Q:=by
 cases vx<;>try exact False.elim hk
 case raw u =>
  split at hk
  .simp_all
  .rename_i b off m cap e;simp only[V.raw.injEq] at e;subst e;obtain⟨ik,j,rfl,g1,g2,hk⟩:=hk;simp only[R] at hx hi;refine cR hs (v:=.ptr (.out b) (off+j.toNat*n)) (x:=.pointer (U ⟨b,off+j.toNat*n,af⟩)) ?_ (by simp only[R]) hk;simp[execOp,ho,hx,hi,Instr.indexAt,asIntOf,run_underlying ht,g1,g2,ny hn,mr]
  .exact hk.elim
 rename_i tk k' l;obtain⟨rfl,ki,m,c,rfl,hm,hc,hk⟩:=hk;simp only[R] at hx hi;obtain⟨base,cap,h,_,h3,_⟩:=hx;have aB:=(fg.1 hc).1
 rcases h3 with h3 | ⟨b,off,rfl,hr⟩
 .subst h3;simp at hc
 .have Bn:dZ E.nl c b (off+m.toNat*k'):=by
   obtain⟨h1,h2⟩:=qB.1 hr;have Lh:l=l.take m.toNat++c::l.drop (m.toNat+1):=by
    have:=qA m.toNat l
    rw[mq aB] at this;rw[(fg.1 hc).2] at this;exact this.symm
   rw[Lh,tU,kH,xa,xa] at h2;have hl:(l.take m.toNat).flatten.length=m.toNat*k' := by
    rw[my (λx hx=>h1 x (AS hx))];rw[iR,w8 (by omega)]
   rw[hl] at h2;simpa using h2.2.1
  have lD : m<(l.length:Int):=by omega
  refine cR hs (v:=.elt c 0) (x:=.pointer (U ⟨b,off+m.toNat*k',af⟩)) ?_ (by simp only[R];exact⟨b,off+m.toNat*k',rfl,Bn⟩) hk;simp[execOp,ho,h,hi,Instr.indexAt,asIntOf,run_underlying ht,hm,lD,ny hn,mr]
def as1(hs:bE E st a){n:Nat}{i:Operand}{vi:V}(ho:o.op = .indexAddr t x i)(ht:P.underlying t=U (.array m e))(hn:dW P e=U n)(hx:R E vx (a.eval x))(hi:R E vi (a.eval i))
 (hk:match (generalizing:=false) vx with
   | .ptr p o=>∃kk j,vi = .int kk j/\0<=j/\j<(m:Nat)/\K (.ptr p (o+j.toNat*n)) st
   | .elt c o=>∃kk j,vi = .int kk j/\0<=j/\j<(m:Nat)/\K (.elt c (o+j.toNat*n)) st
   | _=>False):o.wp P a E.w (dJ E a o.dst K) Q:=by
 have run:∀(b off:Nat) (kk:IntKind) (j:Int),0<=j->j<(m:Nat)->(Instr.indexAt t (.pointer (U ⟨b,off,af⟩)) (.int kk j)).run P E.w = .ok (.pointer (U ⟨b,off+j.toNat*n,af⟩)) E.w:=λb off kk j h0 h1=>by
  simp[Instr.indexAt,asIntOf,run_underlying ht,Instr.sureAddr,h0,h1,ny hn,mr]
 cases vx<;>try exact False.elim hk
 case ptr p off =>
  obtain⟨kk,j,rfl,h0,h1,hk⟩:=hk;simp only[R] at hi;cases p with
  | aD q =>
   simp only[R] at hx;obtain⟨b,hb,h⟩:=hx;exact cR hs (by simp[execOp,ho,h,hi,run _ _ _ _ h0 h1];rfl) (by simp only[R];exact⟨b,hb,rfl⟩) hk
  | out b =>
   simp only[R] at hx;exact cR hs (by simp[execOp,ho,hx,hi,run _ _ _ _ h0 h1];rfl) (by simp only[R]) hk
  | jT b =>
   simp only[R] at hx;exact cR hs (by simp[execOp,ho,hx,hi,run _ _ _ _ h0 h1];rfl) (by simp only[R]) hk
 case elt c off =>
  obtain⟨kk,j,rfl,h0,h1,hk⟩:=hk;simp only[R] at hi hx;obtain⟨b,o',h,hr⟩:=hx;exact cR hs (by simp[execOp,ho,h,hi,run _ _ _ _ h0 h1];rfl) (by simp only[R];exact⟨b,o',by rw[EY],hr⟩) hk
def as2(hs:bE E st a){i:Operand}{vi:V}(ho:o.op = .index t x i)(ht:P.underlying t=U .string)(hx:R E vx (a.eval x))(hi:R E vi (a.eval i))
 (hk:match (generalizing:=false) vx with | .aF s=>∃k n c,vi = .int k n/\0<=n/\s[n.toNat]?=U c/\K (.int .u8 c.toNat) st | _=>False):o.wp P a E.w (dJ E a o.dst K) Q:=by
 cases vx<;>try exact False.elim hk
 rename_i s;obtain⟨k,n,c,rfl,hn,hc,hk⟩:=hk;simp only[R] at hx hi;have aB:=(fg.1 hc).1;have lD : n<((⟨s.toArray⟩:ByteArray).size:Int):=by simp[ByteArray.size];omega
 refine cR hs (v:=.int .u8 c.toNat) (x:=.int .u8 c.toNat) ?_ (by simp only[R]) hk
 have:=run_index_string (P:=P) E.w t ⟨s.toArray⟩ k n ht
 rw[CT ⟨hn,lD⟩] at this;simp only[execOp,ho,hx,hi,Sem.run_bind,this,Result.andThen_ok];have hg:(⟨s.toArray⟩:ByteArray)[n.toNat]'(by simp[ByteArray.size];exact aB)=c:=(fg.1 hc).2;simp[hg]
end
def vG:Nat->Value->Value->Option Bool
 | 1,.int k a,.int k' b=>if k=k' then U (decide (a=b)) else af
 | 2,.string a,.string b=>U (a.toList == b.toList)
 | 0,.bool a,.bool b=>U (a == b)
 | _,_,_=>af
section
variable {P:Program} {w:World}
def qJ(xs ys:Array Value):List (Nat × Nat)->Option Bool
 | []=>U aa
 | (j, k) :: js =>
  match xs[j]?,ys[j]? with
  | some x,U y=>(vG k x y).bind λb=>(qJ xs ys js).map (b&&·)
  | _,_=>af
def JG{xs ys:Array Value}:∀{l m:List (Nat × Nat)} {b:Bool},qJ xs ys (l++m)=U b->∃b1 b2,qJ xs ys l=U b1/\qJ xs ys m=U b2/\b=(b1&&b2)
 | [],m,b,h=>⟨aa,b,rfl,h,by simp⟩
 | (j, k) :: l, m, b, h => by
  simp only[gI,qJ] at h ⊢;split at h
  .simp only[iI,c7] at h;obtain⟨c,h1,d,h2,rfl⟩:=h;obtain⟨b1,b2,k1,k2,rfl⟩:=JG h2;exact⟨c&&b1,b2,by simp[h1,k1],k2,by simp[Bool.and_assoc]⟩
  .simp at h
def At(P:Program)(t:TypeId)(xs:Array Value)(off:Nat)(x:Value):Prop :=
 match gJ P t with
 | some aa=>x = .agg (xs.extract off (off+P.cellsOf t))/\off+P.cellsOf t<=xs.size
 | some ak=>xs[off]?=U x
 | none=>False
def P1{i:TypeInfo}(h:P.info? t=U i):P.cellsOf t=i.size:=by simp[Program.cellsOf,h]
variable{g:Bool}{off:Nat}
def HS{i:TypeInfo}(hi:P.info? u=U i){xs:Array Value}{o':Nat}(hle:o' + P.cellsOf u<=P.cellsOf t)(cG:off+P.cellsOf t<=xs.size)(hg:gJ P u=U g)(lF:g=ak->P.cellsOf u=1):
 ∃y,(part u (xs.extract off (off+P.cellsOf t)) o').run P w = .ok y w/\At P u xs (off+o') y:=by
 have hs:(sizeOf u).run P w = .ok (P.cellsOf u) w:=by simp[sizeOf,typeInfo,hi,P1 hi]
 unfold At;rw[hg];cases g
 .have h1:=lF rfl;have aB:off+o' < xs.size:=by omega
  refine⟨xs[off+o'],?_,by simp[aB]⟩
  have:(xs.extract off (off+P.cellsOf t))[o']?=U xs[off+o']:=by
   rw[XO];simp[lU aB];omega
  simp[part,An hg,this]
 .refine⟨_,by simp[part,An hg,hs];rfl,?_,by omega⟩;congr 2;omega
def Vb{n:Nat}{pl:List (Nat × Nat)}(h:wC P n u off=U pl):∃i g,P.info? u=U i/\gJ P u=U g/\(g=ak->P.cellsOf u=1):=by
 cases n with
 | zero=>simp[wC] at h
 | succ n =>
  simp only[wC] at h;split at h
  .rename_i i hi hu;split at h<;>simp at h;rename_i hc;exact⟨_,ak,hi,by simp[gJ,hu],λ_=>hc⟩
  .rename_i i hi hu;split at h<;>simp at h;rename_i hc;exact⟨_,ak,hi,by simp[gJ,hu],λ_=>hc⟩
  .rename_i i hi hu;split at h<;>simp at h;rename_i hc;exact⟨_,ak,hi,by simp[gJ,hu],λ_=>hc⟩
  .rename_i i hi hu;exact⟨_,aa,hi,by simp[gJ,hu],λh=>by simp at h⟩
  .rename_i i hi hu;exact⟨_,aa,hi,by simp[gJ,hu],λh=>by simp at h⟩
  .simp at h
def aoo:∀(n:Nat) (t:TypeId) (off:Nat) (pl:List (Nat × Nat)),wC P n t off=U pl->∀(d:Nat),n<=d->∀(xs ys:Array Value) (x y:Value),At P t xs off x->At P t ys off y ->
 ∀b,qJ xs ys pl=U b->(Op.equalIn d t x y).run P w = .ok b w:=by
 intro n;induction n with
 | zero=>intro t off pl h;simp[wC] at h
 | succ n ih =>
  intro t off pl h d hd xs ys x y hx hy b hb;obtain⟨d,rfl⟩:∃d',d=d' + 1:=⟨d - 1,by omega⟩;have one:∀k,gJ P t=U ak->pl=[(off,k)]->vG k x y=U b:=λk hg hp=>by
   subst hp;unfold At at hx hy;rw[hg] at hx hy;have jC : xs[off]?=U x:=hx;have zI : ys[off]?=U y:=hy;simp only[qJ,jC,zI,iI,vB,aZ] at hb;obtain⟨c,h1,h2⟩:=hb;rw[h1];simpa using h2
  simp only[wC] at h;split at h
  .rename_i i hi hu;split at h
   case isFalse=>simp at h
   simp only[aZ] at h;have hc:=one 0 (by simp[gJ,hu]) h.symm;unfold vG at hc;split at hc<;>simp at *;subst hc;exact run_equalIn_bool w d t _ _ hu
  .rename_i i k hi hu;split at h
   case isFalse=>simp at h
   simp only[aZ] at h;have hc:=one 1 (by simp[gJ,hu]) h.symm;unfold vG at hc;split at hc<;>simp at *;obtain⟨rfl,hc⟩:=hc;subst hc;exact run_equalIn_int w d t _ _ _ _ hu
  .rename_i i hi hu;split at h
   case isFalse=>simp at h
   simp only[aZ] at h;have hc:=one 2 (by simp[gJ,hu]) h.symm;unfold vG at hc;split at hc<;>simp at *;subst hc;exact run_equalIn_string w d t _ _ hu
  .rename_i i fs hi hu;split at h
   .simp at h
   rename_i ec;unfold At at hx hy;have hg:gJ P t=U true:=by simp[gJ,hu]
   rw[hg] at hx hy;obtain⟨rfl,pF⟩:=hx;obtain⟨rfl,pG⟩:=hy;have uG:P.fieldsOf t=fs:=by simp[Program.fieldsOf,hu]
   rw[run_equalIn_struct w d t _ _ (by rw[uG];exact hu) (by simpa using ec),uG];clear hu uG ec;clear one;generalize fs.toList=l at h;revert b pl;induction l with
   | nil=>intro pl b hb h;simp[HJ] at h;subst h;simp[qJ] at hb;subst hb;simp[Op.eqFields]
   | cons f l Lt =>
    intro pl b hb h;simp only[HJ] at h;split at h
    .simp at h
    rename_i hc;simp only[iI,c7] at h;obtain⟨p1,h1,p2,h2,rfl⟩:=h;obtain⟨b1,b2,e1,e2,rfl⟩:=JG hb;obtain⟨i',g,db,qe,kT⟩:=Vb h1;have hn:f.name ≠ "_" := λe=>hc (.inl e)
    have hle:f.offset+P.cellsOf f.type<=P.cellsOf t:=by omega
    obtain⟨u,r1,a1⟩:=HS (P:=P) (w:=w) db hle pF qe kT;obtain⟨v,r2,a2⟩:=HS (P:=P) (w:=w) db hle pG qe kT;have r3:=ih f.type (off+f.offset) p1 h1 d (by omega) xs ys u v a1 a2 b1 e1;have r4:=Lt p2 b2 e2 h2;simp only[Op.eqFields,hn,ne_eq,Uz,cD,Sem.run_bind,r1,r2,r3,Result.andThen_ok];cases b1
    .simp
    .simpa using r4
  .rename_i i k e hi hu;split at h
   case h_2=>simp at h
   rename_i ie zt;unfold At at hx hy;have hg:gJ P t=U true:=by simp[gJ,hu]
   rw[hg] at hx hy;obtain⟨rfl,pF⟩:=hx;obtain⟨rfl,pG⟩:=hy;rw[run_equalIn_array w d _ _ hu zt];clear hu;clear one;generalize bU k=l at h;revert b pl;induction l with
   | nil=>intro pl b hb h;simp[HK] at h;subst h;simp[qJ] at hb;subst hb;simp[Op.eqItems]
   | cons j l Lt =>
    intro pl b hb h;simp only[HK] at h;split at h
    .simp at h
    rename_i hc;simp only[iI,c7] at h;obtain⟨p1,h1,p2,h2,rfl⟩:=h;obtain⟨b1,b2,e1,e2,rfl⟩:=JG hb;obtain⟨i',g,db,qe,kT⟩:=Vb h1;have hle:j*P.cellsOf e+P.cellsOf e<=P.cellsOf t:=by omega
    obtain⟨u,r1,a1⟩:=HS (P:=P) (w:=w) db hle pF qe kT;obtain⟨v,r2,a2⟩:=HS (P:=P) (w:=w) db hle pG qe kT;have r3:=ih e (off+j*P.cellsOf e) p1 h1 d (by omega) xs ys u v a1 a2 b1 e1;have r4:=Lt p2 b2 e2 h2;simp only[Op.eqItems,Sem.run_bind,r1,r2,r3,Result.andThen_ok];cases b1
    .simp
    .simpa using r4
  .simp at h
end
section
variable {P:Program} {E:Env} {st:St} {a:Act} {o:Oper} {K:V->St->Prop} {Q:Exit->Act->World->Prop}
def bool_beq(x y:Bool):(x == y)=decide (x=y):=by cases x<;>cases y<;>rfl
def QU{xs ys:Array Value}:∀{ks:List Nat} {vx vy:List V} {us ws:List Value} {b:Bool} (pl:List (Nat × Nat)) (off:Nat),fA ks vx vy=U b->RL E vx us->RL E vy ws ->
 (∀(j:Nat) u,us[j]?=U u->xs[off+j]?=U u)->(∀(j:Nat) u,ws[j]?=U u->ys[off+j]?=U u)->pl.map (·.2)=ks->pl.map (·.1)=List.range' off pl.length->qJ xs ys pl=U b
 | [], vx, vy, us, ws, b, pl, off, h, hx, hy, h1, h2, h3, h4 => by
  have:pl=[]:=by simpa using h3
  subst this;cases vx<;>cases vy<;>simp[fA] at h;subst h;simp[qJ]
 | k :: ks, vx, vy, us, ws, b, pl, off, h, hx, hy, h1, h2, h3, h4 => by
  obtain⟨⟨j,k'⟩,pl,rfl⟩:∃p q,pl=p::q:=by cases pl with | nil=>simp at h3 | cons p q=>exact⟨p,q,rfl⟩
  simp only[b8,gz,dd,Ct] at h3 h4;obtain⟨rfl,h3⟩:=h3;obtain⟨rfl,h4⟩:=h4;have step:∀{x y:V} {N' Oa : List V} {c d:Bool},vx=x::N' -> vy=y::Oa -> (∀u v,R E x u->R E y v->vG k' u v=U c)->fA ks N' Oa = U d->b=(c&&d)->qJ xs ys ((j,k')::pl)=U b :=
   λ{x y N' Oa c d} e1 e2 hc hd hb=>by
    subst e1;subst e2;cases us with
    | nil=>simp[RL] at hx
    | cons u us =>
     cases ws with
     | nil=>simp[RL] at hy
     | cons v ws =>
      simp only[RL] at hx hy;have hu:=h1 0 u (by simp);have hv:=h2 0 v (by simp);simp only[wZ] at hu hv;have ih:=QU (ks:=ks) (us:=us) (ws:=ws) pl (j+1) hd hx.2 hy.2 (λi u hu=>by rw[show j+1+i=j+(i+1) from by omega];exact h1 (i+1) u (by simpa using hu))
       (λi u hu=>by rw[show j+1+i=j+(i+1) from by omega];exact h2 (i+1) u (by simpa using hu)) h3 h4
      simp only[qJ,hu,hv,hc u v hx.1 hy.1,ih,vA,vB,hb]
  unfold fA at h;split at h
  .simp at *
  .rename_i hk;simp only[gz] at hk;obtain⟨rfl,rfl⟩:=hk;split at h
   case isFalse=>simp at h
   rename_i iw;obtain rfl:=GV iw;simp only[c7] at h;obtain⟨d,hd,rfl⟩:=h;exact step rfl rfl (λu v hu hv=>by simp only[R] at hu hv;subst hu;subst hv;simp[vG]) hd rfl
  .rename_i hk;simp only[gz] at hk;obtain⟨rfl,rfl⟩:=hk;simp only[c7] at h;obtain⟨d,hd,rfl⟩:=h;exact step rfl rfl (λu v hu hv=>by simp only[R] at hu hv;subst hu;subst hv;simp[vG,TY]) hd rfl
  .rename_i hk;simp only[gz] at hk;obtain⟨rfl,rfl⟩:=hk;simp only[c7] at h;obtain⟨d,hd,rfl⟩:=h;exact step rfl rfl (λu v hu hv=>by simp only[R] at hu hv;subst hu;subst hv;simp[vG,bool_beq]) hd rfl
  .simp at h
def FU:∀{ks:List Nat} {vx vy:List V} {b:Bool},fA ks vx vy=U b->vx.length=ks.length/\vy.length=ks.length
 | [],vx,vy,b,h=>by cases vx<;>cases vy<;>simp[fA] at h;simp
 | k :: ks, vx, vy, b, h => by
  unfold fA at h;split at h
  .simp at *
  .rename_i hk;simp only[gz] at hk;obtain⟨rfl,rfl⟩:=hk;split at h
   case isFalse=>simp at h
   simp only[c7] at h;obtain⟨d,hd,_⟩:=h
   have:=FU hd;simp[this]
  .rename_i hk;simp only[gz] at hk;obtain⟨rfl,rfl⟩:=hk;simp only[c7] at h;obtain⟨d,hd,_⟩:=h
   have:=FU hd;simp[this]
  .rename_i hk;simp only[gz] at hk;obtain⟨rfl,rfl⟩:=hk;simp only[c7] at h;obtain⟨d,hd,_⟩:=h
   have:=FU hd;simp[this]
  .simp at h
variable{t':TypeId}{vx vy:V}{y:Operand}
def Io(hs:bE E st a){neg:Bool}{op:BinOp}(l8:op=if neg then .neq else .eql){ks:List Nat}(ht:MW P t=U ks)(ho:o.op = .binOp op t x y t')
 (hg:gJ P t=U aa) (hx:R E vx (a.eval x)) (hy:R E vy (a.eval y)) (hk:opt (xp neg ks vx vy) (K2 K st)):o.wp P a E.w (dJ E a o.dst K) Q:=by
 unfold opt K2 at hk;split at hk
 case h_2=>exact hk.elim
 rename_i v hv;unfold xp at hv;split at hv
 case h_2=>simp at hv
 rename_i xs ys;simp only[c7] at hv;obtain⟨b,hb,rfl⟩:=hv;simp only[R] at hx hy;obtain⟨us,uP,S5⟩:=hx;obtain⟨ws,S7,S8⟩:=hy;unfold MW at ht;split at ht
 case h_2=>simp at ht
 rename_i pl n9;split at ht
 case isFalse=>simp at ht
 rename_i hc;obtain⟨hr,n7⟩:=hc;simp only[aZ] at ht;have hlen:pl.length=P.cellsOf t:=by have:=gX List.length hr;simpa using this
 obtain⟨l1,l2⟩:=FU hb;have atP:ks.length=P.cellsOf t:=by rw[<-ht];simp[hlen]
 have Ll:us.size=P.cellsOf t:=by have:=fI S5;simp at this;omega
 have zH:ws.size=P.cellsOf t:=by have:=fI S8;simp at this;omega
 have dp:=QU (E:=E) (xs:=us) (ys:=ws) pl 0 hb S5 S8 (λj u hu=>by simpa using hu) (λj u hu=>by simpa using hu) ht (by rw[hr,hlen,tX]);have fu:∀(zs:Array Value),zs.size=P.cellsOf t->At P t zs 0 (.agg zs):=λzs hz=>by
  unfold At;rw[hg];exact⟨by rw[jy,<-hz,Array.extract_size],by omega⟩
 have cT:=aoo (P:=P) (w:=E.w) 20 t 0 pl n9 10000 (by omega) us ws _ _ (fu us Ll) (fu ws zH) b dp;subst l8;cases neg
 .refine cR hs (x:=.bool b) ?_ (by simp[R]) hk;simp only[execOp,ho,uP,S7,dm,cn];simp only[Sem.run_bind,run_eqGuard_agg E.w _ t x y us ws n7,Result.andThen_ok,run_eql_struct,cT,Sem.run_pure]
 .refine cR hs (x:=.bool (!b)) ?_ (by simp[R]) hk;simp only[execOp,ho,uP,S7,cD];simp only[Sem.run_bind,run_eqGuard_agg E.w _ t x y us ws n7,Result.andThen_ok,run_neq_struct,cT,Sem.run_pure]
variable{g:Bool}{i:Nat}
def asZ(hs:bE E st a){s:TypeId}{n:Nat}{fs:Array Field}{f:Field}(ho:o.op = .field s x i)(ht:P.underlying s=U (.struct fs))(hf:fs[i]?=U f)
 (hg:gJ P f.type=U g) (hn:dW P f.type=U n) (hx:R E v (a.eval x)) (hk:match (generalizing:=false) v with | .agg cs=>opt (bF g n (cs.drop f.offset)) (K2 K st) | _=>False) :
 o.wp P a E.w (dJ E a o.dst K) Q:=by
 cases v<;>try exact False.elim hk
 rename_i cs;simp only[opt,K2] at hk;simp only[R] at hx;obtain⟨vs,h,hr⟩:=hx;cases g with
 | false =>
  cases hd:cs.drop f.offset with
  | nil=>rw[hd] at hk;exact False.elim hk
  | cons c rest =>
   rw[hd] at hk;have hc:cs[f.offset]?=U c:=by
    have:=gX (·[0]?) hd
    simpa using this
   obtain⟨u,h1,h2⟩:=qC hr f.offset c hc;have vO : vs[f.offset]?=U u:=by simpa using h1
   exact cR hs (v:=c) (x:=u) (by simp[execOp,ho,h,Instr.field,run_underlying ht,hf,asAgg,part,An hg,vO]) h2 hk
 | true =>
  cases hd:takeN n (cs.drop f.offset) with
  | none=>simp only[bF,hd,Option.map_none] at hk;
  | some ys =>
   simp only[bF,hd,vB] at hk;obtain⟨rfl,hle⟩:=N1 hd;refine cR hs (x:=.agg (vs.extract f.offset (f.offset+n))) (by simp[execOp,ho,h,Instr.field,run_underlying ht,hf,asAgg,part,An hg,ny hn]) ?_ hk;simp only[R];refine⟨_,rfl,?_⟩;have hl:=fI hr;refine CA ?_ λj y u h1 h2=>?_
   .simp at hl hle ⊢;omega
   .have hj:j<n:=by have:=(fg.1 h1).1;simp at this;omega
    rw[IN,aE hj,tV] at h1;obtain⟨u',h3,h4⟩:=qC hr _ y h1
    have:(vs.extract f.offset (f.offset+n)).toList[j]?=U u' := by
     have aB:=(fg.1 h3).1;simp at aB;simp only[OC] at h3 ⊢;rw[XO];rw[aE (by omega)];exact h3
    rw[this] at h2;simp only[aZ] at h2;subst h2;exact h4
def Rs:∀(l:List Value) (n off:Nat) (cells:Array Value),off+n+l.length<=cells.size ->
 ((l.zipIdx n).foldl (λcs (c,j)=>cs.setIfInBounds (off+j) c) cells).toList=cells.toList.take (off+n)++l++cells.toList.drop (off+n+l.length)
 | [],n,off,cells,h=>by simp
 | v :: l, n, off, cells, h => by
  simp only[dd] at h;have ih:=Rs l (n+1) off (cells.setIfInBounds (off+n) v) (by simp;omega);simp only[List.zipIdx_cons,yL];rw[ih];have e:=list_seg_step cells.toList (off+n) v l (by simp;omega);simpa [OE,EY,Cu 1] using e
variable{off:Nat}
def Q7{place:Nat->Option (Nat × Nat)}{cells:Array Value}{n:Nat}{v:Value}{rest:List (Nat × Value)}(hp:place i=U (off,n))(hv:v.cells.size=n)(v8:off+n<=cells.size):
 Instr.fill place cells ((i,v)::rest)=Instr.fill place (cells.toList.take off++v.cells.toList++cells.toList.drop (off+n)).toArray rest:=by
 have h:=Rs v.cells.toList 0 off cells (by simp;omega);have e:v.cells.zipIdx.foldl (λcs (c,j)=>cs.setIfInBounds (off+j) c) cells=(cells.toList.take off++v.cells.toList++cells.toList.drop (off+n)).toArray:=by
  apply Ch;rw[<-Array.foldl_toList,Array.toList_zipIdx,h];simp[hv]
 simp only[Instr.fill,hp,hv,ne_eq,Hu,fk,EK];rw[aC (by simp;omega),e]
def JM(hs:RL E st.t a.tmps.toList){place:Nat->Option (Nat × TypeId)}{place' : Nat->Option (Nat × Nat)}(n9:∀i off t n,place i=U (off,t)->dW P t=U n->place' i=U (off,n)) :
 ∀{parts:List (Nat × Operand)} {ps:List (Nat × Nat × X)} {z cs:List V} {cells:Array Value},zX P place parts=U ps->nQ st z ps=U cs->RL E z cells.toList ->
 ∃nU,Instr.fill place' cells (parts.map λ(i,x)=>(i,a.eval x))=U nU /\ RL E cs nU.toList
 | [], ps, z, cs, cells, hp, hb, hz => by
  simp only[zX,aZ] at hp;subst hp;simp only[nQ,aZ] at hb;subst hb;exact⟨cells,by simp[Instr.fill],hz⟩
 | (i, x) :: parts, ps, z, cs, cells, hp, hb, hz => by
  simp only[zX] at hp;split at hp
  case h_2=>simp at hp
  rename_i off t Bz;split at hp
  case h_2=>simp at hp
  rename_i n y hn hy;split at hp
  .simp at hp
  rename_i By;simp only[c7] at hp;obtain⟨Vi,kT,rfl⟩:=hp;simp only[nQ] at hb;split at hb
  case isFalse=>simp at hb
  rename_i hc;have hx:=mG (E:=E) (st:=st) (a:=a) hs hy;obtain⟨h1,h2⟩:=xc hx hc.2;have hle:=Ks hc.1;have hl:=fI hz;have Dr:=fI h1;simp at hle hl Dr;have v8:off+n<=cells.size:=by omega
  .have mD:RL E (setAt z off (ev st y).cells) (cells.toList.take off++(a.eval x).cells.toList++cells.toList.drop (off+n)):=by
    refine CA (by simp[NK];omega) λj u v h3 h4=>?_
    rw[NJ (by omega)] at h3;have wa:=Ep (c:=cells.toList) (vs:=(a.eval x).cells.toList) (off:=off) (by simp;omega) j;simp only[AL,h2] at wa;rw[wa] at h4
    by_cases k1:j<off
    .rw[aE k1] at h3 h4;obtain⟨v',k3,k4⟩:=qC hz j u h3;rw[k3] at h4;simp only[aZ] at h4;subst h4;exact k4
    .rw[aC k1] at h3 h4
     by_cases k2:j<off+n
     .rw[aE (by omega)] at h3;rw[aE k2] at h4;obtain⟨v',k3,k4⟩:=qC h1 _ u h3;rw[k3] at h4;simp only[aZ] at h4;subst h4;exact k4
     .rw[aC (by omega)] at h3;rw[aC k2] at h4;obtain⟨v',k3,k4⟩:=qC hz j u h3;rw[k3] at h4;simp only[aZ] at h4;subst h4;exact k4
   obtain⟨nU,k1,k2⟩:=JM hs n9 kT hb (cells:=(cells.toList.take off++(a.eval x).cells.toList++cells.toList.drop (off+n)).toArray) (by simpa using mD);refine⟨nU,?_,k2⟩;rw[b8,Q7 (n9 i off t n Bz hn) h2 v8];exact k1
def Uc:∀(fs:List Field),fs.all (λf=>(P.info? f.type).isSome)=aa->∃places:List (Nat × Nat),fs.mapM (λf=>(P.info? f.type).map λi=>(f.offset,i.size))=U places /\
 ∀i:Nat,places[i]?=(fs[i]?).bind λf=>(P.info? f.type).map λi=>(f.offset,i.size)
 | [],_=>⟨[],by simp,λi=>by simp⟩
 | f :: fs, h => by
  simp only[tT,bC] at h;obtain⟨i,hi⟩:=Pb.1 h.1;obtain⟨places,h1,h2⟩:=Uc fs h.2;refine⟨(f.offset,i.size)::places,by simp[hi,h1],λj=>?_⟩;cases j with
  | zero=>simp[hi]
  | succ j=>simp[h2]
variable{parts:Array (Nat × Operand)}{z:List V}
def wp_build(hs:bE E st a){ps:List (Nat × Nat × X)}(ho:o.op = .build t parts)(hz:jK P t=U z){place:Nat->Option (Nat × TypeId)}
 (n9:(∃fs,P.underlying t=U (.struct fs)/\fs.toList.all (λf=>(P.info? f.type).isSome)=aa/\place=λi=>(fs[i]?).map λf=>(f.offset,f.type)) \/
   ∃k e,P.underlying t=U (.array k e)/\(P.info? e).isSome=aa/\place=λi=>U (i*P.cellsOf e,e))
 (hp:zX P place parts.toList=U ps) (hk:opt ((nQ st z ps).map V.agg) (K2 K st)):o.wp P a E.w (dJ E a o.dst K) Q:=by
 unfold opt K2 at hk;split at hk
 case h_2=>exact hk.elim
 rename_i v hv;simp only[c7] at hv;obtain⟨cs,hb,rfl⟩:=hv;obtain⟨i,zv,h1,h2,h3,_⟩:=sy hz;have S_:RL E z zv.cells.toList:=qH h3;have key:∃nU,P.built t (parts.map λ(i,x)=>(i,a.eval x)).toList=U nU /\ RL E cs nU.toList:=by
  rcases n9 with ⟨fs,hu,dp,rfl⟩ | ⟨k,e,hu,aiG,rfl⟩
  .obtain⟨places,hm,hg⟩:=Uc (P:=P) fs.toList dp;obtain⟨nU,k1,k2⟩:=JM (P:=P) (st:=st) hs.slot (place' := λi=>places.toArray[i]?) (λi off t' n h hn=>by
    simp only[c7] at h;obtain⟨f,hf,h⟩:=h;simp only[nN] at h;obtain⟨rfl,rfl⟩:=h;simp only[X0,hg];unfold dW at hn;simp only[c7] at hn;obtain⟨i',db,rfl⟩:=hn;simp[hf,db]) hp hb S_
   exact⟨nU,by simpa [Program.built,h1,hu,h2,hm] using k1,k2⟩
  .obtain⟨ie,zt⟩:=Pb.1 aiG;obtain⟨nU,k1,k2⟩:=JM (P:=P) (st:=st) hs.slot (place' := λi=>U (i*ie.size,ie.size)) (λi off t' n h hn=>by
    simp only[aZ,nN] at h;obtain⟨rfl,rfl⟩:=h;simp only[dW,zt,vB,aZ] at hn;simp[P1 zt,hn]) hp hb S_
   exact⟨nU,by simpa [Program.built,h1,hu,h2,zt] using k1,k2⟩
 obtain⟨nU,k1,k2⟩:=key;refine cR hs (x:=.agg nU) ?_ (by simp only[R];exact⟨nU,rfl,k2⟩) hk
 have:=run_build (P:=P) E.w t _ _ k1
 simp only[execOp,ho,Sem.run_bind,this,Result.andThen_ok,Sem.run_pure]
def JN{k:Nat}:∀(ps:List (Nat × Value)) (i0:Nat) (cells:Array Value),ps.map (·.1)=List.range' i0 ps.length->(∀p∈ps,p.2.cells.size=k)->cells.size=(i0+ps.length)*k ->
 Instr.fill (λi=>U (i*k,k)) cells ps=U (cells.toList.take (i0*k)++(ps.map λp=>p.2.cells.toList).flatten).toArray
 | [], i0, cells, _, _, cG => by
  simp only[Instr.fill,eR,OW,eD];rw[yQ (by simp at cG ⊢;omega)]
 | (i, v) :: ps, i0, cells, hm, dp, cG => by
  simp only[b8,dd,Ct,gz] at hm;obtain⟨rfl,hm⟩:=hm;simp only[eE] at dp;have rN:(i+(ps.length+1))*k=i*k+k+ps.length*k:=by rw[je,je];omega
  simp only[dd,rN] at cG;rw[Q7 (n:=k) rfl dp.1 (by omega)];have ih:=JN ps (i+1) (cells.toList.take (i*k)++v.cells.toList++cells.toList.drop (i*k+k)).toArray hm dp.2 (by simp[dp.1,je];omega);rw[ih];congr 2;simp only[b8,kH,<-eB];congr 1;rw[show(i+1)*k=i*k+k from by rw[je];omega]
  have:(cells.toList.take (i*k)++v.cells.toList).length=i*k+k:=by simp[dp.1];omega
  rw[X5 (by omega),yQ (by omega)]
def VN(hs:RL E st.t a.tmps.toList){k:Nat}{e:TypeId}:∀{n:Nat} {xs:List Operand} {ys:List X} {l:List (List V)},iV P (au n e) xs=U ys->lb st k ys=U l ->
 xs.length=n/\l.length=n/\(∀x∈xs,(a.eval x).cells.size=k)/\(∀y∈l,y.length=k)/\RL E.nl l.flatten (xs.map λx=>(a.eval x).cells.toList).flatten/\∀v∈(xs.map λx=>(a.eval x).cells.toList).flatten,v.oneCell' = aa
 | 0, [], ys, l, h1, h2 => by
  simp only[List.replicate_zero,iV,aZ] at h1;subst h1;simp only[lb,aZ] at h2;subst h2;simp[RL]
 | 0,_::_,ys,l,h1,h2=>by simp[iV] at h1
 | n+1,[],ys,l,h1,h2=>by simp[yP,iV] at h1
 | n + 1, x :: xs, ys, l, h1, h2 => by
  simp only[yP,iV,iI,c7] at h1;obtain⟨y,hy,XL,pG,rfl⟩:=h1;simp only[lb] at h2;split at h2
  case isFalse=>simp at h2
  rename_i hc;simp only[c7] at h2;obtain⟨l',hC,rfl⟩:=h2;obtain⟨k1,k2,k3,k4,k5,k6⟩:=VN hs pG hC;have hx:=mG (E:=E) (st:=st) (a:=a) hs hy;obtain⟨r1,r2⟩:=xc hx hc.1;have r3:=RL.o7 (E:=E) (E' := E.nl) _ (Env.le.refl E.nl) hc.2.1 r1;have r4:=yg r1 hc.2.2;refine⟨by simp[k1],by simp[k2],?_,?_,?_,?_⟩
  .simp only[eE];exact⟨r2,k3⟩
  .simp only[eE];exact⟨by have:=fI r1;rw[QW];simp at this;omega,k4⟩
  .simp only[kH,b8];exact tZ (RL.erase _ r3) k5
  .simp only[b8,kH];intro v hv
   rcases jw.1 hv with h | h
   .exact r4 v h
   .exact k6 v h
def Xu(hs:bE E st a){len:Nat}(ho:o.op = .buildSlice t len parts)(ht:P.underlying t=U (.slice e))(hn:dW P e=U k)(hz:jK P e=U z)
 (hr:parts.toList.map (·.1)=bU len) (cG:len*k<=16777216) {l:List (List V)}
 (hf:(parts.toList.map (·.2)).length=len/\l.length=len/\(∀x∈parts.toList.map (·.2),(a.eval x).cells.size=k)/\(∀y∈l,y.length=k)/\RL E.nl l.flatten ((parts.toList.map (·.2)).map λx=>(a.eval x).cells.toList).flatten/\∀v∈((parts.toList.map (·.2)).map λx=>(a.eval x).cells.toList).flatten,v.oneCell' = aa)
 (hk:K (V.sl .aV k l) st):o.wp P a E.w (dJ E a o.dst K) Q:=by
 obtain⟨k1,k2,k3,k4,k5,k6⟩:=hf;obtain⟨i,zv,h1,h2,h3,h4⟩:=sy hz;have hlen:parts.toList.length=len:=by simpa using k1
 let ps:List (Nat × Value):=parts.toList.map λ(i,x)=>(i,a.eval x)
 have K_:ps.map (·.1)=List.range' 0 ps.length:=by
  have:ps.map (·.1)=parts.toList.map (·.1):=by simp[ps,vq]
  rw[this,hr,tX];congr 1;simp[ps];simpa using hlen.symm
 have La:(ps.map λp=>p.2.cells.toList)=(parts.toList.map (·.2)).map λx=>(a.eval x).cells.toList:=by simp[ps,vq]
 have dp:∀p∈ps,p.2.cells.size=k:=λp hp=>by
  simp only[ps,tW] at hp;obtain⟨q,hq,rfl⟩:=hp;exact k3 q.2 (tW.2 ⟨q,hq,rfl⟩)
 have n9:ps.length=len:=by simp[ps];simpa using hlen
 have fill:∀cells:Array Value,cells.size=len*k->Instr.fill (λi=>U (i*k,k)) cells ps=U ((parts.toList.map (·.2)).map λx=>(a.eval x).cells.toList).flatten.toArray:=λcells hc=>by
  have:=JN ps 0 cells K_ dp (by rw[n9];simpa using hc)
  rw[this,La];simp
 generalize rT:((parts.toList.map (·.2)).map λx=>(a.eval x).cells.toList).flatten=news at fill k5 k6;refine Xy hs (w' := E.w.alloc (.cells news.toArray e)) (x:=.slice (U ⟨E.w.heap.size,0,af⟩) len len) ((Ext.refl _).alloc _ _) ?_ ?_ hk
 .have iN:(zeroValue e).run P E.w = .ok zv E.w:=by simp[zeroValue,typeInfo,h1,h2]
  have Dz:(parts.map λ(i,x)=>(i,a.eval x)).toList=ps:=by simp[ps]
  have xQ : ¬(16777216<len*k):=by omega
  simp only[execOp,ho,Sem.run_bind];have key:(Instr.buildSlice t len (parts.map λ(i,x)=>(i,a.eval x))).run P E.w = .ok (.slice (U ⟨E.w.heap.size,0,af⟩) len len) (E.w.alloc (.cells news.toArray e)):=by
   unfold Instr.buildSlice;simp only[Sem.run_bind,run_underlying ht,Result.andThen_ok,ny hn];rw[aC (by simpa using xQ)];rw[Dz]
   by_cases h0:len*k=0
   .rw[aE h0];simp only[Sem.run_bind,Sem.run_pure,Result.andThen_ok];rw[fill _ (by simp)];simp[newRow]
   .rw[aC h0];simp only[Sem.run_bind,iN,Result.andThen_ok,Sem.run_pure];rw[fill _ (by simp)];simp[newRow]
  rw[key];rfl
 .obtain⟨bf,_,_⟩:=Er hs ((Ext.refl E.w).alloc news.toArray e);have rR:(E.w.alloc (.cells news.toArray e)).heap[E.w.heap.size]?=U (.cells (news++[]).toArray e (0,0)):=by simpa using heap_alloc_new E.w (.cells news.toArray e)
  simp only[R,k2];refine⟨U ⟨E.w.heap.size,0,af⟩,len,rfl,bP _,.inr ⟨_,_,rfl,?_⟩,rfl⟩;exact Fb (E' := {E with w:=E.w.alloc (.cells news.toArray e)}) k4 (RL.mono _ bf.nl k5) k6 rR (λj _=>by rw[show({E with w:=E.w.alloc (.cells news.toArray e)}:Env).a7 E.w.heap.size = .const from hs.ok.fresh _ (bP _)];trivial)
def asS(hs:bE E st a){len:Nat}{ys:List X}(ho:o.op = .buildSlice t len parts)(ht:P.underlying t=U (.slice e))(hn:dW P e=U k)(hz:jK P e=U z)
 (hl:iV P (au len e) (parts.toList.map (·.2))=U ys) (hr:parts.toList.map (·.1)=bU len) (cG:len*k<=16777216)
 (hk:opt ((lb st k ys).map (V.sl .aV k)) (K2 K st)):o.wp P a E.w (dJ E a o.dst K) Q:=by
 unfold opt K2 at hk;split at hk
 case h_2=>exact hk.elim
 rename_i v hv;simp only[c7] at hv;obtain⟨l,hb,rfl⟩:=hv;exact Xu hs ho ht hn hz hr cG (VN (E:=E) hs.slot hl hb) hk
def LS(hs:RL E st.t a.tmps.toList){k:Nat}{e:TypeId}:∀{n:Nat} {xs:List Operand} {ys:List X} {l:List (List V)},iV P (au n e) xs=U ys->x7 k (cX st ys)=U l ->
 xs.length=n/\l.length=n/\(∀x∈xs,(a.eval x).cells.size=k)/\(∀y∈l,y.length=k)/\RL E.nl l.flatten (xs.map λx=>(a.eval x).cells.toList).flatten/\∀v∈(xs.map λx=>(a.eval x).cells.toList).flatten,v.oneCell' = aa
 | 0, [], ys, l, h1, h2 => by
  simp only[List.replicate_zero,iV,aZ] at h1;subst h1;simp only[cX,x7,aZ] at h2;subst h2;simp[RL]
 | 0,_::_,ys,l,h1,h2=>by simp[iV] at h1
 | n+1,[],ys,l,h1,h2=>by simp[yP,iV] at h1
 | n + 1, x :: xs, ys, l, h1, h2 => by
  simp only[yP,iV,iI,c7] at h1;obtain⟨y,hy,XL,pG,rfl⟩:=h1;simp only[cX,x7] at h2;split at h2
  case isFalse=>simp at h2
  rename_i hc;simp only[c7] at h2;obtain⟨l',hC,rfl⟩:=h2;obtain⟨k1,k2,k3,k4,k5,k6⟩:=LS hs pG hC;have hx:=mG (E:=E) (st:=st) (a:=a) hs hy;obtain⟨r1,r2⟩:=xc hx hc.1;have r3:=RL.o7 (E:=E) (E' := E.nl) _ (Env.le.refl E.nl) hc.2.1 r1;have r4:=yg r1 hc.2.2;refine⟨by simp[k1],by simp[k2],?_,?_,?_,?_⟩
  .simp only[eE];exact⟨r2,k3⟩
  .simp only[eE];exact⟨by have:=fI r1;simp at this;omega,k4⟩
  .simp only[kH,b8];exact tZ r3 k5
  .simp only[b8,kH];intro v hv
   rcases jw.1 hv with h | h
   .exact r4 v h
   .exact k6 v h
end
section
variable {P:Program} {E:Env} {st:St} {a:Act} {o:Oper} {K:V->St->Prop} {Q:Exit->Act->World->Prop}
def JD(s:List UInt8):(de s).flatten=s.map λb=>V.int .u8 b.toNat:=by
 induction s with
 | nil=>rfl
 | cons b s ih=>simp only[de,b8,kH] at ih ⊢;rw[ih];rfl
def Pe{E:Env}:∀{s:List UInt8} {vs:List Value},RL E (s.map λb=>V.int .u8 b.toNat) vs->vs=(s.map λb=>(b.toNat:Int)).map (Value.int .u8)
 | [],[],_=>rfl
 | [],_::_,h=>by simp[RL] at h
 | _::_,[],h=>by simp[RL] at h
 | b :: s, v :: vs, h => by
  simp only[b8,RL,R] at h;simp only[b8];rw[h.1,Pe h.2]
def M1:∀(s:List UInt8) (r:List UInt8),(s.map λb=>(b.toNat:Int)).foldl (λ(r:ByteArray) n=>r.push (UInt8.ofNat n.toNat)) ⟨r.toArray⟩=⟨(r++s).toArray⟩
 | [],r=>by simp
 | b :: s, r => by
  have e:(⟨r.toArray⟩:ByteArray).push (UInt8.ofNat ((b.toNat:Int)).toNat)=⟨(r++[b]).toArray⟩:=by
   apply ByteArray.ext;simp[ByteArray.push]
  simp only[b8,yL,e,M1 s (r++[b])];simp
def asV(hs:bE E st a){src dst:TypeId}(ho:o.op = .convert src dst x)(h1:P.underlying src=U (.slice e))(h2:P.underlying dst=U .string)(h3:P.underlying e=U (.int .u8))(hx:R E v (a.eval x))
 (hk:∃t s,v = .sl t 1 (de s)/\K (.aF s) st):o.wp P a E.w (dJ E a o.dst K) Q:=by
 obtain⟨t,s,rfl,hk⟩:=hk;simp only[R] at hx;obtain⟨base,cap,hv,_,sR,_⟩:=hx;refine cR hs (v:=.aF s) (x:=.string ⟨s.toArray⟩) ?_ (by simp only[R]) hk;have key:(Conv.bytesToString (a.eval x)).run P E.w = .ok (.string ⟨s.toArray⟩) E.w:=by
  rw[hv]
  rcases sR with h | ⟨b,off,rfl,hr⟩
  .have GL:s=[]:=by simpa [de] using h
   subst GL;cases base with
   | none=>simp[Conv.bytesToString];rfl
   | some ad =>
    have:=run_bytesToString (P:=P) E.w ad 0 cap [] (by simp[loadCells,loadCellsFrom])
    simp[de] at this ⊢;exact this
  .obtain⟨_,h5⟩:=qB.1 hr;obtain⟨vs,k1,k2,_,_⟩:=Fa h5;rw[JD] at k1;have e1:=Pe k1;have hl:vs.length=(de s).length:=by rw[e1];simp[de]
   have hc:=run_loadCells_list (P:=P) E.w ⟨b,off,af⟩ vs (λj u hu=>by rw[mr];exact k2 j u hu);rw[hl,e1] at hc
   have:=run_bytesToString (P:=P) E.w ⟨b,off,af⟩ (de s).length cap _ hc
   rw[this];have hp:=M1 s [];simp only[gd] at hp;exact gX (λz=>Result.ok (Value.string z) E.w) hp
 rw[hv] at key;simp only[execOp,ho,Sem.run_bind,hv,run_convert_bytes_string E.w src dst e base _ cap h1 h3 h2,key,Result.andThen_ok,Sem.run_pure]
def X'{E:Env}{b o m n:Nat}(h:gq E k l b o)(sY:m<=n)(hn:n<=l.length):gq E k ((l.take n).drop m) b (o+m*k):=by
 obtain⟨h1,h2⟩:=qB.1 h;refine qB.2 ⟨λx hx=>h1 x (AS (List.mem_of_mem_drop hx)),?_⟩;have e:l=(l.take n).take m++((l.take n).drop m++l.drop n):=by
  rw[<-eB,qA,qA]
 rw[e,tU,tU,xa,xa] at h2;have hl:((l.take n).take m).flatten.length=m*k:=by
  rw[my (λx hx=>h1 x (AS (AS hx)))];simp only[iR];congr 1;omega
 rw[hl] at h2;exact h2.2.1
def lL{E:Env}(hs:RL E st.t a.tmps.toList){x:Option Operand}{y:Option X}(h:ku P t x=U y):
 (x=af/\y=af)\/∃u v,x=U u/\y=U v/\R E (ev st v) (a.eval u):=by
 cases x with
 | none=>simp only[ku,aZ] at h;exact .inl ⟨rfl,h.symm⟩
 | some x =>
  simp only[ku,c7] at h;obtain⟨v,hv,rfl⟩:=h;exact .inr ⟨x,v,rfl,rfl,mG hs hv⟩
def qq{j:IntKind}{n y:Nat}{c:BoundsCode}(h:n<=y):(Instr.sliceBound (.int j n) y c).run P w = .ok n w:=by
 simp[Instr.sliceBound,asIntOf,h]
def RC(hs:bE E st a){Y:Nat}{v:Value}(ht:st.out.aK Y=U l.length)(h:R E (.sl .aV k l) v):R E (.sl (.tk Y) k l) v:=by
 simp only[R] at h ⊢;obtain⟨ad,cap,h1,h2,h3,h4⟩:=h;exact⟨ad,cap,h1,h2,h3,l.length,hs.ok.aK Y _ ht,bP _,λ_=>.inl h4⟩
variable{db mF mx':Option X}{hi mx:Option Operand}
def Nu{lo:Option Operand}(hs:bE E st a)(h1:ku P t lo=U mF)(h2:ku P t hi=U db)(h3:ku P t mx=U mx')(uL:mx'.isSome=aa->db.isSome=aa){len n M:Nat}
 (dK:match (generalizing:=false) mF with | none=>m=0 | some y=>∃j,ev st y = .int j m) (mC:match (generalizing:=false) db with | none=>n=len | some y=>∃j,ev st y = .int j n) (hM:match (generalizing:=false) mx' with | none=>M=cap | some y=>∃j,ev st y = .int j M)
 (sY:m<=n) (hnM:n<=M) (Kd:M<=cap):(Instr.sliceBounds aa len cap (lo.map a.eval) (hi.map a.eval) (mx.map a.eval)).run P E.w = .ok (m,n,M) E.w:=by
 have e1:∀c,(match (lo.map a.eval:Option Value) with | some v=>Instr.sliceBound v n c | none=>pure 0:Sem Nat).run P E.w = .ok m E.w:=λc=>by
  rcases lL (E:=E) hs.slot h1 with ⟨rfl,rfl⟩ | ⟨u,v,rfl,rfl,hr⟩
  .simp only at dK;subst dK;simp
  .obtain⟨j,hj⟩:=dK;rw[hj] at hr;simp only[R] at hr;simp only[vB,hr];exact qq sY
 rcases lL (E:=E) hs.slot h3 with ⟨rfl,rfl⟩ | ⟨u3,v3,rfl,rfl,zB⟩
 .simp only at hM;subst hM
  rcases lL (E:=E) hs.slot h2 with ⟨rfl,rfl⟩ | ⟨u,v,rfl,rfl,hr⟩
  .simp only at mC;subst mC
   have:=e1 .sliceB
   rcases lL (E:=E) hs.slot h1 with ⟨rfl,rfl⟩ | ⟨u',v',rfl,rfl,ck⟩<;>simp[Instr.sliceBounds] at this ⊢
   .exact this
   .simp[this]
  .obtain⟨j,hj⟩:=mC;rw[hj] at hr;simp only[R] at hr
   have:=e1 .sliceB
   have e2:=qq (P:=P) (w:=E.w) (j:=j) (c:=.sliceAcap) (show n<=M by omega)
   rcases lL (E:=E) hs.slot h1 with ⟨rfl,rfl⟩ | ⟨u',v',rfl,rfl,ck⟩<;>simp[Instr.sliceBounds,hr,e2] at this ⊢
   .exact this
   .simp[this]
 .obtain⟨j3,KS⟩:=hM;rw[KS] at zB;simp only[R] at zB;have e3:=qq (P:=P) (w:=E.w) (j:=j3) (c:=.slice3Acap) Kd
  rcases lL (E:=E) hs.slot h2 with ⟨rfl,rfl⟩ | ⟨u,v,rfl,rfl,hr⟩
  .simp at uL
  .obtain⟨j,hj⟩:=mC;rw[hj] at hr;simp only[R] at hr
   have:=e1 .slice3C
   have e2:=qq (P:=P) (w:=E.w) (j:=j) (c:=.slice3B) hnM
   rcases lL (E:=E) hs.slot h1 with ⟨rfl,rfl⟩ | ⟨u',v',rfl,rfl,ck⟩<;>simp[Instr.sliceBounds,hr,zB,e2,e3] at this ⊢
   .exact this
   .simp[this]
variable{vx:V}
def ata(hs:bE E st a){lo:Option Operand}(ho:o.op = .slice t x lo hi mx)(ht:P.underlying t=U (.slice e))(hn:dW P e=U k)
 (hx:R E vx (a.eval x)) (h1:ku P t lo=U mF) (h2:ku P t hi=U db) (h3:ku P t mx=U mx') (uL:mx'.isSome=aa->db.isSome=aa)
 (hk:∃t l m n,vx = .sl t k l/\m<=n/\n<=l.length/\(match (generalizing:=false) mF with | none=>m=0 | some y=>∃j,ev st y = .int j m)/\(match (generalizing:=false) db with | none=>n=l.length | some y=>∃j,ev st y = .int j n) /\
   match (generalizing:=false) mx' with
   | none=>K (.sl .no k ((l.take n).drop m)) st
   | some y=>(∃j,ev st y = .int j n)/\K (.sl .aV k ((l.take n).drop m)) st):o.wp P a E.w (dJ E a o.dst K) Q:=by
 obtain⟨tk,l,m,n,rfl,sY,qh,dK,mC,hk⟩:=hk;simp only[R] at hx;obtain⟨base,cap,hv,zp,sR,_⟩:=hx;have key:∀M:Nat,n<=M->M<=cap->(mx' = af->M=cap)->(mx'.isSome=aa->M=n)->(Instr.sliceBounds aa l.length cap (lo.map a.eval) (hi.map a.eval) (mx.map a.eval)).run P E.w = .ok (m,n,M) E.w:=λM hM Kd hM1 hM2=>by
  have e1:∀c,(match (lo.map a.eval:Option Value) with | some v=>Instr.sliceBound v n c | none=>pure 0:Sem Nat).run P E.w = .ok m E.w:=λc=>by
   rcases lL (E:=E) hs.slot h1 with ⟨rfl,rfl⟩ | ⟨u,v,rfl,rfl,hr⟩
   .simp only at dK;subst dK;simp
   .obtain⟨j,hj⟩:=dK;rw[hj] at hr;simp only[R] at hr;simp only[vB,hr];exact qq sY
  rcases lL (E:=E) hs.slot h3 with ⟨rfl,rfl⟩ | ⟨u3,v3,rfl,rfl,zB⟩
  .obtain rfl:=hM1 rfl
   rcases lL (E:=E) hs.slot h2 with ⟨rfl,rfl⟩ | ⟨u,v,rfl,rfl,hr⟩
   .simp only at mC;subst mC
    have:=e1 .sliceB
    rcases lL (E:=E) hs.slot h1 with ⟨rfl,rfl⟩ | ⟨u',v',rfl,rfl,ck⟩<;>simp[Instr.sliceBounds] at this ⊢
    .exact this
    .simp[this]
   .obtain⟨j,hj⟩:=mC;rw[hj] at hr;simp only[R] at hr
    have:=e1 .sliceB
    have e2:=qq (P:=P) (w:=E.w) (j:=j) (c:=.sliceAcap) (show n<=M by omega)
    rcases lL (E:=E) hs.slot h1 with ⟨rfl,rfl⟩ | ⟨u',v',rfl,rfl,ck⟩<;>simp[Instr.sliceBounds,hr,e2] at this ⊢
    .exact this
    .simp[this]
  .obtain rfl:=hM2 rfl;simp only at hk;obtain⟨⟨j3,KS⟩,hk⟩:=hk;rw[KS] at zB;simp only[R] at zB;have e3:=qq (P:=P) (w:=E.w) (j:=j3) (c:=.slice3Acap) Kd
   rcases lL (E:=E) hs.slot h2 with ⟨rfl,rfl⟩ | ⟨u,v,rfl,rfl,hr⟩
   .simp at uL
   .obtain⟨j,hj⟩:=mC;rw[hj] at hr;simp only[R] at hr
    have:=e1 .slice3C
    have e2:=qq (P:=P) (w:=E.w) (j:=j) (c:=.slice3B) (bP M)
    rcases lL (E:=E) hs.slot h1 with ⟨rfl,rfl⟩ | ⟨u',v',rfl,rfl,ck⟩<;>simp[Instr.sliceBounds,hr,zB,e2,e3] at this ⊢
    .exact this
    .simp[this]
 have run:∀M:Nat,n<=M->M<=cap->(mx' = af->M=cap)->(mx'.isSome=aa->M=n)->(execOp a.eval o).run P E.w = .ok (.value (.slice (if M=m then base else base.map (·.add (m*k))) (n - m) (M - m))) E.w:=λM h1 h2 h3 h4=>by
  simp only[execOp,ho,Sem.run_bind,hv];simp[Instr.sliceAt,run_underlying ht,Instr.slice,key M h1 h2 h3 h4,ny hn]
 have val:∀M jJ,n<=M->M<=cap->(jJ = Tk.no\/(jJ = Tk.aV/\M=n))->R E (.sl jJ k ((l.take n).drop m)) (.slice (if M=m then base else base.map (·.add (m*k))) (n - m) (M - m)):=λM jJ h1 h2 h3=>by
  have hlen:((l.take n).drop m).length=n - m:=by simp;omega
  simp only[R,hlen];refine⟨_,_,rfl,by omega,?_,?_⟩
  .rcases vw m n with aB | qf
   .right
    rcases sR with h | ⟨b,off,rfl,hr⟩
    .subst h;simp at qh;omega
    .refine⟨b,off+m*k,?_,X' hr sY qh⟩;rw[aC (by omega)];simp[mr]
   .left;exact sz (by omega)
  .rcases h3 with rfl | ⟨rfl,rfl⟩
   .trivial
   .rfl
 cases mx' with
 | none=>exact cR hs (run cap (by omega) (bP _) (λ_=>rfl) (λh=>by simp at h)) (val cap .no (by omega) (bP _) (.inl rfl)) hk
 | some y=>exact cR hs (run n (bP _) (by omega) (λh=>by simp at h) (λ_=>rfl)) (val n .aV (bP _) (by omega) (.inr ⟨rfl,rfl⟩)) hk.2
def as_(hs:bE E st a){lo:Option Operand}(ho:o.op = .slice t x lo hi af)(ht:P.underlying t=U .string)
 (hx:R E vx (a.eval x)) (h1:ku P t lo=U mF) (h2:ku P t hi=U db)
 (hk:∃s m n,vx = .aF s/\m<=n/\n<=s.length/\(match (generalizing:=false) mF with | none=>m=0 | some y=>∃j,ev st y = .int j m)/\(match (generalizing:=false) db with | none=>n=s.length | some y=>∃j,ev st y = .int j n)/\K (.aF ((s.take n).drop m)) st) :
 o.wp P a E.w (dJ E a o.dst K) Q:=by
 obtain⟨s,m,n,rfl,sY,qh,dK,mC,hk⟩:=hk;simp only[R] at hx;have cG:(⟨s.toArray⟩:ByteArray).size=s.length:=by simp[ByteArray.size]
 have key:(Instr.sliceBounds ak s.length s.length (lo.map a.eval) (hi.map a.eval) af).run P E.w = .ok (m,n,s.length) E.w:=by
  rcases lL (E:=E) hs.slot h2 with ⟨rfl,rfl⟩ | ⟨u,v,rfl,rfl,hr⟩
  .simp only at mC;subst mC
   rcases lL (E:=E) hs.slot h1 with ⟨rfl,rfl⟩ | ⟨u',v',rfl,rfl,ck⟩
   .simp only at dK;subst dK;simp[Instr.sliceBounds]
   .obtain⟨j',gM⟩:=dK;rw[gM] at ck;simp only[R] at ck;have e2:=qq (P:=P) (w:=E.w) (j:=j') (c:=.sliceB) sY;simp[Instr.sliceBounds,ck,e2]
  .obtain⟨j,hj⟩:=mC;rw[hj] at hr;simp only[R] at hr;have e2:=qq (P:=P) (w:=E.w) (j:=j) (c:=.sliceAlen) qh
   rcases lL (E:=E) hs.slot h1 with ⟨rfl,rfl⟩ | ⟨u',v',rfl,rfl,ck⟩
   .simp only at dK;subst dK;simp[Instr.sliceBounds,hr,e2]
   .obtain⟨j',gM⟩:=dK;rw[gM] at ck;simp only[R] at ck;have e3:=qq (P:=P) (w:=E.w) (j:=j') (c:=.sliceB) sY;simp[Instr.sliceBounds,hr,ck,e2,e3]
 refine cR hs (v:=.aF ((s.take n).drop m)) (x:=.string ⟨((s.take n).drop m).toArray⟩) ?_ (by simp only[R]) hk;have he:(⟨s.toArray⟩:ByteArray).extract m n=⟨((s.take n).drop m).toArray⟩:=by
  apply ByteArray.ext;rw[ByteArray.data_extract];apply Ch;simp[IH]
 simp only[execOp,ho,Sem.run_bind,hx];simp[Instr.sliceAt,run_underlying ht,Instr.slice,cG,key,he]
def WM(hu:P.underlying u=U .string)(s:List UInt8):
 ∃news,Src P w 1 (de s).length u (.string ⟨s.toArray⟩) news/\RL E (de s).flatten news/\(∀v∈news,v.oneCell' = aa)/\∀y∈de s,y.length=1:=by
 have cG:(⟨s.toArray⟩:ByteArray).size=s.length:=by simp[ByteArray.size]
 have hx:((⟨s.toArray⟩:ByteArray).extract 0 s.length).data.map (λb:UInt8=>Value.int .u8 (b.toNat:Int))=(s.map λb:UInt8=>Value.int .u8 (b.toNat:Int)).toArray:=by
  apply Ch;rw[ByteArray.data_extract];simp
 refine⟨s.map λb=>Value.int .u8 b.toNat,⟨⟨_,hu,λ_ h=>by simp at h⟩,λw' => by simp[Builtin.lenOf,cG,de],?_,?_,by simp[de]⟩,?_,?_,?_⟩
 .simp only[Builtin.firstCells,de,aN,hx,Sem.run_pure]
 .simp only[Builtin.firstCells,de,aN,hx,Sem.run_pure]
 .rw[JD];induction s with
  | nil=>simp[RL]
  | cons b s ih=>simp only[b8,RL,R];exact⟨trivial,by
   clear cG hx ih;induction s with
   | nil=>simp[RL]
   | cons c s ih=>simp only[b8,RL,R];exact⟨trivial,ih⟩⟩
 .intro v hv;simp only[tW] at hv;obtain⟨b,_,rfl⟩:=hv;rfl
 .intro y hy;simp only[de,tW] at hy;obtain⟨b,_,rfl⟩:=hy;rfl
def D0{ao:aI}(hl:yb P o=U ao)(hs:bE E st a)(h:ao.ba P st K):o.wp P a E.w (dJ E a o.dst K) Q:=by
 have X:=λ{t:TypeId} {x:Operand} {y:X} (hx:cw P t x=U y)=>mG (E:=E) (st:=st) (a:=a) hs.slot hx
 have XS:=λ{ts:List TypeId} {xs:List Operand} {ys:List Go.Am.X} (hx:iV P ts xs=U ys)=>Mk (E:=E) (st:=st) (a:=a) hs.slot hx
 unfold yb at hl;split at hl
 .rename_i x ho;simp only[c7] at hl;obtain⟨y,hy,rfl⟩:=hl;exact Xz hs (.inl ho) (X hy) h
 .rename_i x ho;simp only[c7] at hl;obtain⟨y,hy,rfl⟩:=hl;exact Xz hs (.inr ho) (X hy) h
 .rename_i c x y ho;split at hl
  case h_2=>simp at hl
  rename_i h1 h2 h3;simp only[aZ] at hl;subst hl;exact as9 hs ho (X h1) (X h2) (X h3) h
 .rename_i t ho;simp only[c7] at hl;obtain⟨z,hz,rfl⟩:=hl;exact asM hs ho hz h
 .rename_i t x ho;split at hl
  case h_2=>simp at hl
  rename_i h1 h2;simp only[aZ] at hl;subst hl;exact asQ hs ho (X h2) h.1 h.2
 .rename_i t ps ho;split at hl
  .rename_i z fs hz hu;split at hl
   case isFalse=>simp at hl
   rename_i dp;simp only[c7] at hl;obtain⟨Vi,hp,rfl⟩:=hl;exact wp_build hs ho hz (.inl ⟨fs,hu,dp,rfl⟩) hp h
  .rename_i z k e hz hu;split at hl
   case isFalse=>simp at hl
   rename_i dp;simp only[c7] at hl;obtain⟨Vi,hp,rfl⟩:=hl;exact wp_build hs ho hz (.inr ⟨k,e,hu,dp,rfl⟩) hp h
  .simp at hl
 .rename_i t len ps ho;split at hl
  case h_2=>simp at hl
  rename_i e hu;split at hl
  case h_2=>simp at hl
  rename_i k z xs h1 h2 h3;split at hl
  case isFalse=>simp at hl
  rename_i hc;simp only[aZ] at hl;subst hl;exact asS hs ho hu h1 h2 h3 hc.1 hc.2.1 h
 .rename_i t x ho;split at hl
  case h_2=>simp at hl
  rename_i h1 h2 h3;simp only[aZ] at hl;subst hl;exact as5 hs ho h1 h2 (X h3) h
 .rename_i t x y ho;split at hl
  case h_2=>simp at hl
  rename_i n ax ay h1 h2 h3;split at hl
  .simp at hl
  rename_i By;simp only[aZ] at hl;subst hl;simp only[aI.ba] at h;split at h
  case h_2=>exact h.elim
  rename_i aJ ec;exact XC hs (Nat.pos_of_ne_zero By) ho h1 (X h2) (X h3) ec h
 .rename_i x ho;simp only[c7] at hl;obtain⟨y,hy,rfl⟩:=hl;exact as7 hs ho (X hy) h
 .rename_i op t x y t' ho;split at hl
  case h_2=>simp at hl
  rename_i ax ay h1 h2;split at hl
  .simp only[aZ] at hl;subst hl;exact asO hs ho (X h1) (X h2) h
  .split at hl
   .simp only[aZ] at hl;subst hl;exact asU hs ho (X h1) (X h2) h
   .simp only[aZ] at hl;subst hl;exact asP hs ho (X h1) (X h2) h
  .rename_i hu;split at hl
   .simp only[aZ] at hl;subst hl;exact Xt hs (neg:=false) rfl hu ho (X h1) (X h2) h
   .simp only[aZ] at hl;subst hl;exact Xt hs (neg:=true) rfl hu ho (X h1) (X h2) h
   .simp at hl
  .rename_i fs hu;split at hl
   case h_2=>simp at hl
   rename_i ks fP;split at hl
   .simp only[aZ] at hl;subst hl;exact Io hs (neg:=false) rfl fP ho (by simp[gJ,hu]) (X h1) (X h2) h
   .simp only[aZ] at hl;subst hl;exact Io hs (neg:=true) rfl fP ho (by simp[gJ,hu]) (X h1) (X h2) h
   .simp at hl
  .rename_i fs e hu;split at hl
   case h_2=>simp at hl
   rename_i ks fP;split at hl
   .simp only[aZ] at hl;subst hl;exact Io hs (neg:=false) rfl fP ho (by simp[gJ,hu]) (X h1) (X h2) h
   .simp only[aZ] at hl;subst hl;exact Io hs (neg:=true) rfl fP ho (by simp[gJ,hu]) (X h1) (X h2) h
   .simp at hl
  .simp at hl
 .rename_i t x ho;simp only[c7] at hl;obtain⟨y,hy,rfl⟩:=hl;exact as8 hs ho (X hy) h
 .rename_i src dst x ho;split at hl
  .rename_i h1 h2 h3;simp only[aZ] at hl;subst hl;exact asW hs ho h1 h2 (X h3) h
  .rename_i h1 h2 h3;split at hl
   case h_2=>simp at hl
   rename_i h4;simp only[aZ] at hl;subst hl;exact asV hs ho h1 h2 h4 (X h3) h
  .simp at hl
 .rename_i f first cap ho
  split at hl
  case h_2=>simp at hl
  rename_i h1 h2;simp only[aZ] at hl;subst hl;exact as6 hs ho (XS h1) (XS h2) h
 .rename_i t x lo hi mx ho;split at hl
  case h_2=>simp at hl
  rename_i h1 h2 h3 h4;split at hl
  .rename_i e hu;split at hl
   case h_2=>simp at hl
   rename_i k hk;split at hl
   case isFalse=>simp at hl
   rename_i uL;simp only[aZ] at hl;subst hl;simp only[aI.ba] at h
   rcases h with h | ⟨base,n,cap,m,hh,e1,k1,k2,g1,g2,g3,hK⟩
   .exact ata hs ho hu hk (X h1) h2 h3 h4 uL h
   .have fM:=X h1;rw[e1] at fM;simp only[R] at fM;rename_i mx' _ _;have g3:mx' = none:=by cases mx' with | none=>rfl | some _=>simp at g3
    subst g3;have hb:=Nu (P:=P) (M:=cap) hs h2 h3 h4 uL g1 g2 rfl k1 k2 (bP _);refine cR hs (v:=.raw _) (x:=.slice (if cap=m then base else base.map (·.add (m*k))) (hh - m) (cap - m)) ?_ (by simp only[R]) hK;simp only[execOp,ho,Sem.run_bind,fM];simp[Instr.sliceAt,run_underlying hu,Instr.slice,hb,ny hk]
  .rename_i hu;split at hl
   case h_2=>simp at hl
   simp only[aZ] at hl;subst hl;have uL:mx=none:=by cases mx with | none=>rfl | some m=>simp[ku] at h4
   subst uL;exact as_ hs ho hu (X h1) h2 h3 h
  .simp at hl
 .rename_i s x i ho;split at hl
  case h_2=>simp at hl
  rename_i fs y h1 h2;split at hl
  case h_2=>simp at hl
  rename_i f hf;split at hl
  case h_2=>simp at hl
  rename_i n hn;split at hl
  .simp at hl
  rename_i By;simp only[aZ] at hl;subst hl;exact asY hs ho h1 hf hn By (X h2) h
 .rename_i s x i ho;split at hl
  case h_2=>simp at hl
  rename_i fs y h1 h2;split at hl
  case h_2=>simp at hl
  rename_i f hf;split at hl
  case h_2=>simp at hl
  rename_i g n hg hn;simp only[aZ] at hl;subst hl;exact asZ hs ho h1 hf hg hn (X h2) h
 .rename_i t x i ho;split at hl
  case h_3=>simp at hl
  case h_1 =>
   rename_i e ax ai h1 h2 h3;simp only[c7] at hl;obtain⟨k,hk,rfl⟩:=hl;exact as0 hs ho h1 hk (X h2) (X h3) h
  case h_2 =>
   rename_i m e ax ai h1 h2 h3;simp only[c7] at hl;obtain⟨k,hk,rfl⟩:=hl;exact as1 hs ho h1 hk (X h2) (X h3) h
 .rename_i t x i ho;split at hl
  case h_2=>simp at hl
  rename_i ax ai h1 h2 h3;simp only[aZ] at hl;subst hl;exact as2 hs ho h1 (X h2) (X h3) h
 .rename_i x i ho;simp only[c7] at hl;obtain⟨y,hy,rfl⟩:=hl;exact asX hs ho (X hy) h
 .rename_i c ho;obtain⟨callee,args,argTypes⟩:=c;simp only at hl;split at hl
  .rename_i f;simp only[c7] at hl;obtain⟨ys,pG,rfl⟩:=hl;refine Xv hs (vs:=args.map a.eval) (by simpa using XS pG) h.1 h.2 ?_;simp[execOp,ho,resolve,Act.eval,Deferred.ofValue,invoke]
  .rename_i x;split at hl
   case h_2=>simp at hl
   rename_i y ys h1 h2;simp only[aZ] at hl;subst hl;have hx:=X h1;simp only[aI.ba] at h;split at h
   case h_2=>exact h.elim
   rename_i f as bs KI;rw[KI] at hx;simp only[R] at hx;obtain⟨fs,cs,he,r1,r2⟩:=hx;refine Xv hs (vs:=fs++args.map a.eval++cs) (by simpa using tZ (tZ r1 (XS h2)) r2) h.1 h.2 ?_;simp[execOp,ho,resolve,he,Deferred.ofValue,invoke]
  .split at hl
   case h_2=>simp at hl
   rename_i t x ht hx;have e1:argTypes=#[t]:=by cases argTypes;simpa using ht
   have e2:args=#[x]:=by cases args;simpa using hx
   subst e1;subst e2;split at hl
   .rename_i e y hu hy;simp only[aZ] at hl;subst hl;exact as3 hs ho hu (X hy) h
   .rename_i y hu hy;simp only[aZ] at hl;subst hl;exact as4 hs ho hu (X hy) h
   .simp at hl
  .split at hl
   case h_2=>simp at hl
   rename_i t u s x ht hx;have e1:argTypes=#[t,u]:=by cases argTypes;simpa using ht
   have e2:args=#[s,x]:=by cases args;simpa using hx
   subst e1;subst e2;have cT:(execOp a.eval o).run P E.w=((Builtin.append_ #[t,u] o.type #[a.eval s,a.eval x]).run P E.w).andThen λv w' => .ok (.value v) w' := by
    simp[execOp,ho,resolve,invoke,builtin]
   split at hl
   .rename_i e e' ys yx h1 h2 h3 h4;split at hl
    case h_2=>simp at hl
    rename_i i z hi hz;split at hl
    case isFalse=>simp at hl
    rename_i hc;obtain⟨rfl,mA,lF⟩:=hc;simp only[aZ] at hl;subst hl;obtain⟨i',zv,k1,k2,k3,k4⟩:=sy hz;rw[hi] at k1;simp only[aZ] at k1;subst k1;have iN:zv.cells.size=i.size:=by have:=fI (qH (E:=E) k3);simp at this;omega
    simp only[aI.ba,pX] at h;obtain⟨tk,l,m,es,⟨t',ex⟩,jV,hk⟩:=h;have hS:=X h3;have hX:=X h4;rw[es] at hS;rw[ex] at hX;obtain⟨news,q1,q2,q3,q4⟩:=HZ (P:=P) h2 hX;cases tk with
    | no=>exact hk.elim
    | tk Y=>exact EH hs h1 hi k2 iN mA cT hS q1 q2 q3 q4 jV hk
    | aV =>
     rcases hk with hk | hk | ⟨Y,h5,h6⟩
     .exact EH hs h1 hi k2 iN mA cT hS q1 q2 q3 q4 jV (.inl hk)
     .exact EH hs h1 hi k2 iN mA cT hS q1 q2 q3 q4 jV (.inr hk)
     .exact EH hs h1 hi k2 iN mA cT (tk:=.tk Y) (RC hs h5 hS) q1 q2 q3 q4 jV ⟨h5,h6⟩
   .rename_i e ys yx h1 h2 h3 h4;split at hl
    case h_2=>simp at hl
    rename_i i z hi hz;split at hl
    case h_2=>simp at hl
    split at hl
    case isFalse=>simp at hl
    rename_i hc;simp only[aZ] at hl;subst hl;obtain⟨i',zv,k1,k2,k3,k4⟩:=sy hz;rw[hi] at k1;simp only[aZ] at k1;subst k1;have iN:zv.cells.size=i.size:=by have:=fI (qH (E:=E) k3);simp at this;omega
    simp only[aI.ba,pX] at h;obtain⟨s',ex,tk,l,m,es,⟨t',em⟩,jV,hk⟩:=h;simp only[V.sl.injEq,pU] at em;obtain⟨_,rfl⟩:=em;have hS:=X h3;have hX:=X h4;rw[es] at hS;rw[ex] at hX;simp only[R] at hX;obtain⟨news,q1,q2,q3,q4⟩:=WM (P:=P) (E:=E.nl) (w:=E.w) h2 s';have Gc:i.size=1:=hc.1;have fin:∀tk,R E (.sl tk 1 l) (a.eval s)->(match (generalizing:=false) tk with
     | .aV=>(∀Y,st.out.aK Y=af->K (.sl (.tk Y) 1 (l++de s')) ⟨st.t,st.aD,st.out.aY Y (l.length+(de s').length)⟩)\/K (.sl .no 1 (l++de s')) st
     | .tk Y=>st.out.aK Y=U l.length/\K (.sl (.tk Y) 1 (l++de s')) ⟨st.t,st.aD,st.out.aY Y (l.length+(de s').length)⟩
     | .no=>False)->o.wp P a E.w (dJ E a o.dst K) Q:=λtk hS hk=>by
     refine EH hs h1 hi k2 iN (by omega) cT (tk:=tk) (l:=l) (m:=de s') (news:=news) (by rw[Gc];exact hS) (by rw[Gc,hX];exact q1) q2 q3 (by rw[Gc];exact q4) jV ?_;rw[Gc];exact hk
    cases tk with
    | no=>exact hk.elim
    | tk Y=>exact fin _ hS hk
    | aV =>
     rcases hk with hk | hk | ⟨Y,h5,h6⟩
     .exact fin _ hS (.inl hk)
     .exact fin _ hS (.inr hk)
     .exact fin (.tk Y) (RC hs h5 hS) ⟨h5,h6⟩
   .simp at hl
  .simp at hl
 .simp at hl
end
def X.slot:X->List Nat
 | .s n=>[n]
 | .c _=>[]
def sd:Option X->List X
 | none=>[]
 | some x=>[x]
def aI.xs:aI->List X
 | .mv x | .box _ x | .uh _ x | .gf _ x | .load _ _ x | .uX x | .not x | .uS x | .uT x | .nW _ x | .uz _ _ _ x | .ext x _ | .pr _ x | .sI x=>[x]
 | .pick c a b=>[c,a,b]
 | .alloc _ | .nP _=>[]
 | .build _ ps=>ps.map (·.2.2)
 | .kf _ xs | .call _ xs | .own _ xs=>xs
 | .store _ a x | .ek _ a x | .mW _ a x | .uf _ a x | .cat a x | .ir _ _ a x | .qK _ a x | .r6 _ a x | .sZ a x | .q_ _ _ a x | .app _ a x | .mu a x=>[a,x]
 | .il x xs=>x::xs
 | .kF _ x lo hi mx=>x::(sd lo++sd hi++sd mx)
 | .yu x lo hi=>x::(sd lo++sd hi)
 | .jG _ first cap=>first++cap
def aI.bg:aI->Bool
 | .alloc _ | .box _ _ | .uh _ _ | .nP _ | .gf _ _ | .store _ _ _ | .call _ _ | .il _ _ | .app _ _ _ | .mu _ _=>aa
 | .own q _=>!q.pure
 | _=>ak
def aI.BM:aI->Bool
 | .load _ _ _=>aa
 | _=>ak
abbrev c8:=List (List V) × ag
def bX(t:List V)(s:c8):St:=⟨t,s.1,s.2⟩
def Exact(t:List V)(v:V)(s:c8):V->St->Prop:=λv' aJ => v' = v/\aJ = bX t s
variable{s:c8}
def adn{t t2:List V}{s2:c8}{x:X}(h:∀n∈x.slot,t2.getD n .any=t.getD n .any):ev (bX t2 s2) x=ev (bX t s) x:=by
 cases x with
 | s n=>exact h n (by simp[X.slot])
 | c v=>rfl
def Bb{t t2:List V}{s s2:c8}:∀{xs:List X},(∀x∈xs,ev (bX t2 s2) x=ev (bX t s) x)->cX (bX t2 s2) xs=cX (bX t s) xs
 | [],_=>rfl
 | x :: xs, h => by
  simp only[eE] at h;simp only[cX,h.1,Bb h.2]
def PZ{t t2:List V}{s s2:c8}:∀{ps:List (Nat × Nat × X)} {z:List V},(∀x∈ps.map (·.2.2),ev (bX t2 s2) x=ev (bX t s) x)->nQ (bX t2 s2) z ps=nQ (bX t s) z ps
 | [],_,_=>rfl
 | (off, n, x) :: ps, z, h => by
  simp only[b8,eE] at h;simp only[nQ,h.1,PZ h.2]
def VO{t t2:List V}{s s2:c8}{k:Nat}:∀{xs:List X},(∀x∈xs,ev (bX t2 s2) x=ev (bX t s) x)->lb (bX t2 s2) k xs=lb (bX t s) k xs
 | [],_=>rfl
 | x :: xs, h => by
  simp only[eE] at h;simp only[lb,h.1,VO h.2]
def re(s:c8)(g:Bool)(n:Nat)(a:V):Option V:=kW (bX [] s) g n a
variable{g:Bool}
def Ty{t:List V}{n:Nat}{a:V}:kW (bX t s) g n a=re s g n a:=by
 unfold re;cases a<;>simp only[kW];rename_i p o;cases p<;>rfl
def mk_inj{t:List V}{A:List (List V)}{B:ag}(h:(⟨t,A,B⟩:St)=bX t s):s=(A,B):=by
 have:=gX (λq:St=>(q.aD,q.out)) h
 exact this.symm
section
variable {P:Program}
def aql{op:aI}{t t2:List V}{s2 s':c8}(hx:∀x∈op.xs,ev (bX t2 s2) x=ev (bX t s) x)(sQ:op.bg=aa->s2=s)
 (v5:∀g n x,op = .load g n x->re s2 g n (ev (bX t s) x)=U v) (h:op.ba P (bX t s) (Exact t v s')) :
 op.ba P (bX t2 s2) (Exact t2 v (if op.bg then s' else s2)):=by
 cases op with
 | mv x =>
  simp only[aI.xs,eE] at hx;simp only[aI.ba,Exact] at h ⊢;exact⟨by rw[hx.1];exact h.1,rfl⟩
 | pick c a b =>
  simp only[aI.xs,eE] at hx;simp only[aI.ba] at h ⊢;rw[hx.1,hx.2.1,hx.2.2.1];split at h
  .exact⟨h.1,rfl⟩
  .exact⟨h.1,rfl⟩
  .exact h.elim
 | alloc z =>
  obtain rfl:=sQ rfl;simp only[aI.ba,Exact] at h ⊢;obtain rfl:=mk_inj h.2;exact⟨h.1,by simp[aI.bg,bX]⟩
 | box n x =>
  obtain rfl:=sQ rfl;simp only[aI.xs,eE] at hx;simp only[aI.ba,Exact] at h ⊢;rw[hx.1];obtain rfl:=mk_inj h.2.2;exact⟨h.1,h.2.1,by simp[aI.bg,bX]⟩
 | uh n x =>
  obtain rfl:=sQ rfl;simp only[aI.xs,eE] at hx;simp only[aI.ba,Exact] at h ⊢;rw[hx.1];obtain rfl:=mk_inj h.2.2.2;exact⟨h.1,h.2.1,h.2.2.1,by simp[aI.bg,bX]⟩
 | build z ps =>
  simp only[aI.ba] at h ⊢;rw[PZ (ps:=ps) hx];cases hb:(nQ (bX t s) z ps).map V.agg with
  | none=>rw[hb] at h;exact h.elim
  | some u=>rw[hb] at h;exact⟨h.1,rfl⟩
 | kf k xs =>
  simp only[aI.ba] at h ⊢;rw[VO (xs:=xs) hx];cases hb:(lb (bX t s) k xs).map (V.sl .aV k) with
  | none=>rw[hb] at h;exact h.elim
  | some u=>rw[hb] at h;exact⟨h.1,rfl⟩
 | load g n x =>
  simp only[aI.xs,eE] at hx;simp only[aI.ba] at h ⊢;rw[hx.1,Ty,v5 g n x rfl];exact⟨rfl,rfl⟩
 | store n a x =>
  obtain rfl:=sQ rfl;simp only[aI.xs,eE] at hx;simp only[aI.ba] at h ⊢;rw[hx.1,hx.2.1];generalize ev (bX t s2) x=xv at h ⊢;generalize ev (bX t s2) a=av at h ⊢;have key:∀aJ,dq (bX t s2) n xv av=U aJ -> dq (bX t2 s2) n xv av=U (bX t2 (aJ.aD,aJ.out)):=λaJ he=>by
   cases av with
   | ptr p off =>
    cases p with
    | jT b=>simp[dq] at he
    | aD i =>
     simp only[dq,bX,iI] at he ⊢;obtain⟨cs,h1,h2⟩:=he;refine⟨cs,h1,?_⟩
     by_cases hc:bZ n (cs.drop off)=aa/\xv.wd=U n/\cC xv.cells=aa
     .rw[aE hc] at h2 ⊢;simp only[aZ] at h2;subst h2;rfl
     .rw[aC hc] at h2;simp at h2
    | out b =>
     simp only[dq,bX,iI] at he ⊢;obtain⟨cs,h1,h2⟩:=he;refine⟨cs,h1,?_⟩
     by_cases hc:bZ n (cs.drop off)=aa/\xv.wd=U n/\cC xv.cells=aa/\bK xv.cells=aa
     .rw[aE hc] at h2 ⊢;simp only[aZ] at h2;subst h2;rfl
     .rw[aC hc] at h2;simp at h2
   | _=>simp[dq] at he
  split at h
  case h_2=>exact h.elim
  rename_i aJ he;rw[key aJ he]
  have:=gX (λq:St=>(q.aD,q.out)) h.2
  have h2:(aJ.aD,aJ.out)=s' := this;exact⟨h.1,by rw[h2];rfl⟩
 | uX x =>
  simp only[aI.xs,eE] at hx;simp only[aI.ba] at h ⊢;rw[hx.1];split at h<;>first | exact⟨h.1,rfl⟩ | exact h.elim
 | ek op x y =>
  simp only[aI.xs,eE] at hx;simp only[aI.ba] at h ⊢;rw[hx.1,hx.2.1];cases hb:ug op (ev (bX t s) x) (ev (bX t s) y) with
  | none=>rw[hb] at h;exact h.elim
  | some u=>rw[hb] at h;exact⟨h.1,rfl⟩
 | mW op x y =>
  simp only[aI.xs,eE] at hx;simp only[aI.ba] at h ⊢;rw[hx.1,hx.2.1];cases hb:yZ op (ev (bX t s) x) (ev (bX t s) y) with
  | none=>rw[hb] at h;exact h.elim
  | some u=>rw[hb] at h;exact⟨h.1,rfl⟩
 | uf neg x y =>
  simp only[aI.xs,eE] at hx;simp only[aI.ba] at h ⊢;rw[hx.1,hx.2.1];cases hb:xq neg (ev (bX t s) x) (ev (bX t s) y) with
  | none=>rw[hb] at h;exact h.elim
  | some u=>rw[hb] at h;exact⟨h.1,rfl⟩
 | cat x y =>
  simp only[aI.xs,eE] at hx;simp only[aI.ba] at h ⊢;rw[hx.1,hx.2.1];obtain⟨a,b,h1,h2,h3,h4⟩:=h;exact⟨a,b,h1,h2,h3,h4.1,rfl⟩
 | ir neg n x y =>
  simp only[aI.xs,eE] at hx;simp only[aI.ba] at h ⊢;rw[hx.1,hx.2.1];cases hb:xp neg n (ev (bX t s) x) (ev (bX t s) y) with
  | none=>rw[hb] at h;exact h.elim
  | some u=>rw[hb] at h;exact⟨h.1,rfl⟩
 | qK neg x y =>
  simp only[aI.xs,eE] at hx;simp only[aI.ba] at h ⊢;rw[hx.1,hx.2.1];split at h
  .exact⟨h.1,rfl⟩
  .exact h.elim
 | not x =>
  simp only[aI.xs,eE] at hx;simp only[aI.ba] at h ⊢;rw[hx.1];split at h
  .exact⟨h.1,rfl⟩
  .exact h.elim
 | uS x =>
  simp only[aI.xs,eE] at hx;simp only[aI.ba] at h ⊢;rw[hx.1];split at h
  .exact⟨h.1,rfl⟩
  .exact⟨h.1,rfl⟩
  .exact h.elim
 | uT x =>
  simp only[aI.xs,eE] at hx;simp only[aI.ba] at h ⊢;rw[hx.1];split at h
  .exact⟨h.1,rfl⟩
  .exact h.elim
 | nW off x =>
  simp only[aI.xs,eE] at hx;simp only[aI.ba] at h ⊢;rw[hx.1];split at h
  .exact⟨h.1,rfl⟩
  .exact⟨h.1,rfl⟩
  .exact h.elim
 | uz g off n x =>
  simp only[aI.xs,eE] at hx;simp only[aI.ba] at h ⊢;rw[hx.1];split at h
  case h_2=>exact h.elim
  rename_i cs e;cases hb:bF g n (cs.drop off) with
  | none=>rw[hb] at h;exact h.elim
  | some u=>rw[hb] at h;exact⟨h.1,rfl⟩
 | r6 k x i =>
  simp only[aI.xs,eE] at hx;simp only[aI.ba] at h ⊢;rw[hx.1,hx.2.1];split at h
  .obtain⟨h1,k',n,c,h2,h3,h4,h5⟩:=h;exact⟨h1,k',n,c,h2,h3,h4,h5.1,rfl⟩
  .obtain⟨k',n,h2,h3,h4,h5⟩:=h;exact⟨k',n,h2,h3,h4,h5.1,rfl⟩
  .exact h.elim
 | q_ m k x i =>
  simp only[aI.xs,eE] at hx;simp only[aI.ba] at h ⊢;rw[hx.1,hx.2.1];split at h
  .obtain⟨kk,n,h1,h2,h3,h4⟩:=h;exact⟨kk,n,h1,h2,h3,h4.1,rfl⟩
  .obtain⟨kk,n,h1,h2,h3,h4⟩:=h;exact⟨kk,n,h1,h2,h3,h4.1,rfl⟩
  .exact h.elim
 | sZ x i =>
  simp only[aI.xs,eE] at hx;simp only[aI.ba] at h ⊢;rw[hx.1,hx.2.1];split at h
  case h_2=>exact h.elim
  obtain⟨k',n,c,h2,h3,h4,h5⟩:=h;exact⟨k',n,c,h2,h3,h4,h5.1,rfl⟩
 | call f xs =>
  obtain rfl:=sQ rfl;simp only[aI.ba] at h ⊢;rw[Bb (xs:=xs) hx];refine⟨h.1,h.2.mono λu Z hu=>?_⟩;obtain rfl:=mk_inj hu.2;exact⟨hu.1,rfl⟩
 | il x xs =>
  obtain rfl:=sQ rfl;simp only[aI.xs,eE] at hx;simp only[aI.ba] at h ⊢;rw[hx.1,Bb hx.2];split at h
  case h_2=>exact h.elim
  refine⟨h.1,h.2.mono λu Z hu=>?_⟩;obtain rfl:=mk_inj hu.2;exact⟨hu.1,rfl⟩
 | app k x y =>
  obtain rfl:=sQ rfl;simp only[aI.xs,eE] at hx;simp only[aI.ba,pX] at h ⊢;rw[hx.1,hx.2.1];obtain⟨tk,l,m,h1,h2,h3,h4⟩:=h;refine⟨tk,l,m,h1,h2,h3,?_⟩;have conv:∀{u:V} {Z:ag},Exact t v s' u ⟨t,s2.1,Z⟩->Exact t2 v (if (aI.app k x y).bg then s' else s2) u ⟨t2,s2.1,Z⟩:=λ{u Z} hu=>by
   obtain rfl:=mk_inj hu.2;exact⟨hu.1,rfl⟩
  cases tk with
  | no=>exact h4
  | aV =>
   rcases h4 with h4 | h4 | ⟨Y,h4,h5⟩
   .exact .inl λY br=>conv (h4 Y br)
   .exact .inr (.inl (conv h4))
   .exact .inr (.inr ⟨Y,h4,conv h5⟩)
  | tk Y=>exact⟨h4.1,conv h4.2⟩
 | mu x y =>
  obtain rfl:=sQ rfl;simp only[aI.xs,eE] at hx;simp only[aI.ba,pX] at h ⊢;rw[hx.1,hx.2.1];obtain⟨aF,h0,tk,l,m,h1,h2,h3,h4⟩:=h;refine⟨aF,h0,tk,l,m,h1,h2,h3,?_⟩;have conv:∀{u:V} {Z:ag},Exact t v s' u ⟨t,s2.1,Z⟩->Exact t2 v (if (aI.mu x y).bg then s' else s2) u ⟨t2,s2.1,Z⟩:=λ{u Z} hu=>by
   obtain rfl:=mk_inj hu.2;exact⟨hu.1,rfl⟩
  cases tk with
  | no=>exact h4
  | aV =>
   rcases h4 with h4 | h4 | ⟨Y,h4,h5⟩
   .exact .inl λY br=>conv (h4 Y br)
   .exact .inr (.inl (conv h4))
   .exact .inr (.inr ⟨Y,h4,conv h5⟩)
  | tk Y=>exact⟨h4.1,conv h4.2⟩
 | kF k x lo hi mx =>
  simp only[aI.xs,eE] at hx;simp only[aI.ba] at h ⊢;rw[hx.1]
  rcases h with ⟨tk,l,m,n,h1,h2,h3,h4,h5,h6⟩ | ⟨a,n,cap,m,hh,h1,h2,h3,h4,h5,h6,h7⟩
  .refine .inl ⟨tk,l,m,n,h1,h2,h3,?_,?_,?_⟩
   .cases lo with
    | none=>exact h4
    | some y=>simp only at h4 ⊢;rw[hx.2 y (by simp[sd])];exact h4
   .cases hi with
    | none=>exact h5
    | some y=>simp only at h5 ⊢;rw[hx.2 y (by simp[sd])];exact h5
   .cases mx with
    | none=>exact⟨h6.1,rfl⟩
    | some y=>simp only at h6 ⊢;rw[hx.2 y (by simp[sd])];exact⟨h6.1,h6.2.1,rfl⟩
  .refine .inr ⟨a,n,cap,m,hh,h1,h2,h3,?_,?_,h6,h7.1,rfl⟩
   .cases lo with
    | none=>exact h4
    | some y=>simp only at h4 ⊢;rw[hx.2 y (by simp[sd])];exact h4
   .cases hi with
    | none=>exact h5
    | some y=>simp only at h5 ⊢;rw[hx.2 y (by simp[sd])];exact h5
 | yu x lo hi =>
  simp only[aI.xs,eE] at hx;simp only[aI.ba] at h ⊢;rw[hx.1];obtain⟨l,m,n,h1,h2,h3,h4,h5,h6⟩:=h;refine⟨l,m,n,h1,h2,h3,?_,?_,h6.1,rfl⟩
  .cases lo with
   | none=>exact h4
   | some y=>simp only at h4 ⊢;rw[hx.2 y (by simp[sd])];exact h4
  .cases hi with
   | none=>exact h5
   | some y=>simp only at h5 ⊢;rw[hx.2 y (by simp[sd])];exact h5
 | ext x i =>
  simp only[aI.xs,eE] at hx;simp only[aI.ba] at h ⊢;rw[hx.1];split at h
  case h_2=>exact h.elim
  rename_i vs e;cases hb:vs[i]? with
  | none=>rw[hb] at h;exact h.elim
  | some u=>rw[hb] at h;exact⟨h.1,rfl⟩
 | jG f first cap =>
  simp only[aI.xs,List.forall_mem_append] at hx;simp only[aI.ba] at h ⊢;rw[Bb hx.1,Bb hx.2];exact⟨h.1,rfl⟩
 | pr k x =>
  simp only[aI.xs,eE] at hx;simp only[aI.ba] at h ⊢;rw[hx.1];split at h
  .exact⟨h.1,rfl⟩
  .exact h.elim
 | sI x =>
  simp only[aI.xs,eE] at hx;simp only[aI.ba] at h ⊢;rw[hx.1];obtain⟨tk,aF,h1,h2⟩:=h;exact⟨tk,aF,h1,h2.1,rfl⟩
 | nP z =>
  obtain rfl:=sQ rfl;simp only[aI.ba,Exact] at h ⊢;refine⟨h.1,λb hb=>?_⟩;obtain⟨h1,h2⟩:=h.2 b hb;obtain rfl:=mk_inj h2;exact⟨h1,by simp[aI.bg,bX]⟩
 | gf n x =>
  obtain rfl:=sQ rfl;simp only[aI.xs,eE] at hx;simp only[aI.ba,Exact] at h ⊢;rw[hx.1];refine⟨h.1,h.2.1,λb hb=>?_⟩;obtain⟨h1,h2⟩:=h.2.2 b hb;obtain rfl:=mk_inj h2;exact⟨h1,by simp[aI.bg,bX]⟩
 | own q xs =>
  simp only[aI.ba,aI.xs] at h hx ⊢;rw[Bb hx];cases hp:q.pure
  .have he:(aI.own q xs).bg=true:=by simp[aI.bg,hp]
   obtain rfl:=sQ he;refine OQ.mono (λu σ' hu=>?_) q _ h;obtain rfl:=mk_inj hu.2;exact⟨hu.1,by rw[aE he];rfl⟩
  .have he:¬((aI.own q xs).bg=aa):=by simp[aI.bg,hp]
   obtain⟨u,h1,h2⟩:=OQ.QC hp h;exact h2 _ _ ⟨h1.1,by rw[aC he]⟩
end
def yE(Z:ag)(k:Nat)(s x:V)(K:V->ag->Prop):Prop :=
 ∃t l m,s = .sl t k l/\(∃t',x = .sl t' k m)/\l.length+m.length<=aO /\
  match t with
  | .aV=>K (.sl .no k (l++m)) Z\/∃Y,Z.aK Y=U l.length/\K (.sl (.tk Y) k (l++m)) (Z.aY Y (l.length+m.length))
  | .tk Y=>Z.aK Y=U l.length/\K (.sl (.tk Y) k (l++m)) (Z.aY Y (l.length+m.length))
  | .no=>False
def aI.lQ(P:Program)(st:St)(K:V->St->Prop):aI->Prop
 | .call f xs=>bK (cX st xs)=aa/\∃v Z,cg P f (cX st xs) st.out (λv' σ' => v' = v/\σ' = Z)/\K v ⟨st.t,st.aD,Z⟩
 | .il x xs => match ev st x with
  | .fn (.func f) a b=>bK (a++cX st xs++b)=aa/\∃v Z,cg P f (a++cX st xs++b) st.out (λv' σ' => v' = v/\σ' = Z)/\K v ⟨st.t,st.aD,Z⟩
  | _=>False
 | .app k s x=>yE st.out k (ev st s) (ev st x) λv Z=>K v ⟨st.t,st.aD,Z⟩
 | .mu s x=>∃a,ev st x = .aF a/\yE st.out 1 (ev st s) (.sl .no 1 (de a)) λv Z=>K v ⟨st.t,st.aD,Z⟩
 | .nP _ | .gf _ _=>False
 | .own q xs=>q.pure=aa/\q.ba st.out (λv Z=>K v ⟨st.t,st.aD,Z⟩) (cX st xs)
 | op=>op.ba P st K
structure TR where
 dst:Option Nat
 val:V
 bg:Bool
 yA:c8
def j9(t:List V)(d:Option Nat)(v:V):List V :=
 match d with
 | some n=>t.set n v
 | none=>t
def Ec(t:List V)(s:c8)(d:Option Nat)(v:V):(bX t s).put d v=bX (j9 t d v) s:=by cases d<;>rfl
def B3:c8:=([],⟨λ_=>af,λ_=>af,λ_=>af⟩)
def y3(SN:List c8)(g:Bool)(n:Nat)(a v:V):List Nat->Prop
 | []=>True
 | m::ms=>re (SN.getD m B3) g n a=U v/\y3 SN g n a v ms
def p9(SN:List c8):List (V × Bool × Nat × V × List Nat)->Prop
 | []=>True
 | (a,g,n,v,ms)::r=>y3 SN g n a v ms/\p9 SN r
def P3{SN:List c8}{g:Bool}{n:Nat}{a v:V}:∀{ms:List Nat},y3 SN g n a v ms->∀m∈ms,re (SN.getD m B3) g n a=U v
 | [],_,_,h=>by simp at h
 | m :: ms, h, m', h' => by
  rcases kI.1 h' with rfl | h'
  .exact h.1
  .exact P3 h.2 m' h'
def L3(st:St)(ms:List Nat)(v:V):aI->List (V × Bool × Nat × V × List Nat)
 | .load g n x=>[(ev st x,g,n,v,ms)]
 | _=>[]
def ch(P:Program):List (AO × List Nat)->List c8->List (V × Bool × Nat × V × List Nat)->(St->Prop)->St->Prop
 | [],SN,L,K,st=>p9 SN L/\K st
 | (o, ms) :: r, SN, L, K, st =>
  match o.guard with
  | none=>o.op.lQ P st λv aJ => ch P r (if o.op.bg then SN++[(aJ.aD,aJ.out)] else SN) (L3 st ms v o.op++L) K (aJ.put o.dst v)
  | some (g, want) =>
   match ev st (.s g) with
   | .bool b =>
    if b=want then o.op.lQ P st λv aJ => ch P r (if o.op.bg then SN++[(aJ.aD,aJ.out)] else SN) (L3 st ms v o.op++L) K (aJ.put o.dst v)
    else ch P r (if o.op.bg then SN++[(st.aD,st.out)] else SN) L K (st.put o.dst (.bt []))
   | .bt []=>ch P r (if o.op.bg then SN++[(st.aD,st.out)] else SN) L K (st.put o.dst (.bt []))
   | _=>False
def Pj(P:Program)(SN:List c8)(o:AO)(ms:List Nat)(t:List V)(s:c8)(r:TR):Prop :=
 r.dst=o.dst/\r.bg=o.op.bg/\∃run:Bool,
  (match o.guard with | none=>run=aa | some (g,want)=>(∃b,t.getD g .any = .bool b/\run=(b == want))\/t.getD g .any = .bt []/\run=ak) /\
  (run=aa->o.op.ba P (bX t s) (Exact t r.val (if o.op.bg then r.yA else s))/\∀g n x,o.op = .load g n x->∀m∈ms,re (SN.getD m B3) g n (ev (bX t s) x)=U r.val) /\
  (run=ak->r.val = .bt []/\(r.bg=aa->r.yA=s))
def xe(P:Program)(SN:List c8):List (AO × List Nat)->List TR->List V->c8->Prop
 | [],[],_,_=>True
 | (o,ms)::l,r::tr,t,s=>Pj P SN o ms t s r/\xe P SN l tr (j9 t r.dst r.val) (if r.bg then r.yA else s)
 | _,_,_,_=>False
def runT:List TR->List V->List V
 | [],t=>t
 | r::tr,t=>runT tr (j9 t r.dst r.val)
def dx:List TR->c8->c8
 | [],s=>s
 | r::tr,s=>dx tr (if r.bg then r.yA else s)
def kg:List TR->List c8
 | []=>[]
 | r::tr=>if r.bg then r.yA::kg tr else kg tr
section
variable {P:Program}
def aqk{op:aI}{t:List V}{K:V->St->Prop}(h:op.lQ P (bX t s) K):∃v s',op.ba P (bX t s) (Exact t v s')/\K v (bX t s')/\(op.bg=ak->s' = s):=by
 have wD:∀{o:Option V},opt o (K2 K (bX t s))->∃v,opt o (K2 (Exact t v s) (bX t s))/\K v (bX t s):=λ{o} h=>by
  cases o with
  | none=>exact h.elim
  | some u=>exact⟨u,⟨rfl,rfl⟩,h⟩
 cases op with
 | mv x=>exact⟨_,s,⟨rfl,rfl⟩,h,λ_=>rfl⟩
 | pick c a b =>
  simp only[aI.lQ,aI.ba] at h ⊢;split at h
  .rename_i e;exact⟨_,s,⟨rfl,rfl⟩,h,λ_=>rfl⟩
  .rename_i e;exact⟨_,s,⟨rfl,rfl⟩,h,λ_=>rfl⟩
  .exact h.elim
 | alloc z=>exact⟨_,(s.1++[z],s.2),⟨rfl,rfl⟩,h,λh=>by simp[aI.bg] at h⟩
 | box n x=>exact⟨_,(s.1++[(ev (bX t s) x).cells],s.2),⟨h.1,rfl,rfl⟩,h.2,λh=>by simp[aI.bg] at h⟩
 | uh n x=>exact⟨_,(s.1++[(ev (bX t s) x).cells],s.2),⟨h.1,h.2.1,rfl,rfl⟩,h.2.2,λh=>by simp[aI.bg] at h⟩
 | build z ps=>obtain⟨v,h1,h2⟩:=wD h;exact⟨v,s,h1,h2,λ_=>rfl⟩
 | kf k xs=>obtain⟨v,h1,h2⟩:=wD h;exact⟨v,s,h1,h2,λ_=>rfl⟩
 | load g n x=>obtain⟨v,h1,h2⟩:=wD h;exact⟨v,s,h1,h2,λ_=>rfl⟩
 | store n a x =>
  simp only[aI.lQ,aI.ba] at h ⊢;split at h
  case h_2=>exact h.elim
  rename_i aJ he;have ht:aJ.t=t:=by
   generalize ev (bX t s) a=av at he;generalize ev (bX t s) x=xv at he;cases av with
   | ptr p off =>
    cases p with
    | jT b=>simp[dq] at he
    | aD i =>
     simp only[dq,iI] at he;obtain⟨cs,_,h2⟩:=he;split at h2
     .simp only[aZ] at h2;subst h2;rfl
     .simp at h2
    | out b =>
     simp only[dq,iI] at he;obtain⟨cs,_,h2⟩:=he;split at h2
     .simp only[aZ] at h2;subst h2;rfl
     .simp at h2
   | _=>simp[dq] at he
  obtain⟨t',l',o'⟩:=aJ;simp only at ht;subst ht;exact⟨.any,(l',o'),⟨rfl,rfl⟩,h,λh=>by simp[aI.bg] at h⟩
 | uX x =>
  simp only[aI.lQ,aI.ba] at h ⊢;split at h<;>first | exact⟨_,s,⟨rfl,rfl⟩,h,λ_=>rfl⟩ | exact h.elim
 | ek op x y=>obtain⟨v,h1,h2⟩:=wD h;exact⟨v,s,h1,h2,λ_=>rfl⟩
 | mW op x y=>obtain⟨v,h1,h2⟩:=wD h;exact⟨v,s,h1,h2,λ_=>rfl⟩
 | uf neg x y=>obtain⟨v,h1,h2⟩:=wD h;exact⟨v,s,h1,h2,λ_=>rfl⟩
 | cat x y =>
  obtain⟨a,b,h1,h2,h3,h4⟩:=h;exact⟨_,s,⟨a,b,h1,h2,h3,rfl,rfl⟩,h4,λ_=>rfl⟩
 | ir neg n x y=>obtain⟨v,h1,h2⟩:=wD h;exact⟨v,s,h1,h2,λ_=>rfl⟩
 | qK neg x y =>
  simp only[aI.lQ,aI.ba] at h ⊢;split at h
  .exact⟨_,s,⟨rfl,rfl⟩,h,λ_=>rfl⟩
  .exact h.elim
 | not x =>
  simp only[aI.lQ,aI.ba] at h ⊢;split at h
  .exact⟨_,s,⟨rfl,rfl⟩,h,λ_=>rfl⟩
  .exact h.elim
 | uS x =>
  simp only[aI.lQ,aI.ba] at h ⊢;split at h
  .exact⟨_,s,⟨rfl,rfl⟩,h,λ_=>rfl⟩
  .exact⟨_,s,⟨rfl,rfl⟩,h,λ_=>rfl⟩
  .exact h.elim
 | uT x =>
  simp only[aI.lQ,aI.ba] at h ⊢;split at h
  .exact⟨_,s,⟨rfl,rfl⟩,h,λ_=>rfl⟩
  .exact h.elim
 | nW off x =>
  simp only[aI.lQ,aI.ba] at h ⊢;split at h
  .exact⟨_,s,⟨rfl,rfl⟩,h,λ_=>rfl⟩
  .exact⟨_,s,⟨rfl,rfl⟩,h,λ_=>rfl⟩
  .exact h.elim
 | uz g off n x =>
  simp only[aI.lQ,aI.ba] at h ⊢;split at h
  .obtain⟨v,h1,h2⟩:=wD h;exact⟨v,s,h1,h2,λ_=>rfl⟩
  .exact h.elim
 | r6 k x i =>
  simp only[aI.lQ,aI.ba] at h ⊢;split at h
  .obtain⟨h1,k',n,c,h2,h3,h4,h5⟩:=h;exact⟨_,s,⟨h1,k',n,c,h2,h3,h4,rfl,rfl⟩,h5,λ_=>rfl⟩
  .obtain⟨k',n,h2,h3,h4,h5⟩:=h;exact⟨_,s,⟨k',n,h2,h3,h4,rfl,rfl⟩,h5,λ_=>rfl⟩
  .exact h.elim
 | q_ m k x i =>
  simp only[aI.lQ,aI.ba] at h ⊢;split at h
  .obtain⟨kk,n,h1,h2,h3,h4⟩:=h;exact⟨_,s,⟨kk,n,h1,h2,h3,rfl,rfl⟩,h4,λ_=>rfl⟩
  .obtain⟨kk,n,h1,h2,h3,h4⟩:=h;exact⟨_,s,⟨kk,n,h1,h2,h3,rfl,rfl⟩,h4,λ_=>rfl⟩
  .exact h.elim
 | sZ x i =>
  simp only[aI.lQ,aI.ba] at h ⊢;split at h
  .obtain⟨k',n,c,h2,h3,h4,h5⟩:=h;exact⟨_,s,⟨k',n,c,h2,h3,h4,rfl,rfl⟩,h5,λ_=>rfl⟩
  .exact h.elim
 | call f xs =>
  obtain⟨h1,v,Z,h2,h3⟩:=h;exact⟨v,(s.1,Z),⟨h1,h2.mono λu σ' hu=>⟨hu.1,by rw[hu.2];rfl⟩⟩,h3,λh=>by simp[aI.bg] at h⟩
 | il x xs =>
  simp only[aI.lQ,aI.ba] at h ⊢;split at h
  .rename_i e;obtain⟨h1,v,Z,h2,h3⟩:=h;refine⟨v,(s.1,Z),?_,h3,λh=>by simp[aI.bg] at h⟩
   (try rw[e])
   exact⟨h1,h2.mono λu σ' hu=>⟨hu.1,by rw[hu.2];rfl⟩⟩
  .exact h.elim
 | app k x y =>
  obtain⟨tk,l,m,h1,h2,h3,h4⟩:=h;cases tk with
  | no=>exact h4.elim
  | aV =>
   rcases h4 with h4 | ⟨Y,h4,h5⟩
   .exact⟨_,s,⟨_,l,m,h1,h2,h3,.inr (.inl ⟨rfl,rfl⟩)⟩,h4,λh=>by simp[aI.bg] at h⟩
   .exact⟨_,(s.1,_),⟨_,l,m,h1,h2,h3,.inr (.inr ⟨Y,h4,rfl,rfl⟩)⟩,h5,λh=>by simp[aI.bg] at h⟩
  | tk Y=>exact⟨_,(s.1,_),⟨_,l,m,h1,h2,h3,h4.1,rfl,rfl⟩,h4.2,λh=>by simp[aI.bg] at h⟩
 | mu x y =>
  obtain⟨a,h0,tk,l,m,h1,h2,h3,h4⟩:=h;cases tk with
  | no=>exact h4.elim
  | aV =>
   rcases h4 with h4 | ⟨Y,h4,h5⟩
   .exact⟨_,s,⟨a,h0,_,l,m,h1,h2,h3,.inr (.inl ⟨rfl,rfl⟩)⟩,h4,λh=>by simp[aI.bg] at h⟩
   .exact⟨_,(s.1,_),⟨a,h0,_,l,m,h1,h2,h3,.inr (.inr ⟨Y,h4,rfl,rfl⟩)⟩,h5,λh=>by simp[aI.bg] at h⟩
  | tk Y=>exact⟨_,(s.1,_),⟨a,h0,_,l,m,h1,h2,h3,h4.1,rfl,rfl⟩,h4.2,λh=>by simp[aI.bg] at h⟩
 | kF k x lo hi mx =>
  simp only[aI.lQ,aI.ba] at h ⊢
  rcases h with ⟨tk,l,m,n,h1,h2,h3,h4,h5,h6⟩ | ⟨a,n,cap,m,hh,h1,h2,h3,h4,h5,h6,h7⟩
  .cases mx with
   | none=>exact⟨_,s,.inl ⟨tk,l,m,n,h1,h2,h3,h4,h5,rfl,rfl⟩,h6,λ_=>rfl⟩
   | some y=>exact⟨_,s,.inl ⟨tk,l,m,n,h1,h2,h3,h4,h5,h6.1,rfl,rfl⟩,h6.2,λ_=>rfl⟩
  .exact⟨_,s,.inr ⟨a,n,cap,m,hh,h1,h2,h3,h4,h5,h6,rfl,rfl⟩,h7,λ_=>rfl⟩
 | yu x lo hi =>
  obtain⟨l,m,n,h1,h2,h3,h4,h5,h6⟩:=h;exact⟨_,s,⟨l,m,n,h1,h2,h3,h4,h5,rfl,rfl⟩,h6,λ_=>rfl⟩
 | ext x i =>
  simp only[aI.lQ,aI.ba] at h ⊢;split at h
  .obtain⟨v,h1,h2⟩:=wD h;exact⟨v,s,h1,h2,λ_=>rfl⟩
  .exact h.elim
 | jG f first cap=>exact⟨_,s,⟨rfl,rfl⟩,h,λ_=>rfl⟩
 | pr k x =>
  simp only[aI.lQ,aI.ba] at h ⊢;split at h
  .exact⟨_,s,⟨rfl,rfl⟩,h,λ_=>rfl⟩
  .exact h.elim
 | sI x =>
  obtain⟨tk,aF,h1,h2⟩:=h;exact⟨_,s,⟨tk,aF,h1,rfl,rfl⟩,h2,λ_=>rfl⟩
 | nP z=>exact h.elim
 | gf n x=>exact h.elim
 | own q xs =>
  obtain⟨hp,h⟩:=h;obtain⟨v,h1,h2⟩:=OQ.QC hp h;have hE:(aI.own q xs).ba P (bX t s) (Exact t v s):=h2 s.2 (λu Z=>Exact t v s u ⟨t,s.1,Z⟩) ⟨rfl,rfl⟩;exact⟨v,s,hE,h1,λ_=>rfl⟩
def P4{SN:List c8}:∀{l m:List (V × Bool × Nat × V × List Nat)},p9 SN (l++m)↔p9 SN l/\p9 SN m
 | [],m=>by simp[p9]
 | (a,g,n,v,ms)::l,m=>by simp only[gI,p9,P4,I2]
def Ij{K:St->Prop}:∀{l:List (AO × List Nat)} {SN:List c8} {L:List (V × Bool × Nat × V × List Nat)} {t:List V} {s:c8},ch P l SN L K (bX t s) ->
 ∃tr,xe P (SN++kg tr) l tr t s/\p9 (SN++kg tr) L/\K (bX (runT tr t) (dx tr s))
 | [],SN,L,t,s,h=>⟨[],trivial,by simpa [kg] using h.1,h.2⟩
 | (o, ms) :: l, SN, L, t, s, h => by
  have go:o.op.lQ P (bX t s) (λv aJ => ch P l (if o.op.bg then SN++[(aJ.aD,aJ.out)] else SN) (L3 (bX t s) ms v o.op++L) K (aJ.put o.dst v)) ->
   (match o.guard with | none=>True | some (g,want)=>∃b,t.getD g .any = .bool b/\aa=(b == want)) ->
   ∃tr,xe P (SN++kg tr) ((o,ms)::l) tr t s/\p9 (SN++kg tr) L/\K (bX (runT tr t) (dx tr s)):=λh hg=>by
   obtain⟨v,s',h1,h2,h3⟩:=aqk h;rw[Ec] at h2;obtain⟨tr,k1,k2,k3⟩:=Ij h2;have dj : (if o.op.bg then s' else s)=s' := by cases he:o.op.bg<;>simp[he] at h3 ⊢;exact h3.symm
   have sP:SN++kg (⟨o.dst,v,o.op.bg,s'⟩::tr)=(if o.op.bg then SN++[s'] else SN)++kg tr:=by
    cases o.op.bg<;>simp[kg]
   have ah8 : (if o.op.bg then SN++[((bX t s').aD,(bX t s').out)] else SN)=(if o.op.bg then SN++[s'] else SN):=rfl;rw[ah8] at k1 k2;rw[P4] at k2;refine⟨⟨o.dst,v,o.op.bg,s'⟩::tr,?_,by rw[sP];exact k2.2,?_⟩
   .rw[sP];refine⟨⟨rfl,rfl,aa,?_,λ_=>⟨by rw[dj];exact h1,λg n x hx m hm=>?_⟩,λh=>by simp at h⟩,by simp only[dj];exact k1⟩
    .cases n7:o.guard with
     | none=>rfl
     | some p=>rw[n7] at hg;exact .inl hg
    .rw[hx] at k2
     have:=P3 k2.1.1 m hm
     rw[<-hx] at this;exact this
   .simp only[runT,dx,dj];exact k3
  simp only[ch] at h;cases n7:o.guard with
  | none=>rw[n7] at h;exact go h (by rw[n7];trivial)
  | some p =>
   obtain⟨g,want⟩:=p;rw[n7] at h;simp only at h;have skip:∀b9 : ((∃b,t.getD g .any = .bool b/\ak=(b == want))\/t.getD g .any = .bt []/\ak=ak),ch P l (if o.op.bg then SN++[((bX t s).aD,(bX t s).out)] else SN) L K ((bX t s).put o.dst (.bt [])) ->
    ∃tr,xe P (SN++kg tr) ((o,ms)::l) tr t s/\p9 (SN++kg tr) L/\K (bX (runT tr t) (dx tr s)):=λb9 h=>by
    rw[Ec] at h;obtain⟨tr,k1,k2,k3⟩:=Ij h;have SS:(if o.op.bg then s else s)=s:=by simp
    have sP:SN++kg (⟨o.dst,.bt [],o.op.bg,s⟩::tr)=(if o.op.bg then SN++[s] else SN)++kg tr:=by
     cases o.op.bg<;>simp[kg]
    refine⟨⟨o.dst,.bt [],o.op.bg,s⟩::tr,?_,by rw[sP];exact k2,?_⟩
    .rw[sP];refine⟨⟨rfl,rfl,ak,by rw[n7];exact b9,λh=>by simp at h,λ_=>⟨rfl,λ_=>rfl⟩⟩,by simp only[SS];exact k1⟩
    .simp only[runT,dx,SS];exact k3
   split at h
   .rename_i b hb;have b9 : t.getD g .any = .bool b:=hb;split at h
    .rename_i hw;exact go h (by rw[n7];exact⟨b,b9,by simp[hw]⟩)
    .rename_i hw;exact skip (.inl ⟨b,b9,by simp[hw]⟩) h
   .rename_i hb;exact skip (.inr ⟨hb,rfl⟩) h
   .exact h.elim
end
def cu(S:Nat->Bool):Nat->List TR->List TR
 | _,[]=>[]
 | i,r::tr=>if S i then r::cu S (i+1) tr else cu S (i+1) tr
def cy(S:Nat->Bool):Nat->List TR->Nat
 | _,[]=>0
 | i,r::tr=>(if S i&&r.bg then 1 else 0)+cy S (i+1) tr
def HM(t:List V)(d:Option Nat)(v:V):(j9 t d v).length=t.length:=by cases d<;>simp[j9]
def JZ(t:List V)(d:Option Nat)(v:V)(x:Nat):(j9 t d v).getD x .any=if d=U x then(if x<t.length then v else .any) else t.getD x .any:=by
 cases d with
 | none=>simp[j9]
 | some n =>
  simp only[j9,aZ]
  by_cases h:n=x
  .subst h;rw[aE rfl]
   by_cases hl:n<t.length
   .rw[aE hl];simp[gU,OX hl]
   .rw[aC hl,gU,yM (by simp;omega)];rfl
  .rw[aC h];simp[gU,Cr h]
def yv{S S' : Nat->Bool}{x:Nat}:∀{tr:List TR} {i:Nat} {t t' : List V},t.length=t'.length->t.getD x .any=t'.getD x .any ->
 (∀(j:Nat) r,tr[j]?=U r->r.dst=U x->S (i+j)=S' (i+j))->(runT (cu S i tr) t).getD x .any=(runT (cu S' i tr) t').getD x .any
 | [],i,t,t',_,h,_=>h
 | r :: tr, i, t, t', hl, h, hS => by
  have v9:∀(j:Nat) r',tr[j]?=U r' -> r'.dst=U x->S (i+1+j)=S' (i+1+j):=λj r' hr hd=>by
   have:=hS (j+1) r' (by simpa using hr) hd
   rw[show i+(j+1)=i+1+j from by omega] at this;exact this
  have h0:r.dst=U x->S i=S' i:=λhd=>by simpa using hS 0 r (by simp) hd
  simp only[cu]
  by_cases hd:r.dst=U x
  .rw[h0 hd];cases S' i
   .exact yv hl h v9
   .simp only[cD,runT];refine yv (by simp[HM,hl]) ?_ v9;rw[JZ,JZ,aE hd,aE hd,hl]
  .have e:∀t:List V,(j9 t r.dst r.val).getD x .any=t.getD x .any:=λt=>by rw[JZ,aC hd]
   cases S i<;>cases S' i<;>simp only[cD,cn,dm,runT]
   .exact yv hl h v9
   .exact yv (by simp[HM,hl]) (by rw[e];exact h) v9
   .exact yv (by simp[HM,hl]) (by rw[e];exact h) v9
   .exact yv (by simp[HM,hl]) (by rw[e,e];exact h) v9
def aoM(t:List V){d d' : Option Nat}(v v' : V)(h:∀n,d=U n->d' ≠ U n):j9 (j9 t d v) d' v' = j9 (j9 t d' v') d v:=by
 cases d with
 | none=>rfl
 | some n =>
  cases d' with
  | none=>rfl
  | some m =>
   simp only[j9];rw[List.set_comm];intro e;exact h n rfl (by rw[e])
def V4:∀{tr:List TR} {t:List V} {d:Option Nat} {v:V},(∀r∈tr,∀n,d=U n->r.dst≠U n)->runT tr (j9 t d v)=j9 (runT tr t) d v
 | [],_,_,_,_=>rfl
 | r :: tr, t, d, v, h => by
  simp only[eE] at h;simp only[runT];rw[aoM t v r.val h.1,V4 h.2]
def NH{S:Nat->Bool}:∀{tr:List TR} {i:Nat} {r:TR},r∈cu S i tr->∃j,tr[j]?=U r/\S (i+j)=aa
 | [],_,_,h=>by simp[cu] at h
 | q :: tr, i, r, h => by
  simp only[cu] at h;split at h
  .rename_i hS
   rcases kI.1 h with rfl | h
   .exact⟨0,by simp,by simpa using hS⟩
   .obtain⟨j,h1,h2⟩:=NH h;exact⟨j+1,by simpa using h1,by rw[show i+(j+1)=i+1+j from by omega];exact h2⟩
  .obtain⟨j,h1,h2⟩:=NH h;exact⟨j+1,by simpa using h1,by rw[show i+(j+1)=i+1+j from by omega];exact h2⟩
def add(S:Nat->Bool)(k:Nat):Nat->Bool:=λj=>S j||decide (j=k)
def Ws{S:Nat->Bool}{k:Nat}:∀{tr:List TR} {i:Nat},k<i->cu (add S k) i tr=cu S i tr
 | [],_,_=>rfl
 | r :: tr, i, h => by
  have:add S k i=S i:=by simp[add];intro e;omega
  simp only[cu,this,Ws (k:=k) (tr:=tr) (i:=i+1) (by omega)]
def V1{S:Nat->Bool}{k:Nat}{r:TR}:∀{tr:List TR} {i:Nat} {t:List V},i<=k->tr[k - i]?=U r->S k=ak->(∀(j:Nat) r',tr[j]?=U r' -> i+j≠k->∀n,r.dst=U n->r'.dst≠U n) ->
 runT (cu (add S k) i tr) t=j9 (runT (cu S i tr) t) r.dst r.val
 | [],i,t,_,h,_,_=>by simp at h
 | q :: tr, i, t, hik, hr, hS, hd => by
  by_cases he:i=k
  .subst he;simp at hr;subst hr;have h1:add S i i=true:=by simp[add]
   simp only[cu,h1,cD,hS,dm,cn,runT];rw[Ws (by omega)];refine V4 λr' ck n hn=>?_
   obtain⟨j,h1,_⟩:=NH ck;exact hd (j+1) r' (by simpa using h1) (by omega) n hn
  .have h1:add S k i=S i:=by simp[add,he]
   have ck : tr[k - (i+1)]?=U r:=by
    rw[show k - i=(k - (i+1))+1 from by omega] at hr;simpa using hr
   have ih:=λt=>V1 (tr:=tr) (i:=i+1) (t:=t) (by omega) ck hS (λj r' hj aX n hn=>hd (j+1) r' (by simpa using hj) (by omega) n hn)
   simp only[cu,h1];cases S i
   .simpa using ih t
   .simpa [runT] using ih _
def V0{S:Nat->Bool}:∀{tr:List TR} {i:Nat} {s:c8},(∀(j:Nat) r,tr[j]?=U r->r.bg=aa->S (i+j)=ak)->dx (cu S i tr) s=s/\cy S i tr=0
 | [],_,_,_=>⟨rfl,rfl⟩
 | r :: tr, i, s, h => by
  have ih:=λs=>V0 (S:=S) (tr:=tr) (i:=i+1) (s:=s) λj r' hj he=>by
   have:=h (j+1) r' (by simpa using hj) he
   rw[show i+(j+1)=i+1+j from by omega] at this;exact this
  have h0:r.bg=aa->S i=false:=λhe=>by simpa using h 0 r (by simp) he
  simp only[cu,cy];cases he:r.bg
  .cases S i<;>simp[dx,he,(ih s).1,(ih s).2]
  .rw[h0 he];simp[(ih s).1,(ih s).2]
def VZ{S:Nat->Bool}:∀{tr:List TR} {i:Nat} {s:c8},(∀(j k:Nat) r r',tr[j]?=U r->tr[k]?=U r' -> r.bg=aa->r'.bg=aa->j<k->S (i+k)=aa->S (i+j)=aa) ->
 dx (cu S i tr) s=(s::kg tr).getD (cy S i tr) B3
 | [],_,_,_=>by simp[cu,dx,cy]
 | r :: tr, i, s, h => by
  have v9:∀(j k:Nat) r r',tr[j]?=U r->tr[k]?=U r' -> r.bg=aa->r'.bg=aa->j<k->S (i+1+k)=aa->S (i+1+j)=true:=λj k q q' h1 h2 h3 h4 h5 h6=>by
   have:=h (j+1) (k+1) q q' (by simpa using h1) (by simpa using h2) h3 h4 (by omega) (by rw[show i+(k+1)=i+1+k from by omega];exact h6)
   rw[show i+(j+1)=i+1+j from by omega] at this;exact this
  have ih:=λs=>VZ (S:=S) (tr:=tr) (i:=i+1) (s:=s) v9
  simp only[cu,cy,kg];cases he:r.bg
  .cases S i<;>simp[dx,he,ih]
  .cases hS:S i
   .obtain⟨h1,h2⟩:=V0 (S:=S) (tr:=tr) (i:=i+1) (s:=s) λj r' hj Gu => by
     cases hq:S (i+1+j) with
     | false=>rfl
     | true =>
      have:=h 0 (j+1) r r' (by simp) (by simpa using hj) he Gu (by omega) (by rw[show i+(j+1)=i+1+j from by omega];exact hq)
      simp[hS] at this
    simp[h1,h2]
   .simp only[cD,dx,he,ih,Iw];rw[Cu 1,List.getD_cons_succ]
def FG{S S' : Nat->Bool}:∀{tr:List TR} {i:Nat},(∀(j:Nat) r,tr[j]?=U r->r.bg=aa->S (i+j)=S' (i+j))->cy S i tr=cy S' i tr
 | [],_,_=>rfl
 | r :: tr, i, h => by
  have ih:=FG (S:=S) (S' := S') (tr:=tr) (i:=i+1) λj r' hj he=>by
   have:=h (j+1) r' (by simpa using hj) he
   rw[show i+(j+1)=i+1+j from by omega] at this;exact this
  have h0:r.bg=aa->S i=S' i:=λhe=>by simpa using h 0 r (by simp) he
  simp only[cy,ih];cases he:r.bg
  .simp
  .rw[h0 he]
def Jn{S S' : Nat->Bool}:∀{tr:List TR} {i:Nat},(∀(j:Nat) r,tr[j]?=U r->r.bg=aa->S (i+j)=aa->S' (i+j)=aa)->cy S i tr<=cy S' i tr
 | [],_,_=>bP _
 | r :: tr, i, h => by
  have ih:=Jn (S:=S) (S' := S') (tr:=tr) (i:=i+1) λj r' hj he hS=>by
   have:=h (j+1) r' (by simpa using hj) he (by rw[show i+(j+1)=i+1+j from by omega];exact hS)
   rw[show i+(j+1)=i+1+j from by omega] at this;exact this
  have h0:r.bg=aa->S i=aa->S' i=true:=λhe hS=>by simpa using h 0 r (by simp) he (by simpa using hS)
  simp only[cy];cases he:r.bg
  .simpa using ih
  .cases hS:S i
   .simp;omega
   .simp[h0 he hS];exact ih
def Wt{S:Nat->Bool}:∀{tr:List TR} {i:Nat},(∀j,j<tr.length->S (i+j)=aa)->cu S i tr=tr
 | [],_,_=>rfl
 | r :: tr, i, h => by
  have h0:S i=true:=by simpa using h 0 (by simp)
  simp only[cu,h0,cD];rw[Wt λj hj=>by
   have:=h (j+1) (by simp;omega)
   rw[show i+(j+1)=i+1+j from by omega] at this;exact this]
def dX(k:Nat):Nat->Bool:=λj=>decide (j<k)
def Fg{P:Program}{SN:List c8}:∀{l:List (AO × List Nat)} {tr:List TR} {t:List V} {s:c8},xe P SN l tr t s->l.length=tr.length
 | [],[],_,_,_=>rfl
 | [],_::_,_,_,h=>h.elim
 | (o,ms)::_,[],_,_,h=>h.elim
 | (o,ms)::l,r::tr,t,s,h=>by simp[Fg h.2]
def NI:∀{tr:List TR} {i k:Nat},k<=i->cu (dX k) i tr=[]
 | [],_,_,_=>rfl
 | r :: tr, i, k, h => by
  have:dX k i=false:=by simp[dX];omega
  simp only[cu,this,dm,cn];exact NI (by omega)
def Fh{P:Program}{SN:List c8}{o:AO}{ms:List Nat}{r:TR}:∀{l:List (AO × List Nat)} {tr:List TR} {t:List V} {s:c8} {i k:Nat},xe P SN l tr t s->l[k]?=U (o,ms)->tr[k]?=U r ->
 Pj P SN o ms (runT (cu (dX (i+k)) i tr) t) (dx (cu (dX (i+k)) i tr) s) r
 | [],_,_,_,_,_,_,h,_=>by simp at h
 | (_,_)::_,[],_,_,_,_,h,_,_=>h.elim
 | (o', ms') :: l, r' :: tr, t, s, i, k, h, hl, ht => by
  cases k with
  | zero =>
   simp at hl ht;obtain⟨rfl,rfl⟩:=hl;subst ht;rw[NI (by omega)];exact h.1
  | succ k =>
   have h1:dX (i+(k+1)) i=true:=by simp[dX]
   simp only[cu,h1,cD,runT,dx];rw[show i+(k+1)=i+1+k from by omega];exact Fh h.2 (by simpa using hl) (by simpa using ht)
def ym(o:AO):List Nat:=o.op.xs.flatMap X.slot++(match o.guard with | some (g,_)=>[g] | none=>[])
structure DI where
 dst:Option Nat
 reads:List Nat
 bg:Bool
 ld:Bool
 ms:List Nat
 mask:Nat
def e_(p:AO × List Nat)(m:Nat):DI:=⟨p.1.dst,ym p.1,p.1.op.bg,p.1.op.BM,p.2,m⟩
def Hx(b:List Nat)(o:Oper):Nat:=o.after.toList.foldl (λs e=>if Region.binds .any e then s|||2^e.on|||b.getD e.on 0 else s) 0
def CM(i:Nat)(x:DI)(j:Nat)(y:DI):Bool :=
 (match y.dst with
  | some d=>(!(x.reads.contains d)||(i != j&&(x.mask.testBit j||y.mask.testBit i)))&&(i == j||x.dst != U d)
  | none=>aa)&&(!(decide (i<j)&&x.bg&&y.bg)||y.mask.testBit i)
def A6(p:Nat->DI->Bool)(l:List DI):Nat:=(l.zipIdx.filter λ(x,j)=>x.bg&&p j x).length
def oH(l:List DI)(x:DI):Nat:=A6 (λj _=>x.mask.testBit j) l
def xJ(l:List DI)(i:Nat):Nat:=A6 (λ_ y=>!(y.mask.testBit i)) l
def Ac(l:List DI)(i:Nat):Nat:=A6 (λj _=>decide (j<i)) l
def P5(l:List DI)(i:Nat)(x:DI):Bool :=
 !x.ld||((bU (xJ l i+1 - oH l x)).all λq=>x.ms.contains (oH l x+q)||oH l x+q == Ac l i)
def xo(ops:Array Oper)(l:List (AO × List Nat))(b:List Nat):Bool :=
 let d:=lq e_ l b
 decide (l.length=ops.size)&&decide (b.length=ops.size) &&
 ((ops.toList.zip b).zipIdx.all λ((o,m),i)=>(o.after.toList.all λe=>!(Region.binds .any e)||decide (e.on<i))&&decide (m=Hx b o)) &&
 (d.zipIdx.all λ(x,i)=>(d.zipIdx.all λ(y,j)=>CM i x j y)&&P5 d i x)
def wx:List Oper->List Nat->List Nat
 | [],b=>b
 | o::os,b=>wx os (b++[Hx b o])
def th(P:Program)(ops:Array Oper)(o:Oper):Option AO :=
 match yb P o with
 | none=>af
 | some op =>
  match o.guard with
  | none=>U ⟨o.dst,op,af⟩
  | some (j, want) =>
   match (ops[j]?).bind (·.dst) with
   | some g=>U ⟨o.dst,op,U (g,want)⟩
   | none=>af
def zV(P:Program)(ops:Array Oper):List Oper->Option (List AO)
 | []=>U []
 | o::os=>(th P ops o).bind λx=>(zV P ops os).map (x::·)
def Hk(P:Program)(ops:Array Oper):Option (List (AO × List Nat)) :=
 match zV P ops ops.toList with
 | none=>af
 | some l0 =>
  let b:=wx ops.toList []
  let d:=lq e_ (l0.map λo=>(o,[])) b
  let l:=(l0.zip d).zipIdx.map λ((o,x),i)=>(o,if o.op.BM then((bU (xJ d i+1 - oH d x)).map (oH d x+·)).filter (· != Ac d i) else [])
  if xo ops l b=aa/\P.follows .mixedOrders=aa then U l else af
structure yG(ops:Array Oper)(l:List (AO × List Nat))(b:List Nat):Prop where
 size:l.length=ops.size
 back:∀(i:Nat) o,ops[i]?=U o->∀e∈o.after,Region.binds .any e=aa->e.on<i
 mask:∀(i:Nat) o,ops[i]?=U o->∀j,(b.getD i 0).testBit j=aa->∃e∈o.after,Region.binds .any e=aa/\(j=e.on\/(b.getD e.on 0).testBit j=aa)
 slot:∀(i j:Nat) (x y:AO × List Nat),l[i]?=U x->l[j]?=U y->∀d,y.1.dst=U d->d∈ym x.1->i≠j/\((b.getD i 0).testBit j=aa\/(b.getD j 0).testBit i=aa)
 dst:∀(i j:Nat) (x y:AO × List Nat),l[i]?=U x->l[j]?=U y->i≠j->∀d,y.1.dst=U d->x.1.dst≠U d
 bg:∀(i j:Nat) (x y:AO × List Nat),l[i]?=U x->l[j]?=U y->i<j->x.1.op.bg=aa->y.1.op.bg=aa->(b.getD j 0).testBit i=aa
 load:∀(i:Nat) (x:AO × List Nat),l[i]?=U x->x.1.op.BM=aa->∀m,oH (lq e_ l b) (e_ x (b.getD i 0))<=m->m<=xJ (lq e_ l b) i->m∈x.2\/m=Ac (lq e_ l b) i
def anF{b:List Nat}{o:Oper}{j:Nat}(h:(Hx b o).testBit j=aa):∃e∈o.after,Region.binds .any e=aa/\(j=e.on\/(b.getD e.on 0).testBit j=aa):=by
 have key:∀(l:List Edge) (s:Nat),(l.foldl (λs e=>if Region.binds .any e then s|||2^e.on|||b.getD e.on 0 else s) s).testBit j=aa ->
  s.testBit j=aa\/∃e∈l,Region.binds .any e=aa/\(j=e.on\/(b.getD e.on 0).testBit j=aa):=by
  intro l;induction l with
  | nil=>intro s h;exact .inl h
  | cons e l ih =>
   intro s h;rw[yL] at h
   rcases ih _ h with h1 | ⟨e',h1,h2⟩
   .split at h1
    .rename_i hb;simp only[Nat.testBit_or,mn,Nat.testBit_two_pow,ca] at h1
     rcases h1 with(h1 | h1) | h1
     .exact .inl h1
     .exact .inr ⟨e,by simp,hb,.inl h1.symm⟩
     .exact .inr ⟨e,by simp,hb,.inr h1⟩
    .exact .inl h1
   .exact .inr ⟨e',by simp[h1],h2⟩
 rcases key o.after.toList 0 h with h1 | ⟨e,h1,h2⟩
 .simp at h1
 .exact⟨e,by simpa using h1,h2⟩
variable{i:Nat}
def atF{l:List (AO × List Nat)}{b:List Nat}(hl:b.length=l.length){x:AO × List Nat}(h:l[i]?=U x):(lq e_ l b)[i]?=U (e_ x (b.getD i 0)):=by
 have aB:=(fg.1 h).1;rw[List.getElem?_zipWith,h]
 have:b[i]?=U (b.getD i 0):=by
  rw[gU,cL (by omega)];rfl
 rw[this]
variable{ops:Array Oper}
def facts{l:List (AO × List Nat)}{b:List Nat}(h:xo ops l b=aa):yG ops l b:=by
 unfold xo at h;simp only[bC,ca,ln] at h;obtain⟨⟨⟨h1,h2⟩,h3⟩,h4⟩:=h;have S9:∀(i:Nat) o,ops[i]?=U o->((o,b.getD i 0),i)∈(ops.toList.zip b).zipIdx:=λi o ho=>by
  have aB:=(kG.1 ho).1;rw[IS];rw[IP];refine⟨by simpa using ho,?_⟩;rw[gU,cL (by omega)];rfl
 have hd:∀(i:Nat) x,l[i]?=U x->(e_ x (b.getD i 0),i)∈(lq e_ l b).zipIdx:=λi x hx=>by
  rw[IS];exact atF (by omega) hx
 have pair:∀(i j:Nat) x y,l[i]?=U x->l[j]?=U y->CM i (e_ x (b.getD i 0)) j (e_ y (b.getD j 0))=true:=λi j x y hx hy=>(h4 _ (hd i x hx)).1 _ (hd j y hy)
 refine⟨h1,λi o ho e he hb=>?_,λi o ho j hj=>?_,λi j x y hx hy d zq hr=>?_,λi j x y hx hy aX d zq=>?_,λi j x y hx hy aB he1 he2=>?_,λi x hx v5 m dK mC=>?_⟩
 .have:=(h3 _ (S9 i o ho)).1 e (by simpa using he)
  simpa [hb] using this
 .have this:b.getD i 0=Hx b o:=(h3 _ (S9 i o ho)).2;rw[this] at hj;exact anF hj
 .have:=pair i j x y hx hy
  simp only[CM,e_,zq,bC,mn,tR,bne_iff_ne,A2] at this;have hc:(ym x.1).contains d=true:=by simpa using hr
  rcases this.1.1 with h | ⟨h5,h6⟩
  .rw[hc] at h;simp at h
  .exact⟨h5,h6⟩
 .have:=pair i j x y hx hy
  simp only[CM,e_,zq,bC,mn,tR,bne_iff_ne,A2] at this
  rcases this.1.2 with h | h
  .exact absurd h aX
  .exact h
 .have:=pair i j x y hx hy
  simp only[CM,e_,bC,mn,tR,he1,he2,aB,bM,Iw] at this
  rcases this.2 with h | h
  .simp at h
  .exact h
 .have:=(h4 _ (hd i x hx)).2
  simp only[P5,e_,v5,mn,tR,ln,yO,A2] at this
  rcases this with h | h
  .simp at h
  .have:=h (m - oH (lq e_ l b) (e_ x (b.getD i 0))) (by simp only[e_,v5] at dK ⊢;omega)
   simp only[e_,v5] at this dK;rw[show oH (lq e_ l b) ⟨x.1.dst,ym x.1,x.1.op.bg,aa,x.2,b.getD i 0⟩+(m - oH (lq e_ l b) ⟨x.1.dst,ym x.1,x.1.op.bg,aa,x.2,b.getD i 0⟩)=m from by omega] at this
   rcases this with h | h
   .left;simpa using h
   .exact .inr h
def Me{P:Program}{ops:Array Oper}:∀{os:List Oper} {l:List AO},zV P ops os=U l->l.length=os.length/\∀i:Nat,∀o,os[i]?=U o->∃x,l[i]?=U x/\th P ops o=U x
 | [],l,h=>by simp only[zV,aZ] at h;subst h;exact⟨rfl,λi o h=>by simp at h⟩
 | o :: os, l, h => by
  simp only[zV,iI,c7] at h;obtain⟨x,h1,l',h2,rfl⟩:=h;obtain⟨h3,h4⟩:=Me h2;refine⟨by simp[h3],λi q hq=>?_⟩;cases i with
  | zero=>simp at hq;subst hq;exact⟨x,by simp,h1⟩
  | succ i=>simp at hq;obtain⟨y,k1,k2⟩:=h4 i q hq;exact⟨y,by simpa using k1,k2⟩
def alc{l:List (AO × List Nat)}(h:Hk P ops=U l):
 ∃b,yG ops l b/\b.length=ops.size/\P.follows .mixedOrders=aa/\∀(i:Nat) o,ops[i]?=U o->∃x:AO × List Nat,l[i]?=U x/\th P ops o=U x.1:=by
 unfold Hk at h;cases h0:zV P ops ops.toList with
 | none=>rw[h0] at h;simp at h
 | some l0 =>
 rw[h0] at h;simp only at h;split at h
 case isFalse=>simp at h
 rename_i hc;simp only[aZ] at h;subst h;refine⟨_,facts hc.1,?_,hc.2,λi o ho=>?_⟩
 .have:=hc.1
  unfold xo at this;simp only[bC,ca] at this;exact this.1.1.2
 .have hlen:=(facts hc.1).size;obtain⟨h1,h2⟩:=Me h0;obtain⟨x,k1,k2⟩:=h2 i o (by simpa using ho);have aB:=(kG.1 ho).1;generalize hL:(l0.zip (lq e_ (l0.map λo=>(o,[])) (wx ops.toList [])))=z at hlen ⊢;have hz:i<z.length:=by simp at hlen;omega
  refine⟨_,by rw[vt,OY,cL hz];rfl,?_⟩
  have:z[i].1=x:=by
   have e:z[i]?=U z[i]:=cL hz;subst hL;rw[IP] at e;rw[k1] at e;exact(tY e.1).symm
  simpa [this] using k2
end Go.Am
