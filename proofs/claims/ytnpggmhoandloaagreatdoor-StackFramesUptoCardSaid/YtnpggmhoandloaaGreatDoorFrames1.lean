/-
  Part 1 of the proof of StackFramesUptoCardSaid: a logic over the model, the forms of the functions that the law reaches, and what they compute.
-/
import Derived.WalkKit
import Derived.Orders
import Derived.Below
import Derived.Laws.Append
import Derived.Laws.AppendOwn
import Derived.Laws.Cells
import Derived.Laws.CopyRow
import Derived.Laws.BytesString
import Derived.Laws.Slices
import Derived.Laws.Small
import Derived.Laws.StructEq
import Derived.ChangeKeysEq
set_option linter.unusedVariables false
set_option linter.unusedSimpArgs false
set_option linter.defProp false
set_option linter.unusedSectionVars false
set_option maxRecDepth 4000
set_option maxHeartbeats 4000000
open Option renaming some->aa,none->ag
open Bool renaming true->ab,false->ak
open List renaming replicate->ar,range->bX,getD->ij,zipWith->l8
open Eq renaming mpr->eU
open Ne renaming symm->fF
namespace Go.Am
def ah := @And.intro
def aA := @if_neg
def aE := @if_pos
def aI := @decide_eq_false
def aJ := @decide_eq_true
def aR := @List.length_map
def a9 := @Option.some.injEq
def bF := @Bool.and_eq_true
def bL := @decide_true
def bP := @List.length_append
def bS := @Nat.le_refl
def bZ := @if_false
def ch := @List.map_cons
def cm := @if_true
def cn := @decide_eq_true_eq
def cS := @List.getElem?_eq_getElem
def c7 := @decide_false
def da := @Bool.false_eq_true
def dk := @Option.map_eq_some_iff
def dB := @List.length_cons
def eK := @List.append_nil
def eM := @List.length_nil
def e9 := @List.append_assoc
def ff := @List.forall_mem_cons
def fg := @List.getElem_mem
def fh := @List.map_nil
def fm := @List.take_length
def fv := @List.getElem?_eq_some_iff
def gy := @List.map_append
def gM := @List.length_singleton
def gN := @List.nil_append
def ig := @List.cons.injEq
def il := @and_true
def iv := @List.cons_append
def iI := @Option.bind_eq_some_iff
def iK := @congrArg
def jj := @List.length_take
def jl := @List.take_succ_eq_append_getElem
def jC := @List.mem_append
def jD := @Nat.add_mul
def jW := @Int.toNat_natCast
def jX := @List.map_eq_append_iff
def jY := @Nat.zero_add
def ke := @List.length_eq_zero_iff
def lC := @Array.getElem?_eq_some_iff
def lD := @Bool.true_and
def lE := @List.flatten_cons
def lF := @List.mem_cons
def l7 := @List.all_eq_true
def mH := @Array.getElem?_eq_getElem
def mJ := @List.drop_eq_getElem_cons
def nh := @Bool.or_eq_true
def n6 := @List.singleton_append
def n7 := @List.sum_cons
def pq := @true_and
def py := @Prod.mk.injEq
def qh := @Bool.true_eq_false
def qj := @List.mem_singleton
def qW := @Array.getD_eq_getD_getElem?
def qX := @List.flatMap_cons
def rE := @ne_eq
def rP := @List.range_succ
def rQ := @List.take_append_drop
def sO := @Int.natCast_zero
def sP := @List.getElem?_eq_none
def sQ := @List.mem_of_getElem?
def sR := @List.sum_nil
def sS := @Nat.mul_le_mul_right
def sV := @decide_eq_decide
def tS := @List.eq_nil_of_length_eq_zero
def tT := @List.getElem?_append_left
def tU := @List.getElem?_map
def tV := @Nat.mul_one
def tW := @Option.map_some
def va := @BitVec.getLsbD_and
def vb := @Bool.not_eq_true'
def ve := @List.all_cons
def vf := @List.flatten_append
def vg := @List.getElem?_drop
def vh := @List.mem_map
def vj := @List.range_eq_range'
def vk := @Nat.lt_of_lt_of_le
def vl := @Option.some.inj
def wH := @Bool.and_true
def wI := @Function.comp_def
def wK := @Int.eq_ofNat_of_zero_le
def wL := @List.drop_drop
def wM := @List.take_succ_cons
def wO := @Nat.add_zero
def wP := @Nat.lt_or_ge
def wQ := @Option.bind_some
def yd := @Bool.decide_and
def yh := @Nat.le_trans
def yi := @Nat.min_eq_left
def yj := @Nat.one_mul
def yz := @dif_pos
def zS := @List.flatMap_append
def zT := @List.foldl_append
def zU := @List.foldl_cons
def zV := @List.getElem?_take_of_lt
def zW := @List.mem_range
def zX := @List.replicate_succ
def zY := @List.take_of_length_le
def zZ := @Nat.lt_trichotomy
def Ao := @decide_eq_false_iff_not
def Bf := @not_true_eq_false
def BL := @Array.getElem?_setIfInBounds_ne
def BM := @Array.length_toList
def BN := @Bool.or_eq_false_iff
def BR := @List.any_eq_true
def BS := @List.drop_length
def BT := @List.getElem?_append_right
def BU := @List.mem_of_mem_take
def BX := @Option.getD_some
def BY := @Option.isNone_none
def B6 := @beq_iff_eq
def Cg := @false_and
def C9 := @not_false_eq_true
def DD := @Array.ext'
def DF := @BitVec.getLsbD_of_ge
def DG := @Bool.and_eq_false_iff
def DH := @Bool.eq_iff_iff
def DJ := @List.drop_succ_cons
def DK := @List.find?_append
def DL := @List.getElem?_set_ne
def DM := @List.map_map
def DN := @List.range'_succ
def DO := @Nat.add_comm
def DQ := @Option.isNone_iff_eq_none
def DR := @Option.isNone_some
def DS := @Option.isSome_none
def Fx := @or_false
def Gc := @Bool.false_or
def Gi := @List.all_eq_false
def Gj := @List.filter_cons
def Gk := @List.find?_eq_some_iff_append
def Gl := @List.getElem_cons_succ
def Gm := @List.getLast?_concat
def Gn := @List.map_singleton
def Gp := @List.not_mem_nil
def Gq := @Nat.add_assoc
def Gs := @Nat.le_zero
def Gt := @Nat.succ_mul
def Gv := @Option.isSome_some
def JJ := @Bool.and_self
def JN := @Int.le_refl
def JO := @Int.ofNat_eq_natCast
def JR := @List.all_append
def JS := @List.dropLast_concat
def JT := @List.drop_eq_nil_of_le
def JU := @List.drop_take
def JV := @List.drop_zero
def JW := @List.filterMap_cons
def JX := @List.filter_append
def JY := @List.find?_eq_none
def JZ := @List.getElem?_cons_zero
def J1 := @List.getElem?_range
def J2 := @List.getElem?_take
def J3 := @List.getElem?_zip_eq_some
def J4 := @List.getLast?_nil
def J5 := @List.length_drop
def J6 := @List.length_pos_iff
def J7 := @List.mem_zipIdx_iff_getElem?
def J9 := @Nat.eq_zero_or_pos
def J_ := @Nat.le_of_lt
def Ka := @Nat.zero_le
def Kf := @UInt8.toNat_inj
def Kk := @and_assoc
def NX := @of_decide_eq_true
def PT := @Array.getElem?_toList
def PU := @Array.mem_of_getElem?
def PV := @Array.toList_setIfInBounds
def PW := @BitVec.getLsbD_or
def PX := @BitVec.toNat_shiftLeft
def PY := @Bool.false_and
def P4 := @List.all_nil
def P5 := @List.count_cons_self
def P6 := @List.count_eq_zero
def P7 := @List.dropLast_subset
def P8 := @List.drop_of_length_le
def P9 := @List.eq_nil_or_concat
def P_ := @List.ext_getElem
def P' := @List.ext_getElem?
def Qa := @List.flatMap_nil
def Qb := @List.flatten_nil
def Qc := @List.getElem?_set_self
def Qd := @List.getElem?_zipIdx
def Qe := @List.getElem_map
def Qf := @List.length_filter_le
def Qg := @List.map_take
def Qh := @List.mem_cons_of_mem
def Qi := @List.mem_filter
def Qj := @List.mem_filterMap
def Qk := @List.mem_flatMap
def Ql := @List.mem_of_find?_eq_some
def Qm := @List.nodup_cons
def Qn := @List.range'_append
def Qo := @List.size_toArray
def Qp := @Nat.lt_succ_self
def Qq := @Nat.mod_eq_of_lt
def Qr := @Nat.mul_le_mul
def Qs := @Nat.shiftLeft_eq
def Qu := @Option.isSome_iff_exists
def Zo := @Array.getElem?_extract
def Zp := @Array.getElem?_setIfInBounds
def Zq := @BitVec.getLsbD_shiftLeft
def Zr := @BitVec.getLsbD_ushiftRight
def Zv := @List.append_inj_right'
def Zw := @List.dropLast_append_of_ne_nil
def Zx := @List.drop_append_of_le_length
def Zy := @List.filter_eq_nil_iff
def Zz := @List.getElem?_replicate
def ZA := @List.getElem?_toArray
def ZB := @List.mem_iff_getElem?
def ZC := @List.perm_append_singleton
def ZD := @List.set_getElem_self
def ZE := @List.takeWhile_sublist
def ZF := @List.take_append_of_le_length
def ZG := @Nat.add_sub_cancel_left
def ZH := @Nat.lt_succ_iff_lt_or_eq
def ZI := @Nat.testBit_two_pow_sub_one
end Go.Am
namespace Go.Am
inductive Pl where
 | aD (i:Nat)
 | out (b:Nat)
 | kB (b:Nat)
inductive Tk where
 | no
 | ba
 | tk (t:Nat)
inductive V where
 | any
 | bool (b:Bool)
 | int (k:IntKind) (n:Int)
 | aF (s:List UInt8)
 | jd
 | ptr (p:Pl) (off:Nat)
 | elt (cs:List V) (off:Nat)
 | sl (t:Tk) (k:Nat) (l:List (List V))
 | agg (cs:List V)
 | bt (cs:List V)
 | fn (f:Fn) (first cap:List V)
 | raw (v:Value)
inductive fw where
 | const
 | mP
 | jb (i:Nat)
 | qI
 | gU (t c:Nat)
def fw.iJ:fw->Nat->Prop
 | .const,_=>True
 | .gU _ c,o=>o<c
 | _,_=>False
structure Env where
 w:World
 bf:Nat->fw
 aD:Nat->Option Nat
 aP:Nat->Option Nat
def Env.nl(E:Env):Env:={E with aD:=λ_=>ag}
@[simp] theorem Env.VU(E:Env):E.nl.w=E.w:=rfl
@[simp] theorem Env.VT(E:Env):E.nl.bf=E.bf:=rfl
@[simp] theorem Env.awz(E:Env):E.nl.aP=E.aP:=rfl
@[simp] theorem Env.awy(E:Env)(i:Nat):E.nl.aD i=none:=rfl
@[simp] theorem Env.aom(E:Env):E.nl.nl=E.nl:=rfl
def vq(E:Env)(k n:Nat)(a:Option Addr)(cap:Nat):Tk->Prop
 | .no=>True
 | .ba=>cap=n
 | .tk t=>∃m,E.aP t=aa m/\n<=m/\(n=m->cap=n\/∃b cs e,a=aa ⟨b,0,ag⟩/\E.bf b = .gU t (n*k)/\E.w.heap[b]?=aa (.cells cs e (0,0))/\cs.size=cap*k)
mutual
def R:Env->V->Value->Prop
 | _,.any,_=>True
 | _,.bool b,v=>v = .bool b
 | _,.int k n,v=>v = .int k n
 | _,.aF s,v=>v = .string ⟨s.toArray⟩
 | _,.jd,v=>v = .pointer ag
 | E,.ptr (.aD i) off,v=>∃b,E.aD i=aa b/\v = .pointer (aa ⟨b,off,ag⟩)
 | _,.ptr (.out b) off,v=>v = .pointer (aa ⟨b,off,ag⟩)
 | _,.ptr (.kB b) off,v=>v = .pointer (aa ⟨b,off,ag⟩)
 | E,.elt cs off,v=>∃b o,v = .pointer (aa ⟨b,o+off,ag⟩)/\eG E.nl cs b o
 | E,.sl t k l,v=>∃a cap,v = .slice a l.length cap/\l.length<=cap/\(l=[]\/∃b o,a=aa ⟨b,o,ag⟩/\gq E.nl k l b o)/\vq E k l.length a cap t
 | E,.agg cs,v=>∃vs,v = .agg vs/\RL E cs vs.toList
 | E,.bt cs,v=>∃vs,v = .tuple vs/\RL E cs vs.toList
 | E,.fn f first cap,v=>∃fs cs,v = .func f fs cs/\RL E first fs.toList/\RL E cap cs.toList
 | _,.raw u,v=>v=u
def eG:Env->List V->Nat->Nat->Prop
 | _,[],_,_=>True
 | E,x::xs,b,o=>(∃c,E.w.cell? ⟨b,o,ag⟩=aa c/\(E.bf b).iJ o/\c.oneCell' = ab/\R E x c)/\eG E xs b (o+1)
def gq:Env->Nat->List (List V)->Nat->Nat->Prop
 | _,_,[],_,_=>True
 | E,k,x::xs,b,o=>x.length=k/\eG E x b o/\gq E k xs b (o+k)
def RL:Env->List V->List Value->Prop
 | _,[],[]=>True
 | E,x::xs,v::vs=>R E x v/\RL E xs vs
 | _,_,_=>False
end
structure Env.le(E E' : Env):Prop where
 cell:∀b o c,(E.bf b).iJ o->E.w.cell? ⟨b,o,ag⟩=aa c->(E'.bf b).iJ o/\E'.w.cell? ⟨b,o,ag⟩=aa c
 aD:∀i b,E.aD i=aa b->E'.aD i=aa b
 tok:∀t n,E.aP t=aa n->∃n',E'.aP t=aa n' /\ n<=n' /\ (n' = n->∀b c,E.bf b = .gU t c ->
  E'.bf b = .gU t c/\∀cs e,E.w.heap[b]?=aa (.cells cs e (0,0))->∃cs',E'.w.heap[b]?=aa (.cells cs' e (0,0))/\cs'.size=cs.size)
variable{E E':Env}
def Env.le.nl(h:E.le E'):E.nl.le E'.nl:=⟨h.cell,λ_ _ h=>by simp at h,h.tok⟩
def Env.le.refl(E:Env):E.le E:=⟨λ_ _ _ h h' => ⟨h,h'⟩,λ_ _ h=>h,λ_ n h=>⟨n,h,bS _,λ_ _ _ hr=>⟨hr,λcs _ hc=>⟨cs,hc,rfl⟩⟩⟩⟩
def Env.le.trans{F G'':Env}(h:E.le F)(k:F.le G''):E.le G'':=by
 refine⟨λb o c hc hv=>?_,λi b hb=>k.aD i b (h.aD i b hb),λt n hn=>?_⟩
 .obtain⟨h1,h2⟩:=h.cell b o c hc hv;exact k.cell b o c h1 h2
 .obtain⟨n',h1,h2,h3⟩:=h.tok t n hn;obtain⟨VJ,k1,k2,k3⟩:=k.tok t n' h1;refine⟨VJ,k1,yh h2 k2,λhe b c hr=>?_⟩;have e1:n' = n:=by omega
  have e2:VJ = n' := by omega
  obtain⟨r1,r2⟩:=h3 e1 b c hr;obtain⟨s1,s2⟩:=k3 e2 b c r1;refine⟨s1,λcs e bV=>?_⟩;obtain⟨cs',q1,q2⟩:=r2 cs e bV;obtain⟨adb,q3,q4⟩:=s2 cs' e q1;exact⟨adb,q3,q4.trans q2⟩
variable{a:Option Addr}{cap k:Nat}
def vq.mono(h:E.le E'){n:Nat}{t:Tk}(ht:vq E k n a cap t):vq E' k n a cap t:=by
 cases t with
 | no=>trivial
 | ba=>exact ht
 | tk t =>
  obtain⟨m,h1,h2,h3⟩:=ht;obtain⟨m',k1,k2,k3⟩:=h.tok t m h1;refine⟨m',k1,yh h2 k2,λhe=>?_⟩;have e1:n=m:=by omega
  have e2:m' = m:=by omega
  rcases h3 e1 with h4 | ⟨b,cs,e,ha,hr,hc,hs⟩
  .exact .inl h4
  .obtain⟨r1,r2⟩:=k3 e2 b _ hr;obtain⟨cs',r3,r4⟩:=r2 cs e hc;exact .inr ⟨b,cs',e,ha,r1,r3,r4.trans hs⟩
mutual
def R.mono:∀(x:V) {E E' : Env} (_:E.le E') {v:Value},R E x v->R E' x v
 | .any,_,_,_,_,_=>by simp only[R]
 | .bool _,_,_,_,_,hr=>by simp only[R] at hr ⊢;exact hr
 | .int _ _,_,_,_,_,hr=>by simp only[R] at hr ⊢;exact hr
 | .aF _,_,_,_,_,hr=>by simp only[R] at hr ⊢;exact hr
 | .jd,_,_,_,_,hr=>by simp only[R] at hr ⊢;exact hr
 | .ptr (.aD i) _, _, _, h, _, hr => by
  simp only[R] at hr ⊢;obtain⟨b,h1,h2⟩:=hr;exact⟨b,h.aD i b h1,h2⟩
 | .ptr (.out _) _,_,_,_,_,hr=>by simp only[R] at hr ⊢;exact hr
 | .ptr (.kB _) _,_,_,_,_,hr=>by simp only[R] at hr ⊢;exact hr
 | .elt cs _, _, _, h, _, hr => by
  simp only[R] at hr ⊢;obtain⟨b,o,h1,h2⟩:=hr;exact⟨b,o,h1,eG.mono cs h.nl h2⟩
 | .sl t k l, _, _, h, _, hr => by
  simp only[R] at hr ⊢;obtain⟨a,cap,h1,h2,h3,h4⟩:=hr;refine⟨a,cap,h1,h2,?_,h4.mono h⟩
  rcases h3 with h3 | ⟨b,o,h3,h5⟩
  .exact .inl h3
  .exact .inr ⟨b,o,h3,gq.mono l h.nl h5⟩
 | .agg cs, _, _, h, _, hr => by
  simp only[R] at hr ⊢;obtain⟨vs,h1,h2⟩:=hr;exact⟨vs,h1,RL.mono cs h h2⟩
 | .bt cs, _, _, h, _, hr => by
  simp only[R] at hr ⊢;obtain⟨vs,h1,h2⟩:=hr;exact⟨vs,h1,RL.mono cs h h2⟩
 | .fn _ first cap, _, _, h, _, hr => by
  simp only[R] at hr ⊢;obtain⟨fs,cs,h1,h2,h3⟩:=hr;exact⟨fs,cs,h1,RL.mono first h h2,RL.mono cap h h3⟩
 | .raw _,_,_,_,_,hr=>by simp only[R] at hr ⊢;exact hr
def eG.mono:∀(l:List V) {E E' : Env} (_:E.le E') {b o:Nat},eG E l b o->eG E' l b o
 | [],_,_,_,_,_,_=>by simp only[eG]
 | x :: xs, _, _, h, b, o, hr => by
  simp only[eG] at hr ⊢;obtain⟨⟨c,h1,h2,h5,h3⟩,h4⟩:=hr;obtain⟨k1,k2⟩:=h.cell b o c h2 h1;exact⟨⟨c,k2,k1,h5,R.mono x h h3⟩,eG.mono xs h h4⟩
def gq.mono:∀(l:List (List V)) {E E' : Env} (_:E.le E') {k b o:Nat},gq E k l b o->gq E' k l b o
 | [],_,_,_,_,_,_,_=>by simp only[gq]
 | x :: xs, _, _, h, _, _, _, hr => by
  simp only[gq] at hr ⊢;obtain⟨h1,h2,h3⟩:=hr;exact⟨h1,eG.mono x h h2,gq.mono xs h h3⟩
def RL.mono:∀(l:List V) {E E' : Env} (_:E.le E') {vs:List Value},RL E l vs->RL E' l vs
 | [],_,_,_,[],_=>by simp only[RL]
 | [],_,_,_,_::_,hr=>by simp only[RL] at hr
 | _::_,_,_,_,[],hr=>by simp only[RL] at hr
 | x :: xs, _, _, h, v :: vs, hr => by
  simp only[RL] at hr ⊢;exact⟨R.mono x h hr.1,RL.mono xs h hr.2⟩
end
structure af where
 box:Nat->Option (List V)
 aP:Nat->Option Nat
 b9:Nat->Option (List V)
structure St where
 t:List V
 aD:List (List V)
 out:af
def jV(E:Env)(b:Nat)(cs:List V):Prop :=
 ∃c e,E.w.heap[b]?=aa (.cells c e (0,0))/\cs.length<=c.size/\∀(j:Nat) x,cs[j]?=aa x->∃v,c[j]?=aa v/\R E x v
structure Env.ok(E:Env)(D:af):Prop where
 box:∀b cs,D.box b=aa cs->E.bf b = .qI/\jV E.nl b cs
 aP:∀t n,D.aP t=aa n->E.aP t=aa n
 fresh:∀b,E.w.heap.size<=b->E.bf b = .const
 nt:∃N,∀t,N<=t->E.aP t=ag
 b9:∀b cs,D.b9 b=aa cs->eG E.nl cs b 0
structure Env.dh(E:Env)(ls:List (List V)):Prop where
 box:∀i cs,ls[i]?=aa cs->∃b,E.aD i=aa b/\E.bf b = .jb i/\jV E b cs
 none:∀i,ls.length<=i->E.aD i=ag
def ajx(w:World)(c:Array Value)(t:TypeId)(a:Addr):(w.alloc (.cells c t)).frozen? a=w.frozen? a:=by
 by_cases h:a.block=w.heap.size
 .have e1:(w.alloc (.cells c t)).heap[a.block]?=aa (.cells c t):=by rw[h];exact heap_alloc_new w _
  have e2:w.heap[a.block]?=none:=by rw[h];simp
  simp[World.frozen?,e1,e2]
 .by_cases h2:a.block<w.heap.size
  .simp only[World.frozen?,heap_alloc_old w (.cells c t) h2]
  .have e2:w.heap[a.block]?=none:=by simp;omega
   have e1:(w.alloc (.cells c t)).heap[a.block]?=none:=by simp;omega
   simp only[World.frozen?,e1,e2]
variable{b:Nat}{c new:Array Value}{e:TypeId}{w:World}
def Ef(hb:w.heap[b]?=aa (.cells c e (0,0)))(a:Addr):(w.setRow b new).frozen? a=w.frozen? a:=by
 by_cases h:a.block=b
 .have e1:=setRow_heap w b c new e _ hb;rw[<-h] at hb e1;simp only[World.frozen?,h] at hb e1 ⊢;simp only[e1,hb]
 .simp only[World.frozen?,setRow_other w b a.block new h]
structure Fr(E E' : Env):Prop where
 os:E'.w.os=E.w.os
 output:E'.w.output=E.w.output
 tape:E'.w.tape=E.w.tape
 size:E.w.heap.size<=E'.w.heap.size
 g_:∀a,E'.w.frozen? a=E.w.frozen? a
 cell:∀b o c,(E.bf b).iJ o->E.w.cell? ⟨b,o,ag⟩=aa c->(E'.bf b).iJ o/\E'.w.cell? ⟨b,o,ag⟩=aa c
 tok:∀t n,E.aP t=aa n->∃n',E'.aP t=aa n' /\ n<=n' /\ (n' = n->∀b c,E.bf b = .gU t c ->
  E'.bf b = .gU t c/\∀cs e,E.w.heap[b]?=aa (.cells cs e (0,0))->∃cs',E'.w.heap[b]?=aa (.cells cs' e (0,0))/\cs'.size=cs.size)
 same:∀b,b<E.w.heap.size->E.bf b = .const\/E.bf b = .mP->E'.w.heap[b]?=E.w.heap[b]?/\E'.bf b=E.bf b
 D0:∀b,b<E.w.heap.size->E'.bf b = .qI->E.bf b = .qI\/∃j,E.bf b = .jb j
 D1:∀b t c,b<E.w.heap.size->E'.bf b = .gU t c->∃c0,E.bf b = .gU t c0
 B4:∀b i,b<E.w.heap.size->E'.bf b = .jb i->∃j,E.bf b = .jb j
 shape:∀(b:Nat) (c:Array Value) (e:TypeId),E.w.heap[b]?=aa (.cells c e (0,0))->∃c' : Array Value,E'.w.heap[b]?=aa (.cells c' e (0,0))/\c'.size=c.size
def Fr.le(h:Fr E E')(hl:∀i b,E.aD i=aa b->E'.aD i=aa b):E.le E' := ⟨h.cell,hl,h.tok⟩
def Fr.nl(h:Fr E E'):E.nl.le E'.nl:=⟨h.cell,λ_ _ h=>by simp at h,h.tok⟩
def Fr.refl(E:Env):Fr E E :=
 ⟨rfl,rfl,rfl,bS _,λ_=>rfl,(Env.le.refl E).cell,(Env.le.refl E).tok,λ_ _ _=>⟨rfl,rfl⟩,λ_ _ h=>.inl h,λ_ _ c _ h=>⟨c,h⟩,λ_ i _ h=>⟨i,h⟩,λ_ c _ h=>⟨c,h,rfl⟩⟩
def Fr.trans{F G'':Env}(h:Fr E F)(k:Fr F G''):Fr E G'':=by
 refine⟨k.os.trans h.os,k.output.trans h.output,k.tape.trans h.tape,yh h.size k.size,λa=>(k.g_ a).trans (h.g_ a),?_,?_,?_,?_,?_,?_,?_⟩
 .intro b o c hc hv;obtain⟨h1,h2⟩:=h.cell b o c hc hv;exact k.cell b o c h1 h2
 .have h' : Env.le {E with aD:=λ_=>ag} {F with aD:=λ_=>ag}:=⟨h.cell,λ_ _ h=>h,h.tok⟩;have k' : Env.le {F with aD:=λ_=>ag} {G'' with aD:=λ_=>ag}:=⟨k.cell,λ_ _ h=>h,k.tok⟩;exact(h'.trans k').tok
 .intro b hb hr;obtain⟨h1,h2⟩:=h.same b hb hr;obtain⟨k1,k2⟩:=k.same b (vk hb h.size) (by rw[h2];exact hr);exact⟨k1.trans h1,k2.trans h2⟩
 .intro b hb hr
  rcases k.D0 b (vk hb h.size) hr with h1 | ⟨j,hj⟩
  .exact h.D0 b hb h1
  .exact .inr (h.B4 b j hb hj)
 .intro b t c hb hr;obtain⟨c0,h0⟩:=k.D1 b t c (vk hb h.size) hr;exact h.D1 b t c0 hb h0
 .intro b i hb hr;obtain⟨j,hj⟩:=k.B4 b i (vk hb h.size) hr;exact h.B4 b j hb hj
 .intro b c e hb;obtain⟨c1,h1,h2⟩:=h.shape b c e hb;obtain⟨c2,k1,k2⟩:=k.shape b c1 e h1;exact⟨c2,k1,k2.trans h2⟩
structure bH(E:Env)(st:St)(a:Act):Prop where
 ok:E.ok st.out
 dh:E.dh st.aD
 defers:a.defers=[]
 slot:RL E st.t a.tmps.toList
def jg(P:Program)(c:Code)(Q:Exit->St->Prop)(st:St):Prop :=
 ∀E a,bH E st a->c.wp P (λe a' w' => ∃E' aM,E'.w=w' /\ bH E' aM a' /\ Fr E E' /\ Q e aM) a E.w
def P1(P:Program)(f:FuncId):Prop:=∀args w,(callFunc f args).run P w = .ok (.enter f args) w
def cz(P:Program)(f:FuncId)(args:List V)(D:af)(R' : V->af->Prop):Prop :=
 P1 P f/\∀(E:Env) (vs:Array Value),(∀i,E.aD i=ag)->E.ok D->RL E args vs.toList ->
  Calls P f vs E.w λe w' => ∃v x E' σ',e = .returned x/\E'.w=w' /\ (∀i,E'.aD i=ag)/\E'.ok σ' /\ R E' v x/\Fr E E' /\ R' v σ'
variable{P:Program}{f:FuncId}{D:af}
def cz.mono{args:List V}{QA QB:V->af->Prop}(h:cz P f args D QA)
 (hr:∀v σ',QA v σ' -> QB v σ'):cz P f args D QB :=
 ⟨h.1,λE vs h1 h2 h3=>(h.2 E vs h1 h2 h3).mono λ_ _ ⟨v,x,E',σ',a,b,c,d,e,f,g⟩=>⟨v,x,E',σ',a,b,c,d,e,f,hr _ _ g⟩⟩
variable{Q:Exit->St->Prop}{st:St}
def Om{c:Code}{Q':Exit->St->Prop}(h:jg P c Q st)(hq:∀e st,Q e st->Q' e st):jg P c Q' st :=
 λE a hs=>wp_mono (h E a hs) λ_ _ _ ⟨E',aM,h1,h2,h3,h4⟩=>⟨E',aM,h1,h2,h3,hq _ _ h4⟩
def ZN(P:Program)(c:Code)(Q:Exit->St->Prop):Exit->St->Prop
 | .normal,st=>jg P c Q st
 | e,st=>Q e st
def arj{x y:Code}(h:jg P x (ZN P y Q) st):jg P (.seq x y) Q st:=by
 intro E a hs;refine wp_seq (wp_mono (h E a hs) ?_);rintro e a' w' ⟨E',aM,rfl,h2,h3,h4⟩;cases e with
 | normal=>exact wp_mono (h4 E' a' h2) λ_ _ _ ⟨ni,FU,k1,k2,k3,k4⟩=>⟨ni,FU,k1,k2,h3.trans k3,k4⟩
 | exit id=>exact⟨E',aM,rfl,h2,h3,h4⟩
 | goto l=>exact⟨E',aM,rfl,h2,h3,h4⟩
 | ret=>exact⟨E',aM,rfl,h2,h3,h4⟩
 | panic c=>exact⟨E',aM,rfl,h2,h3,h4⟩
 | outgrown=>exact⟨E',aM,rfl,h2,h3,h4⟩
def ark(h:Q .normal st):jg P .skip Q st :=
 λE _ hs=>wp_skip ⟨E,st,rfl,hs,Fr.refl E,h⟩
def arc{id:Nat}(h:Q (.exit id) st):jg P (.exit id) Q st :=
 λE _ hs=>wp_exit ⟨E,st,rfl,hs,Fr.refl E,h⟩
def arh(h:Q .ret st):jg P .ret Q st :=
 λE _ hs=>wp_ret ⟨E,st,rfl,hs,Fr.refl E,h⟩
def ard{l:Nat}(h:Q .normal st):jg P (.label l) Q st :=
 λE _ hs=>wp_label ⟨E,st,rfl,hs,Fr.refl E,h⟩
def sN(id:Nat)(Q:Exit->St->Prop):Exit->St->Prop
 | .exit AV,st=>if AV = id then Q .normal st else Q (.exit AV) st
 | e,st=>Q e st
def arb{c:Code}{id:Nat}(h:jg P c (sN id Q) st):jg P (.block id c) Q st:=by
 intro E a hs;refine wp_block (wp_mono (h E a hs) ?_);rintro e a' w' ⟨E',aM,rfl,h2,h3,h4⟩;cases e with
 | exit AV =>
  simp only[sN] at h4;simp only[Exit.inBlock];split
  .rename_i h5;rw[aE h5] at h4;exact⟨E',aM,rfl,h2,h3,h4⟩
  .rename_i h5;rw[aA h5] at h4;exact⟨E',aM,rfl,h2,h3,h4⟩
 | normal=>exact⟨E',aM,rfl,h2,h3,h4⟩
 | goto l=>exact⟨E',aM,rfl,h2,h3,h4⟩
 | ret=>exact⟨E',aM,rfl,h2,h3,h4⟩
 | panic c=>exact⟨E',aM,rfl,h2,h3,h4⟩
 | outgrown=>exact⟨E',aM,rfl,h2,h3,h4⟩
def Gz{E:Env}:∀{l:List V} {vs:List Value},RL E l vs->∀(n:Nat) (u:Value),R E (l.getD n .any) (vs.getD n u)
 | [],[],_,n,u=>by simp[R]
 | [],_::_,h,_,_=>by simp[RL] at h
 | _::_,[],h,_,_=>by simp[RL] at h
 | x :: xs, v :: vs, h, n, u => by
  simp only[RL] at h;cases n with
  | zero=>simpa using h.1
  | succ n=>simpa using Gz h.2 n u
def gh{E:Env}:∀{l:List V} {vs:List Value},RL E l vs->l.length=vs.length
 | [],[],_=>rfl
 | [],_::_,h=>by simp[RL] at h
 | _::_,[],h=>by simp[RL] at h
 | x :: xs, v :: vs, h => by
  simp only[RL] at h;simp[gh h.2]
def rT{E:Env}:∀{l:List V} {vs:List Value},RL E l vs->∀(n:Nat) (x:V),l[n]?=aa x->∃v,vs[n]?=aa v/\R E x v
 | [],[],_,n,x,hx=>by simp at hx
 | [],_::_,h,_,_,_=>by simp[RL] at h
 | _::_,[],h,_,_,_=>by simp[RL] at h
 | x :: xs, v :: vs, h, n, y, hy => by
  simp only[RL] at h;cases n with
  | zero=>simp at hy;subst hy;exact⟨v,by simp,h.1⟩
  | succ n=>simp at hy;obtain⟨u,h1,h2⟩:=rT h.2 n y hy;exact⟨u,by simpa using h1,h2⟩
def DT{E:Env}:∀{l:List V} {vs:List Value},l.length=vs.length->(∀(n:Nat) x v,l[n]?=aa x->vs[n]?=aa v->R E x v)->RL E l vs
 | [],[],_,_=>by simp[RL]
 | [],_::_,h,_=>by simp at h
 | _::_,[],h,_=>by simp at h
 | x :: xs, v :: vs, h, hx => by
  simp only[RL];exact⟨hx 0 x v (by simp) (by simp),DT (by simpa using h) λn y u h1 h2=>hx (n+1) y u (by simpa using h1) (by simpa using h2)⟩
def GA{E:Env}:∀{l:List V} {vs:List Value},RL E l vs->∀(n:Nat) {x:V} {v:Value},R E x v->RL E (l.set n x) (vs.set n v)
 | [],[],_,_,_,_,_=>by simp[RL]
 | [],_::_,h,_,_,_,_=>by simp[RL] at h
 | _::_,[],h,_,_,_,_=>by simp[RL] at h
 | x :: xs, v :: vs, h, n, y, u, hy => by
  simp only[RL] at h;cases n with
  | zero=>simp only[List.set,RL];exact⟨hy,h.2⟩
  | succ n=>simp only[List.set,RL];exact⟨h.1,GA h.2 n hy⟩
def vn{E:Env}:∀{l:List V} {vs:List Value} {m:List V} {us:List Value},RL E l vs->RL E m us->RL E (l++m) (vs++us)
 | [],[],_,_,_,h=>by simpa using h
 | [],_::_,_,_,h,_=>by simp[RL] at h
 | _::_,[],_,_,h,_=>by simp[RL] at h
 | x :: xs, v :: vs, _, _, h, k => by
  simp only[RL,iv] at h ⊢;exact⟨h.1,vn h.2 k⟩
def Qx(vs:List Value):RL E (ar vs.length V.any) vs:=by
 induction vs with
 | nil=>simp[RL]
 | cons v vs ih=>simp only[dB,zX,RL];exact⟨by simp[R],ih⟩
def St.put(st:St)(d:Option Nat)(v:V):St :=
 match d with
 | some n=>⟨st.t.set n v,st.aD,st.out⟩
 | none=>st
variable{v:V}
def bH.put{a:Act}(h:bH E st a){x:Value}(hv:R E v x)(d:Option Nat):bH E (st.put d v) (a.put d x):=by
 cases d with
 | none=>exact h
 | some n=>exact⟨h.ok,h.dh,h.defers,by simpa [St.put,Act.put] using GA h.slot n hv⟩
def aK:Nat:=268435456
inductive X where
 | s (n:Nat)
 | c (v:V)
inductive OQ where
 | nil
 | len
 | idx (k:Nat)
 | kV (k:Nat) (lo hi mx:Bool)
 | app (k:Nat)
 | mk (z:List V)
 | my (k:Nat)
 | new (k:Nat)
 | min
 | max
 | Ja (m k:Nat) (lo hi:Bool)
 | g_ (k:Nat) (lo hi:Bool)
 | KQ
 | nj
 | Kn
 | B' (k:Nat)
 | KH
 | ML
 | H8 (m:Nat)
 | aG
inductive aO where
 | mv (x:X)
 | pick (c a b:X)
 | alloc (z:List V)
 | box (n:Nat) (x:X)
 | vB (n:Nat) (x:X)
 | build (z:List V) (ps:List (Nat × Nat × X))
 | jn (k:Nat) (xs:List X)
 | load (agg:Bool) (n:Nat) (x:X)
 | store (n:Nat) (a x:X)
 | wh (x:X)
 | eW (op:BinOp) (x y:X)
 | pA (op:BinOp) (x y:X)
 | vz (neg:Bool) (x y:X)
 | cat (x y:X)
 | kA (neg:Bool) (ks:List Nat) (x y:X)
 | r6 (neg:Bool) (x y:X)
 | not (x:X)
 | wc (x:X)
 | we (x:X)
 | pH (off:Nat) (x:X)
 | vO (agg:Bool) (off n:Nat) (x:X)
 | tA (k:Nat) (x i:X)
 | tB (x i:X)
 | sr (m k:Nat) (x i:X)
 | call (f:FuncId) (xs:List X)
 | iX (x:X) (xs:List X)
 | app (k:Nat) (s x:X)
 | nj (s x:X)
 | kV (k:Nat) (x:X) (lo hi mx:Option X)
 | zE (x:X) (lo hi:Option X)
 | ext (x:X) (i:Nat)
 | ko (f:Fn) (first cap:List X)
 | qt (k:IntKind) (x:X)
 | uc (x:X)
 | qm (z:List V)
 | gO (n:Nat) (x:X)
 | own (q:OQ) (xs:List X)
structure AO where
 dst:Option Nat
 op:aO
 guard:Option (Nat × Bool)
def ev(st:St):X->V
 | .s n=>st.t.getD n .any
 | .c v=>v
def di(st:St):List X->List V
 | []=>[]
 | x::xs=>ev st x::di st xs
def V.wd:V->Option Nat
 | .agg cs=>aa cs.length
 | .any=>ag
 | .bt _=>ag
 | .raw u=>if u.oneCell' then aa 1 else ag
 | _=>aa 1
def V.cells:V->List V
 | .agg cs=>cs
 | v=>[v]
def V.one:V->Bool
 | .bool _ | .int _ _ | .aF _ | .jd | .ptr _ _ | .elt _ _ | .sl _ _ _ | .fn _ _ _=>ab
 | .raw u=>u.oneCell'
 | _=>ak
def cL:List V->Bool
 | []=>ab
 | x::xs=>x.one&&cL xs
mutual
def V.cY:V->Bool
 | .ptr (.aD _) _=>ak
 | .agg cs=>bO cs
 | .bt cs=>bO cs
 | .fn _ first cap=>bO first&&bO cap
 | _=>ab
def bO:List V->Bool
 | []=>ab
 | x::xs=>x.cY&&bO xs
end
mutual
def V.erase:V->V
 | .sl _ k l=>.sl .no k l
 | .agg cs=>.agg (aX cs)
 | .bt cs=>.bt (aX cs)
 | v=>v
def aX:List V->List V
 | []=>[]
 | x::xs=>x.erase::aX xs
end
def takeN:Nat->List V->Option (List V)
 | 0,_=>aa []
 | n+1,x::xs=>(takeN n xs).map (x::·)
 | _+1,[]=>ag
def bI:Bool->Nat->List V->Option V
 | true,n,cs=>(takeN n cs).map V.agg
 | false,_,c::_=>aa c
 | false,_,[]=>ag
def over:List V->List V->List V
 | [],_=>[]
 | l,[]=>l
 | _::l,x::xs=>x::over l xs
def setAt:List V->Nat->List V->List V
 | l,0,xs=>over l xs
 | [],_+1,_=>[]
 | a::l,n+1,xs=>a::setAt l n xs
def cg:Nat->List V->Bool
 | 0,_=>ab
 | n+1,_::xs=>cg n xs
 | _+1,[]=>ak
def af.set(D:af)(b:Nat)(cs:List V):af:={D with box:=λx=>if x=b then aa cs else D.box x}
def af.aY(D:af)(t n:Nat):af:={D with aP:=λx=>if x=t then aa n else D.aP x}
def GW(st:St):Pl->Option (List V)
 | .aD i=>st.aD[i]?
 | .out b=>st.out.box b
 | .kB b=>st.out.b9 b
def lO(st:St)(agg:Bool)(n:Nat):V->Option V
 | .ptr p off=>(GW st p).bind λcs=>bI agg n (cs.drop off)
 | .elt cs off=>bI agg n (cs.drop off)
 | _=>ag
def dR(st:St)(n:Nat)(x:V):V->Option St
 | .ptr (.aD i) off=>(st.aD[i]?).bind λcs=>if cg n (cs.drop off)=ab/\x.wd=aa n/\cL x.cells=ab then aa ⟨st.t,st.aD.set i (setAt cs off x.cells),st.out⟩ else ag
 | .ptr (.out b) off=>(st.out.box b).bind λcs=>if cg n (cs.drop off)=ab/\x.wd=aa n/\cL x.cells=ab/\bO x.cells=ab then aa ⟨st.t,st.aD,st.out.set b (setAt cs off x.cells)⟩ else ag
 | _=>ag
def pB(st:St):List V->List (Nat × Nat × X)->Option (List V)
 | z,[]=>aa z
 | z,(off,n,x)::ps=>if cg n (z.drop off)=ab/\(ev st x).wd=aa n then pB st (setAt z off (ev st x).cells) ps else ag
def lV(st:St)(k:Nat):List X->Option (List (List V))
 | []=>aa []
 | x::xs=>if (ev st x).wd=aa k/\bO (ev st x).cells=ab/\cL (ev st x).cells=ab then(lV st k xs).map (aX (ev st x).cells::·) else ag
def AY:IntKind->IntKind->Bool
 | .i8,.i8 | .i16,.i16 | .i32,.i32 | .i64,.i64 | .u8,.u8 | .u16,.u16 | .u32,.u32 | .u64,.u64=>ab
 | _,_=>ak
def H9{a b:IntKind}(h:AY a b=ab):a=b:=by cases a<;>cases b<;>first | rfl | (simp[AY] at h)
def iP(k:IntKind)(a b:Int):BinOp->Option V
 | .add=>aa (.int k (k.wrap (a+b)))
 | .sub=>aa (.int k (k.wrap (a - b)))
 | .mul=>aa (.int k (k.wrap (a*b)))
 | .eql=>aa (.bool (decide (a=b)))
 | .neq=>aa (.bool (!decide (a=b)))
 | .lss=>aa (.bool (decide (a<b)))
 | .leq=>aa (.bool (decide (a<=b)))
 | .gtr=>aa (.bool (decide (b<a)))
 | .geq=>aa (.bool (decide (b<=a)))
 | .quo=>if b=0 then ag else aa (.int k (k.wrap (a.tdiv b)))
 | .rem=>if b=0 then ag else aa (.int k (a.tmod b))
 | .and=>aa (.int k (k.wrap ((BitVec.ofInt k.bits a&&&BitVec.ofInt k.bits b).toNat:Nat)))
 | .or=>aa (.int k (k.wrap ((BitVec.ofInt k.bits a|||BitVec.ofInt k.bits b).toNat:Nat)))
 | .xor=>aa (.int k (k.wrap ((BitVec.ofInt k.bits a ^^^ BitVec.ofInt k.bits b).toNat:Nat)))
 | .andNot=>aa (.int k (k.wrap ((BitVec.ofInt k.bits a&&&~~~BitVec.ofInt k.bits b).toNat:Nat)))
 | .shl=>if b<0 then ag else aa (.int k (k.wrap (a*2^(Nat.min b.toNat k.bits))))
 | .shr=>if b<0 then ag else aa (.int k (a.fdiv (2^(Nat.min b.toNat k.bits))))
def AZ:BinOp->Bool
 | .shl | .shr=>ab
 | _=>ak
def vA(op:BinOp):V->V->Option V
 | .int k a,.int k' b=>if AY k k' = ab\/AZ op=ab then iP k a b op else ag
 | _,_=>ag
def xT(a b:List UInt8):BinOp->Option V
 | .eql=>aa (.bool (decide (a=b)))
 | .neq=>aa (.bool (!decide (a=b)))
 | .lss=>aa (.bool (Op.bytesLess a b))
 | .leq=>aa (.bool (Op.bytesLess a b||decide (a=b)))
 | .gtr=>aa (.bool (!(Op.bytesLess a b||decide (a=b))))
 | .geq=>aa (.bool (!Op.bytesLess a b))
 | _=>ag
def Af(op:BinOp):V->V->Option V
 | .aF a,.aF b=>xT a b op
 | _,_=>ag
def yD(neg:Bool):V->V->Option V
 | .bool a,.bool b=>aa (.bool (if neg then !decide (a=b) else decide (a=b)))
 | _,_=>ag
def fQ:List Nat->List V->List V->Option Bool
 | [],[],[]=>aa ab
 | 1::ks,.int k a::xs,.int k' b::ys=>if AY k k' = ab then(fQ ks xs ys).map (decide (a=b)&&·) else ag
 | 2::ks,.aF a::xs,.aF b::ys=>(fQ ks xs ys).map (decide (a=b)&&·)
 | 0::ks,.bool a::xs,.bool b::ys=>(fQ ks xs ys).map (decide (a=b)&&·)
 | _,_,_=>ag
def yC(neg:Bool)(ks:List Nat):V->V->Option V
 | .agg xs,.agg ys=>(fQ ks xs ys).map λb=>.bool (if neg then !b else b)
 | _,_=>ag
def isNil:V->Option Bool
 | .jd=>aa ab
 | .ptr _ _=>aa ak
 | _=>ag
def K2(K:V->St->Prop)(st:St):V->Prop:=λv=>K v st
def opt(o:Option V)(K:V->Prop):Prop:=match o with | some v=>K v | none=>False
def JM(l:List (List V))(i:V)(K:List V->Prop):Prop:=∃k n x,i = .int k n/\0<=n/\l[n.toNat]?=aa x/\K x
def qV(D:af)(k:Nat)(s x:V)(K:V->af->Prop):Prop :=
 ∃t l m,s = .sl t k l/\(∃t',x = .sl t' k m)/\l.length+m.length<=aK /\
  match t with
  | .ba=>(∀Z,D.aP Z=ag->K (.sl (.tk Z) k (l++m)) (D.aY Z (l.length+m.length)))\/K (.sl .no k (l++m)) D\/∃Z,D.aP Z=aa l.length/\K (.sl (.tk Z) k (l++m)) (D.aY Z (l.length+m.length))
  | .tk Z=>D.aP Z=aa l.length/\K (.sl (.tk Z) k (l++m)) (D.aY Z (l.length+m.length))
  | .no=>False
def dE(s:List UInt8):List (List V):=s.map λb=>[.int .u8 b.toNat]
def lH(b:Bool)(d:Nat)(vs:List V)(K:Nat->List V->Prop):Prop :=
 match b,vs with
 | false,vs=>K d vs
 | true,.int _ j::vs=>0<=j/\K j.toNat vs
 | true,_=>False
def zQ(D:af)(k:Nat)(a:Option Addr)(n cap:Nat)(m:List (List V))(K:V->af->Prop):Prop :=
 n<=cap/\n+m.length<=aK/\bO m.flatten=ab /\
 (m=[]->K (.raw (.slice a n cap)) D) /\
 (m≠[]->n+m.length<=cap->∃b cs,a=aa ⟨b,0,ag⟩/\D.box b=aa cs/\n*k+m.length*k<=cs.length/\K (.raw (.slice a (n+m.length) cap)) (D.set b (setAt cs (n*k) m.flatten))) /\
 (cap<n+m.length->∃cs,(n=0/\cs=[]\/∃b,a=aa ⟨b,0,ag⟩/\D.box b=aa cs/\n*k<=cs.length) /\
   ∀b' pC,D.box b' = ag->n+m.length<=pC -> K (.raw (.slice (aa ⟨b',0,ag⟩) (n+m.length) pC)) (D.set b' (cs.take (n*k)++m.flatten++ar ((pC - (n+m.length))*k) .any)))
def zc(k:Nat):List V->Option (List (List V))
 | []=>aa []
 | v::vs=>if v.wd=aa k/\bO v.cells=ab/\cL v.cells=ab then(zc k vs).map (v.cells::·) else ag
def Av:List UInt8->UInt8->Int
 | [],_=>-1
 | b::l,c=>if b == c then 0 else if Av l c == -1 then -1 else Av l c+1
def B8(cs:List V):List (List V):=cs.map λx=>[x]
def af.del(D:af)(b:Nat):af:={D with box:=λx=>if x=b then ag else D.box x}
def I3(D:af)(a:Option Addr)(n:Nat)(s:List UInt8):Prop:=s.length=n/\(n=0\/∃b o cs,a=aa ⟨b,o,ag⟩/\D.box b=aa cs/\(cs.drop o).take n=s.map λc=>.int .u8 c.toNat)
def M8(k:Nat)(vs:List V)(H:List (List V)->Prop):Prop:=∃l,zc k vs=aa l/\H l
def BP(D:af)(k:Nat)(a:Option Addr)(m:Nat)(xs:List V)(K:V->af->Prop):Prop :=
 (m=0->K (.int .i64 0) D)/\(m≠0->∃b o cs,a=aa ⟨b,o,ag⟩/\D.box b=aa cs/\o+m*k<=cs.length/\K (.int .i64 m) (D.set b (setAt cs o xs)))
def P0(D:af)(a:Option Addr)(n:Nat)(xs:List V):Prop :=
 n=0/\xs=[]\/∃b o cs,a=aa ⟨b,o,ag⟩/\D.box b=aa cs/\o+n<=cs.length/\xs=(cs.drop o).take n/\cL xs=ab
def Fw(o:Option V)(K:V->Prop):Prop:=match o with | some c=>K c | none=>False
def OQ.bh(D:af)(K:V->af->Prop):OQ->List V->Prop
 | .nil,[]=>K (.raw (.slice ag 0 0)) D
 | .len,[.raw (.slice _ n _)]=>K (.int .i64 n) D
 | .idx k,[.raw (.slice (aa ⟨b,o,ag⟩) n _),.int _ j]=>0<=j/\j<n/\K (.ptr (.out b) (o+j.toNat*k)) D
 | .kV k lo hi mx,.raw (.slice a n cap)::vs=>lH lo 0 vs λm vs=>lH hi n vs λh vs=>lH mx cap vs λM vs=>vs=[]/\m<=h/\h<=M/\M<=cap/\K (.raw (.slice (if M=m then a else a.map (·.add (m*k))) (h - m) (M - m))) D
 | .app k,[.raw (.slice a n cap),.sl _ k' m]=>k' = k/\zQ D k a n cap m K
 | .mk z,[.int _ n]=>0<=n/\n<=aK/\bO z=ab/\0<z.length/\∀b',D.box b' = ag->K (.raw (.slice (aa ⟨b',0,ag⟩) n.toNat n.toNat)) (D.set b' (ar n.toNat z).flatten)
 | .my k,vs=>M8 k vs λl=>K (.sl .ba k l) D
 | .new k,vs=>M8 k vs λl=>bO l.flatten=ab/\∀b',D.box b' = ag->K (.raw (.slice (aa ⟨b',0,ag⟩) l.length l.length)) (D.set b' l.flatten)
 | .min,[.int k a,.int k' b]=>AY k k' = ab/\K (.int k (if b<a then b else a)) D
 | .max,[.int k a,.int k' b]=>AY k k' = ab/\K (.int k (if a<b then b else a)) D
 | .Ja m k lo hi,.ptr (.out b) o::vs=>lH lo 0 vs λl vs=>lH hi m vs λh vs=>vs=[]/\l<=h/\h<=m/\K (.raw (.slice (aa (if m=l then ⟨b,o,ag⟩ else ⟨b,o+l*k,ag⟩)) (h - l) (m - l))) D
 | .g_ k lo hi,.raw (.slice (aa ⟨b,o,ag⟩) n cap)::vs=>lH lo 0 vs λl vs=>lH hi n vs λh vs=>vs=[]/\l<=h/\h<=cap/\k=1 /\
  ∃cs,D.box b=aa cs/\o+h<=cs.length/\cL (((cs.drop o).take h).drop l)=ab/\bO (((cs.drop o).take h).drop l)=ab/\K (.sl .no 1 (B8 (((cs.drop o).take h).drop l))) (D.del b)
 | .KH,[.aF s,.int .u8 c]=>K (.int .i64 (s.count c.toNat.toUInt8:Nat)) D
 | .ML,[.aF s,.int .u8 c]=>K (.int .i64 (Av s c.toNat.toUInt8)) D
 | .KQ,[.raw (.slice a n _)]=>∃s,I3 D a n s/\K (.aF s) D
 | .nj,[.raw (.slice a n cap),.aF s]=>zQ D 1 a n cap (dE s) K
 | .Kn,[.raw (.slice a n cap),.raw (.slice a' n' _)]=>∃s,I3 D a' n' s/\zQ D 1 a n cap (dE s) K
 | .H8 m,[.agg cs,.int _ j]=>0<=j/\j<m/\Fw cs[j.toNat]? λc=>c.cY=ab/\K c D
 | .B' k,[.raw (.slice a n _),.raw (.slice a' n' _)]=>∃xs,P0 D a' (Nat.min n' n*k) xs/\BP D k a (Nat.min n' n) xs K
 | .B' k,[.raw (.slice a n _),.sl _ k' m]=>k' = k/\m.length<=n/\BP D k a m.length m.flatten K
 | _,_=>False
def OQ.pure:OQ->Bool
 | .nil | .len | .idx _ | .kV .. | .my _ | .min | .max | .Ja .. | .KH | .ML | .H8 _=>ab
 | .app _ | .mk _ | .new _ | .g_ .. | .KQ | .nj | .Kn | .B' _ | .aG=>ak
def aO.bh(P:Program)(st:St)(K:V->St->Prop):aO->Prop
 | .mv x=>K (ev st x) st
 | .pick c a b=>match ev st c with | .bool ab=>K (ev st a) st | .bool ak=>K (ev st b) st | _=>False
 | .alloc z=>K (.ptr (.aD st.aD.length) 0) ⟨st.t,st.aD++[z],st.out⟩
 | .box n x=>(ev st x).wd=aa n/\K (.ptr (.aD st.aD.length) 0) ⟨st.t,st.aD++[(ev st x).cells],st.out⟩
 | .vB n x=>(ev st x).wd=aa n/\cL (ev st x).cells=ab/\K (.ptr (.aD st.aD.length) 0) ⟨st.t,st.aD++[(ev st x).cells],st.out⟩
 | .build z ps=>opt ((pB st z ps).map V.agg) (K2 K st)
 | .jn k xs=>opt ((lV st k xs).map (V.sl .ba k)) (K2 K st)
 | .load agg n x=>opt (lO st agg n (ev st x)) (K2 K st)
 | .store n a x=>match dR st n (ev st x) (ev st a) with | some aM => K .any aM | none=>False
 | .wh x=>match ev st x with | .ptr p o=>K (.ptr p o) st | .elt c o=>K (.elt c o) st | .fn (.func f) a b=>K (.fn (.func f) a b) st | _=>False
 | .eW op x y=>opt (vA op (ev st x) (ev st y)) (K2 K st)
 | .pA op x y=>opt (Af op (ev st x) (ev st y)) (K2 K st)
 | .vz neg x y=>opt (yD neg (ev st x) (ev st y)) (K2 K st)
 | .cat x y=>∃a b,ev st x = .aF a/\ev st y = .aF b/\a.length+b.length<=aK/\K (.aF (a++b)) st
 | .kA neg ks x y=>opt (yC neg ks (ev st x) (ev st y)) (K2 K st)
 | .r6 neg x y=>match isNil (ev st x),ev st y with | some a,.jd=>K (.bool (if neg then !a else a)) st | _,_=>False
 | .not x=>match ev st x with | .bool b=>K (.bool (!b)) st | _=>False
 | .wc x=>match ev st x with | .sl _ _ l=>K (.int .i64 l.length) st | .raw (.slice _ n _)=>K (.int .i64 n) st | _=>False
 | .we x=>match ev st x with | .aF s=>K (.int .i64 s.length) st | _=>False
 | .pH off x=>match ev st x with | .ptr p o=>K (.ptr p (o+off)) st | .elt c o=>K (.elt c (o+off)) st | _=>False
 | .vO agg off n x=>match ev st x with | .agg cs=>opt (bI agg n (cs.drop off)) (K2 K st) | _=>False
 | .tA k x i => match ev st x with
  | .sl _ k' l=>k' = k/\JM l (ev st i) λc=>K (.elt c 0) st
  | .raw (.slice (aa ⟨b,o,ag⟩) n _)=>∃ik j,ev st i = .int ik j/\0<=j/\j<n/\K (.ptr (.out b) (o+j.toNat*k)) st
  | _=>False
 | .sr m k x i => match ev st x with
  | .ptr p o=>∃kk n,ev st i = .int kk n/\0<=n/\n<(m:Nat)/\K (.ptr p (o+n.toNat*k)) st
  | .elt c o=>∃kk n,ev st i = .int kk n/\0<=n/\n<(m:Nat)/\K (.elt c (o+n.toNat*k)) st
  | _=>False
 | .tB x i=>match ev st x with | .aF s=>∃k n c,ev st i = .int k n/\0<=n/\s[n.toNat]?=aa c/\K (.int .u8 c.toNat) st | _=>False
 | .call f xs=>bO (di st xs)=ab/\cz P f (di st xs) st.out λv D=>K v ⟨st.t,st.aD,D⟩
 | .iX x xs=>match ev st x with | .fn (.func f) a b=>bO (a++di st xs++b)=ab/\cz P f (a++di st xs++b) st.out λv D=>K v ⟨st.t,st.aD,D⟩ | _=>False
 | .app k s x=>qV st.out k (ev st s) (ev st x) λv D=>K v ⟨st.t,st.aD,D⟩
 | .nj s x=>∃a,ev st x = .aF a/\qV st.out 1 (ev st s) (.sl .no 1 (dE a)) λv D=>K v ⟨st.t,st.aD,D⟩
 | .kV k x lo hi mx=>(∃t l a b,ev st x = .sl t k l/\a<=b/\b<=l.length/\(match lo with | none=>a=0 | some y=>∃j,ev st y = .int j a) /\
  (match hi with | none=>b=l.length | some y=>∃j,ev st y = .int j b) /\
  match mx with
  | none=>K (.sl .no k ((l.take b).drop a)) st
  | some y=>(∃j,ev st y = .int j b)/\K (.sl .ba k ((l.take b).drop a)) st) \/
  ∃a n cap m h,ev st x = .raw (.slice a n cap)/\m<=h/\h<=cap/\(match lo with | none=>m=0 | some y=>∃j,ev st y = .int j m)/\(match hi with | none=>h=n | some y=>∃j,ev st y = .int j h)/\mx.isNone=ab /\
   K (.raw (.slice (if cap=m then a else a.map (·.add (m*k))) (h - m) (cap - m))) st
 | .zE x lo hi=>∃s a b,ev st x = .aF s/\a<=b/\b<=s.length/\(match lo with | none=>a=0 | some y=>∃j,ev st y = .int j a) /\
  (match hi with | none=>b=s.length | some y=>∃j,ev st y = .int j b)/\K (.aF ((s.take b).drop a)) st
 | .ext x i=>match ev st x with | .bt vs=>opt vs[i]? (K2 K st) | _=>False
 | .ko f first cap=>K (.fn f (di st first) (di st cap)) st
 | .qt k x=>match ev st x with | .int _ n=>K (.int k (k.wrap n)) st | _=>False
 | .uc x=>∃t s,ev st x = .sl t 1 (dE s)/\K (.aF s) st
 | .qm z=>bO z=ab/\∀b,st.out.box b=ag->K (.ptr (.out b) 0) ⟨st.t,st.aD,st.out.set b z⟩
 | .gO n x=>(ev st x).wd=aa n/\bO (ev st x).cells=ab/\∀b,st.out.box b=ag->K (.ptr (.out b) 0) ⟨st.t,st.aD,st.out.set b (ev st x).cells⟩
 | .own q xs=>q.bh st.out (λv D=>K v ⟨st.t,st.aD,D⟩) (di st xs)
def b7(P:Program):List AO->(St->Prop)->St->Prop
 | [],K,st=>K st
 | o :: r, K, st =>
  match o.guard with
  | none=>o.op.bh P st λv aM => b7 P r K (aM.put o.dst v)
  | some (g, want) =>
   match ev st (.s g) with
   | .bool b=>if b=want then o.op.bh P st (λv aM => b7 P r K (aM.put o.dst v)) else b7 P r K (st.put o.dst (.bt []))
   | .bt []=>b7 P r K (st.put o.dst (.bt []))
   | _=>False
mutual
def R.erase:∀(x:V) {E:Env} {v:Value},R E x v->R E x.erase v
 | .sl t k l, E, v, h => by
  simp only[V.erase,R] at h ⊢;obtain⟨a,cap,h1,h2,h3,_⟩:=h;exact⟨a,cap,h1,h2,h3,trivial⟩
 | .agg cs, E, v, h => by
  simp only[V.erase,R] at h ⊢;obtain⟨vs,h1,h2⟩:=h;exact⟨vs,h1,RL.erase cs h2⟩
 | .bt cs, E, v, h => by
  simp only[V.erase,R] at h ⊢;obtain⟨vs,h1,h2⟩:=h;exact⟨vs,h1,RL.erase cs h2⟩
 | .any,_,_,h=>by simpa [V.erase] using h
 | .bool _,_,_,h=>by simpa [V.erase] using h
 | .int _ _,_,_,h=>by simpa [V.erase] using h
 | .aF _,_,_,h=>by simpa [V.erase] using h
 | .jd,_,_,h=>by simpa [V.erase] using h
 | .ptr _ _,_,_,h=>by simpa [V.erase] using h
 | .elt _ _,_,_,h=>by simpa [V.erase] using h
 | .fn _ _ _,_,_,h=>by simpa [V.erase] using h
 | .raw _,_,_,h=>by simpa [V.erase] using h
def RL.erase:∀(l:List V) {E:Env} {vs:List Value},RL E l vs->RL E (aX l) vs
 | [],_,[],_=>by simp only[aX,RL]
 | [],_,_::_,h=>by simp only[RL] at h
 | _::_,_,[],h=>by simp only[RL] at h
 | x :: xs, _, v :: vs, h => by
  simp only[aX,RL] at h ⊢;exact⟨R.erase x h.1,RL.erase xs h.2⟩
end
def Sn:∀l:List V,(aX l).length=l.length
 | []=>rfl
 | x::xs=>by simp[aX,Sn xs]
variable{vs:List V}
def Ag{b:Bool}{d:Nat}{K K' : Nat->List V->Prop}(h:lH b d vs K)(hk:∀n vs,K n vs->K' n vs):lH b d vs K' := by
 unfold lH at h ⊢;split at h
 .exact hk _ _ h
 .exact⟨h.1,hk _ _ h.2⟩
 .exact h.elim
variable{K K':V->af->Prop}
def zQ.mono{n:Nat}{m:List (List V)}(hk:∀v σ',K v σ' -> K' v σ')(h:zQ D k a n cap m K):zQ D k a n cap m K' := by
 obtain⟨h1,h2,h3,h4,h5,h6⟩:=h;refine⟨h1,h2,h3,λe=>hk _ _ (h4 e),λe e' => ?_,λe=>?_⟩
 .obtain⟨b,cs,g1,g2,g3,g4⟩:=h5 e e';exact⟨b,cs,g1,g2,g3,hk _ _ g4⟩
 .obtain⟨cs,g1,g2⟩:=h6 e;exact⟨cs,g1,λb' pC p1 p2=>hk _ _ (g2 b' pC p1 p2)⟩
variable{m:Nat}
def BP.mono{xs:List V}(hk:∀v σ',K v σ' -> K' v σ')(h:BP D k a m xs K):BP D k a m xs K' :=
 ⟨λe=>hk _ _ (h.1 e),λe=>let ⟨b,o,cs,h1,h2,h3,h4⟩:=h.2 e;⟨b,o,cs,h1,h2,h3,hk _ _ h4⟩⟩
def OQ.mono(hk:∀v σ',K v σ' -> K' v σ')(q:OQ)(vs:List V)(h:q.bh D K vs):q.bh D K' vs:=by
 unfold OQ.bh at h ⊢;split at h
 .exact hk _ _ h
 .exact hk _ _ h
 .exact⟨h.1,h.2.1,hk _ _ h.2.2⟩
 .exact Ag h λ_ _ h=>Ag h λ_ _ h=>Ag h λ_ _ h=>⟨h.1,h.2.1,h.2.2.1,h.2.2.2.1,hk _ _ h.2.2.2.2⟩
 .obtain⟨h0,h1,h2,h3,h4,h5,h6⟩:=h;refine⟨h0,h1,h2,h3,λe=>hk _ _ (h4 e),λe e' => ?_,λe=>?_⟩
  .obtain⟨b,cs,g1,g2,g3,g4⟩:=h5 e e';exact⟨b,cs,g1,g2,g3,hk _ _ g4⟩
  .obtain⟨cs,g1,g2⟩:=h6 e;exact⟨cs,g1,λb' pC p1 p2=>hk _ _ (g2 b' pC p1 p2)⟩
 .exact⟨h.1,h.2.1,h.2.2.1,h.2.2.2.1,λb' hb=>hk _ _ (h.2.2.2.2 b' hb)⟩
 .obtain⟨l,h1,h2⟩:=h;exact⟨l,h1,hk _ _ h2⟩
 .obtain⟨l,h1,h2,h3⟩:=h;exact⟨l,h1,h2,λb' hb=>hk _ _ (h3 b' hb)⟩
 .exact⟨h.1,hk _ _ h.2⟩
 .exact⟨h.1,hk _ _ h.2⟩
 .exact Ag h λ_ _ h=>Ag h λ_ _ h=>⟨h.1,h.2.1,h.2.2.1,hk _ _ h.2.2.2⟩
 .exact Ag h λ_ _ h=>Ag h λ_ _ h=>by
   obtain⟨g1,g2,g3,g4,cs,g5,g6,g7,g8,g9⟩:=h;exact⟨g1,g2,g3,g4,cs,g5,g6,g7,g8,hk _ _ g9⟩
 .exact hk _ _ h
 .exact hk _ _ h
 .obtain⟨s,h1,h2⟩:=h;exact⟨s,h1,hk _ _ h2⟩
 .exact h.mono hk
 .obtain⟨s,h1,h2⟩:=h;exact⟨s,h1,h2.mono hk⟩
 .obtain⟨h1,h2,h3⟩:=h;refine⟨h1,h2,?_⟩;unfold Fw at h3 ⊢;split at h3
  .exact⟨h3.1,hk _ _ h3.2⟩
  .exact h3.elim
 .obtain⟨s,h1,h2⟩:=h;exact⟨s,h1,h2.mono hk⟩
 .exact⟨h.1,h.2.1,h.2.2.mono hk⟩
 .exact h.elim
def D2{b:Bool}{d:Nat}{K:Nat->List V->Prop}(h:lH b d vs K):∃n Dt,K n Dt /\ ∀K' : Nat->List V->Prop,K' n Dt -> lH b d vs K' := by
 unfold lH at h;split at h
 .exact⟨_,_,h,λ_ h=>by unfold lH;exact h⟩
 .exact⟨_,_,h.2,λ_ h' => by unfold lH;exact⟨h.1,h'⟩⟩
 .exact h.elim
def OQ.R2{q:OQ}(hp:q.pure=ab)(h:q.bh D K vs):∃v,K v D/\∀(fc:af) (K' : V->af->Prop),K' v fc->q.bh fc K' vs:=by
 unfold OQ.bh at h;split at h
 .exact⟨_,h,λ_ _ h=>by unfold OQ.bh;exact h⟩
 .exact⟨_,h,λ_ _ h=>by unfold OQ.bh;exact h⟩
 .exact⟨_,h.2.2,λ_ _ h' => by unfold OQ.bh;exact⟨h.1,h.2.1,h'⟩⟩
 .obtain⟨m,v1,h1,g1⟩:=D2 h;obtain⟨hh,v2,h2,g2⟩:=D2 h1;obtain⟨M,v3,h3,g3⟩:=D2 h2;obtain⟨e1,e2,e3,e4,h4⟩:=h3;exact⟨_,h4,λ_ _ h' => by unfold OQ.bh;exact g1 _ (g2 _ (g3 _ ⟨e1,e2,e3,e4,h'⟩))⟩
 .simp[OQ.pure] at hp
 .simp[OQ.pure] at hp
 .obtain⟨l,h1,h2⟩:=h;exact⟨_,h2,λ_ _ h' => by unfold OQ.bh;exact⟨l,h1,h'⟩⟩
 .simp[OQ.pure] at hp
 .exact⟨_,h.2,λ_ _ h' => by unfold OQ.bh;exact⟨h.1,h'⟩⟩
 .exact⟨_,h.2,λ_ _ h' => by unfold OQ.bh;exact⟨h.1,h'⟩⟩
 .obtain⟨m,v1,h1,g1⟩:=D2 h;obtain⟨hh,v2,h2,g2⟩:=D2 h1;obtain⟨e1,e2,e3,h4⟩:=h2;exact⟨_,h4,λ_ _ h' => by unfold OQ.bh;exact g1 _ (g2 _ ⟨e1,e2,e3,h'⟩)⟩
 .simp[OQ.pure] at hp
 .exact⟨_,h,λ_ _ h=>by unfold OQ.bh;exact h⟩
 .exact⟨_,h,λ_ _ h=>by unfold OQ.bh;exact h⟩
 .simp[OQ.pure] at hp
 .simp[OQ.pure] at hp
 .simp[OQ.pure] at hp
 .obtain⟨h1,h2,h3⟩:=h;unfold Fw at h3;split at h3
  .rename_i c hc;exact⟨c,h3.2,λ_ _ h' => by unfold OQ.bh;refine⟨h1,h2,?_⟩;unfold Fw;rw[hc];exact⟨h3.1,h'⟩⟩
  .exact h3.elim
 .simp[OQ.pure] at hp
 .simp[OQ.pure] at hp
 .exact h.elim
def Ke:R E (.bt []) undef:=by simp only[R];exact⟨#[],rfl,by simp[RL]⟩
def Qz{v:Value}(h:R E (.bt []) v):v=undef:=by
 simp only[R] at h;obtain⟨vs,rfl,h⟩:=h;cases hv:vs.toList with
 | nil =>
  have:vs=#[]:=by cases vs;simpa using hv
  subst this;rfl
 | cons x xs=>rw[hv] at h;simp[RL] at h
def cv:V->Value->Bool
 | .bool b,.bool c=>b == c
 | .int k n,.int j m=>decide (k=j)&&decide (n=m)
 | .aF s,.string t=>decide (s=t.data.toList)
 | .jd,.pointer ag=>ab
 | .sl .ba _ [],.slice ag 0 0=>ab
 | .raw .nilFunc,.nilFunc=>ab
 | .raw .nilIface,.nilIface=>ab
 | .raw (.map ag),.map ag=>ab
 | _,_=>ak
def yw:List V->List Value->Bool
 | [],[]=>ab
 | x::xs,v::vs=>cv x v&&yw xs vs
 | _,_=>ak
def KB(f:Nat->Option (List V)):List Nat->Option (List V)
 | []=>aa []
 | t::ts=>(f t).bind λa=>(KB f ts).map (a++·)
def zeroV(P:Program):Nat->TypeId->Option (List V)
 | 0,_=>ag
 | n + 1, t =>
  match P.underlying t with
  | some .bool=>aa [.bool ak]
  | some (.int k)=>aa [.int k 0]
  | some .string=>aa [.aF []]
  | some (.pointer _)=>aa [.jd]
  | some (.slice e)=>aa [.sl .ba (P.cellsOf e) []]
  | some (.func _ _ _)=>aa [.raw .nilFunc]
  | some (.interface _)=>aa [.raw .nilIface]
  | some (.map _ _)=>aa [.raw (.map ag)]
  | some (.struct fs)=>KB (zeroV P n) (fs.toList.map (·.type))
  | some (.array k e)=>KB (zeroV P n) (ar k e)
  | _=>ag
def kv(P:Program)(t:TypeId):Option (List V) :=
 match P.info? t,zeroV P 30 t with
 | some i, aa zs =>
  match i.zero with
  | some z=>if yw zs z.cells.toList=ab/\zs.length=i.size then aa zs else ag
  | none=>ag
 | _,_=>ag
def KM(P:Program)(t:TypeId):Value->Option V
 | .slice ag 0 0 =>
  match P.underlying t with
  | some (.slice e)=>aa (.sl .ba (P.cellsOf e) [])
  | _=>ag
 | .agg vs =>
  match kv P t with
  | some zs=>if yw zs vs.toList=ab then aa (.agg zs) else ag
  | none=>ag
 | .bool b=>aa (.bool b)
 | .int k n=>aa (.int k n)
 | .string s=>aa (.aF s.data.toList)
 | .pointer ag=>aa .jd
 | .nilFunc=>aa (.raw .nilFunc)
 | .nilIface=>aa (.raw .nilIface)
 | _=>ag
def cH(P:Program)(t:TypeId):Operand->Option X
 | .tmp n=>aa (.s n)
 | .const v=>(KM P t v).map .c
 | .func f=>aa (.c (.fn (.func f) [] []))
 | .global g=>aa (.c (.ptr (.kB g) 0))
def jJ(P:Program):List TypeId->List Operand->Option (List X)
 | [],[]=>aa []
 | t::ts,x::xs=>(cH P t x).bind λy=>(jJ P ts xs).map (y::·)
 | _,_=>ag
def lv(P:Program)(t:TypeId):Option Operand->Option (Option X)
 | none=>aa ag
 | some x=>(cH P t x).map aa
def iw(P:Program)(t:TypeId):Option Bool :=
 match P.underlying t with
 | some (.struct _) | some (.array _ _)=>aa ab
 | some _=>aa ak
 | none=>ag
def eD(P:Program)(t:TypeId):Option Nat:=(P.info? t).map (·.size)
def A'(P:Program)(place:Nat->Option (Nat × TypeId)):List (Nat × Operand)->Option (List (Nat × Nat × X))
 | []=>aa []
 | (i, x) :: ps =>
  match place i with
  | some (off, t) =>
   match eD P t,cH P t x with
   | some n,aa y=>if n=0 then ag else(A' P place ps).map ((off,n,y)::·)
   | _,_=>ag
  | none=>ag
def IZ(f:TypeId->Nat->Option (List (Nat × Nat)))(size:TypeId->Nat)(all:Nat):List Field->Nat->Option (List (Nat × Nat))
 | [],_=>aa []
 | x::xs,off=>if x.name = "_" \/ all<x.offset+size x.type then ag else(f x.type (off+x.offset)).bind λa=>(IZ f size all xs off).map (a++·)
def I0(f:Nat->Option (List (Nat × Nat)))(size all:Nat):List Nat->Nat->Option (List (Nat × Nat))
 | [],_=>aa []
 | i::is,off=>if all<i*size+size then ag else(f (off+i*size)).bind λa=>(I0 f size all is off).map (a++·)
def xP(P:Program):Nat->TypeId->Nat->Option (List (Nat × Nat))
 | 0,_,_=>ag
 | n + 1, t, off =>
  match P.info? t,P.underlying t with
  | some _,aa .bool=>if P.cellsOf t=1 then aa [(off,0)] else ag
  | some _,aa (.int _)=>if P.cellsOf t=1 then aa [(off,1)] else ag
  | some _,aa .string=>if P.cellsOf t=1 then aa [(off,2)] else ag
  | some _,aa (.struct fs)=>if P.stoodInHeld t=ab then ag else IZ (xP P n) P.cellsOf (P.cellsOf t) fs.toList off
  | some _,aa (.array k e)=>match P.info? e with | some _=>I0 (xP P n e) (P.cellsOf e) (P.cellsOf t) (bX k) off | none=>ag
  | _,_=>ag
def Og(P:Program)(t:TypeId):Option (List Nat) :=
 match xP P 20 t 0 with
 | some pl=>if pl.map (·.1)=bX (P.cellsOf t)/\P.eqGuardType P.depth t=ak then aa (pl.map (·.2)) else ag
 | none=>ag
def zi(P:Program)(o:Oper):Option aO :=
 match o.op with
 | .move x | .assign x=>(cH P o.type x).map .mv
 | .pick c a b =>
  match cH P o.type c,cH P o.type a,cH P o.type b with
  | some c,aa a,aa b=>aa (.pick c a b)
  | _,_,_=>ag
 | .alloc t=>(kv P t).map .alloc
 | .box t x =>
  match eD P t,cH P t x with
  | some n,aa y=>aa (.box n y)
  | _,_=>ag
 | .build t ps =>
  match kv P t,P.underlying t with
  | some z,aa (.struct fs)=>if fs.toList.all (λf=>(P.info? f.type).isSome)=ab then(A' P (λi=>(fs[i]?).map λf=>(f.offset,f.type)) ps.toList).map (.build z) else ag
  | some z,aa (.array _ e)=>if (P.info? e).isSome=ab then(A' P (λi=>aa (i*P.cellsOf e,e)) ps.toList).map (.build z) else ag
  | _,_=>ag
 | .buildSlice t len ps =>
  match P.underlying t with
  | some (.slice e) =>
   match eD P e,kv P e,jJ P (ar len e) (ps.toList.map (·.2)) with
   | some k,aa _,aa xs=>if ps.toList.map (·.1)=bX len/\len*k<=16777216/\0<k then aa (.jn k xs) else ag
   | _,_,_=>ag
  | _=>ag
 | .load t x =>
  match iw P t,eD P t,cH P t x with
  | some g,aa n,aa y=>aa (.load g n y)
  | _,_,_=>ag
 | .store t x y =>
  match eD P t,cH P t x,cH P t y with
  | some n,aa x,aa y=>if n=0 then ag else aa (.store n x y)
  | _,_,_=>ag
 | .nilCheck x=>(cH P o.type x).map .wh
 | .binOp op t x y _ =>
  match cH P t x,cH P t y with
  | some x, aa y =>
   match P.underlying t with
   | some (.int _)=>aa (.eW op x y)
   | some .string=>match op with | .add=>aa (.cat x y) | _=>aa (.pA op x y)
   | some .bool=>match op with | .eql=>aa (.vz ak x y) | .neq=>aa (.vz ab x y) | _=>ag
   | some (.struct _) | some (.array _ _) =>
    match Og P t with
    | some ks=>match op with | .eql=>aa (.kA ak ks x y) | .neq=>aa (.kA ab ks x y) | _=>ag
    | none=>ag
   | _=>ag
  | _,_=>ag
 | .unOp .not _ x=>(cH P o.type x).map .not
 | .convert src dst x =>
  match P.underlying src,P.underlying dst,cH P src x with
  | some (.int _),aa (.int k),aa y=>aa (.qt k y)
  | some (.slice e),aa .string,aa y=>match P.underlying e with | some (.int .u8)=>aa (.uc y) | _=>ag
  | _,_,_=>ag
 | .makeFunc f first cap =>
  match jJ P (ar first.size 0) first.toList,jJ P (ar cap.size 0) cap.toList with
  | some a,aa b=>aa (.ko f a b)
  | _,_=>ag
 | .slice t x lo hi mx =>
  match cH P t x,lv P t lo,lv P t hi,lv P t mx with
  | some x, aa lo, aa hi, aa mx =>
   match P.underlying t with
   | some (.slice e)=>match eD P e with | some k=>if mx.isSome=ab->hi.isSome=ab then aa (.kV k x lo hi mx) else ag | none=>ag
   | some .string=>match mx with | none=>aa (.zE x lo hi) | some _=>ag
   | _=>ag
  | _,_,_,_=>ag
 | .fieldAddr s x i =>
  match P.underlying s,cH P s x with
  | some (.struct fs), aa y =>
   match fs[i]? with
   | some f=>match eD P f.type with | some n=>if n=0 then ag else aa (.pH f.offset y) | none=>ag
   | none=>ag
  | _,_=>ag
 | .field s x i =>
  match P.underlying s,cH P s x with
  | some (.struct fs), aa y =>
   match fs[i]? with
   | some f=>match iw P f.type,eD P f.type with | some g,aa n=>aa (.vO g f.offset n y) | _,_=>ag
   | none=>ag
  | _,_=>ag
 | .indexAddr t x i =>
  match P.underlying t,cH P t x,cH P t i with
  | some (.slice e),aa x,aa i=>(eD P e).map λk=>.tA k x i
  | some (.array m e),aa x,aa i=>(eD P e).map λk=>.sr m k x i
  | _,_,_=>ag
 | .index t x i =>
  match P.underlying t,cH P t x,cH P t i with
  | some .string,aa x,aa i=>aa (.tB x i)
  | _,_,_=>ag
 | .extract x i=>(cH P o.type x).map λy=>.ext y i
 | .call c =>
  match c.callee with
  | .value (.func f)=>(jJ P c.argTypes.toList c.args.toList).map (.call f)
  | .value x =>
   match cH P 0 x,jJ P c.argTypes.toList c.args.toList with
   | some y,aa xs=>aa (.iX y xs)
   | _,_=>ag
  | .builtin .len =>
   match c.argTypes.toList,c.args.toList with
   | [t], [x] =>
    match P.underlying t,cH P t x with
    | some (.slice _),aa y=>aa (.wc y)
    | some .string,aa y=>aa (.we y)
    | _,_=>ag
   | _,_=>ag
  | .builtin .append =>
   match c.argTypes.toList,c.args.toList with
   | [t, u], [s, x] =>
    match P.underlying t,P.underlying u,cH P t s,cH P u x with
    | some (.slice e), aa (.slice e'), aa s, aa x =>
     match P.info? e,kv P e with
     | some i,aa _=>if e=e' /\ i.bytes<=4096/\0<i.size then aa (.app i.size s x) else ag
     | _,_=>ag
    | some (.slice e), aa .string, aa s, aa x =>
     match P.info? e,kv P e with
     | some i,aa _=>match P.underlying e with | some (.int .u8)=>if i.size=1/\i.bytes=1 then aa (.nj s x) else ag | _=>ag
     | _,_=>ag
    | _,_,_,_=>ag
   | _,_=>ag
  | _=>ag
 | _=>ag
def adg:∀{x:V} {v:Value},cv x v=ab->R E x v:=by
 intro x v h;unfold cv at h;split at h<;>simp_all [R,vq]
def rY{E:Env}:∀{xs:List V} {vs:List Value},yw xs vs=ab->RL E xs vs
 | [],[],_=>by simp[RL]
 | [],_::_,h=>by simp[yw] at h
 | _::_,[],h=>by simp[yw] at h
 | x :: xs, v :: vs, h => by
  simp only[yw,bF] at h;simp only[RL];exact⟨adg h.1,rY h.2⟩
variable{t:TypeId}{zs:List V}
def tR(h:kv P t=aa zs):
 ∃i z,P.info? t=aa i/\i.zero=aa z/\yw zs z.cells.toList=ab/\zs.length=i.size:=by
 unfold kv at h;split at h
 .rename_i i ys h1 h2;split at h
  .rename_i z hz;split at h
   .rename_i hc;simp only[a9] at h;subst h;exact⟨i,z,h1,hz,hc.1,hc.2⟩
   .simp at h
  .simp at h
 .simp at h
def acM{v:Value}{x:V}(h:KM P t v=aa x):R E x v:=by
 unfold KM at h;split at h
 .split at h
  .simp only[a9] at h;subst h;simp[R,vq]
  .simp at h
 .rename_i vs;split at h
  .rename_i zs hz;split at h
   .rename_i hc;simp only[a9] at h;subst h;simp only[R];exact⟨vs,rfl,rY hc⟩
   .simp at h
  .simp at h
 all_goals first | (simp only[a9] at h;subst h;simp[R];done) | (simp at h)
def Ce{a:Act}(h:RL E st.t a.tmps.toList)(n:Nat):R E (ev st (.s n)) (a.eval (.tmp n)):=by
 have:=Gz h n undef
 simpa [ev,Act.eval,qW,ij] using this
variable{x:Operand}
def nK{a:Act}{y:X}(h:RL E st.t a.tmps.toList)(hx:cH P t x=aa y):
 R E (ev st y) (a.eval x):=by
 cases x with
 | tmp n=>simp only[cH,a9] at hx;subst hx;exact Ce h n
 | const v =>
  simp only[cH,dk] at hx;obtain⟨u,hu,rfl⟩:=hx;exact acM hu
 | func f=>simp only[cH,a9] at hx;subst hx;simp only[ev,R,Act.eval];exact⟨#[],#[],rfl,by simp[RL],by simp[RL]⟩
 | global g=>simp only[cH,a9] at hx;subst hx;simp only[ev,R,Act.eval]
def ND{P:Program}{E:Env}{st:St}{a:Act}(h:RL E st.t a.tmps.toList):∀{ts:List TypeId} {xs:List Operand} {ys:List X},jJ P ts xs=aa ys ->
 RL E (di st ys) (xs.map a.eval)
 | [],[],ys,hx=>by simp only[jJ,a9] at hx;subst hx;simp[di,RL]
 | [],_::_,_,hx=>by simp[jJ] at hx
 | _::_,[],_,hx=>by simp[jJ] at hx
 | t :: ts, x :: xs, ys, hx => by
  simp only[jJ,iI,dk] at hx;obtain⟨y,h1,zs,h2,rfl⟩:=hx;simp only[di,ch,RL];exact⟨nK h h1,ND h h2⟩
def eb(E:Env)(a:Act)(d:Option Tmp)(K:V->St->Prop):Act->World->Prop :=
 λa' w' => ∃E' v x aM,E'.w=w' /\ Fr E E' /\ bH E' aM a/\R E' v x/\a' = a.put d x/\K v aM
section
variable {P:Program} {E:Env} {st:St} {a:Act} {o:Oper} {K:V->St->Prop} {Q:Exit->Act->World->Prop}
def dd(hs:bH E st a){x:Value}(hr:(execOp a.eval o).run P E.w = .ok (.value x) E.w)(hv:R E v x)(hk:K v st):o.wp P a E.w (eb E a o.dst K) Q:=by
 unfold Oper.wp;rw[hr];exact⟨E,v,x,st,rfl,Fr.refl E,hs,hv,rfl,hk⟩
def Rd(E:Env)(cs:List V)(b o:Nat):Prop:=∀(j:Nat) x,cs[j]?=aa x->∃v,E.w.cell? ⟨b,o+j,ag⟩=aa v/\R E x v
def Env.NR(E:Env):E.nl.le E:=⟨λ_ _ _ h h' => ⟨h,h'⟩,λ_ _ h=>by simp at h,(Env.le.refl E).tok⟩
variable{cs:List V}
def Rd.mono{E E' : Env}(h:E.le E')(hw:E'.w=E.w){b o:Nat}(hr:Rd E cs b o):Rd E' cs b o:=λj x hx=>by
 obtain⟨v,h1,h2⟩:=hr j x hx;exact⟨v,by rw[hw];exact h1,h2.mono _ h⟩
def Rd.V2{E:Env}(h:jV E b cs):Rd E cs b 0:=by
 obtain⟨c,e,h1,h2,h3⟩:=h;intro j x hx;obtain⟨v,hv,hr⟩:=h3 j x hx;exact⟨v,by simp[World.cell?,h1,hv],hr⟩
def Rd.NV{E:Env}:∀{cs:List V} {b o:Nat},eG E cs b o->Rd E cs b o
 | [],_,_,_=>λj x hx=>by simp at hx
 | y :: ys, b, o, h => λj x hx => by
  simp only[eG] at h;obtain⟨⟨c,h1,_,_,h3⟩,h4⟩:=h;cases j with
  | zero=>simp at hx;subst hx;exact⟨c,h1,h3⟩
  | succ j =>
   simp at hx;obtain⟨v,hv,hr⟩:=Rd.NV h4 j x hx;exact⟨v,by rw[show o+(j+1)=o+1+j from by omega];exact hv,hr⟩
def Rd.drop{E:Env}{b o:Nat}(h:Rd E cs b o)(n:Nat):Rd E (cs.drop n) b (o+n):=λj x hx=>by
 rw[vg] at hx;obtain⟨v,hv,hr⟩:=h _ x hx;exact⟨v,by rw[show o+n+j=o+(n+j) from by omega];exact hv,hr⟩
def Pb:∀{n:Nat} {cs xs:List V},takeN n cs=aa xs->xs=cs.take n/\n<=cs.length
 | 0,cs,xs,h=>by simp[takeN] at h;subst h;simp
 | n+1,[],xs,h=>by simp[takeN] at h
 | n + 1, c :: cs, xs, h => by
  simp only[takeN,dk] at h;obtain⟨ys,h1,rfl⟩:=h;obtain⟨rfl,h2⟩:=Pb h1;simp;omega
def Rd.cells{E:Env}:∀{cs:List V} {b o:Nat},Rd E cs b o->∃vs,RL E cs vs/\∀(j:Nat) v,vs[j]?=aa v->E.w.cell? ⟨b,o+j,ag⟩=aa v
 | [],_,_,_=>⟨[],by simp[RL],λj v h=>by simp at h⟩
 | c :: cs, b, o, h => by
  obtain⟨v,h1,h2⟩:=h 0 c (by simp);obtain⟨vs,h3,h4⟩:=Rd.cells (cs:=cs) (b:=b) (o:=o+1) λj x hx=>by
   obtain⟨v,hv,hr⟩:=h (j+1) x (by simpa using hx);exact⟨v,by rw[show o+1+j=o+(j+1) from by omega];exact hv,hr⟩
  refine⟨v::vs,?_,λj u hu=>?_⟩
  .simp only[RL];exact⟨h2,h3⟩
  .cases j with
   | zero=>simp at hu;subst hu;simpa using h1
   | succ j=>simp at hu;rw[show o+(j+1)=o+1+j from by omega];exact h4 j u hu
def l9(b o j:Nat):(⟨b,o,ag⟩:Addr).add j=⟨b,o+j,ag⟩:=by
 unfold Addr.add;split<;>simp_all
variable{g:Bool}
def Bo(h:iw P t=aa g)(w:World):(isAgg t).run P w = .ok g w:=by
 unfold iw at h;cases hu:P.underlying t with
 | none=>simp[hu] at h
 | some d =>
  simp only[hu] at h;simp only[isAgg,Sem.run_bind,run_underlying hu,Result.andThen_ok];cases d<;>simp_all
def pk{n:Nat}(h:eD P t=aa n)(w:World):(sizeOf t).run P w = .ok n w:=by
 unfold eD at h;simp only[dk] at h;obtain⟨i,hi,rfl⟩:=h;simp[sizeOf,typeInfo,hi]
def run_load{n:Nat}(ht:iw P t=aa g)(hn:eD P t=aa n){b o:Nat}(h:Rd E cs b o)(hv:bI g n cs=aa v):
 ∃x,(loadVar t ⟨b,o,ag⟩).run P E.w = .ok x E.w/\R E v x:=by
 cases g with
 | false =>
  cases cs with
  | nil=>simp[bI] at hv
  | cons c cs =>
   simp only[bI,a9] at hv;subst hv;obtain⟨x,h1,h2⟩:=h 0 c (by simp);exact⟨x,by simp only[wO] at h1;simp[loadVar,Bo ht,h1],h2⟩
 | true =>
  simp only[bI,dk] at hv;obtain⟨xs,h1,rfl⟩:=hv;obtain⟨rfl,h2⟩:=Pb h1;have h' : Rd E (cs.take n) b o:=λj x hx=>by
   rw[J2] at hx;split at hx
   .exact h j x hx
   .simp at hx
  obtain⟨vs,h3,h4⟩:=h'.cells;have hl:=gh h3;have iq : vs.length=n:=by rw[<-hl];simp;omega
  refine⟨.agg vs.toArray,?_,by simp only[R];exact⟨vs.toArray,rfl,by simpa using h3⟩⟩;have hc:=run_loadCells_list (P:=P) E.w ⟨b,o,ag⟩ vs (λj u hu=>by rw[l9];exact h4 j u hu);rw[iq] at hc;simp[loadVar,Bo ht,pk hn,hc]
def U6(hs:bH E st a){n:Nat}{p:V}{x:Value}(h:lO st g n p=aa v)(hp:R E p x):
 ∃b o cs,x = .pointer (aa ⟨b,o,ag⟩)/\Rd E cs b o/\bI g n cs=aa v:=by
 cases p with
 | ptr p off =>
  cases p with
  | aD i =>
   simp only[lO,GW,iI] at h;obtain⟨cs,h1,h2⟩:=h;simp only[R] at hp;obtain⟨b,hb,rfl⟩:=hp;obtain⟨b',h3,_,h5⟩:=hs.dh.box i cs h1;rw[hb] at h3;simp only[a9] at h3;subst h3;exact⟨b,off,cs.drop off,rfl,by simpa using (Rd.V2 h5).drop off,h2⟩
  | out b =>
   simp only[lO,GW,iI] at h;obtain⟨cs,h1,h2⟩:=h;simp only[R] at hp;subst hp;obtain⟨_,h5⟩:=hs.ok.box b cs h1;exact⟨b,off,cs.drop off,rfl,by simpa using ((Rd.V2 h5).mono E.NR rfl).drop off,h2⟩
  | kB b =>
   simp only[lO,GW,iI] at h;obtain⟨cs,h1,h2⟩:=h;simp only[R] at hp;subst hp;exact⟨b,off,cs.drop off,rfl,by simpa using ((Rd.NV (hs.ok.b9 b cs h1)).mono E.NR rfl).drop off,h2⟩
 | elt cs off =>
  simp only[lO] at h;simp only[R] at hp;obtain⟨b,o,rfl,h2⟩:=hp;exact⟨b,o+off,cs.drop off,rfl,((Rd.NV h2).mono E.NR rfl).drop off,h⟩
 | _=>simp[lO] at h
def avJ(hs:bH E st a){n:Nat}{y:X}(ho:o.op = .load t x)(ht:iw P t=aa g)(hn:eD P t=aa n)(hy:R E (ev st y) (a.eval x))
 (h:opt (lO st g n (ev st y)) (K2 K st)):o.wp P a E.w (eb E a o.dst K) Q:=by
 unfold opt K2 at h;split at h
 .rename_i v hv;obtain⟨b,off,cs,h1,h2,h3⟩:=U6 hs hv hy;obtain⟨u,h4,h5⟩:=run_load ht hn h2 h3;exact dd hs (by simp[execOp,ho,Instr.loadAt,Instr.sureAddr,h1,h4]) h5 h
 .exact h.elim
end
structure Ext(w w' : World):Prop where
 os:w'.os=w.os
 output:w'.output=w.output
 tape:w'.tape=w.tape
 size:w.heap.size<=w'.heap.size
 block:∀b,b<w.heap.size->w'.heap[b]?=w.heap[b]?
 g_:∀a,w'.frozen? a=w.frozen? a
def Ext.refl(w:World):Ext w w:=⟨rfl,rfl,rfl,bS _,λ_ _=>rfl,λ_=>rfl⟩
variable{w':World}
def Ext.drew(h:Ext w w'):Ext w w'.drew:=⟨h.os,h.output,h.tape,h.size,h.block,h.g_⟩
def Ext.alloc(h:Ext w w')(c:Array Value)(t:TypeId):Ext w (w'.alloc (.cells c t)) :=
 ⟨h.os,h.output,h.tape,by simp;have:=h.size;omega,λb hb=>(heap_alloc_old w' _ (vk hb h.size)).trans (h.block b hb),λa=>(ajx w' c t a).trans (h.g_ a)⟩
def B9{o:Nat}(h:w'.heap[b]?=w.heap[b]?):w'.cell? ⟨b,o,ag⟩=w.cell? ⟨b,o,ag⟩:=by simp[World.cell?,h]
def Vx{o:Nat}{c:Value}(h:w.cell? ⟨b,o,ag⟩=aa c):b<w.heap.size:=World.block_lt_of_cell? (a:=⟨b,o,ag⟩) w h
def lx{x:Obj}(h:w.heap[b]?=aa x):b<w.heap.size:=(lC.1 h).1
def yG(hf:∀b,E.w.heap.size<=b->E.bf b = .const)(hx:Ext E.w E'.w)(hr:∀b,b<E.w.heap.size->E'.bf b=E.bf b)
 (ht:∀t n,E.aP t=aa n->E'.aP t=aa n):Fr E E' := by
 refine⟨hx.os,hx.output,hx.tape,hx.size,hx.g_,?_,?_,?_,?_,?_,?_,λb c e hb=>⟨c,(hx.block b (lx hb)).trans hb,rfl⟩⟩
 .intro b o c hc hv;have hb:=Vx hv;exact⟨by rw[hr b hb];exact hc,by rw[B9 (hx.block b hb)];exact hv⟩
 .intro t n hn;refine⟨n,ht t n hn,bS _,λ_ b c hb=>?_⟩;have aC:b<E.w.heap.size:=by
   rcases wP b E.w.heap.size with h | h
   .exact h
   .rw[hf b h] at hb;simp at hb
  exact⟨by rw[hr b aC];exact hb,λcs e bV=>⟨cs,by rw[hx.block b aC];exact bV,rfl⟩⟩
 .intro b hb _;exact⟨hx.block b hb,hr b hb⟩
 .intro b hb h;rw[hr b hb] at h;exact .inl h
 .intro b t c hb h;rw[hr b hb] at h;exact⟨c,h⟩
 .intro b i hb h;rw[hr b hb] at h;exact⟨i,h⟩
variable{cs:List V}
def jV.mono(h:E.le E')(hb:E'.w.heap[b]?=E.w.heap[b]?)(k:jV E b cs):jV E' b cs:=by
 obtain⟨c,e,h1,h2,h3⟩:=k;exact⟨c,e,by rw[hb];exact h1,h2,λj x hx=>let ⟨v,hv,hr⟩:=h3 j x hx;⟨v,hv,hr.mono _ h⟩⟩
def C'(h:E.ok D)(hle:E.nl.le E'.nl)(hb:∀b,E.bf b = .qI->b<E.w.heap.size->E'.bf b = .qI/\E'.w.heap[b]?=E.w.heap[b]?)
 (ht:∀t n,E.aP t=aa n->E'.aP t=aa n) (hf:∀b,E'.w.heap.size<=b->E'.bf b = .const) (hn:∃N,∀t,N<=t->E'.aP t=ag):E'.ok D:=by
 refine⟨λb cs bV=>?_,λt n lL=>ht t n (h.aP t n lL),hf,hn,λb cs hc=>eG.mono _ hle (h.b9 b cs hc)⟩;obtain⟨h1,h2⟩:=h.box b cs bV;have aC:b<E.w.heap.size:=by obtain⟨c,e,h3,_⟩:=h2;exact lx (w:=E.w) h3
 obtain⟨h3,h4⟩:=hb b h1 aC;exact⟨h3,h2.mono hle h4⟩
def qJ{ls:List (List V)}(h:E.dh ls)(hle:E.le E')(hb:∀b i,E.bf b = .jb i->b<E.w.heap.size->E'.bf b = .jb i/\E'.w.heap[b]?=E.w.heap[b]?)
 (hl:∀i,ls.length<=i->E'.aD i=ag):E'.dh ls:=by
 refine⟨λi cs bV=>?_,hl⟩;obtain⟨b,h1,h2,h3⟩:=h.box i cs bV;have aC:b<E.w.heap.size:=by obtain⟨c,e,h3,_⟩:=h3;exact lx (w:=E.w) h3
 obtain⟨h4,h5⟩:=hb b i h2 aC;exact⟨b,hle.aD i b h1,h4,h3.mono hle h5⟩
section
variable {P:Program} {E:Env} {st:St} {a:Act} {o:Oper} {K:V->St->Prop} {Q:Exit->Act->World->Prop}
def FT(hs:bH E st a)(hx:Ext E.w w'):Fr E {E with w:=w'}/\E.le {E with w:=w'}/\bH {E with w:=w'} st a:=by
 have bj:Fr E {E with w:=w'}:=yG hs.ok.fresh hx (λ_ _=>rfl) (λ_ _ h=>h);have hle:E.le {E with w:=w'}:=bj.le λ_ _ h=>h
 refine⟨bj,hle,C' hs.ok bj.nl (λb h hb=>⟨h,hx.block b hb⟩) (λ_ _ h=>h) (λb hb=>hs.ok.fresh b (yh hx.size hb)) hs.ok.nt,
  qJ hs.dh hle (λb i h hb=>⟨h,hx.block b hb⟩) hs.dh.none,hs.defers,RL.mono _ hle hs.slot⟩
def Y_(hs:bH E st a)(hx:Ext E.w w'){x:Value}(hr:(execOp a.eval o).run P E.w = .ok (.value x) w')(hv:R {E with w:=w'} v x)(hk:K v st):
 o.wp P a E.w (eb E a o.dst K) Q:=by
 unfold Oper.wp;rw[hr];obtain⟨h1,_,h3⟩:=FT hs hx;exact⟨_,v,x,st,rfl,h1,h3,hv,rfl,hk⟩
def Za(hs:bH E st a)(hr:(execOp a.eval o).run P E.w = .ok (.value (.pointer (aa ⟨E.w.heap.size,0,ag⟩))) (E.w.alloc (.cells c e)))
 (hz:RL E zs c.toList) (hk:K (.ptr (.aD st.aD.length) 0) ⟨st.t,st.aD++[zs],st.out⟩):o.wp P a E.w (eb E a o.dst K) Q:=by
 unfold Oper.wp;rw[hr]
 let E' : Env:={w:=E.w.alloc (.cells c e),bf:=λb=>if b=E.w.heap.size then .jb st.aD.length else E.bf b,aD:=λi=>if i=st.aD.length then aa E.w.heap.size else E.aD i,aP:=E.aP}
 have hx:Ext E.w E'.w:=(Ext.refl _).alloc _ _;have bj:Fr E E' := yG hs.ok.fresh hx (λb hb=>by simp only[E'];rw[aA (by omega)]) (λ_ _ h=>h);have hle:E.le E' := bj.le λi b h=>by
  simp only[E'];split
  .rename_i hi;rw[hs.dh.none i (by omega)] at h;simp at h
  .exact h
 refine⟨E',_,_,⟨st.t,st.aD++[zs],st.out⟩,rfl,bj,⟨?_,⟨?_,?_⟩,hs.defers,RL.mono _ hle hs.slot⟩,?_,rfl,hk⟩
 .refine C' hs.ok bj.nl (λb h hb=>⟨by simp only[E'];rw[aA (by omega)];exact h,hx.block b hb⟩) (λ_ _ h=>h) (λb hb=>?_) hs.ok.nt;simp only[E',World.size_alloc] at hb ⊢;rw[aA (by omega)];exact hs.ok.fresh b (by omega)
 .intro i cs bV
  rcases zZ i st.aD.length with hi | hi | hi
  .rw[tT hi] at bV;obtain⟨b,h1,h2,h3⟩:=hs.dh.box i cs bV;have aC:b<E.w.heap.size:=by obtain⟨c,e,h3,_⟩:=h3;exact lx (w:=E.w) h3
   exact⟨b,hle.aD i b h1,by simp only[E'];rw[aA (by omega)];exact h2,h3.mono hle (hx.block b aC)⟩
  .subst hi;rw[BT (bS _)] at bV;simp at bV;subst bV;have hl:=gh hz;refine⟨E.w.heap.size,by simp[E'],by simp[E'],c,e,heap_alloc_new _ _,by simp at hl;omega,λj x hx=>?_⟩;obtain⟨v,hv,cB⟩:=rT hz j x hx;exact⟨v,by simpa using hv,cB.mono _ hle⟩
  .rw[sP (by simp;omega)] at bV;simp at bV
 .intro i hi;simp at hi;simp only[E'];rw[aA (by omega)];exact hs.dh.none i (by omega)
 .simp only[R];exact⟨E.w.heap.size,by simp[E'],rfl⟩
def ym{x:V}{v:Value}{n:Nat}(h:R E x v)(hw:x.wd=aa n):RL E x.cells v.cells.toList/\v.cells.size=n:=by
 cases x<;>simp only[V.wd,a9] at hw<;>try simp at hw
 case agg cs =>
  simp only[R] at h;obtain⟨vs,rfl,h2⟩:=h
  have:=gh h2
  exact⟨by simpa [V.cells,Value.cells] using h2,by simp[Value.cells];simp at this;omega⟩
 case raw u =>
  simp only[R] at h;subst h;obtain⟨ho,rfl⟩:=hw;cases v<;>simp_all [Value.oneCell',Value.cells,V.cells,RL,R]
 case ptr p off =>
  subst hw;have h' := h;cases p
  .simp only[R] at h;obtain⟨b,_,rfl⟩:=h;simp[Value.cells,V.cells,RL];exact h'
  .simp only[R] at h;subst h;simp[Value.cells,V.cells,RL];exact h'
  .simp only[R] at h;subst h;simp[Value.cells,V.cells,RL];exact h'
 all_goals
  subst hw;have h' := h;simp only[R] at h
  first
   | (subst h;simp[Value.cells,V.cells,RL];exact h')
   | (obtain⟨b,o,rfl,_⟩:=h;simp[Value.cells,V.cells,RL];exact h')
def zo:∀{xs:List V} {vs:List Value},RL E xs vs->cL xs=ab->∀v∈vs,v.oneCell' = ab
 | [],[],_,_=>λv hv=>by simp at hv
 | [],_::_,h,_=>by simp[RL] at h
 | _::_,[],h,_=>by simp[RL] at h
 | x :: xs, v :: vs, h, ho => by
  simp only[RL] at h;simp only[cL,bF] at ho;intro u hu
  rcases lF.1 hu with rfl | hu
  .obtain⟨hr,_⟩:=h;have h1:=ho.1;cases x<;>simp only[V.one] at h1<;>try (simp at h1;done)
   case ptr p off=>cases p<;>simp only[R] at hr<;>first | (subst hr;rfl) | (obtain⟨b,_,rfl⟩:=hr;rfl)
   all_goals
    simp only[R] at hr
    first
     | (subst hr;first | rfl | exact h1)
     | (obtain⟨b,o,rfl,_⟩:=hr;rfl)
  .exact zo h.2 ho.2 u hu
def LL:∀{n:Nat} {xs:List V},cg n xs=ab->n<=xs.length
 | 0,_,_=>Ka _
 | n+1,[],h=>by simp[cg] at h
 | n+1,x::xs,h=>by simp only[cg] at h;have:=LL h;simp;omega
def V9:∀{l xs:List V},xs.length<=l.length->∀j:Nat,(over l xs)[j]?=if j<xs.length then xs[j]? else l[j]?
 | [],[],_,j=>by simp[over]
 | [],_::_,h,_=>by simp at h
 | a::l,[],_,j=>by simp[over]
 | a :: l, x :: xs, h, j => by
  cases j with
  | zero=>simp[over]
  | succ j=>simp[over,V9 (l:=l) (xs:=xs) (by simpa using h)]
def V_:∀{l xs:List V},(over l xs).length=l.length
 | [],_=>by simp[over]
 | a::l,[]=>by simp[over]
 | a::l,x::xs=>by simp[over,V_]
def OZ:∀{l:List V} {n:Nat} {xs:List V},(setAt l n xs).length=l.length
 | l,0,xs=>by cases l<;>simp[setAt,V_]
 | [],n+1,xs=>by simp[setAt]
 | a::l,n+1,xs=>by simp[setAt,OZ]
def OY:∀{l:List V} {n:Nat} {xs:List V},n+xs.length<=l.length->∀j:Nat,
 (setAt l n xs)[j]?=if j<n then l[j]? else if j<n+xs.length then xs[j - n]? else l[j]?
 | l, 0, xs, h, j => by
  have h' : setAt l 0 xs=over l xs:=by cases l<;>simp[setAt]
  rw[h',V9 (by omega)];simp
 | [],n+1,xs,h,j=>by simp at h
 | a :: l, n + 1, xs, h, j => by
  cases j with
  | zero=>simp[setAt]
  | succ j =>
   have:=OY (l:=l) (n:=n) (xs:=xs) (by simp at h;omega) j
   simp only[setAt,List.getElem?_cons_succ,this]
   by_cases h1:j<n
   .rw[aE h1,aE (show j+1<n+1 by omega)]
   .rw[aA h1,aA (show ¬j+1<n+1 by omega)]
    by_cases h2:j<n+xs.length
    .rw[aE h2,aE (show j+1<n+1+xs.length by omega),show j+1 - (n+1)=j - n from by omega]
    .rw[aA h2,aA (show ¬j+1<n+1+xs.length by omega)]
variable{off:Nat}
def OP{n:Nat}(hn:eD P t=aa n)(hb:w.heap[b]?=aa (.cells c e (0,0))){v:Value}(hv:v.cells.size=n)
 (xq:off+n<=c.size) (h1:∀u∈v.cells.toList,u.oneCell' = ab) :
 (storeVar t ⟨b,off,ag⟩ v).run P w = .ok () (w.setRow b (c.toList.take off++v.cells.toList++c.toList.drop (off+n)).toArray):=by
 have h:=run_storeCells_at (P:=P) b off e v.cells.toList 0 c w hb (by simp;omega) h1;simp only[wO,BM,hv] at h;simp[storeVar,pk hn,hv,h]
def FR{c vs:List Value}(h:off+vs.length<=c.length)(j:Nat):
 (c.take off++vs++c.drop (off+vs.length))[j]?=if j<off then c[j]? else if j<off+vs.length then vs[j - off]? else c[j]?:=by
 have hl:(c.take off).length=off:=by simp;omega
 by_cases h1:j<off
 .rw[aE h1,e9,tT (by omega),J2,aE h1]
 .rw[aA h1]
  by_cases h2:j<off+vs.length
  .rw[aE h2,e9,BT (by omega),tT (by omega),hl]
  .rw[aA h2,BT (by simp;omega),vg];congr 1;simp;omega
def GX(hc:cs.length<=c.size)(hb:∀(j:Nat) x,cs[j]?=aa x->∃v,c[j]?=aa v/\R E' x v)
 {xs:List V} {vs:List Value} (hx:RL E' xs vs) {off:Nat} (xq:off+xs.length<=cs.length)
 (hn:E'.w.heap[b]?=aa (.cells (c.toList.take off++vs++c.toList.drop (off+vs.length)).toArray e (0,0))):jV E' b (setAt cs off xs):=by
 have hl:=gh hx;refine⟨_,e,hn,?_,λj x hj=>?_⟩
 .simp[OZ];omega
 .rw[OY xq] at hj;have hs:=FR (c:=c.toList) (vs:=vs) (off:=off) (by simp;omega) j;simp only[ZA];rw[hs]
  by_cases h1:j<off
  .rw[aE h1] at hj ⊢;simpa using hb j x hj
  .rw[aA h1] at hj ⊢
   by_cases h2:j<off+xs.length
   .rw[aE h2] at hj;rw[aE (by omega)];exact rT hx _ x hj
   .rw[aA h2] at hj;rw[aA (by omega)];simpa using hb j x hj
end
mutual
def R.p7:∀(x:V) {E E' : Env} (_:E.nl.le E'.nl) (_:x.cY=ab) {v:Value},R E x v->R E' x v
 | .any,_,_,_,_,_,_=>by simp only[R]
 | .bool _,_,_,_,_,_,hr=>by simp only[R] at hr ⊢;exact hr
 | .int _ _,_,_,_,_,_,hr=>by simp only[R] at hr ⊢;exact hr
 | .aF _,_,_,_,_,_,hr=>by simp only[R] at hr ⊢;exact hr
 | .jd,_,_,_,_,_,hr=>by simp only[R] at hr ⊢;exact hr
 | .ptr (.aD i) _,_,_,_,hn,_,_=>by simp[V.cY] at hn
 | .ptr (.out _) _,_,_,_,_,_,hr=>by simp only[R] at hr ⊢;exact hr
 | .ptr (.kB _) _,_,_,_,_,_,hr=>by simp only[R] at hr ⊢;exact hr
 | .elt cs _, _, _, h, _, _, hr => by
  simp only[R] at hr ⊢;obtain⟨b,o,h1,h2⟩:=hr;exact⟨b,o,h1,eG.mono cs h h2⟩
 | .sl t k l, E, E', h, _, _, hr => by
  simp only[R] at hr ⊢;obtain⟨a,cap,h1,h2,h3,h4⟩:=hr;have h4' : vq E.nl k l.length a cap t:=h4;refine⟨a,cap,h1,h2,?_,(h4'.mono h:vq E'.nl k l.length a cap t)⟩
  rcases h3 with h3 | ⟨b,o,h3,h5⟩
  .exact .inl h3
  .exact .inr ⟨b,o,h3,gq.mono l h h5⟩
 | .agg cs, _, _, h, hn, _, hr => by
  simp only[R] at hr ⊢;simp only[V.cY] at hn;obtain⟨vs,h1,h2⟩:=hr;exact⟨vs,h1,RL.p7 cs h hn h2⟩
 | .bt cs, _, _, h, hn, _, hr => by
  simp only[R] at hr ⊢;simp only[V.cY] at hn;obtain⟨vs,h1,h2⟩:=hr;exact⟨vs,h1,RL.p7 cs h hn h2⟩
 | .fn _ first cap, _, _, h, hn, _, hr => by
  simp only[R] at hr ⊢;simp only[V.cY,bF] at hn;obtain⟨fs,cs,h1,h2,h3⟩:=hr;exact⟨fs,cs,h1,RL.p7 first h hn.1 h2,RL.p7 cap h hn.2 h3⟩
 | .raw _,_,_,_,_,_,hr=>by simp only[R] at hr ⊢;exact hr
def RL.p7:∀(l:List V) {E E' : Env} (_:E.nl.le E'.nl) (_:bO l=ab) {vs:List Value},RL E l vs->RL E' l vs
 | [],_,_,_,_,[],_=>by simp only[RL]
 | [],_,_,_,_,_::_,hr=>by simp only[RL] at hr
 | _::_,_,_,_,_,[],hr=>by simp only[RL] at hr
 | x :: xs, _, _, h, hn, v :: vs, hr => by
  simp only[RL] at hr ⊢;simp only[bO,bF] at hn;exact⟨R.p7 x h hn.1 hr.1,RL.p7 xs h hn.2 hr.2⟩
end
def Hq(hb:E.w.heap[b]?=aa (.cells c e (0,0)))(hr:(∃i,E.bf b = .jb i)\/E.bf b = .qI)(cW:new.size=c.size):
 Fr E {E with w:=E.w.setRow b new}:=by
 refine⟨rfl,rfl,rfl,by simp,Ef hb,?_,?_,?_,λ_ _ h=>.inl h,λ_ _ c _ h=>⟨c,h⟩,λ_ i _ h=>⟨i,h⟩,λb' c' e' hc=>?_⟩
 .intro b' o v hc hv;have aW:b' ≠ b:=by
   rintro rfl
   rcases hr with ⟨i,hi⟩ | hi<;>rw[hi] at hc<;>exact hc.elim
  exact⟨hc,by rw[cell_setRow_other E.w b new ⟨b',o,ag⟩ aW];exact hv⟩
 .intro t n hn;refine⟨n,hn,bS _,λ_ b' k hk=>⟨hk,λcs e' bV=>?_⟩⟩;have aW:b' ≠ b:=by
   rintro rfl
   rcases hr with ⟨i,hi⟩ | hi<;>rw[hi] at hk<;>simp at hk
  exact⟨cs,by simp only[setRow_other E.w b b' new aW];exact bV,rfl⟩
 .intro b' _ hk;have aW:b' ≠ b:=by
   rintro rfl
   rcases hr with ⟨i,hi⟩ | hi<;>rw[hi] at hk<;>simp at hk
  exact⟨setRow_other E.w b b' new aW,rfl⟩
 .by_cases cE:b' = b
  .subst cE;rw[hb] at hc;simp only[a9,Obj.cells.injEq] at hc;obtain⟨rfl,rfl,_⟩:=hc;exact⟨new,setRow_heap E.w b' c new e _ hb,cW⟩
  .exact⟨c',(setRow_other E.w b b' new cE).trans hc,rfl⟩
def af.eH(D:af)(b:Nat)(cs:List V):(D.set b cs).box b=aa cs:=by simp[af.set]
def af.eQ(D:af){x:Nat}(cs:List V)(h:x≠b):(D.set b cs).box x=D.box x:=by simp[af.set,h]
section
variable {P:Program} {E:Env} {st:St} {a:Act} {o:Oper} {K:V->St->Prop} {Q:Exit->Act->World->Prop}
variable{off:Nat}
def Yx{n:Nat}(gi:0<n)(hn:eD P t=aa n)(hb:E.w.heap[b]?=aa (.cells c e (0,0)))(hlen:cs.length<=c.size)
 {ay:V} {v:Value} (hy:R E ay v) (hh:cg n (cs.drop off)=ab) (so:ay.wd=aa n) (fE:cL ay.cells=ab) :
 ∃vs:List Value,RL E ay.cells vs/\off+ay.cells.length<=cs.length /\
  (storeVar t ⟨b,off,ag⟩ v).run P E.w = .ok () (E.w.setRow b (c.toList.take off++vs++c.toList.drop (off+vs.length)).toArray) /\
  (E.w.setRow b (c.toList.take off++vs++c.toList.drop (off+vs.length)).toArray).heap[b]?=aa (.cells (c.toList.take off++vs++c.toList.drop (off+vs.length)).toArray e (0,0)):=by
 obtain⟨s6,cW⟩:=ym hy so;have hl:=gh s6;have hle:=LL hh;simp at hle hl;have bV:off+n<=cs.length:=by omega
 refine⟨v.cells.toList,s6,by omega,?_,setRow_heap E.w b c _ e _ hb⟩
 have:=OP (P:=P) (off:=off) hn hb cW (by omega) (zo s6 fE)
 rw[this];simp[cW]
def I9{v:Value}(h:(storeVar t ⟨b,off,ag⟩ v).run P w = .ok () w'):
 (Instr.storeAt t (.pointer (aa ⟨b,off,ag⟩)) v).run P w = .ok () w' := by
 simp[Instr.storeAt,Instr.sureAddr,h]
variable{y:Operand}
def Zc(hs:bH E st a){n:Nat}{ax ay:V}(gi:0<n)(ho:o.op = .store t x y)(hn:eD P t=aa n)(hx:R E ax (a.eval x))(hy:R E ay (a.eval y))
 {aM : St} (h:dR st n ay ax=aa aM) (hk:K .any aM):o.wp P a E.w (eb E a o.dst K) Q:=by
 cases ax with
 | ptr p off =>
  cases p with
  | kB b=>simp[dR] at h
  | aD i =>
   simp only[dR,iI] at h;obtain⟨cs,h1,h2⟩:=h;split at h2
   case isFalse=>simp at h2
   rename_i hc;obtain⟨hh,so,fE⟩:=hc;simp only[a9] at h2;subst h2;simp only[R] at hx;obtain⟨b,hb,hx⟩:=hx;obtain⟨b',h3,dU,c,e,fj,hlen,pN⟩:=hs.dh.box i cs h1;rw[hb] at h3;simp only[a9] at h3;subst h3;obtain⟨vs,s6,xq,dc,hD⟩:=Yx (P:=P) (t:=t) gi hn fj hlen hy hh so fE;have bj:=Hq (E:=E) (new:=(c.toList.take off++vs++c.toList.drop (off+vs.length)).toArray) fj (.inl ⟨i,dU⟩) (by have:=gh s6;simp;omega);have hle:=bj.le λ_ _ h=>h
   have pM:=GX (E' := {E with w:=E.w.setRow b (c.toList.take off++vs++c.toList.drop (off+vs.length)).toArray}) hlen
    (λj x hj=>let ⟨u,h1,h2⟩:=pN j x hj;⟨u,h1,h2.mono _ hle⟩) (RL.mono _ hle s6) xq hD
   generalize (c.toList.take off++vs++c.toList.drop (off+vs.length)).toArray=new at dc hD bj hle pM;have kh : ∀b',b' ≠ b->(E.w.setRow b new).heap[b']?=E.w.heap[b']?:=λb' aW=>setRow_other E.w b b' new aW
   unfold Oper.wp;rw[show(execOp a.eval o).run P E.w = .ok .skip (E.w.setRow b new) from by simp[execOp,ho,hx,I9 dc]];refine⟨{E with w:=E.w.setRow b new},.any,undef,⟨st.t,st.aD.set i (setAt cs off ay.cells),st.out⟩,rfl,bj,⟨?_,⟨?_,?_⟩,hs.defers,RL.mono _ hle hs.slot⟩,by simp[R],rfl,hk⟩
   .exact C' hs.ok bj.nl (λb' hr _=>⟨hr,kh b' (by rintro rfl;rw[dU] at hr;simp at hr)⟩) (λ_ _ h=>h) (λb' cc => hs.ok.fresh b' (by simpa using cc)) hs.ok.nt
   .intro j ds hj
    by_cases fV:j=i
    .subst fV;have aC:j<st.aD.length:=(fv.1 h1).1;simp only[Qc aC,a9] at hj;subst hj;exact⟨b,hb,dU,pM⟩
    .simp only[DL (fF fV)] at hj;obtain⟨b',k1,k2,k3⟩:=hs.dh.box j ds hj;exact⟨b',k1,k2,k3.mono hle (kh b' (by rintro rfl;rw[dU] at k2;simp at k2;exact fV k2.symm))⟩
   .intro j hj;exact hs.dh.none j (by simpa using hj)
  | out b =>
   simp only[dR,iI] at h;obtain⟨cs,h1,h2⟩:=h;split at h2
   case isFalse=>simp at h2
   rename_i hc;obtain⟨hh,so,fE,pR⟩:=hc;simp only[a9] at h2;subst h2;simp only[R] at hx;obtain⟨dU,c,e,fj,hlen,pN⟩:=hs.ok.box b cs h1;have HB : E.w.heap[b]?=aa (.cells c e (0,0)):=fj;obtain⟨vs,s6,xq,dc,hD⟩:=Yx (P:=P) (t:=t) gi hn HB hlen hy hh so fE;have bj:=Hq (E:=E) (new:=(c.toList.take off++vs++c.toList.drop (off+vs.length)).toArray) HB (.inr dU) (by have:=gh s6;simp;omega);have hle:=bj.le λ_ _ h=>h
   have pM:=GX (E' := Env.nl {E with w:=E.w.setRow b (c.toList.take off++vs++c.toList.drop (off+vs.length)).toArray}) hlen
    (λj x hj=>let ⟨u,h1,h2⟩:=pN j x hj;⟨u,h1,h2.mono _ bj.nl⟩) (RL.mono _ bj.nl (RL.p7 (E:=E) (E' := E.nl) _ (Env.le.refl E.nl) pR s6)) xq hD
   generalize (c.toList.take off++vs++c.toList.drop (off+vs.length)).toArray=new at dc hD bj hle pM;have kh : ∀b',b' ≠ b->(E.w.setRow b new).heap[b']?=E.w.heap[b']?:=λb' aW=>setRow_other E.w b b' new aW
   unfold Oper.wp;rw[show(execOp a.eval o).run P E.w = .ok .skip (E.w.setRow b new) from by simp[execOp,ho,hx,I9 dc]];refine⟨{E with w:=E.w.setRow b new},.any,undef,⟨st.t,st.aD,st.out.set b (setAt cs off ay.cells)⟩,rfl,bj,⟨⟨?_,hs.ok.aP,λb' cc => hs.ok.fresh b' (by simpa using cc),hs.ok.nt,λb cs hc=>eG.mono _ bj.nl (hs.ok.b9 b cs hc)⟩,
    qJ hs.dh hle (λb' i hr _=>⟨hr,kh b' (by rintro rfl;rw[dU] at hr;simp at hr)⟩) hs.dh.none,hs.defers,RL.mono _ hle hs.slot⟩,by simp[R],rfl,hk⟩
   intro b' ds kF
   by_cases cE:b' = b
   .subst cE;rw[af.eH] at kF;simp only[a9] at kF;subst kF;exact⟨dU,pM⟩
   .rw[af.eQ _ _ cE] at kF;obtain⟨k1,k2⟩:=hs.ok.box b' ds kF;exact⟨k1,k2.mono bj.nl (kh b' cE)⟩
 | _=>simp[dR] at h
end
def fw.ml:fw->fw
 | .jb _=>.mP
 | r=>r
def fw.T6(r:fw)(o:Nat):r.ml.iJ o↔r.iJ o:=by cases r<;>simp[fw.ml,fw.iJ]
def Env.call(E:Env):Env:={w:=E.w,bf:=λb=>(E.bf b).ml,aD:=λ_=>ag,aP:=E.aP}
def fw.back:fw->fw->fw
 | .jb i,_=>.jb i
 | _,r=>r
def Env.back(E E' : Env):Env:={w:=E'.w,bf:=λb=>(E.bf b).back (E'.bf b),aD:=E.aD,aP:=E'.aP}
def KA(E:Env):E.nl.le E.call.nl :=
 ⟨λb o c hc hv=>⟨(fw.T6 _ _).2 hc,hv⟩,λ_ _ h=>by simp at h,λt n hn=>⟨n,hn,bS _,λ_ b c hb=>⟨by
  show(E.bf b).ml=_;have cc : E.bf b = .gU t c:=hb;rw[cc];rfl,λcs _ hc=>⟨cs,hc,rfl⟩⟩⟩⟩
def ab1(h:E.ok D):E.call.ok D:=by
 refine⟨λb cs bV=>?_,h.aP,λb hb=>?_,h.nt,λb cs hc=>eG.mono _ (KA E) (h.b9 b cs hc)⟩
 .obtain⟨h1,h2⟩:=h.box b cs bV;exact⟨by show(E.bf b).ml=_;rw[h1];rfl,h2.mono (KA E) rfl⟩
 .show(E.bf b).ml=_;rw[h.fresh b hb];rfl
section
variable {E E' : Env} (hf:∀b,E.w.heap.size<=b->E.bf b = .const) (h:Fr E.call E')
variable{i:Nat}
include hf h in
theorem GR(hb:E.bf b = .jb i):b<E.w.heap.size/\E'.bf b = .mP/\E'.w.heap[b]?=E.w.heap[b]?:=by
 have aC:b<E.w.heap.size:=by
  rcases wP b E.w.heap.size with h | h
  .exact h
  .rw[hf b h] at hb;simp at hb
 have hr:E.call.bf b = .mP:=by show(E.bf b).ml=_;rw[hb];rfl
 obtain⟨h1,h2⟩:=h.same b aC (.inr hr);exact⟨aC,h2.trans hr,h1⟩
include hf h in
theorem Q4(b o:Nat):((E.back E').bf b).iJ o↔(E'.bf b).iJ o:=by
 show(((E.bf b).back (E'.bf b)).iJ o↔_);cases hb:E.bf b with
 | jb i =>
  obtain⟨_,h2,_⟩:=GR hf h hb;simp[fw.back,h2,fw.iJ]
 | _=>simp[fw.back]
include hf h in
theorem Q5{t c:Nat}(hb:E'.bf b = .gU t c):(E.back E').bf b = .gU t c:=by
 show(E.bf b).back (E'.bf b)=_;cases hr:E.bf b with
 | jb i =>
  obtain⟨_,h2,_⟩:=GR hf h hr;rw[hb] at h2;simp at h2
 | _=>simp[fw.back,hb]
include hf h in
theorem abc(hb:E'.bf b = .qI):(E.back E').bf b = .qI:=by
 show(E.bf b).back (E'.bf b)=_;cases hr:E.bf b with
 | jb i =>
  obtain⟨_,h2,_⟩:=GR hf h hr;rw[hb] at h2;simp at h2
 | _=>simp[fw.back,hb]
include hf h in
theorem abb:E'.nl.le (E.back E').nl :=
 ⟨λb o _ hc hv=>⟨(Q4 hf h b o).2 hc,hv⟩,λ_ _ h=>by simp at h,λ_ n hn=>⟨n,hn,bS _,λ_ _ _ hb=>⟨Q5 hf h hb,λcs _ hc=>⟨cs,hc,rfl⟩⟩⟩⟩
include hf h in
theorem aba:Fr E (E.back E'):=by
 refine⟨h.os,h.output,h.tape,h.size,h.g_,?_,?_,?_,?_,?_,?_,h.shape⟩
 .intro b o c hc hv;obtain⟨h1,h2⟩:=h.cell b o c ((fw.T6 _ _).2 hc) hv;exact⟨(Q4 hf h b o).2 h1,h2⟩
 .intro t n hn;obtain⟨n',h1,h2,h3⟩:=h.tok t n hn;refine⟨n',h1,h2,λhe b c hb=>?_⟩;obtain⟨h4,h5⟩:=h3 he b c (by show(E.bf b).ml=_;rw[hb];rfl);exact⟨Q5 hf h h4,h5⟩
 .intro b hb hr;have aW:(E.bf b).ml=E.bf b:=by rcases hr with hr | hr<;>rw[hr]<;>rfl
  obtain⟨h1,h2⟩:=h.same b hb (by show(E.bf b).ml=_\/(E.bf b).ml=_;rw[aW];exact hr);refine⟨h1,?_⟩;show(E.bf b).back (E'.bf b)=_;have xc : E'.bf b=(E.bf b).ml:=h2;rw[xc,aW]
  rcases hr with hr | hr<;>rw[hr]<;>rfl
 .intro b hb hr;have cB : (E.bf b).back (E'.bf b) = .qI:=hr;cases hq:E.bf b with
  | jb i=>rw[hq] at cB;simp[fw.back] at cB
  | qI=>exact .inl rfl
  | _ =>
   rw[hq] at cB;simp only[fw.back] at cB
   rcases h.D0 b hb cB with h' | ⟨j,h'⟩
   .have h' : (E.bf b).ml = .qI:=h';rw[hq] at h';simp[fw.ml] at h'
   .have h' : (E.bf b).ml = .jb j:=h';rw[hq] at h';simp[fw.ml] at h'
 .intro b t c hb hr;have cB : (E.bf b).back (E'.bf b) = .gU t c:=hr;cases hq:E.bf b with
  | jb i=>rw[hq] at cB;simp[fw.back] at cB
  | _ =>
   rw[hq] at cB;simp only[fw.back] at cB;obtain⟨c0,this⟩:=h.D1 b t c hb cB;have h' : (E.bf b).ml = .gU t c0:=this;rw[hq] at h'
   first | (simp[fw.ml] at h';done) | exact⟨c0,h'⟩
 .intro b i hb hr;have cB : (E.bf b).back (E'.bf b) = .jb i:=hr;cases hq:E.bf b with
  | jb j=>exact⟨j,rfl⟩
  | _ =>
   rw[hq] at cB;simp only[fw.back] at cB;obtain⟨c0,this⟩:=h.B4 b i hb cB;have h' : (E.bf b).ml = .jb c0:=this;rw[hq] at h';simp[fw.ml] at h'
end
section
variable {P:Program} {E:Env} {st:St} {a:Act} {o:Oper} {K:V->St->Prop} {Q:Exit->Act->World->Prop}
def ab0(hs:bH E st a){xs:List V}{vs:Array Value}(hx:RL E xs vs.toList)(hn:bO xs=ab)(hc:cz P f xs st.out λv D=>K v ⟨st.t,st.aD,D⟩):
 Calls P f vs E.w λe w' => ∃E' v x aM,e = .returned x/\E'.w=w' /\ Fr E E' /\ bH E' aM a/\R E' v x/\K v aM := by
 have hf:=hs.ok.fresh;refine(hc.2 E.call vs (λ_=>rfl) (ab1 hs.ok) (RL.p7 _ (KA E) hn hx)).mono ?_;rintro e w' ⟨v,x,E',σ',rfl,rfl,Mi,cu,hr,bj,hk⟩;have yU := aba hf bj;have hle:E.le (E.back E'):=yU.le λ_ _ h=>h
 have LP:=abb hf bj;refine⟨E.back E',v,x,⟨st.t,st.aD,σ'⟩,rfl,rfl,yU,⟨⟨?_,cu.aP,?_,cu.nt,λb cs hc=>eG.mono _ LP (cu.b9 b cs hc)⟩,?_,hs.defers,RL.mono _ hle hs.slot⟩,?_,hk⟩
 .intro b cs bV;obtain⟨h1,h2⟩:=cu.box b cs bV;exact⟨abc hf bj h1,h2.mono LP rfl⟩
 .intro b hb;have cc : E'.w.heap.size<=b:=hb;show(E.bf b).back (E'.bf b)=_;rw[hf b (yh bj.size cc)];exact cu.fresh b cc
 .refine qJ hs.dh hle (λb i cB aC=>?_) hs.dh.none;obtain⟨_,_,h3⟩:=GR hf bj cB;exact⟨by show(E.bf b).back (E'.bf b)=_;rw[cB];rfl,h3⟩
 .have h1:E'.nl.le (E.back E').nl:=LP;have h2:E'.le (E.back E'):=⟨h1.cell,λi b hb=>by rw[Mi i] at hb;simp at hb,h1.tok⟩;exact hr.mono _ h2
def Y7(hs:bH E st a){xs:List V}{vs:Array Value}(hx:RL E xs vs.toList)(hn:bO xs=ab)(hc:cz P f xs st.out λv D=>K v ⟨st.t,st.aD,D⟩)
 (hr:(execOp a.eval o).run P E.w=(callFunc f vs).run P E.w):o.wp P a E.w (eb E a o.dst K) Q:=by
 unfold Oper.wp;rw[hr,hc.1];simp only[Oper.upon_enter];refine(ab0 hs hx hn hc).mono ?_;rintro e w' ⟨E',v,x,aM,rfl,rfl,h1,h2,h3,h4⟩;exact⟨E',v,x,aM,rfl,h1,h2,h3,rfl,h4⟩
end
def yk{E:Env}:∀{xs ys:List V} {b o:Nat},eG E (xs++ys) b o↔eG E xs b o/\eG E ys b (o+xs.length)
 | [],ys,b,o=>by simp[eG]
 | x :: xs, ys, b, o => by
  simp only[iv,eG,yk (xs:=xs),dB,Kk];rw[show o+1+xs.length=o+(xs.length+1) from by omega]
def rR{E:Env}{k:Nat}:∀{l:List (List V)} {b o:Nat},gq E k l b o↔(∀x∈l,x.length=k)/\eG E l.flatten b o
 | [],b,o=>by simp[gq,eG]
 | x :: xs, b, o => by
  simp only[gq,lE,yk,rR (l:=xs),ff];constructor
  .rintro⟨h1,h2,h3,h4⟩;exact⟨⟨h1,h3⟩,h2,by rw[h1];exact h4⟩
  .rintro⟨⟨h1,h3⟩,h2,h4⟩;exact⟨h1,h2,h3,by rw[h1] at h4;exact h4⟩
def nr{k:Nat}:∀{l:List (List V)},(∀x∈l,x.length=k)->l.flatten.length=l.length*k
 | [],_=>by simp
 | x :: xs, h => by
  simp only[ff] at h;simp only[lE,bP,h.1,nr h.2,dB,jD,yj];omega
def Gx{E:Env}:∀{cs:List V} {b o:Nat},eG E cs b o->∃vs:List Value,RL E cs vs/\(∀(j:Nat) v,vs[j]?=aa v->E.w.cell? ⟨b,o+j,ag⟩=aa v) /\
 (∀v∈vs,v.oneCell' = ab)/\∀j,j<cs.length->(E.bf b).iJ (o+j)
 | [],_,_,_=>⟨[],by simp[RL],λj v h=>by simp at h,λv hv=>by simp at hv,λj hj=>by simp at hj⟩
 | x :: xs, b, o, h => by
  simp only[eG] at h;obtain⟨⟨c,h1,h2,h3,h4⟩,h5⟩:=h;obtain⟨vs,k1,k2,k3,k4⟩:=Gx h5;refine⟨c::vs,?_,λj v hv=>?_,λv hv=>?_,λj hj=>?_⟩
  .simp only[RL];exact⟨h4,k1⟩
  .cases j with
   | zero=>simp at hv;subst hv;exact h1
   | succ j=>simp at hv;rw[show o+(j+1)=o+1+j from by omega];exact k2 j v hv
  .rcases lF.1 hv with rfl | hv
   .exact h3
   .exact k3 v hv
  .cases j with
   | zero=>exact h2
   | succ j=>rw[show o+(j+1)=o+1+j from by omega];exact k4 j (by simpa using hj)
def BZ{E:Env}{b:Nat}:∀{cs:List V} {vs:List Value} {o:Nat},RL E cs vs->(∀v∈vs,v.oneCell' = ab)->(∀(j:Nat) v,vs[j]?=aa v->E.w.cell? ⟨b,o+j,ag⟩=aa v) ->
 (∀j,j<cs.length->(E.bf b).iJ (o+j))->eG E cs b o
 | [],_,_,_,_,_,_=>by simp[eG]
 | _::_,[],_,h,_,_,_=>by simp[RL] at h
 | x :: xs, v :: vs, o, h, h1, h2, h3 => by
  simp only[RL] at h;simp only[eG];refine⟨⟨v,by simpa using h2 0 v (by simp),by simpa using h3 0 (by simp),h1 v (by simp),h.1⟩,BZ h.2 (λu hu=>h1 u (by simp[hu])) (λj u hu=>?_) (λj hj=>?_)⟩
  .rw[show o+1+j=o+(j+1) from by omega];exact h2 (j+1) u (by simpa using hu)
  .rw[show o+1+j=o+(j+1) from by omega];exact h3 (j+1) (by simpa using hj)
structure Src(P:Program)(w:World)(size m:Nat)(ty:TypeId)(x:Value)(news:List Value):Prop where
 ty:∃d,P.underlying ty=aa d/\∀k,d≠.int k
 len:∀w',(Builtin.lenOf x).run P w' = .ok m w'
 cells:(Builtin.firstCells size m x).run P w = .ok news.toArray w
 pD : (Builtin.firstCells size m x).run P w.drew = .ok news.toArray w.drew
 size:news.length=m*size
section
variable {P:Program} {w:World} {t u ty e:TypeId} {i:TypeInfo} {z:Value}
variable{base:Option Addr}
def Xz(ht:P.underlying t=aa (.slice e))(hi:P.info? e=aa i){n:Nat}(hn:n<=cap){x:Value}(hx:Src P w i.size 0 u x []):
 (Builtin.append_ #[t,u] ty #[.slice base n cap,x]).run P w = .ok (.slice base n cap) w:=by
 obtain⟨d,hd,hk⟩:=hx.ty;cases base<;>simp[Builtin.append_,run_underlying ht,run_underlying hd,sizeOf,typeInfo,hi,hx.len,hn,hx.cells,storeCells]
def ON(ht:P.underlying t=aa (.slice e))(hi:P.info? e=aa i){g n:Nat}{cur:Array Value}{e' : TypeId}(hg:w.heap[g]?=aa (.cells cur e' (0,0)))
 {x:Value} {news:List Value} (hx:Src P w i.size m u x news) (h1:∀v∈news,v.oneCell' = ab) (pU:n+m<=cap) (pO:n*i.size+news.length<=cur.size) :
 (Builtin.append_ #[t,u] ty #[.slice (aa ⟨g,0,ag⟩) n cap,x]).run P w =
  .ok (.slice (aa ⟨g,0,ag⟩) (n+m) cap) (w.setRow g (cur.toList.take (n*i.size)++news++cur.toList.drop (n*i.size+news.length)).toArray):=by
 obtain⟨d,hd,hk⟩:=hx.ty;have eP:=run_storeCells_at (P:=P) g (n*i.size) e' news 0 cur w hg (by simpa using pO) h1;simp only[wO] at eP;simp[Builtin.append_,run_underlying ht,run_underlying hd,sizeOf,typeInfo,hi,hx.len,pU,hx.cells,l9,eP]
def OM(ht:P.underlying t=aa (.slice e))(hi:P.info? e=aa i)(hzv:i.zero=aa z){n:Nat}{ir:List Value}
 (ho:(Builtin.firstCells i.size n (.slice base n cap)).run P w.drew = .ok ir.toArray w.drew)
 {x:Value} {news:List Value} (hx:Src P w i.size m u x news) (hg:cap<n+m) (hb:(n+m)*i.bytes<=140737488355328) (hs:n+m<=9223372036854775807) :
 (Builtin.append_ #[t,u] ty #[.slice base n cap,x]).run P w =
  .ok (.slice (aa ⟨w.heap.size,0,ag⟩) (n+m) (grownCap w (n+m) cap e))
   (w.drew.alloc (.cells (ir++(news++(Builtin.zeroCells z.cells (grownCap w (n+m) cap e - (n+m))).toList)).toArray e)):=by
 obtain⟨d,hd,hk⟩:=hx.ty;have hn:¬(n+m<=cap):=by omega
 have ake : ¬(9223372036854775807<((n:Int)+(m:Int))):=by omega
 have pO:=growslice_fits (need:=n+m) (old:=cap) (bytes:=i.bytes) hg hb;have akd : ¬(281474976710656<Builtin.nextslicecap (n+m) cap*i.bytes):=by omega
 have kl : (Builtin.firstCells i.size m x).run P w.drew = .ok news.toArray w.drew:=hx.pD;simp[Builtin.append_,run_underlying ht,run_underlying hd,sizeOf,typeInfo,zeroValue,hi,hzv,hx.len,hn,ake,akd,Question.forced,ho,kl,newRow,grownCap];congr 2;apply DD;simp
end
variable{u:TypeId}
def Je{e':TypeId}(hu:P.underlying u=aa (.slice e')){t' : Tk}{m:List (List V)}{x:Value}(h:R E (.sl t' k m) x):
 ∃news,Src P E.w k m.length u x news/\RL E.nl m.flatten news/\(∀v∈news,v.oneCell' = ab)/\∀y∈m,y.length=k:=by
 simp only[R] at h;obtain⟨a,cap,rfl,_,h3,_⟩:=h;have Uw:∃d,P.underlying u=aa d/\∀k,d≠.int k:=⟨_,hu,λ_ h=>by simp at h⟩
 rcases h3 with rfl | ⟨b,o,rfl,hr⟩
 .refine⟨[],⟨Uw,λw' => by simp[Builtin.lenOf],?_,?_,by simp⟩,by simp[RL],λv hv=>by simp at hv,λy hy=>by simp at hy⟩ <;>
   cases a<;>simp[Builtin.firstCells,loadCells,loadCellsFrom]
 .obtain⟨h1,h2⟩:=rR.1 hr;obtain⟨vs,k1,k2,k3,_⟩:=Gx h2;have hl:=gh k1;rw[nr h1] at hl;have hc:∀(j:Nat) v,vs[j]?=aa v->E.w.cell? ((⟨b,o,ag⟩:Addr).add j)=aa v:=λj v hv=>by rw[l9];exact k2 j v hv
  refine⟨vs,⟨Uw,λw' => by simp[Builtin.lenOf],?_,?_,hl.symm⟩,k1,k3,h1⟩
  .have:=run_loadCells_list (P:=P) E.w ⟨b,o,ag⟩ vs hc
   simp only[Builtin.firstCells];rw[hl];exact this
  .have:=run_loadCells_list (P:=P) E.w.drew ⟨b,o,ag⟩ vs hc
   simp only[Builtin.firstCells];rw[hl];exact this
variable{l:List (List V)}
def V3(h3:l=[]\/∃b o,a=aa ⟨b,o,ag⟩/\gq E.nl k l b o):
 ∃ir,(Builtin.firstCells k l.length (.slice a l.length cap)).run P E.w.drew = .ok ir.toArray E.w.drew/\RL E.nl l.flatten ir/\(∀v∈ir,v.oneCell' = ab)/\(∀y∈l,y.length=k)/\ir.length=l.length*k:=by
 rcases h3 with rfl | ⟨b,o,rfl,hr⟩
 .refine⟨[],?_,by simp[RL],λv hv=>by simp at hv,λy hy=>by simp at hy,by simp⟩;cases a<;>simp[Builtin.firstCells,loadCells,loadCellsFrom]
 .obtain⟨h1,h2⟩:=rR.1 hr;obtain⟨vs,k1,k2,k3,_⟩:=Gx h2;have hl:=gh k1;rw[nr h1] at hl;have hc:∀(j:Nat) v,vs[j]?=aa v->E.w.cell? ((⟨b,o,ag⟩:Addr).add j)=aa v:=λj v hv=>by rw[l9];exact k2 j v hv
  refine⟨vs,?_,k1,k3,h1,hl.symm⟩
  have:=run_loadCells_list (P:=P) E.w.drew ⟨b,o,ag⟩ vs hc
  simp only[Builtin.firstCells];rw[hl];exact this
section
variable {P:Program} {E:Env} {st:St} {a:Act} {o:Oper} {K:V->St->Prop} {Q:Exit->Act->World->Prop}
def Gy{nb:Nat}{vs rest:List Value}{fr:Nat × Nat}(hl:∀y∈l,y.length=k)(hr:RL E'.nl l.flatten vs)(h1:∀v∈vs,v.oneCell' = ab)
 (hb:E'.w.heap[nb]?=aa (.cells (vs++rest).toArray e fr)) (hc:∀j,j<l.length*k->(E'.bf nb).iJ j):gq E'.nl k l nb 0:=by
 refine rR.2 ⟨hl,BZ hr h1 (λj v hv=>?_) (λj hj=>by rw[nr hl] at hj;simpa using hc j hj)⟩;have aC:=(fv.1 hv).1;simp[World.cell?,hb,tT aC,hv]
def F_(hs:bH E st a){ty:TypeId}{i:TypeInfo}{z:Value}(ht:P.underlying t=aa (.slice e))(hi:P.info? e=aa i)(hz:i.zero=aa z)(jv:z.cells.size=i.size)
 (nC:i.bytes<=4096) {vs vx:Value} {tk:Tk} {l m:List (List V)}
 (dc:(execOp a.eval o).run P E.w=((Builtin.append_ #[t,u] ty #[vs,vx]).run P E.w).andThen λv w' => .ok (.value v) w')
 (dj:R E (.sl tk i.size l) vs) {news:List Value} (sk:Src P E.w i.size m.length u vx news) (ti:RL E.nl m.flatten news) (fE:∀v∈news,v.oneCell' = ab) (hm:∀y∈m,y.length=i.size)
 (mg:l.length+m.length<=aK)
 (hk:match (generalizing:=false) tk with
   | .ba=>(∀Z,st.out.aP Z=ag->K (.sl (.tk Z) i.size (l++m)) ⟨st.t,st.aD,st.out.aY Z (l.length+m.length)⟩)\/K (.sl .no i.size (l++m)) st
   | .tk Z=>st.out.aP Z=aa l.length/\K (.sl (.tk Z) i.size (l++m)) ⟨st.t,st.aD,st.out.aY Z (l.length+m.length)⟩
   | .no=>False):o.wp P a E.w (eb E a o.dst K) Q:=by
 simp only[R] at dj;obtain⟨base,cap,rfl,AD,mi,fZ⟩:=dj;obtain⟨ir,hold,LF,Ln,eg,hlen⟩:=V3 (P:=P) (cap:=cap) mi;have Ev:(l.length+m.length)*i.bytes<=140737488355328:=by
  have:=Qr mg nC
  simp only[aK] at this;omega
 have EU:l.length+m.length<=9223372036854775807:=by simp only[aK] at mg;omega
 have cK:∀y∈l++m,y.length=i.size:=λy hy=>by
  rcases jC.1 hy with h | h
  .exact eg y h
  .exact hm y h
 have LD:RL E.nl (l++m).flatten (ir++news):=by rw[vf];exact vn LF ti
 have Tq:∀v∈ir++news,v.oneCell' = true:=λv hv=>by
  rcases jC.1 hv with h | h
  .exact Ln v h
  .exact fE v h
 have tg:=sk.size
 -- the ways on which the row is laid anew
 have grow:cap<l.length+m.length->(execOp a.eval o).run P E.w = .ok (.value (.slice (aa ⟨E.w.heap.size,0,ag⟩) (l.length+m.length) (grownCap E.w (l.length+m.length) cap e)))
  (E.w.drew.alloc (.cells (ir++(news++(Builtin.zeroCells z.cells (grownCap E.w (l.length+m.length) cap e - (l.length+m.length))).toList)).toArray e)):=λaC=>by
  rw[dc,OM (P:=P) ht hi hz hold sk aC Ev EU];rfl
 have idle:m=[]->(execOp a.eval o).run P E.w = .ok (.value (.slice base l.length cap)) E.w:=λh0=>by
  subst h0
  have:news=[]:=tS (by simpa using tg)
  subst this;rw[dc,Xz (P:=P) ht hi AD sk];rfl
 have rm:=grownCap_ge E.w (l.length+m.length) cap e;have size:cap<l.length+m.length->(ir++(news++(Builtin.zeroCells z.cells (grownCap E.w (l.length+m.length) cap e - (l.length+m.length))).toList)).toArray.size=grownCap E.w (l.length+m.length) cap e*i.size:=λ_=>by
  simp only[Qo,bP,BM,size_zeroCells,jv,hlen,tg];rw[<-Gq,<-jD,<-jD];congr 1;omega
 generalize grownCap E.w (l.length+m.length) cap e=nc at grow rm size;generalize xr:(Builtin.zeroCells z.cells (nc - (l.length+m.length))).toList=rest at grow size;have akn:ir++(news++rest)=(ir++news)++rest:=by simp
 rw[akn] at grow size
 -- the row laid anew,as the last of its line
 have To:∀Z,(E.aP Z=ag\/E.aP Z=aa l.length)->cap<l.length+m.length->0<m.length->K (.sl (.tk Z) i.size (l++m)) ⟨st.t,st.aD,st.out.aY Z (l.length+m.length)⟩ ->
  o.wp P a E.w (eb E a o.dst K) Q:=λZ bc aC gi hK=>by
  let E' : Env:={w:=E.w.drew.alloc (.cells ((ir++news)++rest).toArray e),bf:=λb=>if b=E.w.heap.size then .gU Z ((l.length+m.length)*i.size) else match E.bf b with | .gU t c=>if t=Z then .const else .gU t c | r=>r,aD:=E.aD,aP:=λt=>if t=Z then aa (l.length+m.length) else E.aP t}
  have hx:Ext E.w E'.w:=((Ext.refl _).drew).alloc _ _;have hD:∀b,b<E.w.heap.size->E'.bf b=match E.bf b with | .gU t c=>if t=Z then .const else .gU t c | r=>r:=λb hb=>by
   simp only[E'];rw[aA (by omega)]
  have Mz:E'.w.heap.size=E.w.heap.size+1:=by simp[E']
  have Mg:∀b,b<E.w.heap.size->∀t c,E'.bf b = .gU t c->E.bf b = .gU t c:=λb hb t c h=>by
   rw[hD b hb] at h;cases hq:E.bf b<;>rw[hq] at h<;>simp at h;split at h<;>simp at h;obtain⟨rfl,rfl⟩:=h;rfl
  have bj:Fr E E' := by
   refine⟨rfl,rfl,rfl,hx.size,hx.g_,?_,?_,?_,?_,?_,?_,λb c e hb=>⟨c,(hx.block b (lx hb)).trans hb,rfl⟩⟩
   .intro b o' c hc hv;have hb:=Vx hv;refine⟨?_,by rw[B9 (hx.block b hb)];exact hv⟩;rw[hD b hb];cases hq:E.bf b<;>rw[hq] at hc<;>simp only[]
    all_goals first | exact hc | (split<;>first | trivial | exact hc)
   .intro t n hn
    by_cases sn:t=Z
    .subst sn;have Mm : n=l.length:=by rcases bc with h | h<;>rw[h] at hn<;>simp at hn;exact hn.symm
     exact⟨l.length+m.length,by simp[E'],by omega,λh=>by omega⟩
    .refine⟨n,by simp only[E'];rw[aA sn];exact hn,bS _,λ_ b c hb=>?_⟩;have mn : b<E.w.heap.size:=by
      rcases wP b E.w.heap.size with h | h
      .exact h
      .rw[hs.ok.fresh b h] at hb;simp at hb
     refine⟨by rw[hD b mn,hb];simp[sn],λcs Cc bV=>⟨cs,by rw[hx.block b mn];exact bV,rfl⟩⟩
   .intro b hb hr;refine⟨hx.block b hb,?_⟩;rw[hD b hb]
    rcases hr with hr | hr<;>rw[hr]
   .intro b hb h;rw[hD b hb] at h;cases hq:E.bf b<;>rw[hq] at h<;>first | exact .inl rfl | (simp at h;done) | (simp only[] at h;split at h<;>simp at h)
   .intro b t c hb h;exact⟨c,Mg b hb t c h⟩
   .intro b i' hb h;rw[hD b hb] at h;cases hq:E.bf b<;>rw[hq] at h<;>try (simp at h;done)
    .exact⟨_,rfl⟩
    .simp only[] at h;split at h<;>simp at h
  have hle:E.le E' := bj.le λ_ _ h=>h
  unfold Oper.wp;rw[grow aC];refine⟨E',_,_,⟨st.t,st.aD,st.out.aY Z (l.length+m.length)⟩,rfl,bj,⟨⟨?_,?_,?_,?_,λb cs hc=>eG.mono _ bj.nl (hs.ok.b9 b cs hc)⟩,?_,hs.defers,RL.mono _ hle hs.slot⟩,?_,rfl,hK⟩
  .intro b cs bV;obtain⟨k1,k2⟩:=hs.ok.box b cs bV;have mn : b<E.w.heap.size:=by obtain⟨c,e,h3,_⟩:=k2;exact lx (w:=E.w) h3
   exact⟨by rw[hD b mn,k1],k2.mono bj.nl (hx.block b mn)⟩
  .intro t n lL;simp only[af.aY] at lL;simp only[E'];split at lL
   .rename_i h;rw[aE h];exact lL
   .rename_i h;rw[aA h];exact hs.ok.aP t n lL
  .intro b hb;rw[Mz] at hb;simp only[E'];rw[aA (by omega),hs.ok.fresh b (by omega)]
  .obtain⟨N,hN⟩:=hs.ok.nt;exact⟨max N (Z+1),λt ry => by simp only[E'];rw[aA (by omega)];exact hN t (by omega)⟩
  .exact qJ hs.dh hle (λb i' hr mn => ⟨by rw[hD b mn,hr],hx.block b mn⟩) hs.dh.none
  .have th:E'.w.heap[E.w.heap.size]?=aa (.cells ((ir++news)++rest).toArray e (0,0)):=heap_alloc_new E.w.drew _;have fY:E'.bf E.w.heap.size = .gU Z ((l.length+m.length)*i.size):=by simp[E']
   simp only[R,bP];refine⟨aa ⟨E.w.heap.size,0,ag⟩,nc,rfl,rm,.inr ⟨_,_,rfl,Gy cK (RL.mono _ bj.nl LD) Tq th (λj hj=>by rw[fY];simpa [fw.iJ] using hj)⟩,l.length+m.length,by simp[E'],bS _,λ_=>.inr ⟨_,_,_,rfl,fY,th,size aC⟩⟩
 -- the state where only a tip is new
 have YI:∀Z,(E.aP Z=ag\/E.aP Z=aa l.length)->m=[]->cap=l.length\/E.aP Z=aa l.length->K (.sl (.tk Z) i.size (l++m)) ⟨st.t,st.aD,st.out.aY Z (l.length+m.length)⟩ ->
  vq {E with aP:=λt=>if t=Z then aa l.length else E.aP t} i.size l.length base cap (.tk Z)->o.wp P a E.w (eb E a o.dst K) Q:=λZ bc rp _ hK cu=>by
  let E' : Env:={E with aP:=λt=>if t=Z then aa l.length else E.aP t}
  have bj:Fr E E' := yG (E' := E') hs.ok.fresh (Ext.refl _) (λ_ _=>rfl) (λt n hn=>by
   simp only[E'];split
   .rename_i h;subst h;rcases bc with h | h<;>rw[h] at hn<;>simp at hn;rw[hn]
   .exact hn)
  have hle:E.le E' := bj.le λ_ _ h=>h
  unfold Oper.wp;rw[idle rp];refine⟨E',_,_,⟨st.t,st.aD,st.out.aY Z (l.length+m.length)⟩,rfl,bj,⟨⟨?_,?_,hs.ok.fresh,?_,λb cs hc=>eG.mono _ bj.nl (hs.ok.b9 b cs hc)⟩,?_,hs.defers,RL.mono _ hle hs.slot⟩,?_,rfl,hK⟩
  .intro b cs bV;obtain⟨k1,k2⟩:=hs.ok.box b cs bV;exact⟨k1,k2.mono bj.nl rfl⟩
  .intro t n lL;subst rp;simp only[af.aY,eM,wO] at lL;simp only[E'];split at lL
   .rename_i h;rw[aE h];exact lL
   .rename_i h;rw[aA h];exact hs.ok.aP t n lL
  .obtain⟨N,hN⟩:=hs.ok.nt;exact⟨max N (Z+1),λt ry => by simp only[E'];rw[aA (by omega)];exact hN t (by omega)⟩
  .exact qJ hs.dh hle (λb i' hr mn => ⟨hr,rfl⟩) hs.dh.none
  .subst rp;simp only[R,eK];refine⟨base,cap,rfl,AD,?_,cu⟩
   rcases mi with h | ⟨b,o',h,hr⟩
   .exact .inl h
   .exact .inr ⟨b,o',h,gq.mono _ bj.nl hr⟩
 cases tk with
 | no=>exact hk.elim
 | ba =>
  simp only[vq] at fZ
  rcases hk with hk | hk
  .obtain⟨N,hN⟩:=hs.ok.nt;have L4:st.out.aP N=none:=by
    cases h:st.out.aP N with
    | none=>rfl
    | some n=>have:=hs.ok.aP N n h;rw[hN N (bS _)] at this;simp at this
   have hK:=hk N L4
   rcases J9 m.length with h0 | h0
   .have rp:=tS h0;exact YI N (.inl (hN N (bS _))) rp (.inl fZ) hK ⟨l.length,by simp,bS _,λ_=>.inl fZ⟩
   .exact To N (.inl (hN N (bS _))) (by omega) h0 hK
  .rcases J9 m.length with h0 | h0
   .have rp:=tS h0;refine dd hs (idle rp) ?_ hk;subst rp;simp only[R,eK];exact⟨base,cap,rfl,AD,mi,trivial⟩
   .refine Y_ hs (((Ext.refl _).drew).alloc _ _) (grow (by omega)) ?_ hk;have th:(E.w.drew.alloc (.cells ((ir++news)++rest).toArray e)).heap[E.w.heap.size]?=aa (.cells ((ir++news)++rest).toArray e (0,0)):=heap_alloc_new E.w.drew _;obtain⟨bj,_,_⟩:=FT hs (((Ext.refl E.w).drew).alloc ((ir++news)++rest).toArray e);simp only[R,bP];exact⟨aa ⟨E.w.heap.size,0,ag⟩,nc,rfl,rm,.inr ⟨_,_,rfl,Gy cK (RL.mono _ bj.nl LD) Tq th (λj _=>by rw[show({E with w:=E.w.drew.alloc (.cells ((ir++news)++rest).toArray e)}:Env).bf E.w.heap.size = .const from hs.ok.fresh _ (bS _)];trivial)⟩,trivial⟩
 | tk Z =>
  obtain⟨bc,hK⟩:=hk;have hE:=hs.ok.aP Z _ bc;obtain⟨n',h1,_,h3⟩:=fZ;rw[hE] at h1;simp only[a9] at h1;subst h1
  rcases J9 m.length with h0 | h0
  .have rp:=tS h0;exact YI Z (.inr hE) rp (.inr hE) hK ⟨l.length,by simp,bS _,h3⟩
  .rcases wP cap (l.length+m.length) with aC | pU
   .exact To Z (.inr hE) aC h0 hK
   .rcases h3 rfl with hc | ⟨b,cs,e',rfl,dU,fj,cW⟩
    .omega
    .have pO:l.length*i.size+news.length<=cs.size:=by
      rw[tg,cW,<-jD];exact sS _ pU
     have j8:=ON (P:=P) (ty:=ty) ht hi fj sk fE pU pO;have vY:∀j:Nat,(cs.toList.take (l.length*i.size)++news++cs.toList.drop (l.length*i.size+news.length)).toArray[j]?=if j<l.length*i.size then cs[j]? else if j<l.length*i.size+news.length then news[j - l.length*i.size]? else cs[j]?:=λj=>by
      have:=FR (c:=cs.toList) (vs:=news) (off:=l.length*i.size) (by simpa using pO) j
      simpa using this
     have tt:(cs.toList.take (l.length*i.size)++news++cs.toList.drop (l.length*i.size+news.length)).toArray.size=cs.size:=by
      simp;omega
     generalize (cs.toList.take (l.length*i.size)++news++cs.toList.drop (l.length*i.size+news.length)).toArray=new at j8 vY tt;have akp:l.length*i.size<=(l.length+m.length)*i.size:=sS _ (by omega)
     let E' : Env:={w:=E.w.setRow b new,bf:=λb' => if b' = b then .gU Z ((l.length+m.length)*i.size) else E.bf b',aD:=E.aD,aP:=λt=>if t=Z then aa (l.length+m.length) else E.aP t}
     have ja:∀b',b' ≠ b->E'.w.heap[b']?=E.w.heap[b']?:=λb' aW=>setRow_other E.w b b' new aW
     have mR:∀b',b' ≠ b->E'.bf b' = E.bf b' := λb' aW=>by simp only[E'];rw[aA aW]
     have cc : E'.w.heap[b]?=aa (.cells new e' (0,0)):=setRow_heap E.w b cs new e' _ fj;have qw:E'.bf b = .gU Z ((l.length+m.length)*i.size):=by simp[E']
     have aW:∀b' r,E.bf b' = r->(∀c,r≠.gU Z c)->b' ≠ b:=λb' r h h' => by rintro rfl;rw[dU] at h;exact h' _ h.symm
     have bj:Fr E E' := by
      refine⟨rfl,rfl,rfl,by simp[E'],Ef fj,?_,?_,?_,?_,?_,?_,λb' c' Cc hc=>by
       by_cases cE:b' = b
       .subst cE;rw[fj] at hc;simp only[a9,Obj.cells.injEq] at hc;obtain⟨rfl,rfl,_⟩:=hc;exact⟨new,cc,tt⟩
       .exact⟨c',(ja b' cE).trans hc,rfl⟩⟩
      .intro b' o' c hc hv
       by_cases cE:b' = b
       .subst cE;rw[dU] at hc;simp only[fw.iJ] at hc;refine⟨by rw[qw];simp only[fw.iJ];omega,?_⟩;simp only[World.cell?,fj] at hv;simp only[World.cell?,cc,vY,aE hc];exact hv
       .exact⟨by rw[mR b' cE];exact hc,by rw[B9 (ja b' cE)];exact hv⟩
      .intro t n hn
       by_cases sn:t=Z
       .subst sn;rw[hE] at hn;simp only[a9] at hn;exact⟨l.length+m.length,by simp[E'],by omega,λh=>by omega⟩
       .refine⟨n,by simp only[E'];rw[aA sn];exact hn,bS _,λ_ b' c AA=>?_⟩;have cE:b' ≠ b:=aW b' _ AA (λc' h=>by simp at h;exact sn h.1);exact⟨by rw[mR b' cE];exact AA,λcs' Cc bV=>⟨cs',by rw[ja b' cE];exact bV,rfl⟩⟩
      .intro b' _ hr;have cE:b' ≠ b:=by rcases hr with hr | hr<;>exact aW b' _ hr (λc h=>by simp at h)
       exact⟨ja b' cE,mR b' cE⟩
      .intro b' _ h;have cE:b' ≠ b:=by rintro rfl;rw[qw] at h;simp at h
       rw[mR b' cE] at h;exact .inl h
      .intro b' t c _ h
       by_cases cE:b' = b
       .subst cE;rw[qw] at h;simp at h;obtain⟨rfl,_⟩:=h;exact⟨_,dU⟩
       .rw[mR b' cE] at h;exact⟨c,h⟩
      .intro b' i' _ h;have cE:b' ≠ b:=by rintro rfl;rw[qw] at h;simp at h
       rw[mR b' cE] at h;exact⟨_,h⟩
     have hle:E.le E' := bj.le λ_ _ h=>h
     unfold Oper.wp;rw[dc,j8];refine⟨E',_,_,⟨st.t,st.aD,st.out.aY Z (l.length+m.length)⟩,rfl,bj,⟨⟨?_,?_,?_,?_,λb cs hc=>eG.mono _ bj.nl (hs.ok.b9 b cs hc)⟩,?_,hs.defers,RL.mono _ hle hs.slot⟩,?_,rfl,hK⟩
     .intro b' cs' bV;obtain⟨k1,k2⟩:=hs.ok.box b' cs' bV;have cE:b' ≠ b:=aW b' _ k1 (λc h=>by simp at h);exact⟨by rw[mR b' cE];exact k1,k2.mono bj.nl (ja b' cE)⟩
     .intro t n lL;simp only[af.aY] at lL;simp only[E'];split at lL
      .rename_i h;rw[aE h];exact lL
      .rename_i h;rw[aA h];exact hs.ok.aP t n lL
     .intro b' ri;have cE:b' ≠ b:=by
       rintro rfl
       have:=lx fj
       simp[E'] at ri;omega
      rw[mR b' cE];exact hs.ok.fresh b' (by simpa [E'] using ri)
     .obtain⟨N,hN⟩:=hs.ok.nt;exact⟨max N (Z+1),λt ry => by simp only[E'];rw[aA (by omega)];exact hN t (by omega)⟩
     .refine qJ hs.dh hle (λb' i' hr _=>?_) hs.dh.none;have cE:b' ≠ b:=aW b' _ hr (λc h=>by simp at h);exact⟨by rw[mR b' cE];exact hr,ja b' cE⟩
     .have awx:RL E'.nl (l++m).flatten (ir++news):=RL.mono _ bj.nl LD
      -- the cells of the row,as they now are
      have LC:gq E'.nl i.size (l++m) b 0:=by
       have EH:gq E.nl i.size l b 0:=by
        rcases mi with h | ⟨b2,o2,h,hr⟩
        .subst h;simp[gq]
        .simp only[a9,Addr.mk.injEq] at h;obtain⟨rfl,rfl,_⟩:=h;exact hr
       refine rR.2 ⟨cK,?_⟩;rw[vf];refine yk.2 ⟨(rR.1 (gq.mono _ bj.nl EH)).2,BZ (RL.mono _ bj.nl ti) fE (λj v hv=>?_) (λj hj=>?_)⟩
       .have hj:=(fv.1 hv).1;rw[nr eg];simp only[Env.VU,World.cell?,cc,vY];simp only[DS,da,bZ];rw[aA (show ¬(0+l.length*i.size+j<l.length*i.size) by omega),aE (show 0+l.length*i.size+j<l.length*i.size+news.length by omega)];rw[show 0+l.length*i.size+j - l.length*i.size=j from by omega];exact hv
       .rw[nr eg];rw[nr hm] at hj;simp only[Env.VT,qw,fw.iJ];rw[jD];omega
      simp only[R,bP];exact⟨aa ⟨b,0,ag⟩,cap,rfl,pU,.inr ⟨b,0,rfl,LC⟩,l.length+m.length,by simp[E'],bS _,λ_=>.inr ⟨b,new,e',rfl,qw,cc,tt.trans cW⟩⟩
end
section
variable {P:Program} {E:Env} {st:St} {a:Act} {o:Oper} {K:V->St->Prop} {Q:Exit->Act->World->Prop}
def Y'(hs:bH E st a)(ho:o.op = .move x\/o.op = .assign x)(hx:R E v (a.eval x))(hk:K v st):o.wp P a E.w (eb E a o.dst K) Q :=
 dd hs (by rcases ho with ho | ho<;>simp[execOp,ho]) hx hk
variable{vx vy:V}{y:Operand}
def avN(hs:bH E st a){c:Operand}{vc:V}(ho:o.op = .pick c x y)(hc:R E vc (a.eval c))(hx:R E vx (a.eval x))(hy:R E vy (a.eval y))
 (hk:match (generalizing:=false) vc with | .bool ab=>K vx st | .bool ak=>K vy st | _=>False):o.wp P a E.w (eb E a o.dst K) Q:=by
 cases vc<;>try exact False.elim hk
 rename_i b;simp only[R] at hc;cases b
 .exact dd hs (by simp[execOp,ho,hc,asBool]) hy hk
 .exact dd hs (by simp[execOp,ho,hc,asBool]) hx hk
def avq(hs:bH E st a)(ho:o.op = .alloc t)(hz:kv P t=aa zs)(hk:K (.ptr (.aD st.aD.length) 0) ⟨st.t,st.aD++[zs],st.out⟩):
 o.wp P a E.w (eb E a o.dst K) Q:=by
 obtain⟨i,z,h1,h2,h3,_⟩:=tR hz;refine Za hs (c:=z.cells) (e:=t) ?_ (rY h3) hk;simp[execOp,ho,Instr.alloc,zeroValue,typeInfo,h1,h2,newVar,newRow]
def avu(hs:bH E st a){n:Nat}(ho:o.op = .box t x)(hx:R E v (a.eval x))(hw:v.wd=aa n)(hk:K (.ptr (.aD st.aD.length) 0) ⟨st.t,st.aD++[v.cells],st.out⟩):
 o.wp P a E.w (eb E a o.dst K) Q:=by
 refine Za hs (c:=(a.eval x).cells) (e:=t) ?_ (ym hx hw).1 hk;simp[execOp,ho,Instr.box,newVar,newRow]
def avL(hs:bH E st a)(ho:o.op = .nilCheck x)(hx:R E v (a.eval x))
 (hk:match (generalizing:=false) v with | .ptr p o=>K (.ptr p o) st | .elt c o=>K (.elt c o) st | .fn (.func f) a b=>K (.fn (.func f) a b) st | _=>False):o.wp P a E.w (eb E a o.dst K) Q:=by
 cases v<;>try exact False.elim hk
 case ptr p off =>
  refine dd hs (v:=.ptr p off) (x:=a.eval x) ?_ hx hk;cases p<;>simp only[R] at hx
  .obtain⟨b,_,h⟩:=hx;simp[execOp,ho,h]
  .simp[execOp,ho,hx]
  .simp[execOp,ho,hx]
 case elt c off =>
  refine dd hs (v:=.elt c off) (x:=a.eval x) ?_ hx hk;simp only[R] at hx;obtain⟨b,o',h,_⟩:=hx;simp[execOp,ho,h]
 case fn f as bs =>
  cases f<;>try exact False.elim hk
  rename_i f;refine dd hs (v:=.fn (.func f) as bs) (x:=a.eval x) ?_ hx hk;simp only[R] at hx;obtain⟨fs,cs,h,_⟩:=hx;simp[execOp,ho,h]
variable{t':TypeId}
def avs(hs:bH E st a){op:BinOp}(ho:o.op = .binOp op t x y t')(hx:R E vx (a.eval x))(hy:R E vy (a.eval y))
 (hk:opt (vA op vx vy) (K2 K st)):o.wp P a E.w (eb E a o.dst K) Q:=by
 unfold opt K2 at hk;split at hk
 case h_2=>exact hk.elim
 rename_i v hv;unfold vA at hv;split at hv
 case h_2=>simp at hv
 rename_i k n k' m;split at hv
 case isFalse=>simp at hv
 rename_i fH;simp only[R] at hx hy
 by_cases H3:AZ op=ab
 .cases op<;>simp only[AZ,da] at H3
  .simp only[iP] at hv;split at hv
   case isTrue=>simp at hv
   rename_i hm;simp only[a9] at hv;subst hv;refine dd hs (x:=.int k (k.wrap (n*2^(Nat.min m.toNat k.bits)))) ?_ (by simp only[R]) hk;simp only[execOp,ho,hx,hy];simp[eqGuard,binOp,Op.shift,hm]
  .simp only[iP] at hv;split at hv
   case isTrue=>simp at hv
   rename_i hm;simp only[a9] at hv;subst hv;refine dd hs (x:=.int k (n.fdiv (2^(Nat.min m.toNat k.bits)))) ?_ (by simp only[R]) hk;simp only[execOp,ho,hx,hy];simp[eqGuard,binOp,Op.shift,hm]
 have fH:=fH.resolve_right H3;obtain rfl:=H9 fH;cases op<;>simp only[iP,a9] at hv<;>try (simp at hv;done)
 case shl=>simp[AZ] at H3
 case shr=>simp[AZ] at H3
 case quo =>
  split at hv
  case isTrue=>simp at hv
  rename_i hm;simp only[a9] at hv;subst hv;refine dd hs (by simp only[execOp,ho,hx,hy];simp only[eqGuard,binOp,Op.intDiv];simp[hm];rfl) (by simp only[R];try rfl) hk
 case rem =>
  split at hv
  case isTrue=>simp at hv
  rename_i hm;simp only[a9] at hv;subst hv;refine dd hs (by simp only[execOp,ho,hx,hy];simp only[eqGuard,binOp,Op.intDiv];simp[hm];rfl) (by simp only[R];try rfl) hk
 case andNot =>
  subst hv;refine dd hs (x:=.int k (k.wrap ((BitVec.ofInt k.bits n&&&~~~BitVec.ofInt k.bits m).toNat:Nat))) ?_ (by simp only[R]) hk;simp only[execOp,ho,hx,hy];simp only[eqGuard,binOp,Op.intBits];simp
 all_goals
  subst hv;refine dd hs (by simp only[execOp,ho,hx,hy];simp only[eqGuard,binOp,Op.intArith,Op.intCmp,Op.intBits];simp;first | rfl | simp) (by simp only[R];try rfl) hk
def Vq(x y:List UInt8):(x == y)=decide (x=y):=by
 rw[DH];simp
def avt(hs:bH E st a){op:BinOp}(ho:o.op = .binOp op t x y t')(hx:R E vx (a.eval x))(hy:R E vy (a.eval y))
 (hk:opt (Af op vx vy) (K2 K st)):o.wp P a E.w (eb E a o.dst K) Q:=by
 unfold opt K2 at hk;split at hk
 case h_2=>exact hk.elim
 rename_i v hv;unfold Af at hv;split at hv
 case h_2=>simp at hv
 rename_i n m;simp only[R] at hx hy;cases op<;>simp only[xT,a9] at hv<;>try (simp at hv;done)
 all_goals
  subst hv;refine dd hs (by simp only[execOp,ho,hx,hy];simp only[eqGuard,binOp,Op.stringOp,ByteArray.toList_mk];simp[Vq];rfl) (by simp[R]) hk
def avy(hs:bH E st a)(ho:o.op = .binOp .add t x y t')(hx:R E vx (a.eval x))(hy:R E vy (a.eval y))
 (hk:∃m n,vx = .aF m/\vy = .aF n/\m.length+n.length<=aK/\K (.aF (m++n)) st):o.wp P a E.w (eb E a o.dst K) Q:=by
 obtain⟨m,n,rfl,rfl,hb,hk⟩:=hk;simp only[R] at hx hy;have cW:¬(9223372036854775807<((m.length:Int)+(n.length:Int))):=by simp only[aK] at hb;omega
 have e1:(⟨m.toArray⟩:ByteArray).size=m.length:=by simp[ByteArray.size]
 have e2:(⟨n.toArray⟩:ByteArray).size=n.length:=by simp[ByteArray.size]
 refine dd hs (v:=.aF (m++n)) (x:=.string ⟨(m++n).toArray⟩) ?_ (by simp only[R]) hk;simp only[execOp,ho,hx,hy];simp only[eqGuard,binOp,Op.stringOp,e1,e2];have e3:(⟨m.toArray⟩:ByteArray)++(⟨n.toArray⟩:ByteArray)=⟨(m++n).toArray⟩:=by
  apply ByteArray.ext;simp[ByteArray.data_append]
 simp[IntKind.max,IntKind.signed,IntKind.bits,cW,e3]
def Y5(hs:bH E st a){neg:Bool}{op:BinOp}(mo:op=if neg then .neq else .eql)(ht:P.underlying t=aa .bool)(ho:o.op = .binOp op t x y t')(hx:R E vx (a.eval x))(hy:R E vy (a.eval y))
 (hk:opt (yD neg vx vy) (K2 K st)):o.wp P a E.w (eb E a o.dst K) Q:=by
 unfold opt K2 at hk;split at hk
 case h_2=>exact hk.elim
 rename_i v hv;unfold yD at hv;split at hv
 case h_2=>simp at hv
 rename_i m n;simp only[R] at hx hy;simp only[a9] at hv;subst hv;subst mo;cases neg
 .refine dd hs (x:=.bool (decide (m=n))) ?_ (by simp[R]) hk;simp only[execOp,ho,hx,hy];simp[eqGuard,run_eql_bool E.w t m n ht];cases m<;>cases n<;>rfl
 .refine dd hs (x:=.bool (!decide (m=n))) ?_ (by simp[R]) hk;simp only[execOp,ho,hx,hy];simp[eqGuard,run_neq_bool E.w t m n ht];cases m<;>cases n<;>rfl
def avM(hs:bH E st a)(ho:o.op = .unOp .not t x)(hx:R E v (a.eval x))(hk:match (generalizing:=false) v with | .bool b=>K (.bool (!b)) st | _=>False):
 o.wp P a E.w (eb E a o.dst K) Q:=by
 cases v<;>try exact False.elim hk
 simp only[R] at hx;exact dd hs (by simp[execOp,ho,hx,Op.unary];rfl) (by simp only[R]) hk
def avH(hs:bH E st a)(ho:o.op = .call {callee:=.builtin .len,args:=#[x],argTypes:=#[t]})(ht:P.underlying t=aa (.slice e))(hx:R E v (a.eval x))
 (hk:match (generalizing:=false) v with | .sl _ _ l=>K (.int .i64 l.length) st | .raw (.slice _ n _)=>K (.int .i64 n) st | _=>False):o.wp P a E.w (eb E a o.dst K) Q:=by
 cases v<;>try exact False.elim hk
 case raw u =>
  cases u<;>try exact False.elim hk
  simp only[R] at hx;exact dd hs (by simp[execOp,ho,resolve,invoke,builtin,Builtin.len_,run_underlying ht,hx];rfl) (by simp[R,goInt]) hk
 simp only[R] at hx;obtain⟨b,c,h,_⟩:=hx;exact dd hs (by simp[execOp,ho,resolve,invoke,builtin,Builtin.len_,run_underlying ht,h];rfl) (by simp[R,goInt]) hk
def avI(hs:bH E st a)(ho:o.op = .call {callee:=.builtin .len,args:=#[x],argTypes:=#[t]})(ht:P.underlying t=aa .string)(hx:R E v (a.eval x))
 (hk:match (generalizing:=false) v with | .aF s=>K (.int .i64 s.length) st | _=>False):o.wp P a E.w (eb E a o.dst K) Q:=by
 cases v<;>try exact False.elim hk
 simp only[R] at hx;exact dd hs (by simp[execOp,ho,resolve,invoke,builtin,Builtin.len_,run_underlying ht,hx];rfl) (by simp[R,goInt,ByteArray.size]) hk
variable{i:Nat}
def avC(hs:bH E st a){s:TypeId}{n:Nat}{fs:Array Field}{f:Field}(ho:o.op = .fieldAddr s x i)(ht:P.underlying s=aa (.struct fs))(hf:fs[i]?=aa f)
 (hn:eD P f.type=aa n) (CJ:n≠0) (hx:R E v (a.eval x)) (hk:match (generalizing:=false) v with | .ptr p o=>K (.ptr p (o+f.offset)) st | .elt c o=>K (.elt c (o+f.offset)) st | _=>False) :
 o.wp P a E.w (eb E a o.dst K) Q:=by
 have run:∀b off:Nat,(Instr.fieldAt s (.pointer (aa ⟨b,off,ag⟩)) i).run P E.w = .ok (.pointer (aa ⟨b,off+f.offset,ag⟩)) E.w:=λb off=>by
  simp[Instr.fieldAt,run_underlying ht,hf,Instr.sureAddr,fieldPlace,pk hn,CJ,l9]
 cases v<;>try exact False.elim hk
 case ptr p off =>
  cases p with
  | aD j =>
   simp only[R] at hx;obtain⟨b,hb,h⟩:=hx;exact dd hs (by simp[execOp,ho,h,run];rfl) (by simp only[R];exact⟨b,hb,rfl⟩) hk
  | out b =>
   simp only[R] at hx;exact dd hs (by simp[execOp,ho,hx,run];rfl) (by simp only[R]) hk
  | kB b =>
   simp only[R] at hx;exact dd hs (by simp[execOp,ho,hx,run];rfl) (by simp only[R]) hk
 case elt c off =>
  simp only[R] at hx;obtain⟨b,o',h,hr⟩:=hx;exact dd hs (by simp[execOp,ho,h,run];rfl) (by simp only[R];exact⟨b,o',by rw[Gq],hr⟩) hk
def avB(hs:bH E st a)(ho:o.op = .extract x i)(hx:R E v (a.eval x))(hk:match (generalizing:=false) v with | .bt vs=>opt vs[i]? (K2 K st) | _=>False):
 o.wp P a E.w (eb E a o.dst K) Q:=by
 cases v<;>try exact False.elim hk
 rename_i vs;simp only[opt,K2] at hk;cases hu:vs[i]? with
 | none=>rw[hu] at hk;exact False.elim hk
 | some u =>
  rw[hu] at hk;simp only[R] at hx;obtain⟨us,h,hr⟩:=hx;obtain⟨y,h1,h2⟩:=rT hr i u hu;have xa : us[i]?=aa y:=by simpa using h1
  exact dd hs (by simp[execOp,ho,h,Instr.extract,xa]) h2 hk
def avK(hs:bH E st a){f:Fn}{first cap:Array Operand}{as bs:List V}(ho:o.op = .makeFunc f first cap)(ha:RL E as (first.toList.map a.eval))(hb:RL E bs (cap.toList.map a.eval))(hk:K (.fn f as bs) st):
 o.wp P a E.w (eb E a o.dst K) Q:=by
 refine dd hs (x:=.func f (first.map a.eval) (cap.map a.eval)) (by simp[execOp,ho,Instr.makeFunc]) ?_ hk;simp only[R];exact⟨_,_,rfl,by simpa using ha,by simpa using hb⟩
def avA(hs:bH E st a){src dst:TypeId}{k k' : IntKind}(ho:o.op = .convert src dst x)(h1:P.underlying src=aa (.int k'))(h2:P.underlying dst=aa (.int k))(hx:R E v (a.eval x))
 (hk:match (generalizing:=false) v with | .int _ n=>K (.int k (k.wrap n)) st | _=>False):o.wp P a E.w (eb E a o.dst K) Q:=by
 cases v<;>try exact False.elim hk
 simp only[R] at hx;exact dd hs (by simp[execOp,ho,hx,convert,run_underlying h1,run_underlying h2,Conv.intToInt];rfl) (by simp only[R]) hk
def avE(hs:bH E st a){n:Nat}{i:Operand}{vi:V}(ho:o.op = .indexAddr t x i)(ht:P.underlying t=aa (.slice e))(hn:eD P e=aa n)(hx:R E vx (a.eval x))(hi:R E vi (a.eval i))
 (hk:match (generalizing:=false) vx with
   | .sl _ k' l=>k' = n/\JM l vi λc=>K (.elt c 0) st
   | .raw (.slice (aa ⟨b,o,ag⟩) m _)=>∃ik j,vi = .int ik j/\0<=j/\j<m/\K (.ptr (.out b) (o+j.toNat*n)) st
   | _=>False):o.wp P a E.w (eb E a o.dst K) Q:=by
 cases vx<;>try exact False.elim hk
 case raw u =>
  split at hk
  .simp_all
  .rename_i b off m cap e;simp only[V.raw.injEq] at e;subst e;obtain⟨ik,j,rfl,g1,g2,hk⟩:=hk;simp only[R] at hx hi;refine dd hs (v:=.ptr (.out b) (off+j.toNat*n)) (x:=.pointer (aa ⟨b,off+j.toNat*n,ag⟩)) ?_ (by simp only[R]) hk;simp[execOp,ho,hx,hi,Instr.indexAt,asIntOf,run_underlying ht,g1,g2,pk hn,l9]
  .exact hk.elim
 rename_i tk k' l;obtain⟨rfl,ki,m,c,rfl,hm,hc,hk⟩:=hk;simp only[R] at hx hi;obtain⟨base,cap,h,_,h3,_⟩:=hx;have aC:=(fv.1 hc).1
 rcases h3 with h3 | ⟨b,off,rfl,hr⟩
 .subst h3;simp at hc
 .have vT:eG E.nl c b (off+m.toNat*k'):=by
   obtain⟨h1,h2⟩:=rR.1 hr;have MB:l=l.take m.toNat++c::l.drop (m.toNat+1):=by
    have:=rQ m.toNat l
    rw[mJ aC] at this;rw[(fv.1 hc).2] at this;exact this.symm
   rw[MB,vf,lE,yk,yk] at h2;have hl:(l.take m.toNat).flatten.length=m.toNat*k' := by
    rw[nr (λx hx=>h1 x (BU hx))];rw[jj,yi (by omega)]
   rw[hl] at h2;simpa using h2.2.1
  have mn : m<(l.length:Int):=by omega
  refine dd hs (v:=.elt c 0) (x:=.pointer (aa ⟨b,off+m.toNat*k',ag⟩)) ?_ (by simp only[R];exact⟨b,off+m.toNat*k',rfl,vT⟩) hk;simp[execOp,ho,h,hi,Instr.indexAt,asIntOf,run_underlying ht,hm,mn,pk hn,l9]
def avF(hs:bH E st a){n:Nat}{i:Operand}{vi:V}(ho:o.op = .indexAddr t x i)(ht:P.underlying t=aa (.array m e))(hn:eD P e=aa n)(hx:R E vx (a.eval x))(hi:R E vi (a.eval i))
 (hk:match (generalizing:=false) vx with
   | .ptr p o=>∃kk j,vi = .int kk j/\0<=j/\j<(m:Nat)/\K (.ptr p (o+j.toNat*n)) st
   | .elt c o=>∃kk j,vi = .int kk j/\0<=j/\j<(m:Nat)/\K (.elt c (o+j.toNat*n)) st
   | _=>False):o.wp P a E.w (eb E a o.dst K) Q:=by
 have run:∀(b off:Nat) (kk:IntKind) (j:Int),0<=j->j<(m:Nat)->(Instr.indexAt t (.pointer (aa ⟨b,off,ag⟩)) (.int kk j)).run P E.w = .ok (.pointer (aa ⟨b,off+j.toNat*n,ag⟩)) E.w:=λb off kk j h0 h1=>by
  simp[Instr.indexAt,asIntOf,run_underlying ht,Instr.sureAddr,h0,h1,pk hn,l9]
 cases vx<;>try exact False.elim hk
 case ptr p off =>
  obtain⟨kk,j,rfl,h0,h1,hk⟩:=hk;simp only[R] at hi;cases p with
  | aD q =>
   simp only[R] at hx;obtain⟨b,hb,h⟩:=hx;exact dd hs (by simp[execOp,ho,h,hi,run _ _ _ _ h0 h1];rfl) (by simp only[R];exact⟨b,hb,rfl⟩) hk
  | out b =>
   simp only[R] at hx;exact dd hs (by simp[execOp,ho,hx,hi,run _ _ _ _ h0 h1];rfl) (by simp only[R]) hk
  | kB b =>
   simp only[R] at hx;exact dd hs (by simp[execOp,ho,hx,hi,run _ _ _ _ h0 h1];rfl) (by simp only[R]) hk
 case elt c off =>
  obtain⟨kk,j,rfl,h0,h1,hk⟩:=hk;simp only[R] at hi hx;obtain⟨b,o',h,hr⟩:=hx;exact dd hs (by simp[execOp,ho,h,hi,run _ _ _ _ h0 h1];rfl) (by simp only[R];exact⟨b,o',by rw[Gq],hr⟩) hk
def avG(hs:bH E st a){i:Operand}{vi:V}(ho:o.op = .index t x i)(ht:P.underlying t=aa .string)(hx:R E vx (a.eval x))(hi:R E vi (a.eval i))
 (hk:match (generalizing:=false) vx with | .aF s=>∃k n c,vi = .int k n/\0<=n/\s[n.toNat]?=aa c/\K (.int .u8 c.toNat) st | _=>False):o.wp P a E.w (eb E a o.dst K) Q:=by
 cases vx<;>try exact False.elim hk
 rename_i s;obtain⟨k,n,c,rfl,hn,hc,hk⟩:=hk;simp only[R] at hx hi;have aC:=(fv.1 hc).1;have mn : n<((⟨s.toArray⟩:ByteArray).size:Int):=by simp[ByteArray.size];omega
 refine dd hs (v:=.int .u8 c.toNat) (x:=.int .u8 c.toNat) ?_ (by simp only[R]) hk
 have:=run_index_string (P:=P) E.w t ⟨s.toArray⟩ k n ht
 rw[yz ⟨hn,mn⟩] at this;simp only[execOp,ho,hx,hi,Sem.run_bind,this,Result.andThen_ok];have hg:(⟨s.toArray⟩:ByteArray)[n.toNat]'(by simp[ByteArray.size];exact aC)=c:=(fv.1 hc).2;simp[hg]
end
def wU:Nat->Value->Value->Option Bool
 | 1,.int k a,.int k' b=>if k=k' then aa (decide (a=b)) else ag
 | 2,.string a,.string b=>aa (a.toList == b.toList)
 | 0,.bool a,.bool b=>aa (a == b)
 | _,_,_=>ag
section
variable {P:Program} {w:World}
def rZ(xs ys:Array Value):List (Nat × Nat)->Option Bool
 | []=>aa ab
 | (j, k) :: js =>
  match xs[j]?,ys[j]? with
  | some x,aa y=>(wU k x y).bind λb=>(rZ xs ys js).map (b&&·)
  | _,_=>ag
def K0{xs ys:Array Value}:∀{l m:List (Nat × Nat)} {b:Bool},rZ xs ys (l++m)=aa b->∃b1 b2,rZ xs ys l=aa b1/\rZ xs ys m=aa b2/\b=(b1&&b2)
 | [],m,b,h=>⟨ab,b,rfl,h,by simp⟩
 | (j, k) :: l, m, b, h => by
  simp only[iv,rZ] at h ⊢;split at h
  .simp only[iI,dk] at h;obtain⟨c,h1,d,h2,rfl⟩:=h;obtain⟨b1,b2,k1,k2,rfl⟩:=K0 h2;exact⟨c&&b1,b2,by simp[h1,k1],k2,by simp[Bool.and_assoc]⟩
  .simp at h
def At(P:Program)(t:TypeId)(xs:Array Value)(off:Nat)(x:Value):Prop :=
 match iw P t with
 | some ab=>x = .agg (xs.extract off (off+P.cellsOf t))/\off+P.cellsOf t<=xs.size
 | some ak=>xs[off]?=aa x
 | none=>False
def Ri{i:TypeInfo}(h:P.info? t=aa i):P.cellsOf t=i.size:=by simp[Program.cellsOf,h]
variable{g:Bool}{off:Nat}
def I8{i:TypeInfo}(hi:P.info? u=aa i){xs:Array Value}{o':Nat}(hle:o' + P.cellsOf u<=P.cellsOf t)(cW:off+P.cellsOf t<=xs.size)(hg:iw P u=aa g)(gi:g=ak->P.cellsOf u=1):
 ∃y,(part u (xs.extract off (off+P.cellsOf t)) o').run P w = .ok y w/\At P u xs (off+o') y:=by
 have hs:(sizeOf u).run P w = .ok (P.cellsOf u) w:=by simp[sizeOf,typeInfo,hi,Ri hi]
 unfold At;rw[hg];cases g
 .have h1:=gi rfl;have aC:off+o' < xs.size:=by omega
  refine⟨xs[off+o'],?_,by simp[aC]⟩
  have:(xs.extract off (off+P.cellsOf t))[o']?=aa xs[off+o']:=by
   rw[Zo];simp[mH aC];omega
  simp[part,Bo hg,this]
 .refine⟨_,by simp[part,Bo hg,hs];rfl,?_,by omega⟩;congr 2;omega
def WB{n:Nat}{pl:List (Nat × Nat)}(h:xP P n u off=aa pl):∃i g,P.info? u=aa i/\iw P u=aa g/\(g=ak->P.cellsOf u=1):=by
 cases n with
 | zero=>simp[xP] at h
 | succ n =>
  simp only[xP] at h;split at h
  .rename_i i hi hu;split at h<;>simp at h;rename_i hc;exact⟨_,ak,hi,by simp[iw,hu],λ_=>hc⟩
  .rename_i i hi hu;split at h<;>simp at h;rename_i hc;exact⟨_,ak,hi,by simp[iw,hu],λ_=>hc⟩
  .rename_i i hi hu;split at h<;>simp at h;rename_i hc;exact⟨_,ak,hi,by simp[iw,hu],λ_=>hc⟩
  .rename_i i hi hu;exact⟨_,ab,hi,by simp[iw,hu],λh=>by simp at h⟩
  .rename_i i hi hu;exact⟨_,ab,hi,by simp[iw,hu],λh=>by simp at h⟩
  .simp at h
def aqK:∀(n:Nat) (t:TypeId) (off:Nat) (pl:List (Nat × Nat)),xP P n t off=aa pl->∀(d:Nat),n<=d->∀(xs ys:Array Value) (x y:Value),At P t xs off x->At P t ys off y ->
 ∀b,rZ xs ys pl=aa b->(Op.equalIn d t x y).run P w = .ok b w:=by
 intro n;induction n with
 | zero=>intro t off pl h;simp[xP] at h
 | succ n ih =>
  intro t off pl h d hd xs ys x y hx hy b hb;obtain⟨d,rfl⟩:∃d',d=d' + 1:=⟨d - 1,by omega⟩;have one:∀k,iw P t=aa ak->pl=[(off,k)]->wU k x y=aa b:=λk hg hp=>by
   subst hp;unfold At at hx hy;rw[hg] at hx hy;have kl : xs[off]?=aa x:=hx;have AS : ys[off]?=aa y:=hy;simp only[rZ,kl,AS,iI,tW,a9] at hb;obtain⟨c,h1,h2⟩:=hb;rw[h1];simpa using h2
  simp only[xP] at h;split at h
  .rename_i i hi hu;split at h
   case isFalse=>simp at h
   simp only[a9] at h;have hc:=one 0 (by simp[iw,hu]) h.symm;unfold wU at hc;split at hc<;>simp at *;subst hc;exact run_equalIn_bool w d t _ _ hu
  .rename_i i k hi hu;split at h
   case isFalse=>simp at h
   simp only[a9] at h;have hc:=one 1 (by simp[iw,hu]) h.symm;unfold wU at hc;split at hc<;>simp at *;obtain⟨rfl,hc⟩:=hc;subst hc;exact run_equalIn_int w d t _ _ _ _ hu
  .rename_i i hi hu;split at h
   case isFalse=>simp at h
   simp only[a9] at h;have hc:=one 2 (by simp[iw,hu]) h.symm;unfold wU at hc;split at hc<;>simp at *;subst hc;exact run_equalIn_string w d t _ _ hu
  .rename_i i fs hi hu;split at h
   .simp at h
   rename_i eP;unfold At at hx hy;have hg:iw P t=aa true:=by simp[iw,hu]
   rw[hg] at hx hy;obtain⟨rfl,qB⟩:=hx;obtain⟨rfl,qC⟩:=hy;have vX:P.fieldsOf t=fs:=by simp[Program.fieldsOf,hu]
   rw[run_equalIn_struct w d t _ _ (by rw[vX];exact hu) (by simpa using eP),vX];clear hu vX eP;clear one;generalize fs.toList=l at h;revert b pl;induction l with
   | nil=>intro pl b hb h;simp[IZ] at h;subst h;simp[rZ] at hb;subst hb;simp[Op.eqFields]
   | cons f l MN =>
    intro pl b hb h;simp only[IZ] at h;split at h
    .simp at h
    rename_i hc;simp only[iI,dk] at h;obtain⟨p1,h1,p2,h2,rfl⟩:=h;obtain⟨b1,b2,e1,e2,rfl⟩:=K0 hb;obtain⟨i',g,du,rl,lK⟩:=WB h1;have hn:f.name ≠ "_" := λe=>hc (.inl e)
    have hle:f.offset+P.cellsOf f.type<=P.cellsOf t:=by omega
    obtain⟨u,r1,a1⟩:=I8 (P:=P) (w:=w) du hle qB rl lK;obtain⟨v,r2,a2⟩:=I8 (P:=P) (w:=w) du hle qC rl lK;have r3:=ih f.type (off+f.offset) p1 h1 d (by omega) xs ys u v a1 a2 b1 e1;have r4:=MN p2 b2 e2 h2;simp only[Op.eqFields,hn,rE,C9,cm,Sem.run_bind,r1,r2,r3,Result.andThen_ok];cases b1
    .simp
    .simpa using r4
  .rename_i i k e hi hu;split at h
   case h_2=>simp at h
   rename_i ie AF;unfold At at hx hy;have hg:iw P t=aa true:=by simp[iw,hu]
   rw[hg] at hx hy;obtain⟨rfl,qB⟩:=hx;obtain⟨rfl,qC⟩:=hy;rw[run_equalIn_array w d _ _ hu AF];clear hu;clear one;generalize bX k=l at h;revert b pl;induction l with
   | nil=>intro pl b hb h;simp[I0] at h;subst h;simp[rZ] at hb;subst hb;simp[Op.eqItems]
   | cons j l MN =>
    intro pl b hb h;simp only[I0] at h;split at h
    .simp at h
    rename_i hc;simp only[iI,dk] at h;obtain⟨p1,h1,p2,h2,rfl⟩:=h;obtain⟨b1,b2,e1,e2,rfl⟩:=K0 hb;obtain⟨i',g,du,rl,lK⟩:=WB h1;have hle:j*P.cellsOf e+P.cellsOf e<=P.cellsOf t:=by omega
    obtain⟨u,r1,a1⟩:=I8 (P:=P) (w:=w) du hle qB rl lK;obtain⟨v,r2,a2⟩:=I8 (P:=P) (w:=w) du hle qC rl lK;have r3:=ih e (off+j*P.cellsOf e) p1 h1 d (by omega) xs ys u v a1 a2 b1 e1;have r4:=MN p2 b2 e2 h2;simp only[Op.eqItems,Sem.run_bind,r1,r2,r3,Result.andThen_ok];cases b1
    .simp
    .simpa using r4
  .simp at h
end
section
variable {P:Program} {E:Env} {st:St} {a:Act} {o:Oper} {K:V->St->Prop} {Q:Exit->Act->World->Prop}
def bool_beq(x y:Bool):(x == y)=decide (x=y):=by cases x<;>cases y<;>rfl
def Sl{xs ys:Array Value}:∀{ks:List Nat} {vx vy:List V} {us ws:List Value} {b:Bool} (pl:List (Nat × Nat)) (off:Nat),fQ ks vx vy=aa b->RL E vx us->RL E vy ws ->
 (∀(j:Nat) u,us[j]?=aa u->xs[off+j]?=aa u)->(∀(j:Nat) u,ws[j]?=aa u->ys[off+j]?=aa u)->pl.map (·.2)=ks->pl.map (·.1)=List.range' off pl.length->rZ xs ys pl=aa b
 | [], vx, vy, us, ws, b, pl, off, h, hx, hy, h1, h2, h3, h4 => by
  have:pl=[]:=by simpa using h3
  subst this;cases vx<;>cases vy<;>simp[fQ] at h;subst h;simp[rZ]
 | k :: ks, vx, vy, us, ws, b, pl, off, h, hx, hy, h1, h2, h3, h4 => by
  obtain⟨⟨j,k'⟩,pl,rfl⟩:∃p q,pl=p::q:=by cases pl with | nil=>simp at h3 | cons p q=>exact⟨p,q,rfl⟩
  simp only[ch,ig,dB,DN] at h3 h4;obtain⟨rfl,h3⟩:=h3;obtain⟨rfl,h4⟩:=h4;have step:∀{x y:V} {Pn Po : List V} {c d:Bool},vx=x::Pn -> vy=y::Po -> (∀u v,R E x u->R E y v->wU k' u v=aa c)->fQ ks Pn Po = aa d->b=(c&&d)->rZ xs ys ((j,k')::pl)=aa b :=
   λ{x y Pn Po c d} e1 e2 hc hd hb=>by
    subst e1;subst e2;cases us with
    | nil=>simp[RL] at hx
    | cons u us =>
     cases ws with
     | nil=>simp[RL] at hy
     | cons v ws =>
      simp only[RL] at hx hy;have hu:=h1 0 u (by simp);have hv:=h2 0 v (by simp);simp only[wO] at hu hv;have ih:=Sl (ks:=ks) (us:=us) (ws:=ws) pl (j+1) hd hx.2 hy.2 (λi u hu=>by rw[show j+1+i=j+(i+1) from by omega];exact h1 (i+1) u (by simpa using hu))
       (λi u hu=>by rw[show j+1+i=j+(i+1) from by omega];exact h2 (i+1) u (by simpa using hu)) h3 h4
      simp only[rZ,hu,hv,hc u v hx.1 hy.1,ih,wQ,tW,hb]
  unfold fQ at h;split at h
  .simp at *
  .rename_i hk;simp only[ig] at hk;obtain⟨rfl,rfl⟩:=hk;split at h
   case isFalse=>simp at h
   rename_i fH;obtain rfl:=H9 fH;simp only[dk] at h;obtain⟨d,hd,rfl⟩:=h;exact step rfl rfl (λu v hu hv=>by simp only[R] at hu hv;subst hu;subst hv;simp[wU]) hd rfl
  .rename_i hk;simp only[ig] at hk;obtain⟨rfl,rfl⟩:=hk;simp only[dk] at h;obtain⟨d,hd,rfl⟩:=h;exact step rfl rfl (λu v hu hv=>by simp only[R] at hu hv;subst hu;subst hv;simp[wU,Vq]) hd rfl
  .rename_i hk;simp only[ig] at hk;obtain⟨rfl,rfl⟩:=hk;simp only[dk] at h;obtain⟨d,hd,rfl⟩:=h;exact step rfl rfl (λu v hu hv=>by simp only[R] at hu hv;subst hu;subst hv;simp[wU,bool_beq]) hd rfl
  .simp at h
def Hd:∀{ks:List Nat} {vx vy:List V} {b:Bool},fQ ks vx vy=aa b->vx.length=ks.length/\vy.length=ks.length
 | [],vx,vy,b,h=>by cases vx<;>cases vy<;>simp[fQ] at h;simp
 | k :: ks, vx, vy, b, h => by
  unfold fQ at h;split at h
  .simp at *
  .rename_i hk;simp only[ig] at hk;obtain⟨rfl,rfl⟩:=hk;split at h
   case isFalse=>simp at h
   simp only[dk] at h;obtain⟨d,hd,_⟩:=h
   have:=Hd hd;simp[this]
  .rename_i hk;simp only[ig] at hk;obtain⟨rfl,rfl⟩:=hk;simp only[dk] at h;obtain⟨d,hd,_⟩:=h
   have:=Hd hd;simp[this]
  .rename_i hk;simp only[ig] at hk;obtain⟨rfl,rfl⟩:=hk;simp only[dk] at h;obtain⟨d,hd,_⟩:=h
   have:=Hd hd;simp[this]
  .simp at h
variable{t':TypeId}{vx vy:V}{y:Operand}
def Jz(hs:bH E st a){neg:Bool}{op:BinOp}(mo:op=if neg then .neq else .eql){ks:List Nat}(ht:Og P t=aa ks)(ho:o.op = .binOp op t x y t')
 (hg:iw P t=aa ab) (hx:R E vx (a.eval x)) (hy:R E vy (a.eval y)) (hk:opt (yC neg ks vx vy) (K2 K st)):o.wp P a E.w (eb E a o.dst K) Q:=by
 unfold opt K2 at hk;split at hk
 case h_2=>exact hk.elim
 rename_i v hv;unfold yC at hv;split at hv
 case h_2=>simp at hv
 rename_i xs ys;simp only[dk] at hv;obtain⟨b,hb,rfl⟩:=hv;simp only[R] at hx hy;obtain⟨us,v_,UC⟩:=hx;obtain⟨ws,UE,UF⟩:=hy;unfold Og at ht;split at ht
 case h_2=>simp at ht
 rename_i pl pT;split at ht
 case isFalse=>simp at ht
 rename_i hc;obtain⟨hr,pP⟩:=hc;simp only[a9] at ht;have hlen:pl.length=P.cellsOf t:=by have:=iK List.length hr;simpa using this
 obtain⟨l1,l2⟩:=Hd hb;have awr:ks.length=P.cellsOf t:=by rw[<-ht];simp[hlen]
 have MF:us.size=P.cellsOf t:=by have:=gh UC;simp at this;omega
 have AR:ws.size=P.cellsOf t:=by have:=gh UF;simp at this;omega
 have cK:=Sl (E:=E) (xs:=us) (ys:=ws) pl 0 hb UC UF (λj u hu=>by simpa using hu) (λj u hu=>by simpa using hu) ht (by rw[hr,hlen,vj]);have gF:∀(zs:Array Value),zs.size=P.cellsOf t->At P t zs 0 (.agg zs):=λzs hz=>by
  unfold At;rw[hg];exact⟨by rw[jY,<-hz,Array.extract_size],by omega⟩
 have dc:=aqK (P:=P) (w:=E.w) 20 t 0 pl pT 10000 (by omega) us ws _ _ (gF us MF) (gF ws AR) b cK;subst mo;cases neg
 .refine dd hs (x:=.bool b) ?_ (by simp[R]) hk;simp only[execOp,ho,v_,UE,da,bZ];simp only[Sem.run_bind,run_eqGuard_agg E.w _ t x y us ws pP,Result.andThen_ok,run_eql_struct,dc,Sem.run_pure]
 .refine dd hs (x:=.bool (!b)) ?_ (by simp[R]) hk;simp only[execOp,ho,v_,UE,cm];simp only[Sem.run_bind,run_eqGuard_agg E.w _ t x y us ws pP,Result.andThen_ok,run_neq_struct,dc,Sem.run_pure]
variable{g:Bool}{i:Nat}
def avD(hs:bH E st a){s:TypeId}{n:Nat}{fs:Array Field}{f:Field}(ho:o.op = .field s x i)(ht:P.underlying s=aa (.struct fs))(hf:fs[i]?=aa f)
 (hg:iw P f.type=aa g) (hn:eD P f.type=aa n) (hx:R E v (a.eval x)) (hk:match (generalizing:=false) v with | .agg cs=>opt (bI g n (cs.drop f.offset)) (K2 K st) | _=>False) :
 o.wp P a E.w (eb E a o.dst K) Q:=by
 cases v<;>try exact False.elim hk
 rename_i cs;simp only[opt,K2] at hk;simp only[R] at hx;obtain⟨vs,h,hr⟩:=hx;cases g with
 | false =>
  cases hd:cs.drop f.offset with
  | nil=>rw[hd] at hk;exact False.elim hk
  | cons c rest =>
   rw[hd] at hk;have hc:cs[f.offset]?=aa c:=by
    have:=iK (·[0]?) hd
    simpa using this
   obtain⟨u,h1,h2⟩:=rT hr f.offset c hc;have xa : vs[f.offset]?=aa u:=by simpa using h1
   exact dd hs (v:=c) (x:=u) (by simp[execOp,ho,h,Instr.field,run_underlying ht,hf,asAgg,part,Bo hg,xa]) h2 hk
 | true =>
  cases hd:takeN n (cs.drop f.offset) with
  | none=>simp only[bI,hd,Option.map_none] at hk;
  | some ys =>
   simp only[bI,hd,tW] at hk;obtain⟨rfl,hle⟩:=Pb hd;refine dd hs (x:=.agg (vs.extract f.offset (f.offset+n))) (by simp[execOp,ho,h,Instr.field,run_underlying ht,hf,asAgg,part,Bo hg,pk hn]) ?_ hk;simp only[R];refine⟨_,rfl,?_⟩;have hl:=gh hr;refine DT ?_ λj y u h1 h2=>?_
   .simp at hl hle ⊢;omega
   .have hj:j<n:=by have:=(fv.1 h1).1;simp at this;omega
    rw[J2,aE hj,vg] at h1;obtain⟨u',h3,h4⟩:=rT hr _ y h1
    have:(vs.extract f.offset (f.offset+n)).toList[j]?=aa u' := by
     have aC:=(fv.1 h3).1;simp at aC;simp only[PT] at h3 ⊢;rw[Zo];rw[aE (by omega)];exact h3
    rw[this] at h2;simp only[a9] at h2;subst h2;exact h4
def SV:∀(l:List Value) (n off:Nat) (cells:Array Value),off+n+l.length<=cells.size ->
 ((l.zipIdx n).foldl (λcs (c,j)=>cs.setIfInBounds (off+j) c) cells).toList=cells.toList.take (off+n)++l++cells.toList.drop (off+n+l.length)
 | [],n,off,cells,h=>by simp
 | v :: l, n, off, cells, h => by
  simp only[dB] at h;have ih:=SV l (n+1) off (cells.setIfInBounds (off+n) v) (by simp;omega);simp only[List.zipIdx_cons,zU];rw[ih];have e:=list_seg_step cells.toList (off+n) v l (by simp;omega);simpa [PV,Gq,DO 1] using e
variable{off:Nat}
def Sz{place:Nat->Option (Nat × Nat)}{cells:Array Value}{n:Nat}{v:Value}{rest:List (Nat × Value)}(hp:place i=aa (off,n))(hv:v.cells.size=n)(xq:off+n<=cells.size):
 Instr.fill place cells ((i,v)::rest)=Instr.fill place (cells.toList.take off++v.cells.toList++cells.toList.drop (off+n)).toArray rest:=by
 have h:=SV v.cells.toList 0 off cells (by simp;omega);have e:v.cells.zipIdx.foldl (λcs (c,j)=>cs.setIfInBounds (off+j) c) cells=(cells.toList.take off++v.cells.toList++cells.toList.drop (off+n)).toArray:=by
  apply DD;rw[<-Array.foldl_toList,Array.toList_zipIdx,h];simp[hv]
 simp only[Instr.fill,hp,hv,rE,Bf,c7,Gc];rw[aA (by simp;omega),e]
def K7(hs:RL E st.t a.tmps.toList){place:Nat->Option (Nat × TypeId)}{place' : Nat->Option (Nat × Nat)}(pT:∀i off t n,place i=aa (off,t)->eD P t=aa n->place' i=aa (off,n)) :
 ∀{parts:List (Nat × Operand)} {ps:List (Nat × Nat × X)} {z cs:List V} {cells:Array Value},A' P place parts=aa ps->pB st z ps=aa cs->RL E z cells.toList ->
 ∃pD,Instr.fill place' cells (parts.map λ(i,x)=>(i,a.eval x))=aa pD /\ RL E cs pD.toList
 | [], ps, z, cs, cells, hp, hb, hz => by
  simp only[A',a9] at hp;subst hp;simp only[pB,a9] at hb;subst hb;exact⟨cells,by simp[Instr.fill],hz⟩
 | (i, x) :: parts, ps, z, cs, cells, hp, hb, hz => by
  simp only[A'] at hp;split at hp
  case h_2=>simp at hp
  rename_i off t CM;split at hp
  case h_2=>simp at hp
  rename_i n y hn hy;split at hp
  .simp at hp
  rename_i CJ;simp only[dk] at hp;obtain⟨WK,lK,rfl⟩:=hp;simp only[pB] at hb;split at hb
  case isFalse=>simp at hb
  rename_i hc;have hx:=nK (E:=E) (st:=st) (a:=a) hs hy;obtain⟨h1,h2⟩:=ym hx hc.2;have hle:=LL hc.1;have hl:=gh hz;have EF:=gh h1;simp at hle hl EF;have xq:off+n<=cells.size:=by omega
  .have nH:RL E (setAt z off (ev st y).cells) (cells.toList.take off++(a.eval x).cells.toList++cells.toList.drop (off+n)):=by
    refine DT (by simp[OZ];omega) λj u v h3 h4=>?_
    rw[OY (by omega)] at h3;have xw:=FR (c:=cells.toList) (vs:=(a.eval x).cells.toList) (off:=off) (by simp;omega) j;simp only[BM,h2] at xw;rw[xw] at h4
    by_cases k1:j<off
    .rw[aE k1] at h3 h4;obtain⟨v',k3,k4⟩:=rT hz j u h3;rw[k3] at h4;simp only[a9] at h4;subst h4;exact k4
    .rw[aA k1] at h3 h4
     by_cases k2:j<off+n
     .rw[aE (by omega)] at h3;rw[aE k2] at h4;obtain⟨v',k3,k4⟩:=rT h1 _ u h3;rw[k3] at h4;simp only[a9] at h4;subst h4;exact k4
     .rw[aA (by omega)] at h3;rw[aA k2] at h4;obtain⟨v',k3,k4⟩:=rT hz j u h3;rw[k3] at h4;simp only[a9] at h4;subst h4;exact k4
   obtain⟨pD,k1,k2⟩:=K7 hs pT lK hb (cells:=(cells.toList.take off++(a.eval x).cells.toList++cells.toList.drop (off+n)).toArray) (by simpa using nH);refine⟨pD,?_,k2⟩;rw[ch,Sz (pT i off t n CM hn) h2 xq];exact k1
def VA:∀(fs:List Field),fs.all (λf=>(P.info? f.type).isSome)=ab->∃places:List (Nat × Nat),fs.mapM (λf=>(P.info? f.type).map λi=>(f.offset,i.size))=aa places /\
 ∀i:Nat,places[i]?=(fs[i]?).bind λf=>(P.info? f.type).map λi=>(f.offset,i.size)
 | [],_=>⟨[],by simp,λi=>by simp⟩
 | f :: fs, h => by
  simp only[ve,bF] at h;obtain⟨i,hi⟩:=Qu.1 h.1;obtain⟨places,h1,h2⟩:=VA fs h.2;refine⟨(f.offset,i.size)::places,by simp[hi,h1],λj=>?_⟩;cases j with
  | zero=>simp[hi]
  | succ j=>simp[h2]
variable{parts:Array (Nat × Operand)}{z:List V}
def wp_build(hs:bH E st a){ps:List (Nat × Nat × X)}(ho:o.op = .build t parts)(hz:kv P t=aa z){place:Nat->Option (Nat × TypeId)}
 (pT:(∃fs,P.underlying t=aa (.struct fs)/\fs.toList.all (λf=>(P.info? f.type).isSome)=ab/\place=λi=>(fs[i]?).map λf=>(f.offset,f.type)) \/
   ∃k e,P.underlying t=aa (.array k e)/\(P.info? e).isSome=ab/\place=λi=>aa (i*P.cellsOf e,e))
 (hp:A' P place parts.toList=aa ps) (hk:opt ((pB st z ps).map V.agg) (K2 K st)):o.wp P a E.w (eb E a o.dst K) Q:=by
 unfold opt K2 at hk;split at hk
 case h_2=>exact hk.elim
 rename_i v hv;simp only[dk] at hv;obtain⟨cs,hb,rfl⟩:=hv;obtain⟨i,zv,h1,h2,h3,_⟩:=tR hz;have UH:RL E z zv.cells.toList:=rY h3;have key:∃pD,P.built t (parts.map λ(i,x)=>(i,a.eval x)).toList=aa pD /\ RL E cs pD.toList:=by
  rcases pT with ⟨fs,hu,cK,rfl⟩ | ⟨k,e,hu,akN,rfl⟩
  .obtain⟨places,hm,hg⟩:=VA (P:=P) fs.toList cK;obtain⟨pD,k1,k2⟩:=K7 (P:=P) (st:=st) hs.slot (place' := λi=>places.toArray[i]?) (λi off t' n h hn=>by
    simp only[dk] at h;obtain⟨f,hf,h⟩:=h;simp only[py] at h;obtain⟨rfl,rfl⟩:=h;simp only[ZA,hg];unfold eD at hn;simp only[dk] at hn;obtain⟨i',du,rfl⟩:=hn;simp[hf,du]) hp hb UH
   exact⟨pD,by simpa [Program.built,h1,hu,h2,hm] using k1,k2⟩
  .obtain⟨ie,AF⟩:=Qu.1 akN;obtain⟨pD,k1,k2⟩:=K7 (P:=P) (st:=st) hs.slot (place' := λi=>aa (i*ie.size,ie.size)) (λi off t' n h hn=>by
    simp only[a9,py] at h;obtain⟨rfl,rfl⟩:=h;simp only[eD,AF,tW,a9] at hn;simp[Ri AF,hn]) hp hb UH
   exact⟨pD,by simpa [Program.built,h1,hu,h2,AF] using k1,k2⟩
 obtain⟨pD,k1,k2⟩:=key;refine dd hs (x:=.agg pD) ?_ (by simp only[R];exact⟨pD,rfl,k2⟩) hk
 have:=run_build (P:=P) E.w t _ _ k1
 simp only[execOp,ho,Sem.run_bind,this,Result.andThen_ok,Sem.run_pure]
def K8{k:Nat}:∀(ps:List (Nat × Value)) (i0:Nat) (cells:Array Value),ps.map (·.1)=List.range' i0 ps.length->(∀p∈ps,p.2.cells.size=k)->cells.size=(i0+ps.length)*k ->
 Instr.fill (λi=>aa (i*k,k)) cells ps=aa (cells.toList.take (i0*k)++(ps.map λp=>p.2.cells.toList).flatten).toArray
 | [], i0, cells, _, _, cW => by
  simp only[Instr.fill,fh,Qb,eK];rw[zY (by simp at cW ⊢;omega)]
 | (i, v) :: ps, i0, cells, hm, cK, cW => by
  simp only[ch,dB,DN,ig] at hm;obtain⟨rfl,hm⟩:=hm;simp only[ff] at cK;have s9:(i+(ps.length+1))*k=i*k+k+ps.length*k:=by rw[jD,jD];omega
  simp only[dB,s9] at cW;rw[Sz (n:=k) rfl cK.1 (by omega)];have ih:=K8 ps (i+1) (cells.toList.take (i*k)++v.cells.toList++cells.toList.drop (i*k+k)).toArray hm cK.2 (by simp[cK.1,jD];omega);rw[ih];congr 2;simp only[ch,lE,<-e9];congr 1;rw[show(i+1)*k=i*k+k from by rw[jD];omega]
  have:(cells.toList.take (i*k)++v.cells.toList).length=i*k+k:=by simp[cK.1];omega
  rw[ZF (by omega),zY (by omega)]
def Xh(hs:RL E st.t a.tmps.toList){k:Nat}{e:TypeId}:∀{n:Nat} {xs:List Operand} {ys:List X} {l:List (List V)},jJ P (ar n e) xs=aa ys->lV st k ys=aa l ->
 xs.length=n/\l.length=n/\(∀x∈xs,(a.eval x).cells.size=k)/\(∀y∈l,y.length=k)/\RL E.nl l.flatten (xs.map λx=>(a.eval x).cells.toList).flatten/\∀v∈(xs.map λx=>(a.eval x).cells.toList).flatten,v.oneCell' = ab
 | 0, [], ys, l, h1, h2 => by
  simp only[List.replicate_zero,jJ,a9] at h1;subst h1;simp only[lV,a9] at h2;subst h2;simp[RL]
 | 0,_::_,ys,l,h1,h2=>by simp[jJ] at h1
 | n+1,[],ys,l,h1,h2=>by simp[zX,jJ] at h1
 | n + 1, x :: xs, ys, l, h1, h2 => by
  simp only[zX,jJ,iI,dk] at h1;obtain⟨y,hy,Zl,qC,rfl⟩:=h1;simp only[lV] at h2;split at h2
  case isFalse=>simp at h2
  rename_i hc;simp only[dk] at h2;obtain⟨l',iq,rfl⟩:=h2;obtain⟨k1,k2,k3,k4,k5,k6⟩:=Xh hs qC iq;have hx:=nK (E:=E) (st:=st) (a:=a) hs hy;obtain⟨r1,r2⟩:=ym hx hc.1;have r3:=RL.p7 (E:=E) (E' := E.nl) _ (Env.le.refl E.nl) hc.2.1 r1;have r4:=zo r1 hc.2.2;refine⟨by simp[k1],by simp[k2],?_,?_,?_,?_⟩
  .simp only[ff];exact⟨r2,k3⟩
  .simp only[ff];exact⟨by have:=gh r1;rw[Sn];simp at this;omega,k4⟩
  .simp only[lE,ch];exact vn (RL.erase _ r3) k5
  .simp only[ch,lE];intro v hv
   rcases jC.1 hv with h | h
   .exact r4 v h
   .exact k6 v h
def Y6(hs:bH E st a){len:Nat}(ho:o.op = .buildSlice t len parts)(ht:P.underlying t=aa (.slice e))(hn:eD P e=aa k)(hz:kv P e=aa z)
 (hr:parts.toList.map (·.1)=bX len) (cW:len*k<=16777216) {l:List (List V)}
 (hf:(parts.toList.map (·.2)).length=len/\l.length=len/\(∀x∈parts.toList.map (·.2),(a.eval x).cells.size=k)/\(∀y∈l,y.length=k)/\RL E.nl l.flatten ((parts.toList.map (·.2)).map λx=>(a.eval x).cells.toList).flatten/\∀v∈((parts.toList.map (·.2)).map λx=>(a.eval x).cells.toList).flatten,v.oneCell' = ab)
 (hk:K (V.sl .ba k l) st):o.wp P a E.w (eb E a o.dst K) Q:=by
 obtain⟨k1,k2,k3,k4,k5,k6⟩:=hf;obtain⟨i,zv,h1,h2,h3,h4⟩:=tR hz;have hlen:parts.toList.length=len:=by simpa using k1
 let ps:List (Nat × Value):=parts.toList.map λ(i,x)=>(i,a.eval x)
 have Ms:ps.map (·.1)=List.range' 0 ps.length:=by
  have:ps.map (·.1)=parts.toList.map (·.1):=by simp[ps,wI]
  rw[this,hr,vj];congr 1;simp[ps];simpa using hlen.symm
 have Mt:(ps.map λp=>p.2.cells.toList)=(parts.toList.map (·.2)).map λx=>(a.eval x).cells.toList:=by simp[ps,wI]
 have cK:∀p∈ps,p.2.cells.size=k:=λp hp=>by
  simp only[ps,vh] at hp;obtain⟨q,hq,rfl⟩:=hp;exact k3 q.2 (vh.2 ⟨q,hq,rfl⟩)
 have pT:ps.length=len:=by simp[ps];simpa using hlen
 have fill:∀cells:Array Value,cells.size=len*k->Instr.fill (λi=>aa (i*k,k)) cells ps=aa ((parts.toList.map (·.2)).map λx=>(a.eval x).cells.toList).flatten.toArray:=λcells hc=>by
  have:=K8 ps 0 cells Ms cK (by rw[pT];simpa using hc)
  rw[this,Mt];simp
 generalize ti:((parts.toList.map (·.2)).map λx=>(a.eval x).cells.toList).flatten=news at fill k5 k6;refine Y_ hs (w' := E.w.alloc (.cells news.toArray e)) (x:=.slice (aa ⟨E.w.heap.size,0,ag⟩) len len) ((Ext.refl _).alloc _ _) ?_ ?_ hk
 .have jv:(zeroValue e).run P E.w = .ok zv E.w:=by simp[zeroValue,typeInfo,h1,h2]
  have EO:(parts.map λ(i,x)=>(i,a.eval x)).toList=ps:=by simp[ps]
  have y5 : ¬(16777216<len*k):=by omega
  simp only[execOp,ho,Sem.run_bind];have key:(Instr.buildSlice t len (parts.map λ(i,x)=>(i,a.eval x))).run P E.w = .ok (.slice (aa ⟨E.w.heap.size,0,ag⟩) len len) (E.w.alloc (.cells news.toArray e)):=by
   unfold Instr.buildSlice;simp only[Sem.run_bind,run_underlying ht,Result.andThen_ok,pk hn];rw[aA (by simpa using y5)];rw[EO]
   by_cases h0:len*k=0
   .rw[aE h0];simp only[Sem.run_bind,Sem.run_pure,Result.andThen_ok];rw[fill _ (by simp)];simp[newRow]
   .rw[aA h0];simp only[Sem.run_bind,jv,Result.andThen_ok,Sem.run_pure];rw[fill _ (by simp)];simp[newRow]
  rw[key];rfl
 .obtain⟨bj,_,_⟩:=FT hs ((Ext.refl E.w).alloc news.toArray e);have th:(E.w.alloc (.cells news.toArray e)).heap[E.w.heap.size]?=aa (.cells (news++[]).toArray e (0,0)):=by simpa using heap_alloc_new E.w (.cells news.toArray e)
  simp only[R,k2];refine⟨aa ⟨E.w.heap.size,0,ag⟩,len,rfl,bS _,.inr ⟨_,_,rfl,?_⟩,rfl⟩;exact Gy (E' := {E with w:=E.w.alloc (.cells news.toArray e)}) k4 (RL.mono _ bj.nl k5) k6 th (λj _=>by rw[show({E with w:=E.w.alloc (.cells news.toArray e)}:Env).bf E.w.heap.size = .const from hs.ok.fresh _ (bS _)];trivial)
def avw(hs:bH E st a){len:Nat}{ys:List X}(ho:o.op = .buildSlice t len parts)(ht:P.underlying t=aa (.slice e))(hn:eD P e=aa k)(hz:kv P e=aa z)
 (hl:jJ P (ar len e) (parts.toList.map (·.2))=aa ys) (hr:parts.toList.map (·.1)=bX len) (cW:len*k<=16777216)
 (hk:opt ((lV st k ys).map (V.sl .ba k)) (K2 K st)):o.wp P a E.w (eb E a o.dst K) Q:=by
 unfold opt K2 at hk;split at hk
 case h_2=>exact hk.elim
 rename_i v hv;simp only[dk] at hv;obtain⟨l,hb,rfl⟩:=hv;exact Y6 hs ho ht hn hz hr cW (Xh (E:=E) hs.slot hl hb) hk
def M9(hs:RL E st.t a.tmps.toList){k:Nat}{e:TypeId}:∀{n:Nat} {xs:List Operand} {ys:List X} {l:List (List V)},jJ P (ar n e) xs=aa ys->zc k (di st ys)=aa l ->
 xs.length=n/\l.length=n/\(∀x∈xs,(a.eval x).cells.size=k)/\(∀y∈l,y.length=k)/\RL E.nl l.flatten (xs.map λx=>(a.eval x).cells.toList).flatten/\∀v∈(xs.map λx=>(a.eval x).cells.toList).flatten,v.oneCell' = ab
 | 0, [], ys, l, h1, h2 => by
  simp only[List.replicate_zero,jJ,a9] at h1;subst h1;simp only[di,zc,a9] at h2;subst h2;simp[RL]
 | 0,_::_,ys,l,h1,h2=>by simp[jJ] at h1
 | n+1,[],ys,l,h1,h2=>by simp[zX,jJ] at h1
 | n + 1, x :: xs, ys, l, h1, h2 => by
  simp only[zX,jJ,iI,dk] at h1;obtain⟨y,hy,Zl,qC,rfl⟩:=h1;simp only[di,zc] at h2;split at h2
  case isFalse=>simp at h2
  rename_i hc;simp only[dk] at h2;obtain⟨l',iq,rfl⟩:=h2;obtain⟨k1,k2,k3,k4,k5,k6⟩:=M9 hs qC iq;have hx:=nK (E:=E) (st:=st) (a:=a) hs hy;obtain⟨r1,r2⟩:=ym hx hc.1;have r3:=RL.p7 (E:=E) (E' := E.nl) _ (Env.le.refl E.nl) hc.2.1 r1;have r4:=zo r1 hc.2.2;refine⟨by simp[k1],by simp[k2],?_,?_,?_,?_⟩
  .simp only[ff];exact⟨r2,k3⟩
  .simp only[ff];exact⟨by have:=gh r1;simp at this;omega,k4⟩
  .simp only[lE,ch];exact vn r3 k5
  .simp only[ch,lE];intro v hv
   rcases jC.1 hv with h | h
   .exact r4 v h
   .exact k6 v h
end
section
variable {P:Program} {E:Env} {st:St} {a:Act} {o:Oper} {K:V->St->Prop} {Q:Exit->Act->World->Prop}
def KZ(s:List UInt8):(dE s).flatten=s.map λb=>V.int .u8 b.toNat:=by
 induction s with
 | nil=>rfl
 | cons b s ih=>simp only[dE,ch,lE] at ih ⊢;rw[ih];rfl
def Qy{E:Env}:∀{s:List UInt8} {vs:List Value},RL E (s.map λb=>V.int .u8 b.toNat) vs->vs=(s.map λb=>(b.toNat:Int)).map (Value.int .u8)
 | [],[],_=>rfl
 | [],_::_,h=>by simp[RL] at h
 | _::_,[],h=>by simp[RL] at h
 | b :: s, v :: vs, h => by
  simp only[ch,RL,R] at h;simp only[ch];rw[h.1,Qy h.2]
def Ol:∀(s:List UInt8) (r:List UInt8),(s.map λb=>(b.toNat:Int)).foldl (λ(r:ByteArray) n=>r.push (UInt8.ofNat n.toNat)) ⟨r.toArray⟩=⟨(r++s).toArray⟩
 | [],r=>by simp
 | b :: s, r => by
  have e:(⟨r.toArray⟩:ByteArray).push (UInt8.ofNat ((b.toNat:Int)).toNat)=⟨(r++[b]).toArray⟩:=by
   apply ByteArray.ext;simp[ByteArray.push]
  simp only[ch,zU,e,Ol s (r++[b])];simp
def avz(hs:bH E st a){src dst:TypeId}(ho:o.op = .convert src dst x)(h1:P.underlying src=aa (.slice e))(h2:P.underlying dst=aa .string)(h3:P.underlying e=aa (.int .u8))(hx:R E v (a.eval x))
 (hk:∃t s,v = .sl t 1 (dE s)/\K (.aF s) st):o.wp P a E.w (eb E a o.dst K) Q:=by
 obtain⟨t,s,rfl,hk⟩:=hk;simp only[R] at hx;obtain⟨base,cap,hv,_,mi,_⟩:=hx;refine dd hs (v:=.aF s) (x:=.string ⟨s.toArray⟩) ?_ (by simp only[R]) hk;have key:(Conv.bytesToString (a.eval x)).run P E.w = .ok (.string ⟨s.toArray⟩) E.w:=by
  rw[hv]
  rcases mi with h | ⟨b,off,rfl,hr⟩
  .have H2:s=[]:=by simpa [dE] using h
   subst H2;cases base with
   | none=>simp[Conv.bytesToString];rfl
   | some ad =>
    have:=run_bytesToString (P:=P) E.w ad 0 cap [] (by simp[loadCells,loadCellsFrom])
    simp[dE] at this ⊢;exact this
  .obtain⟨_,h5⟩:=rR.1 hr;obtain⟨vs,k1,k2,_,_⟩:=Gx h5;rw[KZ] at k1;have e1:=Qy k1;have hl:vs.length=(dE s).length:=by rw[e1];simp[dE]
   have hc:=run_loadCells_list (P:=P) E.w ⟨b,off,ag⟩ vs (λj u hu=>by rw[l9];exact k2 j u hu);rw[hl,e1] at hc
   have:=run_bytesToString (P:=P) E.w ⟨b,off,ag⟩ (dE s).length cap _ hc
   rw[this];have hp:=Ol s [];simp only[gN] at hp;exact iK (λz=>Result.ok (Value.string z) E.w) hp
 rw[hv] at key;simp only[execOp,ho,Sem.run_bind,hv,run_convert_bytes_string E.w src dst e base _ cap h1 h3 h2,key,Result.andThen_ok,Sem.run_pure]
def ZL{E:Env}{b o m n:Nat}(h:gq E k l b o)(rq:m<=n)(hn:n<=l.length):gq E k ((l.take n).drop m) b (o+m*k):=by
 obtain⟨h1,h2⟩:=rR.1 h;refine rR.2 ⟨λx hx=>h1 x (BU (List.mem_of_mem_drop hx)),?_⟩;have e:l=(l.take n).take m++((l.take n).drop m++l.drop n):=by
  rw[<-e9,rQ,rQ]
 rw[e,vf,vf,yk,yk] at h2;have hl:((l.take n).take m).flatten.length=m*k:=by
  rw[nr (λx hx=>h1 x (BU (BU hx)))];simp only[jj];congr 1;omega
 rw[hl] at h2;exact h2.2.1
def mA{E:Env}(hs:RL E st.t a.tmps.toList){x:Option Operand}{y:Option X}(h:lv P t x=aa y):
 (x=ag/\y=ag)\/∃u v,x=aa u/\y=aa v/\R E (ev st v) (a.eval u):=by
 cases x with
 | none=>simp only[lv,a9] at h;exact .inl ⟨rfl,h.symm⟩
 | some x =>
  simp only[lv,dk] at h;obtain⟨v,hv,rfl⟩:=h;exact .inr ⟨x,v,rfl,rfl,nK hs hv⟩
def rI{j:IntKind}{n y:Nat}{c:BoundsCode}(h:n<=y):(Instr.sliceBound (.int j n) y c).run P w = .ok n w:=by
 simp[Instr.sliceBound,asIntOf,h]
def S5(hs:bH E st a){Z:Nat}{v:Value}(ht:st.out.aP Z=aa l.length)(h:R E (.sl .ba k l) v):R E (.sl (.tk Z) k l) v:=by
 simp only[R] at h ⊢;obtain⟨ad,cap,h1,h2,h3,h4⟩:=h;exact⟨ad,cap,h1,h2,h3,l.length,hs.ok.aP Z _ ht,bS _,λ_=>.inl h4⟩
variable{du mx' nJ:Option X}{hi mx:Option Operand}
def OO{lo:Option Operand}(hs:bH E st a)(h1:lv P t lo=aa nJ)(h2:lv P t hi=aa du)(h3:lv P t mx=aa mx')(v8:mx'.isSome=ab->du.isSome=ab){len n M:Nat}
 (eg:match (generalizing:=false) nJ with | none=>m=0 | some y=>∃j,ev st y = .int j m) (nG:match (generalizing:=false) du with | none=>n=len | some y=>∃j,ev st y = .int j n) (hM:match (generalizing:=false) mx' with | none=>M=cap | some y=>∃j,ev st y = .int j M)
 (rq:m<=n) (hnM:n<=M) (Lw:M<=cap):(Instr.sliceBounds ab len cap (lo.map a.eval) (hi.map a.eval) (mx.map a.eval)).run P E.w = .ok (m,n,M) E.w:=by
 have e1:∀c,(match (lo.map a.eval:Option Value) with | some v=>Instr.sliceBound v n c | none=>pure 0:Sem Nat).run P E.w = .ok m E.w:=λc=>by
  rcases mA (E:=E) hs.slot h1 with ⟨rfl,rfl⟩ | ⟨u,v,rfl,rfl,hr⟩
  .simp only at eg;subst eg;simp
  .obtain⟨j,hj⟩:=eg;rw[hj] at hr;simp only[R] at hr;simp only[tW,hr];exact rI rq
 rcases mA (E:=E) hs.slot h3 with ⟨rfl,rfl⟩ | ⟨u3,v3,rfl,rfl,AL⟩
 .simp only at hM;subst hM
  rcases mA (E:=E) hs.slot h2 with ⟨rfl,rfl⟩ | ⟨u,v,rfl,rfl,hr⟩
  .simp only at nG;subst nG
   have:=e1 .sliceB
   rcases mA (E:=E) hs.slot h1 with ⟨rfl,rfl⟩ | ⟨u',v',rfl,rfl,cB⟩<;>simp[Instr.sliceBounds] at this ⊢
   .exact this
   .simp[this]
  .obtain⟨j,hj⟩:=nG;rw[hj] at hr;simp only[R] at hr
   have:=e1 .sliceB
   have e2:=rI (P:=P) (w:=E.w) (j:=j) (c:=.sliceAcap) (show n<=M by omega)
   rcases mA (E:=E) hs.slot h1 with ⟨rfl,rfl⟩ | ⟨u',v',rfl,rfl,cB⟩<;>simp[Instr.sliceBounds,hr,e2] at this ⊢
   .exact this
   .simp[this]
 .obtain⟨j3,CC⟩:=hM;rw[CC] at AL;simp only[R] at AL;have e3:=rI (P:=P) (w:=E.w) (j:=j3) (c:=.slice3Acap) Lw
  rcases mA (E:=E) hs.slot h2 with ⟨rfl,rfl⟩ | ⟨u,v,rfl,rfl,hr⟩
  .simp at v8
  .obtain⟨j,hj⟩:=nG;rw[hj] at hr;simp only[R] at hr
   have:=e1 .slice3C
   have e2:=rI (P:=P) (w:=E.w) (j:=j) (c:=.slice3B) hnM
   rcases mA (E:=E) hs.slot h1 with ⟨rfl,rfl⟩ | ⟨u',v',rfl,rfl,cB⟩<;>simp[Instr.sliceBounds,hr,AL,e2,e3] at this ⊢
   .exact this
   .simp[this]
variable{vx:V}
def avP(hs:bH E st a){lo:Option Operand}(ho:o.op = .slice t x lo hi mx)(ht:P.underlying t=aa (.slice e))(hn:eD P e=aa k)
 (hx:R E vx (a.eval x)) (h1:lv P t lo=aa nJ) (h2:lv P t hi=aa du) (h3:lv P t mx=aa mx') (v8:mx'.isSome=ab->du.isSome=ab)
 (hk:∃t l m n,vx = .sl t k l/\m<=n/\n<=l.length/\(match (generalizing:=false) nJ with | none=>m=0 | some y=>∃j,ev st y = .int j m)/\(match (generalizing:=false) du with | none=>n=l.length | some y=>∃j,ev st y = .int j n) /\
   match (generalizing:=false) mx' with
   | none=>K (.sl .no k ((l.take n).drop m)) st
   | some y=>(∃j,ev st y = .int j n)/\K (.sl .ba k ((l.take n).drop m)) st):o.wp P a E.w (eb E a o.dst K) Q:=by
 obtain⟨tk,l,m,n,rfl,rq,rr,eg,nG,hk⟩:=hk;simp only[R] at hx;obtain⟨base,cap,hv,AD,mi,_⟩:=hx;have key:∀M:Nat,n<=M->M<=cap->(mx' = ag->M=cap)->(mx'.isSome=ab->M=n)->(Instr.sliceBounds ab l.length cap (lo.map a.eval) (hi.map a.eval) (mx.map a.eval)).run P E.w = .ok (m,n,M) E.w:=λM hM Lw hM1 hM2=>by
  have e1:∀c,(match (lo.map a.eval:Option Value) with | some v=>Instr.sliceBound v n c | none=>pure 0:Sem Nat).run P E.w = .ok m E.w:=λc=>by
   rcases mA (E:=E) hs.slot h1 with ⟨rfl,rfl⟩ | ⟨u,v,rfl,rfl,hr⟩
   .simp only at eg;subst eg;simp
   .obtain⟨j,hj⟩:=eg;rw[hj] at hr;simp only[R] at hr;simp only[tW,hr];exact rI rq
  rcases mA (E:=E) hs.slot h3 with ⟨rfl,rfl⟩ | ⟨u3,v3,rfl,rfl,AL⟩
  .obtain rfl:=hM1 rfl
   rcases mA (E:=E) hs.slot h2 with ⟨rfl,rfl⟩ | ⟨u,v,rfl,rfl,hr⟩
   .simp only at nG;subst nG
    have:=e1 .sliceB
    rcases mA (E:=E) hs.slot h1 with ⟨rfl,rfl⟩ | ⟨u',v',rfl,rfl,cB⟩<;>simp[Instr.sliceBounds] at this ⊢
    .exact this
    .simp[this]
   .obtain⟨j,hj⟩:=nG;rw[hj] at hr;simp only[R] at hr
    have:=e1 .sliceB
    have e2:=rI (P:=P) (w:=E.w) (j:=j) (c:=.sliceAcap) (show n<=M by omega)
    rcases mA (E:=E) hs.slot h1 with ⟨rfl,rfl⟩ | ⟨u',v',rfl,rfl,cB⟩<;>simp[Instr.sliceBounds,hr,e2] at this ⊢
    .exact this
    .simp[this]
  .obtain rfl:=hM2 rfl;simp only at hk;obtain⟨⟨j3,CC⟩,hk⟩:=hk;rw[CC] at AL;simp only[R] at AL;have e3:=rI (P:=P) (w:=E.w) (j:=j3) (c:=.slice3Acap) Lw
   rcases mA (E:=E) hs.slot h2 with ⟨rfl,rfl⟩ | ⟨u,v,rfl,rfl,hr⟩
   .simp at v8
   .obtain⟨j,hj⟩:=nG;rw[hj] at hr;simp only[R] at hr
    have:=e1 .slice3C
    have e2:=rI (P:=P) (w:=E.w) (j:=j) (c:=.slice3B) (bS M)
    rcases mA (E:=E) hs.slot h1 with ⟨rfl,rfl⟩ | ⟨u',v',rfl,rfl,cB⟩<;>simp[Instr.sliceBounds,hr,AL,e2,e3] at this ⊢
    .exact this
    .simp[this]
 have run:∀M:Nat,n<=M->M<=cap->(mx' = ag->M=cap)->(mx'.isSome=ab->M=n)->(execOp a.eval o).run P E.w = .ok (.value (.slice (if M=m then base else base.map (·.add (m*k))) (n - m) (M - m))) E.w:=λM h1 h2 h3 h4=>by
  simp only[execOp,ho,Sem.run_bind,hv];simp[Instr.sliceAt,run_underlying ht,Instr.slice,key M h1 h2 h3 h4,pk hn]
 have val:∀M ku,n<=M->M<=cap->(ku = Tk.no\/(ku = Tk.ba/\M=n))->R E (.sl ku k ((l.take n).drop m)) (.slice (if M=m then base else base.map (·.add (m*k))) (n - m) (M - m)):=λM ku h1 h2 h3=>by
  have hlen:((l.take n).drop m).length=n - m:=by simp;omega
  simp only[R,hlen];refine⟨_,_,rfl,by omega,?_,?_⟩
  .rcases wP m n with aC | rm
   .right
    rcases mi with h | ⟨b,off,rfl,hr⟩
    .subst h;simp at rr;omega
    .refine⟨b,off+m*k,?_,ZL hr rq rr⟩;rw[aA (by omega)];simp[l9]
   .left;exact tS (by omega)
  .rcases h3 with rfl | ⟨rfl,rfl⟩
   .trivial
   .rfl
 cases mx' with
 | none=>exact dd hs (run cap (by omega) (bS _) (λ_=>rfl) (λh=>by simp at h)) (val cap .no (by omega) (bS _) (.inl rfl)) hk
 | some y=>exact dd hs (run n (bS _) (by omega) (λh=>by simp at h) (λ_=>rfl)) (val n .ba (bS _) (by omega) (.inr ⟨rfl,rfl⟩)) hk.2
def avO(hs:bH E st a){lo:Option Operand}(ho:o.op = .slice t x lo hi ag)(ht:P.underlying t=aa .string)
 (hx:R E vx (a.eval x)) (h1:lv P t lo=aa nJ) (h2:lv P t hi=aa du)
 (hk:∃s m n,vx = .aF s/\m<=n/\n<=s.length/\(match (generalizing:=false) nJ with | none=>m=0 | some y=>∃j,ev st y = .int j m)/\(match (generalizing:=false) du with | none=>n=s.length | some y=>∃j,ev st y = .int j n)/\K (.aF ((s.take n).drop m)) st) :
 o.wp P a E.w (eb E a o.dst K) Q:=by
 obtain⟨s,m,n,rfl,rq,rr,eg,nG,hk⟩:=hk;simp only[R] at hx;have cW:(⟨s.toArray⟩:ByteArray).size=s.length:=by simp[ByteArray.size]
 have key:(Instr.sliceBounds ak s.length s.length (lo.map a.eval) (hi.map a.eval) ag).run P E.w = .ok (m,n,s.length) E.w:=by
  rcases mA (E:=E) hs.slot h2 with ⟨rfl,rfl⟩ | ⟨u,v,rfl,rfl,hr⟩
  .simp only at nG;subst nG
   rcases mA (E:=E) hs.slot h1 with ⟨rfl,rfl⟩ | ⟨u',v',rfl,rfl,cB⟩
   .simp only at eg;subst eg;simp[Instr.sliceBounds]
   .obtain⟨j',gG⟩:=eg;rw[gG] at cB;simp only[R] at cB;have e2:=rI (P:=P) (w:=E.w) (j:=j') (c:=.sliceB) rq;simp[Instr.sliceBounds,cB,e2]
  .obtain⟨j,hj⟩:=nG;rw[hj] at hr;simp only[R] at hr;have e2:=rI (P:=P) (w:=E.w) (j:=j) (c:=.sliceAlen) rr
   rcases mA (E:=E) hs.slot h1 with ⟨rfl,rfl⟩ | ⟨u',v',rfl,rfl,cB⟩
   .simp only at eg;subst eg;simp[Instr.sliceBounds,hr,e2]
   .obtain⟨j',gG⟩:=eg;rw[gG] at cB;simp only[R] at cB;have e3:=rI (P:=P) (w:=E.w) (j:=j') (c:=.sliceB) rq;simp[Instr.sliceBounds,hr,cB,e2,e3]
 refine dd hs (v:=.aF ((s.take n).drop m)) (x:=.string ⟨((s.take n).drop m).toArray⟩) ?_ (by simp only[R]) hk;have he:(⟨s.toArray⟩:ByteArray).extract m n=⟨((s.take n).drop m).toArray⟩:=by
  apply ByteArray.ext;rw[ByteArray.data_extract];apply DD;simp[JU]
 simp only[execOp,ho,Sem.run_bind,hx];simp[Instr.sliceAt,run_underlying ht,Instr.slice,cW,key,he]
def Yn(hu:P.underlying u=aa .string)(s:List UInt8):
 ∃news,Src P w 1 (dE s).length u (.string ⟨s.toArray⟩) news/\RL E (dE s).flatten news/\(∀v∈news,v.oneCell' = ab)/\∀y∈dE s,y.length=1:=by
 have cW:(⟨s.toArray⟩:ByteArray).size=s.length:=by simp[ByteArray.size]
 have hx:((⟨s.toArray⟩:ByteArray).extract 0 s.length).data.map (λb:UInt8=>Value.int .u8 (b.toNat:Int))=(s.map λb:UInt8=>Value.int .u8 (b.toNat:Int)).toArray:=by
  apply DD;rw[ByteArray.data_extract];simp
 refine⟨s.map λb=>Value.int .u8 b.toNat,⟨⟨_,hu,λ_ h=>by simp at h⟩,λw' => by simp[Builtin.lenOf,cW,dE],?_,?_,by simp[dE]⟩,?_,?_,?_⟩
 .simp only[Builtin.firstCells,dE,aR,hx,Sem.run_pure]
 .simp only[Builtin.firstCells,dE,aR,hx,Sem.run_pure]
 .rw[KZ];induction s with
  | nil=>simp[RL]
  | cons b s ih=>simp only[ch,RL,R];exact⟨trivial,by
   clear cW hx ih;induction s with
   | nil=>simp[RL]
   | cons c s ih=>simp only[ch,RL,R];exact⟨trivial,ih⟩⟩
 .intro v hv;simp only[vh] at hv;obtain⟨b,_,rfl⟩:=hv;rfl
 .intro y hy;simp only[dE,vh] at hy;obtain⟨b,_,rfl⟩:=hy;rfl
def Fm{ao:aO}(hl:zi P o=aa ao)(hs:bH E st a)(h:ao.bh P st K):o.wp P a E.w (eb E a o.dst K) Q:=by
 have X:=λ{t:TypeId} {x:Operand} {y:X} (hx:cH P t x=aa y)=>nK (E:=E) (st:=st) (a:=a) hs.slot hx
 have XS:=λ{ts:List TypeId} {xs:List Operand} {ys:List Go.Am.X} (hx:jJ P ts xs=aa ys)=>ND (E:=E) (st:=st) (a:=a) hs.slot hx
 unfold zi at hl;split at hl
 .rename_i x ho;simp only[dk] at hl;obtain⟨y,hy,rfl⟩:=hl;exact Y' hs (.inl ho) (X hy) h
 .rename_i x ho;simp only[dk] at hl;obtain⟨y,hy,rfl⟩:=hl;exact Y' hs (.inr ho) (X hy) h
 .rename_i c x y ho;split at hl
  case h_2=>simp at hl
  rename_i h1 h2 h3;simp only[a9] at hl;subst hl;exact avN hs ho (X h1) (X h2) (X h3) h
 .rename_i t ho;simp only[dk] at hl;obtain⟨z,hz,rfl⟩:=hl;exact avq hs ho hz h
 .rename_i t x ho;split at hl
  case h_2=>simp at hl
  rename_i h1 h2;simp only[a9] at hl;subst hl;exact avu hs ho (X h2) h.1 h.2
 .rename_i t ps ho;split at hl
  .rename_i z fs hz hu;split at hl
   case isFalse=>simp at hl
   rename_i cK;simp only[dk] at hl;obtain⟨WK,hp,rfl⟩:=hl;exact wp_build hs ho hz (.inl ⟨fs,hu,cK,rfl⟩) hp h
  .rename_i z k e hz hu;split at hl
   case isFalse=>simp at hl
   rename_i cK;simp only[dk] at hl;obtain⟨WK,hp,rfl⟩:=hl;exact wp_build hs ho hz (.inr ⟨k,e,hu,cK,rfl⟩) hp h
  .simp at hl
 .rename_i t len ps ho;split at hl
  case h_2=>simp at hl
  rename_i e hu;split at hl
  case h_2=>simp at hl
  rename_i k z xs h1 h2 h3;split at hl
  case isFalse=>simp at hl
  rename_i hc;simp only[a9] at hl;subst hl;exact avw hs ho hu h1 h2 h3 hc.1 hc.2.1 h
 .rename_i t x ho;split at hl
  case h_2=>simp at hl
  rename_i h1 h2 h3;simp only[a9] at hl;subst hl;exact avJ hs ho h1 h2 (X h3) h
 .rename_i t x y ho;split at hl
  case h_2=>simp at hl
  rename_i n ax ay h1 h2 h3;split at hl
  .simp at hl
  rename_i CJ;simp only[a9] at hl;subst hl;simp only[aO.bh] at h;split at h
  case h_2=>exact h.elim
  rename_i aM eP;exact Zc hs (Nat.pos_of_ne_zero CJ) ho h1 (X h2) (X h3) eP h
 .rename_i x ho;simp only[dk] at hl;obtain⟨y,hy,rfl⟩:=hl;exact avL hs ho (X hy) h
 .rename_i op t x y t' ho;split at hl
  case h_2=>simp at hl
  rename_i ax ay h1 h2;split at hl
  .simp only[a9] at hl;subst hl;exact avs hs ho (X h1) (X h2) h
  .split at hl
   .simp only[a9] at hl;subst hl;exact avy hs ho (X h1) (X h2) h
   .simp only[a9] at hl;subst hl;exact avt hs ho (X h1) (X h2) h
  .rename_i hu;split at hl
   .simp only[a9] at hl;subst hl;exact Y5 hs (neg:=false) rfl hu ho (X h1) (X h2) h
   .simp only[a9] at hl;subst hl;exact Y5 hs (neg:=true) rfl hu ho (X h1) (X h2) h
   .simp at hl
  .rename_i fs hu;split at hl
   case h_2=>simp at hl
   rename_i ks fW;split at hl
   .simp only[a9] at hl;subst hl;exact Jz hs (neg:=false) rfl fW ho (by simp[iw,hu]) (X h1) (X h2) h
   .simp only[a9] at hl;subst hl;exact Jz hs (neg:=true) rfl fW ho (by simp[iw,hu]) (X h1) (X h2) h
   .simp at hl
  .rename_i fs e hu;split at hl
   case h_2=>simp at hl
   rename_i ks fW;split at hl
   .simp only[a9] at hl;subst hl;exact Jz hs (neg:=false) rfl fW ho (by simp[iw,hu]) (X h1) (X h2) h
   .simp only[a9] at hl;subst hl;exact Jz hs (neg:=true) rfl fW ho (by simp[iw,hu]) (X h1) (X h2) h
   .simp at hl
  .simp at hl
 .rename_i t x ho;simp only[dk] at hl;obtain⟨y,hy,rfl⟩:=hl;exact avM hs ho (X hy) h
 .rename_i src dst x ho;split at hl
  .rename_i h1 h2 h3;simp only[a9] at hl;subst hl;exact avA hs ho h1 h2 (X h3) h
  .rename_i h1 h2 h3;split at hl
   case h_2=>simp at hl
   rename_i h4;simp only[a9] at hl;subst hl;exact avz hs ho h1 h2 h4 (X h3) h
  .simp at hl
 .rename_i f first cap ho
  split at hl
  case h_2=>simp at hl
  rename_i h1 h2;simp only[a9] at hl;subst hl;exact avK hs ho (XS h1) (XS h2) h
 .rename_i t x lo hi mx ho;split at hl
  case h_2=>simp at hl
  rename_i h1 h2 h3 h4;split at hl
  .rename_i e hu;split at hl
   case h_2=>simp at hl
   rename_i k hk;split at hl
   case isFalse=>simp at hl
   rename_i v8;simp only[a9] at hl;subst hl;simp only[aO.bh] at h
   rcases h with h | ⟨base,n,cap,m,hh,e1,k1,k2,g1,g2,g3,hK⟩
   .exact avP hs ho hu hk (X h1) h2 h3 h4 v8 h
   .have gj:=X h1;rw[e1] at gj;simp only[R] at gj;rename_i mx' _ _;have g3:mx' = none:=by cases mx' with | none=>rfl | some _=>simp at g3
    subst g3;have hb:=OO (P:=P) (M:=cap) hs h2 h3 h4 v8 g1 g2 rfl k1 k2 (bS _);refine dd hs (v:=.raw _) (x:=.slice (if cap=m then base else base.map (·.add (m*k))) (hh - m) (cap - m)) ?_ (by simp only[R]) hK;simp only[execOp,ho,Sem.run_bind,gj];simp[Instr.sliceAt,run_underlying hu,Instr.slice,hb,pk hk]
  .rename_i hu;split at hl
   case h_2=>simp at hl
   simp only[a9] at hl;subst hl;have v8:mx=none:=by cases mx with | none=>rfl | some m=>simp[lv] at h4
   subst v8;exact avO hs ho hu (X h1) h2 h3 h
  .simp at hl
 .rename_i s x i ho;split at hl
  case h_2=>simp at hl
  rename_i fs y h1 h2;split at hl
  case h_2=>simp at hl
  rename_i f hf;split at hl
  case h_2=>simp at hl
  rename_i n hn;split at hl
  .simp at hl
  rename_i CJ;simp only[a9] at hl;subst hl;exact avC hs ho h1 hf hn CJ (X h2) h
 .rename_i s x i ho;split at hl
  case h_2=>simp at hl
  rename_i fs y h1 h2;split at hl
  case h_2=>simp at hl
  rename_i f hf;split at hl
  case h_2=>simp at hl
  rename_i g n hg hn;simp only[a9] at hl;subst hl;exact avD hs ho h1 hf hg hn (X h2) h
 .rename_i t x i ho;split at hl
  case h_3=>simp at hl
  case h_1 =>
   rename_i e ax ai h1 h2 h3;simp only[dk] at hl;obtain⟨k,hk,rfl⟩:=hl;exact avE hs ho h1 hk (X h2) (X h3) h
  case h_2 =>
   rename_i m e ax ai h1 h2 h3;simp only[dk] at hl;obtain⟨k,hk,rfl⟩:=hl;exact avF hs ho h1 hk (X h2) (X h3) h
 .rename_i t x i ho;split at hl
  case h_2=>simp at hl
  rename_i ax ai h1 h2 h3;simp only[a9] at hl;subst hl;exact avG hs ho h1 (X h2) (X h3) h
 .rename_i x i ho;simp only[dk] at hl;obtain⟨y,hy,rfl⟩:=hl;exact avB hs ho (X hy) h
 .rename_i c ho;obtain⟨callee,args,argTypes⟩:=c;simp only at hl;split at hl
  .rename_i f;simp only[dk] at hl;obtain⟨ys,qC,rfl⟩:=hl;refine Y7 hs (vs:=args.map a.eval) (by simpa using XS qC) h.1 h.2 ?_;simp[execOp,ho,resolve,Act.eval,Deferred.ofValue,invoke]
  .rename_i x;split at hl
   case h_2=>simp at hl
   rename_i y ys h1 h2;simp only[a9] at hl;subst hl;have hx:=X h1;simp only[aO.bh] at h;split at h
   case h_2=>exact h.elim
   rename_i f as bs L1;rw[L1] at hx;simp only[R] at hx;obtain⟨fs,cs,he,r1,r2⟩:=hx;refine Y7 hs (vs:=fs++args.map a.eval++cs) (by simpa using vn (vn r1 (XS h2)) r2) h.1 h.2 ?_;simp[execOp,ho,resolve,he,Deferred.ofValue,invoke]
  .split at hl
   case h_2=>simp at hl
   rename_i t x ht hx;have e1:argTypes=#[t]:=by cases argTypes;simpa using ht
   have e2:args=#[x]:=by cases args;simpa using hx
   subst e1;subst e2;split at hl
   .rename_i e y hu hy;simp only[a9] at hl;subst hl;exact avH hs ho hu (X hy) h
   .rename_i y hu hy;simp only[a9] at hl;subst hl;exact avI hs ho hu (X hy) h
   .simp at hl
  .split at hl
   case h_2=>simp at hl
   rename_i t u s x ht hx;have e1:argTypes=#[t,u]:=by cases argTypes;simpa using ht
   have e2:args=#[s,x]:=by cases args;simpa using hx
   subst e1;subst e2;have dc:(execOp a.eval o).run P E.w=((Builtin.append_ #[t,u] o.type #[a.eval s,a.eval x]).run P E.w).andThen λv w' => .ok (.value v) w' := by
    simp[execOp,ho,resolve,invoke,builtin]
   split at hl
   .rename_i e e' ys yx h1 h2 h3 h4;split at hl
    case h_2=>simp at hl
    rename_i i z hi hz;split at hl
    case isFalse=>simp at hl
    rename_i hc;obtain⟨rfl,nC,gi⟩:=hc;simp only[a9] at hl;subst hl;obtain⟨i',zv,k1,k2,k3,k4⟩:=tR hz;rw[hi] at k1;simp only[a9] at k1;subst k1;have jv:zv.cells.size=i.size:=by have:=gh (rY (E:=E) k3);simp at this;omega
    simp only[aO.bh,qV] at h;obtain⟨tk,l,m,es,⟨t',ex⟩,mg,hk⟩:=h;have hS:=X h3;have hX:=X h4;rw[es] at hS;rw[ex] at hX;obtain⟨news,q1,q2,q3,q4⟩:=Je (P:=P) h2 hX;cases tk with
    | no=>exact hk.elim
    | tk Z=>exact F_ hs h1 hi k2 jv nC dc hS q1 q2 q3 q4 mg hk
    | ba =>
     rcases hk with hk | hk | ⟨Z,h5,h6⟩
     .exact F_ hs h1 hi k2 jv nC dc hS q1 q2 q3 q4 mg (.inl hk)
     .exact F_ hs h1 hi k2 jv nC dc hS q1 q2 q3 q4 mg (.inr hk)
     .exact F_ hs h1 hi k2 jv nC dc (tk:=.tk Z) (S5 hs h5 hS) q1 q2 q3 q4 mg ⟨h5,h6⟩
   .rename_i e ys yx h1 h2 h3 h4;split at hl
    case h_2=>simp at hl
    rename_i i z hi hz;split at hl
    case h_2=>simp at hl
    split at hl
    case isFalse=>simp at hl
    rename_i hc;simp only[a9] at hl;subst hl;obtain⟨i',zv,k1,k2,k3,k4⟩:=tR hz;rw[hi] at k1;simp only[a9] at k1;subst k1;have jv:zv.cells.size=i.size:=by have:=gh (rY (E:=E) k3);simp at this;omega
    simp only[aO.bh,qV] at h;obtain⟨s',ex,tk,l,m,es,⟨t',em⟩,mg,hk⟩:=h;simp only[V.sl.injEq,pq] at em;obtain⟨_,rfl⟩:=em;have hS:=X h3;have hX:=X h4;rw[es] at hS;rw[ex] at hX;simp only[R] at hX;obtain⟨news,q1,q2,q3,q4⟩:=Yn (P:=P) (E:=E.nl) (w:=E.w) h2 s';have Hx:i.size=1:=hc.1;have fin:∀tk,R E (.sl tk 1 l) (a.eval s)->(match (generalizing:=false) tk with
     | .ba=>(∀Z,st.out.aP Z=ag->K (.sl (.tk Z) 1 (l++dE s')) ⟨st.t,st.aD,st.out.aY Z (l.length+(dE s').length)⟩)\/K (.sl .no 1 (l++dE s')) st
     | .tk Z=>st.out.aP Z=aa l.length/\K (.sl (.tk Z) 1 (l++dE s')) ⟨st.t,st.aD,st.out.aY Z (l.length+(dE s').length)⟩
     | .no=>False)->o.wp P a E.w (eb E a o.dst K) Q:=λtk hS hk=>by
     refine F_ hs h1 hi k2 jv (by omega) dc (tk:=tk) (l:=l) (m:=dE s') (news:=news) (by rw[Hx];exact hS) (by rw[Hx,hX];exact q1) q2 q3 (by rw[Hx];exact q4) mg ?_;rw[Hx];exact hk
    cases tk with
    | no=>exact hk.elim
    | tk Z=>exact fin _ hS hk
    | ba =>
     rcases hk with hk | hk | ⟨Z,h5,h6⟩
     .exact fin _ hS (.inl hk)
     .exact fin _ hS (.inr hk)
     .exact fin (.tk Z) (S5 hs h5 hS) ⟨h5,h6⟩
   .simp at hl
  .simp at hl
 .simp at hl
end
def X.slot:X->List Nat
 | .s n=>[n]
 | .c _=>[]
def tK:Option X->List X
 | none=>[]
 | some x=>[x]
def aO.xs:aO->List X
 | .mv x | .box _ x | .vB _ x | .gO _ x | .load _ _ x | .wh x | .not x | .wc x | .we x | .pH _ x | .vO _ _ _ x | .ext x _ | .qt _ x | .uc x=>[x]
 | .pick c a b=>[c,a,b]
 | .alloc _ | .qm _=>[]
 | .build _ ps=>ps.map (·.2.2)
 | .jn _ xs | .call _ xs | .own _ xs=>xs
 | .store _ a x | .eW _ a x | .pA _ a x | .vz _ a x | .cat a x | .kA _ _ a x | .r6 _ a x | .tA _ a x | .tB a x | .sr _ _ a x | .app _ a x | .nj a x=>[a,x]
 | .iX x xs=>x::xs
 | .kV _ x lo hi mx=>x::(tK lo++tK hi++tK mx)
 | .zE x lo hi=>x::(tK lo++tK hi)
 | .ko _ first cap=>first++cap
def aO.bq:aO->Bool
 | .alloc _ | .box _ _ | .vB _ _ | .qm _ | .gO _ _ | .store _ _ _ | .call _ _ | .iX _ _ | .app _ _ _ | .nj _ _=>ab
 | .own q _=>!q.pure
 | _=>ak
def aO.C1:aO->Bool
 | .load _ _ _=>ab
 | _=>ak
abbrev dm:=List (List V) × af
def cf(t:List V)(s:dm):St:=⟨t,s.1,s.2⟩
def Exact(t:List V)(v:V)(s:dm):V->St->Prop:=λv' aM => v' = v/\aM = cf t s
variable{s:dm}
def ae3{t t2:List V}{s2:dm}{x:X}(h:∀n∈x.slot,t2.getD n .any=t.getD n .any):ev (cf t2 s2) x=ev (cf t s) x:=by
 cases x with
 | s n=>exact h n (by simp[X.slot])
 | c v=>rfl
def Cf{t t2:List V}{s s2:dm}:∀{xs:List X},(∀x∈xs,ev (cf t2 s2) x=ev (cf t s) x)->di (cf t2 s2) xs=di (cf t s) xs
 | [],_=>rfl
 | x :: xs, h => by
  simp only[ff] at h;simp only[di,h.1,Cf h.2]
def Rf{t t2:List V}{s s2:dm}:∀{ps:List (Nat × Nat × X)} {z:List V},(∀x∈ps.map (·.2.2),ev (cf t2 s2) x=ev (cf t s) x)->pB (cf t2 s2) z ps=pB (cf t s) z ps
 | [],_,_=>rfl
 | (off, n, x) :: ps, z, h => by
  simp only[ch,ff] at h;simp only[pB,h.1,Rf h.2]
def Xi{t t2:List V}{s s2:dm}{k:Nat}:∀{xs:List X},(∀x∈xs,ev (cf t2 s2) x=ev (cf t s) x)->lV (cf t2 s2) k xs=lV (cf t s) k xs
 | [],_=>rfl
 | x :: xs, h => by
  simp only[ff] at h;simp only[lV,h.1,Xi h.2]
def sy(s:dm)(g:Bool)(n:Nat)(a:V):Option V:=lO (cf [] s) g n a
variable{g:Bool}
def U7{t:List V}{n:Nat}{a:V}:lO (cf t s) g n a=sy s g n a:=by
 unfold sy;cases a<;>simp only[lO];rename_i p o;cases p<;>rfl
def mk_inj{t:List V}{A:List (List V)}{B:af}(h:(⟨t,A,B⟩:St)=cf t s):s=(A,B):=by
 have:=iK (λq:St=>(q.aD,q.out)) h
 exact this.symm
section
variable {P:Program}
def asU{op:aO}{t t2:List V}{s2 s':dm}(hx:∀x∈op.xs,ev (cf t2 s2) x=ev (cf t s) x)(uj:op.bq=ab->s2=s)
 (xn:∀g n x,op = .load g n x->sy s2 g n (ev (cf t s) x)=aa v) (h:op.bh P (cf t s) (Exact t v s')) :
 op.bh P (cf t2 s2) (Exact t2 v (if op.bq then s' else s2)):=by
 cases op with
 | mv x =>
  simp only[aO.xs,ff] at hx;simp only[aO.bh,Exact] at h ⊢;exact⟨by rw[hx.1];exact h.1,rfl⟩
 | pick c a b =>
  simp only[aO.xs,ff] at hx;simp only[aO.bh] at h ⊢;rw[hx.1,hx.2.1,hx.2.2.1];split at h
  .exact⟨h.1,rfl⟩
  .exact⟨h.1,rfl⟩
  .exact h.elim
 | alloc z =>
  obtain rfl:=uj rfl;simp only[aO.bh,Exact] at h ⊢;obtain rfl:=mk_inj h.2;exact⟨h.1,by simp[aO.bq,cf]⟩
 | box n x =>
  obtain rfl:=uj rfl;simp only[aO.xs,ff] at hx;simp only[aO.bh,Exact] at h ⊢;rw[hx.1];obtain rfl:=mk_inj h.2.2;exact⟨h.1,h.2.1,by simp[aO.bq,cf]⟩
 | vB n x =>
  obtain rfl:=uj rfl;simp only[aO.xs,ff] at hx;simp only[aO.bh,Exact] at h ⊢;rw[hx.1];obtain rfl:=mk_inj h.2.2.2;exact⟨h.1,h.2.1,h.2.2.1,by simp[aO.bq,cf]⟩
 | build z ps =>
  simp only[aO.bh] at h ⊢;rw[Rf (ps:=ps) hx];cases hb:(pB (cf t s) z ps).map V.agg with
  | none=>rw[hb] at h;exact h.elim
  | some u=>rw[hb] at h;exact⟨h.1,rfl⟩
 | jn k xs =>
  simp only[aO.bh] at h ⊢;rw[Xi (xs:=xs) hx];cases hb:(lV (cf t s) k xs).map (V.sl .ba k) with
  | none=>rw[hb] at h;exact h.elim
  | some u=>rw[hb] at h;exact⟨h.1,rfl⟩
 | load g n x =>
  simp only[aO.xs,ff] at hx;simp only[aO.bh] at h ⊢;rw[hx.1,U7,xn g n x rfl];exact⟨rfl,rfl⟩
 | store n a x =>
  obtain rfl:=uj rfl;simp only[aO.xs,ff] at hx;simp only[aO.bh] at h ⊢;rw[hx.1,hx.2.1];generalize ev (cf t s2) x=xv at h ⊢;generalize ev (cf t s2) a=av at h ⊢;have key:∀aM,dR (cf t s2) n xv av=aa aM -> dR (cf t2 s2) n xv av=aa (cf t2 (aM.aD,aM.out)):=λaM he=>by
   cases av with
   | ptr p off =>
    cases p with
    | kB b=>simp[dR] at he
    | aD i =>
     simp only[dR,cf,iI] at he ⊢;obtain⟨cs,h1,h2⟩:=he;refine⟨cs,h1,?_⟩
     by_cases hc:cg n (cs.drop off)=ab/\xv.wd=aa n/\cL xv.cells=ab
     .rw[aE hc] at h2 ⊢;simp only[a9] at h2;subst h2;rfl
     .rw[aA hc] at h2;simp at h2
    | out b =>
     simp only[dR,cf,iI] at he ⊢;obtain⟨cs,h1,h2⟩:=he;refine⟨cs,h1,?_⟩
     by_cases hc:cg n (cs.drop off)=ab/\xv.wd=aa n/\cL xv.cells=ab/\bO xv.cells=ab
     .rw[aE hc] at h2 ⊢;simp only[a9] at h2;subst h2;rfl
     .rw[aA hc] at h2;simp at h2
   | _=>simp[dR] at he
  split at h
  case h_2=>exact h.elim
  rename_i aM he;rw[key aM he]
  have:=iK (λq:St=>(q.aD,q.out)) h.2
  have h2:(aM.aD,aM.out)=s' := this;exact⟨h.1,by rw[h2];rfl⟩
 | wh x =>
  simp only[aO.xs,ff] at hx;simp only[aO.bh] at h ⊢;rw[hx.1];split at h<;>first | exact⟨h.1,rfl⟩ | exact h.elim
 | eW op x y =>
  simp only[aO.xs,ff] at hx;simp only[aO.bh] at h ⊢;rw[hx.1,hx.2.1];cases hb:vA op (ev (cf t s) x) (ev (cf t s) y) with
  | none=>rw[hb] at h;exact h.elim
  | some u=>rw[hb] at h;exact⟨h.1,rfl⟩
 | pA op x y =>
  simp only[aO.xs,ff] at hx;simp only[aO.bh] at h ⊢;rw[hx.1,hx.2.1];cases hb:Af op (ev (cf t s) x) (ev (cf t s) y) with
  | none=>rw[hb] at h;exact h.elim
  | some u=>rw[hb] at h;exact⟨h.1,rfl⟩
 | vz neg x y =>
  simp only[aO.xs,ff] at hx;simp only[aO.bh] at h ⊢;rw[hx.1,hx.2.1];cases hb:yD neg (ev (cf t s) x) (ev (cf t s) y) with
  | none=>rw[hb] at h;exact h.elim
  | some u=>rw[hb] at h;exact⟨h.1,rfl⟩
 | cat x y =>
  simp only[aO.xs,ff] at hx;simp only[aO.bh] at h ⊢;rw[hx.1,hx.2.1];obtain⟨a,b,h1,h2,h3,h4⟩:=h;exact⟨a,b,h1,h2,h3,h4.1,rfl⟩
 | kA neg n x y =>
  simp only[aO.xs,ff] at hx;simp only[aO.bh] at h ⊢;rw[hx.1,hx.2.1];cases hb:yC neg n (ev (cf t s) x) (ev (cf t s) y) with
  | none=>rw[hb] at h;exact h.elim
  | some u=>rw[hb] at h;exact⟨h.1,rfl⟩
 | r6 neg x y =>
  simp only[aO.xs,ff] at hx;simp only[aO.bh] at h ⊢;rw[hx.1,hx.2.1];split at h
  .exact⟨h.1,rfl⟩
  .exact h.elim
 | not x =>
  simp only[aO.xs,ff] at hx;simp only[aO.bh] at h ⊢;rw[hx.1];split at h
  .exact⟨h.1,rfl⟩
  .exact h.elim
 | wc x =>
  simp only[aO.xs,ff] at hx;simp only[aO.bh] at h ⊢;rw[hx.1];split at h
  .exact⟨h.1,rfl⟩
  .exact⟨h.1,rfl⟩
  .exact h.elim
 | we x =>
  simp only[aO.xs,ff] at hx;simp only[aO.bh] at h ⊢;rw[hx.1];split at h
  .exact⟨h.1,rfl⟩
  .exact h.elim
 | pH off x =>
  simp only[aO.xs,ff] at hx;simp only[aO.bh] at h ⊢;rw[hx.1];split at h
  .exact⟨h.1,rfl⟩
  .exact⟨h.1,rfl⟩
  .exact h.elim
 | vO g off n x =>
  simp only[aO.xs,ff] at hx;simp only[aO.bh] at h ⊢;rw[hx.1];split at h
  case h_2=>exact h.elim
  rename_i cs e;cases hb:bI g n (cs.drop off) with
  | none=>rw[hb] at h;exact h.elim
  | some u=>rw[hb] at h;exact⟨h.1,rfl⟩
 | tA k x i =>
  simp only[aO.xs,ff] at hx;simp only[aO.bh] at h ⊢;rw[hx.1,hx.2.1];split at h
  .obtain⟨h1,k',n,c,h2,h3,h4,h5⟩:=h;exact⟨h1,k',n,c,h2,h3,h4,h5.1,rfl⟩
  .obtain⟨k',n,h2,h3,h4,h5⟩:=h;exact⟨k',n,h2,h3,h4,h5.1,rfl⟩
  .exact h.elim
 | sr m k x i =>
  simp only[aO.xs,ff] at hx;simp only[aO.bh] at h ⊢;rw[hx.1,hx.2.1];split at h
  .obtain⟨kk,n,h1,h2,h3,h4⟩:=h;exact⟨kk,n,h1,h2,h3,h4.1,rfl⟩
  .obtain⟨kk,n,h1,h2,h3,h4⟩:=h;exact⟨kk,n,h1,h2,h3,h4.1,rfl⟩
  .exact h.elim
 | tB x i =>
  simp only[aO.xs,ff] at hx;simp only[aO.bh] at h ⊢;rw[hx.1,hx.2.1];split at h
  case h_2=>exact h.elim
  obtain⟨k',n,c,h2,h3,h4,h5⟩:=h;exact⟨k',n,c,h2,h3,h4,h5.1,rfl⟩
 | call f xs =>
  obtain rfl:=uj rfl;simp only[aO.bh] at h ⊢;rw[Cf (xs:=xs) hx];refine⟨h.1,h.2.mono λu D hu=>?_⟩;obtain rfl:=mk_inj hu.2;exact⟨hu.1,rfl⟩
 | iX x xs =>
  obtain rfl:=uj rfl;simp only[aO.xs,ff] at hx;simp only[aO.bh] at h ⊢;rw[hx.1,Cf hx.2];split at h
  case h_2=>exact h.elim
  refine⟨h.1,h.2.mono λu D hu=>?_⟩;obtain rfl:=mk_inj hu.2;exact⟨hu.1,rfl⟩
 | app k x y =>
  obtain rfl:=uj rfl;simp only[aO.xs,ff] at hx;simp only[aO.bh,qV] at h ⊢;rw[hx.1,hx.2.1];obtain⟨tk,l,m,h1,h2,h3,h4⟩:=h;refine⟨tk,l,m,h1,h2,h3,?_⟩;have conv:∀{u:V} {D:af},Exact t v s' u ⟨t,s2.1,D⟩->Exact t2 v (if (aO.app k x y).bq then s' else s2) u ⟨t2,s2.1,D⟩:=λ{u D} hu=>by
   obtain rfl:=mk_inj hu.2;exact⟨hu.1,rfl⟩
  cases tk with
  | no=>exact h4
  | ba =>
   rcases h4 with h4 | h4 | ⟨Z,h4,h5⟩
   .exact .inl λZ bc=>conv (h4 Z bc)
   .exact .inr (.inl (conv h4))
   .exact .inr (.inr ⟨Z,h4,conv h5⟩)
  | tk Z=>exact⟨h4.1,conv h4.2⟩
 | nj x y =>
  obtain rfl:=uj rfl;simp only[aO.xs,ff] at hx;simp only[aO.bh,qV] at h ⊢;rw[hx.1,hx.2.1];obtain⟨aF,h0,tk,l,m,h1,h2,h3,h4⟩:=h;refine⟨aF,h0,tk,l,m,h1,h2,h3,?_⟩;have conv:∀{u:V} {D:af},Exact t v s' u ⟨t,s2.1,D⟩->Exact t2 v (if (aO.nj x y).bq then s' else s2) u ⟨t2,s2.1,D⟩:=λ{u D} hu=>by
   obtain rfl:=mk_inj hu.2;exact⟨hu.1,rfl⟩
  cases tk with
  | no=>exact h4
  | ba =>
   rcases h4 with h4 | h4 | ⟨Z,h4,h5⟩
   .exact .inl λZ bc=>conv (h4 Z bc)
   .exact .inr (.inl (conv h4))
   .exact .inr (.inr ⟨Z,h4,conv h5⟩)
  | tk Z=>exact⟨h4.1,conv h4.2⟩
 | kV k x lo hi mx =>
  simp only[aO.xs,ff] at hx;simp only[aO.bh] at h ⊢;rw[hx.1]
  rcases h with ⟨tk,l,m,n,h1,h2,h3,h4,h5,h6⟩ | ⟨a,n,cap,m,hh,h1,h2,h3,h4,h5,h6,h7⟩
  .refine .inl ⟨tk,l,m,n,h1,h2,h3,?_,?_,?_⟩
   .cases lo with
    | none=>exact h4
    | some y=>simp only at h4 ⊢;rw[hx.2 y (by simp[tK])];exact h4
   .cases hi with
    | none=>exact h5
    | some y=>simp only at h5 ⊢;rw[hx.2 y (by simp[tK])];exact h5
   .cases mx with
    | none=>exact⟨h6.1,rfl⟩
    | some y=>simp only at h6 ⊢;rw[hx.2 y (by simp[tK])];exact⟨h6.1,h6.2.1,rfl⟩
  .refine .inr ⟨a,n,cap,m,hh,h1,h2,h3,?_,?_,h6,h7.1,rfl⟩
   .cases lo with
    | none=>exact h4
    | some y=>simp only at h4 ⊢;rw[hx.2 y (by simp[tK])];exact h4
   .cases hi with
    | none=>exact h5
    | some y=>simp only at h5 ⊢;rw[hx.2 y (by simp[tK])];exact h5
 | zE x lo hi =>
  simp only[aO.xs,ff] at hx;simp only[aO.bh] at h ⊢;rw[hx.1];obtain⟨l,m,n,h1,h2,h3,h4,h5,h6⟩:=h;refine⟨l,m,n,h1,h2,h3,?_,?_,h6.1,rfl⟩
  .cases lo with
   | none=>exact h4
   | some y=>simp only at h4 ⊢;rw[hx.2 y (by simp[tK])];exact h4
  .cases hi with
   | none=>exact h5
   | some y=>simp only at h5 ⊢;rw[hx.2 y (by simp[tK])];exact h5
 | ext x i =>
  simp only[aO.xs,ff] at hx;simp only[aO.bh] at h ⊢;rw[hx.1];split at h
  case h_2=>exact h.elim
  rename_i vs e;cases hb:vs[i]? with
  | none=>rw[hb] at h;exact h.elim
  | some u=>rw[hb] at h;exact⟨h.1,rfl⟩
 | ko f first cap =>
  simp only[aO.xs,List.forall_mem_append] at hx;simp only[aO.bh] at h ⊢;rw[Cf hx.1,Cf hx.2];exact⟨h.1,rfl⟩
 | qt k x =>
  simp only[aO.xs,ff] at hx;simp only[aO.bh] at h ⊢;rw[hx.1];split at h
  .exact⟨h.1,rfl⟩
  .exact h.elim
 | uc x =>
  simp only[aO.xs,ff] at hx;simp only[aO.bh] at h ⊢;rw[hx.1];obtain⟨tk,aF,h1,h2⟩:=h;exact⟨tk,aF,h1,h2.1,rfl⟩
 | qm z =>
  obtain rfl:=uj rfl;simp only[aO.bh,Exact] at h ⊢;refine⟨h.1,λb hb=>?_⟩;obtain⟨h1,h2⟩:=h.2 b hb;obtain rfl:=mk_inj h2;exact⟨h1,by simp[aO.bq,cf]⟩
 | gO n x =>
  obtain rfl:=uj rfl;simp only[aO.xs,ff] at hx;simp only[aO.bh,Exact] at h ⊢;rw[hx.1];refine⟨h.1,h.2.1,λb hb=>?_⟩;obtain⟨h1,h2⟩:=h.2.2 b hb;obtain rfl:=mk_inj h2;exact⟨h1,by simp[aO.bq,cf]⟩
 | own q xs =>
  simp only[aO.bh,aO.xs] at h hx ⊢;rw[Cf hx];cases hp:q.pure
  .have he:(aO.own q xs).bq=true:=by simp[aO.bq,hp]
   obtain rfl:=uj he;refine OQ.mono (λu σ' hu=>?_) q _ h;obtain rfl:=mk_inj hu.2;exact⟨hu.1,by rw[aE he];rfl⟩
  .have he:¬((aO.own q xs).bq=ab):=by simp[aO.bq,hp]
   obtain⟨u,h1,h2⟩:=OQ.R2 hp h;exact h2 _ _ ⟨h1.1,by rw[aA he]⟩
end
def zM(D:af)(k:Nat)(s x:V)(K:V->af->Prop):Prop :=
 ∃t l m,s = .sl t k l/\(∃t',x = .sl t' k m)/\l.length+m.length<=aK /\
  match t with
  | .ba=>K (.sl .no k (l++m)) D\/∃Z,D.aP Z=aa l.length/\K (.sl (.tk Z) k (l++m)) (D.aY Z (l.length+m.length))
  | .tk Z=>D.aP Z=aa l.length/\K (.sl (.tk Z) k (l++m)) (D.aY Z (l.length+m.length))
  | .no=>False
def aO.mB(P:Program)(st:St)(K:V->St->Prop):aO->Prop
 | .call f xs=>bO (di st xs)=ab/\∃v D,cz P f (di st xs) st.out (λv' σ' => v' = v/\σ' = D)/\K v ⟨st.t,st.aD,D⟩
 | .iX x xs => match ev st x with
  | .fn (.func f) a b=>bO (a++di st xs++b)=ab/\∃v D,cz P f (a++di st xs++b) st.out (λv' σ' => v' = v/\σ' = D)/\K v ⟨st.t,st.aD,D⟩
  | _=>False
 | .app k s x=>zM st.out k (ev st s) (ev st x) λv D=>K v ⟨st.t,st.aD,D⟩
 | .nj s x=>∃a,ev st x = .aF a/\zM st.out 1 (ev st s) (.sl .no 1 (dE a)) λv D=>K v ⟨st.t,st.aD,D⟩
 | .qm _ | .gO _ _=>False
 | .own q xs=>q.pure=ab/\q.bh st.out (λv D=>K v ⟨st.t,st.aD,D⟩) (di st xs)
 | op=>op.bh P st K
structure TR where
 dst:Option Nat
 val:V
 bq:Bool
 zJ:dm
def kS(t:List V)(d:Option Nat)(v:V):List V :=
 match d with
 | some n=>t.set n v
 | none=>t
def FF(t:List V)(s:dm)(d:Option Nat)(v:V):(cf t s).put d v=cf (kS t d v) s:=by cases d<;>rfl
def Dm:dm:=([],⟨λ_=>ag,λ_=>ag,λ_=>ag⟩)
def Aj(SN:List dm)(g:Bool)(n:Nat)(a v:V):List Nat->Prop
 | []=>True
 | m::ms=>sy (SN.getD m Dm) g n a=aa v/\Aj SN g n a v ms
def qZ(SN:List dm):List (V × Bool × Nat × V × List Nat)->Prop
 | []=>True
 | (a,g,n,v,ms)::r=>Aj SN g n a v ms/\qZ SN r
def Rk{SN:List dm}{g:Bool}{n:Nat}{a v:V}:∀{ms:List Nat},Aj SN g n a v ms->∀m∈ms,sy (SN.getD m Dm) g n a=aa v
 | [],_,_,h=>by simp at h
 | m :: ms, h, m', h' => by
  rcases lF.1 h' with rfl | h'
  .exact h.1
  .exact Rk h.2 m' h'
def Nk(st:St)(ms:List Nat)(v:V):aO->List (V × Bool × Nat × V × List Nat)
 | .load g n x=>[(ev st x,g,n,v,ms)]
 | _=>[]
def cy(P:Program):List (AO × List Nat)->List dm->List (V × Bool × Nat × V × List Nat)->(St->Prop)->St->Prop
 | [],SN,L,K,st=>qZ SN L/\K st
 | (o, ms) :: r, SN, L, K, st =>
  match o.guard with
  | none=>o.op.mB P st λv aM => cy P r (if o.op.bq then SN++[(aM.aD,aM.out)] else SN) (Nk st ms v o.op++L) K (aM.put o.dst v)
  | some (g, want) =>
   match ev st (.s g) with
   | .bool b =>
    if b=want then o.op.mB P st λv aM => cy P r (if o.op.bq then SN++[(aM.aD,aM.out)] else SN) (Nk st ms v o.op++L) K (aM.put o.dst v)
    else cy P r (if o.op.bq then SN++[(st.aD,st.out)] else SN) L K (st.put o.dst (.bt []))
   | .bt []=>cy P r (if o.op.bq then SN++[(st.aD,st.out)] else SN) L K (st.put o.dst (.bt []))
   | _=>False
def QC(P:Program)(SN:List dm)(o:AO)(ms:List Nat)(t:List V)(s:dm)(r:TR):Prop :=
 r.dst=o.dst/\r.bq=o.op.bq/\∃run:Bool,
  (match o.guard with | none=>run=ab | some (g,want)=>(∃b,t.getD g .any = .bool b/\run=(b == want))\/t.getD g .any = .bt []/\run=ak) /\
  (run=ab->o.op.bh P (cf t s) (Exact t r.val (if o.op.bq then r.zJ else s))/\∀g n x,o.op = .load g n x->∀m∈ms,sy (SN.getD m Dm) g n (ev (cf t s) x)=aa r.val) /\
  (run=ak->r.val = .bt []/\(r.bq=ab->r.zJ=s))
def yo(P:Program)(SN:List dm):List (AO × List Nat)->List TR->List V->dm->Prop
 | [],[],_,_=>True
 | (o,ms)::l,r::tr,t,s=>QC P SN o ms t s r/\yo P SN l tr (kS t r.dst r.val) (if r.bq then r.zJ else s)
 | _,_,_,_=>False
def runT:List TR->List V->List V
 | [],t=>t
 | r::tr,t=>runT tr (kS t r.dst r.val)
def dW:List TR->dm->dm
 | [],s=>s
 | r::tr,s=>dW tr (if r.bq then r.zJ else s)
def la:List TR->List dm
 | []=>[]
 | r::tr=>if r.bq then r.zJ::la tr else la tr
section
variable {P:Program}
def asT{op:aO}{t:List V}{K:V->St->Prop}(h:op.mB P (cf t s) K):∃v s',op.bh P (cf t s) (Exact t v s')/\K v (cf t s')/\(op.bq=ak->s' = s):=by
 have xQ:∀{o:Option V},opt o (K2 K (cf t s))->∃v,opt o (K2 (Exact t v s) (cf t s))/\K v (cf t s):=λ{o} h=>by
  cases o with
  | none=>exact h.elim
  | some u=>exact⟨u,⟨rfl,rfl⟩,h⟩
 cases op with
 | mv x=>exact⟨_,s,⟨rfl,rfl⟩,h,λ_=>rfl⟩
 | pick c a b =>
  simp only[aO.mB,aO.bh] at h ⊢;split at h
  .rename_i e;exact⟨_,s,⟨rfl,rfl⟩,h,λ_=>rfl⟩
  .rename_i e;exact⟨_,s,⟨rfl,rfl⟩,h,λ_=>rfl⟩
  .exact h.elim
 | alloc z=>exact⟨_,(s.1++[z],s.2),⟨rfl,rfl⟩,h,λh=>by simp[aO.bq] at h⟩
 | box n x=>exact⟨_,(s.1++[(ev (cf t s) x).cells],s.2),⟨h.1,rfl,rfl⟩,h.2,λh=>by simp[aO.bq] at h⟩
 | vB n x=>exact⟨_,(s.1++[(ev (cf t s) x).cells],s.2),⟨h.1,h.2.1,rfl,rfl⟩,h.2.2,λh=>by simp[aO.bq] at h⟩
 | build z ps=>obtain⟨v,h1,h2⟩:=xQ h;exact⟨v,s,h1,h2,λ_=>rfl⟩
 | jn k xs=>obtain⟨v,h1,h2⟩:=xQ h;exact⟨v,s,h1,h2,λ_=>rfl⟩
 | load g n x=>obtain⟨v,h1,h2⟩:=xQ h;exact⟨v,s,h1,h2,λ_=>rfl⟩
 | store n a x =>
  simp only[aO.mB,aO.bh] at h ⊢;split at h
  case h_2=>exact h.elim
  rename_i aM he;have ht:aM.t=t:=by
   generalize ev (cf t s) a=av at he;generalize ev (cf t s) x=xv at he;cases av with
   | ptr p off =>
    cases p with
    | kB b=>simp[dR] at he
    | aD i =>
     simp only[dR,iI] at he;obtain⟨cs,_,h2⟩:=he;split at h2
     .simp only[a9] at h2;subst h2;rfl
     .simp at h2
    | out b =>
     simp only[dR,iI] at he;obtain⟨cs,_,h2⟩:=he;split at h2
     .simp only[a9] at h2;subst h2;rfl
     .simp at h2
   | _=>simp[dR] at he
  obtain⟨t',l',o'⟩:=aM;simp only at ht;subst ht;exact⟨.any,(l',o'),⟨rfl,rfl⟩,h,λh=>by simp[aO.bq] at h⟩
 | wh x =>
  simp only[aO.mB,aO.bh] at h ⊢;split at h<;>first | exact⟨_,s,⟨rfl,rfl⟩,h,λ_=>rfl⟩ | exact h.elim
 | eW op x y=>obtain⟨v,h1,h2⟩:=xQ h;exact⟨v,s,h1,h2,λ_=>rfl⟩
 | pA op x y=>obtain⟨v,h1,h2⟩:=xQ h;exact⟨v,s,h1,h2,λ_=>rfl⟩
 | vz neg x y=>obtain⟨v,h1,h2⟩:=xQ h;exact⟨v,s,h1,h2,λ_=>rfl⟩
 | cat x y =>
  obtain⟨a,b,h1,h2,h3,h4⟩:=h;exact⟨_,s,⟨a,b,h1,h2,h3,rfl,rfl⟩,h4,λ_=>rfl⟩
 | kA neg n x y=>obtain⟨v,h1,h2⟩:=xQ h;exact⟨v,s,h1,h2,λ_=>rfl⟩
 | r6 neg x y =>
  simp only[aO.mB,aO.bh] at h ⊢;split at h
  .exact⟨_,s,⟨rfl,rfl⟩,h,λ_=>rfl⟩
  .exact h.elim
 | not x =>
  simp only[aO.mB,aO.bh] at h ⊢;split at h
  .exact⟨_,s,⟨rfl,rfl⟩,h,λ_=>rfl⟩
  .exact h.elim
 | wc x =>
  simp only[aO.mB,aO.bh] at h ⊢;split at h
  .exact⟨_,s,⟨rfl,rfl⟩,h,λ_=>rfl⟩
  .exact⟨_,s,⟨rfl,rfl⟩,h,λ_=>rfl⟩
  .exact h.elim
 | we x =>
  simp only[aO.mB,aO.bh] at h ⊢;split at h
  .exact⟨_,s,⟨rfl,rfl⟩,h,λ_=>rfl⟩
  .exact h.elim
 | pH off x =>
  simp only[aO.mB,aO.bh] at h ⊢;split at h
  .exact⟨_,s,⟨rfl,rfl⟩,h,λ_=>rfl⟩
  .exact⟨_,s,⟨rfl,rfl⟩,h,λ_=>rfl⟩
  .exact h.elim
 | vO g off n x =>
  simp only[aO.mB,aO.bh] at h ⊢;split at h
  .obtain⟨v,h1,h2⟩:=xQ h;exact⟨v,s,h1,h2,λ_=>rfl⟩
  .exact h.elim
 | tA k x i =>
  simp only[aO.mB,aO.bh] at h ⊢;split at h
  .obtain⟨h1,k',n,c,h2,h3,h4,h5⟩:=h;exact⟨_,s,⟨h1,k',n,c,h2,h3,h4,rfl,rfl⟩,h5,λ_=>rfl⟩
  .obtain⟨k',n,h2,h3,h4,h5⟩:=h;exact⟨_,s,⟨k',n,h2,h3,h4,rfl,rfl⟩,h5,λ_=>rfl⟩
  .exact h.elim
 | sr m k x i =>
  simp only[aO.mB,aO.bh] at h ⊢;split at h
  .obtain⟨kk,n,h1,h2,h3,h4⟩:=h;exact⟨_,s,⟨kk,n,h1,h2,h3,rfl,rfl⟩,h4,λ_=>rfl⟩
  .obtain⟨kk,n,h1,h2,h3,h4⟩:=h;exact⟨_,s,⟨kk,n,h1,h2,h3,rfl,rfl⟩,h4,λ_=>rfl⟩
  .exact h.elim
 | tB x i =>
  simp only[aO.mB,aO.bh] at h ⊢;split at h
  .obtain⟨k',n,c,h2,h3,h4,h5⟩:=h;exact⟨_,s,⟨k',n,c,h2,h3,h4,rfl,rfl⟩,h5,λ_=>rfl⟩
  .exact h.elim
 | call f xs =>
  obtain⟨h1,v,D,h2,h3⟩:=h;exact⟨v,(s.1,D),⟨h1,h2.mono λu σ' hu=>⟨hu.1,by rw[hu.2];rfl⟩⟩,h3,λh=>by simp[aO.bq] at h⟩
 | iX x xs =>
  simp only[aO.mB,aO.bh] at h ⊢;split at h
  .rename_i e;obtain⟨h1,v,D,h2,h3⟩:=h;refine⟨v,(s.1,D),?_,h3,λh=>by simp[aO.bq] at h⟩
   (try rw[e])
   exact⟨h1,h2.mono λu σ' hu=>⟨hu.1,by rw[hu.2];rfl⟩⟩
  .exact h.elim
 | app k x y =>
  obtain⟨tk,l,m,h1,h2,h3,h4⟩:=h;cases tk with
  | no=>exact h4.elim
  | ba =>
   rcases h4 with h4 | ⟨Z,h4,h5⟩
   .exact⟨_,s,⟨_,l,m,h1,h2,h3,.inr (.inl ⟨rfl,rfl⟩)⟩,h4,λh=>by simp[aO.bq] at h⟩
   .exact⟨_,(s.1,_),⟨_,l,m,h1,h2,h3,.inr (.inr ⟨Z,h4,rfl,rfl⟩)⟩,h5,λh=>by simp[aO.bq] at h⟩
  | tk Z=>exact⟨_,(s.1,_),⟨_,l,m,h1,h2,h3,h4.1,rfl,rfl⟩,h4.2,λh=>by simp[aO.bq] at h⟩
 | nj x y =>
  obtain⟨a,h0,tk,l,m,h1,h2,h3,h4⟩:=h;cases tk with
  | no=>exact h4.elim
  | ba =>
   rcases h4 with h4 | ⟨Z,h4,h5⟩
   .exact⟨_,s,⟨a,h0,_,l,m,h1,h2,h3,.inr (.inl ⟨rfl,rfl⟩)⟩,h4,λh=>by simp[aO.bq] at h⟩
   .exact⟨_,(s.1,_),⟨a,h0,_,l,m,h1,h2,h3,.inr (.inr ⟨Z,h4,rfl,rfl⟩)⟩,h5,λh=>by simp[aO.bq] at h⟩
  | tk Z=>exact⟨_,(s.1,_),⟨a,h0,_,l,m,h1,h2,h3,h4.1,rfl,rfl⟩,h4.2,λh=>by simp[aO.bq] at h⟩
 | kV k x lo hi mx =>
  simp only[aO.mB,aO.bh] at h ⊢
  rcases h with ⟨tk,l,m,n,h1,h2,h3,h4,h5,h6⟩ | ⟨a,n,cap,m,hh,h1,h2,h3,h4,h5,h6,h7⟩
  .cases mx with
   | none=>exact⟨_,s,.inl ⟨tk,l,m,n,h1,h2,h3,h4,h5,rfl,rfl⟩,h6,λ_=>rfl⟩
   | some y=>exact⟨_,s,.inl ⟨tk,l,m,n,h1,h2,h3,h4,h5,h6.1,rfl,rfl⟩,h6.2,λ_=>rfl⟩
  .exact⟨_,s,.inr ⟨a,n,cap,m,hh,h1,h2,h3,h4,h5,h6,rfl,rfl⟩,h7,λ_=>rfl⟩
 | zE x lo hi =>
  obtain⟨l,m,n,h1,h2,h3,h4,h5,h6⟩:=h;exact⟨_,s,⟨l,m,n,h1,h2,h3,h4,h5,rfl,rfl⟩,h6,λ_=>rfl⟩
 | ext x i =>
  simp only[aO.mB,aO.bh] at h ⊢;split at h
  .obtain⟨v,h1,h2⟩:=xQ h;exact⟨v,s,h1,h2,λ_=>rfl⟩
  .exact h.elim
 | ko f first cap=>exact⟨_,s,⟨rfl,rfl⟩,h,λ_=>rfl⟩
 | qt k x =>
  simp only[aO.mB,aO.bh] at h ⊢;split at h
  .exact⟨_,s,⟨rfl,rfl⟩,h,λ_=>rfl⟩
  .exact h.elim
 | uc x =>
  obtain⟨tk,aF,h1,h2⟩:=h;exact⟨_,s,⟨tk,aF,h1,rfl,rfl⟩,h2,λ_=>rfl⟩
 | qm z=>exact h.elim
 | gO n x=>exact h.elim
 | own q xs =>
  obtain⟨hp,h⟩:=h;obtain⟨v,h1,h2⟩:=OQ.R2 hp h;have hE:(aO.own q xs).bh P (cf t s) (Exact t v s):=h2 s.2 (λu D=>Exact t v s u ⟨t,s.1,D⟩) ⟨rfl,rfl⟩;exact⟨v,s,hE,h1,λ_=>rfl⟩
def Rn{SN:List dm}:∀{l m:List (V × Bool × Nat × V × List Nat)},qZ SN (l++m)↔qZ SN l/\qZ SN m
 | [],m=>by simp[qZ]
 | (a,g,n,v,ms)::l,m=>by simp only[iv,qZ,Rn,Kk]
def Jv{K:St->Prop}:∀{l:List (AO × List Nat)} {SN:List dm} {L:List (V × Bool × Nat × V × List Nat)} {t:List V} {s:dm},cy P l SN L K (cf t s) ->
 ∃tr,yo P (SN++la tr) l tr t s/\qZ (SN++la tr) L/\K (cf (runT tr t) (dW tr s))
 | [],SN,L,t,s,h=>⟨[],trivial,by simpa [la] using h.1,h.2⟩
 | (o, ms) :: l, SN, L, t, s, h => by
  have go:o.op.mB P (cf t s) (λv aM => cy P l (if o.op.bq then SN++[(aM.aD,aM.out)] else SN) (Nk (cf t s) ms v o.op++L) K (aM.put o.dst v)) ->
   (match o.guard with | none=>True | some (g,want)=>∃b,t.getD g .any = .bool b/\ab=(b == want)) ->
   ∃tr,yo P (SN++la tr) ((o,ms)::l) tr t s/\qZ (SN++la tr) L/\K (cf (runT tr t) (dW tr s)):=λh hg=>by
   obtain⟨v,s',h1,h2,h3⟩:=asT h;rw[FF] at h2;obtain⟨tr,k1,k2,k3⟩:=Jv h2;have dL : (if o.op.bq then s' else s)=s' := by cases he:o.op.bq<;>simp[he] at h3 ⊢;exact h3.symm
   have ui:SN++la (⟨o.dst,v,o.op.bq,s'⟩::tr)=(if o.op.bq then SN++[s'] else SN)++la tr:=by
    cases o.op.bq<;>simp[la]
   have akf : (if o.op.bq then SN++[((cf t s').aD,(cf t s').out)] else SN)=(if o.op.bq then SN++[s'] else SN):=rfl;rw[akf] at k1 k2;rw[Rn] at k2;refine⟨⟨o.dst,v,o.op.bq,s'⟩::tr,?_,by rw[ui];exact k2.2,?_⟩
   .rw[ui];refine⟨⟨rfl,rfl,ab,?_,λ_=>⟨by rw[dL];exact h1,λg n x hx m hm=>?_⟩,λh=>by simp at h⟩,by simp only[dL];exact k1⟩
    .cases pP:o.guard with
     | none=>rfl
     | some p=>rw[pP] at hg;exact .inl hg
    .rw[hx] at k2
     have:=Rk k2.1.1 m hm
     rw[<-hx] at this;exact this
   .simp only[runT,dW,dL];exact k3
  simp only[cy] at h;cases pP:o.guard with
  | none=>rw[pP] at h;exact go h (by rw[pP];trivial)
  | some p =>
   obtain⟨g,want⟩:=p;rw[pP] at h;simp only at h;have skip:∀cc : ((∃b,t.getD g .any = .bool b/\ak=(b == want))\/t.getD g .any = .bt []/\ak=ak),cy P l (if o.op.bq then SN++[((cf t s).aD,(cf t s).out)] else SN) L K ((cf t s).put o.dst (.bt [])) ->
    ∃tr,yo P (SN++la tr) ((o,ms)::l) tr t s/\qZ (SN++la tr) L/\K (cf (runT tr t) (dW tr s)):=λcc h=>by
    rw[FF] at h;obtain⟨tr,k1,k2,k3⟩:=Jv h;have Up:(if o.op.bq then s else s)=s:=by simp
    have ui:SN++la (⟨o.dst,.bt [],o.op.bq,s⟩::tr)=(if o.op.bq then SN++[s] else SN)++la tr:=by
     cases o.op.bq<;>simp[la]
    refine⟨⟨o.dst,.bt [],o.op.bq,s⟩::tr,?_,by rw[ui];exact k2,?_⟩
    .rw[ui];refine⟨⟨rfl,rfl,ak,by rw[pP];exact cc,λh=>by simp at h,λ_=>⟨rfl,λ_=>rfl⟩⟩,by simp only[Up];exact k1⟩
    .simp only[runT,dW,Up];exact k3
   split at h
   .rename_i b hb;have cc : t.getD g .any = .bool b:=hb;split at h
    .rename_i hw;exact go h (by rw[pP];exact⟨b,cc,by simp[hw]⟩)
    .rename_i hw;exact skip (.inl ⟨b,cc,by simp[hw]⟩) h
   .rename_i hb;exact skip (.inr ⟨hb,rfl⟩) h
   .exact h.elim
end
def cF(S:Nat->Bool):Nat->List TR->List TR
 | _,[]=>[]
 | i,r::tr=>if S i then r::cF S (i+1) tr else cF S (i+1) tr
def cI(S:Nat->Bool):Nat->List TR->Nat
 | _,[]=>0
 | i,r::tr=>(if S i&&r.bq then 1 else 0)+cI S (i+1) tr
def I1(t:List V)(d:Option Nat)(v:V):(kS t d v).length=t.length:=by cases d<;>simp[kS]
def Lh(t:List V)(d:Option Nat)(v:V)(x:Nat):(kS t d v).getD x .any=if d=aa x then(if x<t.length then v else .any) else t.getD x .any:=by
 cases d with
 | none=>simp[kS]
 | some n =>
  simp only[kS,a9]
  by_cases h:n=x
  .subst h;rw[aE rfl]
   by_cases hl:n<t.length
   .rw[aE hl];simp[ij,Qc hl]
   .rw[aA hl,ij,sP (by simp;omega)];rfl
  .rw[aA h];simp[ij,DL h]
def zF{S S' : Nat->Bool}{x:Nat}:∀{tr:List TR} {i:Nat} {t t' : List V},t.length=t'.length->t.getD x .any=t'.getD x .any ->
 (∀(j:Nat) r,tr[j]?=aa r->r.dst=aa x->S (i+j)=S' (i+j))->(runT (cF S i tr) t).getD x .any=(runT (cF S' i tr) t').getD x .any
 | [],i,t,t',_,h,_=>h
 | r :: tr, i, t, t', hl, h, hS => by
  have xr:∀(j:Nat) r',tr[j]?=aa r' -> r'.dst=aa x->S (i+1+j)=S' (i+1+j):=λj r' hr hd=>by
   have:=hS (j+1) r' (by simpa using hr) hd
   rw[show i+(j+1)=i+1+j from by omega] at this;exact this
  have h0:r.dst=aa x->S i=S' i:=λhd=>by simpa using hS 0 r (by simp) hd
  simp only[cF]
  by_cases hd:r.dst=aa x
  .rw[h0 hd];cases S' i
   .exact zF hl h xr
   .simp only[cm,runT];refine zF (by simp[I1,hl]) ?_ xr;rw[Lh,Lh,aE hd,aE hd,hl]
  .have e:∀t:List V,(kS t r.dst r.val).getD x .any=t.getD x .any:=λt=>by rw[Lh,aA hd]
   cases S i<;>cases S' i<;>simp only[cm,bZ,da,runT]
   .exact zF hl h xr
   .exact zF (by simp[I1,hl]) (by rw[e];exact h) xr
   .exact zF (by simp[I1,hl]) (by rw[e];exact h) xr
   .exact zF (by simp[I1,hl]) (by rw[e,e];exact h) xr
def aq9(t:List V){d d' : Option Nat}(v v' : V)(h:∀n,d=aa n->d' ≠ aa n):kS (kS t d v) d' v' = kS (kS t d' v') d v:=by
 cases d with
 | none=>rfl
 | some n =>
  cases d' with
  | none=>rfl
  | some m =>
   simp only[kS];rw[List.set_comm];intro e;exact h n rfl (by rw[e])
def Xy:∀{tr:List TR} {t:List V} {d:Option Nat} {v:V},(∀r∈tr,∀n,d=aa n->r.dst≠aa n)->runT tr (kS t d v)=kS (runT tr t) d v
 | [],_,_,_,_=>rfl
 | r :: tr, t, d, v, h => by
  simp only[ff] at h;simp only[runT];rw[aq9 t v r.val h.1,Xy h.2]
def OW{S:Nat->Bool}:∀{tr:List TR} {i:Nat} {r:TR},r∈cF S i tr->∃j,tr[j]?=aa r/\S (i+j)=ab
 | [],_,_,h=>by simp[cF] at h
 | q :: tr, i, r, h => by
  simp only[cF] at h;split at h
  .rename_i hS
   rcases lF.1 h with rfl | h
   .exact⟨0,by simp,by simpa using hS⟩
   .obtain⟨j,h1,h2⟩:=OW h;exact⟨j+1,by simpa using h1,by rw[show i+(j+1)=i+1+j from by omega];exact h2⟩
  .obtain⟨j,h1,h2⟩:=OW h;exact⟨j+1,by simpa using h1,by rw[show i+(j+1)=i+1+j from by omega];exact h2⟩
def add(S:Nat->Bool)(k:Nat):Nat->Bool:=λj=>S j||decide (j=k)
def X4{S:Nat->Bool}{k:Nat}:∀{tr:List TR} {i:Nat},k<i->cF (add S k) i tr=cF S i tr
 | [],_,_=>rfl
 | r :: tr, i, h => by
  have:add S k i=S i:=by simp[add];intro e;omega
  simp only[cF,this,X4 (k:=k) (tr:=tr) (i:=i+1) (by omega)]
def Xv{S:Nat->Bool}{k:Nat}{r:TR}:∀{tr:List TR} {i:Nat} {t:List V},i<=k->tr[k - i]?=aa r->S k=ak->(∀(j:Nat) r',tr[j]?=aa r' -> i+j≠k->∀n,r.dst=aa n->r'.dst≠aa n) ->
 runT (cF (add S k) i tr) t=kS (runT (cF S i tr) t) r.dst r.val
 | [],i,t,_,h,_,_=>by simp at h
 | q :: tr, i, t, Cy, hr, hS, hd => by
  by_cases he:i=k
  .subst he;simp at hr;subst hr;have h1:add S i i=true:=by simp[add]
   simp only[cF,h1,cm,hS,da,bZ,runT];rw[X4 (by omega)];refine Xy λr' cB n hn=>?_
   obtain⟨j,h1,_⟩:=OW cB;exact hd (j+1) r' (by simpa using h1) (by omega) n hn
  .have h1:add S k i=S i:=by simp[add,he]
   have cB : tr[k - (i+1)]?=aa r:=by
    rw[show k - i=(k - (i+1))+1 from by omega] at hr;simpa using hr
   have ih:=λt=>Xv (tr:=tr) (i:=i+1) (t:=t) (by omega) cB hS (λj r' hj aW n hn=>hd (j+1) r' (by simpa using hj) (by omega) n hn)
   simp only[cF,h1];cases S i
   .simpa using ih t
   .simpa [runT] using ih _
def Xu{S:Nat->Bool}:∀{tr:List TR} {i:Nat} {s:dm},(∀(j:Nat) r,tr[j]?=aa r->r.bq=ab->S (i+j)=ak)->dW (cF S i tr) s=s/\cI S i tr=0
 | [],_,_,_=>⟨rfl,rfl⟩
 | r :: tr, i, s, h => by
  have ih:=λs=>Xu (S:=S) (tr:=tr) (i:=i+1) (s:=s) λj r' hj he=>by
   have:=h (j+1) r' (by simpa using hj) he
   rw[show i+(j+1)=i+1+j from by omega] at this;exact this
  have h0:r.bq=ab->S i=false:=λhe=>by simpa using h 0 r (by simp) he
  simp only[cF,cI];cases he:r.bq
  .cases S i<;>simp[dW,he,(ih s).1,(ih s).2]
  .rw[h0 he];simp[(ih s).1,(ih s).2]
def Xt{S:Nat->Bool}:∀{tr:List TR} {i:Nat} {s:dm},(∀(j k:Nat) r r',tr[j]?=aa r->tr[k]?=aa r' -> r.bq=ab->r'.bq=ab->j<k->S (i+k)=ab->S (i+j)=ab) ->
 dW (cF S i tr) s=(s::la tr).getD (cI S i tr) Dm
 | [],_,_,_=>by simp[cF,dW,cI]
 | r :: tr, i, s, h => by
  have xr:∀(j k:Nat) r r',tr[j]?=aa r->tr[k]?=aa r' -> r.bq=ab->r'.bq=ab->j<k->S (i+1+k)=ab->S (i+1+j)=true:=λj k q q' h1 h2 h3 h4 h5 h6=>by
   have:=h (j+1) (k+1) q q' (by simpa using h1) (by simpa using h2) h3 h4 (by omega) (by rw[show i+(k+1)=i+1+k from by omega];exact h6)
   rw[show i+(j+1)=i+1+j from by omega] at this;exact this
  have ih:=λs=>Xt (S:=S) (tr:=tr) (i:=i+1) (s:=s) xr
  simp only[cF,cI,la];cases he:r.bq
  .cases S i<;>simp[dW,he,ih]
  .cases hS:S i
   .obtain⟨h1,h2⟩:=Xu (S:=S) (tr:=tr) (i:=i+1) (s:=s) λj r' hj HL => by
     cases hq:S (i+1+j) with
     | false=>rfl
     | true =>
      have:=h 0 (j+1) r r' (by simp) (by simpa using hj) he HL (by omega) (by rw[show i+(j+1)=i+1+j from by omega];exact hq)
      simp[hS] at this
    simp[h1,h2]
   .simp only[cm,dW,he,ih,JJ];rw[DO 1,List.getD_cons_succ]
def G4{S S' : Nat->Bool}:∀{tr:List TR} {i:Nat},(∀(j:Nat) r,tr[j]?=aa r->r.bq=ab->S (i+j)=S' (i+j))->cI S i tr=cI S' i tr
 | [],_,_=>rfl
 | r :: tr, i, h => by
  have ih:=G4 (S:=S) (S' := S') (tr:=tr) (i:=i+1) λj r' hj he=>by
   have:=h (j+1) r' (by simpa using hj) he
   rw[show i+(j+1)=i+1+j from by omega] at this;exact this
  have h0:r.bq=ab->S i=S' i:=λhe=>by simpa using h 0 r (by simp) he
  simp only[cI,ih];cases he:r.bq
  .simp
  .rw[h0 he]
def KI{S S' : Nat->Bool}:∀{tr:List TR} {i:Nat},(∀(j:Nat) r,tr[j]?=aa r->r.bq=ab->S (i+j)=ab->S' (i+j)=ab)->cI S i tr<=cI S' i tr
 | [],_,_=>bS _
 | r :: tr, i, h => by
  have ih:=KI (S:=S) (S' := S') (tr:=tr) (i:=i+1) λj r' hj he hS=>by
   have:=h (j+1) r' (by simpa using hj) he (by rw[show i+(j+1)=i+1+j from by omega];exact hS)
   rw[show i+(j+1)=i+1+j from by omega] at this;exact this
  have h0:r.bq=ab->S i=ab->S' i=true:=λhe hS=>by simpa using h 0 r (by simp) he (by simpa using hS)
  simp only[cI];cases he:r.bq
  .simpa using ih
  .cases hS:S i
   .simp;omega
   .simp[h0 he hS];exact ih
def X5{S:Nat->Bool}:∀{tr:List TR} {i:Nat},(∀j,j<tr.length->S (i+j)=ab)->cF S i tr=tr
 | [],_,_=>rfl
 | r :: tr, i, h => by
  have h0:S i=true:=by simpa using h 0 (by simp)
  simp only[cF,h0,cm];rw[X5 λj hj=>by
   have:=h (j+1) (by simp;omega)
   rw[show i+(j+1)=i+1+j from by omega] at this;exact this]
def eE(k:Nat):Nat->Bool:=λj=>decide (j<k)
def GB{P:Program}{SN:List dm}:∀{l:List (AO × List Nat)} {tr:List TR} {t:List V} {s:dm},yo P SN l tr t s->l.length=tr.length
 | [],[],_,_,_=>rfl
 | [],_::_,_,_,h=>h.elim
 | (o,ms)::_,[],_,_,h=>h.elim
 | (o,ms)::l,r::tr,t,s,h=>by simp[GB h.2]
def OX:∀{tr:List TR} {i k:Nat},k<=i->cF (eE k) i tr=[]
 | [],_,_,_=>rfl
 | r :: tr, i, k, h => by
  have:eE k i=false:=by simp[eE];omega
  simp only[cF,this,da,bZ];exact OX (by omega)
def GC{P:Program}{SN:List dm}{o:AO}{ms:List Nat}{r:TR}:∀{l:List (AO × List Nat)} {tr:List TR} {t:List V} {s:dm} {i k:Nat},yo P SN l tr t s->l[k]?=aa (o,ms)->tr[k]?=aa r ->
 QC P SN o ms (runT (cF (eE (i+k)) i tr) t) (dW (cF (eE (i+k)) i tr) s) r
 | [],_,_,_,_,_,_,h,_=>by simp at h
 | (_,_)::_,[],_,_,_,_,h,_,_=>h.elim
 | (o', ms') :: l, r' :: tr, t, s, i, k, h, hl, ht => by
  cases k with
  | zero =>
   simp at hl ht;obtain⟨rfl,rfl⟩:=hl;subst ht;rw[OX (by omega)];exact h.1
  | succ k =>
   have h1:eE (i+(k+1)) i=true:=by simp[eE]
   simp only[cF,h1,cm,runT,dW];rw[show i+(k+1)=i+1+k from by omega];exact GC h.2 (by simpa using hl) (by simpa using ht)
def zu(o:AO):List Nat:=o.op.xs.flatMap X.slot++(match o.guard with | some (g,_)=>[g] | none=>[])
structure DI where
 dst:Option Nat
 reads:List Nat
 bq:Bool
 ld:Bool
 ms:List Nat
 mask:Nat
def fD(p:AO × List Nat)(m:Nat):DI:=⟨p.1.dst,zu p.1,p.1.op.bq,p.1.op.C1,p.2,m⟩
def IP(b:List Nat)(o:Oper):Nat:=o.after.toList.foldl (λs e=>if Region.binds .any e then s|||2^e.on|||b.getD e.on 0 else s) 0
def D3(i:Nat)(x:DI)(j:Nat)(y:DI):Bool :=
 (match y.dst with
  | some d=>(!(x.reads.contains d)||(i != j&&(x.mask.testBit j||y.mask.testBit i)))&&(i == j||x.dst != aa d)
  | none=>ab)&&(!(decide (i<j)&&x.bq&&y.bq)||y.mask.testBit i)
def B_(p:Nat->DI->Bool)(l:List DI):Nat:=(l.zipIdx.filter λ(x,j)=>x.bq&&p j x).length
def pX(l:List DI)(x:DI):Nat:=B_ (λj _=>x.mask.testBit j) l
def yW(l:List DI)(i:Nat):Nat:=B_ (λ_ y=>!(y.mask.testBit i)) l
def Bg(l:List DI)(i:Nat):Nat:=B_ (λj _=>decide (j<i)) l
def Ro(l:List DI)(i:Nat)(x:DI):Bool :=
 !x.ld||((bX (yW l i+1 - pX l x)).all λq=>x.ms.contains (pX l x+q)||pX l x+q == Bg l i)
def yB(ops:Array Oper)(l:List (AO × List Nat))(b:List Nat):Bool :=
 let d:=l8 fD l b
 decide (l.length=ops.size)&&decide (b.length=ops.size) &&
 ((ops.toList.zip b).zipIdx.all λ((o,m),i)=>(o.after.toList.all λe=>!(Region.binds .any e)||decide (e.on<i))&&decide (m=IP b o)) &&
 (d.zipIdx.all λ(x,i)=>(d.zipIdx.all λ(y,j)=>D3 i x j y)&&Ro d i x)
def xK:List Oper->List Nat->List Nat
 | [],b=>b
 | o::os,b=>xK os (b++[IP b o])
def uF(P:Program)(ops:Array Oper)(o:Oper):Option AO :=
 match zi P o with
 | none=>ag
 | some op =>
  match o.guard with
  | none=>aa ⟨o.dst,op,ag⟩
  | some (j, want) =>
   match (ops[j]?).bind (·.dst) with
   | some g=>aa ⟨o.dst,op,aa (g,want)⟩
   | none=>ag
def A9(P:Program)(ops:Array Oper):List Oper->Option (List AO)
 | []=>aa []
 | o::os=>(uF P ops o).bind λx=>(A9 P ops os).map (x::·)
def IB(P:Program)(ops:Array Oper):Option (List (AO × List Nat)) :=
 match A9 P ops ops.toList with
 | none=>ag
 | some l0 =>
  let b:=xK ops.toList []
  let d:=l8 fD (l0.map λo=>(o,[])) b
  let l:=(l0.zip d).zipIdx.map λ((o,x),i)=>(o,if o.op.C1 then((bX (yW d i+1 - pX d x)).map (pX d x+·)).filter (· != Bg d i) else [])
  if yB ops l b=ab/\P.follows .mixedOrders=ab then aa l else ag
structure zP(ops:Array Oper)(l:List (AO × List Nat))(b:List Nat):Prop where
 size:l.length=ops.size
 back:∀(i:Nat) o,ops[i]?=aa o->∀e∈o.after,Region.binds .any e=ab->e.on<i
 mask:∀(i:Nat) o,ops[i]?=aa o->∀j,(b.getD i 0).testBit j=ab->∃e∈o.after,Region.binds .any e=ab/\(j=e.on\/(b.getD e.on 0).testBit j=ab)
 slot:∀(i j:Nat) (x y:AO × List Nat),l[i]?=aa x->l[j]?=aa y->∀d,y.1.dst=aa d->d∈zu x.1->i≠j/\((b.getD i 0).testBit j=ab\/(b.getD j 0).testBit i=ab)
 dst:∀(i j:Nat) (x y:AO × List Nat),l[i]?=aa x->l[j]?=aa y->i≠j->∀d,y.1.dst=aa d->x.1.dst≠aa d
 bq:∀(i j:Nat) (x y:AO × List Nat),l[i]?=aa x->l[j]?=aa y->i<j->x.1.op.bq=ab->y.1.op.bq=ab->(b.getD j 0).testBit i=ab
 load:∀(i:Nat) (x:AO × List Nat),l[i]?=aa x->x.1.op.C1=ab->∀m,pX (l8 fD l b) (fD x (b.getD i 0))<=m->m<=yW (l8 fD l b) i->m∈x.2\/m=Bg (l8 fD l b) i
def apS{b:List Nat}{o:Oper}{j:Nat}(h:(IP b o).testBit j=ab):∃e∈o.after,Region.binds .any e=ab/\(j=e.on\/(b.getD e.on 0).testBit j=ab):=by
 have key:∀(l:List Edge) (s:Nat),(l.foldl (λs e=>if Region.binds .any e then s|||2^e.on|||b.getD e.on 0 else s) s).testBit j=ab ->
  s.testBit j=ab\/∃e∈l,Region.binds .any e=ab/\(j=e.on\/(b.getD e.on 0).testBit j=ab):=by
  intro l;induction l with
  | nil=>intro s h;exact .inl h
  | cons e l ih =>
   intro s h;rw[zU] at h
   rcases ih _ h with h1 | ⟨e',h1,h2⟩
   .split at h1
    .rename_i hb;simp only[Nat.testBit_or,nh,Nat.testBit_two_pow,cn] at h1
     rcases h1 with(h1 | h1) | h1
     .exact .inl h1
     .exact .inr ⟨e,by simp,hb,.inl h1.symm⟩
     .exact .inr ⟨e,by simp,hb,.inr h1⟩
    .exact .inl h1
   .exact .inr ⟨e',by simp[h1],h2⟩
 rcases key o.after.toList 0 h with h1 | ⟨e,h1,h2⟩
 .simp at h1
 .exact⟨e,by simpa using h1,h2⟩
variable{i:Nat}
def awh{l:List (AO × List Nat)}{b:List Nat}(hl:b.length=l.length){x:AO × List Nat}(h:l[i]?=aa x):(l8 fD l b)[i]?=aa (fD x (b.getD i 0)):=by
 have aC:=(fv.1 h).1;rw[List.getElem?_zipWith,h]
 have:b[i]?=aa (b.getD i 0):=by
  rw[ij,cS (by omega)];rfl
 rw[this]
variable{ops:Array Oper}
def facts{l:List (AO × List Nat)}{b:List Nat}(h:yB ops l b=ab):zP ops l b:=by
 unfold yB at h;simp only[bF,cn,l7] at h;obtain⟨⟨⟨h1,h2⟩,h3⟩,h4⟩:=h;have UG:∀(i:Nat) o,ops[i]?=aa o->((o,b.getD i 0),i)∈(ops.toList.zip b).zipIdx:=λi o ho=>by
  have aC:=(lC.1 ho).1;rw[J7];rw[J3];refine⟨by simpa using ho,?_⟩;rw[ij,cS (by omega)];rfl
 have hd:∀(i:Nat) x,l[i]?=aa x->(fD x (b.getD i 0),i)∈(l8 fD l b).zipIdx:=λi x hx=>by
  rw[J7];exact awh (by omega) hx
 have pair:∀(i j:Nat) x y,l[i]?=aa x->l[j]?=aa y->D3 i (fD x (b.getD i 0)) j (fD y (b.getD j 0))=true:=λi j x y hx hy=>(h4 _ (hd i x hx)).1 _ (hd j y hy)
 refine⟨h1,λi o ho e he hb=>?_,λi o ho j hj=>?_,λi j x y hx hy d AE hr=>?_,λi j x y hx hy aW d AE=>?_,λi j x y hx hy aC he1 he2=>?_,λi x hx xn m eg nG=>?_⟩
 .have:=(h3 _ (UG i o ho)).1 e (by simpa using he)
  simpa [hb] using this
 .have this:b.getD i 0=IP b o:=(h3 _ (UG i o ho)).2;rw[this] at hj;exact apS hj
 .have:=pair i j x y hx hy
  simp only[D3,fD,AE,bF,nh,vb,bne_iff_ne,B6] at this;have hc:(zu x.1).contains d=true:=by simpa using hr
  rcases this.1.1 with h | ⟨h5,h6⟩
  .rw[hc] at h;simp at h
  .exact⟨h5,h6⟩
 .have:=pair i j x y hx hy
  simp only[D3,fD,AE,bF,nh,vb,bne_iff_ne,B6] at this
  rcases this.1.2 with h | h
  .exact absurd h aW
  .exact h
 .have:=pair i j x y hx hy
  simp only[D3,fD,bF,nh,vb,he1,he2,aC,bL,JJ] at this
  rcases this.2 with h | h
  .simp at h
  .exact h
 .have:=(h4 _ (hd i x hx)).2
  simp only[Ro,fD,xn,nh,vb,l7,zW,B6] at this
  rcases this with h | h
  .simp at h
  .have:=h (m - pX (l8 fD l b) (fD x (b.getD i 0))) (by simp only[fD,xn] at eg ⊢;omega)
   simp only[fD,xn] at this eg;rw[show pX (l8 fD l b) ⟨x.1.dst,zu x.1,x.1.op.bq,ab,x.2,b.getD i 0⟩+(m - pX (l8 fD l b) ⟨x.1.dst,zu x.1,x.1.op.bq,ab,x.2,b.getD i 0⟩)=m from by omega] at this
   rcases this with h | h
   .left;simpa using h
   .exact .inr h
def Nx{P:Program}{ops:Array Oper}:∀{os:List Oper} {l:List AO},A9 P ops os=aa l->l.length=os.length/\∀i:Nat,∀o,os[i]?=aa o->∃x,l[i]?=aa x/\uF P ops o=aa x
 | [],l,h=>by simp only[A9,a9] at h;subst h;exact⟨rfl,λi o h=>by simp at h⟩
 | o :: os, l, h => by
  simp only[A9,iI,dk] at h;obtain⟨x,h1,l',h2,rfl⟩:=h;obtain⟨h3,h4⟩:=Nx h2;refine⟨by simp[h3],λi q hq=>?_⟩;cases i with
  | zero=>simp at hq;subst hq;exact⟨x,by simp,h1⟩
  | succ i=>simp at hq;obtain⟨y,k1,k2⟩:=h4 i q hq;exact⟨y,by simpa using k1,k2⟩
def ant{l:List (AO × List Nat)}(h:IB P ops=aa l):
 ∃b,zP ops l b/\b.length=ops.size/\P.follows .mixedOrders=ab/\∀(i:Nat) o,ops[i]?=aa o->∃x:AO × List Nat,l[i]?=aa x/\uF P ops o=aa x.1:=by
 unfold IB at h;cases h0:A9 P ops ops.toList with
 | none=>rw[h0] at h;simp at h
 | some l0 =>
 rw[h0] at h;simp only at h;split at h
 case isFalse=>simp at h
 rename_i hc;simp only[a9] at h;subst h;refine⟨_,facts hc.1,?_,hc.2,λi o ho=>?_⟩
 .have:=hc.1
  unfold yB at this;simp only[bF,cn] at this;exact this.1.1.2
 .have hlen:=(facts hc.1).size;obtain⟨h1,h2⟩:=Nx h0;obtain⟨x,k1,k2⟩:=h2 i o (by simpa using ho);have aC:=(lC.1 ho).1;generalize hL:(l0.zip (l8 fD (l0.map λo=>(o,[])) (xK ops.toList [])))=z at hlen ⊢;have hz:i<z.length:=by simp at hlen;omega
  refine⟨_,by rw[tU,Qd,cS hz];rfl,?_⟩
  have:z[i].1=x:=by
   have e:z[i]?=aa z[i]:=cS hz;subst hL;rw[J3] at e;rw[k1] at e;exact(vl e.1).symm
  simpa [this] using k2
end Go.Am
