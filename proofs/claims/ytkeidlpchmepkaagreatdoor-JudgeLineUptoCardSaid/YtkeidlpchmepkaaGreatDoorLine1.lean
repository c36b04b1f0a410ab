/-
  Part 1 of the proof of JudgeLineUptoCardSaid: a logic over the model, the forms of the functions that the law reaches, and what they compute.
-/
import Derived.WalkKit
import Derived.Orders
import Derived.Below
import Derived.Laws.Append
import Derived.Laws.AppendOwn
import Derived.Laws.Cells
import Derived.Laws.CopyRow
import Derived.Laws.BytesString
import Derived.Laws.Slices
import Derived.Laws.Small
import Derived.Laws.StructEq
import Derived.ChangeKeysEq
set_option linter.unusedVariables false
set_option linter.unusedSimpArgs false
set_option linter.defProp false
set_option linter.unusedSectionVars false
set_option maxRecDepth 4000
set_option maxHeartbeats 4000000
open Option renaming some->U,none->ah
open Bool renaming true->aa,false->aq
open List renaming replicate->aj,range->bG,getD->gy,zipWith->lQ
open Eq renaming mpr->cI
open Ne renaming symm->fL
namespace Go.Am
def af := @And.intro
def aw := @if_neg
def az := @decide_eq_false
def aB := @decide_eq_true
def aD := @List.length_map
def aI := @if_pos
def bg := @Option.some.injEq
def bL := @decide_true
def bN := @List.getElem?_eq_getElem
def bW := @List.length_append
def b7 := @Nat.le_refl
def b_ := @Bool.and_eq_true
def ch := @if_false
def cH := @if_true
def cZ := @List.length_nil
def c9 := @decide_false
def da := @List.length_cons
def df := @List.take_length
def dm := @Bool.false_eq_true
def dq := @List.getElem_mem
def dz := @List.map_cons
def dB := @Option.map_eq_some_iff
def eb := @decide_eq_true_eq
def eM := @List.append_nil
def eQ := @List.map_nil
def fh := @List.forall_mem_cons
def fw := @List.getElem?_eq_some_iff
def fx := @List.length_singleton
def fP := @List.append_assoc
def ga := @List.range_succ
def gJ := @Bool.true_and
def gK := @Int.toNat_natCast
def gM := @and_true
def iu := @List.length_take
def iJ := @List.cons.injEq
def iK := @Option.bind_eq_some_iff
def jf := @List.map_append
def jg := @List.take_succ_eq_append_getElem
def jh := @Nat.add_mul
def jv := @List.mem_append
def jN := @List.cons_append
def jR := @congrArg
def j7 := @Nat.zero_add
def kM := @List.drop_eq_getElem_cons
def kN := @List.nil_append
def lr := @Array.getElem?_eq_some_iff
def lO := @List.all_eq_true
def lP := @List.mem_range
def mA := @true_and
def mC := @Array.getElem?_eq_getElem
def mU := @Bool.or_eq_true
def mW := @Int.natCast_zero
def mX := @List.flatten_cons
def nU := @List.mem_singleton
def py := @List.flatMap_append
def pz := @List.mem_cons
def pA := @List.take_append_drop
def pB := @Prod.mk.injEq
def qp := @Bool.eq_iff_iff
def qq := @Bool.true_eq_false
def qv := @List.mem_map
def qw := @Nat.mul_one
def rf := @Array.getD_eq_getD_getElem?
def rh := @List.sum_cons
def rn := @decide_eq_decide
def rN := @ne_eq
def r_ := @BitVec.getLsbD_and
def sa := @Bool.and_true
def sb := @List.eq_nil_of_length_eq_zero
def sc := @List.getElem?_append_left
def sd := @Nat.mul_le_mul_right
def tm := @List.getElem?_eq_none
def tq := @List.mem_of_getElem?
def ur := @Bool.false_or
def uu := @List.any_eq_true
def uv := @List.sum_nil
def uw := @Nat.lt_of_lt_of_le
def ux := @Nat.zero_le
def uy := @Option.isNone_none
def uz := @Option.map_some
def uH := @decide_eq_false_iff_not
def vB := @Int.eq_ofNat_of_zero_le
def vD := @List.flatten_append
def vE := @List.getElem?_drop
def vF := @List.getElem?_map
def vG := @List.length_eq_zero_iff
def vH := @List.range_eq_range'
def vI := @List.take_succ_cons
def vJ := @Nat.add_zero
def vK := @Nat.le_trans
def vL := @Option.isSome_none
def vM := @Option.some.inj
def w8 := @Bool.not_eq_true'
def w9 := @Bool.or_eq_false_iff
def w_ := @List.drop_drop
def xa := @List.flatMap_cons
def xb := @Nat.lt_or_ge
def xc := @Nat.min_eq_left
def xd := @Nat.one_mul
def xe := @Option.bind_some
def xf := @Option.getD_some
def xg := @Option.isNone_some
def xh := @Option.isSome_some
def yz := @BitVec.getLsbD_of_ge
def yA := @Bool.decide_and
def yB := @Bool.false_and
def yE := @List.drop_length
def yF := @List.foldl_cons
def yG := @List.getElem?_take_of_lt
def yH := @Nat.add_assoc
def yS := @dif_pos
def Ak := @List.filter_cons
def Al := @List.replicate_succ
def An := @List.take_of_length_le
def Ao := @Nat.lt_trichotomy
def AB := @decide_eq_true_iff
def BE := @not_true_eq_false
def BZ := @Array.getElem?_setIfInBounds_ne
def B0 := @Array.length_toList
def B3 := @Bool.and_eq_false_iff
def B7 := @Int.ofNat_eq_natCast
def B8 := @List.filter_append
def B9 := @List.find?_append
def B_ := @List.foldl_append
def B' := @List.getElem?_append_right
def Ca := @List.getElem_map
def Cb := @List.length_filter_le
def Cc := @List.map_singleton
def Cn := @beq_iff_eq
def Dv := @not_false_eq_true
def D4 := @Array.ext'
def D7 := @List.all_cons
def D8 := @List.any_eq_false
def D9 := @List.drop_succ_cons
def D_ := @List.getElem?_set_ne
def D' := @List.mem_filter
def Ea := @List.mem_of_mem_take
def Eb := @List.range'_succ
def Ec := @Nat.le_of_lt
def Ed := @Option.isNone_iff_eq_none
def Eg := @UInt8.toNat_inj
def Ex := @false_and
def Gq := @Function.comp_def
def Gt := @List.all_eq_false
def Gu := @List.drop_of_length_le
def Gv := @List.find?_eq_none
def Gw := @List.find?_eq_some_iff_append
def Gx := @List.getElem?_cons_zero
def Gy := @List.getElem_cons_succ
def Gz := @List.getLast?_concat
def GA := @List.mem_flatMap
def GB := @List.mem_iff_getElem
def GC := @Nat.add_comm
def GD := @Nat.le_zero
def GF := @Nat.mul_le_mul
def GG := @Nat.succ_mul
def JA := @BitVec.getLsbD_ushiftRight
def JB := @Bool.and_self
def JC := @Bool.not_eq_true
def JD := @Bool.or_false
def JJ := @List.all_append
def JK := @List.dropLast_concat
def JL := @List.drop_eq_nil_of_le
def JM := @List.drop_take
def JN := @List.drop_zero
def JO := @List.filterMap_cons
def JP := @List.find?_cons
def JQ := @List.getElem?_range
def JR := @List.getElem?_take
def JS := @List.getElem?_zip_eq_some
def JT := @List.getLast?_nil
def JU := @List.mem_zipIdx_iff_getElem?
def JW := @Nat.eq_zero_or_pos
def JX := @Nat.lt_succ_self
def J1 := @Option.isSome_iff_exists
def J8 := @and_assoc
def PQ := @Array.getElem?_toList
def PR := @Array.mem_of_getElem?
def PS := @Array.toList_setIfInBounds
def PT := @BitVec.getLsbD_or
def PU := @BitVec.getLsbD_shiftLeft
def PV := @BitVec.getLsbD_zero
def PW := @BitVec.toNat_shiftLeft
def PX := @Bool.and_assoc
def PY := @Bool.and_false
def PZ := @Bool.true_or
def P5 := @List.all_nil
def P6 := @List.any_cons
def P7 := @List.eq_nil_or_concat
def P8 := @List.ext_getElem
def P9 := @List.ext_getElem?
def P_ := @List.flatMap_nil
def P' := @List.flatten_nil
def Qa := @List.foldl_nil
def Qb := @List.getElem?_set_self
def Qc := @List.getElem?_zipIdx
def Qd := @List.length_drop
def Qe := @List.length_pos_iff
def Qf := @List.mem_cons_of_mem
def Qg := @List.mem_filterMap
def Qh := @List.nodup_cons
def Qi := @List.range'_append
def Qj := @List.singleton_append
def Qk := @List.size_toArray
def Ql := @List.take_zero
def Qm := @Nat.lt_succ_iff_lt_or_eq
def Qn := @Nat.mod_eq_of_lt
def Qo := @Nat.shiftLeft_eq
def Vy := @of_decide_eq_true
def YI := @Array.getElem?_extract
def YJ := @Array.getElem?_setIfInBounds
def YL := @BitVec.toNat_ushiftRight
def YM := @Bool.eq_false_or_eq_true
def YQ := @List.append_inj_right'
def YR := @List.drop_append_of_le_length
def YS := @List.filter_eq_nil_iff
def YT := @List.getElem?_replicate
def YU := @List.getElem?_toArray
def YV := @List.mem_iff_getElem?
def YW := @List.mem_of_find?_eq_some
def YX := @List.perm_append_singleton
def YY := @List.set_getElem_self
def YZ := @List.takeWhile_sublist
def Y0 := @List.take_append_of_le_length
def Y1 := @Nat.add_sub_cancel_left
def Y2 := @Nat.shiftRight_eq_div_pow
def Y3 := @Nat.testBit_two_pow_sub_one
end Go.Am
namespace Go.Am
inductive Pl where
 | au (i:Nat)
 | out (b:Nat)
 | kS (b:Nat)
inductive Tk where
 | no
 | a9
 | tk (t:Nat)
inductive V where
 | any
 | bool (b:Bool)
 | int (k:IntKind) (n:Int)
 | aH (s:List UInt8)
 | o8
 | ptr (p:Pl) (off:Nat)
 | elt (cs:List V) (off:Nat)
 | sl (t:Tk) (k:Nat) (l:List (List V))
 | agg (cs:List V)
 | bz (cs:List V)
 | fn (f:Fn) (first cap:List V)
 | raw (v:Value)
inductive fz where
 | const
 | mK
 | jb (i:Nat)
 | qS
 | gR (t c:Nat)
def fz.iM:fz->Nat->Prop
 | .const,_=>True
 | .gR _ c,o=>o<c
 | _,_=>False
structure Env where
 w:World
 bj:Nat->fz
 au:Nat->Option Nat
 aY:Nat->Option Nat
def Env.nl(E:Env):Env:={E with au:=λ_=>ah}
@[simp] theorem Env.Vp(E:Env):E.nl.w=E.w:=rfl
@[simp] theorem Env.Vo(E:Env):E.nl.bj=E.bj:=rfl
@[simp] theorem Env.avs(E:Env):E.nl.aY=E.aY:=rfl
@[simp] theorem Env.avr(E:Env)(i:Nat):E.nl.au i=none:=rfl
@[simp] theorem Env.anj(E:Env):E.nl.nl=E.nl:=rfl
def vQ(E:Env)(k n:Nat)(a:Option Addr)(cap:Nat):Tk->Prop
 | .no=>True
 | .a9=>cap=n
 | .tk t=>∃m,E.aY t=U m/\n<=m/\(n=m->cap=n\/∃b cs e,a=U ⟨b,0,ah⟩/\E.bj b = .gR t (n*k)/\E.w.heap[b]?=U (.cells cs e (0,0))/\cs.size=cap*k)
mutual
def R:Env->V->Value->Prop
 | _,.any,_=>True
 | _,.bool b,v=>v = .bool b
 | _,.int k n,v=>v = .int k n
 | _,.aH s,v=>v = .string ⟨s.toArray⟩
 | _,.o8,v=>v = .pointer ah
 | E,.ptr (.au i) off,v=>∃b,E.au i=U b/\v = .pointer (U ⟨b,off,ah⟩)
 | _,.ptr (.out b) off,v=>v = .pointer (U ⟨b,off,ah⟩)
 | _,.ptr (.kS b) off,v=>v = .pointer (U ⟨b,off,ah⟩)
 | E,.elt cs off,v=>∃b o,v = .pointer (U ⟨b,o+off,ah⟩)/\eW E.nl cs b o
 | E,.sl t k l,v=>∃a cap,v = .slice a l.length cap/\l.length<=cap/\(l=[]\/∃b o,a=U ⟨b,o,ah⟩/\gm E.nl k l b o)/\vQ E k l.length a cap t
 | E,.agg cs,v=>∃vs,v = .agg vs/\RL E cs vs.toList
 | E,.bz cs,v=>∃vs,v = .tuple vs/\RL E cs vs.toList
 | E,.fn f first cap,v=>∃fs cs,v = .func f fs cs/\RL E first fs.toList/\RL E cap cs.toList
 | _,.raw u,v=>v=u
def eW:Env->List V->Nat->Nat->Prop
 | _,[],_,_=>True
 | E,x::xs,b,o=>(∃c,E.w.cell? ⟨b,o,ah⟩=U c/\(E.bj b).iM o/\c.oneCell' = aa/\R E x c)/\eW E xs b (o+1)
def gm:Env->Nat->List (List V)->Nat->Nat->Prop
 | _,_,[],_,_=>True
 | E,k,x::xs,b,o=>x.length=k/\eW E x b o/\gm E k xs b (o+k)
def RL:Env->List V->List Value->Prop
 | _,[],[]=>True
 | E,x::xs,v::vs=>R E x v/\RL E xs vs
 | _,_,_=>False
end
structure Env.le(E E' : Env):Prop where
 cell:∀b o c,(E.bj b).iM o->E.w.cell? ⟨b,o,ah⟩=U c->(E'.bj b).iM o/\E'.w.cell? ⟨b,o,ah⟩=U c
 au:∀i b,E.au i=U b->E'.au i=U b
 tok:∀t n,E.aY t=U n->∃n',E'.aY t=U n' /\ n<=n' /\ (n' = n->∀b c,E.bj b = .gR t c ->
  E'.bj b = .gR t c/\∀cs e,E.w.heap[b]?=U (.cells cs e (0,0))->∃cs',E'.w.heap[b]?=U (.cells cs' e (0,0))/\cs'.size=cs.size)
variable{E E':Env}
def Env.le.nl(h:E.le E'):E.nl.le E'.nl:=⟨h.cell,λ_ _ h=>by simp at h,h.tok⟩
def Env.le.refl(E:Env):E.le E:=⟨λ_ _ _ h h' => ⟨h,h'⟩,λ_ _ h=>h,λ_ n h=>⟨n,h,b7 _,λ_ _ _ hr=>⟨hr,λcs _ hc=>⟨cs,hc,rfl⟩⟩⟩⟩
def Env.le.trans{F G:Env}(h:E.le F)(k:F.le G):E.le G:=by
 refine⟨λb o c hc hv=>?_,λi b hb=>k.au i b (h.au i b hb),λt n hn=>?_⟩
 .obtain⟨h1,h2⟩:=h.cell b o c hc hv;exact k.cell b o c h1 h2
 .obtain⟨n',h1,h2,h3⟩:=h.tok t n hn;obtain⟨Vd,k1,k2,k3⟩:=k.tok t n' h1;refine⟨Vd,k1,vK h2 k2,λhe b c hr=>?_⟩;have e1:n' = n:=by omega
  have e2:Vd = n' := by omega
  obtain⟨r1,r2⟩:=h3 e1 b c hr;obtain⟨s1,s2⟩:=k3 e2 b c r1;refine⟨s1,λcs e b9=>?_⟩;obtain⟨cs',q1,q2⟩:=r2 cs e b9;obtain⟨ab7,q3,q4⟩:=s2 cs' e q1;exact⟨ab7,q3,q4.trans q2⟩
variable{a:Option Addr}{cap k n:Nat}
def vQ.mono(h:E.le E'){t:Tk}(ht:vQ E k n a cap t):vQ E' k n a cap t:=by
 cases t with
 | no=>trivial
 | a9=>exact ht
 | tk t =>
  obtain⟨m,h1,h2,h3⟩:=ht;obtain⟨m',k1,k2,k3⟩:=h.tok t m h1;refine⟨m',k1,vK h2 k2,λhe=>?_⟩;have e1:n=m:=by omega
  have e2:m' = m:=by omega
  rcases h3 e1 with h4 | ⟨b,cs,e,ha,hr,hc,hs⟩
  .exact .inl h4
  .obtain⟨r1,r2⟩:=k3 e2 b _ hr;obtain⟨cs',r3,r4⟩:=r2 cs e hc;exact .inr ⟨b,cs',e,ha,r1,r3,r4.trans hs⟩
mutual
def R.mono:∀(x:V) {E E' : Env} (_:E.le E') {v:Value},R E x v->R E' x v
 | .any,_,_,_,_,_=>by simp only[R]
 | .bool _,_,_,_,_,hr=>by simp only[R] at hr ⊢;exact hr
 | .int _ _,_,_,_,_,hr=>by simp only[R] at hr ⊢;exact hr
 | .aH _,_,_,_,_,hr=>by simp only[R] at hr ⊢;exact hr
 | .o8,_,_,_,_,hr=>by simp only[R] at hr ⊢;exact hr
 | .ptr (.au i) _, _, _, h, _, hr => by
  simp only[R] at hr ⊢;obtain⟨b,h1,h2⟩:=hr;exact⟨b,h.au i b h1,h2⟩
 | .ptr (.out _) _,_,_,_,_,hr=>by simp only[R] at hr ⊢;exact hr
 | .ptr (.kS _) _,_,_,_,_,hr=>by simp only[R] at hr ⊢;exact hr
 | .elt cs _, _, _, h, _, hr => by
  simp only[R] at hr ⊢;obtain⟨b,o,h1,h2⟩:=hr;exact⟨b,o,h1,eW.mono cs h.nl h2⟩
 | .sl t k l, _, _, h, _, hr => by
  simp only[R] at hr ⊢;obtain⟨a,cap,h1,h2,h3,h4⟩:=hr;refine⟨a,cap,h1,h2,?_,h4.mono h⟩
  rcases h3 with h3 | ⟨b,o,h3,h5⟩
  .exact .inl h3
  .exact .inr ⟨b,o,h3,gm.mono l h.nl h5⟩
 | .agg cs, _, _, h, _, hr => by
  simp only[R] at hr ⊢;obtain⟨vs,h1,h2⟩:=hr;exact⟨vs,h1,RL.mono cs h h2⟩
 | .bz cs, _, _, h, _, hr => by
  simp only[R] at hr ⊢;obtain⟨vs,h1,h2⟩:=hr;exact⟨vs,h1,RL.mono cs h h2⟩
 | .fn _ first cap, _, _, h, _, hr => by
  simp only[R] at hr ⊢;obtain⟨fs,cs,h1,h2,h3⟩:=hr;exact⟨fs,cs,h1,RL.mono first h h2,RL.mono cap h h3⟩
 | .raw _,_,_,_,_,hr=>by simp only[R] at hr ⊢;exact hr
def eW.mono:∀(l:List V) {E E' : Env} (_:E.le E') {b o:Nat},eW E l b o->eW E' l b o
 | [],_,_,_,_,_,_=>by simp only[eW]
 | x :: xs, _, _, h, b, o, hr => by
  simp only[eW] at hr ⊢;obtain⟨⟨c,h1,h2,h5,h3⟩,h4⟩:=hr;obtain⟨k1,k2⟩:=h.cell b o c h2 h1;exact⟨⟨c,k2,k1,h5,R.mono x h h3⟩,eW.mono xs h h4⟩
def gm.mono:∀(l:List (List V)) {E E' : Env} (_:E.le E') {k b o:Nat},gm E k l b o->gm E' k l b o
 | [],_,_,_,_,_,_,_=>by simp only[gm]
 | x :: xs, _, _, h, _, _, _, hr => by
  simp only[gm] at hr ⊢;obtain⟨h1,h2,h3⟩:=hr;exact⟨h1,eW.mono x h h2,gm.mono xs h h3⟩
def RL.mono:∀(l:List V) {E E' : Env} (_:E.le E') {vs:List Value},RL E l vs->RL E' l vs
 | [],_,_,_,[],_=>by simp only[RL]
 | [],_,_,_,_::_,hr=>by simp only[RL] at hr
 | _::_,_,_,_,[],hr=>by simp only[RL] at hr
 | x :: xs, _, _, h, v :: vs, hr => by
  simp only[RL] at hr ⊢;exact⟨R.mono x h hr.1,RL.mono xs h hr.2⟩
end
structure ab where
 box:Nat->Option (List V)
 aY:Nat->Option Nat
 cQ:Nat->Option (List V)
structure St where
 t:List V
 au:List (List V)
 out:ab
def jM(E:Env)(b:Nat)(cs:List V):Prop :=
 ∃c e,E.w.heap[b]?=U (.cells c e (0,0))/\cs.length<=c.size/\∀(j:Nat) x,cs[j]?=U x->∃v,c[j]?=U v/\R E x v
structure Env.ok(E:Env)(Z:ab):Prop where
 box:∀b cs,Z.box b=U cs->E.bj b = .qS/\jM E.nl b cs
 aY:∀t n,Z.aY t=U n->E.aY t=U n
 fresh:∀b,E.w.heap.size<=b->E.bj b = .const
 nt:∃N,∀t,N<=t->E.aY t=ah
 cQ:∀b cs,Z.cQ b=U cs->eW E.nl cs b 0
structure Env.du(E:Env)(ls:List (List V)):Prop where
 box:∀i cs,ls[i]?=U cs->∃b,E.au i=U b/\E.bj b = .jb i/\jM E b cs
 none:∀i,ls.length<=i->E.au i=ah
def aiW(w:World)(c:Array Value)(t:TypeId)(a:Addr):(w.alloc (.cells c t)).frozen? a=w.frozen? a:=by
 by_cases h:a.block=w.heap.size
 .have e1:(w.alloc (.cells c t)).heap[a.block]?=U (.cells c t):=by rw[h];exact heap_alloc_new w _
  have e2:w.heap[a.block]?=none:=by rw[h];simp
  simp[World.frozen?,e1,e2]
 .by_cases h2:a.block<w.heap.size
  .simp only[World.frozen?,heap_alloc_old w (.cells c t) h2]
  .have e2:w.heap[a.block]?=none:=by simp;omega
   have e1:(w.alloc (.cells c t)).heap[a.block]?=none:=by simp;omega
   simp only[World.frozen?,e1,e2]
variable{b:Nat}{c new:Array Value}{e:TypeId}{w:World}
def EF(hb:w.heap[b]?=U (.cells c e (0,0)))(a:Addr):(w.setRow b new).frozen? a=w.frozen? a:=by
 by_cases h:a.block=b
 .have e1:=setRow_heap w b c new e _ hb;rw[<-h] at hb e1;simp only[World.frozen?,h] at hb e1 ⊢;simp only[e1,hb]
 .simp only[World.frozen?,setRow_other w b a.block new h]
structure Fr(E E' : Env):Prop where
 os:E'.w.os=E.w.os
 output:E'.w.output=E.w.output
 tape:E'.w.tape=E.w.tape
 size:E.w.heap.size<=E'.w.heap.size
 hH:∀a,E'.w.frozen? a=E.w.frozen? a
 cell:∀b o c,(E.bj b).iM o->E.w.cell? ⟨b,o,ah⟩=U c->(E'.bj b).iM o/\E'.w.cell? ⟨b,o,ah⟩=U c
 tok:∀t n,E.aY t=U n->∃n',E'.aY t=U n' /\ n<=n' /\ (n' = n->∀b c,E.bj b = .gR t c ->
  E'.bj b = .gR t c/\∀cs e,E.w.heap[b]?=U (.cells cs e (0,0))->∃cs',E'.w.heap[b]?=U (.cells cs' e (0,0))/\cs'.size=cs.size)
 same:∀b,b<E.w.heap.size->E.bj b = .const\/E.bj b = .mK->E'.w.heap[b]?=E.w.heap[b]?/\E'.bj b=E.bj b
 El:∀b,b<E.w.heap.size->E'.bj b = .qS->E.bj b = .qS\/∃j,E.bj b = .jb j
 Em:∀b t c,b<E.w.heap.size->E'.bj b = .gR t c->∃c0,E.bj b = .gR t c0
 Cm:∀b i,b<E.w.heap.size->E'.bj b = .jb i->∃j,E.bj b = .jb j
 shape:∀(b:Nat) (c:Array Value) (e:TypeId),E.w.heap[b]?=U (.cells c e (0,0))->∃c' : Array Value,E'.w.heap[b]?=U (.cells c' e (0,0))/\c'.size=c.size
def Fr.le(h:Fr E E')(hl:∀i b,E.au i=U b->E'.au i=U b):E.le E' := ⟨h.cell,hl,h.tok⟩
def Fr.nl(h:Fr E E'):E.nl.le E'.nl:=⟨h.cell,λ_ _ h=>by simp at h,h.tok⟩
def Fr.refl(E:Env):Fr E E :=
 ⟨rfl,rfl,rfl,b7 _,λ_=>rfl,(Env.le.refl E).cell,(Env.le.refl E).tok,λ_ _ _=>⟨rfl,rfl⟩,λ_ _ h=>.inl h,λ_ _ c _ h=>⟨c,h⟩,λ_ i _ h=>⟨i,h⟩,λ_ c _ h=>⟨c,h,rfl⟩⟩
def Fr.trans{F G:Env}(h:Fr E F)(k:Fr F G):Fr E G:=by
 refine⟨k.os.trans h.os,k.output.trans h.output,k.tape.trans h.tape,vK h.size k.size,λa=>(k.hH a).trans (h.hH a),?_,?_,?_,?_,?_,?_,?_⟩
 .intro b o c hc hv;obtain⟨h1,h2⟩:=h.cell b o c hc hv;exact k.cell b o c h1 h2
 .have h' : Env.le {E with au:=λ_=>ah} {F with au:=λ_=>ah}:=⟨h.cell,λ_ _ h=>h,h.tok⟩;have k' : Env.le {F with au:=λ_=>ah} {G with au:=λ_=>ah}:=⟨k.cell,λ_ _ h=>h,k.tok⟩;exact(h'.trans k').tok
 .intro b hb hr;obtain⟨h1,h2⟩:=h.same b hb hr;obtain⟨k1,k2⟩:=k.same b (uw hb h.size) (by rw[h2];exact hr);exact⟨k1.trans h1,k2.trans h2⟩
 .intro b hb hr
  rcases k.El b (uw hb h.size) hr with h1 | ⟨j,hj⟩
  .exact h.El b hb h1
  .exact .inr (h.Cm b j hb hj)
 .intro b t c hb hr;obtain⟨c0,h0⟩:=k.Em b t c (uw hb h.size) hr;exact h.Em b t c0 hb h0
 .intro b i hb hr;obtain⟨j,hj⟩:=k.Cm b i (uw hb h.size) hr;exact h.Cm b j hb hj
 .intro b c e hb;obtain⟨c1,h1,h2⟩:=h.shape b c e hb;obtain⟨c2,k1,k2⟩:=k.shape b c1 e h1;exact⟨c2,k1,k2.trans h2⟩
structure bQ(E:Env)(st:St)(a:Act):Prop where
 ok:E.ok st.out
 du:E.du st.au
 defers:a.defers=[]
 slot:RL E st.t a.tmps.toList
def jd(P:Program)(c:Code)(Q:Exit->St->Prop)(st:St):Prop :=
 ∀E a,bQ E st a->c.wp P (λe a' w' => ∃E' aU,E'.w=w' /\ bQ E' aU a' /\ Fr E E' /\ Q e aU) a E.w
def P2(P:Program)(f:FuncId):Prop:=∀args w,(callFunc f args).run P w = .ok (.enter f args) w
def cF(P:Program)(f:FuncId)(args:List V)(Z:ab)(R' : V->ab->Prop):Prop :=
 P2 P f/\∀(E:Env) (vs:Array Value),(∀i,E.au i=ah)->E.ok Z->RL E args vs.toList ->
  Calls P f vs E.w λe w' => ∃v x E' σ',e = .returned x/\E'.w=w' /\ (∀i,E'.au i=ah)/\E'.ok σ' /\ R E' v x/\Fr E E' /\ R' v σ'
variable{P:Program}{f:FuncId}{Z:ab}
def cF.mono{args:List V}{Qw Qx:V->ab->Prop}(h:cF P f args Z Qw)
 (hr:∀v σ',Qw v σ' -> Qx v σ'):cF P f args Z Qx :=
 ⟨h.1,λE vs h1 h2 h3=>(h.2 E vs h1 h2 h3).mono λ_ _ ⟨v,x,E',σ',a,b,c,d,e,f,g⟩=>⟨v,x,E',σ',a,b,c,d,e,f,hr _ _ g⟩⟩
variable{Q:Exit->St->Prop}{st:St}
def Ok{c:Code}{Q':Exit->St->Prop}(h:jd P c Q st)(hq:∀e st,Q e st->Q' e st):jd P c Q' st :=
 λE a hs=>wp_mono (h E a hs) λ_ _ _ ⟨E',aU,h1,h2,h3,h4⟩=>⟨E',aU,h1,h2,h3,hq _ _ h4⟩
def Y8(P:Program)(c:Code)(Q:Exit->St->Prop):Exit->St->Prop
 | .normal,st=>jd P c Q st
 | e,st=>Q e st
def ap3{x y:Code}(h:jd P x (Y8 P y Q) st):jd P (.seq x y) Q st:=by
 intro E a hs;refine wp_seq (wp_mono (h E a hs) ?_);rintro e a' w' ⟨E',aU,rfl,h2,h3,h4⟩;cases e with
 | normal=>exact wp_mono (h4 E' a' h2) λ_ _ _ ⟨mV,F9,k1,k2,k3,k4⟩=>⟨mV,F9,k1,k2,h3.trans k3,k4⟩
 | exit id=>exact⟨E',aU,rfl,h2,h3,h4⟩
 | goto l=>exact⟨E',aU,rfl,h2,h3,h4⟩
 | ret=>exact⟨E',aU,rfl,h2,h3,h4⟩
 | panic c=>exact⟨E',aU,rfl,h2,h3,h4⟩
 | outgrown=>exact⟨E',aU,rfl,h2,h3,h4⟩
def ap4(h:Q .normal st):jd P .skip Q st :=
 λE _ hs=>wp_skip ⟨E,st,rfl,hs,Fr.refl E,h⟩
def apX{id:Nat}(h:Q (.exit id) st):jd P (.exit id) Q st :=
 λE _ hs=>wp_exit ⟨E,st,rfl,hs,Fr.refl E,h⟩
def ap1(h:Q .ret st):jd P .ret Q st :=
 λE _ hs=>wp_ret ⟨E,st,rfl,hs,Fr.refl E,h⟩
def apY{l:Nat}(h:Q .normal st):jd P (.label l) Q st :=
 λE _ hs=>wp_label ⟨E,st,rfl,hs,Fr.refl E,h⟩
def tj(id:Nat)(Q:Exit->St->Prop):Exit->St->Prop
 | .exit Bi,st=>if Bi = id then Q .normal st else Q (.exit Bi) st
 | e,st=>Q e st
def apW{c:Code}{id:Nat}(h:jd P c (tj id Q) st):jd P (.block id c) Q st:=by
 intro E a hs;refine wp_block (wp_mono (h E a hs) ?_);rintro e a' w' ⟨E',aU,rfl,h2,h3,h4⟩;cases e with
 | exit Bi =>
  simp only[tj] at h4;simp only[Exit.inBlock];split
  .rename_i h5;rw[aI h5] at h4;exact⟨E',aU,rfl,h2,h3,h4⟩
  .rename_i h5;rw[aw h5] at h4;exact⟨E',aU,rfl,h2,h3,h4⟩
 | normal=>exact⟨E',aU,rfl,h2,h3,h4⟩
 | goto l=>exact⟨E',aU,rfl,h2,h3,h4⟩
 | ret=>exact⟨E',aU,rfl,h2,h3,h4⟩
 | panic c=>exact⟨E',aU,rfl,h2,h3,h4⟩
 | outgrown=>exact⟨E',aU,rfl,h2,h3,h4⟩
def GK{E:Env}:∀{l:List V} {vs:List Value},RL E l vs->∀(n:Nat) (u:Value),R E (l.getD n .any) (vs.getD n u)
 | [],[],_,n,u=>by simp[R]
 | [],_::_,h,_,_=>by simp[RL] at h
 | _::_,[],h,_,_=>by simp[RL] at h
 | x :: xs, v :: vs, h, n, u => by
  simp only[RL] at h;cases n with
  | zero=>simpa using h.1
  | succ n=>simpa using GK h.2 n u
def gb{E:Env}:∀{l:List V} {vs:List Value},RL E l vs->l.length=vs.length
 | [],[],_=>rfl
 | [],_::_,h=>by simp[RL] at h
 | _::_,[],h=>by simp[RL] at h
 | x :: xs, v :: vs, h => by
  simp only[RL] at h;simp[gb h.2]
def si{E:Env}:∀{l:List V} {vs:List Value},RL E l vs->∀(n:Nat) (x:V),l[n]?=U x->∃v,vs[n]?=U v/\R E x v
 | [],[],_,n,x,hx=>by simp at hx
 | [],_::_,h,_,_,_=>by simp[RL] at h
 | _::_,[],h,_,_,_=>by simp[RL] at h
 | x :: xs, v :: vs, h, n, y, hy => by
  simp only[RL] at h;cases n with
  | zero=>simp at hy;subst hy;exact⟨v,by simp,h.1⟩
  | succ n=>simp at hy;obtain⟨u,h1,h2⟩:=si h.2 n y hy;exact⟨u,by simpa using h1,h2⟩
def Ee{E:Env}:∀{l:List V} {vs:List Value},l.length=vs.length->(∀(n:Nat) x v,l[n]?=U x->vs[n]?=U v->R E x v)->RL E l vs
 | [],[],_,_=>by simp[RL]
 | [],_::_,h,_=>by simp at h
 | _::_,[],h,_=>by simp at h
 | x :: xs, v :: vs, h, hx => by
  simp only[RL];exact⟨hx 0 x v (by simp) (by simp),Ee (by simpa using h) λn y u h1 h2=>hx (n+1) y u (by simpa using h1) (by simpa using h2)⟩
def GL{E:Env}:∀{l:List V} {vs:List Value},RL E l vs->∀(n:Nat) {x:V} {v:Value},R E x v->RL E (l.set n x) (vs.set n v)
 | [],[],_,_,_,_,_=>by simp[RL]
 | [],_::_,h,_,_,_,_=>by simp[RL] at h
 | _::_,[],h,_,_,_,_=>by simp[RL] at h
 | x :: xs, v :: vs, h, n, y, u, hy => by
  simp only[RL] at h;cases n with
  | zero=>simp only[List.set,RL];exact⟨hy,h.2⟩
  | succ n=>simp only[List.set,RL];exact⟨h.1,GL h.2 n hy⟩
def vO{E:Env}:∀{l:List V} {vs:List Value} {m:List V} {us:List Value},RL E l vs->RL E m us->RL E (l++m) (vs++us)
 | [],[],_,_,_,h=>by simpa using h
 | [],_::_,_,_,h,_=>by simp[RL] at h
 | _::_,[],_,_,h,_=>by simp[RL] at h
 | x :: xs, v :: vs, _, _, h, k => by
  simp only[RL,jN] at h ⊢;exact⟨h.1,vO h.2 k⟩
def Qr(vs:List Value):RL E (aj vs.length V.any) vs:=by
 induction vs with
 | nil=>simp[RL]
 | cons v vs ih=>simp only[da,Al,RL];exact⟨by simp[R],ih⟩
def St.put(st:St)(d:Option Nat)(v:V):St :=
 match d with
 | some n=>⟨st.t.set n v,st.au,st.out⟩
 | none=>st
variable{v:V}
def bQ.put{a:Act}(h:bQ E st a){x:Value}(hv:R E v x)(d:Option Nat):bQ E (st.put d v) (a.put d x):=by
 cases d with
 | none=>exact h
 | some n=>exact⟨h.ok,h.du,h.defers,by simpa [St.put,Act.put] using GL h.slot n hv⟩
def aJ:Nat:=268435456
inductive X where
 | s (n:Nat)
 | c (v:V)
inductive OQ where
 | nil
 | len
 | idx (k:Nat)
 | mu (k:Nat) (lo hi mx:Bool)
 | app (k:Nat)
 | mk (z:List V)
 | mi (k:Nat)
 | new (k:Nat)
 | min
 | max
 | I6 (m k:Nat) (lo hi:Bool)
 | hH (k:Nat) (lo hi:Bool)
 | Ky
 | nV
 | Ka
 | Cy (k:Nat)
 | Ko
 | ME
 | H2 (m:Nat)
 | aQ
inductive aV where
 | mv (x:X)
 | pick (c a b:X)
 | alloc (z:List V)
 | box (n:Nat) (x:X)
 | vW (n:Nat) (x:X)
 | build (z:List V) (ps:List (Nat × Nat × X))
 | km (k:Nat) (xs:List X)
 | load (agg:Bool) (n:Nat) (x:X)
 | store (n:Nat) (a x:X)
 | wJ (x:X)
 | dV (op:BinOp) (x y:X)
 | kQ (op:BinOp) (x y:X)
 | tt (neg:Bool) (x y:X)
 | cat (x y:X)
 | kn (neg:Bool) (ks:List Nat) (x y:X)
 | CD (neg:Bool) (x y:X)
 | not (x:X)
 | wG (x:X)
 | wH (x:X)
 | pJ (off:Nat) (x:X)
 | v8 (agg:Bool) (off n:Nat) (x:X)
 | tX (k:Nat) (x i:X)
 | tY (x i:X)
 | sO (m k:Nat) (x i:X)
 | call (f:FuncId) (xs:List X)
 | iV (x:X) (xs:List X)
 | app (k:Nat) (s x:X)
 | nV (s x:X)
 | mu (k:Nat) (x:X) (lo hi mx:Option X)
 | zV (x:X) (lo hi:Option X)
 | ext (x:X) (i:Nat)
 | kb (f:Fn) (first cap:List X)
 | pG (k:IntKind) (x:X)
 | vY (x:X)
 | qy (z:List V)
 | gY (n:Nat) (x:X)
 | own (q:OQ) (xs:List X)
structure AO where
 dst:Option Nat
 op:aV
 guard:Option (Nat × Bool)
def ev(st:St):X->V
 | .s n=>st.t.getD n .any
 | .c v=>v
def dw(st:St):List X->List V
 | []=>[]
 | x::xs=>ev st x::dw st xs
def V.wd:V->Option Nat
 | .agg cs=>U cs.length
 | .any=>ah
 | .bz _=>ah
 | .raw u=>if u.oneCell' then U 1 else ah
 | _=>U 1
def V.cells:V->List V
 | .agg cs=>cs
 | v=>[v]
def V.one:V->Bool
 | .bool _ | .int _ _ | .aH _ | .o8 | .ptr _ _ | .elt _ _ | .sl _ _ _ | .fn _ _ _=>aa
 | .raw u=>u.oneCell'
 | _=>aq
def c8:List V->Bool
 | []=>aa
 | x::xs=>x.one&&c8 xs
mutual
def V.cM:V->Bool
 | .ptr (.au _) _=>aq
 | .agg cs=>bS cs
 | .bz cs=>bS cs
 | .fn _ first cap=>bS first&&bS cap
 | _=>aa
def bS:List V->Bool
 | []=>aa
 | x::xs=>x.cM&&bS xs
end
mutual
def V.erase:V->V
 | .sl _ k l=>.sl .no k l
 | .agg cs=>.agg (aZ cs)
 | .bz cs=>.bz (aZ cs)
 | v=>v
def aZ:List V->List V
 | []=>[]
 | x::xs=>x.erase::aZ xs
end
def takeN:Nat->List V->Option (List V)
 | 0,_=>U []
 | n+1,x::xs=>(takeN n xs).map (x::·)
 | _+1,[]=>ah
def bX:Bool->Nat->List V->Option V
 | true,n,cs=>(takeN n cs).map V.agg
 | false,_,c::_=>U c
 | false,_,[]=>ah
def over:List V->List V->List V
 | [],_=>[]
 | l,[]=>l
 | _::l,x::xs=>x::over l xs
def setAt:List V->Nat->List V->List V
 | l,0,xs=>over l xs
 | [],_+1,_=>[]
 | a::l,n+1,xs=>a::setAt l n xs
def cB:Nat->List V->Bool
 | 0,_=>aa
 | n+1,_::xs=>cB n xs
 | _+1,[]=>aq
def ab.set(Z:ab)(b:Nat)(cs:List V):ab:={Z with box:=λx=>if x=b then U cs else Z.box x}
def ab.ba(Z:ab)(t n:Nat):ab:={Z with aY:=λx=>if x=t then U n else Z.aY x}
def G0(st:St):Pl->Option (List V)
 | .au i=>st.au[i]?
 | .out b=>st.out.box b
 | .kS b=>st.out.cQ b
def lF(st:St)(agg:Bool)(n:Nat):V->Option V
 | .ptr p off=>(G0 st p).bind λcs=>bX agg n (cs.drop off)
 | .elt cs off=>bX agg n (cs.drop off)
 | _=>ah
def dU(st:St)(n:Nat)(x:V):V->Option St
 | .ptr (.au i) off=>(st.au[i]?).bind λcs=>if cB n (cs.drop off)=aa/\x.wd=U n/\c8 x.cells=aa then U ⟨st.t,st.au.set i (setAt cs off x.cells),st.out⟩ else ah
 | .ptr (.out b) off=>(st.out.box b).bind λcs=>if cB n (cs.drop off)=aa/\x.wd=U n/\c8 x.cells=aa/\bS x.cells=aa then U ⟨st.t,st.au,st.out.set b (setAt cs off x.cells)⟩ else ah
 | _=>ah
def pD(st:St):List V->List (Nat × Nat × X)->Option (List V)
 | z,[]=>U z
 | z,(off,n,x)::ps=>if cB n (z.drop off)=aa/\(ev st x).wd=U n then pD st (setAt z off (ev st x).cells) ps else ah
def lL(st:St)(k:Nat):List X->Option (List (List V))
 | []=>U []
 | x::xs=>if (ev st x).wd=U k/\bS (ev st x).cells=aa/\c8 (ev st x).cells=aa then(lL st k xs).map (aZ (ev st x).cells::·) else ah
def Bk:IntKind->IntKind->Bool
 | .i8,.i8 | .i16,.i16 | .i32,.i32 | .i64,.i64 | .u8,.u8 | .u16,.u16 | .u32,.u32 | .u64,.u64=>aa
 | _,_=>aq
def H3{a b:IntKind}(h:Bk a b=aa):a=b:=by cases a<;>cases b<;>first | rfl | (simp[Bk] at h)
def ib(k:IntKind)(a b:Int):BinOp->Option V
 | .add=>U (.int k (k.wrap (a+b)))
 | .sub=>U (.int k (k.wrap (a - b)))
 | .mul=>U (.int k (k.wrap (a*b)))
 | .eql=>U (.bool (decide (a=b)))
 | .neq=>U (.bool (!decide (a=b)))
 | .lss=>U (.bool (decide (a<b)))
 | .leq=>U (.bool (decide (a<=b)))
 | .gtr=>U (.bool (decide (b<a)))
 | .geq=>U (.bool (decide (b<=a)))
 | .quo=>if b=0 then ah else U (.int k (k.wrap (a.tdiv b)))
 | .rem=>if b=0 then ah else U (.int k (a.tmod b))
 | .and=>U (.int k (k.wrap ((BitVec.ofInt k.bits a&&&BitVec.ofInt k.bits b).toNat:Nat)))
 | .or=>U (.int k (k.wrap ((BitVec.ofInt k.bits a|||BitVec.ofInt k.bits b).toNat:Nat)))
 | .xor=>U (.int k (k.wrap ((BitVec.ofInt k.bits a ^^^ BitVec.ofInt k.bits b).toNat:Nat)))
 | .andNot=>U (.int k (k.wrap ((BitVec.ofInt k.bits a&&&~~~BitVec.ofInt k.bits b).toNat:Nat)))
 | .shl=>if b<0 then ah else U (.int k (k.wrap (a*2^(Nat.min b.toNat k.bits))))
 | .shr=>if b<0 then ah else U (.int k (a.fdiv (2^(Nat.min b.toNat k.bits))))
def Bl:BinOp->Bool
 | .shl | .shr=>aa
 | _=>aq
def vV(op:BinOp):V->V->Option V
 | .int k a,.int k' b=>if Bk k k' = aa\/Bl op=aa then ib k a b op else ah
 | _,_=>ah
def yk(a b:List UInt8):BinOp->Option V
 | .eql=>U (.bool (decide (a=b)))
 | .neq=>U (.bool (!decide (a=b)))
 | .lss=>U (.bool (Op.bytesLess a b))
 | .leq=>U (.bool (Op.bytesLess a b||decide (a=b)))
 | .gtr=>U (.bool (!(Op.bytesLess a b||decide (a=b))))
 | .geq=>U (.bool (!Op.bytesLess a b))
 | _=>ah
def Av(op:BinOp):V->V->Option V
 | .aH a,.aH b=>yk a b op
 | _,_=>ah
def yX(neg:Bool):V->V->Option V
 | .bool a,.bool b=>U (.bool (if neg then !decide (a=b) else decide (a=b)))
 | _,_=>ah
def gd:List Nat->List V->List V->Option Bool
 | [],[],[]=>U aa
 | 1::ks,.int k a::xs,.int k' b::ys=>if Bk k k' = aa then(gd ks xs ys).map (decide (a=b)&&·) else ah
 | 2::ks,.aH a::xs,.aH b::ys=>(gd ks xs ys).map (decide (a=b)&&·)
 | 0::ks,.bool a::xs,.bool b::ys=>(gd ks xs ys).map (decide (a=b)&&·)
 | _,_,_=>ah
def yW(neg:Bool)(ks:List Nat):V->V->Option V
 | .agg xs,.agg ys=>(gd ks xs ys).map λb=>.bool (if neg then !b else b)
 | _,_=>ah
def isNil:V->Option Bool
 | .o8 | .raw .nilFunc=>U aa
 | .ptr _ _ | .elt _ _ | .fn _ _ _=>U aq
 | _=>ah
def K2(K:V->St->Prop)(st:St):V->Prop:=λv=>K v st
def opt(o:Option V)(K:V->Prop):Prop:=match o with | some v=>K v | none=>False
def JG(l:List (List V))(i:V)(K:List V->Prop):Prop:=∃k n x,i = .int k n/\0<=n/\l[n.toNat]?=U x/\K x
def re(Z:ab)(k:Nat)(s x:V)(K:V->ab->Prop):Prop :=
 ∃t l m,s = .sl t k l/\(∃t',x = .sl t' k m)/\l.length+m.length<=aJ /\
  match t with
  | .a9=>(∀D,Z.aY D=ah->K (.sl (.tk D) k (l++m)) (Z.ba D (l.length+m.length)))\/K (.sl .no k (l++m)) Z\/∃D,Z.aY D=U l.length/\K (.sl (.tk D) k (l++m)) (Z.ba D (l.length+m.length))
  | .tk D=>Z.aY D=U l.length/\K (.sl (.tk D) k (l++m)) (Z.ba D (l.length+m.length))
  | .no=>False
def dW(s:List UInt8):List (List V):=s.map λb=>[.int .u8 b.toNat]
def lu(b:Bool)(d:Nat)(vs:List V)(K:Nat->List V->Prop):Prop :=
 match b,vs with
 | false,vs=>K d vs
 | true,.int _ j::vs=>0<=j/\K j.toNat vs
 | true,_=>False
def Ai(Z:ab)(k:Nat)(a:Option Addr)(n cap:Nat)(m:List (List V))(K:V->ab->Prop):Prop :=
 n<=cap/\n+m.length<=aJ/\bS m.flatten=aa /\
 (m=[]->K (.raw (.slice a n cap)) Z) /\
 (m≠[]->n+m.length<=cap->∃b cs,a=U ⟨b,0,ah⟩/\Z.box b=U cs/\n*k+m.length*k<=cs.length/\K (.raw (.slice a (n+m.length) cap)) (Z.set b (setAt cs (n*k) m.flatten))) /\
 (cap<n+m.length->∃cs,(n=0/\cs=[]\/∃b,a=U ⟨b,0,ah⟩/\Z.box b=U cs/\n*k<=cs.length) /\
   ∀b' pE,Z.box b' = ah->n+m.length<=pE -> K (.raw (.slice (U ⟨b',0,ah⟩) (n+m.length) pE)) (Z.set b' (cs.take (n*k)++m.flatten++aj ((pE - (n+m.length))*k) .any)))
def zy(k:Nat):List V->Option (List (List V))
 | []=>U []
 | v::vs=>if v.wd=U k/\bS v.cells=aa/\c8 v.cells=aa then(zy k vs).map (v.cells::·) else ah
def AK:List UInt8->UInt8->Int
 | [],_=>-1
 | b::l,c=>if b == c then 0 else if AK l c == -1 then -1 else AK l c+1
def Cp(cs:List V):List (List V):=cs.map λx=>[x]
def ab.del(Z:ab)(b:Nat):ab:={Z with box:=λx=>if x=b then ah else Z.box x}
def IQ(Z:ab)(a:Option Addr)(n:Nat)(s:List UInt8):Prop:=s.length=n/\(n=0\/∃b o cs,a=U ⟨b,o,ah⟩/\Z.box b=U cs/\(cs.drop o).take n=s.map λc=>.int .u8 c.toNat)
def Nh(k:Nat)(vs:List V)(H:List (List V)->Prop):Prop:=∃l,zy k vs=U l/\H l
def B5(Z:ab)(k:Nat)(a:Option Addr)(m:Nat)(xs:List V)(K:V->ab->Prop):Prop :=
 (m=0->K (.int .i64 0) Z)/\(m≠0->∃b o cs,a=U ⟨b,o,ah⟩/\Z.box b=U cs/\o+m*k<=cs.length/\K (.int .i64 m) (Z.set b (setAt cs o xs)))
def P1(Z:ab)(a:Option Addr)(n:Nat)(xs:List V):Prop :=
 n=0/\xs=[]\/∃b o cs,a=U ⟨b,o,ah⟩/\Z.box b=U cs/\o+n<=cs.length/\xs=(cs.drop o).take n/\c8 xs=aa
def FO(o:Option V)(K:V->Prop):Prop:=match o with | some c=>K c | none=>False
def OQ.bq(Z:ab)(K:V->ab->Prop):OQ->List V->Prop
 | .nil,[]=>K (.raw (.slice ah 0 0)) Z
 | .len,[.raw (.slice _ n _)]=>K (.int .i64 n) Z
 | .idx k,[.raw (.slice (U ⟨b,o,ah⟩) n _),.int _ j]=>0<=j/\j<n/\K (.ptr (.out b) (o+j.toNat*k)) Z
 | .mu k lo hi mx,.raw (.slice a n cap)::vs=>lu lo 0 vs λm vs=>lu hi n vs λh vs=>lu mx cap vs λM vs=>vs=[]/\m<=h/\h<=M/\M<=cap/\K (.raw (.slice (if M=m then a else a.map (·.add (m*k))) (h - m) (M - m))) Z
 | .app k,[.raw (.slice a n cap),.sl _ k' m]=>k' = k/\Ai Z k a n cap m K
 | .mk z,[.int _ n]=>0<=n/\n<=aJ/\bS z=aa/\0<z.length/\∀b',Z.box b' = ah->K (.raw (.slice (U ⟨b',0,ah⟩) n.toNat n.toNat)) (Z.set b' (aj n.toNat z).flatten)
 | .mi k,vs=>Nh k vs λl=>K (.sl .a9 k l) Z
 | .new k,vs=>Nh k vs λl=>bS l.flatten=aa/\∀b',Z.box b' = ah->K (.raw (.slice (U ⟨b',0,ah⟩) l.length l.length)) (Z.set b' l.flatten)
 | .min,[.int k a,.int k' b]=>Bk k k' = aa/\K (.int k (if b<a then b else a)) Z
 | .max,[.int k a,.int k' b]=>Bk k k' = aa/\K (.int k (if a<b then b else a)) Z
 | .I6 m k lo hi,.ptr (.out b) o::vs=>lu lo 0 vs λl vs=>lu hi m vs λh vs=>vs=[]/\l<=h/\h<=m/\K (.raw (.slice (U (if m=l then ⟨b,o,ah⟩ else ⟨b,o+l*k,ah⟩)) (h - l) (m - l))) Z
 | .hH k lo hi,.raw (.slice (U ⟨b,o,ah⟩) n cap)::vs=>lu lo 0 vs λl vs=>lu hi n vs λh vs=>vs=[]/\l<=h/\h<=cap/\k=1 /\
  ∃cs,Z.box b=U cs/\o+h<=cs.length/\c8 (((cs.drop o).take h).drop l)=aa/\bS (((cs.drop o).take h).drop l)=aa/\K (.sl .no 1 (Cp (((cs.drop o).take h).drop l))) (Z.del b)
 | .Ko,[.aH s,.int .u8 c]=>K (.int .i64 (s.count c.toNat.toUInt8:Nat)) Z
 | .ME,[.aH s,.int .u8 c]=>K (.int .i64 (AK s c.toNat.toUInt8)) Z
 | .Ky,[.raw (.slice a n _)]=>∃s,IQ Z a n s/\K (.aH s) Z
 | .nV,[.raw (.slice a n cap),.aH s]=>Ai Z 1 a n cap (dW s) K
 | .Ka,[.raw (.slice a n cap),.raw (.slice a' n' _)]=>∃s,IQ Z a' n' s/\Ai Z 1 a n cap (dW s) K
 | .H2 m,[.agg cs,.int _ j]=>0<=j/\j<m/\FO cs[j.toNat]? λc=>c.cM=aa/\K c Z
 | .Cy k,[.raw (.slice a n _),.raw (.slice a' n' _)]=>∃xs,P1 Z a' (Nat.min n' n*k) xs/\B5 Z k a (Nat.min n' n) xs K
 | .Cy k,[.raw (.slice a n _),.sl _ k' m]=>k' = k/\m.length<=n/\B5 Z k a m.length m.flatten K
 | _,_=>False
def OQ.pure:OQ->Bool
 | .nil | .len | .idx _ | .mu .. | .mi _ | .min | .max | .I6 .. | .Ko | .ME | .H2 _=>aa
 | .app _ | .mk _ | .new _ | .hH .. | .Ky | .nV | .Ka | .Cy _ | .aQ=>aq
def aV.bq(P:Program)(st:St)(K:V->St->Prop):aV->Prop
 | .mv x=>K (ev st x) st
 | .pick c a b=>match ev st c with | .bool aa=>K (ev st a) st | .bool aq=>K (ev st b) st | _=>False
 | .alloc z=>K (.ptr (.au st.au.length) 0) ⟨st.t,st.au++[z],st.out⟩
 | .box n x=>(ev st x).wd=U n/\K (.ptr (.au st.au.length) 0) ⟨st.t,st.au++[(ev st x).cells],st.out⟩
 | .vW n x=>(ev st x).wd=U n/\c8 (ev st x).cells=aa/\K (.ptr (.au st.au.length) 0) ⟨st.t,st.au++[(ev st x).cells],st.out⟩
 | .build z ps=>opt ((pD st z ps).map V.agg) (K2 K st)
 | .km k xs=>opt ((lL st k xs).map (V.sl .a9 k)) (K2 K st)
 | .load agg n x=>opt (lF st agg n (ev st x)) (K2 K st)
 | .store n a x=>match dU st n (ev st x) (ev st a) with | some aU => K .any aU | none=>False
 | .wJ x=>match ev st x with | .ptr p o=>K (.ptr p o) st | .elt c o=>K (.elt c o) st | .fn (.func f) a b=>K (.fn (.func f) a b) st | _=>False
 | .dV op x y=>opt (vV op (ev st x) (ev st y)) (K2 K st)
 | .kQ op x y=>opt (Av op (ev st x) (ev st y)) (K2 K st)
 | .tt neg x y=>opt (yX neg (ev st x) (ev st y)) (K2 K st)
 | .cat x y=>∃a b,ev st x = .aH a/\ev st y = .aH b/\a.length+b.length<=aJ/\K (.aH (a++b)) st
 | .kn neg ks x y=>opt (yW neg ks (ev st x) (ev st y)) (K2 K st)
 | .CD neg x y=>match isNil (ev st x),isNil (ev st y) with | some a,U b=>(a=aa\/b=aa)/\K (.bool (if neg then !(a&&b) else a&&b)) st | _,_=>False
 | .not x=>match ev st x with | .bool b=>K (.bool (!b)) st | _=>False
 | .wG x=>match ev st x with | .sl _ _ l=>K (.int .i64 l.length) st | .raw (.slice _ n _)=>K (.int .i64 n) st | _=>False
 | .wH x=>match ev st x with | .aH s=>K (.int .i64 s.length) st | _=>False
 | .pJ off x=>match ev st x with | .ptr p o=>K (.ptr p (o+off)) st | .elt c o=>K (.elt c (o+off)) st | _=>False
 | .v8 agg off n x=>match ev st x with | .agg cs=>opt (bX agg n (cs.drop off)) (K2 K st) | _=>False
 | .tX k x i => match ev st x with
  | .sl _ k' l=>k' = k/\JG l (ev st i) λc=>K (.elt c 0) st
  | .raw (.slice (U ⟨b,o,ah⟩) n _)=>∃ik j,ev st i = .int ik j/\0<=j/\j<n/\K (.ptr (.out b) (o+j.toNat*k)) st
  | _=>False
 | .sO m k x i => match ev st x with
  | .ptr p o=>∃kk n,ev st i = .int kk n/\0<=n/\n<(m:Nat)/\K (.ptr p (o+n.toNat*k)) st
  | .elt c o=>∃kk n,ev st i = .int kk n/\0<=n/\n<(m:Nat)/\K (.elt c (o+n.toNat*k)) st
  | _=>False
 | .tY x i=>match ev st x with | .aH s=>∃k n c,ev st i = .int k n/\0<=n/\s[n.toNat]?=U c/\K (.int .u8 c.toNat) st | _=>False
 | .call f xs=>bS (dw st xs)=aa/\cF P f (dw st xs) st.out λv Z=>K v ⟨st.t,st.au,Z⟩
 | .iV x xs=>match ev st x with | .fn (.func f) a b=>bS (a++dw st xs++b)=aa/\cF P f (a++dw st xs++b) st.out λv Z=>K v ⟨st.t,st.au,Z⟩ | _=>False
 | .app k s x=>re st.out k (ev st s) (ev st x) λv Z=>K v ⟨st.t,st.au,Z⟩
 | .nV s x=>∃a,ev st x = .aH a/\re st.out 1 (ev st s) (.sl .no 1 (dW a)) λv Z=>K v ⟨st.t,st.au,Z⟩
 | .mu k x lo hi mx=>(∃t l a b,ev st x = .sl t k l/\a<=b/\b<=l.length/\(match lo with | none=>a=0 | some y=>∃j,ev st y = .int j a) /\
  (match hi with | none=>b=l.length | some y=>∃j,ev st y = .int j b) /\
  match mx with
  | none=>K (.sl .no k ((l.take b).drop a)) st
  | some y=>(∃j,ev st y = .int j b)/\K (.sl .a9 k ((l.take b).drop a)) st) \/
  ∃a n cap m h,ev st x = .raw (.slice a n cap)/\m<=h/\h<=cap/\(match lo with | none=>m=0 | some y=>∃j,ev st y = .int j m)/\(match hi with | none=>h=n | some y=>∃j,ev st y = .int j h)/\mx.isNone=aa /\
   K (.raw (.slice (if cap=m then a else a.map (·.add (m*k))) (h - m) (cap - m))) st
 | .zV x lo hi=>∃s a b,ev st x = .aH s/\a<=b/\b<=s.length/\(match lo with | none=>a=0 | some y=>∃j,ev st y = .int j a) /\
  (match hi with | none=>b=s.length | some y=>∃j,ev st y = .int j b)/\K (.aH ((s.take b).drop a)) st
 | .ext x i=>match ev st x with | .bz vs=>opt vs[i]? (K2 K st) | _=>False
 | .kb f first cap=>K (.fn f (dw st first) (dw st cap)) st
 | .pG k x=>match ev st x with | .int _ n=>K (.int k (k.wrap n)) st | _=>False
 | .vY x=>∃t s,ev st x = .sl t 1 (dW s)/\K (.aH s) st
 | .qy z=>bS z=aa/\∀b,st.out.box b=ah->K (.ptr (.out b) 0) ⟨st.t,st.au,st.out.set b z⟩
 | .gY n x=>(ev st x).wd=U n/\bS (ev st x).cells=aa/\∀b,st.out.box b=ah->K (.ptr (.out b) 0) ⟨st.t,st.au,st.out.set b (ev st x).cells⟩
 | .own q xs=>q.bq st.out (λv Z=>K v ⟨st.t,st.au,Z⟩) (dw st xs)
def cj(P:Program):List AO->(St->Prop)->St->Prop
 | [],K,st=>K st
 | o :: r, K, st =>
  match o.guard with
  | none=>o.op.bq P st λv aU => cj P r K (aU.put o.dst v)
  | some (g, want) =>
   match ev st (.s g) with
   | .bool b=>if b=want then o.op.bq P st (λv aU => cj P r K (aU.put o.dst v)) else cj P r K (st.put o.dst (.bz []))
   | .bz []=>cj P r K (st.put o.dst (.bz []))
   | _=>False
mutual
def R.erase:∀(x:V) {E:Env} {v:Value},R E x v->R E x.erase v
 | .sl t k l, E, v, h => by
  simp only[V.erase,R] at h ⊢;obtain⟨a,cap,h1,h2,h3,_⟩:=h;exact⟨a,cap,h1,h2,h3,trivial⟩
 | .agg cs, E, v, h => by
  simp only[V.erase,R] at h ⊢;obtain⟨vs,h1,h2⟩:=h;exact⟨vs,h1,RL.erase cs h2⟩
 | .bz cs, E, v, h => by
  simp only[V.erase,R] at h ⊢;obtain⟨vs,h1,h2⟩:=h;exact⟨vs,h1,RL.erase cs h2⟩
 | .any,_,_,h=>by simpa [V.erase] using h
 | .bool _,_,_,h=>by simpa [V.erase] using h
 | .int _ _,_,_,h=>by simpa [V.erase] using h
 | .aH _,_,_,h=>by simpa [V.erase] using h
 | .o8,_,_,h=>by simpa [V.erase] using h
 | .ptr _ _,_,_,h=>by simpa [V.erase] using h
 | .elt _ _,_,_,h=>by simpa [V.erase] using h
 | .fn _ _ _,_,_,h=>by simpa [V.erase] using h
 | .raw _,_,_,h=>by simpa [V.erase] using h
def RL.erase:∀(l:List V) {E:Env} {vs:List Value},RL E l vs->RL E (aZ l) vs
 | [],_,[],_=>by simp only[aZ,RL]
 | [],_,_::_,h=>by simp only[RL] at h
 | _::_,_,[],h=>by simp only[RL] at h
 | x :: xs, _, v :: vs, h => by
  simp only[aZ,RL] at h ⊢;exact⟨R.erase x h.1,RL.erase xs h.2⟩
end
def R_:∀l:List V,(aZ l).length=l.length
 | []=>rfl
 | x::xs=>by simp[aZ,R_ xs]
variable{vs:List V}
def Aw{b:Bool}{d:Nat}{K K' : Nat->List V->Prop}(h:lu b d vs K)(hk:∀n vs,K n vs->K' n vs):lu b d vs K' := by
 unfold lu at h ⊢;split at h
 .exact hk _ _ h
 .exact⟨h.1,hk _ _ h.2⟩
 .exact h.elim
variable{K K':V->ab->Prop}
def Ai.mono{m:List (List V)}(hk:∀v σ',K v σ' -> K' v σ')(h:Ai Z k a n cap m K):Ai Z k a n cap m K' := by
 obtain⟨h1,h2,h3,h4,h5,h6⟩:=h;refine⟨h1,h2,h3,λe=>hk _ _ (h4 e),λe e' => ?_,λe=>?_⟩
 .obtain⟨b,cs,g1,g2,g3,g4⟩:=h5 e e';exact⟨b,cs,g1,g2,g3,hk _ _ g4⟩
 .obtain⟨cs,g1,g2⟩:=h6 e;exact⟨cs,g1,λb' pE p1 p2=>hk _ _ (g2 b' pE p1 p2)⟩
variable{m:Nat}
def B5.mono{xs:List V}(hk:∀v σ',K v σ' -> K' v σ')(h:B5 Z k a m xs K):B5 Z k a m xs K' :=
 ⟨λe=>hk _ _ (h.1 e),λe=>let ⟨b,o,cs,h1,h2,h3,h4⟩:=h.2 e;⟨b,o,cs,h1,h2,h3,hk _ _ h4⟩⟩
def OQ.mono(hk:∀v σ',K v σ' -> K' v σ')(q:OQ)(vs:List V)(h:q.bq Z K vs):q.bq Z K' vs:=by
 unfold OQ.bq at h ⊢;split at h
 .exact hk _ _ h
 .exact hk _ _ h
 .exact⟨h.1,h.2.1,hk _ _ h.2.2⟩
 .exact Aw h λ_ _ h=>Aw h λ_ _ h=>Aw h λ_ _ h=>⟨h.1,h.2.1,h.2.2.1,h.2.2.2.1,hk _ _ h.2.2.2.2⟩
 .obtain⟨h0,h1,h2,h3,h4,h5,h6⟩:=h;refine⟨h0,h1,h2,h3,λe=>hk _ _ (h4 e),λe e' => ?_,λe=>?_⟩
  .obtain⟨b,cs,g1,g2,g3,g4⟩:=h5 e e';exact⟨b,cs,g1,g2,g3,hk _ _ g4⟩
  .obtain⟨cs,g1,g2⟩:=h6 e;exact⟨cs,g1,λb' pE p1 p2=>hk _ _ (g2 b' pE p1 p2)⟩
 .exact⟨h.1,h.2.1,h.2.2.1,h.2.2.2.1,λb' hb=>hk _ _ (h.2.2.2.2 b' hb)⟩
 .obtain⟨l,h1,h2⟩:=h;exact⟨l,h1,hk _ _ h2⟩
 .obtain⟨l,h1,h2,h3⟩:=h;exact⟨l,h1,h2,λb' hb=>hk _ _ (h3 b' hb)⟩
 .exact⟨h.1,hk _ _ h.2⟩
 .exact⟨h.1,hk _ _ h.2⟩
 .exact Aw h λ_ _ h=>Aw h λ_ _ h=>⟨h.1,h.2.1,h.2.2.1,hk _ _ h.2.2.2⟩
 .exact Aw h λ_ _ h=>Aw h λ_ _ h=>by
   obtain⟨g1,g2,g3,g4,cs,g5,g6,g7,g8,g9⟩:=h;exact⟨g1,g2,g3,g4,cs,g5,g6,g7,g8,hk _ _ g9⟩
 .exact hk _ _ h
 .exact hk _ _ h
 .obtain⟨s,h1,h2⟩:=h;exact⟨s,h1,hk _ _ h2⟩
 .exact h.mono hk
 .obtain⟨s,h1,h2⟩:=h;exact⟨s,h1,h2.mono hk⟩
 .obtain⟨h1,h2,h3⟩:=h;refine⟨h1,h2,?_⟩;unfold FO at h3 ⊢;split at h3
  .exact⟨h3.1,hk _ _ h3.2⟩
  .exact h3.elim
 .obtain⟨s,h1,h2⟩:=h;exact⟨s,h1,h2.mono hk⟩
 .exact⟨h.1,h.2.1,h.2.2.mono hk⟩
 .exact h.elim
def En{b:Bool}{d:Nat}{K:Nat->List V->Prop}(h:lu b d vs K):∃n DV,K n DV /\ ∀K' : Nat->List V->Prop,K' n DV -> lu b d vs K' := by
 unfold lu at h;split at h
 .exact⟨_,_,h,λ_ h=>by unfold lu;exact h⟩
 .exact⟨_,_,h.2,λ_ h' => by unfold lu;exact⟨h.1,h'⟩⟩
 .exact h.elim
def OQ.RG{q:OQ}(hp:q.pure=aa)(h:q.bq Z K vs):∃v,K v Z/\∀(gX:ab) (K' : V->ab->Prop),K' v gX->q.bq gX K' vs:=by
 unfold OQ.bq at h;split at h
 .exact⟨_,h,λ_ _ h=>by unfold OQ.bq;exact h⟩
 .exact⟨_,h,λ_ _ h=>by unfold OQ.bq;exact h⟩
 .exact⟨_,h.2.2,λ_ _ h' => by unfold OQ.bq;exact⟨h.1,h.2.1,h'⟩⟩
 .obtain⟨m,v1,h1,g1⟩:=En h;obtain⟨hh,v2,h2,g2⟩:=En h1;obtain⟨M,v3,h3,g3⟩:=En h2;obtain⟨e1,e2,e3,e4,h4⟩:=h3;exact⟨_,h4,λ_ _ h' => by unfold OQ.bq;exact g1 _ (g2 _ (g3 _ ⟨e1,e2,e3,e4,h'⟩))⟩
 .simp[OQ.pure] at hp
 .simp[OQ.pure] at hp
 .obtain⟨l,h1,h2⟩:=h;exact⟨_,h2,λ_ _ h' => by unfold OQ.bq;exact⟨l,h1,h'⟩⟩
 .simp[OQ.pure] at hp
 .exact⟨_,h.2,λ_ _ h' => by unfold OQ.bq;exact⟨h.1,h'⟩⟩
 .exact⟨_,h.2,λ_ _ h' => by unfold OQ.bq;exact⟨h.1,h'⟩⟩
 .obtain⟨m,v1,h1,g1⟩:=En h;obtain⟨hh,v2,h2,g2⟩:=En h1;obtain⟨e1,e2,e3,h4⟩:=h2;exact⟨_,h4,λ_ _ h' => by unfold OQ.bq;exact g1 _ (g2 _ ⟨e1,e2,e3,h'⟩)⟩
 .simp[OQ.pure] at hp
 .exact⟨_,h,λ_ _ h=>by unfold OQ.bq;exact h⟩
 .exact⟨_,h,λ_ _ h=>by unfold OQ.bq;exact h⟩
 .simp[OQ.pure] at hp
 .simp[OQ.pure] at hp
 .simp[OQ.pure] at hp
 .obtain⟨h1,h2,h3⟩:=h;unfold FO at h3;split at h3
  .rename_i c hc;exact⟨c,h3.2,λ_ _ h' => by unfold OQ.bq;refine⟨h1,h2,?_⟩;unfold FO;rw[hc];exact⟨h3.1,h'⟩⟩
  .exact h3.elim
 .simp[OQ.pure] at hp
 .simp[OQ.pure] at hp
 .exact h.elim
def J3:R E (.bz []) undef:=by simp only[R];exact⟨#[],rfl,by simp[RL]⟩
def Qv{v:Value}(h:R E (.bz []) v):v=undef:=by
 simp only[R] at h;obtain⟨vs,rfl,h⟩:=h;cases hv:vs.toList with
 | nil =>
  have:vs=#[]:=by cases vs;simpa using hv
  subst this;rfl
 | cons x xs=>rw[hv] at h;simp[RL] at h
def cv:V->Value->Bool
 | .bool b,.bool c=>b == c
 | .int k n,.int j m=>decide (k=j)&&decide (n=m)
 | .aH s,.string t=>decide (s=t.data.toList)
 | .o8,.pointer ah=>aa
 | .sl .a9 _ [],.slice ah 0 0=>aa
 | .raw .nilFunc,.nilFunc=>aa
 | .raw .nilIface,.nilIface=>aa
 | .raw (.map ah),.map ah=>aa
 | _,_=>aq
def yR:List V->List Value->Bool
 | [],[]=>aa
 | x::xs,v::vs=>cv x v&&yR xs vs
 | _,_=>aq
def Kj(f:Nat->Option (List V)):List Nat->Option (List V)
 | []=>U []
 | t::ts=>(f t).bind λa=>(Kj f ts).map (a++·)
def zeroV(P:Program):Nat->TypeId->Option (List V)
 | 0,_=>ah
 | n + 1, t =>
  match P.underlying t with
  | some .bool=>U [.bool aq]
  | some (.int k)=>U [.int k 0]
  | some .string=>U [.aH []]
  | some (.pointer _)=>U [.o8]
  | some (.slice e)=>U [.sl .a9 (P.cellsOf e) []]
  | some (.func _ _ _)=>U [.raw .nilFunc]
  | some (.interface _)=>U [.raw .nilIface]
  | some (.map _ _)=>U [.raw (.map ah)]
  | some (.struct fs)=>Kj (zeroV P n) (fs.toList.map (·.type))
  | some (.array k e)=>Kj (zeroV P n) (aj k e)
  | _=>ah
def kh(P:Program)(t:TypeId):Option (List V) :=
 match P.info? t,zeroV P 30 t with
 | some i, U zs =>
  match i.zero with
  | some z=>if yR zs z.cells.toList=aa/\zs.length=i.size then U zs else ah
  | none=>ah
 | _,_=>ah
def Ku(P:Program)(t:TypeId):Value->Option V
 | .slice ah 0 0 =>
  match P.underlying t with
  | some (.slice e)=>U (.sl .a9 (P.cellsOf e) [])
  | _=>ah
 | .agg vs =>
  match kh P t with
  | some zs=>if yR zs vs.toList=aa then U (.agg zs) else ah
  | none=>ah
 | .bool b=>U (.bool b)
 | .int k n=>U (.int k n)
 | .string s=>U (.aH s.data.toList)
 | .pointer ah=>U .o8
 | .nilFunc=>U (.raw .nilFunc)
 | .nilIface=>U (.raw .nilIface)
 | _=>ah
def c7(P:Program)(t:TypeId):Operand->Option X
 | .tmp n=>U (.s n)
 | .const v=>(Ku P t v).map .c
 | .func f=>U (.c (.fn (.func f) [] []))
 | .global g=>U (.c (.ptr (.kS g) 0))
def jF(P:Program):List TypeId->List Operand->Option (List X)
 | [],[]=>U []
 | t::ts,x::xs=>(c7 P t x).bind λy=>(jF P ts xs).map (y::·)
 | _,_=>ah
def la(P:Program)(t:TypeId):Option Operand->Option (Option X)
 | none=>U ah
 | some x=>(c7 P t x).map U
def iv(P:Program)(t:TypeId):Option Bool :=
 match P.underlying t with
 | some (.struct _) | some (.array _ _)=>U aa
 | some _=>U aq
 | none=>ah
def eT(P:Program)(t:TypeId):Option Nat:=(P.info? t).map (·.size)
def Bw(P:Program)(place:Nat->Option (Nat × TypeId)):List (Nat × Operand)->Option (List (Nat × Nat × X))
 | []=>U []
 | (i, x) :: ps =>
  match place i with
  | some (off, t) =>
   match eT P t,c7 P t x with
   | some n,U y=>if n=0 then ah else(Bw P place ps).map ((off,n,y)::·)
   | _,_=>ah
  | none=>ah
def ID(f:TypeId->Nat->Option (List (Nat × Nat)))(size:TypeId->Nat)(all:Nat):List Field->Nat->Option (List (Nat × Nat))
 | [],_=>U []
 | x::xs,off=>if x.name = "_" \/ all<x.offset+size x.type then ah else(f x.type (off+x.offset)).bind λa=>(ID f size all xs off).map (a++·)
def IE(f:Nat->Option (List (Nat × Nat)))(size all:Nat):List Nat->Nat->Option (List (Nat × Nat))
 | [],_=>U []
 | i::is,off=>if all<i*size+size then ah else(f (off+i*size)).bind λa=>(IE f size all is off).map (a++·)
def ya(P:Program):Nat->TypeId->Nat->Option (List (Nat × Nat))
 | 0,_,_=>ah
 | n + 1, t, off =>
  match P.info? t,P.underlying t with
  | some _,U .bool=>if P.cellsOf t=1 then U [(off,0)] else ah
  | some _,U (.int _)=>if P.cellsOf t=1 then U [(off,1)] else ah
  | some _,U .string=>if P.cellsOf t=1 then U [(off,2)] else ah
  | some _,U (.struct fs)=>if P.stoodInHeld t=aa then ah else ID (ya P n) P.cellsOf (P.cellsOf t) fs.toList off
  | some _,U (.array k e)=>match P.info? e with | some _=>IE (ya P n e) (P.cellsOf e) (P.cellsOf t) (bG k) off | none=>ah
  | _,_=>ah
def Of(P:Program)(t:TypeId):Option (List Nat) :=
 match ya P 20 t 0 with
 | some pl=>if pl.map (·.1)=bG (P.cellsOf t)/\P.eqGuardType P.depth t=aq then U (pl.map (·.2)) else ah
 | none=>ah
def zB(P:Program)(o:Oper):Option aV :=
 match o.op with
 | .move x | .assign x=>(c7 P o.type x).map .mv
 | .pick c a b =>
  match c7 P o.type c,c7 P o.type a,c7 P o.type b with
  | some c,U a,U b=>U (.pick c a b)
  | _,_,_=>ah
 | .alloc t=>(kh P t).map .alloc
 | .box t x =>
  match eT P t,c7 P t x with
  | some n,U y=>U (.box n y)
  | _,_=>ah
 | .build t ps =>
  match kh P t,P.underlying t with
  | some z,U (.struct fs)=>if fs.toList.all (λf=>(P.info? f.type).isSome)=aa then(Bw P (λi=>(fs[i]?).map λf=>(f.offset,f.type)) ps.toList).map (.build z) else ah
  | some z,U (.array _ e)=>if (P.info? e).isSome=aa then(Bw P (λi=>U (i*P.cellsOf e,e)) ps.toList).map (.build z) else ah
  | _,_=>ah
 | .buildSlice t len ps =>
  match P.underlying t with
  | some (.slice e) =>
   match eT P e,kh P e,jF P (aj len e) (ps.toList.map (·.2)) with
   | some k,U _,U xs=>if ps.toList.map (·.1)=bG len/\len*k<=16777216/\0<k then U (.km k xs) else ah
   | _,_,_=>ah
  | _=>ah
 | .load t x =>
  match iv P t,eT P t,c7 P t x with
  | some g,U n,U y=>U (.load g n y)
  | _,_,_=>ah
 | .store t x y =>
  match eT P t,c7 P t x,c7 P t y with
  | some n,U x,U y=>if n=0 then ah else U (.store n x y)
  | _,_,_=>ah
 | .nilCheck x=>(c7 P o.type x).map .wJ
 | .binOp op t x y _ =>
  match c7 P t x,c7 P t y with
  | some x, U y =>
   match P.underlying t with
   | some (.int _)=>U (.dV op x y)
   | some .string=>match op with | .add=>U (.cat x y) | _=>U (.kQ op x y)
   | some .bool=>match op with | .eql=>U (.tt aq x y) | .neq=>U (.tt aa x y) | _=>ah
   | some (.struct _) | some (.array _ _) =>
    match Of P t with
    | some ks=>match op with | .eql=>U (.kn aq ks x y) | .neq=>U (.kn aa ks x y) | _=>ah
    | none=>ah
   | _=>ah
  | _,_=>ah
 | .unOp .not _ x=>(c7 P o.type x).map .not
 | .convert src dst x =>
  match P.underlying src,P.underlying dst,c7 P src x with
  | some (.int _),U (.int k),U y=>U (.pG k y)
  | some (.slice e),U .string,U y=>match P.underlying e with | some (.int .u8)=>U (.vY y) | _=>ah
  | _,_,_=>ah
 | .makeFunc f first cap =>
  match jF P (aj first.size 0) first.toList,jF P (aj cap.size 0) cap.toList with
  | some a,U b=>U (.kb f a b)
  | _,_=>ah
 | .slice t x lo hi mx =>
  match c7 P t x,la P t lo,la P t hi,la P t mx with
  | some x, U lo, U hi, U mx =>
   match P.underlying t with
   | some (.slice e)=>match eT P e with | some k=>if mx.isSome=aa->hi.isSome=aa then U (.mu k x lo hi mx) else ah | none=>ah
   | some .string=>match mx with | none=>U (.zV x lo hi) | some _=>ah
   | _=>ah
  | _,_,_,_=>ah
 | .fieldAddr s x i =>
  match P.underlying s,c7 P s x with
  | some (.struct fs), U y =>
   match fs[i]? with
   | some f=>match eT P f.type with | some n=>if n=0 then ah else U (.pJ f.offset y) | none=>ah
   | none=>ah
  | _,_=>ah
 | .field s x i =>
  match P.underlying s,c7 P s x with
  | some (.struct fs), U y =>
   match fs[i]? with
   | some f=>match iv P f.type,eT P f.type with | some g,U n=>U (.v8 g f.offset n y) | _,_=>ah
   | none=>ah
  | _,_=>ah
 | .indexAddr t x i =>
  match P.underlying t,c7 P t x,c7 P t i with
  | some (.slice e),U x,U i=>(eT P e).map λk=>.tX k x i
  | some (.array m e),U x,U i=>(eT P e).map λk=>.sO m k x i
  | _,_,_=>ah
 | .index t x i =>
  match P.underlying t,c7 P t x,c7 P t i with
  | some .string,U x,U i=>U (.tY x i)
  | _,_,_=>ah
 | .extract x i=>(c7 P o.type x).map λy=>.ext y i
 | .call c =>
  match c.callee with
  | .value (.func f)=>(jF P c.argTypes.toList c.args.toList).map (.call f)
  | .value x =>
   match c7 P 0 x,jF P c.argTypes.toList c.args.toList with
   | some y,U xs=>U (.iV y xs)
   | _,_=>ah
  | .builtin .len =>
   match c.argTypes.toList,c.args.toList with
   | [t], [x] =>
    match P.underlying t,c7 P t x with
    | some (.slice _),U y=>U (.wG y)
    | some .string,U y=>U (.wH y)
    | _,_=>ah
   | _,_=>ah
  | .builtin .append =>
   match c.argTypes.toList,c.args.toList with
   | [t, u], [s, x] =>
    match P.underlying t,P.underlying u,c7 P t s,c7 P u x with
    | some (.slice e), U (.slice e'), U s, U x =>
     match P.info? e,kh P e with
     | some i,U _=>if e=e' /\ i.bytes<=4096/\0<i.size then U (.app i.size s x) else ah
     | _,_=>ah
    | some (.slice e), U .string, U s, U x =>
     match P.info? e,kh P e with
     | some i,U _=>match P.underlying e with | some (.int .u8)=>if i.size=1/\i.bytes=1 then U (.nV s x) else ah | _=>ah
     | _,_=>ah
    | _,_,_,_=>ah
   | _,_=>ah
  | _=>ah
 | _=>ah
def ab':∀{x:V} {v:Value},cv x v=aa->R E x v:=by
 intro x v h;unfold cv at h;split at h<;>simp_all [R,vQ]
def sr{E:Env}:∀{xs:List V} {vs:List Value},yR xs vs=aa->RL E xs vs
 | [],[],_=>by simp[RL]
 | [],_::_,h=>by simp[yR] at h
 | _::_,[],h=>by simp[yR] at h
 | x :: xs, v :: vs, h => by
  simp only[yR,b_] at h;simp only[RL];exact⟨ab' h.1,sr h.2⟩
variable{t:TypeId}{zs:List V}
def uq(h:kh P t=U zs):
 ∃i z,P.info? t=U i/\i.zero=U z/\yR zs z.cells.toList=aa/\zs.length=i.size:=by
 unfold kh at h;split at h
 .rename_i i ys h1 h2;split at h
  .rename_i z hz;split at h
   .rename_i hc;simp only[bg] at h;subst h;exact⟨i,z,h1,hz,hc.1,hc.2⟩
   .simp at h
  .simp at h
 .simp at h
def abH{v:Value}{x:V}(h:Ku P t v=U x):R E x v:=by
 unfold Ku at h;split at h
 .split at h
  .simp only[bg] at h;subst h;simp[R,vQ]
  .simp at h
 .rename_i vs;split at h
  .rename_i zs hz;split at h
   .rename_i hc;simp only[bg] at h;subst h;simp only[R];exact⟨vs,rfl,sr hc⟩
   .simp at h
  .simp at h
 all_goals first | (simp only[bg] at h;subst h;simp[R];done) | (simp at h)
def CE{a:Act}(h:RL E st.t a.tmps.toList)(n:Nat):R E (ev st (.s n)) (a.eval (.tmp n)):=by
 have:=GK h n undef
 simpa [ev,Act.eval,rf,gy] using this
variable{x:Operand}
def nG{a:Act}{y:X}(h:RL E st.t a.tmps.toList)(hx:c7 P t x=U y):
 R E (ev st y) (a.eval x):=by
 cases x with
 | tmp n=>simp only[c7,bg] at hx;subst hx;exact CE h n
 | const v =>
  simp only[c7,dB] at hx;obtain⟨u,hu,rfl⟩:=hx;exact abH hu
 | func f=>simp only[c7,bg] at hx;subst hx;simp only[ev,R,Act.eval];exact⟨#[],#[],rfl,by simp[RL],by simp[RL]⟩
 | global g=>simp only[c7,bg] at hx;subst hx;simp only[ev,R,Act.eval]
def NK{P:Program}{E:Env}{st:St}{a:Act}(h:RL E st.t a.tmps.toList):∀{ts:List TypeId} {xs:List Operand} {ys:List X},jF P ts xs=U ys ->
 RL E (dw st ys) (xs.map a.eval)
 | [],[],ys,hx=>by simp only[jF,bg] at hx;subst hx;simp[dw,RL]
 | [],_::_,_,hx=>by simp[jF] at hx
 | _::_,[],_,hx=>by simp[jF] at hx
 | t :: ts, x :: xs, ys, hx => by
  simp only[jF,iK,dB] at hx;obtain⟨y,h1,zs,h2,rfl⟩:=hx;simp only[dw,dz,RL];exact⟨nG h h1,NK h h2⟩
def eC(E:Env)(a:Act)(d:Option Tmp)(K:V->St->Prop):Act->World->Prop :=
 λa' w' => ∃E' v x aU,E'.w=w' /\ Fr E E' /\ bQ E' aU a/\R E' v x/\a' = a.put d x/\K v aU
section
variable {P:Program} {E:Env} {st:St} {a:Act} {o:Oper} {K:V->St->Prop} {Q:Exit->Act->World->Prop}
def dv(hs:bQ E st a){x:Value}(hr:(execOp a.eval o).run P E.w = .ok (.value x) E.w)(hv:R E v x)(hk:K v st):o.wp P a E.w (eC E a o.dst K) Q:=by
 unfold Oper.wp;rw[hr];exact⟨E,v,x,st,rfl,Fr.refl E,hs,hv,rfl,hk⟩
def Rd(E:Env)(cs:List V)(b o:Nat):Prop:=∀(j:Nat) x,cs[j]?=U x->∃v,E.w.cell? ⟨b,o+j,ah⟩=U v/\R E x v
def Env.NT(E:Env):E.nl.le E:=⟨λ_ _ _ h h' => ⟨h,h'⟩,λ_ _ h=>by simp at h,(Env.le.refl E).tok⟩
variable{cs:List V}
def Rd.mono{E E' : Env}(h:E.le E')(hw:E'.w=E.w){b o:Nat}(hr:Rd E cs b o):Rd E' cs b o:=λj x hx=>by
 obtain⟨v,h1,h2⟩:=hr j x hx;exact⟨v,by rw[hw];exact h1,h2.mono _ h⟩
def Rd.Vx{E:Env}(h:jM E b cs):Rd E cs b 0:=by
 obtain⟨c,e,h1,h2,h3⟩:=h;intro j x hx;obtain⟨v,hv,hr⟩:=h3 j x hx;exact⟨v,by simp[World.cell?,h1,hv],hr⟩
def Rd.NZ{E:Env}:∀{cs:List V} {b o:Nat},eW E cs b o->Rd E cs b o
 | [],_,_,_=>λj x hx=>by simp at hx
 | y :: ys, b, o, h => λj x hx => by
  simp only[eW] at h;obtain⟨⟨c,h1,_,_,h3⟩,h4⟩:=h;cases j with
  | zero=>simp at hx;subst hx;exact⟨c,h1,h3⟩
  | succ j =>
   simp at hx;obtain⟨v,hv,hr⟩:=Rd.NZ h4 j x hx;exact⟨v,by rw[show o+(j+1)=o+1+j from by omega];exact hv,hr⟩
def Rd.drop{E:Env}{b o:Nat}(h:Rd E cs b o)(n:Nat):Rd E (cs.drop n) b (o+n):=λj x hx=>by
 rw[vE] at hx;obtain⟨v,hv,hr⟩:=h _ x hx;exact⟨v,by rw[show o+n+j=o+(n+j) from by omega];exact hv,hr⟩
def O_:∀{n:Nat} {cs xs:List V},takeN n cs=U xs->xs=cs.take n/\n<=cs.length
 | 0,cs,xs,h=>by simp[takeN] at h;subst h;simp
 | n+1,[],xs,h=>by simp[takeN] at h
 | n + 1, c :: cs, xs, h => by
  simp only[takeN,dB] at h;obtain⟨ys,h1,rfl⟩:=h;obtain⟨rfl,h2⟩:=O_ h1;simp;omega
def Rd.cells{E:Env}:∀{cs:List V} {b o:Nat},Rd E cs b o->∃vs,RL E cs vs/\∀(j:Nat) v,vs[j]?=U v->E.w.cell? ⟨b,o+j,ah⟩=U v
 | [],_,_,_=>⟨[],by simp[RL],λj v h=>by simp at h⟩
 | c :: cs, b, o, h => by
  obtain⟨v,h1,h2⟩:=h 0 c (by simp);obtain⟨vs,h3,h4⟩:=Rd.cells (cs:=cs) (b:=b) (o:=o+1) λj x hx=>by
   obtain⟨v,hv,hr⟩:=h (j+1) x (by simpa using hx);exact⟨v,by rw[show o+1+j=o+(j+1) from by omega];exact hv,hr⟩
  refine⟨v::vs,?_,λj u hu=>?_⟩
  .simp only[RL];exact⟨h2,h3⟩
  .cases j with
   | zero=>simp at hu;subst hu;simpa using h1
   | succ j=>simp at hu;rw[show o+(j+1)=o+1+j from by omega];exact h4 j u hu
def lS(b o j:Nat):(⟨b,o,ah⟩:Addr).add j=⟨b,o+j,ah⟩:=by
 unfold Addr.add;split<;>simp_all
variable{g:Bool}
def BM(h:iv P t=U g)(w:World):(isAgg t).run P w = .ok g w:=by
 unfold iv at h;cases hu:P.underlying t with
 | none=>simp[hu] at h
 | some d =>
  simp only[hu] at h;simp only[isAgg,Sem.run_bind,run_underlying hu,Result.andThen_ok];cases d<;>simp_all
def pk(h:eT P t=U n)(w:World):(sizeOf t).run P w = .ok n w:=by
 unfold eT at h;simp only[dB] at h;obtain⟨i,hi,rfl⟩:=h;simp[sizeOf,typeInfo,hi]
def run_load(ht:iv P t=U g)(hn:eT P t=U n){b o:Nat}(h:Rd E cs b o)(hv:bX g n cs=U v):
 ∃x,(loadVar t ⟨b,o,ah⟩).run P E.w = .ok x E.w/\R E v x:=by
 cases g with
 | false =>
  cases cs with
  | nil=>simp[bX] at hv
  | cons c cs =>
   simp only[bX,bg] at hv;subst hv;obtain⟨x,h1,h2⟩:=h 0 c (by simp);exact⟨x,by simp only[vJ] at h1;simp[loadVar,BM ht,h1],h2⟩
 | true =>
  simp only[bX,dB] at hv;obtain⟨xs,h1,rfl⟩:=hv;obtain⟨rfl,h2⟩:=O_ h1;have h' : Rd E (cs.take n) b o:=λj x hx=>by
   rw[JR] at hx;split at hx
   .exact h j x hx
   .simp at hx
  obtain⟨vs,h3,h4⟩:=h'.cells;have hl:=gb h3;have im : vs.length=n:=by rw[<-hl];simp;omega
  refine⟨.agg vs.toArray,?_,by simp only[R];exact⟨vs.toArray,rfl,by simpa using h3⟩⟩;have hc:=run_loadCells_list (P:=P) E.w ⟨b,o,ah⟩ vs (λj u hu=>by rw[lS];exact h4 j u hu);rw[im] at hc;simp[loadVar,BM ht,pk hn,hc]
def UK(hs:bQ E st a){p:V}{x:Value}(h:lF st g n p=U v)(hp:R E p x):
 ∃b o cs,x = .pointer (U ⟨b,o,ah⟩)/\Rd E cs b o/\bX g n cs=U v:=by
 cases p with
 | ptr p off =>
  cases p with
  | au i =>
   simp only[lF,G0,iK] at h;obtain⟨cs,h1,h2⟩:=h;simp only[R] at hp;obtain⟨b,hb,rfl⟩:=hp;obtain⟨b',h3,_,h5⟩:=hs.du.box i cs h1;rw[hb] at h3;simp only[bg] at h3;subst h3;exact⟨b,off,cs.drop off,rfl,by simpa using (Rd.Vx h5).drop off,h2⟩
  | out b =>
   simp only[lF,G0,iK] at h;obtain⟨cs,h1,h2⟩:=h;simp only[R] at hp;subst hp;obtain⟨_,h5⟩:=hs.ok.box b cs h1;exact⟨b,off,cs.drop off,rfl,by simpa using ((Rd.Vx h5).mono E.NT rfl).drop off,h2⟩
  | kS b =>
   simp only[lF,G0,iK] at h;obtain⟨cs,h1,h2⟩:=h;simp only[R] at hp;subst hp;exact⟨b,off,cs.drop off,rfl,by simpa using ((Rd.NZ (hs.ok.cQ b cs h1)).mono E.NT rfl).drop off,h2⟩
 | elt cs off =>
  simp only[lF] at h;simp only[R] at hp;obtain⟨b,o,rfl,h2⟩:=hp;exact⟨b,o+off,cs.drop off,rfl,((Rd.NZ h2).mono E.NT rfl).drop off,h⟩
 | _=>simp[lF] at h
def auH(hs:bQ E st a){y:X}(ho:o.op = .load t x)(ht:iv P t=U g)(hn:eT P t=U n)(hy:R E (ev st y) (a.eval x))
 (h:opt (lF st g n (ev st y)) (K2 K st)):o.wp P a E.w (eC E a o.dst K) Q:=by
 unfold opt K2 at h;split at h
 .rename_i v hv;obtain⟨b,off,cs,h1,h2,h3⟩:=UK hs hv hy;obtain⟨u,h4,h5⟩:=run_load ht hn h2 h3;exact dv hs (by simp[execOp,ho,Instr.loadAt,Instr.sureAddr,h1,h4]) h5 h
 .exact h.elim
end
structure Ext(w w' : World):Prop where
 os:w'.os=w.os
 output:w'.output=w.output
 tape:w'.tape=w.tape
 size:w.heap.size<=w'.heap.size
 block:∀b,b<w.heap.size->w'.heap[b]?=w.heap[b]?
 hH:∀a,w'.frozen? a=w.frozen? a
def Ext.refl(w:World):Ext w w:=⟨rfl,rfl,rfl,b7 _,λ_ _=>rfl,λ_=>rfl⟩
variable{w':World}
def Ext.drew(h:Ext w w'):Ext w w'.drew:=⟨h.os,h.output,h.tape,h.size,h.block,h.hH⟩
def Ext.alloc(h:Ext w w')(c:Array Value)(t:TypeId):Ext w (w'.alloc (.cells c t)) :=
 ⟨h.os,h.output,h.tape,by simp;have:=h.size;omega,λb hb=>(heap_alloc_old w' _ (uw hb h.size)).trans (h.block b hb),λa=>(aiW w' c t a).trans (h.hH a)⟩
def Cq{o:Nat}(h:w'.heap[b]?=w.heap[b]?):w'.cell? ⟨b,o,ah⟩=w.cell? ⟨b,o,ah⟩:=by simp[World.cell?,h]
def U5{o:Nat}{c:Value}(h:w.cell? ⟨b,o,ah⟩=U c):b<w.heap.size:=World.block_lt_of_cell? (a:=⟨b,o,ah⟩) w h
def lb{x:Obj}(h:w.heap[b]?=U x):b<w.heap.size:=(lr.1 h).1
def y5(hf:∀b,E.w.heap.size<=b->E.bj b = .const)(hx:Ext E.w E'.w)(hr:∀b,b<E.w.heap.size->E'.bj b=E.bj b)
 (ht:∀t n,E.aY t=U n->E'.aY t=U n):Fr E E' := by
 refine⟨hx.os,hx.output,hx.tape,hx.size,hx.hH,?_,?_,?_,?_,?_,?_,λb c e hb=>⟨c,(hx.block b (lb hb)).trans hb,rfl⟩⟩
 .intro b o c hc hv;have hb:=U5 hv;exact⟨by rw[hr b hb];exact hc,by rw[Cq (hx.block b hb)];exact hv⟩
 .intro t n hn;refine⟨n,ht t n hn,b7 _,λ_ b c hb=>?_⟩;have an:b<E.w.heap.size:=by
   rcases xb b E.w.heap.size with h | h
   .exact h
   .rw[hf b h] at hb;simp at hb
  exact⟨by rw[hr b an];exact hb,λcs e b9=>⟨cs,by rw[hx.block b an];exact b9,rfl⟩⟩
 .intro b hb _;exact⟨hx.block b hb,hr b hb⟩
 .intro b hb h;rw[hr b hb] at h;exact .inl h
 .intro b t c hb h;rw[hr b hb] at h;exact⟨c,h⟩
 .intro b i hb h;rw[hr b hb] at h;exact⟨i,h⟩
variable{cs:List V}
def jM.mono(h:E.le E')(hb:E'.w.heap[b]?=E.w.heap[b]?)(k:jM E b cs):jM E' b cs:=by
 obtain⟨c,e,h1,h2,h3⟩:=k;exact⟨c,e,by rw[hb];exact h1,h2,λj x hx=>let ⟨v,hv,hr⟩:=h3 j x hx;⟨v,hv,hr.mono _ h⟩⟩
def Dy(h:E.ok Z)(hle:E.nl.le E'.nl)(hb:∀b,E.bj b = .qS->b<E.w.heap.size->E'.bj b = .qS/\E'.w.heap[b]?=E.w.heap[b]?)
 (ht:∀t n,E.aY t=U n->E'.aY t=U n) (hf:∀b,E'.w.heap.size<=b->E'.bj b = .const) (hn:∃N,∀t,N<=t->E'.aY t=ah):E'.ok Z:=by
 refine⟨λb cs b9=>?_,λt n lD=>ht t n (h.aY t n lD),hf,hn,λb cs hc=>eW.mono _ hle (h.cQ b cs hc)⟩;obtain⟨h1,h2⟩:=h.box b cs b9;have an:b<E.w.heap.size:=by obtain⟨c,e,h3,_⟩:=h2;exact lb (w:=E.w) h3
 obtain⟨h3,h4⟩:=hb b h1 an;exact⟨h3,h2.mono hle h4⟩
def qT{ls:List (List V)}(h:E.du ls)(hle:E.le E')(hb:∀b i,E.bj b = .jb i->b<E.w.heap.size->E'.bj b = .jb i/\E'.w.heap[b]?=E.w.heap[b]?)
 (hl:∀i,ls.length<=i->E'.au i=ah):E'.du ls:=by
 refine⟨λi cs b9=>?_,hl⟩;obtain⟨b,h1,h2,h3⟩:=h.box i cs b9;have an:b<E.w.heap.size:=by obtain⟨c,e,h3,_⟩:=h3;exact lb (w:=E.w) h3
 obtain⟨h4,h5⟩:=hb b i h2 an;exact⟨b,hle.au i b h1,h4,h3.mono hle h5⟩
section
variable {P:Program} {E:Env} {st:St} {a:Act} {o:Oper} {K:V->St->Prop} {Q:Exit->Act->World->Prop}
def F8(hs:bQ E st a)(hx:Ext E.w w'):Fr E {E with w:=w'}/\E.le {E with w:=w'}/\bQ {E with w:=w'} st a:=by
 have bw:Fr E {E with w:=w'}:=y5 hs.ok.fresh hx (λ_ _=>rfl) (λ_ _ h=>h);have hle:E.le {E with w:=w'}:=bw.le λ_ _ h=>h
 refine⟨bw,hle,Dy hs.ok bw.nl (λb h hb=>⟨h,hx.block b hb⟩) (λ_ _ h=>h) (λb hb=>hs.ok.fresh b (vK hx.size hb)) hs.ok.nt,
  qT hs.du hle (λb i h hb=>⟨h,hx.block b hb⟩) hs.du.none,hs.defers,RL.mono _ hle hs.slot⟩
def Ym(hs:bQ E st a)(hx:Ext E.w w'){x:Value}(hr:(execOp a.eval o).run P E.w = .ok (.value x) w')(hv:R {E with w:=w'} v x)(hk:K v st):
 o.wp P a E.w (eC E a o.dst K) Q:=by
 unfold Oper.wp;rw[hr];obtain⟨h1,_,h3⟩:=F8 hs hx;exact⟨_,v,x,st,rfl,h1,h3,hv,rfl,hk⟩
def Yo(hs:bQ E st a)(hr:(execOp a.eval o).run P E.w = .ok (.value (.pointer (U ⟨E.w.heap.size,0,ah⟩))) (E.w.alloc (.cells c e)))
 (hz:RL E zs c.toList) (hk:K (.ptr (.au st.au.length) 0) ⟨st.t,st.au++[zs],st.out⟩):o.wp P a E.w (eC E a o.dst K) Q:=by
 unfold Oper.wp;rw[hr]
 let E' : Env:={w:=E.w.alloc (.cells c e),bj:=λb=>if b=E.w.heap.size then .jb st.au.length else E.bj b,au:=λi=>if i=st.au.length then U E.w.heap.size else E.au i,aY:=E.aY}
 have hx:Ext E.w E'.w:=(Ext.refl _).alloc _ _;have bw:Fr E E' := y5 hs.ok.fresh hx (λb hb=>by simp only[E'];rw[aw (by omega)]) (λ_ _ h=>h);have hle:E.le E' := bw.le λi b h=>by
  simp only[E'];split
  .rename_i hi;rw[hs.du.none i (by omega)] at h;simp at h
  .exact h
 refine⟨E',_,_,⟨st.t,st.au++[zs],st.out⟩,rfl,bw,⟨?_,⟨?_,?_⟩,hs.defers,RL.mono _ hle hs.slot⟩,?_,rfl,hk⟩
 .refine Dy hs.ok bw.nl (λb h hb=>⟨by simp only[E'];rw[aw (by omega)];exact h,hx.block b hb⟩) (λ_ _ h=>h) (λb hb=>?_) hs.ok.nt;simp only[E',World.size_alloc] at hb ⊢;rw[aw (by omega)];exact hs.ok.fresh b (by omega)
 .intro i cs b9
  rcases Ao i st.au.length with hi | hi | hi
  .rw[sc hi] at b9;obtain⟨b,h1,h2,h3⟩:=hs.du.box i cs b9;have an:b<E.w.heap.size:=by obtain⟨c,e,h3,_⟩:=h3;exact lb (w:=E.w) h3
   exact⟨b,hle.au i b h1,by simp only[E'];rw[aw (by omega)];exact h2,h3.mono hle (hx.block b an)⟩
  .subst hi;rw[B' (b7 _)] at b9;simp at b9;subst b9;have hl:=gb hz;refine⟨E.w.heap.size,by simp[E'],by simp[E'],c,e,heap_alloc_new _ _,by simp at hl;omega,λj x hx=>?_⟩;obtain⟨v,hv,cL⟩:=si hz j x hx;exact⟨v,by simpa using hv,cL.mono _ hle⟩
  .rw[tm (by simp;omega)] at b9;simp at b9
 .intro i hi;simp at hi;simp only[E'];rw[aw (by omega)];exact hs.du.none i (by omega)
 .simp only[R];exact⟨E.w.heap.size,by simp[E'],rfl⟩
def yK{x:V}{v:Value}(h:R E x v)(hw:x.wd=U n):RL E x.cells v.cells.toList/\v.cells.size=n:=by
 cases x<;>simp only[V.wd,bg] at hw<;>try simp at hw
 case agg cs =>
  simp only[R] at h;obtain⟨vs,rfl,h2⟩:=h
  have:=gb h2
  exact⟨by simpa [V.cells,Value.cells] using h2,by simp[Value.cells];simp at this;omega⟩
 case raw u =>
  simp only[R] at h;subst h;obtain⟨ho,rfl⟩:=hw;cases v<;>simp_all [Value.oneCell',Value.cells,V.cells,RL,R]
 case ptr p off =>
  subst hw;have h' := h;cases p
  .simp only[R] at h;obtain⟨b,_,rfl⟩:=h;simp[Value.cells,V.cells,RL];exact h'
  .simp only[R] at h;subst h;simp[Value.cells,V.cells,RL];exact h'
  .simp only[R] at h;subst h;simp[Value.cells,V.cells,RL];exact h'
 all_goals
  subst hw;have h' := h;simp only[R] at h
  first
   | (subst h;simp[Value.cells,V.cells,RL];exact h')
   | (obtain⟨b,o,rfl,_⟩:=h;simp[Value.cells,V.cells,RL];exact h')
def zG:∀{xs:List V} {vs:List Value},RL E xs vs->c8 xs=aa->∀v∈vs,v.oneCell' = aa
 | [],[],_,_=>λv hv=>by simp at hv
 | [],_::_,h,_=>by simp[RL] at h
 | _::_,[],h,_=>by simp[RL] at h
 | x :: xs, v :: vs, h, ho => by
  simp only[RL] at h;simp only[c8,b_] at ho;intro u hu
  rcases pz.1 hu with rfl | hu
  .obtain⟨hr,_⟩:=h;have h1:=ho.1;cases x<;>simp only[V.one] at h1<;>try (simp at h1;done)
   case ptr p off=>cases p<;>simp only[R] at hr<;>first | (subst hr;rfl) | (obtain⟨b,_,rfl⟩:=hr;rfl)
   all_goals
    simp only[R] at hr
    first
     | (subst hr;first | rfl | exact h1)
     | (obtain⟨b,o,rfl,_⟩:=hr;rfl)
  .exact zG h.2 ho.2 u hu
def Lw:∀{n:Nat} {xs:List V},cB n xs=aa->n<=xs.length
 | 0,_,_=>ux _
 | n+1,[],h=>by simp[cB] at h
 | n+1,x::xs,h=>by simp only[cB] at h;have:=Lw h;simp;omega
def VJ:∀{l xs:List V},xs.length<=l.length->∀j:Nat,(over l xs)[j]?=if j<xs.length then xs[j]? else l[j]?
 | [],[],_,j=>by simp[over]
 | [],_::_,h,_=>by simp at h
 | a::l,[],_,j=>by simp[over]
 | a :: l, x :: xs, h, j => by
  cases j with
  | zero=>simp[over]
  | succ j=>simp[over,VJ (l:=l) (xs:=xs) (by simpa using h)]
def VK:∀{l xs:List V},(over l xs).length=l.length
 | [],_=>by simp[over]
 | a::l,[]=>by simp[over]
 | a::l,x::xs=>by simp[over,VK]
def OW:∀{l:List V} {n:Nat} {xs:List V},(setAt l n xs).length=l.length
 | l,0,xs=>by cases l<;>simp[setAt,VK]
 | [],n+1,xs=>by simp[setAt]
 | a::l,n+1,xs=>by simp[setAt,OW]
def OV:∀{l:List V} {n:Nat} {xs:List V},n+xs.length<=l.length->∀j:Nat,
 (setAt l n xs)[j]?=if j<n then l[j]? else if j<n+xs.length then xs[j - n]? else l[j]?
 | l, 0, xs, h, j => by
  have h' : setAt l 0 xs=over l xs:=by cases l<;>simp[setAt]
  rw[h',VJ (by omega)];simp
 | [],n+1,xs,h,j=>by simp at h
 | a :: l, n + 1, xs, h, j => by
  cases j with
  | zero=>simp[setAt]
  | succ j =>
   have:=OV (l:=l) (n:=n) (xs:=xs) (by simp at h;omega) j
   simp only[setAt,List.getElem?_cons_succ,this]
   by_cases h1:j<n
   .rw[aI h1,aI (show j+1<n+1 by omega)]
   .rw[aw h1,aw (show ¬j+1<n+1 by omega)]
    by_cases h2:j<n+xs.length
    .rw[aI h2,aI (show j+1<n+1+xs.length by omega),show j+1 - (n+1)=j - n from by omega]
    .rw[aw h2,aw (show ¬j+1<n+1+xs.length by omega)]
variable{off:Nat}
def OM(hn:eT P t=U n)(hb:w.heap[b]?=U (.cells c e (0,0))){v:Value}(hv:v.cells.size=n)
 (xO:off+n<=c.size) (h1:∀u∈v.cells.toList,u.oneCell' = aa) :
 (storeVar t ⟨b,off,ah⟩ v).run P w = .ok () (w.setRow b (c.toList.take off++v.cells.toList++c.toList.drop (off+n)).toArray):=by
 have h:=run_storeCells_at (P:=P) b off e v.cells.toList 0 c w hb (by simp;omega) h1;simp only[vJ,B0,hv] at h;simp[storeVar,pk hn,hv,h]
def F7{c vs:List Value}(h:off+vs.length<=c.length)(j:Nat):
 (c.take off++vs++c.drop (off+vs.length))[j]?=if j<off then c[j]? else if j<off+vs.length then vs[j - off]? else c[j]?:=by
 have hl:(c.take off).length=off:=by simp;omega
 by_cases h1:j<off
 .rw[aI h1,fP,sc (by omega),JR,aI h1]
 .rw[aw h1]
  by_cases h2:j<off+vs.length
  .rw[aI h2,fP,B' (by omega),sc (by omega),hl]
  .rw[aw h2,B' (by simp;omega),vE];congr 1;simp;omega
def G1(hc:cs.length<=c.size)(hb:∀(j:Nat) x,cs[j]?=U x->∃v,c[j]?=U v/\R E' x v)
 {xs:List V} {vs:List Value} (hx:RL E' xs vs) {off:Nat} (xO:off+xs.length<=cs.length)
 (hn:E'.w.heap[b]?=U (.cells (c.toList.take off++vs++c.toList.drop (off+vs.length)).toArray e (0,0))):jM E' b (setAt cs off xs):=by
 have hl:=gb hx;refine⟨_,e,hn,?_,λj x hj=>?_⟩
 .simp[OW];omega
 .rw[OV xO] at hj;have hs:=F7 (c:=c.toList) (vs:=vs) (off:=off) (by simp;omega) j;simp only[YU];rw[hs]
  by_cases h1:j<off
  .rw[aI h1] at hj ⊢;simpa using hb j x hj
  .rw[aw h1] at hj ⊢
   by_cases h2:j<off+xs.length
   .rw[aI h2] at hj;rw[aI (by omega)];exact si hx _ x hj
   .rw[aw h2] at hj;rw[aw (by omega)];simpa using hb j x hj
end
mutual
def R.p_:∀(x:V) {E E' : Env} (_:E.nl.le E'.nl) (_:x.cM=aa) {v:Value},R E x v->R E' x v
 | .any,_,_,_,_,_,_=>by simp only[R]
 | .bool _,_,_,_,_,_,hr=>by simp only[R] at hr ⊢;exact hr
 | .int _ _,_,_,_,_,_,hr=>by simp only[R] at hr ⊢;exact hr
 | .aH _,_,_,_,_,_,hr=>by simp only[R] at hr ⊢;exact hr
 | .o8,_,_,_,_,_,hr=>by simp only[R] at hr ⊢;exact hr
 | .ptr (.au i) _,_,_,_,hn,_,_=>by simp[V.cM] at hn
 | .ptr (.out _) _,_,_,_,_,_,hr=>by simp only[R] at hr ⊢;exact hr
 | .ptr (.kS _) _,_,_,_,_,_,hr=>by simp only[R] at hr ⊢;exact hr
 | .elt cs _, _, _, h, _, _, hr => by
  simp only[R] at hr ⊢;obtain⟨b,o,h1,h2⟩:=hr;exact⟨b,o,h1,eW.mono cs h h2⟩
 | .sl t k l, E, E', h, _, _, hr => by
  simp only[R] at hr ⊢;obtain⟨a,cap,h1,h2,h3,h4⟩:=hr;have h4' : vQ E.nl k l.length a cap t:=h4;refine⟨a,cap,h1,h2,?_,(h4'.mono h:vQ E'.nl k l.length a cap t)⟩
  rcases h3 with h3 | ⟨b,o,h3,h5⟩
  .exact .inl h3
  .exact .inr ⟨b,o,h3,gm.mono l h h5⟩
 | .agg cs, _, _, h, hn, _, hr => by
  simp only[R] at hr ⊢;simp only[V.cM] at hn;obtain⟨vs,h1,h2⟩:=hr;exact⟨vs,h1,RL.p_ cs h hn h2⟩
 | .bz cs, _, _, h, hn, _, hr => by
  simp only[R] at hr ⊢;simp only[V.cM] at hn;obtain⟨vs,h1,h2⟩:=hr;exact⟨vs,h1,RL.p_ cs h hn h2⟩
 | .fn _ first cap, _, _, h, hn, _, hr => by
  simp only[R] at hr ⊢;simp only[V.cM,b_] at hn;obtain⟨fs,cs,h1,h2,h3⟩:=hr;exact⟨fs,cs,h1,RL.p_ first h hn.1 h2,RL.p_ cap h hn.2 h3⟩
 | .raw _,_,_,_,_,_,hr=>by simp only[R] at hr ⊢;exact hr
def RL.p_:∀(l:List V) {E E' : Env} (_:E.nl.le E'.nl) (_:bS l=aa) {vs:List Value},RL E l vs->RL E' l vs
 | [],_,_,_,_,[],_=>by simp only[RL]
 | [],_,_,_,_,_::_,hr=>by simp only[RL] at hr
 | _::_,_,_,_,_,[],hr=>by simp only[RL] at hr
 | x :: xs, _, _, h, hn, v :: vs, hr => by
  simp only[RL] at hr ⊢;simp only[bS,b_] at hn;exact⟨R.p_ x h hn.1 hr.1,RL.p_ xs h hn.2 hr.2⟩
end
def Hk(hb:E.w.heap[b]?=U (.cells c e (0,0)))(hr:(∃i,E.bj b = .jb i)\/E.bj b = .qS)(dd:new.size=c.size):
 Fr E {E with w:=E.w.setRow b new}:=by
 refine⟨rfl,rfl,rfl,by simp,EF hb,?_,?_,?_,λ_ _ h=>.inl h,λ_ _ c _ h=>⟨c,h⟩,λ_ i _ h=>⟨i,h⟩,λb' c' e' hc=>?_⟩
 .intro b' o v hc hv;have bh:b' ≠ b:=by
   rintro rfl
   rcases hr with ⟨i,hi⟩ | hi<;>rw[hi] at hc<;>exact hc.elim
  exact⟨hc,by rw[cell_setRow_other E.w b new ⟨b',o,ah⟩ bh];exact hv⟩
 .intro t n hn;refine⟨n,hn,b7 _,λ_ b' k hk=>⟨hk,λcs e' b9=>?_⟩⟩;have bh:b' ≠ b:=by
   rintro rfl
   rcases hr with ⟨i,hi⟩ | hi<;>rw[hi] at hk<;>simp at hk
  exact⟨cs,by simp only[setRow_other E.w b b' new bh];exact b9,rfl⟩
 .intro b' _ hk;have bh:b' ≠ b:=by
   rintro rfl
   rcases hr with ⟨i,hi⟩ | hi<;>rw[hi] at hk<;>simp at hk
  exact⟨setRow_other E.w b b' new bh,rfl⟩
 .by_cases cU:b' = b
  .subst cU;rw[hb] at hc;simp only[bg,Obj.cells.injEq] at hc;obtain⟨rfl,rfl,_⟩:=hc;exact⟨new,setRow_heap E.w b' c new e _ hb,dd⟩
  .exact⟨c',(setRow_other E.w b b' new cU).trans hc,rfl⟩
def ab.eY(Z:ab)(b:Nat)(cs:List V):(Z.set b cs).box b=U cs:=by simp[ab.set]
def ab.e9(Z:ab){x:Nat}(cs:List V)(h:x≠b):(Z.set b cs).box x=Z.box x:=by simp[ab.set,h]
section
variable {P:Program} {E:Env} {st:St} {a:Act} {o:Oper} {K:V->St->Prop} {Q:Exit->Act->World->Prop}
variable{off:Nat}
def XP(gg:0<n)(hn:eT P t=U n)(hb:E.w.heap[b]?=U (.cells c e (0,0)))(hlen:cs.length<=c.size)
 {ay:V} {v:Value} (hy:R E ay v) (hh:cB n (cs.drop off)=aa) (wB:ay.wd=U n) (fG:c8 ay.cells=aa) :
 ∃vs:List Value,RL E ay.cells vs/\off+ay.cells.length<=cs.length /\
  (storeVar t ⟨b,off,ah⟩ v).run P E.w = .ok () (E.w.setRow b (c.toList.take off++vs++c.toList.drop (off+vs.length)).toArray) /\
  (E.w.setRow b (c.toList.take off++vs++c.toList.drop (off+vs.length)).toArray).heap[b]?=U (.cells (c.toList.take off++vs++c.toList.drop (off+vs.length)).toArray e (0,0)):=by
 obtain⟨tF,dd⟩:=yK hy wB;have hl:=gb tF;have hle:=Lw hh;simp at hle hl;have b9:off+n<=cs.length:=by omega
 refine⟨v.cells.toList,tF,by omega,?_,setRow_heap E.w b c _ e _ hb⟩
 have:=OM (P:=P) (off:=off) hn hb dd (by omega) (zG tF fG)
 rw[this];simp[dd]
def I2{v:Value}(h:(storeVar t ⟨b,off,ah⟩ v).run P w = .ok () w'):
 (Instr.storeAt t (.pointer (U ⟨b,off,ah⟩)) v).run P w = .ok () w' := by
 simp[Instr.storeAt,Instr.sureAddr,h]
variable{y:Operand}
def Yq(hs:bQ E st a){ax ay:V}(gg:0<n)(ho:o.op = .store t x y)(hn:eT P t=U n)(hx:R E ax (a.eval x))(hy:R E ay (a.eval y))
 {aU : St} (h:dU st n ay ax=U aU) (hk:K .any aU):o.wp P a E.w (eC E a o.dst K) Q:=by
 cases ax with
 | ptr p off =>
  cases p with
  | kS b=>simp[dU] at h
  | au i =>
   simp only[dU,iK] at h;obtain⟨cs,h1,h2⟩:=h;split at h2
   case isFalse=>simp at h2
   rename_i hc;obtain⟨hh,wB,fG⟩:=hc;simp only[bg] at h2;subst h2;simp only[R] at hx;obtain⟨b,hb,hx⟩:=hx;obtain⟨b',h3,dX,c,e,fk,hlen,pO⟩:=hs.du.box i cs h1;rw[hb] at h3;simp only[bg] at h3;subst h3;obtain⟨vs,tF,xO,dx,h_⟩:=XP (P:=P) (t:=t) gg hn fk hlen hy hh wB fG;have bw:=Hk (E:=E) (new:=(c.toList.take off++vs++c.toList.drop (off+vs.length)).toArray) fk (.inl ⟨i,dX⟩) (by have:=gb tF;simp;omega);have hle:=bw.le λ_ _ h=>h
   have pN:=G1 (E' := {E with w:=E.w.setRow b (c.toList.take off++vs++c.toList.drop (off+vs.length)).toArray}) hlen
    (λj x hj=>let ⟨u,h1,h2⟩:=pO j x hj;⟨u,h1,h2.mono _ hle⟩) (RL.mono _ hle tF) xO h_
   generalize (c.toList.take off++vs++c.toList.drop (off+vs.length)).toArray=new at dx h_ bw hle pN;have iX : ∀b',b' ≠ b->(E.w.setRow b new).heap[b']?=E.w.heap[b']?:=λb' bh=>setRow_other E.w b b' new bh
   unfold Oper.wp;rw[show(execOp a.eval o).run P E.w = .ok .skip (E.w.setRow b new) from by simp[execOp,ho,hx,I2 dx]];refine⟨{E with w:=E.w.setRow b new},.any,undef,⟨st.t,st.au.set i (setAt cs off ay.cells),st.out⟩,rfl,bw,⟨?_,⟨?_,?_⟩,hs.defers,RL.mono _ hle hs.slot⟩,by simp[R],rfl,hk⟩
   .exact Dy hs.ok bw.nl (λb' hr _=>⟨hr,iX b' (by rintro rfl;rw[dX] at hr;simp at hr)⟩) (λ_ _ h=>h) (λb' cn => hs.ok.fresh b' (by simpa using cn)) hs.ok.nt
   .intro j ds hj
    by_cases fV:j=i
    .subst fV;have an:j<st.au.length:=(fw.1 h1).1;simp only[Qb an,bg] at hj;subst hj;exact⟨b,hb,dX,pN⟩
    .simp only[D_ (fL fV)] at hj;obtain⟨b',k1,k2,k3⟩:=hs.du.box j ds hj;exact⟨b',k1,k2,k3.mono hle (iX b' (by rintro rfl;rw[dX] at k2;simp at k2;exact fV k2.symm))⟩
   .intro j hj;exact hs.du.none j (by simpa using hj)
  | out b =>
   simp only[dU,iK] at h;obtain⟨cs,h1,h2⟩:=h;split at h2
   case isFalse=>simp at h2
   rename_i hc;obtain⟨hh,wB,fG,pS⟩:=hc;simp only[bg] at h2;subst h2;simp only[R] at hx;obtain⟨dX,c,e,fk,hlen,pO⟩:=hs.ok.box b cs h1;have HA : E.w.heap[b]?=U (.cells c e (0,0)):=fk;obtain⟨vs,tF,xO,dx,h_⟩:=XP (P:=P) (t:=t) gg hn HA hlen hy hh wB fG;have bw:=Hk (E:=E) (new:=(c.toList.take off++vs++c.toList.drop (off+vs.length)).toArray) HA (.inr dX) (by have:=gb tF;simp;omega);have hle:=bw.le λ_ _ h=>h
   have pN:=G1 (E' := Env.nl {E with w:=E.w.setRow b (c.toList.take off++vs++c.toList.drop (off+vs.length)).toArray}) hlen
    (λj x hj=>let ⟨u,h1,h2⟩:=pO j x hj;⟨u,h1,h2.mono _ bw.nl⟩) (RL.mono _ bw.nl (RL.p_ (E:=E) (E' := E.nl) _ (Env.le.refl E.nl) pS tF)) xO h_
   generalize (c.toList.take off++vs++c.toList.drop (off+vs.length)).toArray=new at dx h_ bw hle pN;have iX : ∀b',b' ≠ b->(E.w.setRow b new).heap[b']?=E.w.heap[b']?:=λb' bh=>setRow_other E.w b b' new bh
   unfold Oper.wp;rw[show(execOp a.eval o).run P E.w = .ok .skip (E.w.setRow b new) from by simp[execOp,ho,hx,I2 dx]];refine⟨{E with w:=E.w.setRow b new},.any,undef,⟨st.t,st.au,st.out.set b (setAt cs off ay.cells)⟩,rfl,bw,⟨⟨?_,hs.ok.aY,λb' cn => hs.ok.fresh b' (by simpa using cn),hs.ok.nt,λb cs hc=>eW.mono _ bw.nl (hs.ok.cQ b cs hc)⟩,
    qT hs.du hle (λb' i hr _=>⟨hr,iX b' (by rintro rfl;rw[dX] at hr;simp at hr)⟩) hs.du.none,hs.defers,RL.mono _ hle hs.slot⟩,by simp[R],rfl,hk⟩
   intro b' ds lB
   by_cases cU:b' = b
   .subst cU;rw[ab.eY] at lB;simp only[bg] at lB;subst lB;exact⟨dX,pN⟩
   .rw[ab.e9 _ _ cU] at lB;obtain⟨k1,k2⟩:=hs.ok.box b' ds lB;exact⟨k1,k2.mono bw.nl (iX b' cU)⟩
 | _=>simp[dU] at h
end
def fz.ma:fz->fz
 | .jb _=>.mK
 | r=>r
def fz.TE(r:fz)(o:Nat):r.ma.iM o↔r.iM o:=by cases r<;>simp[fz.ma,fz.iM]
def Env.call(E:Env):Env:={w:=E.w,bj:=λb=>(E.bj b).ma,au:=λ_=>ah,aY:=E.aY}
def fz.back:fz->fz->fz
 | .jb i,_=>.jb i
 | _,r=>r
def Env.back(E E' : Env):Env:={w:=E'.w,bj:=λb=>(E.bj b).back (E'.bj b),au:=E.au,aY:=E'.aY}
def Ki(E:Env):E.nl.le E.call.nl :=
 ⟨λb o c hc hv=>⟨(fz.TE _ _).2 hc,hv⟩,λ_ _ h=>by simp at h,λt n hn=>⟨n,hn,b7 _,λ_ b c hb=>⟨by
  show(E.bj b).ma=_;have cn : E.bj b = .gR t c:=hb;rw[cn];rfl,λcs _ hc=>⟨cs,hc,rfl⟩⟩⟩⟩
def aa0(h:E.ok Z):E.call.ok Z:=by
 refine⟨λb cs b9=>?_,h.aY,λb hb=>?_,h.nt,λb cs hc=>eW.mono _ (Ki E) (h.cQ b cs hc)⟩
 .obtain⟨h1,h2⟩:=h.box b cs b9;exact⟨by show(E.bj b).ma=_;rw[h1];rfl,h2.mono (Ki E) rfl⟩
 .show(E.bj b).ma=_;rw[h.fresh b hb];rfl
section
variable {E E' : Env} (hf:∀b,E.w.heap.size<=b->E.bj b = .const) (h:Fr E.call E')
variable{i:Nat}
include hf h in
theorem GW(hb:E.bj b = .jb i):b<E.w.heap.size/\E'.bj b = .mK/\E'.w.heap[b]?=E.w.heap[b]?:=by
 have an:b<E.w.heap.size:=by
  rcases xb b E.w.heap.size with h | h
  .exact h
  .rw[hf b h] at hb;simp at hb
 have hr:E.call.bj b = .mK:=by show(E.bj b).ma=_;rw[hb];rfl
 obtain⟨h1,h2⟩:=h.same b an (.inr hr);exact⟨an,h2.trans hr,h1⟩
include hf h in
theorem QT(b o:Nat):((E.back E').bj b).iM o↔(E'.bj b).iM o:=by
 show(((E.bj b).back (E'.bj b)).iM o↔_);cases hb:E.bj b with
 | jb i =>
  obtain⟨_,h2,_⟩:=GW hf h hb;simp[fz.back,h2,fz.iM]
 | _=>simp[fz.back]
include hf h in
theorem QU{t c:Nat}(hb:E'.bj b = .gR t c):(E.back E').bj b = .gR t c:=by
 show(E.bj b).back (E'.bj b)=_;cases hr:E.bj b with
 | jb i =>
  obtain⟨_,h2,_⟩:=GW hf h hr;rw[hb] at h2;simp at h2
 | _=>simp[fz.back,hb]
include hf h in
theorem Z8(hb:E'.bj b = .qS):(E.back E').bj b = .qS:=by
 show(E.bj b).back (E'.bj b)=_;cases hr:E.bj b with
 | jb i =>
  obtain⟨_,h2,_⟩:=GW hf h hr;rw[hb] at h2;simp at h2
 | _=>simp[fz.back,hb]
include hf h in
theorem Z7:E'.nl.le (E.back E').nl :=
 ⟨λb o _ hc hv=>⟨(QT hf h b o).2 hc,hv⟩,λ_ _ h=>by simp at h,λ_ n hn=>⟨n,hn,b7 _,λ_ _ _ hb=>⟨QU hf h hb,λcs _ hc=>⟨cs,hc,rfl⟩⟩⟩⟩
include hf h in
theorem Z6:Fr E (E.back E'):=by
 refine⟨h.os,h.output,h.tape,h.size,h.hH,?_,?_,?_,?_,?_,?_,h.shape⟩
 .intro b o c hc hv;obtain⟨h1,h2⟩:=h.cell b o c ((fz.TE _ _).2 hc) hv;exact⟨(QT hf h b o).2 h1,h2⟩
 .intro t n hn;obtain⟨n',h1,h2,h3⟩:=h.tok t n hn;refine⟨n',h1,h2,λhe b c hb=>?_⟩;obtain⟨h4,h5⟩:=h3 he b c (by show(E.bj b).ma=_;rw[hb];rfl);exact⟨QU hf h h4,h5⟩
 .intro b hb hr;have bh:(E.bj b).ma=E.bj b:=by rcases hr with hr | hr<;>rw[hr]<;>rfl
  obtain⟨h1,h2⟩:=h.same b hb (by show(E.bj b).ma=_\/(E.bj b).ma=_;rw[bh];exact hr);refine⟨h1,?_⟩;show(E.bj b).back (E'.bj b)=_;have xA : E'.bj b=(E.bj b).ma:=h2;rw[xA,bh]
  rcases hr with hr | hr<;>rw[hr]<;>rfl
 .intro b hb hr;have cL : (E.bj b).back (E'.bj b) = .qS:=hr;cases hq:E.bj b with
  | jb i=>rw[hq] at cL;simp[fz.back] at cL
  | qS=>exact .inl rfl
  | _ =>
   rw[hq] at cL;simp only[fz.back] at cL
   rcases h.El b hb cL with h' | ⟨j,h'⟩
   .have h' : (E.bj b).ma = .qS:=h';rw[hq] at h';simp[fz.ma] at h'
   .have h' : (E.bj b).ma = .jb j:=h';rw[hq] at h';simp[fz.ma] at h'
 .intro b t c hb hr;have cL : (E.bj b).back (E'.bj b) = .gR t c:=hr;cases hq:E.bj b with
  | jb i=>rw[hq] at cL;simp[fz.back] at cL
  | _ =>
   rw[hq] at cL;simp only[fz.back] at cL;obtain⟨c0,this⟩:=h.Em b t c hb cL;have h' : (E.bj b).ma = .gR t c0:=this;rw[hq] at h'
   first | (simp[fz.ma] at h';done) | exact⟨c0,h'⟩
 .intro b i hb hr;have cL : (E.bj b).back (E'.bj b) = .jb i:=hr;cases hq:E.bj b with
  | jb j=>exact⟨j,rfl⟩
  | _ =>
   rw[hq] at cL;simp only[fz.back] at cL;obtain⟨c0,this⟩:=h.Cm b i hb cL;have h' : (E.bj b).ma = .jb c0:=this;rw[hq] at h';simp[fz.ma] at h'
end
section
variable {P:Program} {E:Env} {st:St} {a:Act} {o:Oper} {K:V->St->Prop} {Q:Exit->Act->World->Prop}
def aaZ(hs:bQ E st a){xs:List V}{vs:Array Value}(hx:RL E xs vs.toList)(hn:bS xs=aa)(hc:cF P f xs st.out λv Z=>K v ⟨st.t,st.au,Z⟩):
 Calls P f vs E.w λe w' => ∃E' v x aU,e = .returned x/\E'.w=w' /\ Fr E E' /\ bQ E' aU a/\R E' v x/\K v aU := by
 have hf:=hs.ok.fresh;refine(hc.2 E.call vs (λ_=>rfl) (aa0 hs.ok) (RL.p_ _ (Ki E) hn hx)).mono ?_;rintro e w' ⟨v,x,E',σ',rfl,rfl,L5,cc,hr,bw,hk⟩;have zf := Z6 hf bw;have hle:E.le (E.back E'):=zf.le λ_ _ h=>h
 have LB:=Z7 hf bw;refine⟨E.back E',v,x,⟨st.t,st.au,σ'⟩,rfl,rfl,zf,⟨⟨?_,cc.aY,?_,cc.nt,λb cs hc=>eW.mono _ LB (cc.cQ b cs hc)⟩,?_,hs.defers,RL.mono _ hle hs.slot⟩,?_,hk⟩
 .intro b cs b9;obtain⟨h1,h2⟩:=cc.box b cs b9;exact⟨Z8 hf bw h1,h2.mono LB rfl⟩
 .intro b hb;have cn : E'.w.heap.size<=b:=hb;show(E.bj b).back (E'.bj b)=_;rw[hf b (vK bw.size cn)];exact cc.fresh b cn
 .refine qT hs.du hle (λb i cL an=>?_) hs.du.none;obtain⟨_,_,h3⟩:=GW hf bw cL;exact⟨by show(E.bj b).back (E'.bj b)=_;rw[cL];rfl,h3⟩
 .have h1:E'.nl.le (E.back E').nl:=LB;have h2:E'.le (E.back E'):=⟨h1.cell,λi b hb=>by rw[L5 i] at hb;simp at hb,h1.tok⟩;exact hr.mono _ h2
def Yk(hs:bQ E st a){xs:List V}{vs:Array Value}(hx:RL E xs vs.toList)(hn:bS xs=aa)(hc:cF P f xs st.out λv Z=>K v ⟨st.t,st.au,Z⟩)
 (hr:(execOp a.eval o).run P E.w=(callFunc f vs).run P E.w):o.wp P a E.w (eC E a o.dst K) Q:=by
 unfold Oper.wp;rw[hr,hc.1];simp only[Oper.upon_enter];refine(aaZ hs hx hn hc).mono ?_;rintro e w' ⟨E',v,x,aU,rfl,rfl,h1,h2,h3,h4⟩;exact⟨E',v,x,aU,rfl,h1,h2,h3,rfl,h4⟩
end
def yI{E:Env}:∀{xs ys:List V} {b o:Nat},eW E (xs++ys) b o↔eW E xs b o/\eW E ys b (o+xs.length)
 | [],ys,b,o=>by simp[eW]
 | x :: xs, ys, b, o => by
  simp only[jN,eW,yI (xs:=xs),da,J8];rw[show o+1+xs.length=o+(xs.length+1) from by omega]
def sh{E:Env}{k:Nat}:∀{l:List (List V)} {b o:Nat},gm E k l b o↔(∀x∈l,x.length=k)/\eW E l.flatten b o
 | [],b,o=>by simp[gm,eW]
 | x :: xs, b, o => by
  simp only[gm,mX,yI,sh (l:=xs),fh];constructor
  .rintro⟨h1,h2,h3,h4⟩;exact⟨⟨h1,h3⟩,h2,by rw[h1];exact h4⟩
  .rintro⟨⟨h1,h3⟩,h2,h4⟩;exact⟨h1,h2,h3,by rw[h1] at h4;exact h4⟩
def ni{k:Nat}:∀{l:List (List V)},(∀x∈l,x.length=k)->l.flatten.length=l.length*k
 | [],_=>by simp
 | x :: xs, h => by
  simp only[fh] at h;simp only[mX,bW,h.1,ni h.2,da,jh,xd];omega
def GI{E:Env}:∀{cs:List V} {b o:Nat},eW E cs b o->∃vs:List Value,RL E cs vs/\(∀(j:Nat) v,vs[j]?=U v->E.w.cell? ⟨b,o+j,ah⟩=U v) /\
 (∀v∈vs,v.oneCell' = aa)/\∀j,j<cs.length->(E.bj b).iM (o+j)
 | [],_,_,_=>⟨[],by simp[RL],λj v h=>by simp at h,λv hv=>by simp at hv,λj hj=>by simp at hj⟩
 | x :: xs, b, o, h => by
  simp only[eW] at h;obtain⟨⟨c,h1,h2,h3,h4⟩,h5⟩:=h;obtain⟨vs,k1,k2,k3,k4⟩:=GI h5;refine⟨c::vs,?_,λj v hv=>?_,λv hv=>?_,λj hj=>?_⟩
  .simp only[RL];exact⟨h4,k1⟩
  .cases j with
   | zero=>simp at hv;subst hv;exact h1
   | succ j=>simp at hv;rw[show o+(j+1)=o+1+j from by omega];exact k2 j v hv
  .rcases pz.1 hv with rfl | hv
   .exact h3
   .exact k3 v hv
  .cases j with
   | zero=>exact h2
   | succ j=>rw[show o+(j+1)=o+1+j from by omega];exact k4 j (by simpa using hj)
def Ce{E:Env}{b:Nat}:∀{cs:List V} {vs:List Value} {o:Nat},RL E cs vs->(∀v∈vs,v.oneCell' = aa)->(∀(j:Nat) v,vs[j]?=U v->E.w.cell? ⟨b,o+j,ah⟩=U v) ->
 (∀j,j<cs.length->(E.bj b).iM (o+j))->eW E cs b o
 | [],_,_,_,_,_,_=>by simp[eW]
 | _::_,[],_,h,_,_,_=>by simp[RL] at h
 | x :: xs, v :: vs, o, h, h1, h2, h3 => by
  simp only[RL] at h;simp only[eW];refine⟨⟨v,by simpa using h2 0 v (by simp),by simpa using h3 0 (by simp),h1 v (by simp),h.1⟩,Ce h.2 (λu hu=>h1 u (by simp[hu])) (λj u hu=>?_) (λj hj=>?_)⟩
  .rw[show o+1+j=o+(j+1) from by omega];exact h2 (j+1) u (by simpa using hu)
  .rw[show o+1+j=o+(j+1) from by omega];exact h3 (j+1) (by simpa using hj)
structure Src(P:Program)(w:World)(size m:Nat)(ty:TypeId)(x:Value)(news:List Value):Prop where
 ty:∃d,P.underlying ty=U d/\∀k,d≠.int k
 len:∀w',(Builtin.lenOf x).run P w' = .ok m w'
 cells:(Builtin.firstCells size m x).run P w = .ok news.toArray w
 pF : (Builtin.firstCells size m x).run P w.drew = .ok news.toArray w.drew
 size:news.length=m*size
section
variable {P:Program} {w:World} {t u ty e:TypeId} {i:TypeInfo} {z:Value}
variable{base:Option Addr}
def Xb(ht:P.underlying t=U (.slice e))(hi:P.info? e=U i)(hn:n<=cap){x:Value}(hx:Src P w i.size 0 u x []):
 (Builtin.append_ #[t,u] ty #[.slice base n cap,x]).run P w = .ok (.slice base n cap) w:=by
 obtain⟨d,hd,hk⟩:=hx.ty;cases base<;>simp[Builtin.append_,run_underlying ht,run_underlying hd,sizeOf,typeInfo,hi,hx.len,hn,hx.cells,storeCells]
def OK(ht:P.underlying t=U (.slice e))(hi:P.info? e=U i){g:Nat}{cur:Array Value}{e' : TypeId}(hg:w.heap[g]?=U (.cells cur e' (0,0)))
 {x:Value} {news:List Value} (hx:Src P w i.size m u x news) (h1:∀v∈news,v.oneCell' = aa) (pU:n+m<=cap) (pP:n*i.size+news.length<=cur.size) :
 (Builtin.append_ #[t,u] ty #[.slice (U ⟨g,0,ah⟩) n cap,x]).run P w =
  .ok (.slice (U ⟨g,0,ah⟩) (n+m) cap) (w.setRow g (cur.toList.take (n*i.size)++news++cur.toList.drop (n*i.size+news.length)).toArray):=by
 obtain⟨d,hd,hk⟩:=hx.ty;have fv:=run_storeCells_at (P:=P) g (n*i.size) e' news 0 cur w hg (by simpa using pP) h1;simp only[vJ] at fv;simp[Builtin.append_,run_underlying ht,run_underlying hd,sizeOf,typeInfo,hi,hx.len,pU,hx.cells,lS,fv]
def OJ(ht:P.underlying t=U (.slice e))(hi:P.info? e=U i)(hzv:i.zero=U z){iq:List Value}
 (ho:(Builtin.firstCells i.size n (.slice base n cap)).run P w.drew = .ok iq.toArray w.drew)
 {x:Value} {news:List Value} (hx:Src P w i.size m u x news) (hg:cap<n+m) (hb:(n+m)*i.bytes<=140737488355328) (hs:n+m<=9223372036854775807) :
 (Builtin.append_ #[t,u] ty #[.slice base n cap,x]).run P w =
  .ok (.slice (U ⟨w.heap.size,0,ah⟩) (n+m) (grownCap w (n+m) cap e))
   (w.drew.alloc (.cells (iq++(news++(Builtin.zeroCells z.cells (grownCap w (n+m) cap e - (n+m))).toList)).toArray e)):=by
 obtain⟨d,hd,hk⟩:=hx.ty;have hn:¬(n+m<=cap):=by omega
 have ajA : ¬(9223372036854775807<((n:Int)+(m:Int))):=by omega
 have pP:=growslice_fits (need:=n+m) (old:=cap) (bytes:=i.bytes) hg hb;have ajz : ¬(281474976710656<Builtin.nextslicecap (n+m) cap*i.bytes):=by omega
 have j_ : (Builtin.firstCells i.size m x).run P w.drew = .ok news.toArray w.drew:=hx.pF;simp[Builtin.append_,run_underlying ht,run_underlying hd,sizeOf,typeInfo,zeroValue,hi,hzv,hx.len,hn,ajA,ajz,Question.forced,ho,j_,newRow,grownCap];congr 2;apply D4;simp
end
variable{u:TypeId}
def I9{e':TypeId}(hu:P.underlying u=U (.slice e')){t' : Tk}{m:List (List V)}{x:Value}(h:R E (.sl t' k m) x):
 ∃news,Src P E.w k m.length u x news/\RL E.nl m.flatten news/\(∀v∈news,v.oneCell' = aa)/\∀y∈m,y.length=k:=by
 simp only[R] at h;obtain⟨a,cap,rfl,_,h3,_⟩:=h;have T8:∃d,P.underlying u=U d/\∀k,d≠.int k:=⟨_,hu,λ_ h=>by simp at h⟩
 rcases h3 with rfl | ⟨b,o,rfl,hr⟩
 .refine⟨[],⟨T8,λw' => by simp[Builtin.lenOf],?_,?_,by simp⟩,by simp[RL],λv hv=>by simp at hv,λy hy=>by simp at hy⟩ <;>
   cases a<;>simp[Builtin.firstCells,loadCells,loadCellsFrom]
 .obtain⟨h1,h2⟩:=sh.1 hr;obtain⟨vs,k1,k2,k3,_⟩:=GI h2;have hl:=gb k1;rw[ni h1] at hl;have hc:∀(j:Nat) v,vs[j]?=U v->E.w.cell? ((⟨b,o,ah⟩:Addr).add j)=U v:=λj v hv=>by rw[lS];exact k2 j v hv
  refine⟨vs,⟨T8,λw' => by simp[Builtin.lenOf],?_,?_,hl.symm⟩,k1,k3,h1⟩
  .have:=run_loadCells_list (P:=P) E.w ⟨b,o,ah⟩ vs hc
   simp only[Builtin.firstCells];rw[hl];exact this
  .have:=run_loadCells_list (P:=P) E.w.drew ⟨b,o,ah⟩ vs hc
   simp only[Builtin.firstCells];rw[hl];exact this
variable{l:List (List V)}
def Vz(h3:l=[]\/∃b o,a=U ⟨b,o,ah⟩/\gm E.nl k l b o):
 ∃iq,(Builtin.firstCells k l.length (.slice a l.length cap)).run P E.w.drew = .ok iq.toArray E.w.drew/\RL E.nl l.flatten iq/\(∀v∈iq,v.oneCell' = aa)/\(∀y∈l,y.length=k)/\iq.length=l.length*k:=by
 rcases h3 with rfl | ⟨b,o,rfl,hr⟩
 .refine⟨[],?_,by simp[RL],λv hv=>by simp at hv,λy hy=>by simp at hy,by simp⟩;cases a<;>simp[Builtin.firstCells,loadCells,loadCellsFrom]
 .obtain⟨h1,h2⟩:=sh.1 hr;obtain⟨vs,k1,k2,k3,_⟩:=GI h2;have hl:=gb k1;rw[ni h1] at hl;have hc:∀(j:Nat) v,vs[j]?=U v->E.w.cell? ((⟨b,o,ah⟩:Addr).add j)=U v:=λj v hv=>by rw[lS];exact k2 j v hv
  refine⟨vs,?_,k1,k3,h1,hl.symm⟩
  have:=run_loadCells_list (P:=P) E.w.drew ⟨b,o,ah⟩ vs hc
  simp only[Builtin.firstCells];rw[hl];exact this
section
variable {P:Program} {E:Env} {st:St} {a:Act} {o:Oper} {K:V->St->Prop} {Q:Exit->Act->World->Prop}
def GJ{nb:Nat}{vs rest:List Value}{fr:Nat × Nat}(hl:∀y∈l,y.length=k)(hr:RL E'.nl l.flatten vs)(h1:∀v∈vs,v.oneCell' = aa)
 (hb:E'.w.heap[nb]?=U (.cells (vs++rest).toArray e fr)) (hc:∀j,j<l.length*k->(E'.bj nb).iM j):gm E'.nl k l nb 0:=by
 refine sh.2 ⟨hl,Ce hr h1 (λj v hv=>?_) (λj hj=>by rw[ni hl] at hj;simpa using hc j hj)⟩;have an:=(fw.1 hv).1;simp[World.cell?,hb,sc an,hv]
def Gk(hs:bQ E st a){ty:TypeId}{i:TypeInfo}{z:Value}(ht:P.underlying t=U (.slice e))(hi:P.info? e=U i)(hz:i.zero=U z)(jo:z.cells.size=i.size)
 (ny:i.bytes<=4096) {vs vx:Value} {tk:Tk} {l m:List (List V)}
 (dx:(execOp a.eval o).run P E.w=((Builtin.append_ #[t,u] ty #[vs,vx]).run P E.w).andThen λv w' => .ok (.value v) w')
 (bx:R E (.sl tk i.size l) vs) {news:List Value} (sM:Src P E.w i.size m.length u vx news) (tP:RL E.nl m.flatten news) (fG:∀v∈news,v.oneCell' = aa) (hm:∀y∈m,y.length=i.size)
 (iP:l.length+m.length<=aJ)
 (hk:match (generalizing:=false) tk with
   | .a9=>(∀D,st.out.aY D=ah->K (.sl (.tk D) i.size (l++m)) ⟨st.t,st.au,st.out.ba D (l.length+m.length)⟩)\/K (.sl .no i.size (l++m)) st
   | .tk D=>st.out.aY D=U l.length/\K (.sl (.tk D) i.size (l++m)) ⟨st.t,st.au,st.out.ba D (l.length+m.length)⟩
   | .no=>False):o.wp P a E.w (eC E a o.dst K) Q:=by
 simp only[R] at bx;obtain⟨base,cap,rfl,AV,l8,gv⟩:=bx;obtain⟨iq,hold,Lq,Lb,dT,hlen⟩:=Vz (P:=P) (cap:=cap) l8;have EO:(l.length+m.length)*i.bytes<=140737488355328:=by
  have:=GF iP ny
  simp only[aJ] at this;omega
 have Ff:l.length+m.length<=9223372036854775807:=by simp only[aJ] at iP;omega
 have cT:∀y∈l++m,y.length=i.size:=λy hy=>by
  rcases jv.1 hy with h | h
  .exact dT y h
  .exact hm y h
 have Lp:RL E.nl (l++m).flatten (iq++news):=by rw[vD];exact vO Lq tP
 have S6:∀v∈iq++news,v.oneCell' = true:=λv hv=>by
  rcases jv.1 hv with h | h
  .exact Lb v h
  .exact fG v h
 have tN:=sM.size
 -- the ways on which the row is laid anew
 have grow:cap<l.length+m.length->(execOp a.eval o).run P E.w = .ok (.value (.slice (U ⟨E.w.heap.size,0,ah⟩) (l.length+m.length) (grownCap E.w (l.length+m.length) cap e)))
  (E.w.drew.alloc (.cells (iq++(news++(Builtin.zeroCells z.cells (grownCap E.w (l.length+m.length) cap e - (l.length+m.length))).toList)).toArray e)):=λan=>by
  rw[dx,OJ (P:=P) ht hi hz hold sM an EO Ff];rfl
 have idle:m=[]->(execOp a.eval o).run P E.w = .ok (.value (.slice base l.length cap)) E.w:=λh0=>by
  subst h0
  have:news=[]:=sb (by simpa using tN)
  subst this;rw[dx,Xb (P:=P) ht hi AV sM];rfl
 have wm:=grownCap_ge E.w (l.length+m.length) cap e;have size:cap<l.length+m.length->(iq++(news++(Builtin.zeroCells z.cells (grownCap E.w (l.length+m.length) cap e - (l.length+m.length))).toList)).toArray.size=grownCap E.w (l.length+m.length) cap e*i.size:=λ_=>by
  simp only[Qk,bW,B0,size_zeroCells,jo,hlen,tN];rw[<-yH,<-jh,<-jh];congr 1;omega
 generalize grownCap E.w (l.length+m.length) cap e=nc at grow wm size;generalize xP:(Builtin.zeroCells z.cells (nc - (l.length+m.length))).toList=rest at grow size;have ajI:iq++(news++rest)=(iq++news)++rest:=by simp
 rw[ajI] at grow size
 -- the row laid anew,as the last of its line
 have S4:∀D,(E.aY D=ah\/E.aY D=U l.length)->cap<l.length+m.length->0<m.length->K (.sl (.tk D) i.size (l++m)) ⟨st.t,st.au,st.out.ba D (l.length+m.length)⟩ ->
  o.wp P a E.w (eC E a o.dst K) Q:=λD a_ an gg hK=>by
  let E' : Env:={w:=E.w.drew.alloc (.cells ((iq++news)++rest).toArray e),bj:=λb=>if b=E.w.heap.size then .gR D ((l.length+m.length)*i.size) else match E.bj b with | .gR t c=>if t=D then .const else .gR t c | r=>r,au:=E.au,aY:=λt=>if t=D then U (l.length+m.length) else E.aY t}
  have hx:Ext E.w E'.w:=((Ext.refl _).drew).alloc _ _;have h_:∀b,b<E.w.heap.size->E'.bj b=match E.bj b with | .gR t c=>if t=D then .const else .gR t c | r=>r:=λb hb=>by
   simp only[E'];rw[aw (by omega)]
  have Mr:E'.w.heap.size=E.w.heap.size+1:=by simp[E']
  have L4:∀b,b<E.w.heap.size->∀t c,E'.bj b = .gR t c->E.bj b = .gR t c:=λb hb t c h=>by
   rw[h_ b hb] at h;cases hq:E.bj b<;>rw[hq] at h<;>simp at h;split at h<;>simp at h;obtain⟨rfl,rfl⟩:=h;rfl
  have bw:Fr E E' := by
   refine⟨rfl,rfl,rfl,hx.size,hx.hH,?_,?_,?_,?_,?_,?_,λb c e hb=>⟨c,(hx.block b (lb hb)).trans hb,rfl⟩⟩
   .intro b o' c hc hv;have hb:=U5 hv;refine⟨?_,by rw[Cq (hx.block b hb)];exact hv⟩;rw[h_ b hb];cases hq:E.bj b<;>rw[hq] at hc<;>simp only[]
    all_goals first | exact hc | (split<;>first | trivial | exact hc)
   .intro t n hn
    by_cases sN:t=D
    .subst sN;have HR : n=l.length:=by rcases a_ with h | h<;>rw[h] at hn<;>simp at hn;exact hn.symm
     exact⟨l.length+m.length,by simp[E'],by omega,λh=>by omega⟩
    .refine⟨n,by simp only[E'];rw[aw sN];exact hn,b7 _,λ_ b c hb=>?_⟩;have mc : b<E.w.heap.size:=by
      rcases xb b E.w.heap.size with h | h
      .exact h
      .rw[hs.ok.fresh b h] at hb;simp at hb
     refine⟨by rw[h_ b mc,hb];simp[sN],λcs CA b9=>⟨cs,by rw[hx.block b mc];exact b9,rfl⟩⟩
   .intro b hb hr;refine⟨hx.block b hb,?_⟩;rw[h_ b hb]
    rcases hr with hr | hr<;>rw[hr]
   .intro b hb h;rw[h_ b hb] at h;cases hq:E.bj b<;>rw[hq] at h<;>first | exact .inl rfl | (simp at h;done) | (simp only[] at h;split at h<;>simp at h)
   .intro b t c hb h;exact⟨c,L4 b hb t c h⟩
   .intro b i' hb h;rw[h_ b hb] at h;cases hq:E.bj b<;>rw[hq] at h<;>try (simp at h;done)
    .exact⟨_,rfl⟩
    .simp only[] at h;split at h<;>simp at h
  have hle:E.le E' := bw.le λ_ _ h=>h
  unfold Oper.wp;rw[grow an];refine⟨E',_,_,⟨st.t,st.au,st.out.ba D (l.length+m.length)⟩,rfl,bw,⟨⟨?_,?_,?_,?_,λb cs hc=>eW.mono _ bw.nl (hs.ok.cQ b cs hc)⟩,?_,hs.defers,RL.mono _ hle hs.slot⟩,?_,rfl,hK⟩
  .intro b cs b9;obtain⟨k1,k2⟩:=hs.ok.box b cs b9;have mc : b<E.w.heap.size:=by obtain⟨c,e,h3,_⟩:=k2;exact lb (w:=E.w) h3
   exact⟨by rw[h_ b mc,k1],k2.mono bw.nl (hx.block b mc)⟩
  .intro t n lD;simp only[ab.ba] at lD;simp only[E'];split at lD
   .rename_i h;rw[aI h];exact lD
   .rename_i h;rw[aw h];exact hs.ok.aY t n lD
  .intro b hb;rw[Mr] at hb;simp only[E'];rw[aw (by omega),hs.ok.fresh b (by omega)]
  .obtain⟨N,hN⟩:=hs.ok.nt;exact⟨max N (D+1),λt C_ => by simp only[E'];rw[aw (by omega)];exact hN t (by omega)⟩
  .exact qT hs.du hle (λb i' hr mc => ⟨by rw[h_ b mc,hr],hx.block b mc⟩) hs.du.none
  .have tO:E'.w.heap[E.w.heap.size]?=U (.cells ((iq++news)++rest).toArray e (0,0)):=heap_alloc_new E.w.drew _;have fH:E'.bj E.w.heap.size = .gR D ((l.length+m.length)*i.size):=by simp[E']
   simp only[R,bW];refine⟨U ⟨E.w.heap.size,0,ah⟩,nc,rfl,wm,.inr ⟨_,_,rfl,GJ cT (RL.mono _ bw.nl Lp) S6 tO (λj hj=>by rw[fH];simpa [fz.iM] using hj)⟩,l.length+m.length,by simp[E'],b7 _,λ_=>.inr ⟨_,_,_,rfl,fH,tO,size an⟩⟩
 -- the state where only a tip is new
 have XZ:∀D,(E.aY D=ah\/E.aY D=U l.length)->m=[]->cap=l.length\/E.aY D=U l.length->K (.sl (.tk D) i.size (l++m)) ⟨st.t,st.au,st.out.ba D (l.length+m.length)⟩ ->
  vQ {E with aY:=λt=>if t=D then U l.length else E.aY t} i.size l.length base cap (.tk D)->o.wp P a E.w (eC E a o.dst K) Q:=λD a_ rF _ hK cc=>by
  let E' : Env:={E with aY:=λt=>if t=D then U l.length else E.aY t}
  have bw:Fr E E' := y5 (E' := E') hs.ok.fresh (Ext.refl _) (λ_ _=>rfl) (λt n hn=>by
   simp only[E'];split
   .rename_i h;subst h;rcases a_ with h | h<;>rw[h] at hn<;>simp at hn;rw[hn]
   .exact hn)
  have hle:E.le E' := bw.le λ_ _ h=>h
  unfold Oper.wp;rw[idle rF];refine⟨E',_,_,⟨st.t,st.au,st.out.ba D (l.length+m.length)⟩,rfl,bw,⟨⟨?_,?_,hs.ok.fresh,?_,λb cs hc=>eW.mono _ bw.nl (hs.ok.cQ b cs hc)⟩,?_,hs.defers,RL.mono _ hle hs.slot⟩,?_,rfl,hK⟩
  .intro b cs b9;obtain⟨k1,k2⟩:=hs.ok.box b cs b9;exact⟨k1,k2.mono bw.nl rfl⟩
  .intro t n lD;subst rF;simp only[ab.ba,cZ,vJ] at lD;simp only[E'];split at lD
   .rename_i h;rw[aI h];exact lD
   .rename_i h;rw[aw h];exact hs.ok.aY t n lD
  .obtain⟨N,hN⟩:=hs.ok.nt;exact⟨max N (D+1),λt C_ => by simp only[E'];rw[aw (by omega)];exact hN t (by omega)⟩
  .exact qT hs.du hle (λb i' hr mc => ⟨hr,rfl⟩) hs.du.none
  .subst rF;simp only[R,eM];refine⟨base,cap,rfl,AV,?_,cc⟩
   rcases l8 with h | ⟨b,o',h,hr⟩
   .exact .inl h
   .exact .inr ⟨b,o',h,gm.mono _ bw.nl hr⟩
 cases tk with
 | no=>exact hk.elim
 | a9 =>
  simp only[vQ] at gv
  rcases hk with hk | hk
  .obtain⟨N,hN⟩:=hs.ok.nt;have LS:st.out.aY N=none:=by
    cases h:st.out.aY N with
    | none=>rfl
    | some n=>have:=hs.ok.aY N n h;rw[hN N (b7 _)] at this;simp at this
   have hK:=hk N LS
   rcases JW m.length with h0 | h0
   .have rF:=sb h0;exact XZ N (.inl (hN N (b7 _))) rF (.inl gv) hK ⟨l.length,by simp,b7 _,λ_=>.inl gv⟩
   .exact S4 N (.inl (hN N (b7 _))) (by omega) h0 hK
  .rcases JW m.length with h0 | h0
   .have rF:=sb h0;refine dv hs (idle rF) ?_ hk;subst rF;simp only[R,eM];exact⟨base,cap,rfl,AV,l8,trivial⟩
   .refine Ym hs (((Ext.refl _).drew).alloc _ _) (grow (by omega)) ?_ hk;have tO:(E.w.drew.alloc (.cells ((iq++news)++rest).toArray e)).heap[E.w.heap.size]?=U (.cells ((iq++news)++rest).toArray e (0,0)):=heap_alloc_new E.w.drew _;obtain⟨bw,_,_⟩:=F8 hs (((Ext.refl E.w).drew).alloc ((iq++news)++rest).toArray e);simp only[R,bW];exact⟨U ⟨E.w.heap.size,0,ah⟩,nc,rfl,wm,.inr ⟨_,_,rfl,GJ cT (RL.mono _ bw.nl Lp) S6 tO (λj _=>by rw[show({E with w:=E.w.drew.alloc (.cells ((iq++news)++rest).toArray e)}:Env).bj E.w.heap.size = .const from hs.ok.fresh _ (b7 _)];trivial)⟩,trivial⟩
 | tk D =>
  obtain⟨a_,hK⟩:=hk;have hE:=hs.ok.aY D _ a_;obtain⟨n',h1,_,h3⟩:=gv;rw[hE] at h1;simp only[bg] at h1;subst h1
  rcases JW m.length with h0 | h0
  .have rF:=sb h0;exact XZ D (.inr hE) rF (.inr hE) hK ⟨l.length,by simp,b7 _,h3⟩
  .rcases xb cap (l.length+m.length) with an | pU
   .exact S4 D (.inr hE) an h0 hK
   .rcases h3 rfl with hc | ⟨b,cs,e',rfl,dX,fk,dd⟩
    .omega
    .have pP:l.length*i.size+news.length<=cs.size:=by
      rw[tN,dd,<-jh];exact sd _ pU
     have jV:=OK (P:=P) (ty:=ty) ht hi fk sM fG pU pP;have wo:∀j:Nat,(cs.toList.take (l.length*i.size)++news++cs.toList.drop (l.length*i.size+news.length)).toArray[j]?=if j<l.length*i.size then cs[j]? else if j<l.length*i.size+news.length then news[j - l.length*i.size]? else cs[j]?:=λj=>by
      have:=F7 (c:=cs.toList) (vs:=news) (off:=l.length*i.size) (by simpa using pP) j
      simpa using this
     have tT:(cs.toList.take (l.length*i.size)++news++cs.toList.drop (l.length*i.size+news.length)).toArray.size=cs.size:=by
      simp;omega
     generalize (cs.toList.take (l.length*i.size)++news++cs.toList.drop (l.length*i.size+news.length)).toArray=new at jV wo tT;have ajL:l.length*i.size<=(l.length+m.length)*i.size:=sd _ (by omega)
     let E' : Env:={w:=E.w.setRow b new,bj:=λb' => if b' = b then .gR D ((l.length+m.length)*i.size) else E.bj b',au:=E.au,aY:=λt=>if t=D then U (l.length+m.length) else E.aY t}
     have iZ:∀b',b' ≠ b->E'.w.heap[b']?=E.w.heap[b']?:=λb' bh=>setRow_other E.w b b' new bh
     have mN:∀b',b' ≠ b->E'.bj b' = E.bj b' := λb' bh=>by simp only[E'];rw[aw bh]
     have cn : E'.w.heap[b]?=U (.cells new e' (0,0)):=setRow_heap E.w b cs new e' _ fk;have qK:E'.bj b = .gR D ((l.length+m.length)*i.size):=by simp[E']
     have bh:∀b' r,E.bj b' = r->(∀c,r≠.gR D c)->b' ≠ b:=λb' r h h' => by rintro rfl;rw[dX] at h;exact h' _ h.symm
     have bw:Fr E E' := by
      refine⟨rfl,rfl,rfl,by simp[E'],EF fk,?_,?_,?_,?_,?_,?_,λb' c' CA hc=>by
       by_cases cU:b' = b
       .subst cU;rw[fk] at hc;simp only[bg,Obj.cells.injEq] at hc;obtain⟨rfl,rfl,_⟩:=hc;exact⟨new,cn,tT⟩
       .exact⟨c',(iZ b' cU).trans hc,rfl⟩⟩
      .intro b' o' c hc hv
       by_cases cU:b' = b
       .subst cU;rw[dX] at hc;simp only[fz.iM] at hc;refine⟨by rw[qK];simp only[fz.iM];omega,?_⟩;simp only[World.cell?,fk] at hv;simp only[World.cell?,cn,wo,aI hc];exact hv
       .exact⟨by rw[mN b' cU];exact hc,by rw[Cq (iZ b' cU)];exact hv⟩
      .intro t n hn
       by_cases sN:t=D
       .subst sN;rw[hE] at hn;simp only[bg] at hn;exact⟨l.length+m.length,by simp[E'],by omega,λh=>by omega⟩
       .refine⟨n,by simp only[E'];rw[aw sN];exact hn,b7 _,λ_ b' c AT=>?_⟩;have cU:b' ≠ b:=bh b' _ AT (λc' h=>by simp at h;exact sN h.1);exact⟨by rw[mN b' cU];exact AT,λcs' CA b9=>⟨cs',by rw[iZ b' cU];exact b9,rfl⟩⟩
      .intro b' _ hr;have cU:b' ≠ b:=by rcases hr with hr | hr<;>exact bh b' _ hr (λc h=>by simp at h)
       exact⟨iZ b' cU,mN b' cU⟩
      .intro b' _ h;have cU:b' ≠ b:=by rintro rfl;rw[qK] at h;simp at h
       rw[mN b' cU] at h;exact .inl h
      .intro b' t c _ h
       by_cases cU:b' = b
       .subst cU;rw[qK] at h;simp at h;obtain⟨rfl,_⟩:=h;exact⟨_,dX⟩
       .rw[mN b' cU] at h;exact⟨c,h⟩
      .intro b' i' _ h;have cU:b' ≠ b:=by rintro rfl;rw[qK] at h;simp at h
       rw[mN b' cU] at h;exact⟨_,h⟩
     have hle:E.le E' := bw.le λ_ _ h=>h
     unfold Oper.wp;rw[dx,jV];refine⟨E',_,_,⟨st.t,st.au,st.out.ba D (l.length+m.length)⟩,rfl,bw,⟨⟨?_,?_,?_,?_,λb cs hc=>eW.mono _ bw.nl (hs.ok.cQ b cs hc)⟩,?_,hs.defers,RL.mono _ hle hs.slot⟩,?_,rfl,hK⟩
     .intro b' cs' b9;obtain⟨k1,k2⟩:=hs.ok.box b' cs' b9;have cU:b' ≠ b:=bh b' _ k1 (λc h=>by simp at h);exact⟨by rw[mN b' cU];exact k1,k2.mono bw.nl (iZ b' cU)⟩
     .intro t n lD;simp only[ab.ba] at lD;simp only[E'];split at lD
      .rename_i h;rw[aI h];exact lD
      .rename_i h;rw[aw h];exact hs.ok.aY t n lD
     .intro b' ry;have cU:b' ≠ b:=by
       rintro rfl
       have:=lb fk
       simp[E'] at ry;omega
      rw[mN b' cU];exact hs.ok.fresh b' (by simpa [E'] using ry)
     .obtain⟨N,hN⟩:=hs.ok.nt;exact⟨max N (D+1),λt C_ => by simp only[E'];rw[aw (by omega)];exact hN t (by omega)⟩
     .refine qT hs.du hle (λb' i' hr _=>?_) hs.du.none;have cU:b' ≠ b:=bh b' _ hr (λc h=>by simp at h);exact⟨by rw[mN b' cU];exact hr,iZ b' cU⟩
     .have avq:RL E'.nl (l++m).flatten (iq++news):=RL.mono _ bw.nl Lp
      -- the cells of the row,as they now are
      have Lo:gm E'.nl i.size (l++m) b 0:=by
       have EX:gm E.nl i.size l b 0:=by
        rcases l8 with h | ⟨b2,o2,h,hr⟩
        .subst h;simp[gm]
        .simp only[bg,Addr.mk.injEq] at h;obtain⟨rfl,rfl,_⟩:=h;exact hr
       refine sh.2 ⟨cT,?_⟩;rw[vD];refine yI.2 ⟨(sh.1 (gm.mono _ bw.nl EX)).2,Ce (RL.mono _ bw.nl tP) fG (λj v hv=>?_) (λj hj=>?_)⟩
       .have hj:=(fw.1 hv).1;rw[ni dT];simp only[Env.Vp,World.cell?,cn,wo];simp only[vL,dm,ch];rw[aw (show ¬(0+l.length*i.size+j<l.length*i.size) by omega),aI (show 0+l.length*i.size+j<l.length*i.size+news.length by omega)];rw[show 0+l.length*i.size+j - l.length*i.size=j from by omega];exact hv
       .rw[ni dT];rw[ni hm] at hj;simp only[Env.Vo,qK,fz.iM];rw[jh];omega
      simp only[R,bW];exact⟨U ⟨b,0,ah⟩,cap,rfl,pU,.inr ⟨b,0,rfl,Lo⟩,l.length+m.length,by simp[E'],b7 _,λ_=>.inr ⟨b,new,e',rfl,qK,cn,tT.trans dd⟩⟩
end
section
variable {P:Program} {E:Env} {st:St} {a:Act} {o:Oper} {K:V->St->Prop} {Q:Exit->Act->World->Prop}
def Yn(hs:bQ E st a)(ho:o.op = .move x\/o.op = .assign x)(hx:R E v (a.eval x))(hk:K v st):o.wp P a E.w (eC E a o.dst K) Q :=
 dv hs (by rcases ho with ho | ho<;>simp[execOp,ho]) hx hk
variable{vx vy:V}{y:Operand}
def auL(hs:bQ E st a){c:Operand}{vc:V}(ho:o.op = .pick c x y)(hc:R E vc (a.eval c))(hx:R E vx (a.eval x))(hy:R E vy (a.eval y))
 (hk:match (generalizing:=false) vc with | .bool aa=>K vx st | .bool aq=>K vy st | _=>False):o.wp P a E.w (eC E a o.dst K) Q:=by
 cases vc<;>try exact False.elim hk
 rename_i b;simp only[R] at hc;cases b
 .exact dv hs (by simp[execOp,ho,hc,asBool]) hy hk
 .exact dv hs (by simp[execOp,ho,hc,asBool]) hx hk
def aun(hs:bQ E st a)(ho:o.op = .alloc t)(hz:kh P t=U zs)(hk:K (.ptr (.au st.au.length) 0) ⟨st.t,st.au++[zs],st.out⟩):
 o.wp P a E.w (eC E a o.dst K) Q:=by
 obtain⟨i,z,h1,h2,h3,_⟩:=uq hz;refine Yo hs (c:=z.cells) (e:=t) ?_ (sr h3) hk;simp[execOp,ho,Instr.alloc,zeroValue,typeInfo,h1,h2,newVar,newRow]
def aur(hs:bQ E st a)(ho:o.op = .box t x)(hx:R E v (a.eval x))(hw:v.wd=U n)(hk:K (.ptr (.au st.au.length) 0) ⟨st.t,st.au++[v.cells],st.out⟩):
 o.wp P a E.w (eC E a o.dst K) Q:=by
 refine Yo hs (c:=(a.eval x).cells) (e:=t) ?_ (yK hx hw).1 hk;simp[execOp,ho,Instr.box,newVar,newRow]
def auJ(hs:bQ E st a)(ho:o.op = .nilCheck x)(hx:R E v (a.eval x))
 (hk:match (generalizing:=false) v with | .ptr p o=>K (.ptr p o) st | .elt c o=>K (.elt c o) st | .fn (.func f) a b=>K (.fn (.func f) a b) st | _=>False):o.wp P a E.w (eC E a o.dst K) Q:=by
 cases v<;>try exact False.elim hk
 case ptr p off =>
  refine dv hs (v:=.ptr p off) (x:=a.eval x) ?_ hx hk;cases p<;>simp only[R] at hx
  .obtain⟨b,_,h⟩:=hx;simp[execOp,ho,h]
  .simp[execOp,ho,hx]
  .simp[execOp,ho,hx]
 case elt c off =>
  refine dv hs (v:=.elt c off) (x:=a.eval x) ?_ hx hk;simp only[R] at hx;obtain⟨b,o',h,_⟩:=hx;simp[execOp,ho,h]
 case fn f as bs =>
  cases f<;>try exact False.elim hk
  rename_i f;refine dv hs (v:=.fn (.func f) as bs) (x:=a.eval x) ?_ hx hk;simp only[R] at hx;obtain⟨fs,cs,h,_⟩:=hx;simp[execOp,ho,h]
variable{t':TypeId}
def aup(hs:bQ E st a){op:BinOp}(ho:o.op = .binOp op t x y t')(hx:R E vx (a.eval x))(hy:R E vy (a.eval y))
 (hk:opt (vV op vx vy) (K2 K st)):o.wp P a E.w (eC E a o.dst K) Q:=by
 unfold opt K2 at hk;split at hk
 case h_2=>exact hk.elim
 rename_i v hv;unfold vV at hv;split at hv
 case h_2=>simp at hv
 rename_i k n k' m;split at hv
 case isFalse=>simp at hv
 rename_i ey;simp only[R] at hx hy
 by_cases HY:Bl op=aa
 .cases op<;>simp only[Bl,dm] at HY
  .simp only[ib] at hv;split at hv
   case isTrue=>simp at hv
   rename_i hm;simp only[bg] at hv;subst hv;refine dv hs (x:=.int k (k.wrap (n*2^(Nat.min m.toNat k.bits)))) ?_ (by simp only[R]) hk;simp only[execOp,ho,hx,hy];simp[eqGuard,binOp,Op.shift,hm]
  .simp only[ib] at hv;split at hv
   case isTrue=>simp at hv
   rename_i hm;simp only[bg] at hv;subst hv;refine dv hs (x:=.int k (n.fdiv (2^(Nat.min m.toNat k.bits)))) ?_ (by simp only[R]) hk;simp only[execOp,ho,hx,hy];simp[eqGuard,binOp,Op.shift,hm]
 have ey:=ey.resolve_right HY;obtain rfl:=H3 ey;cases op<;>simp only[ib,bg] at hv<;>try (simp at hv;done)
 case shl=>simp[Bl] at HY
 case shr=>simp[Bl] at HY
 case quo =>
  split at hv
  case isTrue=>simp at hv
  rename_i hm;simp only[bg] at hv;subst hv;refine dv hs (by simp only[execOp,ho,hx,hy];simp only[eqGuard,binOp,Op.intDiv];simp[hm];rfl) (by simp only[R];try rfl) hk
 case rem =>
  split at hv
  case isTrue=>simp at hv
  rename_i hm;simp only[bg] at hv;subst hv;refine dv hs (by simp only[execOp,ho,hx,hy];simp only[eqGuard,binOp,Op.intDiv];simp[hm];rfl) (by simp only[R];try rfl) hk
 case andNot =>
  subst hv;refine dv hs (x:=.int k (k.wrap ((BitVec.ofInt k.bits n&&&~~~BitVec.ofInt k.bits m).toNat:Nat))) ?_ (by simp only[R]) hk;simp only[execOp,ho,hx,hy];simp only[eqGuard,binOp,Op.intBits];simp
 all_goals
  subst hv;refine dv hs (by simp only[execOp,ho,hx,hy];simp only[eqGuard,binOp,Op.intArith,Op.intCmp,Op.intBits];simp;first | rfl | simp) (by simp only[R];try rfl) hk
def UY(x y:List UInt8):(x == y)=decide (x=y):=by
 rw[qp];simp
def auq(hs:bQ E st a){op:BinOp}(ho:o.op = .binOp op t x y t')(hx:R E vx (a.eval x))(hy:R E vy (a.eval y))
 (hk:opt (Av op vx vy) (K2 K st)):o.wp P a E.w (eC E a o.dst K) Q:=by
 unfold opt K2 at hk;split at hk
 case h_2=>exact hk.elim
 rename_i v hv;unfold Av at hv;split at hv
 case h_2=>simp at hv
 rename_i n m;simp only[R] at hx hy;cases op<;>simp only[yk,bg] at hv<;>try (simp at hv;done)
 all_goals
  subst hv;refine dv hs (by simp only[execOp,ho,hx,hy];simp only[eqGuard,binOp,Op.stringOp,ByteArray.toList_mk];simp[UY];rfl) (by simp[R]) hk
def auv(hs:bQ E st a)(ho:o.op = .binOp .add t x y t')(hx:R E vx (a.eval x))(hy:R E vy (a.eval y))
 (hk:∃m n,vx = .aH m/\vy = .aH n/\m.length+n.length<=aJ/\K (.aH (m++n)) st):o.wp P a E.w (eC E a o.dst K) Q:=by
 obtain⟨m,n,rfl,rfl,hb,hk⟩:=hk;simp only[R] at hx hy;have dd:¬(9223372036854775807<((m.length:Int)+(n.length:Int))):=by simp only[aJ] at hb;omega
 have e1:(⟨m.toArray⟩:ByteArray).size=m.length:=by simp[ByteArray.size]
 have e2:(⟨n.toArray⟩:ByteArray).size=n.length:=by simp[ByteArray.size]
 refine dv hs (v:=.aH (m++n)) (x:=.string ⟨(m++n).toArray⟩) ?_ (by simp only[R]) hk;simp only[execOp,ho,hx,hy];simp only[eqGuard,binOp,Op.stringOp,e1,e2];have e3:(⟨m.toArray⟩:ByteArray)++(⟨n.toArray⟩:ByteArray)=⟨(m++n).toArray⟩:=by
  apply ByteArray.ext;simp[ByteArray.data_append]
 simp[IntKind.max,IntKind.signed,IntKind.bits,dd,e3]
def Yi(hs:bQ E st a){neg:Bool}{op:BinOp}(uX:op=if neg then .neq else .eql)(ht:P.underlying t=U .bool)(ho:o.op = .binOp op t x y t')(hx:R E vx (a.eval x))(hy:R E vy (a.eval y))
 (hk:opt (yX neg vx vy) (K2 K st)):o.wp P a E.w (eC E a o.dst K) Q:=by
 unfold opt K2 at hk;split at hk
 case h_2=>exact hk.elim
 rename_i v hv;unfold yX at hv;split at hv
 case h_2=>simp at hv
 rename_i m n;simp only[R] at hx hy;simp only[bg] at hv;subst hv;subst uX;cases neg
 .refine dv hs (x:=.bool (decide (m=n))) ?_ (by simp[R]) hk;simp only[execOp,ho,hx,hy];simp[eqGuard,run_eql_bool E.w t m n ht];cases m<;>cases n<;>rfl
 .refine dv hs (x:=.bool (!decide (m=n))) ?_ (by simp[R]) hk;simp only[execOp,ho,hx,hy];simp[eqGuard,run_neq_bool E.w t m n ht];cases m<;>cases n<;>rfl
def auK(hs:bQ E st a)(ho:o.op = .unOp .not t x)(hx:R E v (a.eval x))(hk:match (generalizing:=false) v with | .bool b=>K (.bool (!b)) st | _=>False):
 o.wp P a E.w (eC E a o.dst K) Q:=by
 cases v<;>try exact False.elim hk
 simp only[R] at hx;exact dv hs (by simp[execOp,ho,hx,Op.unary];rfl) (by simp only[R]) hk
def auF(hs:bQ E st a)(ho:o.op = .call {callee:=.builtin .len,args:=#[x],argTypes:=#[t]})(ht:P.underlying t=U (.slice e))(hx:R E v (a.eval x))
 (hk:match (generalizing:=false) v with | .sl _ _ l=>K (.int .i64 l.length) st | .raw (.slice _ n _)=>K (.int .i64 n) st | _=>False):o.wp P a E.w (eC E a o.dst K) Q:=by
 cases v<;>try exact False.elim hk
 case raw u =>
  cases u<;>try exact False.elim hk
  simp only[R] at hx;exact dv hs (by simp[execOp,ho,resolve,invoke,builtin,Builtin.len_,run_underlying ht,hx];rfl) (by simp[R,goInt]) hk
 simp only[R] at hx;obtain⟨b,c,h,_⟩:=hx;exact dv hs (by simp[execOp,ho,resolve,invoke,builtin,Builtin.len_,run_underlying ht,h];rfl) (by simp[R,goInt]) hk
def auG(hs:bQ E st a)(ho:o.op = .call {callee:=.builtin .len,args:=#[x],argTypes:=#[t]})(ht:P.underlying t=U .string)(hx:R E v (a.eval x))
 (hk:match (generalizing:=false) v with | .aH s=>K (.int .i64 s.length) st | _=>False):o.wp P a E.w (eC E a o.dst K) Q:=by
 cases v<;>try exact False.elim hk
 simp only[R] at hx;exact dv hs (by simp[execOp,ho,resolve,invoke,builtin,Builtin.len_,run_underlying ht,hx];rfl) (by simp[R,goInt,ByteArray.size]) hk
variable{i:Nat}
def auA(hs:bQ E st a){s:TypeId}{fs:Array Field}{f:Field}(ho:o.op = .fieldAddr s x i)(ht:P.underlying s=U (.struct fs))(hf:fs[i]?=U f)
 (hn:eT P f.type=U n) (xM:n≠0) (hx:R E v (a.eval x)) (hk:match (generalizing:=false) v with | .ptr p o=>K (.ptr p (o+f.offset)) st | .elt c o=>K (.elt c (o+f.offset)) st | _=>False) :
 o.wp P a E.w (eC E a o.dst K) Q:=by
 have run:∀b off:Nat,(Instr.fieldAt s (.pointer (U ⟨b,off,ah⟩)) i).run P E.w = .ok (.pointer (U ⟨b,off+f.offset,ah⟩)) E.w:=λb off=>by
  simp[Instr.fieldAt,run_underlying ht,hf,Instr.sureAddr,fieldPlace,pk hn,xM,lS]
 cases v<;>try exact False.elim hk
 case ptr p off =>
  cases p with
  | au j =>
   simp only[R] at hx;obtain⟨b,hb,h⟩:=hx;exact dv hs (by simp[execOp,ho,h,run];rfl) (by simp only[R];exact⟨b,hb,rfl⟩) hk
  | out b =>
   simp only[R] at hx;exact dv hs (by simp[execOp,ho,hx,run];rfl) (by simp only[R]) hk
  | kS b =>
   simp only[R] at hx;exact dv hs (by simp[execOp,ho,hx,run];rfl) (by simp only[R]) hk
 case elt c off =>
  simp only[R] at hx;obtain⟨b,o',h,hr⟩:=hx;exact dv hs (by simp[execOp,ho,h,run];rfl) (by simp only[R];exact⟨b,o',by rw[yH],hr⟩) hk
def auz(hs:bQ E st a)(ho:o.op = .extract x i)(hx:R E v (a.eval x))(hk:match (generalizing:=false) v with | .bz vs=>opt vs[i]? (K2 K st) | _=>False):
 o.wp P a E.w (eC E a o.dst K) Q:=by
 cases v<;>try exact False.elim hk
 rename_i vs;simp only[opt,K2] at hk;cases hu:vs[i]? with
 | none=>rw[hu] at hk;exact False.elim hk
 | some u =>
  rw[hu] at hk;simp only[R] at hx;obtain⟨us,h,hr⟩:=hx;obtain⟨y,h1,h2⟩:=si hr i u hu;have rq : us[i]?=U y:=by simpa using h1
  exact dv hs (by simp[execOp,ho,h,Instr.extract,rq]) h2 hk
def auI(hs:bQ E st a){f:Fn}{first cap:Array Operand}{as bs:List V}(ho:o.op = .makeFunc f first cap)(ha:RL E as (first.toList.map a.eval))(hb:RL E bs (cap.toList.map a.eval))(hk:K (.fn f as bs) st):
 o.wp P a E.w (eC E a o.dst K) Q:=by
 refine dv hs (x:=.func f (first.map a.eval) (cap.map a.eval)) (by simp[execOp,ho,Instr.makeFunc]) ?_ hk;simp only[R];exact⟨_,_,rfl,by simpa using ha,by simpa using hb⟩
def auy(hs:bQ E st a){src dst:TypeId}{k k' : IntKind}(ho:o.op = .convert src dst x)(h1:P.underlying src=U (.int k'))(h2:P.underlying dst=U (.int k))(hx:R E v (a.eval x))
 (hk:match (generalizing:=false) v with | .int _ n=>K (.int k (k.wrap n)) st | _=>False):o.wp P a E.w (eC E a o.dst K) Q:=by
 cases v<;>try exact False.elim hk
 simp only[R] at hx;exact dv hs (by simp[execOp,ho,hx,convert,run_underlying h1,run_underlying h2,Conv.intToInt];rfl) (by simp only[R]) hk
def auC(hs:bQ E st a){i:Operand}{vi:V}(ho:o.op = .indexAddr t x i)(ht:P.underlying t=U (.slice e))(hn:eT P e=U n)(hx:R E vx (a.eval x))(hi:R E vi (a.eval i))
 (hk:match (generalizing:=false) vx with
   | .sl _ k' l=>k' = n/\JG l vi λc=>K (.elt c 0) st
   | .raw (.slice (U ⟨b,o,ah⟩) m _)=>∃ik j,vi = .int ik j/\0<=j/\j<m/\K (.ptr (.out b) (o+j.toNat*n)) st
   | _=>False):o.wp P a E.w (eC E a o.dst K) Q:=by
 cases vx<;>try exact False.elim hk
 case raw u =>
  split at hk
  .simp_all
  .rename_i b off m cap e;simp only[V.raw.injEq] at e;subst e;obtain⟨ik,j,rfl,g1,g2,hk⟩:=hk;simp only[R] at hx hi;refine dv hs (v:=.ptr (.out b) (off+j.toNat*n)) (x:=.pointer (U ⟨b,off+j.toNat*n,ah⟩)) ?_ (by simp only[R]) hk;simp[execOp,ho,hx,hi,Instr.indexAt,asIntOf,run_underlying ht,g1,g2,pk hn,lS]
  .exact hk.elim
 rename_i tk k' l;obtain⟨rfl,ki,m,c,rfl,hm,hc,hk⟩:=hk;simp only[R] at hx hi;obtain⟨base,cap,h,_,h3,_⟩:=hx;have an:=(fw.1 hc).1
 rcases h3 with h3 | ⟨b,off,rfl,hr⟩
 .subst h3;simp at hc
 .have wg:eW E.nl c b (off+m.toNat*k'):=by
   obtain⟨h1,h2⟩:=sh.1 hr;have Mt:l=l.take m.toNat++c::l.drop (m.toNat+1):=by
    have:=pA m.toNat l
    rw[kM an] at this;rw[(fw.1 hc).2] at this;exact this.symm
   rw[Mt,vD,mX,yI,yI] at h2;have hl:(l.take m.toNat).flatten.length=m.toNat*k' := by
    rw[ni (λx hx=>h1 x (Ea hx))];rw[iu,xc (by omega)]
   rw[hl] at h2;simpa using h2.2.1
  have mc : m<(l.length:Int):=by omega
  refine dv hs (v:=.elt c 0) (x:=.pointer (U ⟨b,off+m.toNat*k',ah⟩)) ?_ (by simp only[R];exact⟨b,off+m.toNat*k',rfl,wg⟩) hk;simp[execOp,ho,h,hi,Instr.indexAt,asIntOf,run_underlying ht,hm,mc,pk hn,lS]
def auD(hs:bQ E st a){i:Operand}{vi:V}(ho:o.op = .indexAddr t x i)(ht:P.underlying t=U (.array m e))(hn:eT P e=U n)(hx:R E vx (a.eval x))(hi:R E vi (a.eval i))
 (hk:match (generalizing:=false) vx with
   | .ptr p o=>∃kk j,vi = .int kk j/\0<=j/\j<(m:Nat)/\K (.ptr p (o+j.toNat*n)) st
   | .elt c o=>∃kk j,vi = .int kk j/\0<=j/\j<(m:Nat)/\K (.elt c (o+j.toNat*n)) st
   | _=>False):o.wp P a E.w (eC E a o.dst K) Q:=by
 have run:∀(b off:Nat) (kk:IntKind) (j:Int),0<=j->j<(m:Nat)->(Instr.indexAt t (.pointer (U ⟨b,off,ah⟩)) (.int kk j)).run P E.w = .ok (.pointer (U ⟨b,off+j.toNat*n,ah⟩)) E.w:=λb off kk j h0 h1=>by
  simp[Instr.indexAt,asIntOf,run_underlying ht,Instr.sureAddr,h0,h1,pk hn,lS]
 cases vx<;>try exact False.elim hk
 case ptr p off =>
  obtain⟨kk,j,rfl,h0,h1,hk⟩:=hk;simp only[R] at hi;cases p with
  | au q =>
   simp only[R] at hx;obtain⟨b,hb,h⟩:=hx;exact dv hs (by simp[execOp,ho,h,hi,run _ _ _ _ h0 h1];rfl) (by simp only[R];exact⟨b,hb,rfl⟩) hk
  | out b =>
   simp only[R] at hx;exact dv hs (by simp[execOp,ho,hx,hi,run _ _ _ _ h0 h1];rfl) (by simp only[R]) hk
  | kS b =>
   simp only[R] at hx;exact dv hs (by simp[execOp,ho,hx,hi,run _ _ _ _ h0 h1];rfl) (by simp only[R]) hk
 case elt c off =>
  obtain⟨kk,j,rfl,h0,h1,hk⟩:=hk;simp only[R] at hi hx;obtain⟨b,o',h,hr⟩:=hx;exact dv hs (by simp[execOp,ho,h,hi,run _ _ _ _ h0 h1];rfl) (by simp only[R];exact⟨b,o',by rw[yH],hr⟩) hk
def auE(hs:bQ E st a){i:Operand}{vi:V}(ho:o.op = .index t x i)(ht:P.underlying t=U .string)(hx:R E vx (a.eval x))(hi:R E vi (a.eval i))
 (hk:match (generalizing:=false) vx with | .aH s=>∃k n c,vi = .int k n/\0<=n/\s[n.toNat]?=U c/\K (.int .u8 c.toNat) st | _=>False):o.wp P a E.w (eC E a o.dst K) Q:=by
 cases vx<;>try exact False.elim hk
 rename_i s;obtain⟨k,n,c,rfl,hn,hc,hk⟩:=hk;simp only[R] at hx hi;have an:=(fw.1 hc).1;have mc : n<((⟨s.toArray⟩:ByteArray).size:Int):=by simp[ByteArray.size];omega
 refine dv hs (v:=.int .u8 c.toNat) (x:=.int .u8 c.toNat) ?_ (by simp only[R]) hk
 have:=run_index_string (P:=P) E.w t ⟨s.toArray⟩ k n ht
 rw[yS ⟨hn,mc⟩] at this;simp only[execOp,ho,hx,hi,Sem.run_bind,this,Result.andThen_ok];have hg:(⟨s.toArray⟩:ByteArray)[n.toNat]'(by simp[ByteArray.size];exact an)=c:=(fw.1 hc).2;simp[hg]
end
def xp:Nat->Value->Value->Option Bool
 | 1,.int k a,.int k' b=>if k=k' then U (decide (a=b)) else ah
 | 2,.string a,.string b=>U (a.toList == b.toList)
 | 0,.bool a,.bool b=>U (a == b)
 | _,_,_=>ah
section
variable {P:Program} {w:World}
def sv(xs ys:Array Value):List (Nat × Nat)->Option Bool
 | []=>U aa
 | (j, k) :: js =>
  match xs[j]?,ys[j]? with
  | some x,U y=>(xp k x y).bind λb=>(sv xs ys js).map (b&&·)
  | _,_=>ah
def KI{xs ys:Array Value}:∀{l m:List (Nat × Nat)} {b:Bool},sv xs ys (l++m)=U b->∃b1 b2,sv xs ys l=U b1/\sv xs ys m=U b2/\b=(b1&&b2)
 | [],m,b,h=>⟨aa,b,rfl,h,by simp⟩
 | (j, k) :: l, m, b, h => by
  simp only[jN,sv] at h ⊢;split at h
  .simp only[iK,dB] at h;obtain⟨c,h1,d,h2,rfl⟩:=h;obtain⟨b1,b2,k1,k2,rfl⟩:=KI h2;exact⟨c&&b1,b2,by simp[h1,k1],k2,by simp[PX]⟩
  .simp at h
def At(P:Program)(t:TypeId)(xs:Array Value)(off:Nat)(x:Value):Prop :=
 match iv P t with
 | some aa=>x = .agg (xs.extract off (off+P.cellsOf t))/\off+P.cellsOf t<=xs.size
 | some aq=>xs[off]?=U x
 | none=>False
def Q4{i:TypeInfo}(h:P.info? t=U i):P.cellsOf t=i.size:=by simp[Program.cellsOf,h]
variable{g:Bool}{off:Nat}
def I1{i:TypeInfo}(hi:P.info? u=U i){xs:Array Value}{o':Nat}(hle:o' + P.cellsOf u<=P.cellsOf t)(dd:off+P.cellsOf t<=xs.size)(hg:iv P u=U g)(gg:g=aq->P.cellsOf u=1):
 ∃y,(part u (xs.extract off (off+P.cellsOf t)) o').run P w = .ok y w/\At P u xs (off+o') y:=by
 have hs:(sizeOf u).run P w = .ok (P.cellsOf u) w:=by simp[sizeOf,typeInfo,hi,Q4 hi]
 unfold At;rw[hg];cases g
 .have h1:=gg rfl;have an:off+o' < xs.size:=by omega
  refine⟨xs[off+o'],?_,by simp[an]⟩
  have:(xs.extract off (off+P.cellsOf t))[o']?=U xs[off+o']:=by
   rw[YI];simp[mC an];omega
  simp[part,BM hg,this]
 .refine⟨_,by simp[part,BM hg,hs];rfl,?_,by omega⟩;congr 2;omega
def V6{pl:List (Nat × Nat)}(h:ya P n u off=U pl):∃i g,P.info? u=U i/\iv P u=U g/\(g=aq->P.cellsOf u=1):=by
 cases n with
 | zero=>simp[ya] at h
 | succ n =>
  simp only[ya] at h;split at h
  .rename_i i hi hu;split at h<;>simp at h;rename_i hc;exact⟨_,aq,hi,by simp[iv,hu],λ_=>hc⟩
  .rename_i i hi hu;split at h<;>simp at h;rename_i hc;exact⟨_,aq,hi,by simp[iv,hu],λ_=>hc⟩
  .rename_i i hi hu;split at h<;>simp at h;rename_i hc;exact⟨_,aq,hi,by simp[iv,hu],λ_=>hc⟩
  .rename_i i hi hu;exact⟨_,aa,hi,by simp[iv,hu],λh=>by simp at h⟩
  .rename_i i hi hu;exact⟨_,aa,hi,by simp[iv,hu],λh=>by simp at h⟩
  .simp at h
def apv:∀(n:Nat) (t:TypeId) (off:Nat) (pl:List (Nat × Nat)),ya P n t off=U pl->∀(d:Nat),n<=d->∀(xs ys:Array Value) (x y:Value),At P t xs off x->At P t ys off y ->
 ∀b,sv xs ys pl=U b->(Op.equalIn d t x y).run P w = .ok b w:=by
 intro n;induction n with
 | zero=>intro t off pl h;simp[ya] at h
 | succ n ih =>
  intro t off pl h d hd xs ys x y hx hy b hb;obtain⟨d,rfl⟩:∃d',d=d' + 1:=⟨d - 1,by omega⟩;have one:∀k,iv P t=U aq->pl=[(off,k)]->xp k x y=U b:=λk hg hp=>by
   subst hp;unfold At at hx hy;rw[hg] at hx hy;have j_ : xs[off]?=U x:=hx;have Bg : ys[off]?=U y:=hy;simp only[sv,j_,Bg,iK,uz,bg] at hb;obtain⟨c,h1,h2⟩:=hb;rw[h1];simpa using h2
  simp only[ya] at h;split at h
  .rename_i i hi hu;split at h
   case isFalse=>simp at h
   simp only[bg] at h;have hc:=one 0 (by simp[iv,hu]) h.symm;unfold xp at hc;split at hc<;>simp at *;subst hc;exact run_equalIn_bool w d t _ _ hu
  .rename_i i k hi hu;split at h
   case isFalse=>simp at h
   simp only[bg] at h;have hc:=one 1 (by simp[iv,hu]) h.symm;unfold xp at hc;split at hc<;>simp at *;obtain⟨rfl,hc⟩:=hc;subst hc;exact run_equalIn_int w d t _ _ _ _ hu
  .rename_i i hi hu;split at h
   case isFalse=>simp at h
   simp only[bg] at h;have hc:=one 2 (by simp[iv,hu]) h.symm;unfold xp at hc;split at hc<;>simp at *;subst hc;exact run_equalIn_string w d t _ _ hu
  .rename_i i fs hi hu;split at h
   .simp at h
   rename_i fv;unfold At at hx hy;have hg:iv P t=U true:=by simp[iv,hu]
   rw[hg] at hx hy;obtain⟨rfl,qM⟩:=hx;obtain⟨rfl,qN⟩:=hy;have wj:P.fieldsOf t=fs:=by simp[Program.fieldsOf,hu]
   rw[run_equalIn_struct w d t _ _ (by rw[wj];exact hu) (by simpa using fv),wj];clear hu wj fv;clear one;generalize fs.toList=l at h;revert b pl;induction l with
   | nil=>intro pl b hb h;simp[ID] at h;subst h;simp[sv] at hb;subst hb;simp[Op.eqFields]
   | cons f l MG =>
    intro pl b hb h;simp only[ID] at h;split at h
    .simp at h
    rename_i hc;simp only[iK,dB] at h;obtain⟨p1,h1,p2,h2,rfl⟩:=h;obtain⟨b1,b2,e1,e2,rfl⟩:=KI hb;obtain⟨i',g,eg,tI,lC⟩:=V6 h1;have hn:f.name ≠ "_" := λe=>hc (.inl e)
    have hle:f.offset+P.cellsOf f.type<=P.cellsOf t:=by omega
    obtain⟨u,r1,a1⟩:=I1 (P:=P) (w:=w) eg hle qM tI lC;obtain⟨v,r2,a2⟩:=I1 (P:=P) (w:=w) eg hle qN tI lC;have r3:=ih f.type (off+f.offset) p1 h1 d (by omega) xs ys u v a1 a2 b1 e1;have r4:=MG p2 b2 e2 h2;simp only[Op.eqFields,hn,rN,Dv,cH,Sem.run_bind,r1,r2,r3,Result.andThen_ok];cases b1
    .simp
    .simpa using r4
  .rename_i i k e hi hu;split at h
   case h_2=>simp at h
   rename_i ie A1;unfold At at hx hy;have hg:iv P t=U true:=by simp[iv,hu]
   rw[hg] at hx hy;obtain⟨rfl,qM⟩:=hx;obtain⟨rfl,qN⟩:=hy;rw[run_equalIn_array w d _ _ hu A1];clear hu;clear one;generalize bG k=l at h;revert b pl;induction l with
   | nil=>intro pl b hb h;simp[IE] at h;subst h;simp[sv] at hb;subst hb;simp[Op.eqItems]
   | cons j l MG =>
    intro pl b hb h;simp only[IE] at h;split at h
    .simp at h
    rename_i hc;simp only[iK,dB] at h;obtain⟨p1,h1,p2,h2,rfl⟩:=h;obtain⟨b1,b2,e1,e2,rfl⟩:=KI hb;obtain⟨i',g,eg,tI,lC⟩:=V6 h1;have hle:j*P.cellsOf e+P.cellsOf e<=P.cellsOf t:=by omega
    obtain⟨u,r1,a1⟩:=I1 (P:=P) (w:=w) eg hle qM tI lC;obtain⟨v,r2,a2⟩:=I1 (P:=P) (w:=w) eg hle qN tI lC;have r3:=ih e (off+j*P.cellsOf e) p1 h1 d (by omega) xs ys u v a1 a2 b1 e1;have r4:=MG p2 b2 e2 h2;simp only[Op.eqItems,Sem.run_bind,r1,r2,r3,Result.andThen_ok];cases b1
    .simp
    .simpa using r4
  .simp at h
end
section
variable {P:Program} {E:Env} {st:St} {a:Act} {o:Oper} {K:V->St->Prop} {Q:Exit->Act->World->Prop}
def bool_beq(x y:Bool):(x == y)=decide (x=y):=by cases x<;>cases y<;>rfl
def R3{xs ys:Array Value}:∀{ks:List Nat} {vx vy:List V} {us ws:List Value} {b:Bool} (pl:List (Nat × Nat)) (off:Nat),gd ks vx vy=U b->RL E vx us->RL E vy ws ->
 (∀(j:Nat) u,us[j]?=U u->xs[off+j]?=U u)->(∀(j:Nat) u,ws[j]?=U u->ys[off+j]?=U u)->pl.map (·.2)=ks->pl.map (·.1)=List.range' off pl.length->sv xs ys pl=U b
 | [], vx, vy, us, ws, b, pl, off, h, hx, hy, h1, h2, h3, h4 => by
  have:pl=[]:=by simpa using h3
  subst this;cases vx<;>cases vy<;>simp[gd] at h;subst h;simp[sv]
 | k :: ks, vx, vy, us, ws, b, pl, off, h, hx, hy, h1, h2, h3, h4 => by
  obtain⟨⟨j,k'⟩,pl,rfl⟩:∃p q,pl=p::q:=by cases pl with | nil=>simp at h3 | cons p q=>exact⟨p,q,rfl⟩
  simp only[dz,iJ,da,Eb] at h3 h4;obtain⟨rfl,h3⟩:=h3;obtain⟨rfl,h4⟩:=h4;have step:∀{x y:V} {Pp Pq : List V} {c d:Bool},vx=x::Pp -> vy=y::Pq -> (∀u v,R E x u->R E y v->xp k' u v=U c)->gd ks Pp Pq = U d->b=(c&&d)->sv xs ys ((j,k')::pl)=U b :=
   λ{x y Pp Pq c d} e1 e2 hc hd hb=>by
    subst e1;subst e2;cases us with
    | nil=>simp[RL] at hx
    | cons u us =>
     cases ws with
     | nil=>simp[RL] at hy
     | cons v ws =>
      simp only[RL] at hx hy;have hu:=h1 0 u (by simp);have hv:=h2 0 v (by simp);simp only[vJ] at hu hv;have ih:=R3 (ks:=ks) (us:=us) (ws:=ws) pl (j+1) hd hx.2 hy.2 (λi u hu=>by rw[show j+1+i=j+(i+1) from by omega];exact h1 (i+1) u (by simpa using hu))
       (λi u hu=>by rw[show j+1+i=j+(i+1) from by omega];exact h2 (i+1) u (by simpa using hu)) h3 h4
      simp only[sv,hu,hv,hc u v hx.1 hy.1,ih,xe,uz,hb]
  unfold gd at h;split at h
  .simp at *
  .rename_i hk;simp only[iJ] at hk;obtain⟨rfl,rfl⟩:=hk;split at h
   case isFalse=>simp at h
   rename_i ey;obtain rfl:=H3 ey;simp only[dB] at h;obtain⟨d,hd,rfl⟩:=h;exact step rfl rfl (λu v hu hv=>by simp only[R] at hu hv;subst hu;subst hv;simp[xp]) hd rfl
  .rename_i hk;simp only[iJ] at hk;obtain⟨rfl,rfl⟩:=hk;simp only[dB] at h;obtain⟨d,hd,rfl⟩:=h;exact step rfl rfl (λu v hu hv=>by simp only[R] at hu hv;subst hu;subst hv;simp[xp,UY]) hd rfl
  .rename_i hk;simp only[iJ] at hk;obtain⟨rfl,rfl⟩:=hk;simp only[dB] at h;obtain⟨d,hd,rfl⟩:=h;exact step rfl rfl (λu v hu hv=>by simp only[R] at hu hv;subst hu;subst hv;simp[xp,bool_beq]) hd rfl
  .simp at h
def Hd:∀{ks:List Nat} {vx vy:List V} {b:Bool},gd ks vx vy=U b->vx.length=ks.length/\vy.length=ks.length
 | [],vx,vy,b,h=>by cases vx<;>cases vy<;>simp[gd] at h;simp
 | k :: ks, vx, vy, b, h => by
  unfold gd at h;split at h
  .simp at *
  .rename_i hk;simp only[iJ] at hk;obtain⟨rfl,rfl⟩:=hk;split at h
   case isFalse=>simp at h
   simp only[dB] at h;obtain⟨d,hd,_⟩:=h
   have:=Hd hd;simp[this]
  .rename_i hk;simp only[iJ] at hk;obtain⟨rfl,rfl⟩:=hk;simp only[dB] at h;obtain⟨d,hd,_⟩:=h
   have:=Hd hd;simp[this]
  .rename_i hk;simp only[iJ] at hk;obtain⟨rfl,rfl⟩:=hk;simp only[dB] at h;obtain⟨d,hd,_⟩:=h
   have:=Hd hd;simp[this]
  .simp at h
variable{t':TypeId}{vx vy:V}{y:Operand}
def Jt(hs:bQ E st a){neg:Bool}{op:BinOp}(uX:op=if neg then .neq else .eql){ks:List Nat}(ht:Of P t=U ks)(ho:o.op = .binOp op t x y t')
 (hg:iv P t=U aa) (hx:R E vx (a.eval x)) (hy:R E vy (a.eval y)) (hk:opt (yW neg ks vx vy) (K2 K st)):o.wp P a E.w (eC E a o.dst K) Q:=by
 unfold opt K2 at hk;split at hk
 case h_2=>exact hk.elim
 rename_i v hv;unfold yW at hv;split at hv
 case h_2=>simp at hv
 rename_i xs ys;simp only[dB] at hv;obtain⟨b,hb,rfl⟩:=hv;simp only[R] at hx hy;obtain⟨us,wC,T'⟩:=hx;obtain⟨ws,Ub,Uc⟩:=hy;unfold Of at ht;split at ht
 case h_2=>simp at ht
 rename_i pl me;split at ht
 case isFalse=>simp at ht
 rename_i hc;obtain⟨hr,pQ⟩:=hc;simp only[bg] at ht;have hlen:pl.length=P.cellsOf t:=by have:=jR List.length hr;simpa using this
 obtain⟨l1,l2⟩:=Hd hb;have avl:ks.length=P.cellsOf t:=by rw[<-ht];simp[hlen]
 have My:us.size=P.cellsOf t:=by have:=gb T';simp at this;omega
 have Fh:ws.size=P.cellsOf t:=by have:=gb Uc;simp at this;omega
 have cT:=R3 (E:=E) (xs:=us) (ys:=ws) pl 0 hb T' Uc (λj u hu=>by simpa using hu) (λj u hu=>by simpa using hu) ht (by rw[hr,hlen,vH]);have dp:∀(zs:Array Value),zs.size=P.cellsOf t->At P t zs 0 (.agg zs):=λzs hz=>by
  unfold At;rw[hg];exact⟨by rw[j7,<-hz,Array.extract_size],by omega⟩
 have dx:=apv (P:=P) (w:=E.w) 20 t 0 pl me 10000 (by omega) us ws _ _ (dp us My) (dp ws Fh) b cT;subst uX;cases neg
 .refine dv hs (x:=.bool b) ?_ (by simp[R]) hk;simp only[execOp,ho,wC,Ub,dm,ch];simp only[Sem.run_bind,run_eqGuard_agg E.w _ t x y us ws pQ,Result.andThen_ok,run_eql_struct,dx,Sem.run_pure]
 .refine dv hs (x:=.bool (!b)) ?_ (by simp[R]) hk;simp only[execOp,ho,wC,Ub,cH];simp only[Sem.run_bind,run_eqGuard_agg E.w _ t x y us ws pQ,Result.andThen_ok,run_neq_struct,dx,Sem.run_pure]
variable{g:Bool}{i:Nat}
def auB(hs:bQ E st a){s:TypeId}{fs:Array Field}{f:Field}(ho:o.op = .field s x i)(ht:P.underlying s=U (.struct fs))(hf:fs[i]?=U f)
 (hg:iv P f.type=U g) (hn:eT P f.type=U n) (hx:R E v (a.eval x)) (hk:match (generalizing:=false) v with | .agg cs=>opt (bX g n (cs.drop f.offset)) (K2 K st) | _=>False) :
 o.wp P a E.w (eC E a o.dst K) Q:=by
 cases v<;>try exact False.elim hk
 rename_i cs;simp only[opt,K2] at hk;simp only[R] at hx;obtain⟨vs,h,hr⟩:=hx;cases g with
 | false =>
  cases hd:cs.drop f.offset with
  | nil=>rw[hd] at hk;exact False.elim hk
  | cons c rest =>
   rw[hd] at hk;have hc:cs[f.offset]?=U c:=by
    have:=jR (·[0]?) hd
    simpa using this
   obtain⟨u,h1,h2⟩:=si hr f.offset c hc;have rq : vs[f.offset]?=U u:=by simpa using h1
   exact dv hs (v:=c) (x:=u) (by simp[execOp,ho,h,Instr.field,run_underlying ht,hf,asAgg,part,BM hg,rq]) h2 hk
 | true =>
  cases hd:takeN n (cs.drop f.offset) with
  | none=>simp only[bX,hd,Option.map_none] at hk;
  | some ys =>
   simp only[bX,hd,uz] at hk;obtain⟨rfl,hle⟩:=O_ hd;refine dv hs (x:=.agg (vs.extract f.offset (f.offset+n))) (by simp[execOp,ho,h,Instr.field,run_underlying ht,hf,asAgg,part,BM hg,pk hn]) ?_ hk;simp only[R];refine⟨_,rfl,?_⟩;have hl:=gb hr;refine Ee ?_ λj y u h1 h2=>?_
   .simp at hl hle ⊢;omega
   .have hj:j<n:=by have:=(fw.1 h1).1;simp at this;omega
    rw[JR,aI hj,vE] at h1;obtain⟨u',h3,h4⟩:=si hr _ y h1
    have:(vs.extract f.offset (f.offset+n)).toList[j]?=U u' := by
     have an:=(fw.1 h3).1;simp at an;simp only[PQ] at h3 ⊢;rw[YI];rw[aI (by omega)];exact h3
    rw[this] at h2;simp only[bg] at h2;subst h2;exact h4
def SD:∀(l:List Value) (n off:Nat) (cells:Array Value),off+n+l.length<=cells.size ->
 ((l.zipIdx n).foldl (λcs (c,j)=>cs.setIfInBounds (off+j) c) cells).toList=cells.toList.take (off+n)++l++cells.toList.drop (off+n+l.length)
 | [],n,off,cells,h=>by simp
 | v :: l, n, off, cells, h => by
  simp only[da] at h;have ih:=SD l (n+1) off (cells.setIfInBounds (off+n) v) (by simp;omega);simp only[List.zipIdx_cons,yF];rw[ih];have e:=list_seg_step cells.toList (off+n) v l (by simp;omega);simpa [PS,yH,GC 1] using e
variable{off:Nat}
def Si{place:Nat->Option (Nat × Nat)}{cells:Array Value}{v:Value}{rest:List (Nat × Value)}(hp:place i=U (off,n))(hv:v.cells.size=n)(xO:off+n<=cells.size):
 Instr.fill place cells ((i,v)::rest)=Instr.fill place (cells.toList.take off++v.cells.toList++cells.toList.drop (off+n)).toArray rest:=by
 have h:=SD v.cells.toList 0 off cells (by simp;omega);have e:v.cells.zipIdx.foldl (λcs (c,j)=>cs.setIfInBounds (off+j) c) cells=(cells.toList.take off++v.cells.toList++cells.toList.drop (off+n)).toArray:=by
  apply D4;rw[<-Array.foldl_toList,Array.toList_zipIdx,h];simp[hv]
 simp only[Instr.fill,hp,hv,rN,BE,c9,ur];rw[aw (by simp;omega),e]
def KO(hs:RL E st.t a.tmps.toList){place:Nat->Option (Nat × TypeId)}{place' : Nat->Option (Nat × Nat)}(me:∀i off t n,place i=U (off,t)->eT P t=U n->place' i=U (off,n)) :
 ∀{parts:List (Nat × Operand)} {ps:List (Nat × Nat × X)} {z cs:List V} {cells:Array Value},Bw P place parts=U ps->pD st z ps=U cs->RL E z cells.toList ->
 ∃pF,Instr.fill place' cells (parts.map λ(i,x)=>(i,a.eval x))=U pF /\ RL E cs pF.toList
 | [], ps, z, cs, cells, hp, hb, hz => by
  simp only[Bw,bg] at hp;subst hp;simp only[pD,bg] at hb;subst hb;exact⟨cells,by simp[Instr.fill],hz⟩
 | (i, x) :: parts, ps, z, cs, cells, hp, hb, hz => by
  simp only[Bw] at hp;split at hp
  case h_2=>simp at hp
  rename_i off t C8;split at hp
  case h_2=>simp at hp
  rename_i n y hn hy;split at hp
  .simp at hp
  rename_i xM;simp only[dB] at hp;obtain⟨Wb,lC,rfl⟩:=hp;simp only[pD] at hb;split at hb
  case isFalse=>simp at hb
  rename_i hc;have hx:=nG (E:=E) (st:=st) (a:=a) hs hy;obtain⟨h1,h2⟩:=yK hx hc.2;have hle:=Lw hc.1;have hl:=gb hz;have A7:=gb h1;simp at hle hl A7;have xO:off+n<=cells.size:=by omega
  .have nC:RL E (setAt z off (ev st y).cells) (cells.toList.take off++(a.eval x).cells.toList++cells.toList.drop (off+n)):=by
    refine Ee (by simp[OW];omega) λj u v h3 h4=>?_
    rw[OV (by omega)] at h3;have xQ:=F7 (c:=cells.toList) (vs:=(a.eval x).cells.toList) (off:=off) (by simp;omega) j;simp only[B0,h2] at xQ;rw[xQ] at h4
    by_cases k1:j<off
    .rw[aI k1] at h3 h4;obtain⟨v',k3,k4⟩:=si hz j u h3;rw[k3] at h4;simp only[bg] at h4;subst h4;exact k4
    .rw[aw k1] at h3 h4
     by_cases k2:j<off+n
     .rw[aI (by omega)] at h3;rw[aI k2] at h4;obtain⟨v',k3,k4⟩:=si h1 _ u h3;rw[k3] at h4;simp only[bg] at h4;subst h4;exact k4
     .rw[aw (by omega)] at h3;rw[aw k2] at h4;obtain⟨v',k3,k4⟩:=si hz j u h3;rw[k3] at h4;simp only[bg] at h4;subst h4;exact k4
   obtain⟨pF,k1,k2⟩:=KO hs me lC hb (cells:=(cells.toList.take off++(a.eval x).cells.toList++cells.toList.drop (off+n)).toArray) (by simpa using nC);refine⟨pF,?_,k2⟩;rw[dz,Si (me i off t n C8 hn) h2 xO];exact k1
def U8:∀(fs:List Field),fs.all (λf=>(P.info? f.type).isSome)=aa->∃places:List (Nat × Nat),fs.mapM (λf=>(P.info? f.type).map λi=>(f.offset,i.size))=U places /\
 ∀i:Nat,places[i]?=(fs[i]?).bind λf=>(P.info? f.type).map λi=>(f.offset,i.size)
 | [],_=>⟨[],by simp,λi=>by simp⟩
 | f :: fs, h => by
  simp only[D7,b_] at h;obtain⟨i,hi⟩:=J1.1 h.1;obtain⟨places,h1,h2⟩:=U8 fs h.2;refine⟨(f.offset,i.size)::places,by simp[hi,h1],λj=>?_⟩;cases j with
  | zero=>simp[hi]
  | succ j=>simp[h2]
variable{parts:Array (Nat × Operand)}{z:List V}
def wp_build(hs:bQ E st a){ps:List (Nat × Nat × X)}(ho:o.op = .build t parts)(hz:kh P t=U z){place:Nat->Option (Nat × TypeId)}
 (me:(∃fs,P.underlying t=U (.struct fs)/\fs.toList.all (λf=>(P.info? f.type).isSome)=aa/\place=λi=>(fs[i]?).map λf=>(f.offset,f.type)) \/
   ∃k e,P.underlying t=U (.array k e)/\(P.info? e).isSome=aa/\place=λi=>U (i*P.cellsOf e,e))
 (hp:Bw P place parts.toList=U ps) (hk:opt ((pD st z ps).map V.agg) (K2 K st)):o.wp P a E.w (eC E a o.dst K) Q:=by
 unfold opt K2 at hk;split at hk
 case h_2=>exact hk.elim
 rename_i v hv;simp only[dB] at hv;obtain⟨cs,hb,rfl⟩:=hv;obtain⟨i,zv,h1,h2,h3,_⟩:=uq hz;have Ue:RL E z zv.cells.toList:=sr h3;have key:∃pF,P.built t (parts.map λ(i,x)=>(i,a.eval x)).toList=U pF /\ RL E cs pF.toList:=by
  rcases me with ⟨fs,hu,cT,rfl⟩ | ⟨k,e,hu,aj8,rfl⟩
  .obtain⟨places,hm,hg⟩:=U8 (P:=P) fs.toList cT;obtain⟨pF,k1,k2⟩:=KO (P:=P) (st:=st) hs.slot (place' := λi=>places.toArray[i]?) (λi off t' n h hn=>by
    simp only[dB] at h;obtain⟨f,hf,h⟩:=h;simp only[pB] at h;obtain⟨rfl,rfl⟩:=h;simp only[YU,hg];unfold eT at hn;simp only[dB] at hn;obtain⟨i',eg,rfl⟩:=hn;simp[hf,eg]) hp hb Ue
   exact⟨pF,by simpa [Program.built,h1,hu,h2,hm] using k1,k2⟩
  .obtain⟨ie,A1⟩:=J1.1 aj8;obtain⟨pF,k1,k2⟩:=KO (P:=P) (st:=st) hs.slot (place' := λi=>U (i*ie.size,ie.size)) (λi off t' n h hn=>by
    simp only[bg,pB] at h;obtain⟨rfl,rfl⟩:=h;simp only[eT,A1,uz,bg] at hn;simp[Q4 A1,hn]) hp hb Ue
   exact⟨pF,by simpa [Program.built,h1,hu,h2,A1] using k1,k2⟩
 obtain⟨pF,k1,k2⟩:=key;refine dv hs (x:=.agg pF) ?_ (by simp only[R];exact⟨pF,rfl,k2⟩) hk
 have:=run_build (P:=P) E.w t _ _ k1
 simp only[execOp,ho,Sem.run_bind,this,Result.andThen_ok,Sem.run_pure]
def KP{k:Nat}:∀(ps:List (Nat × Value)) (i0:Nat) (cells:Array Value),ps.map (·.1)=List.range' i0 ps.length->(∀p∈ps,p.2.cells.size=k)->cells.size=(i0+ps.length)*k ->
 Instr.fill (λi=>U (i*k,k)) cells ps=U (cells.toList.take (i0*k)++(ps.map λp=>p.2.cells.toList).flatten).toArray
 | [], i0, cells, _, _, dd => by
  simp only[Instr.fill,eQ,P',eM];rw[An (by simp at dd ⊢;omega)]
 | (i, v) :: ps, i0, cells, hm, cT, dd => by
  simp only[dz,da,Eb,iJ] at hm;obtain⟨rfl,hm⟩:=hm;simp only[fh] at cT;have qE:(i+(ps.length+1))*k=i*k+k+ps.length*k:=by rw[jh,jh];omega
  simp only[da,qE] at dd;rw[Si (n:=k) rfl cT.1 (by omega)];have ih:=KP ps (i+1) (cells.toList.take (i*k)++v.cells.toList++cells.toList.drop (i*k+k)).toArray hm cT.2 (by simp[cT.1,jh];omega);rw[ih];congr 2;simp only[dz,mX,<-fP];congr 1;rw[show(i+1)*k=i*k+k from by rw[jh];omega]
  have:(cells.toList.take (i*k)++v.cells.toList).length=i*k+k:=by simp[cT.1];omega
  rw[Y0 (by omega),An (by omega)]
def WR(hs:RL E st.t a.tmps.toList){k:Nat}{e:TypeId}:∀{n:Nat} {xs:List Operand} {ys:List X} {l:List (List V)},jF P (aj n e) xs=U ys->lL st k ys=U l ->
 xs.length=n/\l.length=n/\(∀x∈xs,(a.eval x).cells.size=k)/\(∀y∈l,y.length=k)/\RL E.nl l.flatten (xs.map λx=>(a.eval x).cells.toList).flatten/\∀v∈(xs.map λx=>(a.eval x).cells.toList).flatten,v.oneCell' = aa
 | 0, [], ys, l, h1, h2 => by
  simp only[List.replicate_zero,jF,bg] at h1;subst h1;simp only[lL,bg] at h2;subst h2;simp[RL]
 | 0,_::_,ys,l,h1,h2=>by simp[jF] at h1
 | n+1,[],ys,l,h1,h2=>by simp[Al,jF] at h1
 | n + 1, x :: xs, ys, l, h1, h2 => by
  simp only[Al,jF,iK,dB] at h1;obtain⟨y,hy,YA,qN,rfl⟩:=h1;simp only[lL] at h2;split at h2
  case isFalse=>simp at h2
  rename_i hc;simp only[dB] at h2;obtain⟨l',im,rfl⟩:=h2;obtain⟨k1,k2,k3,k4,k5,k6⟩:=WR hs qN im;have hx:=nG (E:=E) (st:=st) (a:=a) hs hy;obtain⟨r1,r2⟩:=yK hx hc.1;have r3:=RL.p_ (E:=E) (E' := E.nl) _ (Env.le.refl E.nl) hc.2.1 r1;have r4:=zG r1 hc.2.2;refine⟨by simp[k1],by simp[k2],?_,?_,?_,?_⟩
  .simp only[fh];exact⟨r2,k3⟩
  .simp only[fh];exact⟨by have:=gb r1;rw[R_];simp at this;omega,k4⟩
  .simp only[mX,dz];exact vO (RL.erase _ r3) k5
  .simp only[dz,mX];intro v hv
   rcases jv.1 hv with h | h
   .exact r4 v h
   .exact k6 v h
def Yj(hs:bQ E st a){len:Nat}(ho:o.op = .buildSlice t len parts)(ht:P.underlying t=U (.slice e))(hn:eT P e=U k)(hz:kh P e=U z)
 (hr:parts.toList.map (·.1)=bG len) (dd:len*k<=16777216) {l:List (List V)}
 (hf:(parts.toList.map (·.2)).length=len/\l.length=len/\(∀x∈parts.toList.map (·.2),(a.eval x).cells.size=k)/\(∀y∈l,y.length=k)/\RL E.nl l.flatten ((parts.toList.map (·.2)).map λx=>(a.eval x).cells.toList).flatten/\∀v∈((parts.toList.map (·.2)).map λx=>(a.eval x).cells.toList).flatten,v.oneCell' = aa)
 (hk:K (V.sl .a9 k l) st):o.wp P a E.w (eC E a o.dst K) Q:=by
 obtain⟨k1,k2,k3,k4,k5,k6⟩:=hf;obtain⟨i,zv,h1,h2,h3,h4⟩:=uq hz;have hlen:parts.toList.length=len:=by simpa using k1
 let ps:List (Nat × Value):=parts.toList.map λ(i,x)=>(i,a.eval x)
 have Mi:ps.map (·.1)=List.range' 0 ps.length:=by
  have:ps.map (·.1)=parts.toList.map (·.1):=by simp[ps,Gq]
  rw[this,hr,vH];congr 1;simp[ps];simpa using hlen.symm
 have Mj:(ps.map λp=>p.2.cells.toList)=(parts.toList.map (·.2)).map λx=>(a.eval x).cells.toList:=by simp[ps,Gq]
 have cT:∀p∈ps,p.2.cells.size=k:=λp hp=>by
  simp only[ps,qv] at hp;obtain⟨q,hq,rfl⟩:=hp;exact k3 q.2 (qv.2 ⟨q,hq,rfl⟩)
 have me:ps.length=len:=by simp[ps];simpa using hlen
 have fill:∀cells:Array Value,cells.size=len*k->Instr.fill (λi=>U (i*k,k)) cells ps=U ((parts.toList.map (·.2)).map λx=>(a.eval x).cells.toList).flatten.toArray:=λcells hc=>by
  have:=KP ps 0 cells Mi cT (by rw[me];simpa using hc)
  rw[this,Mj];simp
 generalize tP:((parts.toList.map (·.2)).map λx=>(a.eval x).cells.toList).flatten=news at fill k5 k6;refine Ym hs (w' := E.w.alloc (.cells news.toArray e)) (x:=.slice (U ⟨E.w.heap.size,0,ah⟩) len len) ((Ext.refl _).alloc _ _) ?_ ?_ hk
 .have jo:(zeroValue e).run P E.w = .ok zv E.w:=by simp[zeroValue,typeInfo,h1,h2]
  have E_:(parts.map λ(i,x)=>(i,a.eval x)).toList=ps:=by simp[ps]
  have zo : ¬(16777216<len*k):=by omega
  simp only[execOp,ho,Sem.run_bind];have key:(Instr.buildSlice t len (parts.map λ(i,x)=>(i,a.eval x))).run P E.w = .ok (.slice (U ⟨E.w.heap.size,0,ah⟩) len len) (E.w.alloc (.cells news.toArray e)):=by
   unfold Instr.buildSlice;simp only[Sem.run_bind,run_underlying ht,Result.andThen_ok,pk hn];rw[aw (by simpa using zo)];rw[E_]
   by_cases h0:len*k=0
   .rw[aI h0];simp only[Sem.run_bind,Sem.run_pure,Result.andThen_ok];rw[fill _ (by simp)];simp[newRow]
   .rw[aw h0];simp only[Sem.run_bind,jo,Result.andThen_ok,Sem.run_pure];rw[fill _ (by simp)];simp[newRow]
  rw[key];rfl
 .obtain⟨bw,_,_⟩:=F8 hs ((Ext.refl E.w).alloc news.toArray e);have tO:(E.w.alloc (.cells news.toArray e)).heap[E.w.heap.size]?=U (.cells (news++[]).toArray e (0,0)):=by simpa using heap_alloc_new E.w (.cells news.toArray e)
  simp only[R,k2];refine⟨U ⟨E.w.heap.size,0,ah⟩,len,rfl,b7 _,.inr ⟨_,_,rfl,?_⟩,rfl⟩;exact GJ (E' := {E with w:=E.w.alloc (.cells news.toArray e)}) k4 (RL.mono _ bw.nl k5) k6 tO (λj _=>by rw[show({E with w:=E.w.alloc (.cells news.toArray e)}:Env).bj E.w.heap.size = .const from hs.ok.fresh _ (b7 _)];trivial)
def aut(hs:bQ E st a){len:Nat}{ys:List X}(ho:o.op = .buildSlice t len parts)(ht:P.underlying t=U (.slice e))(hn:eT P e=U k)(hz:kh P e=U z)
 (hl:jF P (aj len e) (parts.toList.map (·.2))=U ys) (hr:parts.toList.map (·.1)=bG len) (dd:len*k<=16777216)
 (hk:opt ((lL st k ys).map (V.sl .a9 k)) (K2 K st)):o.wp P a E.w (eC E a o.dst K) Q:=by
 unfold opt K2 at hk;split at hk
 case h_2=>exact hk.elim
 rename_i v hv;simp only[dB] at hv;obtain⟨l,hb,rfl⟩:=hv;exact Yj hs ho ht hn hz hr dd (WR (E:=E) hs.slot hl hb) hk
def Ni(hs:RL E st.t a.tmps.toList){k:Nat}{e:TypeId}:∀{n:Nat} {xs:List Operand} {ys:List X} {l:List (List V)},jF P (aj n e) xs=U ys->zy k (dw st ys)=U l ->
 xs.length=n/\l.length=n/\(∀x∈xs,(a.eval x).cells.size=k)/\(∀y∈l,y.length=k)/\RL E.nl l.flatten (xs.map λx=>(a.eval x).cells.toList).flatten/\∀v∈(xs.map λx=>(a.eval x).cells.toList).flatten,v.oneCell' = aa
 | 0, [], ys, l, h1, h2 => by
  simp only[List.replicate_zero,jF,bg] at h1;subst h1;simp only[dw,zy,bg] at h2;subst h2;simp[RL]
 | 0,_::_,ys,l,h1,h2=>by simp[jF] at h1
 | n+1,[],ys,l,h1,h2=>by simp[Al,jF] at h1
 | n + 1, x :: xs, ys, l, h1, h2 => by
  simp only[Al,jF,iK,dB] at h1;obtain⟨y,hy,YA,qN,rfl⟩:=h1;simp only[dw,zy] at h2;split at h2
  case isFalse=>simp at h2
  rename_i hc;simp only[dB] at h2;obtain⟨l',im,rfl⟩:=h2;obtain⟨k1,k2,k3,k4,k5,k6⟩:=Ni hs qN im;have hx:=nG (E:=E) (st:=st) (a:=a) hs hy;obtain⟨r1,r2⟩:=yK hx hc.1;have r3:=RL.p_ (E:=E) (E' := E.nl) _ (Env.le.refl E.nl) hc.2.1 r1;have r4:=zG r1 hc.2.2;refine⟨by simp[k1],by simp[k2],?_,?_,?_,?_⟩
  .simp only[fh];exact⟨r2,k3⟩
  .simp only[fh];exact⟨by have:=gb r1;simp at this;omega,k4⟩
  .simp only[mX,dz];exact vO r3 k5
  .simp only[dz,mX];intro v hv
   rcases jv.1 hv with h | h
   .exact r4 v h
   .exact k6 v h
end
section
variable {P:Program} {E:Env} {st:St} {a:Act} {o:Oper} {K:V->St->Prop} {Q:Exit->Act->World->Prop}
def KH(s:List UInt8):(dW s).flatten=s.map λb=>V.int .u8 b.toNat:=by
 induction s with
 | nil=>rfl
 | cons b s ih=>simp only[dW,dz,mX] at ih ⊢;rw[ih];rfl
def Qt{E:Env}:∀{s:List UInt8} {vs:List Value},RL E (s.map λb=>V.int .u8 b.toNat) vs->vs=(s.map λb=>(b.toNat:Int)).map (Value.int .u8)
 | [],[],_=>rfl
 | [],_::_,h=>by simp[RL] at h
 | _::_,[],h=>by simp[RL] at h
 | b :: s, v :: vs, h => by
  simp only[dz,RL,R] at h;simp only[dz];rw[h.1,Qt h.2]
def Oj:∀(s:List UInt8) (r:List UInt8),(s.map λb=>(b.toNat:Int)).foldl (λ(r:ByteArray) n=>r.push (UInt8.ofNat n.toNat)) ⟨r.toArray⟩=⟨(r++s).toArray⟩
 | [],r=>by simp
 | b :: s, r => by
  have e:(⟨r.toArray⟩:ByteArray).push (UInt8.ofNat ((b.toNat:Int)).toNat)=⟨(r++[b]).toArray⟩:=by
   apply ByteArray.ext;simp[ByteArray.push]
  simp only[dz,yF,e,Oj s (r++[b])];simp
def auw(hs:bQ E st a){src dst:TypeId}(ho:o.op = .convert src dst x)(h1:P.underlying src=U (.slice e))(h2:P.underlying dst=U .string)(h3:P.underlying e=U (.int .u8))(hx:R E v (a.eval x))
 (hk:∃t s,v = .sl t 1 (dW s)/\K (.aH s) st):o.wp P a E.w (eC E a o.dst K) Q:=by
 obtain⟨t,s,rfl,hk⟩:=hk;simp only[R] at hx;obtain⟨base,cap,hv,_,l8,_⟩:=hx;refine dv hs (v:=.aH s) (x:=.string ⟨s.toArray⟩) ?_ (by simp only[R]) hk;have key:(Conv.bytesToString (a.eval x)).run P E.w = .ok (.string ⟨s.toArray⟩) E.w:=by
  rw[hv]
  rcases l8 with h | ⟨b,off,rfl,hr⟩
  .have HX:s=[]:=by simpa [dW] using h
   subst HX;cases base with
   | none=>simp[Conv.bytesToString];rfl
   | some ad =>
    have:=run_bytesToString (P:=P) E.w ad 0 cap [] (by simp[loadCells,loadCellsFrom])
    simp[dW] at this ⊢;exact this
  .obtain⟨_,h5⟩:=sh.1 hr;obtain⟨vs,k1,k2,_,_⟩:=GI h5;rw[KH] at k1;have e1:=Qt k1;have hl:vs.length=(dW s).length:=by rw[e1];simp[dW]
   have hc:=run_loadCells_list (P:=P) E.w ⟨b,off,ah⟩ vs (λj u hu=>by rw[lS];exact k2 j u hu);rw[hl,e1] at hc
   have:=run_bytesToString (P:=P) E.w ⟨b,off,ah⟩ (dW s).length cap _ hc
   rw[this];have hp:=Oj s [];simp only[kN] at hp;exact jR (λz=>Result.ok (Value.string z) E.w) hp
 rw[hv] at key;simp only[execOp,ho,Sem.run_bind,hv,run_convert_bytes_string E.w src dst e base _ cap h1 h3 h2,key,Result.andThen_ok,Sem.run_pure]
def Y6{E:Env}{b o m n:Nat}(h:gm E k l b o)(sL:m<=n)(hn:n<=l.length):gm E k ((l.take n).drop m) b (o+m*k):=by
 obtain⟨h1,h2⟩:=sh.1 h;refine sh.2 ⟨λx hx=>h1 x (Ea (List.mem_of_mem_drop hx)),?_⟩;have e:l=(l.take n).take m++((l.take n).drop m++l.drop n):=by
  rw[<-fP,pA,pA]
 rw[e,vD,vD,yI,yI] at h2;have hl:((l.take n).take m).flatten.length=m*k:=by
  rw[ni (λx hx=>h1 x (Ea (Ea hx)))];simp only[iu];congr 1;omega
 rw[hl] at h2;exact h2.2.1
def ml{E:Env}(hs:RL E st.t a.tmps.toList){x:Option Operand}{y:Option X}(h:la P t x=U y):
 (x=ah/\y=ah)\/∃u v,x=U u/\y=U v/\R E (ev st v) (a.eval u):=by
 cases x with
 | none=>simp only[la,bg] at h;exact .inl ⟨rfl,h.symm⟩
 | some x =>
  simp only[la,dB] at h;obtain⟨v,hv,rfl⟩:=h;exact .inr ⟨x,v,rfl,rfl,nG hs hv⟩
def rU{j:IntKind}{y:Nat}{c:BoundsCode}(h:n<=y):(Instr.sliceBound (.int j n) y c).run P w = .ok n w:=by
 simp[Instr.sliceBound,asIntOf,h]
def SK(hs:bQ E st a){D:Nat}{v:Value}(ht:st.out.aY D=U l.length)(h:R E (.sl .a9 k l) v):R E (.sl (.tk D) k l) v:=by
 simp only[R] at h ⊢;obtain⟨ad,cap,h1,h2,h3,h4⟩:=h;exact⟨ad,cap,h1,h2,h3,l.length,hs.ok.aY D _ ht,b7 _,λ_=>.inl h4⟩
variable{eg mx' nD:Option X}{hi mx:Option Operand}
def OL{lo:Option Operand}(hs:bQ E st a)(h1:la P t lo=U nD)(h2:la P t hi=U eg)(h3:la P t mx=U mx')(wx:mx'.isSome=aa->eg.isSome=aa){len M:Nat}
 (dT:match (generalizing:=false) nD with | none=>m=0 | some y=>∃j,ev st y = .int j m) (nz:match (generalizing:=false) eg with | none=>n=len | some y=>∃j,ev st y = .int j n) (hM:match (generalizing:=false) mx' with | none=>M=cap | some y=>∃j,ev st y = .int j M)
 (sL:m<=n) (hnM:n<=M) (Lj:M<=cap):(Instr.sliceBounds aa len cap (lo.map a.eval) (hi.map a.eval) (mx.map a.eval)).run P E.w = .ok (m,n,M) E.w:=by
 have e1:∀c,(match (lo.map a.eval:Option Value) with | some v=>Instr.sliceBound v n c | none=>pure 0:Sem Nat).run P E.w = .ok m E.w:=λc=>by
  rcases ml (E:=E) hs.slot h1 with ⟨rfl,rfl⟩ | ⟨u,v,rfl,rfl,hr⟩
  .simp only at dT;subst dT;simp
  .obtain⟨j,hj⟩:=dT;rw[hj] at hr;simp only[R] at hr;simp only[uz,hr];exact rU sL
 rcases ml (E:=E) hs.slot h3 with ⟨rfl,rfl⟩ | ⟨u3,v3,rfl,rfl,A_⟩
 .simp only at hM;subst hM
  rcases ml (E:=E) hs.slot h2 with ⟨rfl,rfl⟩ | ⟨u,v,rfl,rfl,hr⟩
  .simp only at nz;subst nz
   have:=e1 .sliceB
   rcases ml (E:=E) hs.slot h1 with ⟨rfl,rfl⟩ | ⟨u',v',rfl,rfl,cL⟩<;>simp[Instr.sliceBounds] at this ⊢
   .exact this
   .simp[this]
  .obtain⟨j,hj⟩:=nz;rw[hj] at hr;simp only[R] at hr
   have:=e1 .sliceB
   have e2:=rU (P:=P) (w:=E.w) (j:=j) (c:=.sliceAcap) (show n<=M by omega)
   rcases ml (E:=E) hs.slot h1 with ⟨rfl,rfl⟩ | ⟨u',v',rfl,rfl,cL⟩<;>simp[Instr.sliceBounds,hr,e2] at this ⊢
   .exact this
   .simp[this]
 .obtain⟨j3,C3⟩:=hM;rw[C3] at A_;simp only[R] at A_;have e3:=rU (P:=P) (w:=E.w) (j:=j3) (c:=.slice3Acap) Lj
  rcases ml (E:=E) hs.slot h2 with ⟨rfl,rfl⟩ | ⟨u,v,rfl,rfl,hr⟩
  .simp at wx
  .obtain⟨j,hj⟩:=nz;rw[hj] at hr;simp only[R] at hr
   have:=e1 .slice3C
   have e2:=rU (P:=P) (w:=E.w) (j:=j) (c:=.slice3B) hnM
   rcases ml (E:=E) hs.slot h1 with ⟨rfl,rfl⟩ | ⟨u',v',rfl,rfl,cL⟩<;>simp[Instr.sliceBounds,hr,A_,e2,e3] at this ⊢
   .exact this
   .simp[this]
variable{vx:V}
def auN(hs:bQ E st a){lo:Option Operand}(ho:o.op = .slice t x lo hi mx)(ht:P.underlying t=U (.slice e))(hn:eT P e=U k)
 (hx:R E vx (a.eval x)) (h1:la P t lo=U nD) (h2:la P t hi=U eg) (h3:la P t mx=U mx') (wx:mx'.isSome=aa->eg.isSome=aa)
 (hk:∃t l m n,vx = .sl t k l/\m<=n/\n<=l.length/\(match (generalizing:=false) nD with | none=>m=0 | some y=>∃j,ev st y = .int j m)/\(match (generalizing:=false) eg with | none=>n=l.length | some y=>∃j,ev st y = .int j n) /\
   match (generalizing:=false) mx' with
   | none=>K (.sl .no k ((l.take n).drop m)) st
   | some y=>(∃j,ev st y = .int j n)/\K (.sl .a9 k ((l.take n).drop m)) st):o.wp P a E.w (eC E a o.dst K) Q:=by
 obtain⟨tk,l,m,n,rfl,sL,rG,dT,nz,hk⟩:=hk;simp only[R] at hx;obtain⟨base,cap,hv,AV,l8,_⟩:=hx;have key:∀M:Nat,n<=M->M<=cap->(mx' = ah->M=cap)->(mx'.isSome=aa->M=n)->(Instr.sliceBounds aa l.length cap (lo.map a.eval) (hi.map a.eval) (mx.map a.eval)).run P E.w = .ok (m,n,M) E.w:=λM hM Lj hM1 hM2=>by
  have e1:∀c,(match (lo.map a.eval:Option Value) with | some v=>Instr.sliceBound v n c | none=>pure 0:Sem Nat).run P E.w = .ok m E.w:=λc=>by
   rcases ml (E:=E) hs.slot h1 with ⟨rfl,rfl⟩ | ⟨u,v,rfl,rfl,hr⟩
   .simp only at dT;subst dT;simp
   .obtain⟨j,hj⟩:=dT;rw[hj] at hr;simp only[R] at hr;simp only[uz,hr];exact rU sL
  rcases ml (E:=E) hs.slot h3 with ⟨rfl,rfl⟩ | ⟨u3,v3,rfl,rfl,A_⟩
  .obtain rfl:=hM1 rfl
   rcases ml (E:=E) hs.slot h2 with ⟨rfl,rfl⟩ | ⟨u,v,rfl,rfl,hr⟩
   .simp only at nz;subst nz
    have:=e1 .sliceB
    rcases ml (E:=E) hs.slot h1 with ⟨rfl,rfl⟩ | ⟨u',v',rfl,rfl,cL⟩<;>simp[Instr.sliceBounds] at this ⊢
    .exact this
    .simp[this]
   .obtain⟨j,hj⟩:=nz;rw[hj] at hr;simp only[R] at hr
    have:=e1 .sliceB
    have e2:=rU (P:=P) (w:=E.w) (j:=j) (c:=.sliceAcap) (show n<=M by omega)
    rcases ml (E:=E) hs.slot h1 with ⟨rfl,rfl⟩ | ⟨u',v',rfl,rfl,cL⟩<;>simp[Instr.sliceBounds,hr,e2] at this ⊢
    .exact this
    .simp[this]
  .obtain rfl:=hM2 rfl;simp only at hk;obtain⟨⟨j3,C3⟩,hk⟩:=hk;rw[C3] at A_;simp only[R] at A_;have e3:=rU (P:=P) (w:=E.w) (j:=j3) (c:=.slice3Acap) Lj
   rcases ml (E:=E) hs.slot h2 with ⟨rfl,rfl⟩ | ⟨u,v,rfl,rfl,hr⟩
   .simp at wx
   .obtain⟨j,hj⟩:=nz;rw[hj] at hr;simp only[R] at hr
    have:=e1 .slice3C
    have e2:=rU (P:=P) (w:=E.w) (j:=j) (c:=.slice3B) (b7 M)
    rcases ml (E:=E) hs.slot h1 with ⟨rfl,rfl⟩ | ⟨u',v',rfl,rfl,cL⟩<;>simp[Instr.sliceBounds,hr,A_,e2,e3] at this ⊢
    .exact this
    .simp[this]
 have run:∀M:Nat,n<=M->M<=cap->(mx' = ah->M=cap)->(mx'.isSome=aa->M=n)->(execOp a.eval o).run P E.w = .ok (.value (.slice (if M=m then base else base.map (·.add (m*k))) (n - m) (M - m))) E.w:=λM h1 h2 h3 h4=>by
  simp only[execOp,ho,Sem.run_bind,hv];simp[Instr.sliceAt,run_underlying ht,Instr.slice,key M h1 h2 h3 h4,pk hn]
 have val:∀M fK,n<=M->M<=cap->(fK = Tk.no\/(fK = Tk.a9/\M=n))->R E (.sl fK k ((l.take n).drop m)) (.slice (if M=m then base else base.map (·.add (m*k))) (n - m) (M - m)):=λM fK h1 h2 h3=>by
  have hlen:((l.take n).drop m).length=n - m:=by simp;omega
  simp only[R,hlen];refine⟨_,_,rfl,by omega,?_,?_⟩
  .rcases xb m n with an | wm
   .right
    rcases l8 with h | ⟨b,off,rfl,hr⟩
    .subst h;simp at rG;omega
    .refine⟨b,off+m*k,?_,Y6 hr sL rG⟩;rw[aw (by omega)];simp[lS]
   .left;exact sb (by omega)
  .rcases h3 with rfl | ⟨rfl,rfl⟩
   .trivial
   .rfl
 cases mx' with
 | none=>exact dv hs (run cap (by omega) (b7 _) (λ_=>rfl) (λh=>by simp at h)) (val cap .no (by omega) (b7 _) (.inl rfl)) hk
 | some y=>exact dv hs (run n (b7 _) (by omega) (λh=>by simp at h) (λ_=>rfl)) (val n .a9 (b7 _) (by omega) (.inr ⟨rfl,rfl⟩)) hk.2
def auM(hs:bQ E st a){lo:Option Operand}(ho:o.op = .slice t x lo hi ah)(ht:P.underlying t=U .string)
 (hx:R E vx (a.eval x)) (h1:la P t lo=U nD) (h2:la P t hi=U eg)
 (hk:∃s m n,vx = .aH s/\m<=n/\n<=s.length/\(match (generalizing:=false) nD with | none=>m=0 | some y=>∃j,ev st y = .int j m)/\(match (generalizing:=false) eg with | none=>n=s.length | some y=>∃j,ev st y = .int j n)/\K (.aH ((s.take n).drop m)) st) :
 o.wp P a E.w (eC E a o.dst K) Q:=by
 obtain⟨s,m,n,rfl,sL,rG,dT,nz,hk⟩:=hk;simp only[R] at hx;have dd:(⟨s.toArray⟩:ByteArray).size=s.length:=by simp[ByteArray.size]
 have key:(Instr.sliceBounds aq s.length s.length (lo.map a.eval) (hi.map a.eval) ah).run P E.w = .ok (m,n,s.length) E.w:=by
  rcases ml (E:=E) hs.slot h2 with ⟨rfl,rfl⟩ | ⟨u,v,rfl,rfl,hr⟩
  .simp only at nz;subst nz
   rcases ml (E:=E) hs.slot h1 with ⟨rfl,rfl⟩ | ⟨u',v',rfl,rfl,cL⟩
   .simp only at dT;subst dT;simp[Instr.sliceBounds]
   .obtain⟨j',gF⟩:=dT;rw[gF] at cL;simp only[R] at cL;have e2:=rU (P:=P) (w:=E.w) (j:=j') (c:=.sliceB) sL;simp[Instr.sliceBounds,cL,e2]
  .obtain⟨j,hj⟩:=nz;rw[hj] at hr;simp only[R] at hr;have e2:=rU (P:=P) (w:=E.w) (j:=j) (c:=.sliceAlen) rG
   rcases ml (E:=E) hs.slot h1 with ⟨rfl,rfl⟩ | ⟨u',v',rfl,rfl,cL⟩
   .simp only at dT;subst dT;simp[Instr.sliceBounds,hr,e2]
   .obtain⟨j',gF⟩:=dT;rw[gF] at cL;simp only[R] at cL;have e3:=rU (P:=P) (w:=E.w) (j:=j') (c:=.sliceB) sL;simp[Instr.sliceBounds,hr,cL,e2,e3]
 refine dv hs (v:=.aH ((s.take n).drop m)) (x:=.string ⟨((s.take n).drop m).toArray⟩) ?_ (by simp only[R]) hk;have he:(⟨s.toArray⟩:ByteArray).extract m n=⟨((s.take n).drop m).toArray⟩:=by
  apply ByteArray.ext;rw[ByteArray.data_extract];apply D4;simp[JM]
 simp only[execOp,ho,Sem.run_bind,hx];simp[Instr.sliceAt,run_underlying ht,Instr.slice,dd,key,he]
def XG(hu:P.underlying u=U .string)(s:List UInt8):
 ∃news,Src P w 1 (dW s).length u (.string ⟨s.toArray⟩) news/\RL E (dW s).flatten news/\(∀v∈news,v.oneCell' = aa)/\∀y∈dW s,y.length=1:=by
 have dd:(⟨s.toArray⟩:ByteArray).size=s.length:=by simp[ByteArray.size]
 have hx:((⟨s.toArray⟩:ByteArray).extract 0 s.length).data.map (λb:UInt8=>Value.int .u8 (b.toNat:Int))=(s.map λb:UInt8=>Value.int .u8 (b.toNat:Int)).toArray:=by
  apply D4;rw[ByteArray.data_extract];simp
 refine⟨s.map λb=>Value.int .u8 b.toNat,⟨⟨_,hu,λ_ h=>by simp at h⟩,λw' => by simp[Builtin.lenOf,dd,dW],?_,?_,by simp[dW]⟩,?_,?_,?_⟩
 .simp only[Builtin.firstCells,dW,aD,hx,Sem.run_pure]
 .simp only[Builtin.firstCells,dW,aD,hx,Sem.run_pure]
 .rw[KH];induction s with
  | nil=>simp[RL]
  | cons b s ih=>simp only[dz,RL,R];exact⟨trivial,by
   clear dd hx ih;induction s with
   | nil=>simp[RL]
   | cons c s ih=>simp only[dz,RL,R];exact⟨trivial,ih⟩⟩
 .intro v hv;simp only[qv] at hv;obtain⟨b,_,rfl⟩:=hv;rfl
 .intro y hy;simp only[dW,qv] at hy;obtain⟨b,_,rfl⟩:=hy;rfl
def FI{ao:aV}(hl:zB P o=U ao)(hs:bQ E st a)(h:ao.bq P st K):o.wp P a E.w (eC E a o.dst K) Q:=by
 have X:=λ{t:TypeId} {x:Operand} {y:X} (hx:c7 P t x=U y)=>nG (E:=E) (st:=st) (a:=a) hs.slot hx
 have XS:=λ{ts:List TypeId} {xs:List Operand} {ys:List Go.Am.X} (hx:jF P ts xs=U ys)=>NK (E:=E) (st:=st) (a:=a) hs.slot hx
 unfold zB at hl;split at hl
 .rename_i x ho;simp only[dB] at hl;obtain⟨y,hy,rfl⟩:=hl;exact Yn hs (.inl ho) (X hy) h
 .rename_i x ho;simp only[dB] at hl;obtain⟨y,hy,rfl⟩:=hl;exact Yn hs (.inr ho) (X hy) h
 .rename_i c x y ho;split at hl
  case h_2=>simp at hl
  rename_i h1 h2 h3;simp only[bg] at hl;subst hl;exact auL hs ho (X h1) (X h2) (X h3) h
 .rename_i t ho;simp only[dB] at hl;obtain⟨z,hz,rfl⟩:=hl;exact aun hs ho hz h
 .rename_i t x ho;split at hl
  case h_2=>simp at hl
  rename_i h1 h2;simp only[bg] at hl;subst hl;exact aur hs ho (X h2) h.1 h.2
 .rename_i t ps ho;split at hl
  .rename_i z fs hz hu;split at hl
   case isFalse=>simp at hl
   rename_i cT;simp only[dB] at hl;obtain⟨Wb,hp,rfl⟩:=hl;exact wp_build hs ho hz (.inl ⟨fs,hu,cT,rfl⟩) hp h
  .rename_i z k e hz hu;split at hl
   case isFalse=>simp at hl
   rename_i cT;simp only[dB] at hl;obtain⟨Wb,hp,rfl⟩:=hl;exact wp_build hs ho hz (.inr ⟨k,e,hu,cT,rfl⟩) hp h
  .simp at hl
 .rename_i t len ps ho;split at hl
  case h_2=>simp at hl
  rename_i e hu;split at hl
  case h_2=>simp at hl
  rename_i k z xs h1 h2 h3;split at hl
  case isFalse=>simp at hl
  rename_i hc;simp only[bg] at hl;subst hl;exact aut hs ho hu h1 h2 h3 hc.1 hc.2.1 h
 .rename_i t x ho;split at hl
  case h_2=>simp at hl
  rename_i h1 h2 h3;simp only[bg] at hl;subst hl;exact auH hs ho h1 h2 (X h3) h
 .rename_i t x y ho;split at hl
  case h_2=>simp at hl
  rename_i n ax ay h1 h2 h3;split at hl
  .simp at hl
  rename_i xM;simp only[bg] at hl;subst hl;simp only[aV.bq] at h;split at h
  case h_2=>exact h.elim
  rename_i aU fv;exact Yq hs (Nat.pos_of_ne_zero xM) ho h1 (X h2) (X h3) fv h
 .rename_i x ho;simp only[dB] at hl;obtain⟨y,hy,rfl⟩:=hl;exact auJ hs ho (X hy) h
 .rename_i op t x y t' ho;split at hl
  case h_2=>simp at hl
  rename_i ax ay h1 h2;split at hl
  .simp only[bg] at hl;subst hl;exact aup hs ho (X h1) (X h2) h
  .split at hl
   .simp only[bg] at hl;subst hl;exact auv hs ho (X h1) (X h2) h
   .simp only[bg] at hl;subst hl;exact auq hs ho (X h1) (X h2) h
  .rename_i hu;split at hl
   .simp only[bg] at hl;subst hl;exact Yi hs (neg:=false) rfl hu ho (X h1) (X h2) h
   .simp only[bg] at hl;subst hl;exact Yi hs (neg:=true) rfl hu ho (X h1) (X h2) h
   .simp at hl
  .rename_i fs hu;split at hl
   case h_2=>simp at hl
   rename_i ks fp;split at hl
   .simp only[bg] at hl;subst hl;exact Jt hs (neg:=false) rfl fp ho (by simp[iv,hu]) (X h1) (X h2) h
   .simp only[bg] at hl;subst hl;exact Jt hs (neg:=true) rfl fp ho (by simp[iv,hu]) (X h1) (X h2) h
   .simp at hl
  .rename_i fs e hu;split at hl
   case h_2=>simp at hl
   rename_i ks fp;split at hl
   .simp only[bg] at hl;subst hl;exact Jt hs (neg:=false) rfl fp ho (by simp[iv,hu]) (X h1) (X h2) h
   .simp only[bg] at hl;subst hl;exact Jt hs (neg:=true) rfl fp ho (by simp[iv,hu]) (X h1) (X h2) h
   .simp at hl
  .simp at hl
 .rename_i t x ho;simp only[dB] at hl;obtain⟨y,hy,rfl⟩:=hl;exact auK hs ho (X hy) h
 .rename_i src dst x ho;split at hl
  .rename_i h1 h2 h3;simp only[bg] at hl;subst hl;exact auy hs ho h1 h2 (X h3) h
  .rename_i h1 h2 h3;split at hl
   case h_2=>simp at hl
   rename_i h4;simp only[bg] at hl;subst hl;exact auw hs ho h1 h2 h4 (X h3) h
  .simp at hl
 .rename_i f first cap ho
  split at hl
  case h_2=>simp at hl
  rename_i h1 h2;simp only[bg] at hl;subst hl;exact auI hs ho (XS h1) (XS h2) h
 .rename_i t x lo hi mx ho;split at hl
  case h_2=>simp at hl
  rename_i h1 h2 h3 h4;split at hl
  .rename_i e hu;split at hl
   case h_2=>simp at hl
   rename_i k hk;split at hl
   case isFalse=>simp at hl
   rename_i wx;simp only[bg] at hl;subst hl;simp only[aV.bq] at h
   rcases h with h | ⟨base,n,cap,m,hh,e1,k1,k2,g1,g2,g3,hK⟩
   .exact auN hs ho hu hk (X h1) h2 h3 h4 wx h
   .have gh:=X h1;rw[e1] at gh;simp only[R] at gh;rename_i mx' _ _;have g3:mx' = none:=by cases mx' with | none=>rfl | some _=>simp at g3
    subst g3;have hb:=OL (P:=P) (M:=cap) hs h2 h3 h4 wx g1 g2 rfl k1 k2 (b7 _);refine dv hs (v:=.raw _) (x:=.slice (if cap=m then base else base.map (·.add (m*k))) (hh - m) (cap - m)) ?_ (by simp only[R]) hK;simp only[execOp,ho,Sem.run_bind,gh];simp[Instr.sliceAt,run_underlying hu,Instr.slice,hb,pk hk]
  .rename_i hu;split at hl
   case h_2=>simp at hl
   simp only[bg] at hl;subst hl;have wx:mx=none:=by cases mx with | none=>rfl | some m=>simp[la] at h4
   subst wx;exact auM hs ho hu (X h1) h2 h3 h
  .simp at hl
 .rename_i s x i ho;split at hl
  case h_2=>simp at hl
  rename_i fs y h1 h2;split at hl
  case h_2=>simp at hl
  rename_i f hf;split at hl
  case h_2=>simp at hl
  rename_i n hn;split at hl
  .simp at hl
  rename_i xM;simp only[bg] at hl;subst hl;exact auA hs ho h1 hf hn xM (X h2) h
 .rename_i s x i ho;split at hl
  case h_2=>simp at hl
  rename_i fs y h1 h2;split at hl
  case h_2=>simp at hl
  rename_i f hf;split at hl
  case h_2=>simp at hl
  rename_i g n hg hn;simp only[bg] at hl;subst hl;exact auB hs ho h1 hf hg hn (X h2) h
 .rename_i t x i ho;split at hl
  case h_3=>simp at hl
  case h_1 =>
   rename_i e ax ai h1 h2 h3;simp only[dB] at hl;obtain⟨k,hk,rfl⟩:=hl;exact auC hs ho h1 hk (X h2) (X h3) h
  case h_2 =>
   rename_i m e ax ai h1 h2 h3;simp only[dB] at hl;obtain⟨k,hk,rfl⟩:=hl;exact auD hs ho h1 hk (X h2) (X h3) h
 .rename_i t x i ho;split at hl
  case h_2=>simp at hl
  rename_i ax ai h1 h2 h3;simp only[bg] at hl;subst hl;exact auE hs ho h1 (X h2) (X h3) h
 .rename_i x i ho;simp only[dB] at hl;obtain⟨y,hy,rfl⟩:=hl;exact auz hs ho (X hy) h
 .rename_i c ho;obtain⟨callee,args,argTypes⟩:=c;simp only at hl;split at hl
  .rename_i f;simp only[dB] at hl;obtain⟨ys,qN,rfl⟩:=hl;refine Yk hs (vs:=args.map a.eval) (by simpa using XS qN) h.1 h.2 ?_;simp[execOp,ho,resolve,Act.eval,Deferred.ofValue,invoke]
  .rename_i x;split at hl
   case h_2=>simp at hl
   rename_i y ys h1 h2;simp only[bg] at hl;subst hl;have hx:=X h1;simp only[aV.bq] at h;split at h
   case h_2=>exact h.elim
   rename_i f as bs LO;rw[LO] at hx;simp only[R] at hx;obtain⟨fs,cs,he,r1,r2⟩:=hx;refine Yk hs (vs:=fs++args.map a.eval++cs) (by simpa using vO (vO r1 (XS h2)) r2) h.1 h.2 ?_;simp[execOp,ho,resolve,he,Deferred.ofValue,invoke]
  .split at hl
   case h_2=>simp at hl
   rename_i t x ht hx;have e1:argTypes=#[t]:=by cases argTypes;simpa using ht
   have e2:args=#[x]:=by cases args;simpa using hx
   subst e1;subst e2;split at hl
   .rename_i e y hu hy;simp only[bg] at hl;subst hl;exact auF hs ho hu (X hy) h
   .rename_i y hu hy;simp only[bg] at hl;subst hl;exact auG hs ho hu (X hy) h
   .simp at hl
  .split at hl
   case h_2=>simp at hl
   rename_i t u s x ht hx;have e1:argTypes=#[t,u]:=by cases argTypes;simpa using ht
   have e2:args=#[s,x]:=by cases args;simpa using hx
   subst e1;subst e2;have dx:(execOp a.eval o).run P E.w=((Builtin.append_ #[t,u] o.type #[a.eval s,a.eval x]).run P E.w).andThen λv w' => .ok (.value v) w' := by
    simp[execOp,ho,resolve,invoke,builtin]
   split at hl
   .rename_i e e' ys yx h1 h2 h3 h4;split at hl
    case h_2=>simp at hl
    rename_i i z hi hz;split at hl
    case isFalse=>simp at hl
    rename_i hc;obtain⟨rfl,ny,gg⟩:=hc;simp only[bg] at hl;subst hl;obtain⟨i',zv,k1,k2,k3,k4⟩:=uq hz;rw[hi] at k1;simp only[bg] at k1;subst k1;have jo:zv.cells.size=i.size:=by have:=gb (sr (E:=E) k3);simp at this;omega
    simp only[aV.bq,re] at h;obtain⟨tk,l,m,es,⟨t',ex⟩,iP,hk⟩:=h;have hS:=X h3;have hX:=X h4;rw[es] at hS;rw[ex] at hX;obtain⟨news,q1,q2,q3,q4⟩:=I9 (P:=P) h2 hX;cases tk with
    | no=>exact hk.elim
    | tk D=>exact Gk hs h1 hi k2 jo ny dx hS q1 q2 q3 q4 iP hk
    | a9 =>
     rcases hk with hk | hk | ⟨D,h5,h6⟩
     .exact Gk hs h1 hi k2 jo ny dx hS q1 q2 q3 q4 iP (.inl hk)
     .exact Gk hs h1 hi k2 jo ny dx hS q1 q2 q3 q4 iP (.inr hk)
     .exact Gk hs h1 hi k2 jo ny dx (tk:=.tk D) (SK hs h5 hS) q1 q2 q3 q4 iP ⟨h5,h6⟩
   .rename_i e ys yx h1 h2 h3 h4;split at hl
    case h_2=>simp at hl
    rename_i i z hi hz;split at hl
    case h_2=>simp at hl
    split at hl
    case isFalse=>simp at hl
    rename_i hc;simp only[bg] at hl;subst hl;obtain⟨i',zv,k1,k2,k3,k4⟩:=uq hz;rw[hi] at k1;simp only[bg] at k1;subst k1;have jo:zv.cells.size=i.size:=by have:=gb (sr (E:=E) k3);simp at this;omega
    simp only[aV.bq,re] at h;obtain⟨s',ex,tk,l,m,es,⟨t',em⟩,iP,hk⟩:=h;simp only[V.sl.injEq,mA] at em;obtain⟨_,rfl⟩:=em;have hS:=X h3;have hX:=X h4;rw[es] at hS;rw[ex] at hX;simp only[R] at hX;obtain⟨news,q1,q2,q3,q4⟩:=XG (P:=P) (E:=E.nl) (w:=E.w) h2 s';have Hs:i.size=1:=hc.1;have fin:∀tk,R E (.sl tk 1 l) (a.eval s)->(match (generalizing:=false) tk with
     | .a9=>(∀D,st.out.aY D=ah->K (.sl (.tk D) 1 (l++dW s')) ⟨st.t,st.au,st.out.ba D (l.length+(dW s').length)⟩)\/K (.sl .no 1 (l++dW s')) st
     | .tk D=>st.out.aY D=U l.length/\K (.sl (.tk D) 1 (l++dW s')) ⟨st.t,st.au,st.out.ba D (l.length+(dW s').length)⟩
     | .no=>False)->o.wp P a E.w (eC E a o.dst K) Q:=λtk hS hk=>by
     refine Gk hs h1 hi k2 jo (by omega) dx (tk:=tk) (l:=l) (m:=dW s') (news:=news) (by rw[Hs];exact hS) (by rw[Hs,hX];exact q1) q2 q3 (by rw[Hs];exact q4) iP ?_;rw[Hs];exact hk
    cases tk with
    | no=>exact hk.elim
    | tk D=>exact fin _ hS hk
    | a9 =>
     rcases hk with hk | hk | ⟨D,h5,h6⟩
     .exact fin _ hS (.inl hk)
     .exact fin _ hS (.inr hk)
     .exact fin (.tk D) (SK hs h5 hS) ⟨h5,h6⟩
   .simp at hl
  .simp at hl
 .simp at hl
end
def X.slot:X->List Nat
 | .s n=>[n]
 | .c _=>[]
def ue:Option X->List X
 | none=>[]
 | some x=>[x]
def aV.xs:aV->List X
 | .mv x | .box _ x | .vW _ x | .gY _ x | .load _ _ x | .wJ x | .not x | .wG x | .wH x | .pJ _ x | .v8 _ _ _ x | .ext x _ | .pG _ x | .vY x=>[x]
 | .pick c a b=>[c,a,b]
 | .alloc _ | .qy _=>[]
 | .build _ ps=>ps.map (·.2.2)
 | .km _ xs | .call _ xs | .own _ xs=>xs
 | .store _ a x | .dV _ a x | .kQ _ a x | .tt _ a x | .cat a x | .kn _ _ a x | .CD _ a x | .tX _ a x | .tY a x | .sO _ _ a x | .app _ a x | .nV a x=>[a,x]
 | .iV x xs=>x::xs
 | .mu _ x lo hi mx=>x::(ue lo++ue hi++ue mx)
 | .zV x lo hi=>x::(ue lo++ue hi)
 | .kb _ first cap=>first++cap
def aV.bC:aV->Bool
 | .alloc _ | .box _ _ | .vW _ _ | .qy _ | .gY _ _ | .store _ _ _ | .call _ _ | .iV _ _ | .app _ _ _ | .nV _ _=>aa
 | .own q _=>!q.pure
 | _=>aq
def aV.Dl:aV->Bool
 | .load _ _ _=>aa
 | _=>aq
abbrev dC:=List (List V) × ab
def cq(t:List V)(s:dC):St:=⟨t,s.1,s.2⟩
def Exact(t:List V)(v:V)(s:dC):V->St->Prop:=λv' aU => v' = v/\aU = cq t s
variable{s:dC}
def adU{t t2:List V}{s2:dC}{x:X}(h:∀n∈x.slot,t2.getD n .any=t.getD n .any):ev (cq t2 s2) x=ev (cq t s) x:=by
 cases x with
 | s n=>exact h n (by simp[X.slot])
 | c v=>rfl
def CG{t t2:List V}{s s2:dC}:∀{xs:List X},(∀x∈xs,ev (cq t2 s2) x=ev (cq t s) x)->dw (cq t2 s2) xs=dw (cq t s) xs
 | [],_=>rfl
 | x :: xs, h => by
  simp only[fh] at h;simp only[dw,h.1,CG h.2]
def Q3{t t2:List V}{s s2:dC}:∀{ps:List (Nat × Nat × X)} {z:List V},(∀x∈ps.map (·.2.2),ev (cq t2 s2) x=ev (cq t s) x)->pD (cq t2 s2) z ps=pD (cq t s) z ps
 | [],_,_=>rfl
 | (off, n, x) :: ps, z, h => by
  simp only[dz,fh] at h;simp only[pD,h.1,Q3 h.2]
def WS{t t2:List V}{s s2:dC}{k:Nat}:∀{xs:List X},(∀x∈xs,ev (cq t2 s2) x=ev (cq t s) x)->lL (cq t2 s2) k xs=lL (cq t s) k xs
 | [],_=>rfl
 | x :: xs, h => by
  simp only[fh] at h;simp only[lL,h.1,WS h.2]
def sS(s:dC)(g:Bool)(n:Nat)(a:V):Option V:=lF (cq [] s) g n a
variable{g:Bool}
def UL{t:List V}{a:V}:lF (cq t s) g n a=sS s g n a:=by
 unfold sS;cases a<;>simp only[lF];rename_i p o;cases p<;>rfl
def mk_inj{t:List V}{A:List (List V)}{B:ab}(h:(⟨t,A,B⟩:St)=cq t s):s=(A,B):=by
 have:=jR (λq:St=>(q.au,q.out)) h
 exact this.symm
section
variable {P:Program}
def ar4{op:aV}{t t2:List V}{s2 s':dC}(hx:∀x∈op.xs,ev (cq t2 s2) x=ev (cq t s) x)(uT:op.bC=aa->s2=s)
 (xL:∀g n x,op = .load g n x->sS s2 g n (ev (cq t s) x)=U v) (h:op.bq P (cq t s) (Exact t v s')) :
 op.bq P (cq t2 s2) (Exact t2 v (if op.bC then s' else s2)):=by
 cases op with
 | mv x =>
  simp only[aV.xs,fh] at hx;simp only[aV.bq,Exact] at h ⊢;exact⟨by rw[hx.1];exact h.1,rfl⟩
 | pick c a b =>
  simp only[aV.xs,fh] at hx;simp only[aV.bq] at h ⊢;rw[hx.1,hx.2.1,hx.2.2.1];split at h
  .exact⟨h.1,rfl⟩
  .exact⟨h.1,rfl⟩
  .exact h.elim
 | alloc z =>
  obtain rfl:=uT rfl;simp only[aV.bq,Exact] at h ⊢;obtain rfl:=mk_inj h.2;exact⟨h.1,by simp[aV.bC,cq]⟩
 | box n x =>
  obtain rfl:=uT rfl;simp only[aV.xs,fh] at hx;simp only[aV.bq,Exact] at h ⊢;rw[hx.1];obtain rfl:=mk_inj h.2.2;exact⟨h.1,h.2.1,by simp[aV.bC,cq]⟩
 | vW n x =>
  obtain rfl:=uT rfl;simp only[aV.xs,fh] at hx;simp only[aV.bq,Exact] at h ⊢;rw[hx.1];obtain rfl:=mk_inj h.2.2.2;exact⟨h.1,h.2.1,h.2.2.1,by simp[aV.bC,cq]⟩
 | build z ps =>
  simp only[aV.bq] at h ⊢;rw[Q3 (ps:=ps) hx];cases hb:(pD (cq t s) z ps).map V.agg with
  | none=>rw[hb] at h;exact h.elim
  | some u=>rw[hb] at h;exact⟨h.1,rfl⟩
 | km k xs =>
  simp only[aV.bq] at h ⊢;rw[WS (xs:=xs) hx];cases hb:(lL (cq t s) k xs).map (V.sl .a9 k) with
  | none=>rw[hb] at h;exact h.elim
  | some u=>rw[hb] at h;exact⟨h.1,rfl⟩
 | load g n x =>
  simp only[aV.xs,fh] at hx;simp only[aV.bq] at h ⊢;rw[hx.1,UL,xL g n x rfl];exact⟨rfl,rfl⟩
 | store n a x =>
  obtain rfl:=uT rfl;simp only[aV.xs,fh] at hx;simp only[aV.bq] at h ⊢;rw[hx.1,hx.2.1];generalize ev (cq t s2) x=xv at h ⊢;generalize ev (cq t s2) a=av at h ⊢;have key:∀aU,dU (cq t s2) n xv av=U aU -> dU (cq t2 s2) n xv av=U (cq t2 (aU.au,aU.out)):=λaU he=>by
   cases av with
   | ptr p off =>
    cases p with
    | kS b=>simp[dU] at he
    | au i =>
     simp only[dU,cq,iK] at he ⊢;obtain⟨cs,h1,h2⟩:=he;refine⟨cs,h1,?_⟩
     by_cases hc:cB n (cs.drop off)=aa/\xv.wd=U n/\c8 xv.cells=aa
     .rw[aI hc] at h2 ⊢;simp only[bg] at h2;subst h2;rfl
     .rw[aw hc] at h2;simp at h2
    | out b =>
     simp only[dU,cq,iK] at he ⊢;obtain⟨cs,h1,h2⟩:=he;refine⟨cs,h1,?_⟩
     by_cases hc:cB n (cs.drop off)=aa/\xv.wd=U n/\c8 xv.cells=aa/\bS xv.cells=aa
     .rw[aI hc] at h2 ⊢;simp only[bg] at h2;subst h2;rfl
     .rw[aw hc] at h2;simp at h2
   | _=>simp[dU] at he
  split at h
  case h_2=>exact h.elim
  rename_i aU he;rw[key aU he]
  have:=jR (λq:St=>(q.au,q.out)) h.2
  have h2:(aU.au,aU.out)=s' := this;exact⟨h.1,by rw[h2];rfl⟩
 | wJ x =>
  simp only[aV.xs,fh] at hx;simp only[aV.bq] at h ⊢;rw[hx.1];split at h<;>first | exact⟨h.1,rfl⟩ | exact h.elim
 | dV op x y =>
  simp only[aV.xs,fh] at hx;simp only[aV.bq] at h ⊢;rw[hx.1,hx.2.1];cases hb:vV op (ev (cq t s) x) (ev (cq t s) y) with
  | none=>rw[hb] at h;exact h.elim
  | some u=>rw[hb] at h;exact⟨h.1,rfl⟩
 | kQ op x y =>
  simp only[aV.xs,fh] at hx;simp only[aV.bq] at h ⊢;rw[hx.1,hx.2.1];cases hb:Av op (ev (cq t s) x) (ev (cq t s) y) with
  | none=>rw[hb] at h;exact h.elim
  | some u=>rw[hb] at h;exact⟨h.1,rfl⟩
 | tt neg x y =>
  simp only[aV.xs,fh] at hx;simp only[aV.bq] at h ⊢;rw[hx.1,hx.2.1];cases hb:yX neg (ev (cq t s) x) (ev (cq t s) y) with
  | none=>rw[hb] at h;exact h.elim
  | some u=>rw[hb] at h;exact⟨h.1,rfl⟩
 | cat x y =>
  simp only[aV.xs,fh] at hx;simp only[aV.bq] at h ⊢;rw[hx.1,hx.2.1];obtain⟨a,b,h1,h2,h3,h4⟩:=h;exact⟨a,b,h1,h2,h3,h4.1,rfl⟩
 | kn neg n x y =>
  simp only[aV.xs,fh] at hx;simp only[aV.bq] at h ⊢;rw[hx.1,hx.2.1];cases hb:yW neg n (ev (cq t s) x) (ev (cq t s) y) with
  | none=>rw[hb] at h;exact h.elim
  | some u=>rw[hb] at h;exact⟨h.1,rfl⟩
 | CD neg x y =>
  simp only[aV.xs,fh] at hx;simp only[aV.bq] at h ⊢;rw[hx.1,hx.2.1];split at h
  .rename_i e1 e2;exact⟨h.1,h.2.1,rfl⟩
  .exact h.elim
 | not x =>
  simp only[aV.xs,fh] at hx;simp only[aV.bq] at h ⊢;rw[hx.1];split at h
  .exact⟨h.1,rfl⟩
  .exact h.elim
 | wG x =>
  simp only[aV.xs,fh] at hx;simp only[aV.bq] at h ⊢;rw[hx.1];split at h
  .exact⟨h.1,rfl⟩
  .exact⟨h.1,rfl⟩
  .exact h.elim
 | wH x =>
  simp only[aV.xs,fh] at hx;simp only[aV.bq] at h ⊢;rw[hx.1];split at h
  .exact⟨h.1,rfl⟩
  .exact h.elim
 | pJ off x =>
  simp only[aV.xs,fh] at hx;simp only[aV.bq] at h ⊢;rw[hx.1];split at h
  .exact⟨h.1,rfl⟩
  .exact⟨h.1,rfl⟩
  .exact h.elim
 | v8 g off n x =>
  simp only[aV.xs,fh] at hx;simp only[aV.bq] at h ⊢;rw[hx.1];split at h
  case h_2=>exact h.elim
  rename_i cs e;cases hb:bX g n (cs.drop off) with
  | none=>rw[hb] at h;exact h.elim
  | some u=>rw[hb] at h;exact⟨h.1,rfl⟩
 | tX k x i =>
  simp only[aV.xs,fh] at hx;simp only[aV.bq] at h ⊢;rw[hx.1,hx.2.1];split at h
  .obtain⟨h1,k',n,c,h2,h3,h4,h5⟩:=h;exact⟨h1,k',n,c,h2,h3,h4,h5.1,rfl⟩
  .obtain⟨k',n,h2,h3,h4,h5⟩:=h;exact⟨k',n,h2,h3,h4,h5.1,rfl⟩
  .exact h.elim
 | sO m k x i =>
  simp only[aV.xs,fh] at hx;simp only[aV.bq] at h ⊢;rw[hx.1,hx.2.1];split at h
  .obtain⟨kk,n,h1,h2,h3,h4⟩:=h;exact⟨kk,n,h1,h2,h3,h4.1,rfl⟩
  .obtain⟨kk,n,h1,h2,h3,h4⟩:=h;exact⟨kk,n,h1,h2,h3,h4.1,rfl⟩
  .exact h.elim
 | tY x i =>
  simp only[aV.xs,fh] at hx;simp only[aV.bq] at h ⊢;rw[hx.1,hx.2.1];split at h
  case h_2=>exact h.elim
  obtain⟨k',n,c,h2,h3,h4,h5⟩:=h;exact⟨k',n,c,h2,h3,h4,h5.1,rfl⟩
 | call f xs =>
  obtain rfl:=uT rfl;simp only[aV.bq] at h ⊢;rw[CG (xs:=xs) hx];refine⟨h.1,h.2.mono λu Z hu=>?_⟩;obtain rfl:=mk_inj hu.2;exact⟨hu.1,rfl⟩
 | iV x xs =>
  obtain rfl:=uT rfl;simp only[aV.xs,fh] at hx;simp only[aV.bq] at h ⊢;rw[hx.1,CG hx.2];split at h
  case h_2=>exact h.elim
  refine⟨h.1,h.2.mono λu Z hu=>?_⟩;obtain rfl:=mk_inj hu.2;exact⟨hu.1,rfl⟩
 | app k x y =>
  obtain rfl:=uT rfl;simp only[aV.xs,fh] at hx;simp only[aV.bq,re] at h ⊢;rw[hx.1,hx.2.1];obtain⟨tk,l,m,h1,h2,h3,h4⟩:=h;refine⟨tk,l,m,h1,h2,h3,?_⟩;have conv:∀{u:V} {Z:ab},Exact t v s' u ⟨t,s2.1,Z⟩->Exact t2 v (if (aV.app k x y).bC then s' else s2) u ⟨t2,s2.1,Z⟩:=λ{u Z} hu=>by
   obtain rfl:=mk_inj hu.2;exact⟨hu.1,rfl⟩
  cases tk with
  | no=>exact h4
  | a9 =>
   rcases h4 with h4 | h4 | ⟨D,h4,h5⟩
   .exact .inl λD a_=>conv (h4 D a_)
   .exact .inr (.inl (conv h4))
   .exact .inr (.inr ⟨D,h4,conv h5⟩)
  | tk D=>exact⟨h4.1,conv h4.2⟩
 | nV x y =>
  obtain rfl:=uT rfl;simp only[aV.xs,fh] at hx;simp only[aV.bq,re] at h ⊢;rw[hx.1,hx.2.1];obtain⟨aH,h0,tk,l,m,h1,h2,h3,h4⟩:=h;refine⟨aH,h0,tk,l,m,h1,h2,h3,?_⟩;have conv:∀{u:V} {Z:ab},Exact t v s' u ⟨t,s2.1,Z⟩->Exact t2 v (if (aV.nV x y).bC then s' else s2) u ⟨t2,s2.1,Z⟩:=λ{u Z} hu=>by
   obtain rfl:=mk_inj hu.2;exact⟨hu.1,rfl⟩
  cases tk with
  | no=>exact h4
  | a9 =>
   rcases h4 with h4 | h4 | ⟨D,h4,h5⟩
   .exact .inl λD a_=>conv (h4 D a_)
   .exact .inr (.inl (conv h4))
   .exact .inr (.inr ⟨D,h4,conv h5⟩)
  | tk D=>exact⟨h4.1,conv h4.2⟩
 | mu k x lo hi mx =>
  simp only[aV.xs,fh] at hx;simp only[aV.bq] at h ⊢;rw[hx.1]
  rcases h with ⟨tk,l,m,n,h1,h2,h3,h4,h5,h6⟩ | ⟨a,n,cap,m,hh,h1,h2,h3,h4,h5,h6,h7⟩
  .refine .inl ⟨tk,l,m,n,h1,h2,h3,?_,?_,?_⟩
   .cases lo with
    | none=>exact h4
    | some y=>simp only at h4 ⊢;rw[hx.2 y (by simp[ue])];exact h4
   .cases hi with
    | none=>exact h5
    | some y=>simp only at h5 ⊢;rw[hx.2 y (by simp[ue])];exact h5
   .cases mx with
    | none=>exact⟨h6.1,rfl⟩
    | some y=>simp only at h6 ⊢;rw[hx.2 y (by simp[ue])];exact⟨h6.1,h6.2.1,rfl⟩
  .refine .inr ⟨a,n,cap,m,hh,h1,h2,h3,?_,?_,h6,h7.1,rfl⟩
   .cases lo with
    | none=>exact h4
    | some y=>simp only at h4 ⊢;rw[hx.2 y (by simp[ue])];exact h4
   .cases hi with
    | none=>exact h5
    | some y=>simp only at h5 ⊢;rw[hx.2 y (by simp[ue])];exact h5
 | zV x lo hi =>
  simp only[aV.xs,fh] at hx;simp only[aV.bq] at h ⊢;rw[hx.1];obtain⟨l,m,n,h1,h2,h3,h4,h5,h6⟩:=h;refine⟨l,m,n,h1,h2,h3,?_,?_,h6.1,rfl⟩
  .cases lo with
   | none=>exact h4
   | some y=>simp only at h4 ⊢;rw[hx.2 y (by simp[ue])];exact h4
  .cases hi with
   | none=>exact h5
   | some y=>simp only at h5 ⊢;rw[hx.2 y (by simp[ue])];exact h5
 | ext x i =>
  simp only[aV.xs,fh] at hx;simp only[aV.bq] at h ⊢;rw[hx.1];split at h
  case h_2=>exact h.elim
  rename_i vs e;cases hb:vs[i]? with
  | none=>rw[hb] at h;exact h.elim
  | some u=>rw[hb] at h;exact⟨h.1,rfl⟩
 | kb f first cap =>
  simp only[aV.xs,List.forall_mem_append] at hx;simp only[aV.bq] at h ⊢;rw[CG hx.1,CG hx.2];exact⟨h.1,rfl⟩
 | pG k x =>
  simp only[aV.xs,fh] at hx;simp only[aV.bq] at h ⊢;rw[hx.1];split at h
  .exact⟨h.1,rfl⟩
  .exact h.elim
 | vY x =>
  simp only[aV.xs,fh] at hx;simp only[aV.bq] at h ⊢;rw[hx.1];obtain⟨tk,aH,h1,h2⟩:=h;exact⟨tk,aH,h1,h2.1,rfl⟩
 | qy z =>
  obtain rfl:=uT rfl;simp only[aV.bq,Exact] at h ⊢;refine⟨h.1,λb hb=>?_⟩;obtain⟨h1,h2⟩:=h.2 b hb;obtain rfl:=mk_inj h2;exact⟨h1,by simp[aV.bC,cq]⟩
 | gY n x =>
  obtain rfl:=uT rfl;simp only[aV.xs,fh] at hx;simp only[aV.bq,Exact] at h ⊢;rw[hx.1];refine⟨h.1,h.2.1,λb hb=>?_⟩;obtain⟨h1,h2⟩:=h.2.2 b hb;obtain rfl:=mk_inj h2;exact⟨h1,by simp[aV.bC,cq]⟩
 | own q xs =>
  simp only[aV.bq,aV.xs] at h hx ⊢;rw[CG hx];cases hp:q.pure
  .have he:(aV.own q xs).bC=true:=by simp[aV.bC,hp]
   obtain rfl:=uT he;refine OQ.mono (λu σ' hu=>?_) q _ h;obtain rfl:=mk_inj hu.2;exact⟨hu.1,by rw[aI he];rfl⟩
  .have he:¬((aV.own q xs).bC=aa):=by simp[aV.bC,hp]
   obtain⟨u,h1,h2⟩:=OQ.RG hp h;exact h2 _ _ ⟨h1.1,by rw[aw he]⟩
end
def Gm(Z:ab)(k:Nat)(s x:V)(K:V->ab->Prop):Prop :=
 ∃t l m,s = .sl t k l/\(∃t',x = .sl t' k m)/\l.length+m.length<=aJ /\
  match t with
  | .a9=>K (.sl .no k (l++m)) Z\/∃D,Z.aY D=U l.length/\K (.sl (.tk D) k (l++m)) (Z.ba D (l.length+m.length))
  | .tk D=>Z.aY D=U l.length/\K (.sl (.tk D) k (l++m)) (Z.ba D (l.length+m.length))
  | .no=>False
def aV.mq(P:Program)(st:St)(K:V->St->Prop):aV->Prop
 | .call f xs=>bS (dw st xs)=aa/\∃v Z,cF P f (dw st xs) st.out (λv' σ' => v' = v/\σ' = Z)/\K v ⟨st.t,st.au,Z⟩
 | .iV x xs => match ev st x with
  | .fn (.func f) a b=>bS (a++dw st xs++b)=aa/\∃v Z,cF P f (a++dw st xs++b) st.out (λv' σ' => v' = v/\σ' = Z)/\K v ⟨st.t,st.au,Z⟩
  | _=>False
 | .app k s x=>Gm st.out k (ev st s) (ev st x) λv Z=>K v ⟨st.t,st.au,Z⟩
 | .nV s x=>∃a,ev st x = .aH a/\Gm st.out 1 (ev st s) (.sl .no 1 (dW a)) λv Z=>K v ⟨st.t,st.au,Z⟩
 | .qy _ | .gY _ _=>False
 | .own q xs=>q.pure=aa/\q.bq st.out (λv Z=>K v ⟨st.t,st.au,Z⟩) (dw st xs)
 | op=>op.bq P st K
structure TR where
 dst:Option Nat
 val:V
 bC:Bool
 zZ:dC
def kE(t:List V)(d:Option Nat)(v:V):List V :=
 match d with
 | some n=>t.set n v
 | none=>t
def FV(t:List V)(s:dC)(d:Option Nat)(v:V):(cq t s).put d v=cq (kE t d v) s:=by cases d<;>rfl
def DP:dC:=([],⟨λ_=>ah,λ_=>ah,λ_=>ah⟩)
def Az(SN:List dC)(g:Bool)(n:Nat)(a v:V):List Nat->Prop
 | []=>True
 | m::ms=>sS (SN.getD m DP) g n a=U v/\Az SN g n a v ms
def rm(SN:List dC):List (V × Bool × Nat × V × List Nat)->Prop
 | []=>True
 | (a,g,n,v,ms)::r=>Az SN g n a v ms/\rm SN r
def Q6{SN:List dC}{g:Bool}{n:Nat}{a v:V}:∀{ms:List Nat},Az SN g n a v ms->∀m∈ms,sS (SN.getD m DP) g n a=U v
 | [],_,_,h=>by simp at h
 | m :: ms, h, m', h' => by
  rcases pz.1 h' with rfl | h'
  .exact h.1
  .exact Q6 h.2 m' h'
def Nt(st:St)(ms:List Nat)(v:V):aV->List (V × Bool × Nat × V × List Nat)
 | .load g n x=>[(ev st x,g,n,v,ms)]
 | _=>[]
def cK(P:Program):List (AO × List Nat)->List dC->List (V × Bool × Nat × V × List Nat)->(St->Prop)->St->Prop
 | [],SN,L,K,st=>rm SN L/\K st
 | (o, ms) :: r, SN, L, K, st =>
  match o.guard with
  | none=>o.op.mq P st λv aU => cK P r (if o.op.bC then SN++[(aU.au,aU.out)] else SN) (Nt st ms v o.op++L) K (aU.put o.dst v)
  | some (g, want) =>
   match ev st (.s g) with
   | .bool b =>
    if b=want then o.op.mq P st λv aU => cK P r (if o.op.bC then SN++[(aU.au,aU.out)] else SN) (Nt st ms v o.op++L) K (aU.put o.dst v)
    else cK P r (if o.op.bC then SN++[(st.au,st.out)] else SN) L K (st.put o.dst (.bz []))
   | .bz []=>cK P r (if o.op.bC then SN++[(st.au,st.out)] else SN) L K (st.put o.dst (.bz []))
   | _=>False
def Qy(P:Program)(SN:List dC)(o:AO)(ms:List Nat)(t:List V)(s:dC)(r:TR):Prop :=
 r.dst=o.dst/\r.bC=o.op.bC/\∃run:Bool,
  (match o.guard with | none=>run=aa | some (g,want)=>(∃b,t.getD g .any = .bool b/\run=(b == want))\/t.getD g .any = .bz []/\run=aq) /\
  (run=aa->o.op.bq P (cq t s) (Exact t r.val (if o.op.bC then r.zZ else s))/\∀g n x,o.op = .load g n x->∀m∈ms,sS (SN.getD m DP) g n (ev (cq t s) x)=U r.val) /\
  (run=aq->r.val = .bz []/\(r.bC=aa->r.zZ=s))
def yM(P:Program)(SN:List dC):List (AO × List Nat)->List TR->List V->dC->Prop
 | [],[],_,_=>True
 | (o,ms)::l,r::tr,t,s=>Qy P SN o ms t s r/\yM P SN l tr (kE t r.dst r.val) (if r.bC then r.zZ else s)
 | _,_,_,_=>False
def runT:List TR->List V->List V
 | [],t=>t
 | r::tr,t=>runT tr (kE t r.dst r.val)
def dY:List TR->dC->dC
 | [],s=>s
 | r::tr,s=>dY tr (if r.bC then r.zZ else s)
def kR:List TR->List dC
 | []=>[]
 | r::tr=>if r.bC then r.zZ::kR tr else kR tr
section
variable {P:Program}
def ar3{op:aV}{t:List V}{K:V->St->Prop}(h:op.mq P (cq t s) K):∃v s',op.bq P (cq t s) (Exact t v s')/\K v (cq t s')/\(op.bC=aq->s' = s):=by
 have yb:∀{o:Option V},opt o (K2 K (cq t s))->∃v,opt o (K2 (Exact t v s) (cq t s))/\K v (cq t s):=λ{o} h=>by
  cases o with
  | none=>exact h.elim
  | some u=>exact⟨u,⟨rfl,rfl⟩,h⟩
 cases op with
 | mv x=>exact⟨_,s,⟨rfl,rfl⟩,h,λ_=>rfl⟩
 | pick c a b =>
  simp only[aV.mq,aV.bq] at h ⊢;split at h
  .rename_i e;exact⟨_,s,⟨rfl,rfl⟩,h,λ_=>rfl⟩
  .rename_i e;exact⟨_,s,⟨rfl,rfl⟩,h,λ_=>rfl⟩
  .exact h.elim
 | alloc z=>exact⟨_,(s.1++[z],s.2),⟨rfl,rfl⟩,h,λh=>by simp[aV.bC] at h⟩
 | box n x=>exact⟨_,(s.1++[(ev (cq t s) x).cells],s.2),⟨h.1,rfl,rfl⟩,h.2,λh=>by simp[aV.bC] at h⟩
 | vW n x=>exact⟨_,(s.1++[(ev (cq t s) x).cells],s.2),⟨h.1,h.2.1,rfl,rfl⟩,h.2.2,λh=>by simp[aV.bC] at h⟩
 | build z ps=>obtain⟨v,h1,h2⟩:=yb h;exact⟨v,s,h1,h2,λ_=>rfl⟩
 | km k xs=>obtain⟨v,h1,h2⟩:=yb h;exact⟨v,s,h1,h2,λ_=>rfl⟩
 | load g n x=>obtain⟨v,h1,h2⟩:=yb h;exact⟨v,s,h1,h2,λ_=>rfl⟩
 | store n a x =>
  simp only[aV.mq,aV.bq] at h ⊢;split at h
  case h_2=>exact h.elim
  rename_i aU he;have ht:aU.t=t:=by
   generalize ev (cq t s) a=av at he;generalize ev (cq t s) x=xv at he;cases av with
   | ptr p off =>
    cases p with
    | kS b=>simp[dU] at he
    | au i =>
     simp only[dU,iK] at he;obtain⟨cs,_,h2⟩:=he;split at h2
     .simp only[bg] at h2;subst h2;rfl
     .simp at h2
    | out b =>
     simp only[dU,iK] at he;obtain⟨cs,_,h2⟩:=he;split at h2
     .simp only[bg] at h2;subst h2;rfl
     .simp at h2
   | _=>simp[dU] at he
  obtain⟨t',l',o'⟩:=aU;simp only at ht;subst ht;exact⟨.any,(l',o'),⟨rfl,rfl⟩,h,λh=>by simp[aV.bC] at h⟩
 | wJ x =>
  simp only[aV.mq,aV.bq] at h ⊢;split at h<;>first | exact⟨_,s,⟨rfl,rfl⟩,h,λ_=>rfl⟩ | exact h.elim
 | dV op x y=>obtain⟨v,h1,h2⟩:=yb h;exact⟨v,s,h1,h2,λ_=>rfl⟩
 | kQ op x y=>obtain⟨v,h1,h2⟩:=yb h;exact⟨v,s,h1,h2,λ_=>rfl⟩
 | tt neg x y=>obtain⟨v,h1,h2⟩:=yb h;exact⟨v,s,h1,h2,λ_=>rfl⟩
 | cat x y =>
  obtain⟨a,b,h1,h2,h3,h4⟩:=h;exact⟨_,s,⟨a,b,h1,h2,h3,rfl,rfl⟩,h4,λ_=>rfl⟩
 | kn neg n x y=>obtain⟨v,h1,h2⟩:=yb h;exact⟨v,s,h1,h2,λ_=>rfl⟩
 | CD neg x y =>
  simp only[aV.mq,aV.bq] at h ⊢;split at h
  .exact⟨_,s,⟨h.1,rfl,rfl⟩,h.2,λ_=>rfl⟩
  .exact h.elim
 | not x =>
  simp only[aV.mq,aV.bq] at h ⊢;split at h
  .exact⟨_,s,⟨rfl,rfl⟩,h,λ_=>rfl⟩
  .exact h.elim
 | wG x =>
  simp only[aV.mq,aV.bq] at h ⊢;split at h
  .exact⟨_,s,⟨rfl,rfl⟩,h,λ_=>rfl⟩
  .exact⟨_,s,⟨rfl,rfl⟩,h,λ_=>rfl⟩
  .exact h.elim
 | wH x =>
  simp only[aV.mq,aV.bq] at h ⊢;split at h
  .exact⟨_,s,⟨rfl,rfl⟩,h,λ_=>rfl⟩
  .exact h.elim
 | pJ off x =>
  simp only[aV.mq,aV.bq] at h ⊢;split at h
  .exact⟨_,s,⟨rfl,rfl⟩,h,λ_=>rfl⟩
  .exact⟨_,s,⟨rfl,rfl⟩,h,λ_=>rfl⟩
  .exact h.elim
 | v8 g off n x =>
  simp only[aV.mq,aV.bq] at h ⊢;split at h
  .obtain⟨v,h1,h2⟩:=yb h;exact⟨v,s,h1,h2,λ_=>rfl⟩
  .exact h.elim
 | tX k x i =>
  simp only[aV.mq,aV.bq] at h ⊢;split at h
  .obtain⟨h1,k',n,c,h2,h3,h4,h5⟩:=h;exact⟨_,s,⟨h1,k',n,c,h2,h3,h4,rfl,rfl⟩,h5,λ_=>rfl⟩
  .obtain⟨k',n,h2,h3,h4,h5⟩:=h;exact⟨_,s,⟨k',n,h2,h3,h4,rfl,rfl⟩,h5,λ_=>rfl⟩
  .exact h.elim
 | sO m k x i =>
  simp only[aV.mq,aV.bq] at h ⊢;split at h
  .obtain⟨kk,n,h1,h2,h3,h4⟩:=h;exact⟨_,s,⟨kk,n,h1,h2,h3,rfl,rfl⟩,h4,λ_=>rfl⟩
  .obtain⟨kk,n,h1,h2,h3,h4⟩:=h;exact⟨_,s,⟨kk,n,h1,h2,h3,rfl,rfl⟩,h4,λ_=>rfl⟩
  .exact h.elim
 | tY x i =>
  simp only[aV.mq,aV.bq] at h ⊢;split at h
  .obtain⟨k',n,c,h2,h3,h4,h5⟩:=h;exact⟨_,s,⟨k',n,c,h2,h3,h4,rfl,rfl⟩,h5,λ_=>rfl⟩
  .exact h.elim
 | call f xs =>
  obtain⟨h1,v,Z,h2,h3⟩:=h;exact⟨v,(s.1,Z),⟨h1,h2.mono λu σ' hu=>⟨hu.1,by rw[hu.2];rfl⟩⟩,h3,λh=>by simp[aV.bC] at h⟩
 | iV x xs =>
  simp only[aV.mq,aV.bq] at h ⊢;split at h
  .rename_i e;obtain⟨h1,v,Z,h2,h3⟩:=h;refine⟨v,(s.1,Z),?_,h3,λh=>by simp[aV.bC] at h⟩
   (try rw[e])
   exact⟨h1,h2.mono λu σ' hu=>⟨hu.1,by rw[hu.2];rfl⟩⟩
  .exact h.elim
 | app k x y =>
  obtain⟨tk,l,m,h1,h2,h3,h4⟩:=h;cases tk with
  | no=>exact h4.elim
  | a9 =>
   rcases h4 with h4 | ⟨D,h4,h5⟩
   .exact⟨_,s,⟨_,l,m,h1,h2,h3,.inr (.inl ⟨rfl,rfl⟩)⟩,h4,λh=>by simp[aV.bC] at h⟩
   .exact⟨_,(s.1,_),⟨_,l,m,h1,h2,h3,.inr (.inr ⟨D,h4,rfl,rfl⟩)⟩,h5,λh=>by simp[aV.bC] at h⟩
  | tk D=>exact⟨_,(s.1,_),⟨_,l,m,h1,h2,h3,h4.1,rfl,rfl⟩,h4.2,λh=>by simp[aV.bC] at h⟩
 | nV x y =>
  obtain⟨a,h0,tk,l,m,h1,h2,h3,h4⟩:=h;cases tk with
  | no=>exact h4.elim
  | a9 =>
   rcases h4 with h4 | ⟨D,h4,h5⟩
   .exact⟨_,s,⟨a,h0,_,l,m,h1,h2,h3,.inr (.inl ⟨rfl,rfl⟩)⟩,h4,λh=>by simp[aV.bC] at h⟩
   .exact⟨_,(s.1,_),⟨a,h0,_,l,m,h1,h2,h3,.inr (.inr ⟨D,h4,rfl,rfl⟩)⟩,h5,λh=>by simp[aV.bC] at h⟩
  | tk D=>exact⟨_,(s.1,_),⟨a,h0,_,l,m,h1,h2,h3,h4.1,rfl,rfl⟩,h4.2,λh=>by simp[aV.bC] at h⟩
 | mu k x lo hi mx =>
  simp only[aV.mq,aV.bq] at h ⊢
  rcases h with ⟨tk,l,m,n,h1,h2,h3,h4,h5,h6⟩ | ⟨a,n,cap,m,hh,h1,h2,h3,h4,h5,h6,h7⟩
  .cases mx with
   | none=>exact⟨_,s,.inl ⟨tk,l,m,n,h1,h2,h3,h4,h5,rfl,rfl⟩,h6,λ_=>rfl⟩
   | some y=>exact⟨_,s,.inl ⟨tk,l,m,n,h1,h2,h3,h4,h5,h6.1,rfl,rfl⟩,h6.2,λ_=>rfl⟩
  .exact⟨_,s,.inr ⟨a,n,cap,m,hh,h1,h2,h3,h4,h5,h6,rfl,rfl⟩,h7,λ_=>rfl⟩
 | zV x lo hi =>
  obtain⟨l,m,n,h1,h2,h3,h4,h5,h6⟩:=h;exact⟨_,s,⟨l,m,n,h1,h2,h3,h4,h5,rfl,rfl⟩,h6,λ_=>rfl⟩
 | ext x i =>
  simp only[aV.mq,aV.bq] at h ⊢;split at h
  .obtain⟨v,h1,h2⟩:=yb h;exact⟨v,s,h1,h2,λ_=>rfl⟩
  .exact h.elim
 | kb f first cap=>exact⟨_,s,⟨rfl,rfl⟩,h,λ_=>rfl⟩
 | pG k x =>
  simp only[aV.mq,aV.bq] at h ⊢;split at h
  .exact⟨_,s,⟨rfl,rfl⟩,h,λ_=>rfl⟩
  .exact h.elim
 | vY x =>
  obtain⟨tk,aH,h1,h2⟩:=h;exact⟨_,s,⟨tk,aH,h1,rfl,rfl⟩,h2,λ_=>rfl⟩
 | qy z=>exact h.elim
 | gY n x=>exact h.elim
 | own q xs =>
  obtain⟨hp,h⟩:=h;obtain⟨v,h1,h2⟩:=OQ.RG hp h;have hE:(aV.own q xs).bq P (cq t s) (Exact t v s):=h2 s.2 (λu Z=>Exact t v s u ⟨t,s.1,Z⟩) ⟨rfl,rfl⟩;exact⟨v,s,hE,h1,λ_=>rfl⟩
def Q7{SN:List dC}:∀{l m:List (V × Bool × Nat × V × List Nat)},rm SN (l++m)↔rm SN l/\rm SN m
 | [],m=>by simp[rm]
 | (a,g,n,v,ms)::l,m=>by simp only[jN,rm,Q7,J8]
def Jm{K:St->Prop}:∀{l:List (AO × List Nat)} {SN:List dC} {L:List (V × Bool × Nat × V × List Nat)} {t:List V} {s:dC},cK P l SN L K (cq t s) ->
 ∃tr,yM P (SN++kR tr) l tr t s/\rm (SN++kR tr) L/\K (cq (runT tr t) (dY tr s))
 | [],SN,L,t,s,h=>⟨[],trivial,by simpa [kR] using h.1,h.2⟩
 | (o, ms) :: l, SN, L, t, s, h => by
  have go:o.op.mq P (cq t s) (λv aU => cK P l (if o.op.bC then SN++[(aU.au,aU.out)] else SN) (Nt (cq t s) ms v o.op++L) K (aU.put o.dst v)) ->
   (match o.guard with | none=>True | some (g,want)=>∃b,t.getD g .any = .bool b/\aa=(b == want)) ->
   ∃tr,yM P (SN++kR tr) ((o,ms)::l) tr t s/\rm (SN++kR tr) L/\K (cq (runT tr t) (dY tr s)):=λh hg=>by
   obtain⟨v,s',h1,h2,h3⟩:=ar3 h;rw[FV] at h2;obtain⟨tr,k1,k2,k3⟩:=Jm h2;have dQ : (if o.op.bC then s' else s)=s' := by cases he:o.op.bC<;>simp[he] at h3 ⊢;exact h3.symm
   have uR:SN++kR (⟨o.dst,v,o.op.bC,s'⟩::tr)=(if o.op.bC then SN++[s'] else SN)++kR tr:=by
    cases o.op.bC<;>simp[kR]
   have ajB : (if o.op.bC then SN++[((cq t s').au,(cq t s').out)] else SN)=(if o.op.bC then SN++[s'] else SN):=rfl;rw[ajB] at k1 k2;rw[Q7] at k2;refine⟨⟨o.dst,v,o.op.bC,s'⟩::tr,?_,by rw[uR];exact k2.2,?_⟩
   .rw[uR];refine⟨⟨rfl,rfl,aa,?_,λ_=>⟨by rw[dQ];exact h1,λg n x hx m hm=>?_⟩,λh=>by simp at h⟩,by simp only[dQ];exact k1⟩
    .cases pQ:o.guard with
     | none=>rfl
     | some p=>rw[pQ] at hg;exact .inl hg
    .rw[hx] at k2
     have:=Q6 k2.1.1 m hm
     rw[<-hx] at this;exact this
   .simp only[runT,dY,dQ];exact k3
  simp only[cK] at h;cases pQ:o.guard with
  | none=>rw[pQ] at h;exact go h (by rw[pQ];trivial)
  | some p =>
   obtain⟨g,want⟩:=p;rw[pQ] at h;simp only at h;have skip:∀cn : ((∃b,t.getD g .any = .bool b/\aq=(b == want))\/t.getD g .any = .bz []/\aq=aq),cK P l (if o.op.bC then SN++[((cq t s).au,(cq t s).out)] else SN) L K ((cq t s).put o.dst (.bz [])) ->
    ∃tr,yM P (SN++kR tr) ((o,ms)::l) tr t s/\rm (SN++kR tr) L/\K (cq (runT tr t) (dY tr s)):=λcn h=>by
    rw[FV] at h;obtain⟨tr,k1,k2,k3⟩:=Jm h;have T1:(if o.op.bC then s else s)=s:=by simp
    have uR:SN++kR (⟨o.dst,.bz [],o.op.bC,s⟩::tr)=(if o.op.bC then SN++[s] else SN)++kR tr:=by
     cases o.op.bC<;>simp[kR]
    refine⟨⟨o.dst,.bz [],o.op.bC,s⟩::tr,?_,by rw[uR];exact k2,?_⟩
    .rw[uR];refine⟨⟨rfl,rfl,aq,by rw[pQ];exact cn,λh=>by simp at h,λ_=>⟨rfl,λ_=>rfl⟩⟩,by simp only[T1];exact k1⟩
    .simp only[runT,dY,T1];exact k3
   split at h
   .rename_i b hb;have cn : t.getD g .any = .bool b:=hb;split at h
    .rename_i hw;exact go h (by rw[pQ];exact⟨b,cn,by simp[hw]⟩)
    .rename_i hw;exact skip (.inl ⟨b,cn,by simp[hw]⟩) h
   .rename_i hb;exact skip (.inr ⟨hb,rfl⟩) h
   .exact h.elim
end
def cW(S:Nat->Bool):Nat->List TR->List TR
 | _,[]=>[]
 | i,r::tr=>if S i then r::cW S (i+1) tr else cW S (i+1) tr
def cJ(S:Nat->Bool):Nat->List TR->Nat
 | _,[]=>0
 | i,r::tr=>(if S i&&r.bC then 1 else 0)+cJ S (i+1) tr
def IH(t:List V)(d:Option Nat)(v:V):(kE t d v).length=t.length:=by cases d<;>simp[kE]
def K5(t:List V)(d:Option Nat)(v:V)(x:Nat):(kE t d v).getD x .any=if d=U x then(if x<t.length then v else .any) else t.getD x .any:=by
 cases d with
 | none=>simp[kE]
 | some n =>
  simp only[kE,bg]
  by_cases h:n=x
  .subst h;rw[aI rfl]
   by_cases hl:n<t.length
   .rw[aI hl];simp[gy,Qb hl]
   .rw[aw hl,gy,tm (by simp;omega)];rfl
  .rw[aw h];simp[gy,D_ h]
def zW{S S' : Nat->Bool}{x:Nat}:∀{tr:List TR} {i:Nat} {t t' : List V},t.length=t'.length->t.getD x .any=t'.getD x .any ->
 (∀(j:Nat) r,tr[j]?=U r->r.dst=U x->S (i+j)=S' (i+j))->(runT (cW S i tr) t).getD x .any=(runT (cW S' i tr) t').getD x .any
 | [],i,t,t',_,h,_=>h
 | r :: tr, i, t, t', hl, h, hS => by
  have xP:∀(j:Nat) r',tr[j]?=U r' -> r'.dst=U x->S (i+1+j)=S' (i+1+j):=λj r' hr hd=>by
   have:=hS (j+1) r' (by simpa using hr) hd
   rw[show i+(j+1)=i+1+j from by omega] at this;exact this
  have h0:r.dst=U x->S i=S' i:=λhd=>by simpa using hS 0 r (by simp) hd
  simp only[cW]
  by_cases hd:r.dst=U x
  .rw[h0 hd];cases S' i
   .exact zW hl h xP
   .simp only[cH,runT];refine zW (by simp[IH,hl]) ?_ xP;rw[K5,K5,aI hd,aI hd,hl]
  .have e:∀t:List V,(kE t r.dst r.val).getD x .any=t.getD x .any:=λt=>by rw[K5,aw hd]
   cases S i<;>cases S' i<;>simp only[cH,ch,dm,runT]
   .exact zW hl h xP
   .exact zW (by simp[IH,hl]) (by rw[e];exact h) xP
   .exact zW (by simp[IH,hl]) (by rw[e];exact h) xP
   .exact zW (by simp[IH,hl]) (by rw[e,e];exact h) xP
def apS(t:List V){d d' : Option Nat}(v v' : V)(h:∀n,d=U n->d' ≠ U n):kE (kE t d v) d' v' = kE (kE t d' v') d v:=by
 cases d with
 | none=>rfl
 | some n =>
  cases d' with
  | none=>rfl
  | some m =>
   simp only[kE];rw[List.set_comm];intro e;exact h n rfl (by rw[e])
def Xa:∀{tr:List TR} {t:List V} {d:Option Nat} {v:V},(∀r∈tr,∀n,d=U n->r.dst≠U n)->runT tr (kE t d v)=kE (runT tr t) d v
 | [],_,_,_,_=>rfl
 | r :: tr, t, d, v, h => by
  simp only[fh] at h;simp only[runT];rw[apS t v r.val h.1,Xa h.2]
def OT{S:Nat->Bool}:∀{tr:List TR} {i:Nat} {r:TR},r∈cW S i tr->∃j,tr[j]?=U r/\S (i+j)=aa
 | [],_,_,h=>by simp[cW] at h
 | q :: tr, i, r, h => by
  simp only[cW] at h;split at h
  .rename_i hS
   rcases pz.1 h with rfl | h
   .exact⟨0,by simp,by simpa using hS⟩
   .obtain⟨j,h1,h2⟩:=OT h;exact⟨j+1,by simpa using h1,by rw[show i+(j+1)=i+1+j from by omega];exact h2⟩
  .obtain⟨j,h1,h2⟩:=OT h;exact⟨j+1,by simpa using h1,by rw[show i+(j+1)=i+1+j from by omega];exact h2⟩
def add(S:Nat->Bool)(k:Nat):Nat->Bool:=λj=>S j||decide (j=k)
def Xm{S:Nat->Bool}{k:Nat}:∀{tr:List TR} {i:Nat},k<i->cW (add S k) i tr=cW S i tr
 | [],_,_=>rfl
 | r :: tr, i, h => by
  have:add S k i=S i:=by simp[add];intro e;omega
  simp only[cW,this,Xm (k:=k) (tr:=tr) (i:=i+1) (by omega)]
def W8{S:Nat->Bool}{k:Nat}{r:TR}:∀{tr:List TR} {i:Nat} {t:List V},i<=k->tr[k - i]?=U r->S k=aq->(∀(j:Nat) r',tr[j]?=U r' -> i+j≠k->∀n,r.dst=U n->r'.dst≠U n) ->
 runT (cW (add S k) i tr) t=kE (runT (cW S i tr) t) r.dst r.val
 | [],i,t,_,h,_,_=>by simp at h
 | q :: tr, i, t, C0, hr, hS, hd => by
  by_cases he:i=k
  .subst he;simp at hr;subst hr;have h1:add S i i=true:=by simp[add]
   simp only[cW,h1,cH,hS,dm,ch,runT];rw[Xm (by omega)];refine Xa λr' cL n hn=>?_
   obtain⟨j,h1,_⟩:=OT cL;exact hd (j+1) r' (by simpa using h1) (by omega) n hn
  .have h1:add S k i=S i:=by simp[add,he]
   have cL : tr[k - (i+1)]?=U r:=by
    rw[show k - i=(k - (i+1))+1 from by omega] at hr;simpa using hr
   have ih:=λt=>W8 (tr:=tr) (i:=i+1) (t:=t) (by omega) cL hS (λj r' hj bh n hn=>hd (j+1) r' (by simpa using hj) (by omega) n hn)
   simp only[cW,h1];cases S i
   .simpa using ih t
   .simpa [runT] using ih _
def W7{S:Nat->Bool}:∀{tr:List TR} {i:Nat} {s:dC},(∀(j:Nat) r,tr[j]?=U r->r.bC=aa->S (i+j)=aq)->dY (cW S i tr) s=s/\cJ S i tr=0
 | [],_,_,_=>⟨rfl,rfl⟩
 | r :: tr, i, s, h => by
  have ih:=λs=>W7 (S:=S) (tr:=tr) (i:=i+1) (s:=s) λj r' hj he=>by
   have:=h (j+1) r' (by simpa using hj) he
   rw[show i+(j+1)=i+1+j from by omega] at this;exact this
  have h0:r.bC=aa->S i=false:=λhe=>by simpa using h 0 r (by simp) he
  simp only[cW,cJ];cases he:r.bC
  .cases S i<;>simp[dY,he,(ih s).1,(ih s).2]
  .rw[h0 he];simp[(ih s).1,(ih s).2]
def W6{S:Nat->Bool}:∀{tr:List TR} {i:Nat} {s:dC},(∀(j k:Nat) r r',tr[j]?=U r->tr[k]?=U r' -> r.bC=aa->r'.bC=aa->j<k->S (i+k)=aa->S (i+j)=aa) ->
 dY (cW S i tr) s=(s::kR tr).getD (cJ S i tr) DP
 | [],_,_,_=>by simp[cW,dY,cJ]
 | r :: tr, i, s, h => by
  have xP:∀(j k:Nat) r r',tr[j]?=U r->tr[k]?=U r' -> r.bC=aa->r'.bC=aa->j<k->S (i+1+k)=aa->S (i+1+j)=true:=λj k q q' h1 h2 h3 h4 h5 h6=>by
   have:=h (j+1) (k+1) q q' (by simpa using h1) (by simpa using h2) h3 h4 (by omega) (by rw[show i+(k+1)=i+1+k from by omega];exact h6)
   rw[show i+(j+1)=i+1+j from by omega] at this;exact this
  have ih:=λs=>W6 (S:=S) (tr:=tr) (i:=i+1) (s:=s) xP
  simp only[cW,cJ,kR];cases he:r.bC
  .cases S i<;>simp[dY,he,ih]
  .cases hS:S i
   .obtain⟨h1,h2⟩:=W7 (S:=S) (tr:=tr) (i:=i+1) (s:=s) λj r' hj AY => by
     cases hq:S (i+1+j) with
     | false=>rfl
     | true =>
      have:=h 0 (j+1) r r' (by simp) (by simpa using hj) he AY (by omega) (by rw[show i+(j+1)=i+1+j from by omega];exact hq)
      simp[hS] at this
    simp[h1,h2]
   .simp only[cH,dY,he,ih,JB];rw[GC 1,List.getD_cons_succ]
def G6{S S' : Nat->Bool}:∀{tr:List TR} {i:Nat},(∀(j:Nat) r,tr[j]?=U r->r.bC=aa->S (i+j)=S' (i+j))->cJ S i tr=cJ S' i tr
 | [],_,_=>rfl
 | r :: tr, i, h => by
  have ih:=G6 (S:=S) (S' := S') (tr:=tr) (i:=i+1) λj r' hj he=>by
   have:=h (j+1) r' (by simpa using hj) he
   rw[show i+(j+1)=i+1+j from by omega] at this;exact this
  have h0:r.bC=aa->S i=S' i:=λhe=>by simpa using h 0 r (by simp) he
  simp only[cJ,ih];cases he:r.bC
  .simp
  .rw[h0 he]
def Kp{S S' : Nat->Bool}:∀{tr:List TR} {i:Nat},(∀(j:Nat) r,tr[j]?=U r->r.bC=aa->S (i+j)=aa->S' (i+j)=aa)->cJ S i tr<=cJ S' i tr
 | [],_,_=>b7 _
 | r :: tr, i, h => by
  have ih:=Kp (S:=S) (S' := S') (tr:=tr) (i:=i+1) λj r' hj he hS=>by
   have:=h (j+1) r' (by simpa using hj) he (by rw[show i+(j+1)=i+1+j from by omega];exact hS)
   rw[show i+(j+1)=i+1+j from by omega] at this;exact this
  have h0:r.bC=aa->S i=aa->S' i=true:=λhe hS=>by simpa using h 0 r (by simp) he (by simpa using hS)
  simp only[cJ];cases he:r.bC
  .simpa using ih
  .cases hS:S i
   .simp;omega
   .simp[h0 he hS];exact ih
def Xn{S:Nat->Bool}:∀{tr:List TR} {i:Nat},(∀j,j<tr.length->S (i+j)=aa)->cW S i tr=tr
 | [],_,_=>rfl
 | r :: tr, i, h => by
  have h0:S i=true:=by simpa using h 0 (by simp)
  simp only[cW,h0,cH];rw[Xn λj hj=>by
   have:=h (j+1) (by simp;omega)
   rw[show i+(j+1)=i+1+j from by omega] at this;exact this]
def eU(k:Nat):Nat->Bool:=λj=>decide (j<k)
def GM{P:Program}{SN:List dC}:∀{l:List (AO × List Nat)} {tr:List TR} {t:List V} {s:dC},yM P SN l tr t s->l.length=tr.length
 | [],[],_,_,_=>rfl
 | [],_::_,_,_,h=>h.elim
 | (o,ms)::_,[],_,_,h=>h.elim
 | (o,ms)::l,r::tr,t,s,h=>by simp[GM h.2]
def OU:∀{tr:List TR} {i k:Nat},k<=i->cW (eU k) i tr=[]
 | [],_,_,_=>rfl
 | r :: tr, i, k, h => by
  have:eU k i=false:=by simp[eU];omega
  simp only[cW,this,dm,ch];exact OU (by omega)
def GN{P:Program}{SN:List dC}{o:AO}{ms:List Nat}{r:TR}:∀{l:List (AO × List Nat)} {tr:List TR} {t:List V} {s:dC} {i k:Nat},yM P SN l tr t s->l[k]?=U (o,ms)->tr[k]?=U r ->
 Qy P SN o ms (runT (cW (eU (i+k)) i tr) t) (dY (cW (eU (i+k)) i tr) s) r
 | [],_,_,_,_,_,_,h,_=>by simp at h
 | (_,_)::_,[],_,_,_,_,h,_,_=>h.elim
 | (o', ms') :: l, r' :: tr, t, s, i, k, h, hl, ht => by
  cases k with
  | zero =>
   simp at hl ht;obtain⟨rfl,rfl⟩:=hl;subst ht;rw[OU (by omega)];exact h.1
  | succ k =>
   have h1:eU (i+(k+1)) i=true:=by simp[eU]
   simp only[cW,h1,cH,runT,dY];rw[show i+(k+1)=i+1+k from by omega];exact GN h.2 (by simpa using hl) (by simpa using ht)
def zM(o:AO):List Nat:=o.op.xs.flatMap X.slot++(match o.guard with | some (g,_)=>[g] | none=>[])
structure DI where
 dst:Option Nat
 reads:List Nat
 bC:Bool
 ld:Bool
 ms:List Nat
 mask:Nat
def fF(p:AO × List Nat)(m:Nat):DI:=⟨p.1.dst,zM p.1,p.1.op.bC,p.1.op.Dl,p.2,m⟩
def Iw(b:List Nat)(o:Oper):Nat:=o.after.toList.foldl (λs e=>if Region.binds .any e then s|||2^e.on|||b.getD e.on 0 else s) 0
def Eo(i:Nat)(x:DI)(j:Nat)(y:DI):Bool :=
 (match y.dst with
  | some d=>(!(x.reads.contains d)||(i != j&&(x.mask.testBit j||y.mask.testBit i)))&&(i == j||x.dst != U d)
  | none=>aa)&&(!(decide (i<j)&&x.bC&&y.bC)||y.mask.testBit i)
def Cu(p:Nat->DI->Bool)(l:List DI):Nat:=(l.zipIdx.filter λ(x,j)=>x.bC&&p j x).length
def p8(l:List DI)(x:DI):Nat:=Cu (λj _=>x.mask.testBit j) l
def zj(l:List DI)(i:Nat):Nat:=Cu (λ_ y=>!(y.mask.testBit i)) l
def BF(l:List DI)(i:Nat):Nat:=Cu (λj _=>decide (j<i)) l
def Q8(l:List DI)(i:Nat)(x:DI):Bool :=
 !x.ld||((bG (zj l i+1 - p8 l x)).all λq=>x.ms.contains (p8 l x+q)||p8 l x+q == BF l i)
def yU(ops:Array Oper)(l:List (AO × List Nat))(b:List Nat):Bool :=
 let d:=lQ fF l b
 decide (l.length=ops.size)&&decide (b.length=ops.size) &&
 ((ops.toList.zip b).zipIdx.all λ((o,m),i)=>(o.after.toList.all λe=>!(Region.binds .any e)||decide (e.on<i))&&decide (m=Iw b o)) &&
 (d.zipIdx.all λ(x,i)=>(d.zipIdx.all λ(y,j)=>Eo i x j y)&&Q8 d i x)
def x6:List Oper->List Nat->List Nat
 | [],b=>b
 | o::os,b=>x6 os (b++[Iw b o])
def u9(P:Program)(ops:Array Oper)(o:Oper):Option AO :=
 match zB P o with
 | none=>ah
 | some op =>
  match o.guard with
  | none=>U ⟨o.dst,op,ah⟩
  | some (j, want) =>
   match (ops[j]?).bind (·.dst) with
   | some g=>U ⟨o.dst,op,U (g,want)⟩
   | none=>ah
def Bu(P:Program)(ops:Array Oper):List Oper->Option (List AO)
 | []=>U []
 | o::os=>(u9 P ops o).bind λx=>(Bu P ops os).map (x::·)
def Im(P:Program)(ops:Array Oper):Option (List (AO × List Nat)) :=
 match Bu P ops ops.toList with
 | none=>ah
 | some l0 =>
  let b:=x6 ops.toList []
  let d:=lQ fF (l0.map λo=>(o,[])) b
  let l:=(l0.zip d).zipIdx.map λ((o,x),i)=>(o,if o.op.Dl then((bG (zj d i+1 - p8 d x)).map (p8 d x+·)).filter (· != BF d i) else [])
  if yU ops l b=aa/\P.follows .mixedOrders=aa then U l else ah
structure Ag(ops:Array Oper)(l:List (AO × List Nat))(b:List Nat):Prop where
 size:l.length=ops.size
 back:∀(i:Nat) o,ops[i]?=U o->∀e∈o.after,Region.binds .any e=aa->e.on<i
 mask:∀(i:Nat) o,ops[i]?=U o->∀j,(b.getD i 0).testBit j=aa->∃e∈o.after,Region.binds .any e=aa/\(j=e.on\/(b.getD e.on 0).testBit j=aa)
 slot:∀(i j:Nat) (x y:AO × List Nat),l[i]?=U x->l[j]?=U y->∀d,y.1.dst=U d->d∈zM x.1->i≠j/\((b.getD i 0).testBit j=aa\/(b.getD j 0).testBit i=aa)
 dst:∀(i j:Nat) (x y:AO × List Nat),l[i]?=U x->l[j]?=U y->i≠j->∀d,y.1.dst=U d->x.1.dst≠U d
 bC:∀(i j:Nat) (x y:AO × List Nat),l[i]?=U x->l[j]?=U y->i<j->x.1.op.bC=aa->y.1.op.bC=aa->(b.getD j 0).testBit i=aa
 load:∀(i:Nat) (x:AO × List Nat),l[i]?=U x->x.1.op.Dl=aa->∀m,p8 (lQ fF l b) (fF x (b.getD i 0))<=m->m<=zj (lQ fF l b) i->m∈x.2\/m=BF (lQ fF l b) i
def aoM{b:List Nat}{o:Oper}{j:Nat}(h:(Iw b o).testBit j=aa):∃e∈o.after,Region.binds .any e=aa/\(j=e.on\/(b.getD e.on 0).testBit j=aa):=by
 have key:∀(l:List Edge) (s:Nat),(l.foldl (λs e=>if Region.binds .any e then s|||2^e.on|||b.getD e.on 0 else s) s).testBit j=aa ->
  s.testBit j=aa\/∃e∈l,Region.binds .any e=aa/\(j=e.on\/(b.getD e.on 0).testBit j=aa):=by
  intro l;induction l with
  | nil=>intro s h;exact .inl h
  | cons e l ih =>
   intro s h;rw[yF] at h
   rcases ih _ h with h1 | ⟨e',h1,h2⟩
   .split at h1
    .rename_i hb;simp only[Nat.testBit_or,mU,Nat.testBit_two_pow,eb] at h1
     rcases h1 with(h1 | h1) | h1
     .exact .inl h1
     .exact .inr ⟨e,by simp,hb,.inl h1.symm⟩
     .exact .inr ⟨e,by simp,hb,.inr h1⟩
    .exact .inl h1
   .exact .inr ⟨e',by simp[h1],h2⟩
 rcases key o.after.toList 0 h with h1 | ⟨e,h1,h2⟩
 .simp at h1
 .exact⟨e,by simpa using h1,h2⟩
variable{i:Nat}
def avc{l:List (AO × List Nat)}{b:List Nat}(hl:b.length=l.length){x:AO × List Nat}(h:l[i]?=U x):(lQ fF l b)[i]?=U (fF x (b.getD i 0)):=by
 have an:=(fw.1 h).1;rw[List.getElem?_zipWith,h]
 have:b[i]?=U (b.getD i 0):=by
  rw[gy,bN (by omega)];rfl
 rw[this]
variable{ops:Array Oper}
def facts{l:List (AO × List Nat)}{b:List Nat}(h:yU ops l b=aa):Ag ops l b:=by
 unfold yU at h;simp only[b_,eb,lO] at h;obtain⟨⟨⟨h1,h2⟩,h3⟩,h4⟩:=h;have Ud:∀(i:Nat) o,ops[i]?=U o->((o,b.getD i 0),i)∈(ops.toList.zip b).zipIdx:=λi o ho=>by
  have an:=(lr.1 ho).1;rw[JU];rw[JS];refine⟨by simpa using ho,?_⟩;rw[gy,bN (by omega)];rfl
 have hd:∀(i:Nat) x,l[i]?=U x->(fF x (b.getD i 0),i)∈(lQ fF l b).zipIdx:=λi x hx=>by
  rw[JU];exact avc (by omega) hx
 have pair:∀(i j:Nat) x y,l[i]?=U x->l[j]?=U y->Eo i (fF x (b.getD i 0)) j (fF y (b.getD j 0))=true:=λi j x y hx hy=>(h4 _ (hd i x hx)).1 _ (hd j y hy)
 refine⟨h1,λi o ho e he hb=>?_,λi o ho j hj=>?_,λi j x y hx hy d AX hr=>?_,λi j x y hx hy bh d AX=>?_,λi j x y hx hy an he1 he2=>?_,λi x hx xL m dT nz=>?_⟩
 .have:=(h3 _ (Ud i o ho)).1 e (by simpa using he)
  simpa [hb] using this
 .have this:b.getD i 0=Iw b o:=(h3 _ (Ud i o ho)).2;rw[this] at hj;exact aoM hj
 .have:=pair i j x y hx hy
  simp only[Eo,fF,AX,b_,mU,w8,bne_iff_ne,Cn] at this;have hc:(zM x.1).contains d=true:=by simpa using hr
  rcases this.1.1 with h | ⟨h5,h6⟩
  .rw[hc] at h;simp at h
  .exact⟨h5,h6⟩
 .have:=pair i j x y hx hy
  simp only[Eo,fF,AX,b_,mU,w8,bne_iff_ne,Cn] at this
  rcases this.1.2 with h | h
  .exact absurd h bh
  .exact h
 .have:=pair i j x y hx hy
  simp only[Eo,fF,b_,mU,w8,he1,he2,an,bL,JB] at this
  rcases this.2 with h | h
  .simp at h
  .exact h
 .have:=(h4 _ (hd i x hx)).2
  simp only[Q8,fF,xL,mU,w8,lO,lP,Cn] at this
  rcases this with h | h
  .simp at h
  .have:=h (m - p8 (lQ fF l b) (fF x (b.getD i 0))) (by simp only[fF,xL] at dT ⊢;omega)
   simp only[fF,xL] at this dT;rw[show p8 (lQ fF l b) ⟨x.1.dst,zM x.1,x.1.op.bC,aa,x.2,b.getD i 0⟩+(m - p8 (lQ fF l b) ⟨x.1.dst,zM x.1,x.1.op.bC,aa,x.2,b.getD i 0⟩)=m from by omega] at this
   rcases this with h | h
   .left;simpa using h
   .exact .inr h
def ND{P:Program}{ops:Array Oper}:∀{os:List Oper} {l:List AO},Bu P ops os=U l->l.length=os.length/\∀i:Nat,∀o,os[i]?=U o->∃x,l[i]?=U x/\u9 P ops o=U x
 | [],l,h=>by simp only[Bu,bg] at h;subst h;exact⟨rfl,λi o h=>by simp at h⟩
 | o :: os, l, h => by
  simp only[Bu,iK,dB] at h;obtain⟨x,h1,l',h2,rfl⟩:=h;obtain⟨h3,h4⟩:=ND h2;refine⟨by simp[h3],λi q hq=>?_⟩;cases i with
  | zero=>simp at hq;subst hq;exact⟨x,by simp,h1⟩
  | succ i=>simp at hq;obtain⟨y,k1,k2⟩:=h4 i q hq;exact⟨y,by simpa using k1,k2⟩
def amz{l:List (AO × List Nat)}(h:Im P ops=U l):
 ∃b,Ag ops l b/\b.length=ops.size/\P.follows .mixedOrders=aa/\∀(i:Nat) o,ops[i]?=U o->∃x:AO × List Nat,l[i]?=U x/\u9 P ops o=U x.1:=by
 unfold Im at h;cases h0:Bu P ops ops.toList with
 | none=>rw[h0] at h;simp at h
 | some l0 =>
 rw[h0] at h;simp only at h;split at h
 case isFalse=>simp at h
 rename_i hc;simp only[bg] at h;subst h;refine⟨_,facts hc.1,?_,hc.2,λi o ho=>?_⟩
 .have:=hc.1
  unfold yU at this;simp only[b_,eb] at this;exact this.1.1.2
 .have hlen:=(facts hc.1).size;obtain⟨h1,h2⟩:=ND h0;obtain⟨x,k1,k2⟩:=h2 i o (by simpa using ho);have an:=(lr.1 ho).1;generalize hL:(l0.zip (lQ fF (l0.map λo=>(o,[])) (x6 ops.toList [])))=z at hlen ⊢;have hz:i<z.length:=by simp at hlen;omega
  refine⟨_,by rw[vF,Qc,bN hz];rfl,?_⟩
  have:z[i].1=x:=by
   have e:z[i]?=U z[i]:=bN hz;subst hL;rw[JS] at e;rw[k1] at e;exact(vM e.1).symm
  simpa [this] using k2
end Go.Am
