/-
  Part 1 of the proof of StackPlaysUptoCardSaid: a logic over the model, the forms of the functions that the law reaches, and what they compute.
-/
import Derived.WalkKit
import Derived.Orders
import Derived.Below
import Derived.Laws.Append
import Derived.Laws.AppendOwn
import Derived.Laws.Cells
import Derived.Laws.CopyRow
import Derived.Laws.BytesString
import Derived.Laws.Slices
import Derived.Laws.Small
import Derived.Laws.StructEq
import Derived.ChangeKeysEq
set_option linter.unusedVariables false
set_option linter.unusedSimpArgs false
set_option linter.defProp false
set_option linter.unusedSectionVars false
set_option maxRecDepth 4000
set_option maxHeartbeats 4000000
open Option renaming some->U,none->ah
open Bool renaming true->aa,false->aq
open List renaming replicate->aj,range->bH,zipWith->ng
open Eq renaming mpr->fF
open Ne renaming symm->gM
namespace Go.Am
def ag := @And.intro
def aB := @if_neg
def aD := @decide_eq_false
def aF := @List.length_map
def aG := @decide_eq_true
def aL := @if_pos
def bq := @Option.some.injEq
def bu := @decide_true
def bL := @List.length_append
def bO := @Bool.and_eq_true
def bU := @Nat.le_refl
def bY := @List.getElem?_eq_getElem
def cz := @if_false
def cQ := @List.map_cons
def cU := @decide_eq_true_eq
def cX := @decide_false
def cZ := @List.length_nil
def da := @List.length_cons
def db := @if_true
def du := @List.take_length
def dK := @Bool.false_eq_true
def dQ := @List.getElem_mem
def ec := @Option.map_eq_some_iff
def eC := @List.append_nil
def eY := @List.append_assoc
def eZ := @List.length_singleton
def fp := @List.map_nil
def gf := @List.forall_mem_cons
def gm := @List.map_append
def gK := @List.nil_append
def gY := @List.cons_append
def il := @List.range_succ
def iB := @List.take_succ_eq_append_getElem
def iM := @Int.toNat_natCast
def jH := @Option.bind_eq_some_iff
def kG := @List.getElem?_eq_some_iff
def kH := @List.map_eq_append_iff
def lh := @Bool.true_and
def lj := @List.flatten_cons
def lk := @List.mem_append
def ln := @and_true
def lH := @Nat.add_mul
def ma := @List.all_eq_true
def mb := @List.drop_eq_getElem_cons
def mc := @Nat.zero_add
def mf := @congrArg
def mX := @Array.getElem?_eq_some_iff
def mZ := @List.cons.injEq
def m0 := @List.length_eq_zero_iff
def m_ := @List.mem_cons
def o7 := @List.flatMap_cons
def o8 := @List.length_take
def pE := @Array.getElem?_eq_getElem
def pH := @Int.natCast_zero
def pJ := @List.sum_cons
def qq := @true_and
def qx := @Bool.or_eq_true
def qy := @List.mem_range
def rf := @List.singleton_append
def rh := @Nat.mul_one
def rX := @List.flatMap_append
def sS := @Bool.true_eq_false
def tE := @ne_eq
def tV := @Array.getD_eq_getD_getElem?
def tW := @Bool.eq_iff_iff
def tY := @Prod.mk.injEq
def uX := @BitVec.getLsbD_and
def uZ := @Bool.and_true
def u0 := @List.flatten_append
def u7 := @List.mem_singleton
def u9 := @List.sum_nil
def u_ := @List.take_append_drop
def va := @Nat.mul_le_mul_right
def v_ := @Bool.not_eq_true'
def wa := @Nat.lt_of_lt_of_le
def wb := @Option.isNone_none
def xu := @List.any_eq_true
def xw := @List.drop_drop
def xx := @List.eq_nil_of_length_eq_zero
def xy := @Option.isSome_none
def xM := @decide_eq_decide
def yK := @Bool.false_or
def yL := @Function.comp_def
def yN := @Int.eq_ofNat_of_zero_le
def yO := @List.all_cons
def yP := @List.mem_of_getElem?
def yQ := @List.take_of_length_le
def yR := @List.take_succ_cons
def yS := @Nat.add_zero
def yT := @Nat.le_trans
def yU := @Option.bind_some
def yV := @Option.isNone_some
def yW := @Option.isSome_some
def yX := @Option.map_some
def yY := @Option.some.inj
def Aw := @Bool.or_eq_false_iff
def Az := @List.drop_length
def AA := @List.foldl_cons
def AB := @List.getElem?_eq_none
def AD := @List.getElem?_map
def AE := @List.mem_map
def B7 := @List.eq_nil_or_concat
def B8 := @List.foldl_append
def B9 := @List.getElem?_append_left
def B_ := @List.getElem_map
def B' := @List.mem_of_mem_take
def Ca := @Nat.add_assoc
def Cb := @Nat.lt_or_ge
def Cm := @decide_eq_true_iff
def Dp := @not_true_eq_false
def DO := @Array.getElem?_setIfInBounds_ne
def DP := @Array.length_toList
def DQ := @Bool.decide_and
def DT := @List.filter_append
def DU := @List.filter_cons
def DV := @List.find?_append
def DW := @List.map_singleton
def DX := @List.range_eq_range'
def DZ := @Option.getD_some
def Ed := @dif_pos
def Ej := @false_and
def Fb := @not_false_eq_true
def FO := @Bool.false_and
def FR := @List.dropLast_concat
def FT := @List.drop_succ_cons
def FU := @List.flatten_nil
def FV := @List.map_map
def FW := @List.mem_filter
def FX := @List.mem_flatMap
def FY := @List.not_mem_nil
def FZ := @List.replicate_succ
def F1 := @Nat.le_of_lt
def F4 := @Nat.one_mul
def F6 := @Option.isNone_iff_eq_none
def F8 := @UInt8.toNat_inj
def Gh := @decide_eq_false_iff_not
def HE := @or_false
def Iv := @Int.ofNat_eq_natCast
def Iw := @List.concat_eq_append
def Ix := @List.getLast?_concat
def Iy := @Nat.le_zero
def Iz := @Nat.min_eq_left
def IA := @Nat.mul_le_mul
def IB := @Nat.succ_mul
def I0 := @beq_iff_eq
def LV := @Bool.and_assoc
def LW := @Bool.and_eq_false_iff
def LX := @Bool.and_self
def L6 := @List.all_append
def L7 := @List.drop_append_of_le_length
def L8 := @List.drop_of_length_le
def L9 := @List.drop_zero
def L_ := @List.flatMap_nil
def Ma := @List.getElem?_drop
def Mb := @List.getLast?_nil
def Mc := @List.map_take
def Md := @List.mem_iff_getElem
def Me := @List.range'_succ
def Mg := @Nat.add_comm
def Mh := @Nat.eq_zero_or_pos
def Mi := @Nat.lt_trichotomy
def Mj := @Nat.zero_le
def Mn := @Option.isSome_iff_exists
def Mu := @and_assoc
def QN := @of_decide_eq_true
def SV := @BitVec.getLsbD_or
def SX := @BitVec.getLsbD_zero
def SY := @BitVec.toNat_shiftLeft
def SZ := @Bool.and_false
def S0 := @Bool.true_or
def S6 := @List.all_map
def S7 := @List.all_nil
def S8 := @List.any_append
def S9 := @List.dropLast_subset
def S_ := @List.drop_eq_nil_of_le
def Ta := @List.drop_take
def Tb := @List.ext_getElem
def Tc := @List.filterMap_cons
def Td := @List.foldl_nil
def Te := @List.getElem?_append_right
def Tf := @List.getElem?_set_ne
def Tg := @List.getElem?_take
def Th := @List.getElem?_take_of_lt
def Ti := @List.getElem_cons_succ
def Tj := @List.length_filter_le
def Tm := @List.length_pos_iff
def Tn := @List.mem_cons_of_mem
def To := @List.mem_filterMap
def Tp := @List.size_toArray
def Tq := @List.take_take
def Tr := @Nat.add_sub_cancel_left
def Ts := @Nat.shiftLeft_eq
def ac9 := @Array.getElem?_setIfInBounds
def ac_ := @Array.getElem?_toList
def ac' := @Array.mem_of_getElem?
def ada := @Array.toList_setIfInBounds
def ade := @BitVec.getLsbD_shiftLeft
def adf := @BitVec.getLsbD_ushiftRight
def adg := @BitVec.toNat_ushiftRight
def adh := @Bool.eq_false_or_eq_true
def adk := @List.dropLast_eq_take
def adl := @List.filter_eq_nil_iff
def adm := @List.getElem?_cons_zero
def adn := @List.getElem?_toArray
def ado := @List.getElem?_zip_eq_some
def adp := @List.mem_iff_getElem?
def adq := @List.set_getElem_self
def adr := @List.takeWhile_sublist
def ads := @List.take_append_of_le_length
def adt := @Nat.lt_succ_iff_lt_or_eq
def adu := @Nat.shiftRight_eq_div_pow
def adv := @Nat.testBit_two_pow_sub_one
end Go.Am
namespace Go.Am
inductive Pl where
 | au (i:Nat)
 | out (b:Nat)
 | nq (b:Nat)
inductive Tk where
 | no
 | aY
 | tk (t:Nat)
inductive V where
 | any
 | bool (b:Bool)
 | int (k:IntKind) (n:Int)
 | aQ (s:List UInt8)
 | kX
 | ptr (p:Pl) (off:Nat)
 | elt (cs:List V) (off:Nat)
 | sl (t:Tk) (k:Nat) (l:List (List V))
 | agg (cs:List V)
 | bw (cs:List V)
 | fn (f:Fn) (first cap:List V)
 | raw (v:Value)
inductive gp where
 | const
 | ph
 | jZ (i:Nat)
 | sE
 | i_ (t c:Nat)
def gp.jq:gp->Nat->Prop
 | .const,_=>True
 | .i_ _ c,o=>o<c
 | _,_=>False
structure Env where
 w:World
 bg:Nat->gp
 au:Nat->Option Nat
 aS:Nat->Option Nat
def Env.nl(E:Env):Env:={E with au:=λ_=>ah}
@[simp] theorem Env.Zi(E:Env):E.nl.w=E.w:=rfl
@[simp] theorem Env.Zh(E:Env):E.nl.bg=E.bg:=rfl
@[simp] theorem Env.ax'(E:Env):E.nl.aS=E.aS:=rfl
@[simp] theorem Env.ax9(E:Env)(i:Nat):E.nl.au i=none:=rfl
@[simp] theorem Env.apr(E:Env):E.nl.nl=E.nl:=rfl
def xA(E:Env)(k n:Nat)(a:Option Addr)(cap:Nat):Tk->Prop
 | .no=>True
 | .aY=>cap=n
 | .tk t=>∃m,E.aS t=U m/\n<=m/\(n=m->cap=n\/∃b cs e,a=U ⟨b,0,ah⟩/\E.bg b = .i_ t (n*k)/\E.w.heap[b]?=U (.cells cs e (0,0))/\cs.size=cap*k)
mutual
def R:Env->V->Value->Prop
 | _,.any,_=>True
 | _,.bool b,v=>v = .bool b
 | _,.int k n,v=>v = .int k n
 | _,.aQ s,v=>v = .string ⟨s.toArray⟩
 | _,.kX,v=>v = .pointer ah
 | E,.ptr (.au i) off,v=>∃b,E.au i=U b/\v = .pointer (U ⟨b,off,ah⟩)
 | _,.ptr (.out b) off,v=>v = .pointer (U ⟨b,off,ah⟩)
 | _,.ptr (.nq b) off,v=>v = .pointer (U ⟨b,off,ah⟩)
 | E,.elt cs off,v=>∃b o,v = .pointer (U ⟨b,o+off,ah⟩)/\fz E.nl cs b o
 | E,.sl t k l,v=>∃a cap,v = .slice a l.length cap/\l.length<=cap/\(l=[]\/∃b o,a=U ⟨b,o,ah⟩/\iC E.nl k l b o)/\xA E k l.length a cap t
 | E,.agg cs,v=>∃vs,v = .agg vs/\RL E cs vs.toList
 | E,.bw cs,v=>∃vs,v = .tuple vs/\RL E cs vs.toList
 | E,.fn f first cap,v=>∃fs cs,v = .func f fs cs/\RL E first fs.toList/\RL E cap cs.toList
 | _,.raw u,v=>v=u
def fz:Env->List V->Nat->Nat->Prop
 | _,[],_,_=>True
 | E,x::xs,b,o=>(∃c,E.w.cell? ⟨b,o,ah⟩=U c/\(E.bg b).jq o/\c.oneCell' = aa/\R E x c)/\fz E xs b (o+1)
def iC:Env->Nat->List (List V)->Nat->Nat->Prop
 | _,_,[],_,_=>True
 | E,k,x::xs,b,o=>x.length=k/\fz E x b o/\iC E k xs b (o+k)
def RL:Env->List V->List Value->Prop
 | _,[],[]=>True
 | E,x::xs,v::vs=>R E x v/\RL E xs vs
 | _,_,_=>False
end
structure Env.le(E E' : Env):Prop where
 cell:∀b o c,(E.bg b).jq o->E.w.cell? ⟨b,o,ah⟩=U c->(E'.bg b).jq o/\E'.w.cell? ⟨b,o,ah⟩=U c
 au:∀i b,E.au i=U b->E'.au i=U b
 tok:∀t n,E.aS t=U n->∃n',E'.aS t=U n' /\ n<=n' /\ (n' = n->∀b c,E.bg b = .i_ t c ->
  E'.bg b = .i_ t c/\∀cs e,E.w.heap[b]?=U (.cells cs e (0,0))->∃cs',E'.w.heap[b]?=U (.cells cs' e (0,0))/\cs'.size=cs.size)
variable{E E':Env}
def Env.le.nl(h:E.le E'):E.nl.le E'.nl:=⟨h.cell,λ_ _ h=>by simp at h,h.tok⟩
def Env.le.refl(E:Env):E.le E:=⟨λ_ _ _ h h' => ⟨h,h'⟩,λ_ _ h=>h,λ_ n h=>⟨n,h,bU _,λ_ _ _ hr=>⟨hr,λcs _ hc=>⟨cs,hc,rfl⟩⟩⟩⟩
theorem Env.le.trans{F G'':Env}(h:E.le F)(k:F.le G''):E.le G'':=by
 refine⟨λb o c hc hv=>?_,λi b hb=>k.au i b (h.au i b hb),λt n hn=>?_⟩
 .obtain⟨h1,h2⟩:=h.cell b o c hc hv;exact k.cell b o c h1 h2
 .obtain⟨n',h1,h2,h3⟩:=h.tok t n hn;obtain⟨n'',k1,k2,k3⟩:=k.tok t n' h1
  grind
variable{a:Option Addr}{cap k:Nat}
theorem xA.mono(h:E.le E'){n:Nat}{t:Tk}(ht:xA E k n a cap t):xA E' k n a cap t:=by
 cases t with
 | no=>trivial
 | aY=>exact ht
 | tk t =>
  obtain⟨m,h1,h2,h3⟩:=ht;obtain⟨m',k1,k2,k3⟩:=h.tok t m h1;refine⟨m',k1,yT h2 k2,λhe=>?_⟩
  grind
mutual
theorem R.mono:∀(x:V) {E E' : Env} (_:E.le E') {v:Value},R E x v->R E' x v
 | .any,_,_,_,_,_=>by simp only[R]
 | .bool _,_,_,_,_,hr=>by simp only[R] at hr ⊢;exact hr
 | .int _ _,_,_,_,_,hr=>by simp only[R] at hr ⊢;exact hr
 | .aQ _,_,_,_,_,hr=>by simp only[R] at hr ⊢;exact hr
 | .kX,_,_,_,_,hr=>by simp only[R] at hr ⊢;exact hr
 | .ptr (.au i) _, _, _, h, _, hr => by
  simp only[R] at hr ⊢;obtain⟨b,h1,h2⟩:=hr;exact⟨b,h.au i b h1,h2⟩
 | .ptr (.out _) _,_,_,_,_,hr=>by simp only[R] at hr ⊢;exact hr
 | .ptr (.nq _) _,_,_,_,_,hr=>by simp only[R] at hr ⊢;exact hr
 | .elt cs _, _, _, h, _, hr => by
  simp only[R] at hr ⊢;obtain⟨b,o,h1,h2⟩:=hr;exact⟨b,o,h1,fz.mono cs h.nl h2⟩
 | .sl t k l, _, _, h, _, hr => by
  simp only[R] at hr ⊢;obtain⟨a,cap,h1,h2,h3,h4⟩:=hr;refine⟨a,cap,h1,h2,?_,h4.mono h⟩
  rcases h3 with h3 | ⟨b,o,h3,h5⟩
  .grind
  .exact .inr ⟨b,o,h3,iC.mono l h.nl h5⟩
 | .agg cs, _, _, h, _, hr => by
  simp only[R] at hr ⊢;obtain⟨vs,h1,h2⟩:=hr;exact⟨vs,h1,RL.mono cs h h2⟩
 | .bw cs, _, _, h, _, hr => by
  simp only[R] at hr ⊢;obtain⟨vs,h1,h2⟩:=hr;exact⟨vs,h1,RL.mono cs h h2⟩
 | .fn _ first cap, _, _, h, _, hr => by
  simp only[R] at hr ⊢;obtain⟨fs,cs,h1,h2,h3⟩:=hr;exact⟨fs,cs,h1,RL.mono first h h2,RL.mono cap h h3⟩
 | .raw _,_,_,_,_,hr=>by simp only[R] at hr ⊢;exact hr
theorem fz.mono:∀(l:List V) {E E' : Env} (_:E.le E') {b o:Nat},fz E l b o->fz E' l b o
 | [],_,_,_,_,_,_=>by simp only[fz]
 | x :: xs, _, _, h, b, o, hr => by
  simp only[fz] at hr ⊢;obtain⟨⟨c,h1,h2,h5,h3⟩,h4⟩:=hr;obtain⟨k1,k2⟩:=h.cell b o c h2 h1;exact⟨⟨c,k2,k1,h5,R.mono x h h3⟩,fz.mono xs h h4⟩
theorem iC.mono:∀(l:List (List V)) {E E' : Env} (_:E.le E') {k b o:Nat},iC E k l b o->iC E' k l b o
 | [],_,_,_,_,_,_,_=>by simp only[iC]
 | x :: xs, _, _, h, _, _, _, hr => by
  simp only[iC] at hr ⊢;obtain⟨h1,h2,h3⟩:=hr;exact⟨h1,fz.mono x h h2,iC.mono xs h h3⟩
theorem RL.mono:∀(l:List V) {E E' : Env} (_:E.le E') {vs:List Value},RL E l vs->RL E' l vs
 | [],_,_,_,[],_=>by simp only[RL]
 | [],_,_,_,_::_,hr=>by simp only[RL] at hr
 | _::_,_,_,_,[],hr=>by simp only[RL] at hr
 | x :: xs, _, _, h, v :: vs, hr => by
  simp only[RL] at hr ⊢;exact⟨R.mono x h hr.1,RL.mono xs h hr.2⟩
end
structure ab where
 box:Nat->Option (List V)
 aS:Nat->Option Nat
 cI:Nat->Option (List V)
structure St where
 t:List V
 au:List (List V)
 out:ab
def kF(E:Env)(b:Nat)(cs:List V):Prop :=
 ∃c e,E.w.heap[b]?=U (.cells c e (0,0))/\cs.length<=c.size/\∀(j:Nat) x,cs[j]?=U x->∃v,c[j]?=U v/\R E x v
structure Env.ok(E:Env)(Z:ab):Prop where
 box:∀b cs,Z.box b=U cs->E.bg b = .sE/\kF E.nl b cs
 aS:∀t n,Z.aS t=U n->E.aS t=U n
 fresh:∀b,E.w.heap.size<=b->E.bg b = .const
 nt:∃N,∀t,N<=t->E.aS t=ah
 cI:∀b cs,Z.cI b=U cs->fz E.nl cs b 0
structure Env.dO(E:Env)(ls:List (List V)):Prop where
 box:∀i cs,ls[i]?=U cs->∃b,E.au i=U b/\E.bg b = .jZ i/\kF E b cs
 none:∀i,ls.length<=i->E.au i=ah
theorem ako(w:World)(c:Array Value)(t:TypeId)(a:Addr):(w.alloc (.cells c t)).frozen? a=w.frozen? a:=by
 by_cases h:a.block=w.heap.size
 .have e1:(w.alloc (.cells c t)).heap[a.block]?=U (.cells c t):=by rw[h];exact heap_alloc_new w _
  have e2:w.heap[a.block]?=none:=by grind
  simp[World.frozen?,e1,e2]
 .by_cases h2:a.block<w.heap.size
  .simp only[World.frozen?,heap_alloc_old w (.cells c t) h2]
  .have e2:w.heap[a.block]?=none:=by grind
   have e1:(w.alloc (.cells c t)).heap[a.block]?=none:=by simp;omega
   simp only[World.frozen?,e1,e2]
variable{b:Nat}{c new:Array Value}{e:TypeId}{w:World}
theorem Gt(hb:w.heap[b]?=U (.cells c e (0,0)))(a:Addr):(w.setRow b new).frozen? a=w.frozen? a:=by
 by_cases h:a.block=b
 .have e1:=setRow_heap w b c new e _ hb;rw[<-h] at hb e1;simp only[World.frozen?,h] at hb e1 ⊢
  grind
 .simp only[World.frozen?,setRow_other w b a.block new h]
structure Fr(E E' : Env):Prop where
 os:E'.w.os=E.w.os
 output:E'.w.output=E.w.output
 tape:E'.w.tape=E.w.tape
 size:E.w.heap.size<=E'.w.heap.size
 jU:∀a,E'.w.frozen? a=E.w.frozen? a
 cell:∀b o c,(E.bg b).jq o->E.w.cell? ⟨b,o,ah⟩=U c->(E'.bg b).jq o/\E'.w.cell? ⟨b,o,ah⟩=U c
 tok:∀t n,E.aS t=U n->∃n',E'.aS t=U n' /\ n<=n' /\ (n' = n->∀b c,E.bg b = .i_ t c ->
  E'.bg b = .i_ t c/\∀cs e,E.w.heap[b]?=U (.cells cs e (0,0))->∃cs',E'.w.heap[b]?=U (.cells cs' e (0,0))/\cs'.size=cs.size)
 same:∀b,b<E.w.heap.size->E.bg b = .const\/E.bg b = .ph->E'.w.heap[b]?=E.w.heap[b]?/\E'.bg b=E.bg b
 Gc:∀b,b<E.w.heap.size->E'.bg b = .sE->E.bg b = .sE\/∃j,E.bg b = .jZ j
 Gd:∀b t c,b<E.w.heap.size->E'.bg b = .i_ t c->∃c0,E.bg b = .i_ t c0
 D6:∀b i,b<E.w.heap.size->E'.bg b = .jZ i->∃j,E.bg b = .jZ j
 shape:∀(b:Nat) (c:Array Value) (e:TypeId),E.w.heap[b]?=U (.cells c e (0,0))->∃c' : Array Value,E'.w.heap[b]?=U (.cells c' e (0,0))/\c'.size=c.size
def Fr.le(h:Fr E E')(hl:∀i b,E.au i=U b->E'.au i=U b):E.le E' := ⟨h.cell,hl,h.tok⟩
def Fr.nl(h:Fr E E'):E.nl.le E'.nl:=⟨h.cell,λ_ _ h=>by simp at h,h.tok⟩
def Fr.refl(E:Env):Fr E E :=
 ⟨rfl,rfl,rfl,bU _,λ_=>rfl,(Env.le.refl E).cell,(Env.le.refl E).tok,λ_ _ _=>⟨rfl,rfl⟩,λ_ _ h=>.inl h,λ_ _ c _ h=>⟨c,h⟩,λ_ i _ h=>⟨i,h⟩,λ_ c _ h=>⟨c,h,rfl⟩⟩
theorem Fr.trans{F G'':Env}(h:Fr E F)(k:Fr F G''):Fr E G'':=by
 refine⟨k.os.trans h.os,k.output.trans h.output,k.tape.trans h.tape,yT h.size k.size,λa=>(k.jU a).trans (h.jU a),?_,?_,?_,?_,?_,?_,?_⟩
 .intro b o c hc hv;obtain⟨h1,h2⟩:=h.cell b o c hc hv;exact k.cell b o c h1 h2
 .have h' : Env.le {E with au:=λ_=>ah} {F with au:=λ_=>ah}:=⟨h.cell,λ_ _ h=>h,h.tok⟩;have k' : Env.le {F with au:=λ_=>ah} {G'' with au:=λ_=>ah}:=⟨k.cell,λ_ _ h=>h,k.tok⟩;exact(h'.trans k').tok
 .intro b hb hr;obtain⟨h1,h2⟩:=h.same b hb hr;obtain⟨k1,k2⟩:=k.same b (wa hb h.size) (by rw[h2];exact hr)
  grind
 .intro b hb hr
  rcases k.Gc b (wa hb h.size) hr with h1 | ⟨j,hj⟩
  .exact h.Gc b hb h1
  .exact .inr (h.D6 b j hb hj)
 .intro b t c hb hr;obtain⟨c0,h0⟩:=k.Gd b t c (wa hb h.size) hr;exact h.Gd b t c0 hb h0
 .intro b i hb hr;obtain⟨j,hj⟩:=k.D6 b i (wa hb h.size) hr;exact h.D6 b j hb hj
 .intro b c e hb;obtain⟨c1,h1,h2⟩:=h.shape b c e hb;obtain⟨c2,k1,k2⟩:=k.shape b c1 e h1
  grind
structure bS(E:Env)(st:St)(a:Act):Prop where
 ok:E.ok st.out
 dO:E.dO st.au
 defers:a.defers=[]
 slot:RL E st.t a.tmps.toList
def j4(P:Program)(c:Code)(Q:Exit->St->Prop)(st:St):Prop :=
 ∀E a,bS E st a->c.wp P (λe a' w' => ∃E' aV,E'.w=w' /\ bS E' aV a' /\ Fr E E' /\ Q e aV) a E.w
def S2(P:Program)(f:FuncId):Prop:=∀args w,(callFunc f args).run P w = .ok (.enter f args) w
def cy(P:Program)(f:FuncId)(args:List V)(Z:ab)(R' : V->ab->Prop):Prop :=
 S2 P f/\∀(E:Env) (vs:Array Value),(∀i,E.au i=ah)->E.ok Z->RL E args vs.toList ->
  Calls P f vs E.w λe w' => ∃v x E' σ',e = .returned x/\E'.w=w' /\ (∀i,E'.au i=ah)/\E'.ok σ' /\ R E' v x/\Fr E E' /\ R' v σ'
variable{P:Program}{f:FuncId}{Z:ab}
def cy.mono{args:List V}{TA TB:V->ab->Prop}(h:cy P f args Z TA)
 (hr:∀v σ',TA v σ' -> TB v σ'):cy P f args Z TB :=
 ⟨h.1,λE vs h1 h2 h3=>(h.2 E vs h1 h2 h3).mono λ_ _ ⟨v,x,E',σ',a,b,c,d,e,f,g⟩=>⟨v,x,E',σ',a,b,c,d,e,f,hr _ _ g⟩⟩
variable{Q:Exit->St->Prop}{st:St}
def Q8{c:Code}{Q':Exit->St->Prop}(h:j4 P c Q st)(hq:∀e st,Q e st->Q' e st):j4 P c Q' st :=
 λE a hs=>wp_mono (h E a hs) λ_ _ _ ⟨E',aV,h1,h2,h3,h4⟩=>⟨E',aV,h1,h2,h3,hq _ _ h4⟩
def adA(P:Program)(c:Code)(Q:Exit->St->Prop):Exit->St->Prop
 | .normal,st=>j4 P c Q st
 | e,st=>Q e st
def asl{x y:Code}(h:j4 P x (adA P y Q) st):j4 P (.seq x y) Q st:=by
 intro E a hs;refine wp_seq (wp_mono (h E a hs) ?_);rintro e a' w' ⟨E',aV,rfl,h2,h3,h4⟩;cases e with
 | normal=>exact wp_mono (h4 E' a' h2) λ_ _ _ ⟨pF,H7,k1,k2,k3,k4⟩=>⟨pF,H7,k1,k2,h3.trans k3,k4⟩
 | exit id=>exact⟨E',aV,rfl,h2,h3,h4⟩
 | goto l=>exact⟨E',aV,rfl,h2,h3,h4⟩
 | ret=>exact⟨E',aV,rfl,h2,h3,h4⟩
 | panic c=>exact⟨E',aV,rfl,h2,h3,h4⟩
 | outgrown=>exact⟨E',aV,rfl,h2,h3,h4⟩
def asm(h:Q .normal st):j4 P .skip Q st :=
 λE _ hs=>wp_skip ⟨E,st,rfl,hs,Fr.refl E,h⟩
def ase{id:Nat}(h:Q (.exit id) st):j4 P (.exit id) Q st :=
 λE _ hs=>wp_exit ⟨E,st,rfl,hs,Fr.refl E,h⟩
def asi(h:Q .ret st):j4 P .ret Q st :=
 λE _ hs=>wp_ret ⟨E,st,rfl,hs,Fr.refl E,h⟩
def asf{l:Nat}(h:Q .normal st):j4 P (.label l) Q st :=
 λE _ hs=>wp_label ⟨E,st,rfl,hs,Fr.refl E,h⟩
def uY(id:Nat)(Q:Exit->St->Prop):Exit->St->Prop
 | .exit C5,st=>if C5 = id then Q .normal st else Q (.exit C5) st
 | e,st=>Q e st
theorem asd{c:Code}{id:Nat}(h:j4 P c (uY id Q) st):j4 P (.block id c) Q st:=by
 intro E a hs;refine wp_block (wp_mono (h E a hs) ?_);rintro e a' w' ⟨E',aV,rfl,h2,h3,h4⟩;cases e with
 | exit C5 =>
  simp only[uY] at h4;simp only[Exit.inBlock]
  grind
 | normal=>exact⟨E',aV,rfl,h2,h3,h4⟩
 | goto l=>exact⟨E',aV,rfl,h2,h3,h4⟩
 | ret=>exact⟨E',aV,rfl,h2,h3,h4⟩
 | panic c=>exact⟨E',aV,rfl,h2,h3,h4⟩
 | outgrown=>exact⟨E',aV,rfl,h2,h3,h4⟩
def IG{E:Env}:∀{l:List V} {vs:List Value},RL E l vs->∀(n:Nat) (u:Value),R E (l.getD n .any) (vs.getD n u)
 | [],[],_,n,u=>by simp[R]
 | [],_::_,h,_,_=>by simp[RL] at h
 | _::_,[],h,_,_=>by simp[RL] at h
 | x :: xs, v :: vs, h, n, u => by
  simp only[RL] at h;cases n with
  | zero=>simpa using h.1
  | succ n=>simpa using IG h.2 n u
def iV{E:Env}:∀{l:List V} {vs:List Value},RL E l vs->l.length=vs.length
 | [],[],_=>rfl
 | [],_::_,h=>by simp[RL] at h
 | _::_,[],h=>by simp[RL] at h
 | x :: xs, v :: vs, h => by
  simp only[RL] at h;simp[iV h.2]
def vb{E:Env}:∀{l:List V} {vs:List Value},RL E l vs->∀(n:Nat) (x:V),l[n]?=U x->∃v,vs[n]?=U v/\R E x v
 | [],[],_,n,x,hx=>by simp at hx
 | [],_::_,h,_,_,_=>by simp[RL] at h
 | _::_,[],h,_,_,_=>by simp[RL] at h
 | x :: xs, v :: vs, h, n, y, hy => by
  simp only[RL] at h;cases n with
  | zero=>simp at hy;subst hy;exact⟨v,by simp,h.1⟩
  | succ n=>simp at hy;obtain⟨u,h1,h2⟩:=vb h.2 n y hy;exact⟨u,by simpa using h1,h2⟩
def IH{E:Env}:∀{l:List V} {vs:List Value},l.length=vs.length->(∀(n:Nat) x v,l[n]?=U x->vs[n]?=U v->R E x v)->RL E l vs
 | [],[],_,_=>by simp[RL]
 | [],_::_,h,_=>by simp at h
 | _::_,[],h,_=>by simp at h
 | x :: xs, v :: vs, h, hx => by
  simp only[RL];exact⟨hx 0 x v (by simp) (by simp),IH (by simpa using h) λn y u h1 h2=>hx (n+1) y u (by simpa using h1) (by simpa using h2)⟩
def II{E:Env}:∀{l:List V} {vs:List Value},RL E l vs->∀(n:Nat) {x:V} {v:Value},R E x v->RL E (l.set n x) (vs.set n v)
 | [],[],_,_,_,_,_=>by simp[RL]
 | [],_::_,h,_,_,_,_=>by simp[RL] at h
 | _::_,[],h,_,_,_,_=>by simp[RL] at h
 | x :: xs, v :: vs, h, n, y, u, hy => by
  simp only[RL] at h;cases n with
  | zero=>simp only[List.set,RL];exact⟨hy,h.2⟩
  | succ n=>simp only[List.set,RL];exact⟨h.1,II h.2 n hy⟩
def y3{E:Env}:∀{l:List V} {vs:List Value} {m:List V} {us:List Value},RL E l vs->RL E m us->RL E (l++m) (vs++us)
 | [],[],_,_,_,h=>by simpa using h
 | [],_::_,_,_,h,_=>by simp[RL] at h
 | _::_,[],_,_,h,_=>by simp[RL] at h
 | x :: xs, v :: vs, _, _, h, k => by
  simp only[RL,gY] at h ⊢;exact⟨h.1,y3 h.2 k⟩
def Tx(vs:List Value):RL E (aj vs.length V.any) vs:=by
 induction vs with
 | nil=>simp[RL]
 | cons v vs ih=>simp only[da,FZ,RL];exact⟨by simp[R],ih⟩
def St.put(st:St)(d:Option Nat)(v:V):St :=
 match d with
 | some n=>⟨st.t.set n v,st.au,st.out⟩
 | none=>st
variable{v:V}
def bS.put{a:Act}(h:bS E st a){x:Value}(hv:R E v x)(d:Option Nat):bS E (st.put d v) (a.put d x):=by
 cases d with
 | none=>exact h
 | some n=>exact⟨h.ok,h.dO,h.defers,by simpa [St.put,Act.put] using II h.slot n hv⟩
def aJ:Nat:=268435456
inductive X where
 | s (n:Nat)
 | c (v:V)
inductive OQ where
 | nil
 | len
 | idx (k:Nat)
 | qZ (k:Nat) (lo hi mx:Bool)
 | app (k:Nat)
 | po (k:Nat)
 | new (k:Nat)
 | min
 | max
 | aO
inductive a_ where
 | mv (x:X)
 | pick (c a b:X)
 | alloc (z:List V)
 | box (n:Nat) (x:X)
 | xI (n:Nat) (x:X)
 | build (z:List V) (ps:List (Nat × Nat × X))
 | pd (k:Nat) (xs:List X)
 | load (agg:Bool) (n:Nat) (x:X)
 | store (n:Nat) (a x:X)
 | ym (x:X)
 | qB (op:BinOp) (x y:X)
 | vg (op:BinOp) (x y:X)
 | xG (neg:Bool) (x y:X)
 | cat (x y:X)
 | lr (neg:Bool) (ks:List Nat) (x y:X)
 | wz (neg:Bool) (x y:X)
 | not (x:X)
 | yj (x:X)
 | yk (x:X)
 | rq (off:Nat) (x:X)
 | xU (agg:Bool) (off n:Nat) (x:X)
 | vP (k:Nat) (x i:X)
 | yg (x i:X)
 | yf (m k:Nat) (x i:X)
 | call (f:FuncId) (xs:List X)
 | xJ (x:X) (xs:List X)
 | app (k:Nat) (s x:X)
 | xC (s x:X)
 | qZ (k:Nat) (x:X) (lo hi mx:Option X)
 | BQ (x:X) (lo hi:Option X)
 | ext (x:X) (i:Nat)
 | Bz (f:Fn) (first cap:List X)
 | zb (k:IntKind) (x:X)
 | AS (x:X)
 | y5 (z:List V)
 | xH (n:Nat) (x:X)
 | own (q:OQ) (xs:List X)
structure AO where
 dst:Option Nat
 op:a_
 guard:Option (Nat × Bool)
def ev(st:St):X->V
 | .s n=>st.t.getD n .any
 | .c v=>v
def fi(st:St):List X->List V
 | []=>[]
 | x::xs=>ev st x::fi st xs
def V.wd:V->Option Nat
 | .agg cs=>U cs.length
 | .any=>ah
 | .bw _=>ah
 | .raw u=>if u.oneCell' then U 1 else ah
 | _=>U 1
def V.cells:V->List V
 | .agg cs=>cs
 | v=>[v]
def V.one:V->Bool
 | .bool _ | .int _ _ | .aQ _ | .kX | .ptr _ _ | .elt _ _ | .sl _ _ _ | .fn _ _ _=>aa
 | .raw u=>u.oneCell'
 | _=>aq
def c8:List V->Bool
 | []=>aa
 | x::xs=>x.one&&c8 xs
mutual
def V.cS:V->Bool
 | .ptr (.au _) _=>aq
 | .agg cs=>bK cs
 | .bw cs=>bK cs
 | .fn _ first cap=>bK first&&bK cap
 | _=>aa
def bK:List V->Bool
 | []=>aa
 | x::xs=>x.cS&&bK xs
end
mutual
def V.erase:V->V
 | .sl _ k l=>.sl .no k l
 | .agg cs=>.agg (a9 cs)
 | .bw cs=>.bw (a9 cs)
 | v=>v
def a9:List V->List V
 | []=>[]
 | x::xs=>x.erase::a9 xs
end
def takeN:Nat->List V->Option (List V)
 | 0,_=>U []
 | n+1,x::xs=>(takeN n xs).map (x::·)
 | _+1,[]=>ah
def bP:Bool->Nat->List V->Option V
 | true,n,cs=>(takeN n cs).map V.agg
 | false,_,c::_=>U c
 | false,_,[]=>ah
def over:List V->List V->List V
 | [],_=>[]
 | l,[]=>l
 | _::l,x::xs=>x::over l xs
def setAt:List V->Nat->List V->List V
 | l,0,xs=>over l xs
 | [],_+1,_=>[]
 | a::l,n+1,xs=>a::setAt l n xs
def cB:Nat->List V->Bool
 | 0,_=>aa
 | n+1,_::xs=>cB n xs
 | _+1,[]=>aq
def ab.set(Z:ab)(b:Nat)(cs:List V):ab:={Z with box:=λx=>if x=b then U cs else Z.box x}
def ab.aU(Z:ab)(t n:Nat):ab:={Z with aS:=λx=>if x=t then U n else Z.aS x}
def I1(st:St):Pl->Option (List V)
 | .au i=>st.au[i]?
 | .out b=>st.out.box b
 | .nq b=>st.out.cI b
def p9(st:St)(agg:Bool)(n:Nat):V->Option V
 | .ptr p off=>(I1 st p).bind λcs=>bP agg n (cs.drop off)
 | .elt cs off=>bP agg n (cs.drop off)
 | _=>ah
def fe(st:St)(n:Nat)(x:V):V->Option St
 | .ptr (.au i) off=>(st.au[i]?).bind λcs=>if cB n (cs.drop off)=aa/\x.wd=U n/\c8 x.cells=aa then U ⟨st.t,st.au.set i (setAt cs off x.cells),st.out⟩ else ah
 | .ptr (.out b) off=>(st.out.box b).bind λcs=>if cB n (cs.drop off)=aa/\x.wd=U n/\c8 x.cells=aa/\bK x.cells=aa then U ⟨st.t,st.au,st.out.set b (setAt cs off x.cells)⟩ else ah
 | _=>ah
def rl(st:St):List V->List (Nat × Nat × X)->Option (List V)
 | z,[]=>U z
 | z,(off,n,x)::ps=>if cB n (z.drop off)=aa/\(ev st x).wd=U n then rl st (setAt z off (ev st x).cells) ps else ah
def mR(st:St)(k:Nat):List X->Option (List (List V))
 | []=>U []
 | x::xs=>if (ev st x).wd=U k/\bK (ev st x).cells=aa/\c8 (ev st x).cells=aa then(mR st k xs).map (a9 (ev st x).cells::·) else ah
def C7:IntKind->IntKind->Bool
 | .i8,.i8 | .i16,.i16 | .i32,.i32 | .i64,.i64 | .u8,.u8 | .u16,.u16 | .u32,.u32 | .u64,.u64=>aa
 | _,_=>aq
def Pf{a b:IntKind}(h:C7 a b=aa):a=b:=by cases a<;>cases b<;>first | rfl | (simp[C7] at h)
def jv(k:IntKind)(a b:Int):BinOp->Option V
 | .add=>U (.int k (k.wrap (a+b)))
 | .sub=>U (.int k (k.wrap (a - b)))
 | .mul=>U (.int k (k.wrap (a*b)))
 | .eql=>U (.bool (decide (a=b)))
 | .neq=>U (.bool (!decide (a=b)))
 | .lss=>U (.bool (decide (a<b)))
 | .leq=>U (.bool (decide (a<=b)))
 | .gtr=>U (.bool (decide (b<a)))
 | .geq=>U (.bool (decide (b<=a)))
 | .quo=>if b=0 then ah else U (.int k (k.wrap (a.tdiv b)))
 | .rem=>if b=0 then ah else U (.int k (a.tmod b))
 | .and=>U (.int k (k.wrap ((BitVec.ofInt k.bits a&&&BitVec.ofInt k.bits b).toNat:Nat)))
 | .or=>U (.int k (k.wrap ((BitVec.ofInt k.bits a|||BitVec.ofInt k.bits b).toNat:Nat)))
 | .xor=>U (.int k (k.wrap ((BitVec.ofInt k.bits a ^^^ BitVec.ofInt k.bits b).toNat:Nat)))
 | .andNot=>U (.int k (k.wrap ((BitVec.ofInt k.bits a&&&~~~BitVec.ofInt k.bits b).toNat:Nat)))
 | .shl=>if b<0 then ah else U (.int k (k.wrap (a*2^(Nat.min b.toNat k.bits))))
 | .shr=>if b<0 then ah else U (.int k (a.fdiv (2^(Nat.min b.toNat k.bits))))
def EW:BinOp->Bool
 | .shl | .shr=>aa
 | _=>aq
def y8(op:BinOp):V->V->Option V
 | .int k a,.int k' b=>if C7 k k' = aa\/EW op=aa then jv k a b op else ah
 | _,_=>ah
def Ad(a b:List UInt8):BinOp->Option V
 | .eql=>U (.bool (decide (a=b)))
 | .neq=>U (.bool (!decide (a=b)))
 | .lss=>U (.bool (Op.bytesLess a b))
 | .leq=>U (.bool (Op.bytesLess a b||decide (a=b)))
 | .gtr=>U (.bool (!(Op.bytesLess a b||decide (a=b))))
 | .geq=>U (.bool (!Op.bytesLess a b))
 | _=>ah
def Cj(op:BinOp):V->V->Option V
 | .aQ a,.aQ b=>Ad a b op
 | _,_=>ah
def AY(neg:Bool):V->V->Option V
 | .bool a,.bool b=>U (.bool (if neg then !decide (a=b) else decide (a=b)))
 | _,_=>ah
def hZ:List Nat->List V->List V->Option Bool
 | [],[],[]=>U aa
 | 1::ks,.int k a::xs,.int k' b::ys=>if C7 k k' = aa then(hZ ks xs ys).map (decide (a=b)&&·) else ah
 | 2::ks,.aQ a::xs,.aQ b::ys=>(hZ ks xs ys).map (decide (a=b)&&·)
 | 0::ks,.bool a::xs,.bool b::ys=>(hZ ks xs ys).map (decide (a=b)&&·)
 | _,_,_=>ah
def AX(neg:Bool)(ks:List Nat):V->V->Option V
 | .agg xs,.agg ys=>(hZ ks xs ys).map λb=>.bool (if neg then !b else b)
 | _,_=>ah
def isNil:V->Option Bool
 | .kX=>U aa
 | .ptr _ _=>U aq
 | _=>ah
def K2(K:V->St->Prop)(st:St):V->Prop:=λv=>K v st
def opt(o:Option V)(K:V->Prop):Prop:=match o with | some v=>K v | none=>False
def L3(l:List (List V))(i:V)(K:List V->Prop):Prop:=∃k n x,i = .int k n/\0<=n/\l[n.toNat]?=U x/\K x
def sR(Z:ab)(k:Nat)(s x:V)(K:V->ab->Prop):Prop :=
 ∃t l m,s = .sl t k l/\(∃t',x = .sl t' k m)/\l.length+m.length<=aJ /\
  match t with
  | .aY=>(∀D,Z.aS D=ah->K (.sl (.tk D) k (l++m)) (Z.aU D (l.length+m.length)))\/K (.sl .no k (l++m)) Z\/∃D,Z.aS D=U l.length/\K (.sl (.tk D) k (l++m)) (Z.aU D (l.length+m.length))
  | .tk D=>Z.aS D=U l.length/\K (.sl (.tk D) k (l++m)) (Z.aU D (l.length+m.length))
  | .no=>False
def fS(s:List UInt8):List (List V):=s.map λb=>[.int .u8 b.toNat]
def qC(b:Bool)(d:Nat)(vs:List V)(K:Nat->List V->Prop):Prop :=
 match b,vs with
 | false,vs=>K d vs
 | true,.int _ j::vs=>0<=j/\K j.toNat vs
 | true,_=>False
def FQ(Z:ab)(k:Nat)(a:Option Addr)(n cap:Nat)(m:List (List V))(K:V->ab->Prop):Prop :=
 n<=cap/\n+m.length<=aJ/\bK m.flatten=aa /\
 (m=[]->K (.raw (.slice a n cap)) Z) /\
 (m≠[]->n+m.length<=cap->∃b cs,a=U ⟨b,0,ah⟩/\Z.box b=U cs/\n*k+m.length*k<=cs.length/\K (.raw (.slice a (n+m.length) cap)) (Z.set b (setAt cs (n*k) m.flatten))) /\
 (cap<n+m.length->∃cs,(n=0/\cs=[]\/∃b,a=U ⟨b,0,ah⟩/\Z.box b=U cs/\n*k<=cs.length) /\
   ∀b' wh,Z.box b' = ah->n+m.length<=wh -> K (.raw (.slice (U ⟨b',0,ah⟩) (n+m.length) wh)) (Z.set b' (cs.take (n*k)++m.flatten++aj ((wh - (n+m.length))*k) .any)))
def Br(k:Nat):List V->Option (List (List V))
 | []=>U []
 | v::vs=>if v.wd=U k/\bK v.cells=aa/\c8 v.cells=aa then(Br k vs).map (v.cells::·) else ah
def ab.del(Z:ab)(b:Nat):ab:={Z with box:=λx=>if x=b then ah else Z.box x}
def PU(k:Nat)(vs:List V)(H:List (List V)->Prop):Prop:=∃l,Br k vs=U l/\H l
def OQ.bN(Z:ab)(K:V->ab->Prop):OQ->List V->Prop
 | .nil,[]=>K (.raw (.slice ah 0 0)) Z
 | .len,[.raw (.slice _ n _)]=>K (.int .i64 n) Z
 | .idx k,[.raw (.slice (U ⟨b,o,ah⟩) n _),.int _ j]=>0<=j/\j<n/\K (.ptr (.out b) (o+j.toNat*k)) Z
 | .qZ k lo hi mx,.raw (.slice a n cap)::vs=>qC lo 0 vs λm vs=>qC hi n vs λh vs=>qC mx cap vs λM vs=>vs=[]/\m<=h/\h<=M/\M<=cap/\K (.raw (.slice (if M=m then a else a.map (·.add (m*k))) (h - m) (M - m))) Z
 | .app k,[.raw (.slice a n cap),.sl _ k' m]=>k' = k/\FQ Z k a n cap m K
 | .po k,vs=>PU k vs λl=>K (.sl .aY k l) Z
 | .new k,vs=>PU k vs λl=>bK l.flatten=aa/\∀b',Z.box b' = ah->K (.raw (.slice (U ⟨b',0,ah⟩) l.length l.length)) (Z.set b' l.flatten)
 | .min,[.int k a,.int k' b]=>C7 k k' = aa/\K (.int k (if b<a then b else a)) Z
 | .max,[.int k a,.int k' b]=>C7 k k' = aa/\K (.int k (if a<b then b else a)) Z
 | _,_=>False
def OQ.pure:OQ->Bool
 | .nil | .len | .idx _ | .qZ .. | .po _ | .min | .max=>aa
 | .app _ | .new _ | .aO=>aq
def a_.bN(P:Program)(st:St)(K:V->St->Prop):a_->Prop
 | .mv x=>K (ev st x) st
 | .pick c a b=>match ev st c with | .bool aa=>K (ev st a) st | .bool aq=>K (ev st b) st | _=>False
 | .alloc z=>K (.ptr (.au st.au.length) 0) ⟨st.t,st.au++[z],st.out⟩
 | .box n x=>(ev st x).wd=U n/\K (.ptr (.au st.au.length) 0) ⟨st.t,st.au++[(ev st x).cells],st.out⟩
 | .xI n x=>(ev st x).wd=U n/\c8 (ev st x).cells=aa/\K (.ptr (.au st.au.length) 0) ⟨st.t,st.au++[(ev st x).cells],st.out⟩
 | .build z ps=>opt ((rl st z ps).map V.agg) (K2 K st)
 | .pd k xs=>opt ((mR st k xs).map (V.sl .aY k)) (K2 K st)
 | .load agg n x=>opt (p9 st agg n (ev st x)) (K2 K st)
 | .store n a x=>match fe st n (ev st x) (ev st a) with | some aV => K .any aV | none=>False
 | .ym x=>match ev st x with | .ptr p o=>K (.ptr p o) st | .elt c o=>K (.elt c o) st | .fn (.func f) a b=>K (.fn (.func f) a b) st | _=>False
 | .qB op x y=>opt (y8 op (ev st x) (ev st y)) (K2 K st)
 | .vg op x y=>opt (Cj op (ev st x) (ev st y)) (K2 K st)
 | .xG neg x y=>opt (AY neg (ev st x) (ev st y)) (K2 K st)
 | .cat x y=>∃a b,ev st x = .aQ a/\ev st y = .aQ b/\a.length+b.length<=aJ/\K (.aQ (a++b)) st
 | .lr neg ks x y=>opt (AX neg ks (ev st x) (ev st y)) (K2 K st)
 | .wz neg x y=>match isNil (ev st x),ev st y with | some a,.kX=>K (.bool (if neg then !a else a)) st | _,_=>False
 | .not x=>match ev st x with | .bool b=>K (.bool (!b)) st | _=>False
 | .yj x=>match ev st x with | .sl _ _ l=>K (.int .i64 l.length) st | .raw (.slice _ n _)=>K (.int .i64 n) st | _=>False
 | .yk x=>match ev st x with | .aQ s=>K (.int .i64 s.length) st | _=>False
 | .rq off x=>match ev st x with | .ptr p o=>K (.ptr p (o+off)) st | .elt c o=>K (.elt c (o+off)) st | _=>False
 | .xU agg off n x=>match ev st x with | .agg cs=>opt (bP agg n (cs.drop off)) (K2 K st) | _=>False
 | .vP k x i => match ev st x with
  | .sl _ k' l=>k' = k/\L3 l (ev st i) λc=>K (.elt c 0) st
  | .raw (.slice (U ⟨b,o,ah⟩) n _)=>∃ik j,ev st i = .int ik j/\0<=j/\j<n/\K (.ptr (.out b) (o+j.toNat*k)) st
  | _=>False
 | .yf m k x i => match ev st x with
  | .ptr p o=>∃kk n,ev st i = .int kk n/\0<=n/\n<(m:Nat)/\K (.ptr p (o+n.toNat*k)) st
  | .elt c o=>∃kk n,ev st i = .int kk n/\0<=n/\n<(m:Nat)/\K (.elt c (o+n.toNat*k)) st
  | _=>False
 | .yg x i=>match ev st x with | .aQ s=>∃k n c,ev st i = .int k n/\0<=n/\s[n.toNat]?=U c/\K (.int .u8 c.toNat) st | _=>False
 | .call f xs=>bK (fi st xs)=aa/\cy P f (fi st xs) st.out λv Z=>K v ⟨st.t,st.au,Z⟩
 | .xJ x xs=>match ev st x with | .fn (.func f) a b=>bK (a++fi st xs++b)=aa/\cy P f (a++fi st xs++b) st.out λv Z=>K v ⟨st.t,st.au,Z⟩ | _=>False
 | .app k s x=>sR st.out k (ev st s) (ev st x) λv Z=>K v ⟨st.t,st.au,Z⟩
 | .xC s x=>∃a,ev st x = .aQ a/\sR st.out 1 (ev st s) (.sl .no 1 (fS a)) λv Z=>K v ⟨st.t,st.au,Z⟩
 | .qZ k x lo hi mx=>(∃t l a b,ev st x = .sl t k l/\a<=b/\b<=l.length/\(match lo with | none=>a=0 | some y=>∃j,ev st y = .int j a) /\
  (match hi with | none=>b=l.length | some y=>∃j,ev st y = .int j b) /\
  match mx with
  | none=>K (.sl .no k ((l.take b).drop a)) st
  | some y=>(∃j,ev st y = .int j b)/\K (.sl .aY k ((l.take b).drop a)) st) \/
  ∃a n cap m h,ev st x = .raw (.slice a n cap)/\m<=h/\h<=cap/\(match lo with | none=>m=0 | some y=>∃j,ev st y = .int j m)/\(match hi with | none=>h=n | some y=>∃j,ev st y = .int j h)/\mx.isNone=aa /\
   K (.raw (.slice (if cap=m then a else a.map (·.add (m*k))) (h - m) (cap - m))) st
 | .BQ x lo hi=>∃s a b,ev st x = .aQ s/\a<=b/\b<=s.length/\(match lo with | none=>a=0 | some y=>∃j,ev st y = .int j a) /\
  (match hi with | none=>b=s.length | some y=>∃j,ev st y = .int j b)/\K (.aQ ((s.take b).drop a)) st
 | .ext x i=>match ev st x with | .bw vs=>opt vs[i]? (K2 K st) | _=>False
 | .Bz f first cap=>K (.fn f (fi st first) (fi st cap)) st
 | .zb k x=>match ev st x with | .int _ n=>K (.int k (k.wrap n)) st | _=>False
 | .AS x=>∃t s,ev st x = .sl t 1 (fS s)/\K (.aQ s) st
 | .y5 z=>bK z=aa/\∀b,st.out.box b=ah->K (.ptr (.out b) 0) ⟨st.t,st.au,st.out.set b z⟩
 | .xH n x=>(ev st x).wd=U n/\bK (ev st x).cells=aa/\∀b,st.out.box b=ah->K (.ptr (.out b) 0) ⟨st.t,st.au,st.out.set b (ev st x).cells⟩
 | .own q xs=>q.bN st.out (λv Z=>K v ⟨st.t,st.au,Z⟩) (fi st xs)
def de(P:Program):List AO->(St->Prop)->St->Prop
 | [],K,st=>K st
 | o :: r, K, st =>
  match o.guard with
  | none=>o.op.bN P st λv aV => de P r K (aV.put o.dst v)
  | some (g, want) =>
   match ev st (.s g) with
   | .bool b=>if b=want then o.op.bN P st (λv aV => de P r K (aV.put o.dst v)) else de P r K (st.put o.dst (.bw []))
   | .bw []=>de P r K (st.put o.dst (.bw []))
   | _=>False
mutual
def R.erase:∀(x:V) {E:Env} {v:Value},R E x v->R E x.erase v
 | .sl t k l, E, v, h => by
  simp only[V.erase,R] at h ⊢;obtain⟨a,cap,h1,h2,h3,_⟩:=h;exact⟨a,cap,h1,h2,h3,trivial⟩
 | .agg cs, E, v, h => by
  simp only[V.erase,R] at h ⊢;obtain⟨vs,h1,h2⟩:=h;exact⟨vs,h1,RL.erase cs h2⟩
 | .bw cs, E, v, h => by
  simp only[V.erase,R] at h ⊢;obtain⟨vs,h1,h2⟩:=h;exact⟨vs,h1,RL.erase cs h2⟩
 | .any,_,_,h=>by simpa [V.erase] using h
 | .bool _,_,_,h=>by simpa [V.erase] using h
 | .int _ _,_,_,h=>by simpa [V.erase] using h
 | .aQ _,_,_,h=>by simpa [V.erase] using h
 | .kX,_,_,h=>by simpa [V.erase] using h
 | .ptr _ _,_,_,h=>by simpa [V.erase] using h
 | .elt _ _,_,_,h=>by simpa [V.erase] using h
 | .fn _ _ _,_,_,h=>by simpa [V.erase] using h
 | .raw _,_,_,h=>by simpa [V.erase] using h
def RL.erase:∀(l:List V) {E:Env} {vs:List Value},RL E l vs->RL E (a9 l) vs
 | [],_,[],_=>by simp only[a9,RL]
 | [],_,_::_,h=>by simp only[RL] at h
 | _::_,_,[],h=>by simp only[RL] at h
 | x :: xs, _, v :: vs, h => by
  simp only[a9,RL] at h ⊢;exact⟨R.erase x h.1,RL.erase xs h.2⟩
end
def VD:∀l:List V,(a9 l).length=l.length
 | []=>rfl
 | x::xs=>by simp[a9,VD xs]
variable{vs:List V}
theorem ME{b:Bool}{d:Nat}{K K' : Nat->List V->Prop}(h:qC b d vs K)(hk:∀n vs,K n vs->K' n vs):qC b d vs K' := by
 unfold qC at h ⊢
 grind
variable{K K':V->ab->Prop}
theorem FQ.mono{n:Nat}{m:List (List V)}(hk:∀v σ',K v σ' -> K' v σ')(h:FQ Z k a n cap m K):FQ Z k a n cap m K' := by
 obtain⟨h1,h2,h3,h4,h5,h6⟩:=h;refine⟨h1,h2,h3,λe=>hk _ _ (h4 e),λe e' => ?_,λe=>?_⟩
 .grind
 .obtain⟨cs,g1,g2⟩:=h6 e;exact⟨cs,g1,λb' wh p1 p2=>hk _ _ (g2 b' wh p1 p2)⟩
theorem OQ.mono(hk:∀v σ',K v σ' -> K' v σ')(q:OQ)(vs:List V)(h:q.bN Z K vs):q.bN Z K' vs:=by
 unfold OQ.bN at h ⊢;split at h
 .grind
 .grind
 .grind
 .exact ME h λ_ _ h=>ME h λ_ _ h=>ME h λ_ _ h=>⟨h.1,h.2.1,h.2.2.1,h.2.2.2.1,hk _ _ h.2.2.2.2⟩
 .exact⟨h.1,h.2.mono hk⟩
 .obtain⟨l,h1,h2⟩:=h;exact⟨l,h1,hk _ _ h2⟩
 .obtain⟨l,h1,h2,h3⟩:=h;exact⟨l,h1,h2,λb' hb=>hk _ _ (h3 b' hb)⟩
 .grind
 .grind
 .omega
theorem MD{b:Bool}{d:Nat}{K:Nat->List V->Prop}(h:qC b d vs K):∃n FF,K n FF /\ ∀K' : Nat->List V->Prop,K' n FF -> qC b d vs K' := by
 unfold qC at h;split at h
 .exact⟨_,_,h,λ_ h=>by unfold qC;exact h⟩
 .exact⟨_,_,h.2,λ_ h' => by unfold qC;exact⟨h.1,h'⟩⟩
 .grind
theorem OQ.Vc{q:OQ}(hp:q.pure=aa)(h:q.bN Z K vs):∃v,K v Z/\∀(gl:ab) (K' : V->ab->Prop),K' v gl->q.bN gl K' vs:=by
 unfold OQ.bN at h;split at h
 .exact⟨_,h,λ_ _ h=>by unfold OQ.bN;exact h⟩
 .exact⟨_,h,λ_ _ h=>by unfold OQ.bN;exact h⟩
 .exact⟨_,h.2.2,λ_ _ h' => by unfold OQ.bN;exact⟨h.1,h.2.1,h'⟩⟩
 .obtain⟨m,v1,h1,g1⟩:=MD h;obtain⟨hh,v2,h2,g2⟩:=MD h1;obtain⟨M,v3,h3,g3⟩:=MD h2;obtain⟨e1,e2,e3,e4,h4⟩:=h3;exact⟨_,h4,λ_ _ h' => by unfold OQ.bN;exact g1 _ (g2 _ (g3 _ ⟨e1,e2,e3,e4,h'⟩))⟩
 .simp[OQ.pure] at hp
 .obtain⟨l,h1,h2⟩:=h;exact⟨_,h2,λ_ _ h' => by unfold OQ.bN;exact⟨l,h1,h'⟩⟩
 .simp[OQ.pure] at hp
 .exact⟨_,h.2,λ_ _ h' => by unfold OQ.bN;exact⟨h.1,h'⟩⟩
 .exact⟨_,h.2,λ_ _ h' => by unfold OQ.bN;exact⟨h.1,h'⟩⟩
 .grind
def Mp:R E (.bw []) undef:=by simp only[R];exact⟨#[],rfl,by simp[RL]⟩
def Tz{v:Value}(h:R E (.bw []) v):v=undef:=by
 simp only[R] at h;obtain⟨vs,rfl,h⟩:=h;cases hv:vs.toList with
 | nil =>
  have:vs=#[]:=by cases vs;simpa using hv
  subst this;rfl
 | cons x xs=>rw[hv] at h;simp[RL] at h
def cv:V->Value->Bool
 | .bool b,.bool c=>b == c
 | .int k n,.int j m=>decide (k=j)&&decide (n=m)
 | .aQ s,.string t=>decide (s=t.data.toList)
 | .kX,.pointer ah=>aa
 | .sl .aY _ [],.slice ah 0 0=>aa
 | .raw .nilFunc,.nilFunc=>aa
 | .raw .nilIface,.nilIface=>aa
 | .raw (.map ah),.map ah=>aa
 | _,_=>aq
def AT:List V->List Value->Bool
 | [],[]=>aa
 | x::xs,v::vs=>cv x v&&AT xs vs
 | _,_=>aq
def ML(f:Nat->Option (List V)):List Nat->Option (List V)
 | []=>U []
 | t::ts=>(f t).bind λa=>(ML f ts).map (a++·)
def zeroV(P:Program):Nat->TypeId->Option (List V)
 | 0,_=>ah
 | n + 1, t =>
  match P.underlying t with
  | some .bool=>U [.bool aq]
  | some (.int k)=>U [.int k 0]
  | some .string=>U [.aQ []]
  | some (.pointer _)=>U [.kX]
  | some (.slice e)=>U [.sl .aY (P.cellsOf e) []]
  | some (.func _ _ _)=>U [.raw .nilFunc]
  | some (.interface _)=>U [.raw .nilIface]
  | some (.map _ _)=>U [.raw (.map ah)]
  | some (.struct fs)=>ML (zeroV P n) (fs.toList.map (·.type))
  | some (.array k e)=>ML (zeroV P n) (aj k e)
  | _=>ah
def mA(P:Program)(t:TypeId):Option (List V) :=
 match P.info? t,zeroV P 30 t with
 | some i, U zs =>
  match i.zero with
  | some z=>if AT zs z.cells.toList=aa/\zs.length=i.size then U zs else ah
  | none=>ah
 | _,_=>ah
def MV(P:Program)(t:TypeId):Value->Option V
 | .slice ah 0 0 =>
  match P.underlying t with
  | some (.slice e)=>U (.sl .aY (P.cellsOf e) [])
  | _=>ah
 | .agg vs =>
  match mA P t with
  | some zs=>if AT zs vs.toList=aa then U (.agg zs) else ah
  | none=>ah
 | .bool b=>U (.bool b)
 | .int k n=>U (.int k n)
 | .string s=>U (.aQ s.data.toList)
 | .pointer ah=>U .kX
 | .nilFunc=>U (.raw .nilFunc)
 | .nilIface=>U (.raw .nilIface)
 | _=>ah
def dB(P:Program)(t:TypeId):Operand->Option X
 | .tmp n=>U (.s n)
 | .const v=>(MV P t v).map .c
 | .func f=>U (.c (.fn (.func f) [] []))
 | .global g=>U (.c (.ptr (.nq g) 0))
def kV(P:Program):List TypeId->List Operand->Option (List X)
 | [],[]=>U []
 | t::ts,x::xs=>(dB P t x).bind λy=>(kV P ts xs).map (y::·)
 | _,_=>ah
def p_(P:Program)(t:TypeId):Option Operand->Option (Option X)
 | none=>U ah
 | some x=>(dB P t x).map U
def jI(P:Program)(t:TypeId):Option Bool :=
 match P.underlying t with
 | some (.struct _) | some (.array _ _)=>U aa
 | some _=>U aq
 | none=>ah
def fR(P:Program)(t:TypeId):Option Nat:=(P.info? t).map (·.size)
def Dh(P:Program)(place:Nat->Option (Nat × TypeId)):List (Nat × Operand)->Option (List (Nat × Nat × X))
 | []=>U []
 | (i, x) :: ps =>
  match place i with
  | some (off, t) =>
   match fR P t,dB P t x with
   | some n,U y=>if n=0 then ah else(Dh P place ps).map ((off,n,y)::·)
   | _,_=>ah
  | none=>ah
def K0(f:TypeId->Nat->Option (List (Nat × Nat)))(size:TypeId->Nat)(all:Nat):List Field->Nat->Option (List (Nat × Nat))
 | [],_=>U []
 | x::xs,off=>if x.name = "_" \/ all<x.offset+size x.type then ah else(f x.type (off+x.offset)).bind λa=>(K0 f size all xs off).map (a++·)
def K1(f:Nat->Option (List (Nat × Nat)))(size all:Nat):List Nat->Nat->Option (List (Nat × Nat))
 | [],_=>U []
 | i::is,off=>if all<i*size+size then ah else(f (off+i*size)).bind λa=>(K1 f size all is off).map (a++·)
def zX(P:Program):Nat->TypeId->Nat->Option (List (Nat × Nat))
 | 0,_,_=>ah
 | n + 1, t, off =>
  match P.info? t,P.underlying t with
  | some _,U .bool=>if P.cellsOf t=1 then U [(off,0)] else ah
  | some _,U (.int _)=>if P.cellsOf t=1 then U [(off,1)] else ah
  | some _,U .string=>if P.cellsOf t=1 then U [(off,2)] else ah
  | some _,U (.struct fs)=>if P.stoodInHeld t=aa then ah else K0 (zX P n) P.cellsOf (P.cellsOf t) fs.toList off
  | some _,U (.array k e)=>match P.info? e with | some _=>K1 (zX P n e) (P.cellsOf e) (P.cellsOf t) (bH k) off | none=>ah
  | _,_=>ah
def Q4(P:Program)(t:TypeId):Option (List Nat) :=
 match zX P 20 t 0 with
 | some pl=>if pl.map (·.1)=bH (P.cellsOf t)/\P.eqGuardType P.depth t=aq then U (pl.map (·.2)) else ah
 | none=>ah
def Bw(P:Program)(o:Oper):Option a_ :=
 match o.op with
 | .move x | .assign x=>(dB P o.type x).map .mv
 | .pick c a b =>
  match dB P o.type c,dB P o.type a,dB P o.type b with
  | some c,U a,U b=>U (.pick c a b)
  | _,_,_=>ah
 | .alloc t=>(mA P t).map .alloc
 | .box t x =>
  match fR P t,dB P t x with
  | some n,U y=>U (.box n y)
  | _,_=>ah
 | .build t ps =>
  match mA P t,P.underlying t with
  | some z,U (.struct fs)=>if fs.toList.all (λf=>(P.info? f.type).isSome)=aa then(Dh P (λi=>(fs[i]?).map λf=>(f.offset,f.type)) ps.toList).map (.build z) else ah
  | some z,U (.array _ e)=>if (P.info? e).isSome=aa then(Dh P (λi=>U (i*P.cellsOf e,e)) ps.toList).map (.build z) else ah
  | _,_=>ah
 | .buildSlice t len ps =>
  match P.underlying t with
  | some (.slice e) =>
   match fR P e,mA P e,kV P (aj len e) (ps.toList.map (·.2)) with
   | some k,U _,U xs=>if ps.toList.map (·.1)=bH len/\len*k<=16777216/\0<k then U (.pd k xs) else ah
   | _,_,_=>ah
  | _=>ah
 | .load t x =>
  match jI P t,fR P t,dB P t x with
  | some g,U n,U y=>U (.load g n y)
  | _,_,_=>ah
 | .store t x y =>
  match fR P t,dB P t x,dB P t y with
  | some n,U x,U y=>if n=0 then ah else U (.store n x y)
  | _,_,_=>ah
 | .nilCheck x=>(dB P o.type x).map .ym
 | .binOp op t x y _ =>
  match dB P t x,dB P t y with
  | some x, U y =>
   match P.underlying t with
   | some (.int _)=>U (.qB op x y)
   | some .string=>match op with | .add=>U (.cat x y) | _=>U (.vg op x y)
   | some .bool=>match op with | .eql=>U (.xG aq x y) | .neq=>U (.xG aa x y) | _=>ah
   | some (.struct _) | some (.array _ _) =>
    match Q4 P t with
    | some ks=>match op with | .eql=>U (.lr aq ks x y) | .neq=>U (.lr aa ks x y) | _=>ah
    | none=>ah
   | _=>ah
  | _,_=>ah
 | .unOp .not _ x=>(dB P o.type x).map .not
 | .convert src dst x =>
  match P.underlying src,P.underlying dst,dB P src x with
  | some (.int _),U (.int k),U y=>U (.zb k y)
  | some (.slice e),U .string,U y=>match P.underlying e with | some (.int .u8)=>U (.AS y) | _=>ah
  | _,_,_=>ah
 | .makeFunc f first cap =>
  match kV P (aj first.size 0) first.toList,kV P (aj cap.size 0) cap.toList with
  | some a,U b=>U (.Bz f a b)
  | _,_=>ah
 | .slice t x lo hi mx =>
  match dB P t x,p_ P t lo,p_ P t hi,p_ P t mx with
  | some x, U lo, U hi, U mx =>
   match P.underlying t with
   | some (.slice e)=>match fR P e with | some k=>if mx.isSome=aa->hi.isSome=aa then U (.qZ k x lo hi mx) else ah | none=>ah
   | some .string=>match mx with | none=>U (.BQ x lo hi) | some _=>ah
   | _=>ah
  | _,_,_,_=>ah
 | .fieldAddr s x i =>
  match P.underlying s,dB P s x with
  | some (.struct fs), U y =>
   match fs[i]? with
   | some f=>match fR P f.type with | some n=>if n=0 then ah else U (.rq f.offset y) | none=>ah
   | none=>ah
  | _,_=>ah
 | .field s x i =>
  match P.underlying s,dB P s x with
  | some (.struct fs), U y =>
   match fs[i]? with
   | some f=>match jI P f.type,fR P f.type with | some g,U n=>U (.xU g f.offset n y) | _,_=>ah
   | none=>ah
  | _,_=>ah
 | .indexAddr t x i =>
  match P.underlying t,dB P t x,dB P t i with
  | some (.slice e),U x,U i=>(fR P e).map λk=>.vP k x i
  | some (.array m e),U x,U i=>(fR P e).map λk=>.yf m k x i
  | _,_,_=>ah
 | .index t x i =>
  match P.underlying t,dB P t x,dB P t i with
  | some .string,U x,U i=>U (.yg x i)
  | _,_,_=>ah
 | .extract x i=>(dB P o.type x).map λy=>.ext y i
 | .call c =>
  match c.callee with
  | .value (.func f)=>(kV P c.argTypes.toList c.args.toList).map (.call f)
  | .value x =>
   match dB P 0 x,kV P c.argTypes.toList c.args.toList with
   | some y,U xs=>U (.xJ y xs)
   | _,_=>ah
  | .builtin .len =>
   match c.argTypes.toList,c.args.toList with
   | [t], [x] =>
    match P.underlying t,dB P t x with
    | some (.slice _),U y=>U (.yj y)
    | some .string,U y=>U (.yk y)
    | _,_=>ah
   | _,_=>ah
  | .builtin .append =>
   match c.argTypes.toList,c.args.toList with
   | [t, u], [s, x] =>
    match P.underlying t,P.underlying u,dB P t s,dB P u x with
    | some (.slice e), U (.slice e'), U s, U x =>
     match P.info? e,mA P e with
     | some i,U _=>if e=e' /\ i.bytes<=4096/\0<i.size then U (.app i.size s x) else ah
     | _,_=>ah
    | some (.slice e), U .string, U s, U x =>
     match P.info? e,mA P e with
     | some i,U _=>match P.underlying e with | some (.int .u8)=>if i.size=1/\i.bytes=1 then U (.xC s x) else ah | _=>ah
     | _,_=>ah
    | _,_,_,_=>ah
   | _,_=>ah
  | _=>ah
 | _=>ah
theorem agZ:∀{x:V} {v:Value},cv x v=aa->R E x v:=by
 intro x v h;unfold cv at h;split at h<;>simp_all [R,xA]
def xL{E:Env}:∀{xs:List V} {vs:List Value},AT xs vs=aa->RL E xs vs
 | [],[],_=>by simp[RL]
 | [],_::_,h=>by simp[AT] at h
 | _::_,[],h=>by simp[AT] at h
 | x :: xs, v :: vs, h => by
  simp only[AT,bO] at h;simp only[RL];exact⟨agZ h.1,xL h.2⟩
variable{t:TypeId}{zs:List V}
theorem yJ(h:mA P t=U zs):
 ∃i z,P.info? t=U i/\i.zero=U z/\AT zs z.cells.toList=aa/\zs.length=i.size:=by
 unfold mA at h
 grind
theorem agx{v:Value}{x:V}(h:MV P t v=U x):R E x v:=by
 unfold MV at h;split at h
 .split at h
  .simp only[bq] at h;subst h;simp[R,xA]
  .grind
 .rename_i vs;split at h
  .rename_i zs hz;split at h
   .rename_i hc;simp only[bq] at h;subst h;simp only[R];exact⟨vs,rfl,xL hc⟩
   .grind
  .grind
 all_goals first | (simp only[bq] at h;subst h;simp[R];done) | (simp at h)
def Eh{a:Act}(h:RL E st.t a.tmps.toList)(n:Nat):R E (ev st (.s n)) (a.eval (.tmp n)):=by
 have:=IG h n undef
 simpa [ev,Act.eval,tV,List.getD] using this
variable{x:Operand}
def qa{a:Act}{y:X}(h:RL E st.t a.tmps.toList)(hx:dB P t x=U y):
 R E (ev st y) (a.eval x):=by
 cases x with
 | tmp n=>simp only[dB,bq] at hx;subst hx;exact Eh h n
 | const v =>
  simp only[dB,ec] at hx;obtain⟨u,hu,rfl⟩:=hx;exact agx hu
 | func f=>simp only[dB,bq] at hx;subst hx;simp only[ev,R,Act.eval];exact⟨#[],#[],rfl,by simp[RL],by simp[RL]⟩
 | global g=>simp only[dB,bq] at hx;subst hx;simp only[ev,R,Act.eval]
def YU{P:Program}{E:Env}{st:St}{a:Act}(h:RL E st.t a.tmps.toList):∀{ts:List TypeId} {xs:List Operand} {ys:List X},kV P ts xs=U ys ->
 RL E (fi st ys) (xs.map a.eval)
 | [],[],ys,hx=>by simp only[kV,bq] at hx;subst hx;simp[fi,RL]
 | [],_::_,_,hx=>by simp[kV] at hx
 | _::_,[],_,hx=>by simp[kV] at hx
 | t :: ts, x :: xs, ys, hx => by
  simp only[kV,jH,ec] at hx;obtain⟨y,h1,zs,h2,rfl⟩:=hx;simp only[fi,cQ,RL];exact⟨qa h h1,YU h h2⟩
def fu(E:Env)(a:Act)(d:Option Tmp)(K:V->St->Prop):Act->World->Prop :=
 λa' w' => ∃E' v x aV,E'.w=w' /\ Fr E E' /\ bS E' aV a/\R E' v x/\a' = a.put d x/\K v aV
section
variable {P:Program} {E:Env} {st:St} {a:Act} {o:Oper} {K:V->St->Prop} {Q:Exit->Act->World->Prop}
def ey(hs:bS E st a){x:Value}(hr:(execOp a.eval o).run P E.w = .ok (.value x) E.w)(hv:R E v x)(hk:K v st):o.wp P a E.w (fu E a o.dst K) Q:=by
 unfold Oper.wp;rw[hr];exact⟨E,v,x,st,rfl,Fr.refl E,hs,hv,rfl,hk⟩
def Rd(E:Env)(cs:List V)(b o:Nat):Prop:=∀(j:Nat) x,cs[j]?=U x->∃v,E.w.cell? ⟨b,o+j,ah⟩=U v/\R E x v
def Env.QE(E:Env):E.nl.le E:=⟨λ_ _ _ h h' => ⟨h,h'⟩,λ_ _ h=>by simp at h,(Env.le.refl E).tok⟩
variable{cs:List V}
def Rd.mono{E E' : Env}(h:E.le E')(hw:E'.w=E.w){b o:Nat}(hr:Rd E cs b o):Rd E' cs b o:=λj x hx=>by
 obtain⟨v,h1,h2⟩:=hr j x hx;exact⟨v,by rw[hw];exact h1,h2.mono _ h⟩
def Rd.Zs{E:Env}(h:kF E b cs):Rd E cs b 0:=by
 obtain⟨c,e,h1,h2,h3⟩:=h;intro j x hx;obtain⟨v,hv,hr⟩:=h3 j x hx;exact⟨v,by simp[World.cell?,h1,hv],hr⟩
theorem Rd.QL{E:Env}:∀{cs:List V} {b o:Nat},fz E cs b o->Rd E cs b o
 | [],_,_,_=>λj x hx=>by simp at hx
 | y :: ys, b, o, h => λj x hx => by
  simp only[fz] at h;obtain⟨⟨c,h1,_,_,h3⟩,h4⟩:=h;cases j with
  | zero=>simp at hx;subst hx;exact⟨c,h1,h3⟩
  | succ j =>
   simp at hx;obtain⟨v,hv,hr⟩:=Rd.QL h4 j x hx
   grind
theorem Rd.drop{E:Env}{b o:Nat}(h:Rd E cs b o)(n:Nat):Rd E (cs.drop n) b (o+n):=λj x hx=>by
 rw[Ma] at hx;obtain⟨v,hv,hr⟩:=h _ x hx
 grind
theorem Sf:∀{n:Nat} {cs xs:List V},takeN n cs=U xs->xs=cs.take n/\n<=cs.length
 | 0,cs,xs,h=>by simp[takeN] at h;subst h;simp
 | n+1,[],xs,h=>by simp[takeN] at h
 | n + 1, c :: cs, xs, h => by
  simp only[takeN,ec] at h;obtain⟨ys,h1,rfl⟩:=h;obtain⟨rfl,h2⟩:=Sf h1
  grind
theorem Rd.cells{E:Env}:∀{cs:List V} {b o:Nat},Rd E cs b o->∃vs,RL E cs vs/\∀(j:Nat) v,vs[j]?=U v->E.w.cell? ⟨b,o+j,ah⟩=U v
 | [],_,_,_=>⟨[],by simp[RL],λj v h=>by simp at h⟩
 | c :: cs, b, o, h => by
  obtain⟨v,h1,h2⟩:=h 0 c (by simp);obtain⟨vs,h3,h4⟩:=Rd.cells (cs:=cs) (b:=b) (o:=o+1) λj x hx=>by
   obtain⟨v,hv,hr⟩:=h (j+1) x (by simpa using hx);exact⟨v,by rw[show o+1+j=o+(j+1) from by omega];exact hv,hr⟩
  refine⟨v::vs,?_,λj u hu=>?_⟩
  .simp only[RL];exact⟨h2,h3⟩
  .grind
def rj(b o j:Nat):(⟨b,o,ah⟩:Addr).add j=⟨b,o+j,ah⟩:=by
 unfold Addr.add;simp
variable{g:Bool}
theorem Fs(h:jI P t=U g)(w:World):(isAgg t).run P w = .ok g w:=by
 unfold jI at h;cases hu:P.underlying t with
 | none=>simp[hu] at h
 | some d =>
  simp only[hu] at h;simp only[isAgg,Sem.run_bind,run_underlying hu,Result.andThen_ok];cases d<;>simp_all
def tL{n:Nat}(h:fR P t=U n)(w:World):(sizeOf t).run P w = .ok n w:=by
 unfold fR at h;simp only[ec] at h;obtain⟨i,hi,rfl⟩:=h;simp[sizeOf,typeInfo,hi]
theorem run_load{n:Nat}(ht:jI P t=U g)(hn:fR P t=U n){b o:Nat}(h:Rd E cs b o)(hv:bP g n cs=U v):
 ∃x,(loadVar t ⟨b,o,ah⟩).run P E.w = .ok x E.w/\R E v x:=by
 cases g with
 | false =>
  cases cs with
  | nil=>simp[bP] at hv
  | cons c cs =>
   simp only[bP,bq] at hv;subst hv;obtain⟨x,h1,h2⟩:=h 0 c (by simp);exact⟨x,by simp only[yS] at h1;simp[loadVar,Fs ht,h1],h2⟩
 | true =>
  simp only[bP,ec] at hv;obtain⟨xs,h1,rfl⟩:=hv;obtain⟨rfl,h2⟩:=Sf h1;have h' : Rd E (cs.take n) b o:=λj x hx=>by
   rw[Tg] at hx;split at hx
   .exact h j x hx
   .grind
  obtain⟨vs,h3,h4⟩:=h'.cells;have hl:=iV h3;have jM : vs.length=n:=by grind
  refine⟨.agg vs.toArray,?_,by simp only[R];exact⟨vs.toArray,rfl,by simpa using h3⟩⟩;have hc:=run_loadCells_list (P:=P) E.w ⟨b,o,ah⟩ vs (λj u hu=>by rw[rj];exact h4 j u hu);rw[jM] at hc;simp[loadVar,Fs ht,tL hn,hc]
def Yi(hs:bS E st a){n:Nat}{p:V}{x:Value}(h:p9 st g n p=U v)(hp:R E p x):
 ∃b o cs,x = .pointer (U ⟨b,o,ah⟩)/\Rd E cs b o/\bP g n cs=U v:=by
 cases p with
 | ptr p off =>
  cases p with
  | au i =>
   simp only[p9,I1,jH] at h;obtain⟨cs,h1,h2⟩:=h;simp only[R] at hp;obtain⟨b,hb,rfl⟩:=hp;obtain⟨b',h3,_,h5⟩:=hs.dO.box i cs h1;rw[hb] at h3;simp only[bq] at h3;subst h3;exact⟨b,off,cs.drop off,rfl,by simpa using (Rd.Zs h5).drop off,h2⟩
  | out b =>
   simp only[p9,I1,jH] at h;obtain⟨cs,h1,h2⟩:=h;simp only[R] at hp;subst hp;obtain⟨_,h5⟩:=hs.ok.box b cs h1;exact⟨b,off,cs.drop off,rfl,by simpa using ((Rd.Zs h5).mono E.QE rfl).drop off,h2⟩
  | nq b =>
   simp only[p9,I1,jH] at h;obtain⟨cs,h1,h2⟩:=h;simp only[R] at hp;subst hp;exact⟨b,off,cs.drop off,rfl,by simpa using ((Rd.QL (hs.ok.cI b cs h1)).mono E.QE rfl).drop off,h2⟩
 | elt cs off =>
  simp only[p9] at h;simp only[R] at hp;obtain⟨b,o,rfl,h2⟩:=hp;exact⟨b,o+off,cs.drop off,rfl,((Rd.QL h2).mono E.QE rfl).drop off,h⟩
 | _=>simp[p9] at h
theorem axd(hs:bS E st a){n:Nat}{y:X}(ho:o.op = .load t x)(ht:jI P t=U g)(hn:fR P t=U n)(hy:R E (ev st y) (a.eval x))
 (h:opt (p9 st g n (ev st y)) (K2 K st)):o.wp P a E.w (fu E a o.dst K) Q:=by
 unfold opt K2 at h;split at h
 .rename_i v hv;obtain⟨b,off,cs,h1,h2,h3⟩:=Yi hs hv hy;obtain⟨u,h4,h5⟩:=run_load ht hn h2 h3;exact ey hs (by simp[execOp,ho,Instr.loadAt,Instr.sureAddr,h1,h4]) h5 h
 .grind
end
structure Ext(w w' : World):Prop where
 os:w'.os=w.os
 output:w'.output=w.output
 tape:w'.tape=w.tape
 size:w.heap.size<=w'.heap.size
 block:∀b,b<w.heap.size->w'.heap[b]?=w.heap[b]?
 jU:∀a,w'.frozen? a=w.frozen? a
def Ext.refl(w:World):Ext w w:=⟨rfl,rfl,rfl,bU _,λ_ _=>rfl,λ_=>rfl⟩
variable{w':World}
def Ext.drew(h:Ext w w'):Ext w w'.drew:=⟨h.os,h.output,h.tape,h.size,h.block,h.jU⟩
def Ext.alloc(h:Ext w w')(c:Array Value)(t:TypeId):Ext w (w'.alloc (.cells c t)) :=
 ⟨h.os,h.output,h.tape,by simp;have:=h.size;omega,λb hb=>(heap_alloc_old w' _ (wa hb h.size)).trans (h.block b hb),λa=>(ako w' c t a).trans (h.jU a)⟩
def D8{o:Nat}(h:w'.heap[b]?=w.heap[b]?):w'.cell? ⟨b,o,ah⟩=w.cell? ⟨b,o,ah⟩:=by simp[World.cell?,h]
def YW{o:Nat}{c:Value}(h:w.cell? ⟨b,o,ah⟩=U c):b<w.heap.size:=World.block_lt_of_cell? (a:=⟨b,o,ah⟩) w h
def nX{x:Obj}(h:w.heap[b]?=U x):b<w.heap.size:=(mX.1 h).1
theorem A3(hf:∀b,E.w.heap.size<=b->E.bg b = .const)(hx:Ext E.w E'.w)(hr:∀b,b<E.w.heap.size->E'.bg b=E.bg b)
 (ht:∀t n,E.aS t=U n->E'.aS t=U n):Fr E E' := by
 refine⟨hx.os,hx.output,hx.tape,hx.size,hx.jU,?_,?_,?_,?_,?_,?_,λb c e hb=>⟨c,(hx.block b (nX hb)).trans hb,rfl⟩⟩
 .intro b o c hc hv;have hb:=YW hv;exact⟨by rw[hr b hb];exact hc,by rw[D8 (hx.block b hb)];exact hv⟩
 .intro t n hn;refine⟨n,ht t n hn,bU _,λ_ b c hb=>?_⟩;have az:b<E.w.heap.size:=by grind
  exact⟨by rw[hr b az];exact hb,λcs e cO=>⟨cs,by rw[hx.block b az];exact cO,rfl⟩⟩
 .intro b hb _;exact⟨hx.block b hb,hr b hb⟩
 .grind
 .grind
 .grind
variable{cs:List V}
def kF.mono(h:E.le E')(hb:E'.w.heap[b]?=E.w.heap[b]?)(k:kF E b cs):kF E' b cs:=by
 obtain⟨c,e,h1,h2,h3⟩:=k;exact⟨c,e,by rw[hb];exact h1,h2,λj x hx=>let ⟨v,hv,hr⟩:=h3 j x hx;⟨v,hv,hr.mono _ h⟩⟩
def Ff(h:E.ok Z)(hle:E.nl.le E'.nl)(hb:∀b,E.bg b = .sE->b<E.w.heap.size->E'.bg b = .sE/\E'.w.heap[b]?=E.w.heap[b]?)
 (ht:∀t n,E.aS t=U n->E'.aS t=U n) (hf:∀b,E'.w.heap.size<=b->E'.bg b = .const) (hn:∃N,∀t,N<=t->E'.aS t=ah):E'.ok Z:=by
 refine⟨λb cs cO=>?_,λt n mF=>ht t n (h.aS t n mF),hf,hn,λb cs hc=>fz.mono _ hle (h.cI b cs hc)⟩;obtain⟨h1,h2⟩:=h.box b cs cO;have az:b<E.w.heap.size:=by obtain⟨c,e,h3,_⟩:=h2;exact nX (w:=E.w) h3
 obtain⟨h3,h4⟩:=hb b h1 az;exact⟨h3,h2.mono hle h4⟩
def tG{ls:List (List V)}(h:E.dO ls)(hle:E.le E')(hb:∀b i,E.bg b = .jZ i->b<E.w.heap.size->E'.bg b = .jZ i/\E'.w.heap[b]?=E.w.heap[b]?)
 (hl:∀i,ls.length<=i->E'.au i=ah):E'.dO ls:=by
 refine⟨λi cs cO=>?_,hl⟩;obtain⟨b,h1,h2,h3⟩:=h.box i cs cO;have az:b<E.w.heap.size:=by obtain⟨c,e,h3,_⟩:=h3;exact nX (w:=E.w) h3
 obtain⟨h4,h5⟩:=hb b i h2 az;exact⟨b,hle.au i b h1,h4,h3.mono hle h5⟩
section
variable {P:Program} {E:Env} {st:St} {a:Act} {o:Oper} {K:V->St->Prop} {Q:Exit->Act->World->Prop}
def H6(hs:bS E st a)(hx:Ext E.w w'):Fr E {E with w:=w'}/\E.le {E with w:=w'}/\bS {E with w:=w'} st a:=by
 have bC:Fr E {E with w:=w'}:=A3 hs.ok.fresh hx (λ_ _=>rfl) (λ_ _ h=>h);have hle:E.le {E with w:=w'}:=bC.le λ_ _ h=>h
 refine⟨bC,hle,Ff hs.ok bC.nl (λb h hb=>⟨h,hx.block b hb⟩) (λ_ _ h=>h) (λb hb=>hs.ok.fresh b (yT hx.size hb)) hs.ok.nt,
  tG hs.dO hle (λb i h hb=>⟨h,hx.block b hb⟩) hs.dO.none,hs.defers,RL.mono _ hle hs.slot⟩
def acP(hs:bS E st a)(hx:Ext E.w w'){x:Value}(hr:(execOp a.eval o).run P E.w = .ok (.value x) w')(hv:R {E with w:=w'} v x)(hk:K v st):
 o.wp P a E.w (fu E a o.dst K) Q:=by
 unfold Oper.wp;rw[hr];obtain⟨h1,_,h3⟩:=H6 hs hx;exact⟨_,v,x,st,rfl,h1,h3,hv,rfl,hk⟩
theorem acR(hs:bS E st a)(hr:(execOp a.eval o).run P E.w = .ok (.value (.pointer (U ⟨E.w.heap.size,0,ah⟩))) (E.w.alloc (.cells c e)))
 (hz:RL E zs c.toList) (hk:K (.ptr (.au st.au.length) 0) ⟨st.t,st.au++[zs],st.out⟩):o.wp P a E.w (fu E a o.dst K) Q:=by
 unfold Oper.wp;rw[hr]
 let E' : Env:={w:=E.w.alloc (.cells c e),bg:=λb=>if b=E.w.heap.size then .jZ st.au.length else E.bg b,au:=λi=>if i=st.au.length then U E.w.heap.size else E.au i,aS:=E.aS}
 have hx:Ext E.w E'.w:=(Ext.refl _).alloc _ _;have bC:Fr E E' := A3 hs.ok.fresh hx (λb hb=>by simp only[E'];rw[aB (by omega)]) (λ_ _ h=>h);have hle:E.le E' := bC.le λi b h=>by
  simp only[E'];split
  .rename_i hi;rw[hs.dO.none i (by omega)] at h
   grind
  .exact h
 refine⟨E',_,_,⟨st.t,st.au++[zs],st.out⟩,rfl,bC,⟨?_,⟨?_,?_⟩,hs.defers,RL.mono _ hle hs.slot⟩,?_,rfl,hk⟩
 .refine Ff hs.ok bC.nl (λb h hb=>⟨by simp only[E'];rw[aB (by omega)];exact h,hx.block b hb⟩) (λ_ _ h=>h) (λb hb=>?_) hs.ok.nt;simp only[E',World.size_alloc] at hb ⊢;rw[aB (by omega)];exact hs.ok.fresh b (by omega)
 .intro i cs cO
  rcases Mi i st.au.length with hi | hi | hi
  .rw[B9 hi] at cO;obtain⟨b,h1,h2,h3⟩:=hs.dO.box i cs cO;have az:b<E.w.heap.size:=by obtain⟨c,e,h3,_⟩:=h3;exact nX (w:=E.w) h3
   exact⟨b,hle.au i b h1,by simp only[E'];rw[aB (by omega)];exact h2,h3.mono hle (hx.block b az)⟩
  .subst hi;rw[Te (bU _)] at cO;simp at cO;subst cO;have hl:=iV hz;refine⟨E.w.heap.size,by simp[E'],by simp[E'],c,e,heap_alloc_new _ _,by simp at hl;omega,λj x hx=>?_⟩;obtain⟨v,hv,dt⟩:=vb hz j x hx;exact⟨v,by simpa using hv,dt.mono _ hle⟩
  .grind
 .intro i hi;simp at hi;simp only[E'];rw[aB (by omega)];exact hs.dO.none i (by omega)
 .simp only[R]
  grind
theorem AI{x:V}{v:Value}{n:Nat}(h:R E x v)(hw:x.wd=U n):RL E x.cells v.cells.toList/\v.cells.size=n:=by
 cases x<;>simp only[V.wd,bq] at hw<;>try simp at hw
 case agg cs =>
  simp only[R] at h;obtain⟨vs,rfl,h2⟩:=h
  have:=iV h2
  exact⟨by simpa [V.cells,Value.cells] using h2,by simp[Value.cells];simp at this;omega⟩
 case raw u =>
  simp only[R] at h;subst h;obtain⟨ho,rfl⟩:=hw;cases v<;>simp_all [Value.oneCell',Value.cells,V.cells,RL,R]
 case ptr p off =>
  subst hw;have h' := h;cases p
  .simp only[R] at h;obtain⟨b,_,rfl⟩:=h;simp[Value.cells,V.cells,RL];exact h'
  .simp only[R] at h;subst h;simp[Value.cells,V.cells,RL];exact h'
  .simp only[R] at h;subst h;simp[Value.cells,V.cells,RL];exact h'
 all_goals
  subst hw;have h' := h;simp only[R] at h
  first
   | (subst h;simp[Value.cells,V.cells,RL];exact h')
   | (obtain⟨b,o,rfl,_⟩:=h;simp[Value.cells,V.cells,RL];exact h')
def Dr:∀{xs:List V} {vs:List Value},RL E xs vs->c8 xs=aa->∀v∈vs,v.oneCell' = aa
 | [],[],_,_=>λv hv=>by simp at hv
 | [],_::_,h,_=>by simp[RL] at h
 | _::_,[],h,_=>by simp[RL] at h
 | x :: xs, v :: vs, h, ho => by
  simp only[RL] at h;simp only[c8,bO] at ho;intro u hu
  rcases m_.1 hu with rfl | hu
  .obtain⟨hr,_⟩:=h;have h1:=ho.1;cases x<;>simp only[V.one] at h1<;>try (simp at h1;done)
   case ptr p off=>cases p<;>simp only[R] at hr<;>first | (subst hr;rfl) | (obtain⟨b,_,rfl⟩:=hr;rfl)
   all_goals
    simp only[R] at hr
    first
     | (subst hr;first | rfl | exact h1)
     | (obtain⟨b,o,rfl,_⟩:=hr;rfl)
  .exact Dr h.2 ho.2 u hu
def N':∀{n:Nat} {xs:List V},cB n xs=aa->n<=xs.length
 | 0,_,_=>Mj _
 | n+1,[],h=>by simp[cB] at h
 | n+1,x::xs,h=>by simp only[cB] at h;have:=N' h;simp;omega
def ZB:∀{l xs:List V},xs.length<=l.length->∀j:Nat,(over l xs)[j]?=if j<xs.length then xs[j]? else l[j]?
 | [],[],_,j=>by simp[over]
 | [],_::_,h,_=>by simp at h
 | a::l,[],_,j=>by simp[over]
 | a :: l, x :: xs, h, j => by
  cases j with
  | zero=>simp[over]
  | succ j=>simp[over,ZB (l:=l) (xs:=xs) (by simpa using h)]
def ZC:∀{l xs:List V},(over l xs).length=l.length
 | [],_=>by simp[over]
 | a::l,[]=>by simp[over]
 | a::l,x::xs=>by simp[over,ZC]
def R1:∀{l:List V} {n:Nat} {xs:List V},(setAt l n xs).length=l.length
 | l,0,xs=>by cases l<;>simp[setAt,ZC]
 | [],n+1,xs=>by simp[setAt]
 | a::l,n+1,xs=>by simp[setAt,R1]
theorem R0:∀{l:List V} {n:Nat} {xs:List V},n+xs.length<=l.length->∀j:Nat,
 (setAt l n xs)[j]?=if j<n then l[j]? else if j<n+xs.length then xs[j - n]? else l[j]?
 | l, 0, xs, h, j => by
  have h' : setAt l 0 xs=over l xs:=by cases l<;>simp[setAt]
  rw[h',ZB (by omega)];simp
 | [],n+1,xs,h,j=>by simp at h
 | a :: l, n + 1, xs, h, j => by
  cases j with
  | zero=>simp[setAt]
  | succ j =>
   have:=R0 (l:=l) (n:=n) (xs:=xs) (by simp at h;omega) j
   simp only[setAt,List.getElem?_cons_succ,this]
   grind
variable{off:Nat}
def RK{n:Nat}(hn:fR P t=U n)(hb:w.heap[b]?=U (.cells c e (0,0))){v:Value}(hv:v.cells.size=n)
 (zE:off+n<=c.size) (h1:∀u∈v.cells.toList,u.oneCell' = aa) :
 (storeVar t ⟨b,off,ah⟩ v).run P w = .ok () (w.setRow b (c.toList.take off++v.cells.toList++c.toList.drop (off+n)).toArray):=by
 have h:=run_storeCells_at (P:=P) b off e v.cells.toList 0 c w hb (by simp;omega) h1;simp only[yS,DP,hv] at h;simp[storeVar,tL hn,hv,h]
theorem Ll{c vs:List Value}(h:off+vs.length<=c.length)(j:Nat):
 (c.take off++vs++c.drop (off+vs.length))[j]?=if j<off then c[j]? else if j<off+vs.length then vs[j - off]? else c[j]?:=by
 grind
theorem MG(hc:cs.length<=c.size)(hb:∀(j:Nat) x,cs[j]?=U x->∃v,c[j]?=U v/\R E' x v)
 {xs:List V} {vs:List Value} (hx:RL E' xs vs) {off:Nat} (zE:off+xs.length<=cs.length)
 (hn:E'.w.heap[b]?=U (.cells (c.toList.take off++vs++c.toList.drop (off+vs.length)).toArray e (0,0))):kF E' b (setAt cs off xs):=by
 have hl:=iV hx;refine⟨_,e,hn,?_,λj x hj=>?_⟩
 .simp[R1];omega
 .rw[R0 zE] at hj;have hs:=Ll (c:=c.toList) (vs:=vs) (off:=off) (by simp;omega) j;simp only[adn];rw[hs]
  by_cases h1:j<off
  .grind
  .rw[aB h1] at hj ⊢
   by_cases h2:j<off+xs.length
   .rw[aL h2] at hj;rw[aL (by omega)];exact vb hx _ x hj
   .grind
end
mutual
theorem R.rI:∀(x:V) {E E' : Env} (_:E.nl.le E'.nl) (_:x.cS=aa) {v:Value},R E x v->R E' x v
 | .any,_,_,_,_,_,_=>by simp only[R]
 | .bool _,_,_,_,_,_,hr=>by simp only[R] at hr ⊢;exact hr
 | .int _ _,_,_,_,_,_,hr=>by simp only[R] at hr ⊢;exact hr
 | .aQ _,_,_,_,_,_,hr=>by simp only[R] at hr ⊢;exact hr
 | .kX,_,_,_,_,_,hr=>by simp only[R] at hr ⊢;exact hr
 | .ptr (.au i) _,_,_,_,hn,_,_=>by simp[V.cS] at hn
 | .ptr (.out _) _,_,_,_,_,_,hr=>by simp only[R] at hr ⊢;exact hr
 | .ptr (.nq _) _,_,_,_,_,_,hr=>by simp only[R] at hr ⊢;exact hr
 | .elt cs _, _, _, h, _, _, hr => by
  simp only[R] at hr ⊢;obtain⟨b,o,h1,h2⟩:=hr;exact⟨b,o,h1,fz.mono cs h h2⟩
 | .sl t k l, E, E', h, _, _, hr => by
  simp only[R] at hr ⊢;obtain⟨a,cap,h1,h2,h3,h4⟩:=hr;have h4' : xA E.nl k l.length a cap t:=h4;refine⟨a,cap,h1,h2,?_,(h4'.mono h:xA E'.nl k l.length a cap t)⟩
  rcases h3 with h3 | ⟨b,o,h3,h5⟩
  .grind
  .exact .inr ⟨b,o,h3,iC.mono l h h5⟩
 | .agg cs, _, _, h, hn, _, hr => by
  simp only[R] at hr ⊢;simp only[V.cS] at hn;obtain⟨vs,h1,h2⟩:=hr;exact⟨vs,h1,RL.rI cs h hn h2⟩
 | .bw cs, _, _, h, hn, _, hr => by
  simp only[R] at hr ⊢;simp only[V.cS] at hn;obtain⟨vs,h1,h2⟩:=hr;exact⟨vs,h1,RL.rI cs h hn h2⟩
 | .fn _ first cap, _, _, h, hn, _, hr => by
  simp only[R] at hr ⊢;simp only[V.cS,bO] at hn;obtain⟨fs,cs,h1,h2,h3⟩:=hr;exact⟨fs,cs,h1,RL.rI first h hn.1 h2,RL.rI cap h hn.2 h3⟩
 | .raw _,_,_,_,_,_,hr=>by simp only[R] at hr ⊢;exact hr
theorem RL.rI:∀(l:List V) {E E' : Env} (_:E.nl.le E'.nl) (_:bK l=aa) {vs:List Value},RL E l vs->RL E' l vs
 | [],_,_,_,_,[],_=>by simp only[RL]
 | [],_,_,_,_,_::_,hr=>by simp only[RL] at hr
 | _::_,_,_,_,_,[],hr=>by simp only[RL] at hr
 | x :: xs, _, _, h, hn, v :: vs, hr => by
  simp only[RL] at hr ⊢;simp only[bK,bO] at hn;exact⟨R.rI x h hn.1 hr.1,RL.rI xs h hn.2 hr.2⟩
end
theorem Nz(hb:E.w.heap[b]?=U (.cells c e (0,0)))(hr:(∃i,E.bg b = .jZ i)\/E.bg b = .sE)(dE:new.size=c.size):
 Fr E {E with w:=E.w.setRow b new}:=by
 refine⟨rfl,rfl,rfl,by simp,Gt hb,?_,?_,?_,λ_ _ h=>.inl h,λ_ _ c _ h=>⟨c,h⟩,λ_ i _ h=>⟨i,h⟩,λb' c' e' hc=>?_⟩
 .intro b' o v hc hv;have bf:b' ≠ b:=by
   rintro rfl
   rcases hr with ⟨i,hi⟩ | hi<;>rw[hi] at hc<;>exact hc.elim
  exact⟨hc,by rw[cell_setRow_other E.w b new ⟨b',o,ah⟩ bf];exact hv⟩
 .intro t n hn;refine⟨n,hn,bU _,λ_ b' k hk=>⟨hk,λcs e' cO=>?_⟩⟩;have bf:b' ≠ b:=by grind
  exact⟨cs,by simp only[setRow_other E.w b b' new bf];exact cO,rfl⟩
 .intro b' _ hk;have bf:b' ≠ b:=by grind
  exact⟨setRow_other E.w b b' new bf,rfl⟩
 .by_cases dh:b' = b
  .subst dh;rw[hb] at hc;simp only[bq,Obj.cells.injEq] at hc;obtain⟨rfl,rfl,_⟩:=hc;exact⟨new,setRow_heap E.w b' c new e _ hb,dE⟩
  .exact⟨c',(setRow_other E.w b b' new dh).trans hc,rfl⟩
def ab.fE(Z:ab)(b:Nat)(cs:List V):(Z.set b cs).box b=U cs:=by simp[ab.set]
def ab.fQ(Z:ab){x:Nat}(cs:List V)(h:x≠b):(Z.set b cs).box x=Z.box x:=by simp[ab.set,h]
section
variable {P:Program} {E:Env} {st:St} {a:Act} {o:Oper} {K:V->St->Prop} {Q:Exit->Act->World->Prop}
variable{off:Nat}
theorem ab'{n:Nat}(iH:0<n)(hn:fR P t=U n)(hb:E.w.heap[b]?=U (.cells c e (0,0)))(hlen:cs.length<=c.size)
 {ay:V} {v:Value} (hy:R E ay v) (hh:cB n (cs.drop off)=aa) (uC:ay.wd=U n) (iq:c8 ay.cells=aa) :
 ∃vs:List Value,RL E ay.cells vs/\off+ay.cells.length<=cs.length /\
  (storeVar t ⟨b,off,ah⟩ v).run P E.w = .ok () (E.w.setRow b (c.toList.take off++vs++c.toList.drop (off+vs.length)).toArray) /\
  (E.w.setRow b (c.toList.take off++vs++c.toList.drop (off+vs.length)).toArray).heap[b]?=U (.cells (c.toList.take off++vs++c.toList.drop (off+vs.length)).toArray e (0,0)):=by
 obtain⟨vu,dE⟩:=AI hy uC;have hl:=iV vu;have hle:=N' hh;simp at hle hl;have cO:off+n<=cs.length:=by omega
 refine⟨v.cells.toList,vu,by omega,?_,setRow_heap E.w b c _ e _ hb⟩
 have:=RK (P:=P) (off:=off) hn hb dE (by omega) (Dr vu iq)
 grind
def Lf{v:Value}(h:(storeVar t ⟨b,off,ah⟩ v).run P w = .ok () w'):
 (Instr.storeAt t (.pointer (U ⟨b,off,ah⟩)) v).run P w = .ok () w' := by
 simp[Instr.storeAt,Instr.sureAddr,h]
variable{y:Operand}
theorem acU(hs:bS E st a){n:Nat}{ax ay:V}(iH:0<n)(ho:o.op = .store t x y)(hn:fR P t=U n)(hx:R E ax (a.eval x))(hy:R E ay (a.eval y))
 {aV : St} (h:fe st n ay ax=U aV) (hk:K .any aV):o.wp P a E.w (fu E a o.dst K) Q:=by
 cases ax with
 | ptr p off =>
  cases p with
  | nq b=>simp[fe] at h
  | au i =>
   simp only[fe,jH] at h;obtain⟨cs,h1,h2⟩:=h;split at h2
   case isFalse=>simp at h2
   rename_i hc;obtain⟨hh,uC,iq⟩:=hc;simp only[bq] at h2;subst h2;simp only[R] at hx;obtain⟨b,hb,hx⟩:=hx;obtain⟨b',h3,gQ,c,e,gP,hlen,Ba⟩:=hs.dO.box i cs h1;rw[hb] at h3;simp only[bq] at h3;subst h3;obtain⟨vs,vu,zE,e9,jN⟩:=ab' (P:=P) (t:=t) iH hn gP hlen hy hh uC iq;have bC:=Nz (E:=E) (new:=(c.toList.take off++vs++c.toList.drop (off+vs.length)).toArray) gP (.inl ⟨i,gQ⟩) (by have:=iV vu;simp;omega);have hle:=bC.le λ_ _ h=>h
   have vA:=MG (E' := {E with w:=E.w.setRow b (c.toList.take off++vs++c.toList.drop (off+vs.length)).toArray}) hlen
    (λj x hj=>let ⟨u,h1,h2⟩:=Ba j x hj;⟨u,h1,h2.mono _ hle⟩) (RL.mono _ hle vu) zE jN
   generalize (c.toList.take off++vs++c.toList.drop (off+vs.length)).toArray=new at e9 jN bC hle vA;have pZ : ∀b',b' ≠ b->(E.w.setRow b new).heap[b']?=E.w.heap[b']?:=λb' bf=>setRow_other E.w b b' new bf
   unfold Oper.wp;rw[show(execOp a.eval o).run P E.w = .ok .skip (E.w.setRow b new) from by simp[execOp,ho,hx,Lf e9]];refine⟨{E with w:=E.w.setRow b new},.any,undef,⟨st.t,st.au.set i (setAt cs off ay.cells),st.out⟩,rfl,bC,⟨?_,⟨?_,?_⟩,hs.defers,RL.mono _ hle hs.slot⟩,by simp[R],rfl,hk⟩
   .exact Ff hs.ok bC.nl (λb' hr _=>⟨hr,pZ b' (by rintro rfl;rw[gQ] at hr;simp at hr)⟩) (λ_ _ h=>h) (λb' cF => hs.ok.fresh b' (by simpa using cF)) hs.ok.nt
   .intro j ds hj
    by_cases iG:j=i
    .grind
    .simp only[Tf (gM iG)] at hj;obtain⟨b',k1,k2,k3⟩:=hs.dO.box j ds hj;exact⟨b',k1,k2,k3.mono hle (pZ b' (by rintro rfl;rw[gQ] at k2;simp at k2;exact iG k2.symm))⟩
   .intro j hj;exact hs.dO.none j (by simpa using hj)
  | out b =>
   simp only[fe,jH] at h;obtain⟨cs,h1,h2⟩:=h;split at h2
   case isFalse=>simp at h2
   rename_i hc;obtain⟨hh,uC,iq,so⟩:=hc;simp only[bq] at h2;subst h2;simp only[R] at hx;obtain⟨gQ,c,e,gP,hlen,Ba⟩:=hs.ok.box b cs h1;have JK : E.w.heap[b]?=U (.cells c e (0,0)):=gP;obtain⟨vs,vu,zE,e9,jN⟩:=ab' (P:=P) (t:=t) iH hn JK hlen hy hh uC iq;have bC:=Nz (E:=E) (new:=(c.toList.take off++vs++c.toList.drop (off+vs.length)).toArray) JK (.inr gQ) (by have:=iV vu;simp;omega);have hle:=bC.le λ_ _ h=>h
   have vA:=MG (E' := Env.nl {E with w:=E.w.setRow b (c.toList.take off++vs++c.toList.drop (off+vs.length)).toArray}) hlen
    (λj x hj=>let ⟨u,h1,h2⟩:=Ba j x hj;⟨u,h1,h2.mono _ bC.nl⟩) (RL.mono _ bC.nl (RL.rI (E:=E) (E' := E.nl) _ (Env.le.refl E.nl) so vu)) zE jN
   generalize (c.toList.take off++vs++c.toList.drop (off+vs.length)).toArray=new at e9 jN bC hle vA;have pZ : ∀b',b' ≠ b->(E.w.setRow b new).heap[b']?=E.w.heap[b']?:=λb' bf=>setRow_other E.w b b' new bf
   unfold Oper.wp;rw[show(execOp a.eval o).run P E.w = .ok .skip (E.w.setRow b new) from by simp[execOp,ho,hx,Lf e9]];refine⟨{E with w:=E.w.setRow b new},.any,undef,⟨st.t,st.au,st.out.set b (setAt cs off ay.cells)⟩,rfl,bC,⟨⟨?_,hs.ok.aS,λb' cF => hs.ok.fresh b' (by simpa using cF),hs.ok.nt,λb cs hc=>fz.mono _ bC.nl (hs.ok.cI b cs hc)⟩,
    tG hs.dO hle (λb' i hr _=>⟨hr,pZ b' (by rintro rfl;rw[gQ] at hr;simp at hr)⟩) hs.dO.none,hs.defers,RL.mono _ hle hs.slot⟩,by simp[R],rfl,hk⟩
   intro b' ds pg
   by_cases dh:b' = b
   .subst dh;rw[ab.fE] at pg
    grind
   .rw[ab.fQ _ _ dh] at pg;obtain⟨k1,k2⟩:=hs.ok.box b' ds pg;exact⟨k1,k2.mono bC.nl (pZ b' dh)⟩
 | _=>simp[fe] at h
end
def gp.nH:gp->gp
 | .jZ _=>.ph
 | r=>r
def gp.Xa(r:gp)(o:Nat):r.nH.jq o↔r.jq o:=by cases r<;>simp[gp.nH,gp.jq]
def Env.call(E:Env):Env:={w:=E.w,bg:=λb=>(E.bg b).nH,au:=λ_=>ah,aS:=E.aS}
def gp.back:gp->gp->gp
 | .jZ i,_=>.jZ i
 | _,r=>r
def Env.back(E E' : Env):Env:={w:=E'.w,bg:=λb=>(E.bg b).back (E'.bg b),au:=E.au,aS:=E'.aS}
def MJ(E:Env):E.nl.le E.call.nl :=
 ⟨λb o c hc hv=>⟨(gp.Xa _ _).2 hc,hv⟩,λ_ _ h=>by simp at h,λt n hn=>⟨n,hn,bU _,λ_ b c hb=>⟨by
  show(E.bg b).nH=_;have cF : E.bg b = .i_ t c:=hb;rw[cF];rfl,λcs _ hc=>⟨cs,hc,rfl⟩⟩⟩⟩
def afJ(h:E.ok Z):E.call.ok Z:=by
 refine⟨λb cs cO=>?_,h.aS,λb hb=>?_,h.nt,λb cs hc=>fz.mono _ (MJ E) (h.cI b cs hc)⟩
 .obtain⟨h1,h2⟩:=h.box b cs cO;exact⟨by show(E.bg b).nH=_;rw[h1];rfl,h2.mono (MJ E) rfl⟩
 .show(E.bg b).nH=_;rw[h.fresh b hb];rfl
section
variable {E E' : Env} (hf:∀b,E.w.heap.size<=b->E.bg b = .const) (h:Fr E.call E')
variable{i:Nat}
include hf h in
theorem IW(hb:E.bg b = .jZ i):b<E.w.heap.size/\E'.bg b = .ph/\E'.w.heap[b]?=E.w.heap[b]?:=by
 have az:b<E.w.heap.size:=by grind
 have hr:E.call.bg b = .ph:=by show(E.bg b).nH=_;rw[hb];rfl
 obtain⟨h1,h2⟩:=h.same b az (.inr hr);exact⟨az,h2.trans hr,h1⟩
include hf h in
theorem Ui(b o:Nat):((E.back E').bg b).jq o↔(E'.bg b).jq o:=by
 show(((E.bg b).back (E'.bg b)).jq o↔_);cases hb:E.bg b with
 | jZ i =>
  obtain⟨_,h2,_⟩:=IW hf h hb;simp[gp.back,h2,gp.jq]
 | _=>simp[gp.back]
include hf h in
theorem Uj{t c:Nat}(hb:E'.bg b = .i_ t c):(E.back E').bg b = .i_ t c:=by
 show(E.bg b).back (E'.bg b)=_;cases hr:E.bg b with
 | jZ i =>
  obtain⟨_,h2,_⟩:=IW hf h hr
  grind
 | _=>simp[gp.back,hb]
include hf h in
theorem aeX(hb:E'.bg b = .sE):(E.back E').bg b = .sE:=by
 show(E.bg b).back (E'.bg b)=_;cases hr:E.bg b with
 | jZ i =>
  obtain⟨_,h2,_⟩:=IW hf h hr
  grind
 | _=>simp[gp.back,hb]
include hf h in
theorem aeW:E'.nl.le (E.back E').nl :=
 ⟨λb o _ hc hv=>⟨(Ui hf h b o).2 hc,hv⟩,λ_ _ h=>by simp at h,λ_ n hn=>⟨n,hn,bU _,λ_ _ _ hb=>⟨Uj hf h hb,λcs _ hc=>⟨cs,hc,rfl⟩⟩⟩⟩
include hf h in
theorem aeV:Fr E (E.back E'):=by
 refine⟨h.os,h.output,h.tape,h.size,h.jU,?_,?_,?_,?_,?_,?_,h.shape⟩
 .intro b o c hc hv;obtain⟨h1,h2⟩:=h.cell b o c ((gp.Xa _ _).2 hc) hv;exact⟨(Ui hf h b o).2 h1,h2⟩
 .intro t n hn;obtain⟨n',h1,h2,h3⟩:=h.tok t n hn;refine⟨n',h1,h2,λhe b c hb=>?_⟩;obtain⟨h4,h5⟩:=h3 he b c (by show(E.bg b).nH=_;rw[hb];rfl);exact⟨Uj hf h h4,h5⟩
 .intro b hb hr;have bf:(E.bg b).nH=E.bg b:=by rcases hr with hr | hr<;>rw[hr]<;>rfl
  obtain⟨h1,h2⟩:=h.same b hb (by show(E.bg b).nH=_\/(E.bg b).nH=_;rw[bf];exact hr);refine⟨h1,?_⟩;show(E.bg b).back (E'.bg b)=_;have Gx : E'.bg b=(E.bg b).nH:=h2;rw[Gx,bf]
  rcases hr with hr | hr<;>rw[hr]<;>rfl
 .intro b hb hr;have dt : (E.bg b).back (E'.bg b) = .sE:=hr;cases hq:E.bg b with
  | jZ i=>rw[hq] at dt;simp[gp.back] at dt
  | sE=>exact .inl rfl
  | _ =>
   rw[hq] at dt;simp only[gp.back] at dt
   rcases h.Gc b hb dt with h' | ⟨j,h'⟩
   .have h' : (E.bg b).nH = .sE:=h';rw[hq] at h';simp[gp.nH] at h'
   .have h' : (E.bg b).nH = .jZ j:=h';rw[hq] at h';simp[gp.nH] at h'
 .intro b t c hb hr;have dt : (E.bg b).back (E'.bg b) = .i_ t c:=hr;cases hq:E.bg b with
  | jZ i=>rw[hq] at dt;simp[gp.back] at dt
  | _ =>
   rw[hq] at dt;simp only[gp.back] at dt;obtain⟨c0,this⟩:=h.Gd b t c hb dt;have h' : (E.bg b).nH = .i_ t c0:=this;rw[hq] at h'
   first | (simp[gp.nH] at h';done) | exact⟨c0,h'⟩
 .intro b i hb hr;have dt : (E.bg b).back (E'.bg b) = .jZ i:=hr;cases hq:E.bg b with
  | jZ j=>exact⟨j,rfl⟩
  | _ =>
   rw[hq] at dt;simp only[gp.back] at dt;obtain⟨c0,this⟩:=h.D6 b i hb dt;have h' : (E.bg b).nH = .jZ c0:=this;rw[hq] at h';simp[gp.nH] at h'
end
section
variable {P:Program} {E:Env} {st:St} {a:Act} {o:Oper} {K:V->St->Prop} {Q:Exit->Act->World->Prop}
def afI(hs:bS E st a){xs:List V}{vs:Array Value}(hx:RL E xs vs.toList)(hn:bK xs=aa)(hc:cy P f xs st.out λv Z=>K v ⟨st.t,st.au,Z⟩):
 Calls P f vs E.w λe w' => ∃E' v x aV,e = .returned x/\E'.w=w' /\ Fr E E' /\ bS E' aV a/\R E' v x/\K v aV := by
 have hf:=hs.ok.fresh;refine(hc.2 E.call vs (λ_=>rfl) (afJ hs.ok) (RL.rI _ (MJ E) hn hx)).mono ?_;rintro e w' ⟨v,x,E',σ',rfl,rfl,OG,cw,hr,bC,hk⟩;have Bd := aeV hf bC;have hle:E.le (E.back E'):=Bd.le λ_ _ h=>h
 have Od:=aeW hf bC;refine⟨E.back E',v,x,⟨st.t,st.au,σ'⟩,rfl,rfl,Bd,⟨⟨?_,cw.aS,?_,cw.nt,λb cs hc=>fz.mono _ Od (cw.cI b cs hc)⟩,?_,hs.defers,RL.mono _ hle hs.slot⟩,?_,hk⟩
 .intro b cs cO;obtain⟨h1,h2⟩:=cw.box b cs cO;exact⟨aeX hf bC h1,h2.mono Od rfl⟩
 .intro b hb;have cF : E'.w.heap.size<=b:=hb;show(E.bg b).back (E'.bg b)=_;rw[hf b (yT bC.size cF)];exact cw.fresh b cF
 .refine tG hs.dO hle (λb i dt az=>?_) hs.dO.none;obtain⟨_,_,h3⟩:=IW hf bC dt;exact⟨by show(E.bg b).back (E'.bg b)=_;rw[dt];rfl,h3⟩
 .have h1:E'.nl.le (E.back E').nl:=Od;have h2:E'.le (E.back E'):=⟨h1.cell,λi b hb=>by rw[OG i] at hb;simp at hb,h1.tok⟩;exact hr.mono _ h2
def acN(hs:bS E st a){xs:List V}{vs:Array Value}(hx:RL E xs vs.toList)(hn:bK xs=aa)(hc:cy P f xs st.out λv Z=>K v ⟨st.t,st.au,Z⟩)
 (hr:(execOp a.eval o).run P E.w=(callFunc f vs).run P E.w):o.wp P a E.w (fu E a o.dst K) Q:=by
 unfold Oper.wp;rw[hr,hc.1];simp only[Oper.upon_enter];refine(afI hs hx hn hc).mono ?_;rintro e w' ⟨E',v,x,aV,rfl,rfl,h1,h2,h3,h4⟩;exact⟨E',v,x,aV,rfl,h1,h2,h3,rfl,h4⟩
end
theorem AG{E:Env}:∀{xs ys:List V} {b o:Nat},fz E (xs++ys) b o↔fz E xs b o/\fz E ys b (o+xs.length)
 | [],ys,b,o=>by simp[fz]
 | x :: xs, ys, b, o => by
  simp only[gY,fz,AG (xs:=xs),da,Mu]
  grind
theorem tZ{E:Env}{k:Nat}:∀{l:List (List V)} {b o:Nat},iC E k l b o↔(∀x∈l,x.length=k)/\fz E l.flatten b o
 | [],b,o=>by simp[iC,fz]
 | x :: xs, b, o => by
  simp only[iC,lj,AG,tZ (l:=xs),gf]
  grind
def pP{k:Nat}:∀{l:List (List V)},(∀x∈l,x.length=k)->l.flatten.length=l.length*k
 | [],_=>by simp
 | x :: xs, h => by
  simp only[gf] at h;simp only[lj,bL,h.1,pP h.2,da,lH,F4];omega
theorem IE{E:Env}:∀{cs:List V} {b o:Nat},fz E cs b o->∃vs:List Value,RL E cs vs/\(∀(j:Nat) v,vs[j]?=U v->E.w.cell? ⟨b,o+j,ah⟩=U v) /\
 (∀v∈vs,v.oneCell' = aa)/\∀j,j<cs.length->(E.bg b).jq (o+j)
 | [],_,_,_=>⟨[],by simp[RL],λj v h=>by simp at h,λv hv=>by simp at hv,λj hj=>by simp at hj⟩
 | x :: xs, b, o, h => by
  simp only[fz] at h;obtain⟨⟨c,h1,h2,h3,h4⟩,h5⟩:=h;obtain⟨vs,k1,k2,k3,k4⟩:=IE h5;refine⟨c::vs,?_,λj v hv=>?_,λv hv=>?_,λj hj=>?_⟩
  .simp only[RL];exact⟨h4,k1⟩
  .grind
  .grind
  .cases j with
   | zero=>exact h2
   | succ j=>rw[show o+(j+1)=o+1+j from by omega];exact k4 j (by simpa using hj)
def D0{E:Env}{b:Nat}:∀{cs:List V} {vs:List Value} {o:Nat},RL E cs vs->(∀v∈vs,v.oneCell' = aa)->(∀(j:Nat) v,vs[j]?=U v->E.w.cell? ⟨b,o+j,ah⟩=U v) ->
 (∀j,j<cs.length->(E.bg b).jq (o+j))->fz E cs b o
 | [],_,_,_,_,_,_=>by simp[fz]
 | _::_,[],_,h,_,_,_=>by simp[RL] at h
 | x :: xs, v :: vs, o, h, h1, h2, h3 => by
  simp only[RL] at h;simp only[fz];refine⟨⟨v,by simpa using h2 0 v (by simp),by simpa using h3 0 (by simp),h1 v (by simp),h.1⟩,D0 h.2 (λu hu=>h1 u (by simp[hu])) (λj u hu=>?_) (λj hj=>?_)⟩
  .rw[show o+1+j=o+(j+1) from by omega];exact h2 (j+1) u (by simpa using hu)
  .rw[show o+1+j=o+(j+1) from by omega];exact h3 (j+1) (by simpa using hj)
structure Src(P:Program)(w:World)(size m:Nat)(ty:TypeId)(x:Value)(news:List Value):Prop where
 ty:∃d,P.underlying ty=U d/\∀k,d≠.int k
 len:∀w',(Builtin.lenOf x).run P w' = .ok m w'
 cells:(Builtin.firstCells size m x).run P w = .ok news.toArray w
 rm : (Builtin.firstCells size m x).run P w.drew = .ok news.toArray w.drew
 size:news.length=m*size
section
variable {P:Program} {w:World} {t u ty e:TypeId} {i:TypeInfo} {z:Value}
variable{base:Option Addr}
def abh(ht:P.underlying t=U (.slice e))(hi:P.info? e=U i){n:Nat}(hn:n<=cap){x:Value}(hx:Src P w i.size 0 u x []):
 (Builtin.append_ #[t,u] ty #[.slice base n cap,x]).run P w = .ok (.slice base n cap) w:=by
 obtain⟨d,hd,hk⟩:=hx.ty;cases base<;>simp[Builtin.append_,run_underlying ht,run_underlying hd,sizeOf,typeInfo,hi,hx.len,hn,hx.cells,storeCells]
variable{m:Nat}
def RJ(ht:P.underlying t=U (.slice e))(hi:P.info? e=U i){g n:Nat}{cur:Array Value}{e' : TypeId}(hg:w.heap[g]?=U (.cells cur e' (0,0)))
 {x:Value} {news:List Value} (hx:Src P w i.size m u x news) (h1:∀v∈news,v.oneCell' = aa) (rD:n+m<=cap) (s_:n*i.size+news.length<=cur.size) :
 (Builtin.append_ #[t,u] ty #[.slice (U ⟨g,0,ah⟩) n cap,x]).run P w =
  .ok (.slice (U ⟨g,0,ah⟩) (n+m) cap) (w.setRow g (cur.toList.take (n*i.size)++news++cur.toList.drop (n*i.size+news.length)).toArray):=by
 obtain⟨d,hd,hk⟩:=hx.ty;have fM:=run_storeCells_at (P:=P) g (n*i.size) e' news 0 cur w hg (by simpa using s_) h1;simp only[yS] at fM;simp[Builtin.append_,run_underlying ht,run_underlying hd,sizeOf,typeInfo,hi,hx.len,rD,hx.cells,rj,fM]
def RH(ht:P.underlying t=U (.slice e))(hi:P.info? e=U i)(hzv:i.zero=U z){n:Nat}{jx:List Value}
 (ho:(Builtin.firstCells i.size n (.slice base n cap)).run P w.drew = .ok jx.toArray w.drew)
 {x:Value} {news:List Value} (hx:Src P w i.size m u x news) (hg:cap<n+m) (hb:(n+m)*i.bytes<=140737488355328) (hs:n+m<=9223372036854775807) :
 (Builtin.append_ #[t,u] ty #[.slice base n cap,x]).run P w =
  .ok (.slice (U ⟨w.heap.size,0,ah⟩) (n+m) (grownCap w (n+m) cap e))
   (w.drew.alloc (.cells (jx++(news++(Builtin.zeroCells z.cells (grownCap w (n+m) cap e - (n+m))).toList)).toArray e)):=by
 obtain⟨d,hd,hk⟩:=hx.ty;have hn:¬(n+m<=cap):=by omega
 have alj : ¬(9223372036854775807<((n:Int)+(m:Int))):=by omega
 have s_:=growslice_fits (need:=n+m) (old:=cap) (bytes:=i.bytes) hg hb;have ali : ¬(281474976710656<Builtin.nextslicecap (n+m) cap*i.bytes):=by omega
 have uD : (Builtin.firstCells i.size m x).run P w.drew = .ok news.toArray w.drew:=hx.rm;simp[Builtin.append_,run_underlying ht,run_underlying hd,sizeOf,typeInfo,zeroValue,hi,hzv,hx.len,hn,alj,ali,Question.forced,ho,uD,newRow,grownCap];congr 2;simp
end
variable{u:TypeId}
theorem R9{e':TypeId}(hu:P.underlying u=U (.slice e')){t' : Tk}{m:List (List V)}{x:Value}(h:R E (.sl t' k m) x):
 ∃news,Src P E.w k m.length u x news/\RL E.nl m.flatten news/\(∀v∈news,v.oneCell' = aa)/\∀y∈m,y.length=k:=by
 simp only[R] at h;obtain⟨a,cap,rfl,_,h3,_⟩:=h;have XD:∃d,P.underlying u=U d/\∀k,d≠.int k:=⟨_,hu,λ_ h=>by simp at h⟩
 rcases h3 with rfl | ⟨b,o,rfl,hr⟩
 .refine⟨[],⟨XD,λw' => by simp[Builtin.lenOf],?_,?_,by simp⟩,by simp[RL],λv hv=>by simp at hv,λy hy=>by simp at hy⟩ <;>
   cases a<;>simp[Builtin.firstCells,loadCells,loadCellsFrom]
 .obtain⟨h1,h2⟩:=tZ.1 hr;obtain⟨vs,k1,k2,k3,_⟩:=IE h2;have hl:=iV k1;rw[pP h1] at hl;have hc:∀(j:Nat) v,vs[j]?=U v->E.w.cell? ((⟨b,o,ah⟩:Addr).add j)=U v:=λj v hv=>by rw[rj];exact k2 j v hv
  refine⟨vs,⟨XD,λw' => by simp[Builtin.lenOf],?_,?_,hl.symm⟩,k1,k3,h1⟩
  .have:=run_loadCells_list (P:=P) E.w ⟨b,o,ah⟩ vs hc
   simp only[Builtin.firstCells]
   grind
  .have:=run_loadCells_list (P:=P) E.w.drew ⟨b,o,ah⟩ vs hc
   simp only[Builtin.firstCells]
   grind
variable{l:List (List V)}
theorem Zt(h3:l=[]\/∃b o,a=U ⟨b,o,ah⟩/\iC E.nl k l b o):
 ∃jx,(Builtin.firstCells k l.length (.slice a l.length cap)).run P E.w.drew = .ok jx.toArray E.w.drew/\RL E.nl l.flatten jx/\(∀v∈jx,v.oneCell' = aa)/\(∀y∈l,y.length=k)/\jx.length=l.length*k:=by
 rcases h3 with rfl | ⟨b,o,rfl,hr⟩
 .refine⟨[],?_,by simp[RL],λv hv=>by simp at hv,λy hy=>by simp at hy,by simp⟩;cases a<;>simp[Builtin.firstCells,loadCells,loadCellsFrom]
 .obtain⟨h1,h2⟩:=tZ.1 hr;obtain⟨vs,k1,k2,k3,_⟩:=IE h2;have hl:=iV k1;rw[pP h1] at hl;have hc:∀(j:Nat) v,vs[j]?=U v->E.w.cell? ((⟨b,o,ah⟩:Addr).add j)=U v:=λj v hv=>by rw[rj];exact k2 j v hv
  refine⟨vs,?_,k1,k3,h1,hl.symm⟩
  have:=run_loadCells_list (P:=P) E.w.drew ⟨b,o,ah⟩ vs hc
  simp only[Builtin.firstCells]
  grind
section
variable {P:Program} {E:Env} {st:St} {a:Act} {o:Oper} {K:V->St->Prop} {Q:Exit->Act->World->Prop}
def IF{nb:Nat}{vs rest:List Value}{fr:Nat × Nat}(hl:∀y∈l,y.length=k)(hr:RL E'.nl l.flatten vs)(h1:∀v∈vs,v.oneCell' = aa)
 (hb:E'.w.heap[nb]?=U (.cells (vs++rest).toArray e fr)) (hc:∀j,j<l.length*k->(E'.bg nb).jq j):iC E'.nl k l nb 0:=by
 refine tZ.2 ⟨hl,D0 hr h1 (λj v hv=>?_) (λj hj=>by rw[pP hl] at hj;simpa using hc j hj)⟩;have az:=(kG.1 hv).1;simp[World.cell?,hb,B9 az,hv]
def Io(hs:bS E st a){ty:TypeId}{i:TypeInfo}{z:Value}(ht:P.underlying t=U (.slice e))(hi:P.info? e=U i)(hz:i.zero=U z)(mr:z.cells.size=i.size)
 (sc:i.bytes<=4096) {vs vx:Value} {tk:Tk} {l m:List (List V)}
 (e9:(execOp a.eval o).run P E.w=((Builtin.append_ #[t,u] ty #[vs,vx]).run P E.w).andThen λv w' => .ok (.value v) w')
 (bD:R E (.sl tk i.size l) vs) {news:List Value} (uz:Src P E.w i.size m.length u vx news) (zD:RL E.nl m.flatten news) (iq:∀v∈news,v.oneCell' = aa) (hm:∀y∈m,y.length=i.size)
 (jL:l.length+m.length<=aJ)
 (hk:match (generalizing:=false) tk with
   | .aY=>(∀D,st.out.aS D=ah->K (.sl (.tk D) i.size (l++m)) ⟨st.t,st.au,st.out.aU D (l.length+m.length)⟩)\/K (.sl .no i.size (l++m)) st
   | .tk D=>st.out.aS D=U l.length/\K (.sl (.tk D) i.size (l++m)) ⟨st.t,st.au,st.out.aU D (l.length+m.length)⟩
   | .no=>False):o.wp P a E.w (fu E a o.dst K) Q:=by
 simp only[R] at bD;obtain⟨base,cap,rfl,Cy,nz,ir⟩:=bD;obtain⟨jx,hold,N3,NN,fX,hlen⟩:=Zt (P:=P) (cap:=cap) nz;have GJ:(l.length+m.length)*i.bytes<=140737488355328:=by
  have:=IA jL sc
  simp only[aJ] at this;omega
 have G6:l.length+m.length<=9223372036854775807:=by simp only[aJ] at jL;omega
 have dd:∀y∈l++m,y.length=i.size:=λy hy=>by
  rcases lk.1 hy with h | h
  .exact fX y h
  .exact hm y h
 have N2:RL E.nl (l++m).flatten (jx++news):=by rw[u0];exact y3 N3 zD
 have WD:∀v∈jx++news,v.oneCell' = true:=λv hv=>by
  rcases lk.1 hv with h | h
  .exact NN v h
  .exact iq v h
 have vF:=uz.size
 -- the ways on which the row is laid anew
 have grow:cap<l.length+m.length->(execOp a.eval o).run P E.w = .ok (.value (.slice (U ⟨E.w.heap.size,0,ah⟩) (l.length+m.length) (grownCap E.w (l.length+m.length) cap e)))
  (E.w.drew.alloc (.cells (jx++(news++(Builtin.zeroCells z.cells (grownCap E.w (l.length+m.length) cap e - (l.length+m.length))).toList)).toArray e)):=λaz=>by
  rw[e9,RH (P:=P) ht hi hz hold uz az GJ G6];rfl
 have idle:m=[]->(execOp a.eval o).run P E.w = .ok (.value (.slice base l.length cap)) E.w:=λh0=>by
  subst h0
  have:news=[]:=xx (by simpa using vF)
  subst this;rw[e9,abh (P:=P) ht hi Cy uz];rfl
 have vB:=grownCap_ge E.w (l.length+m.length) cap e;have size:cap<l.length+m.length->(jx++(news++(Builtin.zeroCells z.cells (grownCap E.w (l.length+m.length) cap e - (l.length+m.length))).toList)).toArray.size=grownCap E.w (l.length+m.length) cap e*i.size:=λ_=>by
  simp only[Tp,bL,DP,size_zeroCells,mr,hlen,vF];rw[<-Ca,<-lH,<-lH];congr 1;omega
 generalize grownCap E.w (l.length+m.length) cap e=nc at grow vB size;generalize zF:(Builtin.zeroCells z.cells (nc - (l.length+m.length))).toList=rest at grow size;have als:jx++(news++rest)=(jx++news)++rest:=by simp
 rw[als] at grow size
 -- the row laid anew,as the last of its line
 have WB:∀D,(E.aS D=ah\/E.aS D=U l.length)->cap<l.length+m.length->0<m.length->K (.sl (.tk D) i.size (l++m)) ⟨st.t,st.au,st.out.aU D (l.length+m.length)⟩ ->
  o.wp P a E.w (fu E a o.dst K) Q:=λD aW az iH hK=>by
  let E' : Env:={w:=E.w.drew.alloc (.cells ((jx++news)++rest).toArray e),bg:=λb=>if b=E.w.heap.size then .i_ D ((l.length+m.length)*i.size) else match E.bg b with | .i_ t c=>if t=D then .const else .i_ t c | r=>r,au:=E.au,aS:=λt=>if t=D then U (l.length+m.length) else E.aS t}
  have hx:Ext E.w E'.w:=((Ext.refl _).drew).alloc _ _;have jN:∀b,b<E.w.heap.size->E'.bg b=match E.bg b with | .i_ t c=>if t=D then .const else .i_ t c | r=>r:=λb hb=>by
   simp only[E'];rw[aB (by omega)]
  have O2:E'.w.heap.size=E.w.heap.size+1:=by simp[E']
  have OE:∀b,b<E.w.heap.size->∀t c,E'.bg b = .i_ t c->E.bg b = .i_ t c:=λb hb t c h=>by
   rw[jN b hb] at h;cases hq:E.bg b<;>rw[hq] at h<;>simp at h;split at h<;>simp at h;obtain⟨rfl,rfl⟩:=h;rfl
  have bC:Fr E E' := by
   refine⟨rfl,rfl,rfl,hx.size,hx.jU,?_,?_,?_,?_,?_,?_,λb c e hb=>⟨c,(hx.block b (nX hb)).trans hb,rfl⟩⟩
   .intro b o' c hc hv;have hb:=YW hv;refine⟨?_,by rw[D8 (hx.block b hb)];exact hv⟩;rw[jN b hb];cases hq:E.bg b<;>rw[hq] at hc<;>simp only[]
    all_goals first | exact hc | (split<;>first | trivial | exact hc)
   .intro t n hn
    by_cases uA:t=D
    .subst uA;have GV : n=l.length:=by rcases aW with h | h<;>rw[h] at hn<;>simp at hn;exact hn.symm
     exact⟨l.length+m.length,by simp[E'],by omega,λh=>by omega⟩
    .refine⟨n,by simp only[E'];rw[aB uA];exact hn,bU _,λ_ b c hb=>?_⟩;have p7 : b<E.w.heap.size:=by
      rcases Cb b E.w.heap.size with h | h
      .exact h
      .rw[hs.ok.fresh b h] at hb;simp at hb
     refine⟨by rw[jN b p7,hb];simp[uA],λcs Ef cO=>⟨cs,by rw[hx.block b p7];exact cO,rfl⟩⟩
   .intro b hb hr;refine⟨hx.block b hb,?_⟩;rw[jN b hb]
    rcases hr with hr | hr<;>rw[hr]
   .intro b hb h;rw[jN b hb] at h;cases hq:E.bg b<;>rw[hq] at h<;>first | exact .inl rfl | (simp at h;done) | (simp only[] at h;split at h<;>simp at h)
   .intro b t c hb h;exact⟨c,OE b hb t c h⟩
   .intro b i' hb h;rw[jN b hb] at h;cases hq:E.bg b<;>rw[hq] at h<;>try (simp at h;done)
    .exact⟨_,rfl⟩
    .simp only[] at h;split at h<;>simp at h
  have hle:E.le E' := bC.le λ_ _ h=>h
  unfold Oper.wp;rw[grow az];refine⟨E',_,_,⟨st.t,st.au,st.out.aU D (l.length+m.length)⟩,rfl,bC,⟨⟨?_,?_,?_,?_,λb cs hc=>fz.mono _ bC.nl (hs.ok.cI b cs hc)⟩,?_,hs.defers,RL.mono _ hle hs.slot⟩,?_,rfl,hK⟩
  .intro b cs cO;obtain⟨k1,k2⟩:=hs.ok.box b cs cO;have p7 : b<E.w.heap.size:=by obtain⟨c,e,h3,_⟩:=k2;exact nX (w:=E.w) h3
   exact⟨by rw[jN b p7,k1],k2.mono bC.nl (hx.block b p7)⟩
  .intro t n mF;simp only[ab.aU] at mF;simp only[E'];split at mF
   .rename_i h;rw[aL h];exact mF
   .rename_i h;rw[aB h];exact hs.ok.aS t n mF
  .intro b hb;rw[O2] at hb;simp only[E'];rw[aB (by omega),hs.ok.fresh b (by omega)]
  .obtain⟨N,hN⟩:=hs.ok.nt;exact⟨max N (D+1),λt tm => by simp only[E'];rw[aB (by omega)];exact hN t (by omega)⟩
  .exact tG hs.dO hle (λb i' hr p7 => ⟨by rw[jN b p7,hr],hx.block b p7⟩) hs.dO.none
  .have vH:E'.w.heap[E.w.heap.size]?=U (.cells ((jx++news)++rest).toArray e (0,0)):=heap_alloc_new E.w.drew _;have rC:E'.bg E.w.heap.size = .i_ D ((l.length+m.length)*i.size):=by simp[E']
   simp only[R,bL];refine⟨U ⟨E.w.heap.size,0,ah⟩,nc,rfl,vB,.inr ⟨_,_,rfl,IF dd (RL.mono _ bC.nl N2) WD vH (λj hj=>by rw[rC];simpa [gp.jq] using hj)⟩,l.length+m.length,by simp[E'],bU _,λ_=>.inr ⟨_,_,_,rfl,rC,vH,size az⟩⟩
 -- the state where only a tip is new
 have acm:∀D,(E.aS D=ah\/E.aS D=U l.length)->m=[]->cap=l.length\/E.aS D=U l.length->K (.sl (.tk D) i.size (l++m)) ⟨st.t,st.au,st.out.aU D (l.length+m.length)⟩ ->
  xA {E with aS:=λt=>if t=D then U l.length else E.aS t} i.size l.length base cap (.tk D)->o.wp P a E.w (fu E a o.dst K) Q:=λD aW tj _ hK cw=>by
  let E' : Env:={E with aS:=λt=>if t=D then U l.length else E.aS t}
  have bC:Fr E E' := A3 (E' := E') hs.ok.fresh (Ext.refl _) (λ_ _=>rfl) (λt n hn=>by
   simp only[E'];split
   .rename_i h;subst h;rcases aW with h | h<;>rw[h] at hn<;>simp at hn;rw[hn]
   .exact hn)
  have hle:E.le E' := bC.le λ_ _ h=>h
  unfold Oper.wp;rw[idle tj];refine⟨E',_,_,⟨st.t,st.au,st.out.aU D (l.length+m.length)⟩,rfl,bC,⟨⟨?_,?_,hs.ok.fresh,?_,λb cs hc=>fz.mono _ bC.nl (hs.ok.cI b cs hc)⟩,?_,hs.defers,RL.mono _ hle hs.slot⟩,?_,rfl,hK⟩
  .intro b cs cO;obtain⟨k1,k2⟩:=hs.ok.box b cs cO;exact⟨k1,k2.mono bC.nl rfl⟩
  .intro t n mF;subst tj;simp only[ab.aU,cZ,yS] at mF;simp only[E'];split at mF
   .rename_i h;rw[aL h];exact mF
   .rename_i h;rw[aB h];exact hs.ok.aS t n mF
  .obtain⟨N,hN⟩:=hs.ok.nt;exact⟨max N (D+1),λt tm => by simp only[E'];rw[aB (by omega)];exact hN t (by omega)⟩
  .exact tG hs.dO hle (λb i' hr p7 => ⟨hr,rfl⟩) hs.dO.none
  .subst tj;simp only[R,eC];refine⟨base,cap,rfl,Cy,?_,cw⟩
   rcases nz with h | ⟨b,o',h,hr⟩
   .exact .inl h
   .exact .inr ⟨b,o',h,iC.mono _ bC.nl hr⟩
 cases tk with
 | no=>exact hk.elim
 | aY =>
  simp only[xA] at ir
  rcases hk with hk | hk
  .obtain⟨N,hN⟩:=hs.ok.nt;have Ov:st.out.aS N=none:=by
    cases h:st.out.aS N with
    | none=>rfl
    | some n=>have:=hs.ok.aS N n h;rw[hN N (bU _)] at this;simp at this
   have hK:=hk N Ov
   rcases Mh m.length with h0 | h0
   .have tj:=xx h0;exact acm N (.inl (hN N (bU _))) tj (.inl ir) hK ⟨l.length,by simp,bU _,λ_=>.inl ir⟩
   .exact WB N (.inl (hN N (bU _))) (by omega) h0 hK
  .rcases Mh m.length with h0 | h0
   .have tj:=xx h0;refine ey hs (idle tj) ?_ hk;subst tj;simp only[R,eC];exact⟨base,cap,rfl,Cy,nz,trivial⟩
   .refine acP hs (((Ext.refl _).drew).alloc _ _) (grow (by omega)) ?_ hk;have vH:(E.w.drew.alloc (.cells ((jx++news)++rest).toArray e)).heap[E.w.heap.size]?=U (.cells ((jx++news)++rest).toArray e (0,0)):=heap_alloc_new E.w.drew _;obtain⟨bC,_,_⟩:=H6 hs (((Ext.refl E.w).drew).alloc ((jx++news)++rest).toArray e);simp only[R,bL];exact⟨U ⟨E.w.heap.size,0,ah⟩,nc,rfl,vB,.inr ⟨_,_,rfl,IF dd (RL.mono _ bC.nl N2) WD vH (λj _=>by rw[show({E with w:=E.w.drew.alloc (.cells ((jx++news)++rest).toArray e)}:Env).bg E.w.heap.size = .const from hs.ok.fresh _ (bU _)];trivial)⟩,trivial⟩
 | tk D =>
  obtain⟨aW,hK⟩:=hk;have hE:=hs.ok.aS D _ aW;obtain⟨n',h1,_,h3⟩:=ir;rw[hE] at h1;simp only[bq] at h1;subst h1
  rcases Mh m.length with h0 | h0
  .have tj:=xx h0;exact acm D (.inr hE) tj (.inr hE) hK ⟨l.length,by simp,bU _,h3⟩
  .rcases Cb cap (l.length+m.length) with az | rD
   .exact WB D (.inr hE) az h0 hK
   .rcases h3 rfl with hc | ⟨b,cs,e',rfl,gQ,gP,dE⟩
    .omega
    .have s_:l.length*i.size+news.length<=cs.size:=by
      rw[vF,dE,<-lH];exact va _ rD
     have mn:=RJ (P:=P) (ty:=ty) ht hi gP uz iq rD s_;have x8:∀j:Nat,(cs.toList.take (l.length*i.size)++news++cs.toList.drop (l.length*i.size+news.length)).toArray[j]?=if j<l.length*i.size then cs[j]? else if j<l.length*i.size+news.length then news[j - l.length*i.size]? else cs[j]?:=λj=>by
      have:=Ll (c:=cs.toList) (vs:=news) (off:=l.length*i.size) (by simpa using s_) j
      simpa using this
     have vL:(cs.toList.take (l.length*i.size)++news++cs.toList.drop (l.length*i.size+news.length)).toArray.size=cs.size:=by simp;omega
     generalize (cs.toList.take (l.length*i.size)++news++cs.toList.drop (l.length*i.size+news.length)).toArray=new at mn x8 vL;have alx:l.length*i.size<=(l.length+m.length)*i.size:=va _ (by omega)
     let E' : Env:={w:=E.w.setRow b new,bg:=λb' => if b' = b then .i_ D ((l.length+m.length)*i.size) else E.bg b',au:=E.au,aS:=λt=>if t=D then U (l.length+m.length) else E.aS t}
     have jV:∀b',b' ≠ b->E'.w.heap[b']?=E.w.heap[b']?:=λb' bf=>setRow_other E.w b b' new bf
     have pn:∀b',b' ≠ b->E'.bg b' = E.bg b' := λb' bf=>by simp only[E'];rw[aB bf]
     have cF : E'.w.heap[b]?=U (.cells new e' (0,0)):=setRow_heap E.w b cs new e' _ gP;have su:E'.bg b = .i_ D ((l.length+m.length)*i.size):=by simp[E']
     have bf:∀b' r,E.bg b' = r->(∀c,r≠.i_ D c)->b' ≠ b:=λb' r h h' => by rintro rfl;rw[gQ] at h;exact h' _ h.symm
     have bC:Fr E E' := by
      refine⟨rfl,rfl,rfl,by simp[E'],Gt gP,?_,?_,?_,?_,?_,?_,λb' c' Ef hc=>by
       by_cases dh:b' = b
       .subst dh;rw[gP] at hc;simp only[bq,Obj.cells.injEq] at hc;obtain⟨rfl,rfl,_⟩:=hc;exact⟨new,cF,vL⟩
       .exact⟨c',(jV b' dh).trans hc,rfl⟩⟩
      .intro b' o' c hc hv
       by_cases dh:b' = b
       .subst dh;rw[gQ] at hc;simp only[gp.jq] at hc;refine⟨by rw[su];simp only[gp.jq];omega,?_⟩;simp only[World.cell?,gP] at hv;simp only[World.cell?,cF,x8,aL hc];exact hv
       .exact⟨by rw[pn b' dh];exact hc,by rw[D8 (jV b' dh)];exact hv⟩
      .intro t n hn
       by_cases uA:t=D
       .subst uA;rw[hE] at hn;simp only[bq] at hn;exact⟨l.length+m.length,by simp[E'],by omega,λh=>by omega⟩
       .refine⟨n,by simp only[E'];rw[aB uA];exact hn,bU _,λ_ b' c Cx=>?_⟩;have dh:b' ≠ b:=bf b' _ Cx (λc' h=>by simp at h;exact uA h.1);exact⟨by rw[pn b' dh];exact Cx,λcs' Ef cO=>⟨cs',by rw[jV b' dh];exact cO,rfl⟩⟩
      .intro b' _ hr;have dh:b' ≠ b:=by rcases hr with hr | hr<;>exact bf b' _ hr (λc h=>by simp at h)
       exact⟨jV b' dh,pn b' dh⟩
      .intro b' _ h;have dh:b' ≠ b:=by rintro rfl;rw[su] at h;simp at h
       rw[pn b' dh] at h;exact .inl h
      .intro b' t c _ h
       by_cases dh:b' = b
       .subst dh;rw[su] at h;simp at h;obtain⟨rfl,_⟩:=h;exact⟨_,gQ⟩
       .rw[pn b' dh] at h;exact⟨c,h⟩
      .intro b' i' _ h;have dh:b' ≠ b:=by rintro rfl;rw[su] at h;simp at h
       rw[pn b' dh] at h;exact⟨_,h⟩
     have hle:E.le E' := bC.le λ_ _ h=>h
     unfold Oper.wp;rw[e9,mn];refine⟨E',_,_,⟨st.t,st.au,st.out.aU D (l.length+m.length)⟩,rfl,bC,⟨⟨?_,?_,?_,?_,λb cs hc=>fz.mono _ bC.nl (hs.ok.cI b cs hc)⟩,?_,hs.defers,RL.mono _ hle hs.slot⟩,?_,rfl,hK⟩
     .intro b' cs' cO;obtain⟨k1,k2⟩:=hs.ok.box b' cs' cO;have dh:b' ≠ b:=bf b' _ k1 (λc h=>by simp at h);exact⟨by rw[pn b' dh];exact k1,k2.mono bC.nl (jV b' dh)⟩
     .intro t n mF;simp only[ab.aU] at mF;simp only[E'];split at mF
      .rename_i h;rw[aL h];exact mF
      .rename_i h;rw[aB h];exact hs.ok.aS t n mF
     .intro b' vw;have dh:b' ≠ b:=by
       rintro rfl
       have:=nX gP
       simp[E'] at vw;omega
      rw[pn b' dh];exact hs.ok.fresh b' (by simpa [E'] using vw)
     .obtain⟨N,hN⟩:=hs.ok.nt;exact⟨max N (D+1),λt tm => by simp only[E'];rw[aB (by omega)];exact hN t (by omega)⟩
     .refine tG hs.dO hle (λb' i' hr _=>?_) hs.dO.none;have dh:b' ≠ b:=bf b' _ hr (λc h=>by simp at h);exact⟨by rw[pn b' dh];exact hr,jV b' dh⟩
     .have ax6:RL E'.nl (l++m).flatten (jx++news):=RL.mono _ bC.nl N2
      -- the cells of the row,as they now are
      have N1:iC E'.nl i.size (l++m) b 0:=by
       have GU:iC E.nl i.size l b 0:=by
        rcases nz with h | ⟨b2,o2,h,hr⟩
        .subst h;simp[iC]
        .simp only[bq,Addr.mk.injEq] at h;obtain⟨rfl,rfl,_⟩:=h;exact hr
       refine tZ.2 ⟨dd,?_⟩;rw[u0];refine AG.2 ⟨(tZ.1 (iC.mono _ bC.nl GU)).2,D0 (RL.mono _ bC.nl zD) iq (λj v hv=>?_) (λj hj=>?_)⟩
       .have hj:=(kG.1 hv).1;rw[pP fX];simp only[Env.Zi,World.cell?,cF,x8];simp only[xy,dK,cz];rw[aB (show ¬(0+l.length*i.size+j<l.length*i.size) by omega),aL (show 0+l.length*i.size+j<l.length*i.size+news.length by omega)];rw[show 0+l.length*i.size+j - l.length*i.size=j from by omega];exact hv
       .rw[pP fX];rw[pP hm] at hj;simp only[Env.Zh,su,gp.jq];rw[lH];omega
      simp only[R,bL];exact⟨U ⟨b,0,ah⟩,cap,rfl,rD,.inr ⟨b,0,rfl,N1⟩,l.length+m.length,by simp[E'],bU _,λ_=>.inr ⟨b,new,e',rfl,su,cF,vL.trans dE⟩⟩
end
section
variable {P:Program} {E:Env} {st:St} {a:Act} {o:Oper} {K:V->St->Prop} {Q:Exit->Act->World->Prop}
def acQ(hs:bS E st a)(ho:o.op = .move x\/o.op = .assign x)(hx:R E v (a.eval x))(hk:K v st):o.wp P a E.w (fu E a o.dst K) Q :=
 ey hs (by rcases ho with ho | ho<;>simp[execOp,ho]) hx hk
variable{vx vy:V}{y:Operand}
def axh(hs:bS E st a){c:Operand}{vc:V}(ho:o.op = .pick c x y)(hc:R E vc (a.eval c))(hx:R E vx (a.eval x))(hy:R E vy (a.eval y))
 (hk:match (generalizing:=false) vc with | .bool aa=>K vx st | .bool aq=>K vy st | _=>False):o.wp P a E.w (fu E a o.dst K) Q:=by
 cases vc<;>try exact False.elim hk
 rename_i b;simp only[R] at hc;cases b
 .exact ey hs (by simp[execOp,ho,hc,asBool]) hy hk
 .exact ey hs (by simp[execOp,ho,hc,asBool]) hx hk
def awV(hs:bS E st a)(ho:o.op = .alloc t)(hz:mA P t=U zs)(hk:K (.ptr (.au st.au.length) 0) ⟨st.t,st.au++[zs],st.out⟩):
 o.wp P a E.w (fu E a o.dst K) Q:=by
 obtain⟨i,z,h1,h2,h3,_⟩:=yJ hz;refine acR hs (c:=z.cells) (e:=t) ?_ (xL h3) hk;simp[execOp,ho,Instr.alloc,zeroValue,typeInfo,h1,h2,newVar,newRow]
def aw0(hs:bS E st a){n:Nat}(ho:o.op = .box t x)(hx:R E v (a.eval x))(hw:v.wd=U n)(hk:K (.ptr (.au st.au.length) 0) ⟨st.t,st.au++[v.cells],st.out⟩):
 o.wp P a E.w (fu E a o.dst K) Q:=by
 refine acR hs (c:=(a.eval x).cells) (e:=t) ?_ (AI hx hw).1 hk;simp[execOp,ho,Instr.box,newVar,newRow]
def axf(hs:bS E st a)(ho:o.op = .nilCheck x)(hx:R E v (a.eval x))
 (hk:match (generalizing:=false) v with | .ptr p o=>K (.ptr p o) st | .elt c o=>K (.elt c o) st | .fn (.func f) a b=>K (.fn (.func f) a b) st | _=>False):o.wp P a E.w (fu E a o.dst K) Q:=by
 cases v<;>try exact False.elim hk
 case ptr p off =>
  refine ey hs (v:=.ptr p off) (x:=a.eval x) ?_ hx hk;cases p<;>simp only[R] at hx
  .obtain⟨b,_,h⟩:=hx;simp[execOp,ho,h]
  .simp[execOp,ho,hx]
  .simp[execOp,ho,hx]
 case elt c off =>
  refine ey hs (v:=.elt c off) (x:=a.eval x) ?_ hx hk;simp only[R] at hx;obtain⟨b,o',h,_⟩:=hx;simp[execOp,ho,h]
 case fn f as bs =>
  cases f<;>try exact False.elim hk
  rename_i f;refine ey hs (v:=.fn (.func f) as bs) (x:=a.eval x) ?_ hx hk;simp only[R] at hx;obtain⟨fs,cs,h,_⟩:=hx;simp[execOp,ho,h]
variable{t':TypeId}
def awY(hs:bS E st a){op:BinOp}(ho:o.op = .binOp op t x y t')(hx:R E vx (a.eval x))(hy:R E vy (a.eval y))
 (hk:opt (y8 op vx vy) (K2 K st)):o.wp P a E.w (fu E a o.dst K) Q:=by
 unfold opt K2 at hk;split at hk
 case h_2=>exact hk.elim
 rename_i v hv;unfold y8 at hv;split at hv
 case h_2=>simp at hv
 rename_i k n k' m;split at hv
 case isFalse=>simp at hv
 rename_i fw;simp only[R] at hx hy
 by_cases Ka:EW op=aa
 .cases op<;>simp only[EW,dK] at Ka
  .simp only[jv] at hv;split at hv
   case isTrue=>simp at hv
   rename_i hm;simp only[bq] at hv;subst hv;refine ey hs (x:=.int k (k.wrap (n*2^(Nat.min m.toNat k.bits)))) ?_ (by simp only[R]) hk;simp only[execOp,ho,hx,hy];simp[eqGuard,binOp,Op.shift,hm]
  .simp only[jv] at hv;split at hv
   case isTrue=>simp at hv
   rename_i hm;simp only[bq] at hv;subst hv;refine ey hs (x:=.int k (n.fdiv (2^(Nat.min m.toNat k.bits)))) ?_ (by simp only[R]) hk;simp only[execOp,ho,hx,hy];simp[eqGuard,binOp,Op.shift,hm]
 have fw:=fw.resolve_right Ka;obtain rfl:=Pf fw;cases op<;>simp only[jv,bq] at hv<;>try (simp at hv;done)
 case shl=>simp[EW] at Ka
 case shr=>simp[EW] at Ka
 case quo =>
  split at hv
  case isTrue=>simp at hv
  rename_i hm;simp only[bq] at hv;subst hv;refine ey hs (by simp only[execOp,ho,hx,hy];simp only[eqGuard,binOp,Op.intDiv];simp[hm];rfl) (by simp only[R];try rfl) hk
 case rem =>
  split at hv
  case isTrue=>simp at hv
  rename_i hm;simp only[bq] at hv;subst hv;refine ey hs (by simp only[execOp,ho,hx,hy];simp only[eqGuard,binOp,Op.intDiv];simp[hm];rfl) (by simp only[R];try rfl) hk
 case andNot =>
  subst hv;refine ey hs (x:=.int k (k.wrap ((BitVec.ofInt k.bits n&&&~~~BitVec.ofInt k.bits m).toNat:Nat))) ?_ (by simp only[R]) hk;simp only[execOp,ho,hx,hy];simp only[eqGuard,binOp,Op.intBits];simp
 all_goals
  subst hv;refine ey hs (by simp only[execOp,ho,hx,hy];simp only[eqGuard,binOp,Op.intArith,Op.intCmp,Op.intBits];simp;first | rfl | simp) (by simp only[R];try rfl) hk
theorem YK(x y:List UInt8):(x == y)=decide (x=y):=by grind
def awZ(hs:bS E st a){op:BinOp}(ho:o.op = .binOp op t x y t')(hx:R E vx (a.eval x))(hy:R E vy (a.eval y))
 (hk:opt (Cj op vx vy) (K2 K st)):o.wp P a E.w (fu E a o.dst K) Q:=by
 unfold opt K2 at hk;split at hk
 case h_2=>exact hk.elim
 rename_i v hv;unfold Cj at hv;split at hv
 case h_2=>simp at hv
 rename_i n m;simp only[R] at hx hy;cases op<;>simp only[Ad,bq] at hv<;>try (simp at hv;done)
 all_goals
  subst hv;refine ey hs (by simp only[execOp,ho,hx,hy];simp only[eqGuard,binOp,Op.stringOp,ByteArray.toList_mk];simp[YK];rfl) (by simp[R]) hk
theorem aw4(hs:bS E st a)(ho:o.op = .binOp .add t x y t')(hx:R E vx (a.eval x))(hy:R E vy (a.eval y))
 (hk:∃m n,vx = .aQ m/\vy = .aQ n/\m.length+n.length<=aJ/\K (.aQ (m++n)) st):o.wp P a E.w (fu E a o.dst K) Q:=by
 obtain⟨m,n,rfl,rfl,hb,hk⟩:=hk;simp only[R] at hx hy;have dE:¬(9223372036854775807<((m.length:Int)+(n.length:Int))):=by simp only[aJ] at hb;omega
 have e1:(⟨m.toArray⟩:ByteArray).size=m.length:=by rfl
 have e2:(⟨n.toArray⟩:ByteArray).size=n.length:=by rfl
 refine ey hs (v:=.aQ (m++n)) (x:=.string ⟨(m++n).toArray⟩) ?_ (by simp only[R]) hk;simp only[execOp,ho,hx,hy];simp only[eqGuard,binOp,Op.stringOp,e1,e2];have e3:(⟨m.toArray⟩:ByteArray)++(⟨n.toArray⟩:ByteArray)=⟨(m++n).toArray⟩:=by rfl
 simp_all
def acL(hs:bS E st a){neg:Bool}{op:BinOp}(nN:op=if neg then .neq else .eql)(ht:P.underlying t=U .bool)(ho:o.op = .binOp op t x y t')(hx:R E vx (a.eval x))(hy:R E vy (a.eval y))
 (hk:opt (AY neg vx vy) (K2 K st)):o.wp P a E.w (fu E a o.dst K) Q:=by
 unfold opt K2 at hk;split at hk
 case h_2=>exact hk.elim
 rename_i v hv;unfold AY at hv;split at hv
 case h_2=>simp at hv
 rename_i m n;simp only[R] at hx hy;simp only[bq] at hv;subst hv;subst nN;cases neg
 .refine ey hs (x:=.bool (decide (m=n))) ?_ (by simp[R]) hk;simp only[execOp,ho,hx,hy];simp[eqGuard,run_eql_bool E.w t m n ht];cases m<;>cases n<;>rfl
 .refine ey hs (x:=.bool (!decide (m=n))) ?_ (by simp[R]) hk;simp only[execOp,ho,hx,hy];simp[eqGuard,run_neq_bool E.w t m n ht];cases m<;>cases n<;>rfl
def axg(hs:bS E st a)(ho:o.op = .unOp .not t x)(hx:R E v (a.eval x))(hk:match (generalizing:=false) v with | .bool b=>K (.bool (!b)) st | _=>False):
 o.wp P a E.w (fu E a o.dst K) Q:=by
 cases v<;>try exact False.elim hk
 simp only[R] at hx;exact ey hs (by simp[execOp,ho,hx,Op.unary];rfl) (by simp only[R]) hk
def axb(hs:bS E st a)(ho:o.op = .call {callee:=.builtin .len,args:=#[x],argTypes:=#[t]})(ht:P.underlying t=U (.slice e))(hx:R E v (a.eval x))
 (hk:match (generalizing:=false) v with | .sl _ _ l=>K (.int .i64 l.length) st | .raw (.slice _ n _)=>K (.int .i64 n) st | _=>False):o.wp P a E.w (fu E a o.dst K) Q:=by
 cases v<;>try exact False.elim hk
 case raw u =>
  cases u<;>try exact False.elim hk
  simp only[R] at hx;exact ey hs (by simp[execOp,ho,resolve,invoke,builtin,Builtin.len_,run_underlying ht,hx];rfl) (by simp[R,goInt]) hk
 simp only[R] at hx;obtain⟨b,c,h,_⟩:=hx;exact ey hs (by simp[execOp,ho,resolve,invoke,builtin,Builtin.len_,run_underlying ht,h];rfl) (by simp[R,goInt]) hk
def axc(hs:bS E st a)(ho:o.op = .call {callee:=.builtin .len,args:=#[x],argTypes:=#[t]})(ht:P.underlying t=U .string)(hx:R E v (a.eval x))
 (hk:match (generalizing:=false) v with | .aQ s=>K (.int .i64 s.length) st | _=>False):o.wp P a E.w (fu E a o.dst K) Q:=by
 cases v<;>try exact False.elim hk
 simp only[R] at hx;exact ey hs (by simp[execOp,ho,resolve,invoke,builtin,Builtin.len_,run_underlying ht,hx];rfl) (by simp[R,goInt,ByteArray.size]) hk
variable{i:Nat}
def aw8(hs:bS E st a){s:TypeId}{n:Nat}{fs:Array Field}{f:Field}(ho:o.op = .fieldAddr s x i)(ht:P.underlying s=U (.struct fs))(hf:fs[i]?=U f)
 (hn:fR P f.type=U n) (vG:n≠0) (hx:R E v (a.eval x)) (hk:match (generalizing:=false) v with | .ptr p o=>K (.ptr p (o+f.offset)) st | .elt c o=>K (.elt c (o+f.offset)) st | _=>False) :
 o.wp P a E.w (fu E a o.dst K) Q:=by
 have run:∀b off:Nat,(Instr.fieldAt s (.pointer (U ⟨b,off,ah⟩)) i).run P E.w = .ok (.pointer (U ⟨b,off+f.offset,ah⟩)) E.w:=λb off=>by
  simp[Instr.fieldAt,run_underlying ht,hf,Instr.sureAddr,fieldPlace,tL hn,vG,rj]
 cases v<;>try exact False.elim hk
 case ptr p off =>
  cases p with
  | au j =>
   simp only[R] at hx;obtain⟨b,hb,h⟩:=hx;exact ey hs (by simp[execOp,ho,h,run];rfl) (by simp only[R];exact⟨b,hb,rfl⟩) hk
  | out b =>
   simp only[R] at hx;exact ey hs (by simp[execOp,ho,hx,run];rfl) (by simp only[R]) hk
  | nq b =>
   simp only[R] at hx;exact ey hs (by simp[execOp,ho,hx,run];rfl) (by simp only[R]) hk
 case elt c off =>
  simp only[R] at hx;obtain⟨b,o',h,hr⟩:=hx;exact ey hs (by simp[execOp,ho,h,run];rfl) (by simp only[R];exact⟨b,o',by rw[Ca],hr⟩) hk
theorem aw7(hs:bS E st a)(ho:o.op = .extract x i)(hx:R E v (a.eval x))(hk:match (generalizing:=false) v with | .bw vs=>opt vs[i]? (K2 K st) | _=>False):
 o.wp P a E.w (fu E a o.dst K) Q:=by
 cases v<;>try exact False.elim hk
 rename_i vs;simp only[opt,K2] at hk;cases hu:vs[i]? with
 | none=>rw[hu] at hk;exact False.elim hk
 | some u =>
  rw[hu] at hk;simp only[R] at hx;obtain⟨us,h,hr⟩:=hx;obtain⟨y,h1,h2⟩:=vb hr i u hu;have xX : us[i]?=U y:=by grind
  exact ey hs (by simp[execOp,ho,h,Instr.extract,xX]) h2 hk
def axe(hs:bS E st a){f:Fn}{first cap:Array Operand}{as bs:List V}(ho:o.op = .makeFunc f first cap)(ha:RL E as (first.toList.map a.eval))(hb:RL E bs (cap.toList.map a.eval))(hk:K (.fn f as bs) st):
 o.wp P a E.w (fu E a o.dst K) Q:=by
 refine ey hs (x:=.func f (first.map a.eval) (cap.map a.eval)) (by simp[execOp,ho,Instr.makeFunc]) ?_ hk;simp only[R];exact⟨_,_,rfl,by simpa using ha,by simpa using hb⟩
def aw6(hs:bS E st a){src dst:TypeId}{k k' : IntKind}(ho:o.op = .convert src dst x)(h1:P.underlying src=U (.int k'))(h2:P.underlying dst=U (.int k))(hx:R E v (a.eval x))
 (hk:match (generalizing:=false) v with | .int _ n=>K (.int k (k.wrap n)) st | _=>False):o.wp P a E.w (fu E a o.dst K) Q:=by
 cases v<;>try exact False.elim hk
 simp only[R] at hx;exact ey hs (by simp[execOp,ho,hx,convert,run_underlying h1,run_underlying h2,Conv.intToInt];rfl) (by simp only[R]) hk
theorem aw_(hs:bS E st a){n:Nat}{i:Operand}{vi:V}(ho:o.op = .indexAddr t x i)(ht:P.underlying t=U (.slice e))(hn:fR P e=U n)(hx:R E vx (a.eval x))(hi:R E vi (a.eval i))
 (hk:match (generalizing:=false) vx with
   | .sl _ k' l=>k' = n/\L3 l vi λc=>K (.elt c 0) st
   | .raw (.slice (U ⟨b,o,ah⟩) m _)=>∃ik j,vi = .int ik j/\0<=j/\j<m/\K (.ptr (.out b) (o+j.toNat*n)) st
   | _=>False):o.wp P a E.w (fu E a o.dst K) Q:=by
 cases vx<;>try exact False.elim hk
 case raw u =>
  split at hk
  .simp_all
  .rename_i b off m cap e;simp only[V.raw.injEq] at e;subst e;obtain⟨ik,j,rfl,g1,g2,hk⟩:=hk;simp only[R] at hx hi;refine ey hs (v:=.ptr (.out b) (off+j.toNat*n)) (x:=.pointer (U ⟨b,off+j.toNat*n,ah⟩)) ?_ (by simp only[R]) hk;simp[execOp,ho,hx,hi,Instr.indexAt,asIntOf,run_underlying ht,g1,g2,tL hn,rj]
  .grind
 rename_i tk k' l;obtain⟨rfl,ki,m,c,rfl,hm,hc,hk⟩:=hk;simp only[R] at hx hi;obtain⟨base,cap,h,_,h3,_⟩:=hx;have az:=(kG.1 hc).1
 rcases h3 with h3 | ⟨b,off,rfl,hr⟩
 .grind
 .have s6:fz E.nl c b (off+m.toNat*k'):=by
   obtain⟨h1,h2⟩:=tZ.1 hr;have O4:l=l.take m.toNat++c::l.drop (m.toNat+1):=by
    have:=u_ m.toNat l
    rw[mb az] at this
    grind
   rw[O4,u0,lj,AG,AG] at h2;have hl:(l.take m.toNat).flatten.length=m.toNat*k' := by
    rw[pP (λx hx=>h1 x (B' hx))]
    grind
   grind
  have p7 : m<(l.length:Int):=by omega
  refine ey hs (v:=.elt c 0) (x:=.pointer (U ⟨b,off+m.toNat*k',ah⟩)) ?_ (by simp only[R];exact⟨b,off+m.toNat*k',rfl,s6⟩) hk;simp[execOp,ho,h,hi,Instr.indexAt,asIntOf,run_underlying ht,hm,p7,tL hn,rj]
variable{m:Nat}
def aw'(hs:bS E st a){n:Nat}{i:Operand}{vi:V}(ho:o.op = .indexAddr t x i)(ht:P.underlying t=U (.array m e))(hn:fR P e=U n)(hx:R E vx (a.eval x))(hi:R E vi (a.eval i))
 (hk:match (generalizing:=false) vx with
   | .ptr p o=>∃kk j,vi = .int kk j/\0<=j/\j<(m:Nat)/\K (.ptr p (o+j.toNat*n)) st
   | .elt c o=>∃kk j,vi = .int kk j/\0<=j/\j<(m:Nat)/\K (.elt c (o+j.toNat*n)) st
   | _=>False):o.wp P a E.w (fu E a o.dst K) Q:=by
 have run:∀(b off:Nat) (kk:IntKind) (j:Int),0<=j->j<(m:Nat)->(Instr.indexAt t (.pointer (U ⟨b,off,ah⟩)) (.int kk j)).run P E.w = .ok (.pointer (U ⟨b,off+j.toNat*n,ah⟩)) E.w:=λb off kk j h0 h1=>by
  simp[Instr.indexAt,asIntOf,run_underlying ht,Instr.sureAddr,h0,h1,tL hn,rj]
 cases vx<;>try exact False.elim hk
 case ptr p off =>
  obtain⟨kk,j,rfl,h0,h1,hk⟩:=hk;simp only[R] at hi;cases p with
  | au q =>
   simp only[R] at hx;obtain⟨b,hb,h⟩:=hx;exact ey hs (by simp[execOp,ho,h,hi,run _ _ _ _ h0 h1];rfl) (by simp only[R];exact⟨b,hb,rfl⟩) hk
  | out b =>
   simp only[R] at hx;exact ey hs (by simp[execOp,ho,hx,hi,run _ _ _ _ h0 h1];rfl) (by simp only[R]) hk
  | nq b =>
   simp only[R] at hx;exact ey hs (by simp[execOp,ho,hx,hi,run _ _ _ _ h0 h1];rfl) (by simp only[R]) hk
 case elt c off =>
  obtain⟨kk,j,rfl,h0,h1,hk⟩:=hk;simp only[R] at hi hx;obtain⟨b,o',h,hr⟩:=hx;exact ey hs (by simp[execOp,ho,h,hi,run _ _ _ _ h0 h1];rfl) (by simp only[R];exact⟨b,o',by rw[Ca],hr⟩) hk
def axa(hs:bS E st a){i:Operand}{vi:V}(ho:o.op = .index t x i)(ht:P.underlying t=U .string)(hx:R E vx (a.eval x))(hi:R E vi (a.eval i))
 (hk:match (generalizing:=false) vx with | .aQ s=>∃k n c,vi = .int k n/\0<=n/\s[n.toNat]?=U c/\K (.int .u8 c.toNat) st | _=>False):o.wp P a E.w (fu E a o.dst K) Q:=by
 cases vx<;>try exact False.elim hk
 rename_i s;obtain⟨k,n,c,rfl,hn,hc,hk⟩:=hk;simp only[R] at hx hi;have az:=(kG.1 hc).1;have p7 : n<((⟨s.toArray⟩:ByteArray).size:Int):=by simp[ByteArray.size];omega
 refine ey hs (v:=.int .u8 c.toNat) (x:=.int .u8 c.toNat) ?_ (by simp only[R]) hk
 have:=run_index_string (P:=P) E.w t ⟨s.toArray⟩ k n ht
 rw[Ed ⟨hn,p7⟩] at this;simp only[execOp,ho,hx,hi,Sem.run_bind,this,Result.andThen_ok];have hg:(⟨s.toArray⟩:ByteArray)[n.toNat]'(by simp[ByteArray.size];exact az)=c:=(kG.1 hc).2;simp[hg]
end
def y_:Nat->Value->Value->Option Bool
 | 1,.int k a,.int k' b=>if k=k' then U (decide (a=b)) else ah
 | 2,.string a,.string b=>U (a.toList == b.toList)
 | 0,.bool a,.bool b=>U (a == b)
 | _,_,_=>ah
section
variable {P:Program} {w:World}
def ug(xs ys:Array Value):List (Nat × Nat)->Option Bool
 | []=>U aa
 | (j, k) :: js =>
  match xs[j]?,ys[j]? with
  | some x,U y=>(y_ k x y).bind λb=>(ug xs ys js).map (b&&·)
  | _,_=>ah
def Na{xs ys:Array Value}:∀{l m:List (Nat × Nat)} {b:Bool},ug xs ys (l++m)=U b->∃b1 b2,ug xs ys l=U b1/\ug xs ys m=U b2/\b=(b1&&b2)
 | [],m,b,h=>⟨aa,b,rfl,h,by simp⟩
 | (j, k) :: l, m, b, h => by
  simp only[gY,ug] at h ⊢;split at h
  .simp only[jH,ec] at h;obtain⟨c,h1,d,h2,rfl⟩:=h;obtain⟨b1,b2,k1,k2,rfl⟩:=Na h2;exact⟨c&&b1,b2,by simp[h1,k1],k2,by simp[LV]⟩
  .simp at h
def At(P:Program)(t:TypeId)(xs:Array Value)(off:Nat)(x:Value):Prop :=
 match jI P t with
 | some aa=>x = .agg (xs.extract off (off+P.cellsOf t))/\off+P.cellsOf t<=xs.size
 | some aq=>xs[off]?=U x
 | none=>False
def Ux{i:TypeInfo}(h:P.info? t=U i):P.cellsOf t=i.size:=by simp[Program.cellsOf,h]
variable{g:Bool}{off:Nat}
theorem Le{i:TypeInfo}(hi:P.info? u=U i){xs:Array Value}{o':Nat}(hle:o' + P.cellsOf u<=P.cellsOf t)(dE:off+P.cellsOf t<=xs.size)(hg:jI P u=U g)(iH:g=aq->P.cellsOf u=1):
 ∃y,(part u (xs.extract off (off+P.cellsOf t)) o').run P w = .ok y w/\At P u xs (off+o') y:=by
 have hs:(sizeOf u).run P w = .ok (P.cellsOf u) w:=by simp[sizeOf,typeInfo,hi,Ux hi]
 unfold At;rw[hg];cases g
 .have h1:=iH rfl;have az:off+o' < xs.size:=by omega
  refine⟨xs[off+o'],?_,by simp[az]⟩
  have:(xs.extract off (off+P.cellsOf t))[o']?=U xs[off+o']:=by grind
  simp[part,Fs hg,this]
 .refine⟨_,by simp[part,Fs hg,hs];rfl,?_,by omega⟩
  grind
theorem Z3{n:Nat}{pl:List (Nat × Nat)}(h:zX P n u off=U pl):∃i g,P.info? u=U i/\jI P u=U g/\(g=aq->P.cellsOf u=1):=by
 cases n with
 | zero=>simp[zX] at h
 | succ n =>
  simp only[zX] at h;split at h
  .rename_i i hi hu;split at h<;>simp at h;rename_i hc;exact⟨_,aq,hi,by simp[jI,hu],λ_=>hc⟩
  .rename_i i hi hu;split at h<;>simp at h;rename_i hc;exact⟨_,aq,hi,by simp[jI,hu],λ_=>hc⟩
  .rename_i i hi hu;split at h<;>simp at h;rename_i hc;exact⟨_,aq,hi,by simp[jI,hu],λ_=>hc⟩
  .rename_i i hi hu;exact⟨_,aa,hi,by simp[jI,hu],λh=>by simp at h⟩
  .rename_i i hi hu;exact⟨_,aa,hi,by simp[jI,hu],λh=>by simp at h⟩
  .grind
theorem arL:∀(n:Nat) (t:TypeId) (off:Nat) (pl:List (Nat × Nat)),zX P n t off=U pl->∀(d:Nat),n<=d->∀(xs ys:Array Value) (x y:Value),At P t xs off x->At P t ys off y ->
 ∀b,ug xs ys pl=U b->(Op.equalIn d t x y).run P w = .ok b w:=by
 intro n;induction n with
 | zero=>intro t off pl h;simp[zX] at h
 | succ n ih =>
  intro t off pl h d hd xs ys x y hx hy b hb;obtain⟨d,rfl⟩:∃d',d=d' + 1:=⟨d - 1,by omega⟩;have one:∀k,jI P t=U aq->pl=[(off,k)]->y_ k x y=U b:=λk hg hp=>by
   subst hp;unfold At at hx hy;rw[hg] at hx hy;have uD : xs[off]?=U x:=hx;have G8 : ys[off]?=U y:=hy;simp only[ug,uD,G8,jH,yX,bq] at hb;obtain⟨c,h1,h2⟩:=hb;rw[h1];simpa using h2
  simp only[zX] at h;split at h
  .rename_i i hi hu;split at h
   case isFalse=>simp at h
   simp only[bq] at h;have hc:=one 0 (by simp[jI,hu]) h.symm;unfold y_ at hc;split at hc<;>simp at *;subst hc;exact run_equalIn_bool w d t _ _ hu
  .rename_i i k hi hu;split at h
   case isFalse=>simp at h
   simp only[bq] at h;have hc:=one 1 (by simp[jI,hu]) h.symm;unfold y_ at hc;split at hc<;>simp at *;obtain⟨rfl,hc⟩:=hc;subst hc;exact run_equalIn_int w d t _ _ _ _ hu
  .rename_i i hi hu;split at h
   case isFalse=>simp at h
   simp only[bq] at h;have hc:=one 2 (by simp[jI,hu]) h.symm;unfold y_ at hc;split at hc<;>simp at *;subst hc;exact run_equalIn_string w d t _ _ hu
  .rename_i i fs hi hu;split at h
   .grind
   rename_i fM;unfold At at hx hy;have hg:jI P t=U true:=by simp[jI,hu]
   rw[hg] at hx hy;obtain⟨rfl,uE⟩:=hx;obtain⟨rfl,sx⟩:=hy;have zr:P.fieldsOf t=fs:=by simp[Program.fieldsOf,hu]
   rw[run_equalIn_struct w d t _ _ (by rw[zr];exact hu) (by simpa using fM),zr];clear hu zr fM;clear one;generalize fs.toList=l at h;revert b pl;induction l with
   | nil=>intro pl b hb h;simp[K0] at h;subst h;simp[ug] at hb;subst hb;simp[Op.eqFields]
   | cons f l Pe =>
    intro pl b hb h;simp only[K0] at h;split at h
    .grind
    rename_i hc;simp only[jH,ec] at h;obtain⟨p1,h1,p2,h2,rfl⟩:=h;obtain⟨b1,b2,e1,e2,rfl⟩:=Na hb;obtain⟨i',g,fL,um,mE⟩:=Z3 h1;have hn:f.name ≠ "_" := λe=>hc (.inl e)
    have hle:f.offset+P.cellsOf f.type<=P.cellsOf t:=by omega
    obtain⟨u,r1,a1⟩:=Le (P:=P) (w:=w) fL hle uE um mE;obtain⟨v,r2,a2⟩:=Le (P:=P) (w:=w) fL hle sx um mE;have r3:=ih f.type (off+f.offset) p1 h1 d (by omega) xs ys u v a1 a2 b1 e1;have r4:=Pe p2 b2 e2 h2;simp only[Op.eqFields,hn,tE,Fb,db,Sem.run_bind,r1,r2,r3,Result.andThen_ok];cases b1
    .simp
    .simpa using r4
  .rename_i i k e hi hu;split at h
   case h_2=>simp at h
   rename_i ie CG;unfold At at hx hy;have hg:jI P t=U true:=by simp[jI,hu]
   rw[hg] at hx hy;obtain⟨rfl,uE⟩:=hx;obtain⟨rfl,sx⟩:=hy;rw[run_equalIn_array w d _ _ hu CG];clear hu;clear one;generalize bH k=l at h;revert b pl;induction l with
   | nil=>intro pl b hb h;simp[K1] at h;subst h;simp[ug] at hb;subst hb;simp[Op.eqItems]
   | cons j l Pe =>
    intro pl b hb h;simp only[K1] at h;split at h
    .simp at h
    rename_i hc;simp only[jH,ec] at h;obtain⟨p1,h1,p2,h2,rfl⟩:=h;obtain⟨b1,b2,e1,e2,rfl⟩:=Na hb;obtain⟨i',g,fL,um,mE⟩:=Z3 h1;have hle:j*P.cellsOf e+P.cellsOf e<=P.cellsOf t:=by omega
    obtain⟨u,r1,a1⟩:=Le (P:=P) (w:=w) fL hle uE um mE;obtain⟨v,r2,a2⟩:=Le (P:=P) (w:=w) fL hle sx um mE;have r3:=ih e (off+j*P.cellsOf e) p1 h1 d (by omega) xs ys u v a1 a2 b1 e1;have r4:=Pe p2 b2 e2 h2;simp only[Op.eqItems,Sem.run_bind,r1,r2,r3,Result.andThen_ok];cases b1
    .simp
    .simpa using r4
  .simp at h
end
section
variable {P:Program} {E:Env} {st:St} {a:Act} {o:Oper} {K:V->St->Prop} {Q:Exit->Act->World->Prop}
def bool_beq(x y:Bool):(x == y)=decide (x=y):=by cases x<;>cases y<;>rfl
theorem Vx{xs ys:Array Value}:∀{ks:List Nat} {vx vy:List V} {us ws:List Value} {b:Bool} (pl:List (Nat × Nat)) (off:Nat),hZ ks vx vy=U b->RL E vx us->RL E vy ws ->
 (∀(j:Nat) u,us[j]?=U u->xs[off+j]?=U u)->(∀(j:Nat) u,ws[j]?=U u->ys[off+j]?=U u)->pl.map (·.2)=ks->pl.map (·.1)=List.range' off pl.length->ug xs ys pl=U b
 | [], vx, vy, us, ws, b, pl, off, h, hx, hy, h1, h2, h3, h4 => by
  have:pl=[]:=by simp_all
  subst this;cases vx<;>cases vy<;>simp[hZ] at h;subst h;simp[ug]
 | k :: ks, vx, vy, us, ws, b, pl, off, h, hx, hy, h1, h2, h3, h4 => by
  obtain⟨⟨j,k'⟩,pl,rfl⟩:∃p q,pl=p::q:=by cases pl with | nil=>simp at h3 | cons p q=>exact⟨p,q,rfl⟩
  simp only[cQ,mZ,da,Me] at h3 h4;obtain⟨rfl,h3⟩:=h3;obtain⟨rfl,h4⟩:=h4;have step:∀{x y:V} {Ss Su : List V} {c d:Bool},vx=x::Ss -> vy=y::Su -> (∀u v,R E x u->R E y v->y_ k' u v=U c)->hZ ks Ss Su = U d->b=(c&&d)->ug xs ys ((j,k')::pl)=U b :=
   λ{x y Ss Su c d} e1 e2 hc hd hb=>by
    subst e1;subst e2;cases us with
    | nil=>simp[RL] at hx
    | cons u us =>
     cases ws with
     | nil=>simp[RL] at hy
     | cons v ws =>
      simp only[RL] at hx hy;have hu:=h1 0 u (by simp);have hv:=h2 0 v (by simp);simp only[yS] at hu hv;have ih:=Vx (ks:=ks) (us:=us) (ws:=ws) pl (j+1) hd hx.2 hy.2 (λi u hu=>by rw[show j+1+i=j+(i+1) from by omega];exact h1 (i+1) u (by simpa using hu))
       (λi u hu=>by rw[show j+1+i=j+(i+1) from by omega];exact h2 (i+1) u (by simpa using hu)) h3 h4
      simp only[ug,hu,hv,hc u v hx.1 hy.1,ih,yU,yX,hb]
  unfold hZ at h;split at h
  .grind
  .rename_i hk;simp only[mZ] at hk;obtain⟨rfl,rfl⟩:=hk;split at h
   case isFalse=>simp at h
   rename_i fw;obtain rfl:=Pf fw;simp only[ec] at h;obtain⟨d,hd,rfl⟩:=h;exact step rfl rfl (λu v hu hv=>by simp only[R] at hu hv;subst hu;subst hv;simp[y_]) hd rfl
  .rename_i hk;simp only[mZ] at hk;obtain⟨rfl,rfl⟩:=hk;simp only[ec] at h;obtain⟨d,hd,rfl⟩:=h;exact step rfl rfl (λu v hu hv=>by simp only[R] at hu hv;subst hu;subst hv;simp[y_,YK]) hd rfl
  .rename_i hk;simp only[mZ] at hk;obtain⟨rfl,rfl⟩:=hk;simp only[ec] at h;obtain⟨d,hd,rfl⟩:=h;exact step rfl rfl (λu v hu hv=>by simp only[R] at hu hv;subst hu;subst hv;simp[y_,bool_beq]) hd rfl
  .grind
theorem Jd:∀{ks:List Nat} {vx vy:List V} {b:Bool},hZ ks vx vy=U b->vx.length=ks.length/\vy.length=ks.length
 | [],vx,vy,b,h=>by cases vx<;>cases vy<;>simp[hZ] at h;simp
 | k :: ks, vx, vy, b, h => by
  unfold hZ at h;split at h
  .grind
  .rename_i hk;simp only[mZ] at hk;obtain⟨rfl,rfl⟩:=hk;split at h
   case isFalse=>simp at h
   simp only[ec] at h;obtain⟨d,hd,_⟩:=h
   have:=Jd hd;simp[this]
  .rename_i hk;simp only[mZ] at hk;obtain⟨rfl,rfl⟩:=hk;simp only[ec] at h;obtain⟨d,hd,_⟩:=h
   have:=Jd hd;simp[this]
  .rename_i hk;simp only[mZ] at hk;obtain⟨rfl,rfl⟩:=hk;simp only[ec] at h;obtain⟨d,hd,_⟩:=h
   have:=Jd hd;simp[this]
  .grind
variable{t':TypeId}{vx vy:V}{y:Operand}
theorem LN(hs:bS E st a){neg:Bool}{op:BinOp}(nN:op=if neg then .neq else .eql){ks:List Nat}(ht:Q4 P t=U ks)(ho:o.op = .binOp op t x y t')
 (hg:jI P t=U aa) (hx:R E vx (a.eval x)) (hy:R E vy (a.eval y)) (hk:opt (AX neg ks vx vy) (K2 K st)):o.wp P a E.w (fu E a o.dst K) Q:=by
 unfold opt K2 at hk;split at hk
 case h_2=>exact hk.elim
 rename_i v hv;unfold AX at hv;split at hv
 case h_2=>simp at hv
 rename_i xs ys;simp only[ec] at hv;obtain⟨b,hb,rfl⟩:=hv;simp only[R] at hx hy;obtain⟨us,yc,XJ⟩:=hx;obtain⟨ws,XK,XL⟩:=hy;unfold Q4 at ht;split at ht
 case h_2=>simp at ht
 rename_i pl pk;split at ht
 case isFalse=>simp at ht
 rename_i hc;obtain⟨hr,td⟩:=hc;simp only[bq] at ht;have hlen:pl.length=P.cellsOf t:=by have:=mf List.length hr;simpa using this
 obtain⟨l1,l2⟩:=Jd hb;have ax1:ks.length=P.cellsOf t:=by grind
 have O9:us.size=P.cellsOf t:=by have:=iV XJ;simp at this;omega
 have CZ:ws.size=P.cellsOf t:=by have:=iV XL;simp at this;omega
 have dd:=Vx (E:=E) (xs:=us) (ys:=ws) pl 0 hb XJ XL (λj u hu=>by simpa using hu) (λj u hu=>by simpa using hu) ht (by rw[hr,hlen,DX]);have dz:∀(zs:Array Value),zs.size=P.cellsOf t->At P t zs 0 (.agg zs):=λzs hz=>by
  unfold At;rw[hg];exact⟨by rw[mc,<-hz,Array.extract_size],by omega⟩
 have e9:=arL (P:=P) (w:=E.w) 20 t 0 pl pk 10000 (by omega) us ws _ _ (dz us O9) (dz ws CZ) b dd;subst nN;cases neg
 .refine ey hs (x:=.bool b) ?_ (by simp[R]) hk;simp only[execOp,ho,yc,XK,dK,cz];simp only[Sem.run_bind,run_eqGuard_agg E.w _ t x y us ws td,Result.andThen_ok,run_eql_struct,e9,Sem.run_pure]
 .refine ey hs (x:=.bool (!b)) ?_ (by simp[R]) hk;simp only[execOp,ho,yc,XK,db];simp only[Sem.run_bind,run_eqGuard_agg E.w _ t x y us ws td,Result.andThen_ok,run_neq_struct,e9,Sem.run_pure]
variable{g:Bool}{i:Nat}
theorem aw9(hs:bS E st a){s:TypeId}{n:Nat}{fs:Array Field}{f:Field}(ho:o.op = .field s x i)(ht:P.underlying s=U (.struct fs))(hf:fs[i]?=U f)
 (hg:jI P f.type=U g) (hn:fR P f.type=U n) (hx:R E v (a.eval x)) (hk:match (generalizing:=false) v with | .agg cs=>opt (bP g n (cs.drop f.offset)) (K2 K st) | _=>False) :
 o.wp P a E.w (fu E a o.dst K) Q:=by
 cases v<;>try exact False.elim hk
 rename_i cs;simp only[opt,K2] at hk;simp only[R] at hx;obtain⟨vs,h,hr⟩:=hx;cases g with
 | false =>
  cases hd:cs.drop f.offset with
  | nil=>rw[hd] at hk;exact False.elim hk
  | cons c rest =>
   rw[hd] at hk;have hc:cs[f.offset]?=U c:=by
    have:=mf (·[0]?) hd
    grind
   obtain⟨u,h1,h2⟩:=vb hr f.offset c hc;have xX : vs[f.offset]?=U u:=by grind
   exact ey hs (v:=c) (x:=u) (by simp[execOp,ho,h,Instr.field,run_underlying ht,hf,asAgg,part,Fs hg,xX]) h2 hk
 | true =>
  cases hd:takeN n (cs.drop f.offset) with
  | none=>simp only[bP,hd,Option.map_none] at hk;
  | some ys =>
   simp only[bP,hd,yX] at hk;obtain⟨rfl,hle⟩:=Sf hd;refine ey hs (x:=.agg (vs.extract f.offset (f.offset+n))) (by simp[execOp,ho,h,Instr.field,run_underlying ht,hf,asAgg,part,Fs hg,tL hn]) ?_ hk;simp only[R];refine⟨_,rfl,?_⟩;have hl:=iV hr;refine IH ?_ λj y u h1 h2=>?_
   .grind
   .have hj:j<n:=by grind
    rw[Tg,aL hj,Ma] at h1;obtain⟨u',h3,h4⟩:=vb hr _ y h1
    grind
theorem V3:∀(l:List Value) (n off:Nat) (cells:Array Value),off+n+l.length<=cells.size ->
 ((l.zipIdx n).foldl (λcs (c,j)=>cs.setIfInBounds (off+j) c) cells).toList=cells.toList.take (off+n)++l++cells.toList.drop (off+n+l.length)
 | [],n,off,cells,h=>by simp
 | v :: l, n, off, cells, h => by
  simp only[da] at h;have ih:=V3 l (n+1) off (cells.setIfInBounds (off+n) v) (by simp;omega);simp only[List.zipIdx_cons,AA];rw[ih];have e:=list_seg_step cells.toList (off+n) v l (by simp;omega)
  grind
variable{off:Nat}
theorem VO{place:Nat->Option (Nat × Nat)}{cells:Array Value}{n:Nat}{v:Value}{rest:List (Nat × Value)}(hp:place i=U (off,n))(hv:v.cells.size=n)(zE:off+n<=cells.size):
 Instr.fill place cells ((i,v)::rest)=Instr.fill place (cells.toList.take off++v.cells.toList++cells.toList.drop (off+n)).toArray rest:=by
 have h:=V3 v.cells.toList 0 off cells (by simp;omega);have e:v.cells.zipIdx.foldl (λcs (c,j)=>cs.setIfInBounds (off+j) c) cells=(cells.toList.take off++v.cells.toList++cells.toList.drop (off+n)).toArray:=by
  apply Array.ext';rw[<-Array.foldl_toList,Array.toList_zipIdx,h]
  grind
 simp only[Instr.fill,hp,hv,tE,Dp,cX,yK]
 grind
theorem Nl(hs:RL E st.t a.tmps.toList){place:Nat->Option (Nat × TypeId)}{place' : Nat->Option (Nat × Nat)}(pk:∀i off t n,place i=U (off,t)->fR P t=U n->place' i=U (off,n)) :
 ∀{parts:List (Nat × Operand)} {ps:List (Nat × Nat × X)} {z cs:List V} {cells:Array Value},Dh P place parts=U ps->rl st z ps=U cs->RL E z cells.toList ->
 ∃rm,Instr.fill place' cells (parts.map λ(i,x)=>(i,a.eval x))=U rm /\ RL E cs rm.toList
 | [], ps, z, cs, cells, hp, hb, hz => by
  simp only[Dh,bq] at hp;subst hp;simp only[rl,bq] at hb;subst hb;exact⟨cells,by simp[Instr.fill],hz⟩
 | (i, x) :: parts, ps, z, cs, cells, hp, hb, hz => by
  simp only[Dh] at hp;split at hp
  case h_2=>simp at hp
  rename_i off t EG;split at hp
  case h_2=>simp at hp
  rename_i n y hn hy;split at hp
  .grind
  rename_i vG;simp only[ec] at hp;obtain⟨ps',mE,rfl⟩:=hp;simp only[rl] at hb;split at hb
  case isFalse=>simp at hb
  rename_i hc;have hx:=qa (E:=E) (st:=st) (a:=a) hs hy;obtain⟨h1,h2⟩:=AI hx hc.2;have hle:=N' hc.1;have hl:=iV hz;have OC:=iV h1;simp at hle hl OC;have zE:off+n<=cells.size:=by omega
  .have qK:RL E (setAt z off (ev st y).cells) (cells.toList.take off++(a.eval x).cells.toList++cells.toList.drop (off+n)):=by
    refine IH (by simp[R1];omega) λj u v h3 h4=>?_
    rw[R0 (by omega)] at h3;have zG:=Ll (c:=cells.toList) (vs:=(a.eval x).cells.toList) (off:=off) (by simp;omega) j;simp only[DP,h2] at zG;rw[zG] at h4
    by_cases k1:j<off
    .rw[aL k1] at h3 h4;obtain⟨v',k3,k4⟩:=vb hz j u h3
     grind
    .rw[aB k1] at h3 h4
     by_cases k2:j<off+n
     .rw[aL (by omega)] at h3;rw[aL k2] at h4;obtain⟨v',k3,k4⟩:=vb h1 _ u h3
      grind
     .rw[aB (by omega)] at h3;rw[aB k2] at h4;obtain⟨v',k3,k4⟩:=vb hz j u h3
      grind
   obtain⟨rm,k1,k2⟩:=Nl hs pk mE hb (cells:=(cells.toList.take off++(a.eval x).cells.toList++cells.toList.drop (off+n)).toArray) (by simpa using qK);refine⟨rm,?_,k2⟩;rw[cQ,VO (pk i off t n EG hn) h2 zE];exact k1
def Y0:∀(fs:List Field),fs.all (λf=>(P.info? f.type).isSome)=aa->∃places:List (Nat × Nat),fs.mapM (λf=>(P.info? f.type).map λi=>(f.offset,i.size))=U places /\
 ∀i:Nat,places[i]?=(fs[i]?).bind λf=>(P.info? f.type).map λi=>(f.offset,i.size)
 | [],_=>⟨[],by simp,λi=>by simp⟩
 | f :: fs, h => by
  simp only[yO,bO] at h;obtain⟨i,hi⟩:=Mn.1 h.1;obtain⟨places,h1,h2⟩:=Y0 fs h.2;refine⟨(f.offset,i.size)::places,by simp[hi,h1],λj=>?_⟩;cases j with
  | zero=>simp[hi]
  | succ j=>simp[h2]
variable{parts:Array (Nat × Operand)}{z:List V}
def wp_build(hs:bS E st a){ps:List (Nat × Nat × X)}(ho:o.op = .build t parts)(hz:mA P t=U z){place:Nat->Option (Nat × TypeId)}
 (pk:(∃fs,P.underlying t=U (.struct fs)/\fs.toList.all (λf=>(P.info? f.type).isSome)=aa/\place=λi=>(fs[i]?).map λf=>(f.offset,f.type)) \/
   ∃k e,P.underlying t=U (.array k e)/\(P.info? e).isSome=aa/\place=λi=>U (i*P.cellsOf e,e))
 (hp:Dh P place parts.toList=U ps) (hk:opt ((rl st z ps).map V.agg) (K2 K st)):o.wp P a E.w (fu E a o.dst K) Q:=by
 unfold opt K2 at hk;split at hk
 case h_2=>exact hk.elim
 rename_i v hv;simp only[ec] at hv;obtain⟨cs,hb,rfl⟩:=hv;obtain⟨i,zv,h1,h2,h3,_⟩:=yJ hz;have XN:RL E z zv.cells.toList:=xL h3;have key:∃rm,P.built t (parts.map λ(i,x)=>(i,a.eval x)).toList=U rm /\ RL E cs rm.toList:=by
  rcases pk with ⟨fs,hu,dd,rfl⟩ | ⟨k,e,hu,alX,rfl⟩
  .obtain⟨places,hm,hg⟩:=Y0 (P:=P) fs.toList dd;obtain⟨rm,k1,k2⟩:=Nl (P:=P) (st:=st) hs.slot (place' := λi=>places.toArray[i]?) (λi off t' n h hn=>by
    simp only[ec] at h;obtain⟨f,hf,h⟩:=h;simp only[tY] at h;obtain⟨rfl,rfl⟩:=h;simp only[adn,hg];unfold fR at hn;simp only[ec] at hn;obtain⟨i',fL,rfl⟩:=hn;simp[hf,fL]) hp hb XN
   exact⟨rm,by simpa [Program.built,h1,hu,h2,hm] using k1,k2⟩
  .obtain⟨ie,CG⟩:=Mn.1 alX;obtain⟨rm,k1,k2⟩:=Nl (P:=P) (st:=st) hs.slot (place' := λi=>U (i*ie.size,ie.size)) (λi off t' n h hn=>by
    simp only[bq,tY] at h;obtain⟨rfl,rfl⟩:=h;simp only[fR,CG,yX,bq] at hn;simp[Ux CG,hn]) hp hb XN
   exact⟨rm,by simpa [Program.built,h1,hu,h2,CG] using k1,k2⟩
 obtain⟨rm,k1,k2⟩:=key;refine ey hs (x:=.agg rm) ?_ (by simp only[R];exact⟨rm,rfl,k2⟩) hk
 have:=run_build (P:=P) E.w t _ _ k1
 simp only[execOp,ho,Sem.run_bind,this,Result.andThen_ok,Sem.run_pure]
theorem Nm{k:Nat}:∀(ps:List (Nat × Value)) (i0:Nat) (cells:Array Value),ps.map (·.1)=List.range' i0 ps.length->(∀p∈ps,p.2.cells.size=k)->cells.size=(i0+ps.length)*k ->
 Instr.fill (λi=>U (i*k,k)) cells ps=U (cells.toList.take (i0*k)++(ps.map λp=>p.2.cells.toList).flatten).toArray
 | [], i0, cells, _, _, dE => by
  simp only[Instr.fill,fp,FU,eC];rw[yQ (by simp at dE ⊢;omega)]
 | (i, v) :: ps, i0, cells, hm, dd, dE => by
  simp only[cQ,da,Me,mZ] at hm;obtain⟨rfl,hm⟩:=hm;simp only[gf] at dd;have ur:(i+(ps.length+1))*k=i*k+k+ps.length*k:=by grind
  simp only[da,ur] at dE;rw[VO (n:=k) rfl dd.1 (by omega)];have ih:=Nm ps (i+1) (cells.toList.take (i*k)++v.cells.toList++cells.toList.drop (i*k+k)).toArray hm dd.2 (by simp[dd.1,lH];omega);rw[ih];congr 2;simp only[cQ,lj,<-eY];congr 1;rw[show(i+1)*k=i*k+k from by rw[lH];omega]
  have:(cells.toList.take (i*k)++v.cells.toList).length=i*k+k:=by grind
  grind
theorem aaS(hs:RL E st.t a.tmps.toList){k:Nat}{e:TypeId}:∀{n:Nat} {xs:List Operand} {ys:List X} {l:List (List V)},kV P (aj n e) xs=U ys->mR st k ys=U l ->
 xs.length=n/\l.length=n/\(∀x∈xs,(a.eval x).cells.size=k)/\(∀y∈l,y.length=k)/\RL E.nl l.flatten (xs.map λx=>(a.eval x).cells.toList).flatten/\∀v∈(xs.map λx=>(a.eval x).cells.toList).flatten,v.oneCell' = aa
 | 0, [], ys, l, h1, h2 => by
  simp only[List.replicate_zero,kV,bq] at h1;subst h1;simp only[mR,bq] at h2;subst h2;simp[RL]
 | 0,_::_,ys,l,h1,h2=>by simp[kV] at h1
 | n+1,[],ys,l,h1,h2=>by simp[FZ,kV] at h1
 | n + 1, x :: xs, ys, l, h1, h2 => by
  simp only[FZ,kV,jH,ec] at h1;obtain⟨y,hy,ys',sx,rfl⟩:=h1;simp only[mR] at h2;split at h2
  case isFalse=>simp at h2
  rename_i hc;simp only[ec] at h2;obtain⟨l',jM,rfl⟩:=h2;obtain⟨k1,k2,k3,k4,k5,k6⟩:=aaS hs sx jM;have hx:=qa (E:=E) (st:=st) (a:=a) hs hy;obtain⟨r1,r2⟩:=AI hx hc.1;have r3:=RL.rI (E:=E) (E' := E.nl) _ (Env.le.refl E.nl) hc.2.1 r1;have r4:=Dr r1 hc.2.2;refine⟨by simp[k1],by simp[k2],?_,?_,?_,?_⟩
  .grind
  .simp only[gf];exact⟨by have:=iV r1;rw[VD];simp at this;omega,k4⟩
  .simp only[lj,cQ];exact y3 (RL.erase _ r3) k5
  .grind
theorem acM(hs:bS E st a){len:Nat}(ho:o.op = .buildSlice t len parts)(ht:P.underlying t=U (.slice e))(hn:fR P e=U k)(hz:mA P e=U z)
 (hr:parts.toList.map (·.1)=bH len) (dE:len*k<=16777216) {l:List (List V)}
 (hf:(parts.toList.map (·.2)).length=len/\l.length=len/\(∀x∈parts.toList.map (·.2),(a.eval x).cells.size=k)/\(∀y∈l,y.length=k)/\RL E.nl l.flatten ((parts.toList.map (·.2)).map λx=>(a.eval x).cells.toList).flatten/\∀v∈((parts.toList.map (·.2)).map λx=>(a.eval x).cells.toList).flatten,v.oneCell' = aa)
 (hk:K (V.sl .aY k l) st):o.wp P a E.w (fu E a o.dst K) Q:=by
 obtain⟨k1,k2,k3,k4,k5,k6⟩:=hf;obtain⟨i,zv,h1,h2,h3,h4⟩:=yJ hz;have hlen:parts.toList.length=len:=by grind
 let ps:List (Nat × Value):=parts.toList.map λ(i,x)=>(i,a.eval x)
 have OV:ps.map (·.1)=List.range' 0 ps.length:=by
  have:ps.map (·.1)=parts.toList.map (·.1):=by simp[ps,yL]
  rw[this,hr,DX]
  grind
 have amf:(ps.map λp=>p.2.cells.toList)=(parts.toList.map (·.2)).map λx=>(a.eval x).cells.toList:=by simp[ps,yL]
 have dd:∀p∈ps,p.2.cells.size=k:=λp hp=>by
  grind
 have pk:ps.length=len:=by grind
 have fill:∀cells:Array Value,cells.size=len*k->Instr.fill (λi=>U (i*k,k)) cells ps=U ((parts.toList.map (·.2)).map λx=>(a.eval x).cells.toList).flatten.toArray:=λcells hc=>by
  have:=Nm ps 0 cells OV dd (by rw[pk];simpa using hc)
  grind
 generalize zD:((parts.toList.map (·.2)).map λx=>(a.eval x).cells.toList).flatten=news at fill k5 k6;refine acP hs (w' := E.w.alloc (.cells news.toArray e)) (x:=.slice (U ⟨E.w.heap.size,0,ah⟩) len len) ((Ext.refl _).alloc _ _) ?_ ?_ hk
 .have mr:(zeroValue e).run P E.w = .ok zv E.w:=by simp[zeroValue,typeInfo,h1,h2]
  have G1:(parts.map λ(i,x)=>(i,a.eval x)).toList=ps:=by simp[ps]
  have Bm : ¬(16777216<len*k):=by omega
  simp only[execOp,ho,Sem.run_bind];have key:(Instr.buildSlice t len (parts.map λ(i,x)=>(i,a.eval x))).run P E.w = .ok (.slice (U ⟨E.w.heap.size,0,ah⟩) len len) (E.w.alloc (.cells news.toArray e)):=by
   unfold Instr.buildSlice;simp only[Sem.run_bind,run_underlying ht,Result.andThen_ok,tL hn];rw[aB (by simpa using Bm)];rw[G1]
   by_cases h0:len*k=0
   .rw[aL h0];simp only[Sem.run_bind,Sem.run_pure,Result.andThen_ok];rw[fill _ (by simp)];rfl
   .rw[aB h0];simp only[Sem.run_bind,mr,Result.andThen_ok,Sem.run_pure];rw[fill _ (by simp)];rfl
  simp_all
 .obtain⟨bC,_,_⟩:=H6 hs ((Ext.refl E.w).alloc news.toArray e);have vH:(E.w.alloc (.cells news.toArray e)).heap[E.w.heap.size]?=U (.cells (news++[]).toArray e (0,0)):=by simpa using heap_alloc_new E.w (.cells news.toArray e)
  simp only[R,k2];refine⟨U ⟨E.w.heap.size,0,ah⟩,len,rfl,bU _,.inr ⟨_,_,rfl,?_⟩,rfl⟩;exact IF (E' := {E with w:=E.w.alloc (.cells news.toArray e)}) k4 (RL.mono _ bC.nl k5) k6 vH (λj _=>by rw[show({E with w:=E.w.alloc (.cells news.toArray e)}:Env).bg E.w.heap.size = .const from hs.ok.fresh _ (bU _)];trivial)
def aw2(hs:bS E st a){len:Nat}{ys:List X}(ho:o.op = .buildSlice t len parts)(ht:P.underlying t=U (.slice e))(hn:fR P e=U k)(hz:mA P e=U z)
 (hl:kV P (aj len e) (parts.toList.map (·.2))=U ys) (hr:parts.toList.map (·.1)=bH len) (dE:len*k<=16777216)
 (hk:opt ((mR st k ys).map (V.sl .aY k)) (K2 K st)):o.wp P a E.w (fu E a o.dst K) Q:=by
 unfold opt K2 at hk;split at hk
 case h_2=>exact hk.elim
 rename_i v hv;simp only[ec] at hv;obtain⟨l,hb,rfl⟩:=hv;exact acM hs ho ht hn hz hr dE (aaS (E:=E) hs.slot hl hb) hk
theorem PV(hs:RL E st.t a.tmps.toList){k:Nat}{e:TypeId}:∀{n:Nat} {xs:List Operand} {ys:List X} {l:List (List V)},kV P (aj n e) xs=U ys->Br k (fi st ys)=U l ->
 xs.length=n/\l.length=n/\(∀x∈xs,(a.eval x).cells.size=k)/\(∀y∈l,y.length=k)/\RL E.nl l.flatten (xs.map λx=>(a.eval x).cells.toList).flatten/\∀v∈(xs.map λx=>(a.eval x).cells.toList).flatten,v.oneCell' = aa
 | 0, [], ys, l, h1, h2 => by
  simp only[List.replicate_zero,kV,bq] at h1;subst h1;simp only[fi,Br,bq] at h2;subst h2;simp[RL]
 | 0,_::_,ys,l,h1,h2=>by simp[kV] at h1
 | n+1,[],ys,l,h1,h2=>by simp[FZ,kV] at h1
 | n + 1, x :: xs, ys, l, h1, h2 => by
  simp only[FZ,kV,jH,ec] at h1;obtain⟨y,hy,ys',sx,rfl⟩:=h1;simp only[fi,Br] at h2;split at h2
  case isFalse=>simp at h2
  rename_i hc;simp only[ec] at h2;obtain⟨l',jM,rfl⟩:=h2;obtain⟨k1,k2,k3,k4,k5,k6⟩:=PV hs sx jM;have hx:=qa (E:=E) (st:=st) (a:=a) hs hy;obtain⟨r1,r2⟩:=AI hx hc.1;have r3:=RL.rI (E:=E) (E' := E.nl) _ (Env.le.refl E.nl) hc.2.1 r1;have r4:=Dr r1 hc.2.2;refine⟨by simp[k1],by simp[k2],?_,?_,?_,?_⟩
  .grind
  .simp only[gf];exact⟨by have:=iV r1;simp at this;omega,k4⟩
  .simp only[lj,cQ];exact y3 r3 k5
  .grind
end
section
variable {P:Program} {E:Env} {st:St} {a:Act} {o:Oper} {K:V->St->Prop} {Q:Exit->Act->World->Prop}
def Vm(s:List UInt8):(fS s).flatten=s.map λb=>V.int .u8 b.toNat:=by
 induction s with
 | nil=>rfl
 | cons b s ih=>simp only[fS,cQ,lj] at ih ⊢;rw[ih];rfl
def Ty{E:Env}:∀{s:List UInt8} {vs:List Value},RL E (s.map λb=>V.int .u8 b.toNat) vs->vs=(s.map λb=>(b.toNat:Int)).map (Value.int .u8)
 | [],[],_=>rfl
 | [],_::_,h=>by simp[RL] at h
 | _::_,[],h=>by simp[RL] at h
 | b :: s, v :: vs, h => by
  simp only[cQ,RL,R] at h;simp only[cQ];rw[h.1,Ty h.2]
def aaf:∀(s:List UInt8) (r:List UInt8),(s.map λb=>(b.toNat:Int)).foldl (λ(r:ByteArray) n=>r.push (UInt8.ofNat n.toNat)) ⟨r.toArray⟩=⟨(r++s).toArray⟩
 | [],r=>by simp
 | b :: s, r => by
  have e:(⟨r.toArray⟩:ByteArray).push (UInt8.ofNat ((b.toNat:Int)).toNat)=⟨(r++[b]).toArray⟩:=by
   apply ByteArray.ext;simp
  simp only[cQ,AA,e,aaf s (r++[b])];simp
def aw5(hs:bS E st a){src dst:TypeId}(ho:o.op = .convert src dst x)(h1:P.underlying src=U (.slice e))(h2:P.underlying dst=U .string)(h3:P.underlying e=U (.int .u8))(hx:R E v (a.eval x))
 (hk:∃t s,v = .sl t 1 (fS s)/\K (.aQ s) st):o.wp P a E.w (fu E a o.dst K) Q:=by
 obtain⟨t,s,rfl,hk⟩:=hk;simp only[R] at hx;obtain⟨base,cap,hv,_,nz,_⟩:=hx;refine ey hs (v:=.aQ s) (x:=.string ⟨s.toArray⟩) ?_ (by simp only[R]) hk;have key:(Conv.bytesToString (a.eval x)).run P E.w = .ok (.string ⟨s.toArray⟩) E.w:=by
  rw[hv]
  rcases nz with h | ⟨b,off,rfl,hr⟩
  .have J_:s=[]:=by simpa [fS] using h
   subst J_;cases base with
   | none=>simp[Conv.bytesToString];rfl
   | some ad =>
    rfl
  .obtain⟨_,h5⟩:=tZ.1 hr;obtain⟨vs,k1,k2,_,_⟩:=IE h5;rw[Vm] at k1;have e1:=Ty k1;have hl:vs.length=(fS s).length:=by rw[e1];simp[fS]
   have hc:=run_loadCells_list (P:=P) E.w ⟨b,off,ah⟩ vs (λj u hu=>by rw[rj];exact k2 j u hu);rw[hl,e1] at hc
   have:=run_bytesToString (P:=P) E.w ⟨b,off,ah⟩ (fS s).length cap _ hc
   rw[this];have hp:=aaf s [];simp only[gK] at hp;exact mf (λz=>Result.ok (Value.string z) E.w) hp
 rw[hv] at key;simp only[execOp,ho,Sem.run_bind,hv,run_convert_bytes_string E.w src dst e base _ cap h1 h3 h2,key,Result.andThen_ok,Sem.run_pure]
theorem ady{E:Env}{b o m n:Nat}(h:iC E k l b o)(ya:m<=n)(hn:n<=l.length):iC E k ((l.take n).drop m) b (o+m*k):=by
 obtain⟨h1,h2⟩:=tZ.1 h;refine tZ.2 ⟨λx hx=>h1 x (B' (List.mem_of_mem_drop hx)),?_⟩;have e:l=(l.take n).take m++((l.take n).drop m++l.drop n):=by rw[<-eY,u_,u_]
 rw[e,u0,u0,AG,AG] at h2;have hl:((l.take n).take m).flatten.length=m*k:=by
  rw[pP (λx hx=>h1 x (B' (B' hx)))]
  grind
 grind
def qO{E:Env}(hs:RL E st.t a.tmps.toList){x:Option Operand}{y:Option X}(h:p_ P t x=U y):
 (x=ah/\y=ah)\/∃u v,x=U u/\y=U v/\R E (ev st v) (a.eval u):=by
 cases x with
 | none=>simp only[p_,bq] at h;exact .inl ⟨rfl,h.symm⟩
 | some x =>
  simp only[p_,ec] at h;obtain⟨v,hv,rfl⟩:=h;exact .inr ⟨x,v,rfl,rfl,qa hs hv⟩
def xa{j:IntKind}{n y:Nat}{c:BoundsCode}(h:n<=y):(Instr.sliceBound (.int j n) y c).run P w = .ok n w:=by simp[Instr.sliceBound,asIntOf,h]
def Wc(hs:bS E st a){D:Nat}{v:Value}(ht:st.out.aS D=U l.length)(h:R E (.sl .aY k l) v):R E (.sl (.tk D) k l) v:=by
 simp only[R] at h ⊢;obtain⟨ad,cap,h1,h2,h3,h4⟩:=h;exact⟨ad,cap,h1,h2,h3,l.length,hs.ok.aS D _ ht,bU _,λ_=>.inl h4⟩
variable{fL qQ zP:Option X}{hi mx:Option Operand}{m:Nat}
theorem abi{lo:Option Operand}(hs:bS E st a)(h1:p_ P t lo=U zP)(h2:p_ P t hi=U fL)(h3:p_ P t mx=U qQ)(Bh:qQ.isSome=aa->fL.isSome=aa){len n M:Nat}
 (fX:match (generalizing:=false) zP with | none=>m=0 | some y=>∃j,ev st y = .int j m) (th:match (generalizing:=false) fL with | none=>n=len | some y=>∃j,ev st y = .int j n) (hM:match (generalizing:=false) qQ with | none=>M=cap | some y=>∃j,ev st y = .int j M)
 (ya:m<=n) (hnM:n<=M) (NW:M<=cap):(Instr.sliceBounds aa len cap (lo.map a.eval) (hi.map a.eval) (mx.map a.eval)).run P E.w = .ok (m,n,M) E.w:=by
 have e1:∀c,(match (lo.map a.eval:Option Value) with | some v=>Instr.sliceBound v n c | none=>pure 0:Sem Nat).run P E.w = .ok m E.w:=λc=>by
  rcases qO (E:=E) hs.slot h1 with ⟨rfl,rfl⟩ | ⟨u,v,rfl,rfl,hr⟩
  .simp_all
  .obtain⟨j,hj⟩:=fX;rw[hj] at hr;simp only[R] at hr;simp only[yX,hr];exact xa ya
 rcases qO (E:=E) hs.slot h3 with ⟨rfl,rfl⟩ | ⟨u3,v3,rfl,rfl,CR⟩
 .simp only at hM;subst hM
  rcases qO (E:=E) hs.slot h2 with ⟨rfl,rfl⟩ | ⟨u,v,rfl,rfl,hr⟩
  .simp only at th;subst th
   have:=e1 .sliceB
   rcases qO (E:=E) hs.slot h1 with ⟨rfl,rfl⟩ | ⟨u',v',rfl,rfl,dt⟩<;>simp[Instr.sliceBounds] at this ⊢
   .omega
   .simp[this]
  .obtain⟨j,hj⟩:=th;rw[hj] at hr;simp only[R] at hr
   have:=e1 .sliceB
   have e2:=xa (P:=P) (w:=E.w) (j:=j) (c:=.sliceAcap) (show n<=M by omega)
   rcases qO (E:=E) hs.slot h1 with ⟨rfl,rfl⟩ | ⟨u',v',rfl,rfl,dt⟩<;>simp[Instr.sliceBounds,hr,e2] at this ⊢
   .omega
   .simp[this]
 .obtain⟨j3,EC⟩:=hM;rw[EC] at CR;simp only[R] at CR;have e3:=xa (P:=P) (w:=E.w) (j:=j3) (c:=.slice3Acap) NW
  rcases qO (E:=E) hs.slot h2 with ⟨rfl,rfl⟩ | ⟨u,v,rfl,rfl,hr⟩
  .grind
  .obtain⟨j,hj⟩:=th;rw[hj] at hr;simp only[R] at hr
   have:=e1 .slice3C
   have e2:=xa (P:=P) (w:=E.w) (j:=j) (c:=.slice3B) hnM
   rcases qO (E:=E) hs.slot h1 with ⟨rfl,rfl⟩ | ⟨u',v',rfl,rfl,dt⟩<;>simp[Instr.sliceBounds,hr,CR,e2,e3] at this ⊢
   .omega
   .simp[this]
variable{vx:V}
theorem axj(hs:bS E st a){lo:Option Operand}(ho:o.op = .slice t x lo hi mx)(ht:P.underlying t=U (.slice e))(hn:fR P e=U k)
 (hx:R E vx (a.eval x)) (h1:p_ P t lo=U zP) (h2:p_ P t hi=U fL) (h3:p_ P t mx=U qQ) (Bh:qQ.isSome=aa->fL.isSome=aa)
 (hk:∃t l m n,vx = .sl t k l/\m<=n/\n<=l.length/\(match (generalizing:=false) zP with | none=>m=0 | some y=>∃j,ev st y = .int j m)/\(match (generalizing:=false) fL with | none=>n=l.length | some y=>∃j,ev st y = .int j n) /\
   match (generalizing:=false) qQ with
   | none=>K (.sl .no k ((l.take n).drop m)) st
   | some y=>(∃j,ev st y = .int j n)/\K (.sl .aY k ((l.take n).drop m)) st):o.wp P a E.w (fu E a o.dst K) Q:=by
 obtain⟨tk,l,m,n,rfl,ya,wJ,fX,th,hk⟩:=hk;simp only[R] at hx;obtain⟨base,cap,hv,Cy,nz,_⟩:=hx;have key:∀M:Nat,n<=M->M<=cap->(qQ = ah->M=cap)->(qQ.isSome=aa->M=n)->(Instr.sliceBounds aa l.length cap (lo.map a.eval) (hi.map a.eval) (mx.map a.eval)).run P E.w = .ok (m,n,M) E.w:=λM hM NW hM1 hM2=>by
  have e1:∀c,(match (lo.map a.eval:Option Value) with | some v=>Instr.sliceBound v n c | none=>pure 0:Sem Nat).run P E.w = .ok m E.w:=λc=>by
   rcases qO (E:=E) hs.slot h1 with ⟨rfl,rfl⟩ | ⟨u,v,rfl,rfl,hr⟩
   .simp_all
   .obtain⟨j,hj⟩:=fX;rw[hj] at hr;simp only[R] at hr;simp only[yX,hr];exact xa ya
  rcases qO (E:=E) hs.slot h3 with ⟨rfl,rfl⟩ | ⟨u3,v3,rfl,rfl,CR⟩
  .obtain rfl:=hM1 rfl
   rcases qO (E:=E) hs.slot h2 with ⟨rfl,rfl⟩ | ⟨u,v,rfl,rfl,hr⟩
   .simp only at th;subst th
    have:=e1 .sliceB
    rcases qO (E:=E) hs.slot h1 with ⟨rfl,rfl⟩ | ⟨u',v',rfl,rfl,dt⟩<;>simp[Instr.sliceBounds] at this ⊢
    .omega
    .simp[this]
   .obtain⟨j,hj⟩:=th;rw[hj] at hr;simp only[R] at hr
    have:=e1 .sliceB
    have e2:=xa (P:=P) (w:=E.w) (j:=j) (c:=.sliceAcap) (show n<=M by omega)
    rcases qO (E:=E) hs.slot h1 with ⟨rfl,rfl⟩ | ⟨u',v',rfl,rfl,dt⟩<;>simp[Instr.sliceBounds,hr,e2] at this ⊢
    .omega
    .simp[this]
  .obtain rfl:=hM2 rfl;simp only at hk;obtain⟨⟨j3,EC⟩,hk⟩:=hk;rw[EC] at CR;simp only[R] at CR;have e3:=xa (P:=P) (w:=E.w) (j:=j3) (c:=.slice3Acap) NW
   rcases qO (E:=E) hs.slot h2 with ⟨rfl,rfl⟩ | ⟨u,v,rfl,rfl,hr⟩
   .grind
   .obtain⟨j,hj⟩:=th;rw[hj] at hr;simp only[R] at hr
    have:=e1 .slice3C
    have e2:=xa (P:=P) (w:=E.w) (j:=j) (c:=.slice3B) (bU M)
    rcases qO (E:=E) hs.slot h1 with ⟨rfl,rfl⟩ | ⟨u',v',rfl,rfl,dt⟩<;>simp[Instr.sliceBounds,hr,CR,e2,e3] at this ⊢
    .omega
    .simp[this]
 have run:∀M:Nat,n<=M->M<=cap->(qQ = ah->M=cap)->(qQ.isSome=aa->M=n)->(execOp a.eval o).run P E.w = .ok (.value (.slice (if M=m then base else base.map (·.add (m*k))) (n - m) (M - m))) E.w:=λM h1 h2 h3 h4=>by
  simp only[execOp,ho,Sem.run_bind,hv];simp[Instr.sliceAt,run_underlying ht,Instr.slice,key M h1 h2 h3 h4,tL hn]
 have val:∀M gz,n<=M->M<=cap->(gz = Tk.no\/(gz = Tk.aY/\M=n))->R E (.sl gz k ((l.take n).drop m)) (.slice (if M=m then base else base.map (·.add (m*k))) (n - m) (M - m)):=λM gz h1 h2 h3=>by
  have hlen:((l.take n).drop m).length=n - m:=by grind
  simp only[R,hlen];refine⟨_,_,rfl,by omega,?_,?_⟩
  .rcases Cb m n with az | vB
   .right
    rcases nz with h | ⟨b,off,rfl,hr⟩
    .grind
    .refine⟨b,off+m*k,?_,ady hr ya wJ⟩;rw[aB (by omega)];simp[rj]
   .grind
  .rcases h3 with rfl | ⟨rfl,rfl⟩
   .trivial
   .rfl
 cases qQ with
 | none=>exact ey hs (run cap (by omega) (bU _) (λ_=>rfl) (λh=>by simp at h)) (val cap .no (by omega) (bU _) (.inl rfl)) hk
 | some y=>exact ey hs (run n (bU _) (by omega) (λh=>by simp at h) (λ_=>rfl)) (val n .aY (bU _) (by omega) (.inr ⟨rfl,rfl⟩)) hk.2
theorem axi(hs:bS E st a){lo:Option Operand}(ho:o.op = .slice t x lo hi ah)(ht:P.underlying t=U .string)
 (hx:R E vx (a.eval x)) (h1:p_ P t lo=U zP) (h2:p_ P t hi=U fL)
 (hk:∃s m n,vx = .aQ s/\m<=n/\n<=s.length/\(match (generalizing:=false) zP with | none=>m=0 | some y=>∃j,ev st y = .int j m)/\(match (generalizing:=false) fL with | none=>n=s.length | some y=>∃j,ev st y = .int j n)/\K (.aQ ((s.take n).drop m)) st) :
 o.wp P a E.w (fu E a o.dst K) Q:=by
 obtain⟨s,m,n,rfl,ya,wJ,fX,th,hk⟩:=hk;simp only[R] at hx;have dE:(⟨s.toArray⟩:ByteArray).size=s.length:=by rfl
 have key:(Instr.sliceBounds aq s.length s.length (lo.map a.eval) (hi.map a.eval) ah).run P E.w = .ok (m,n,s.length) E.w:=by
  rcases qO (E:=E) hs.slot h2 with ⟨rfl,rfl⟩ | ⟨u,v,rfl,rfl,hr⟩
  .simp only at th;subst th
   rcases qO (E:=E) hs.slot h1 with ⟨rfl,rfl⟩ | ⟨u',v',rfl,rfl,dt⟩
   .simp only at fX;subst fX;simp[Instr.sliceBounds]
   .obtain⟨j',nJ⟩:=fX;rw[nJ] at dt;simp only[R] at dt;have e2:=xa (P:=P) (w:=E.w) (j:=j') (c:=.sliceB) ya;simp[Instr.sliceBounds,dt,e2]
  .obtain⟨j,hj⟩:=th;rw[hj] at hr;simp only[R] at hr;have e2:=xa (P:=P) (w:=E.w) (j:=j) (c:=.sliceAlen) wJ
   rcases qO (E:=E) hs.slot h1 with ⟨rfl,rfl⟩ | ⟨u',v',rfl,rfl,dt⟩
   .simp only at fX;subst fX;simp[Instr.sliceBounds,hr,e2]
   .obtain⟨j',nJ⟩:=fX;rw[nJ] at dt;simp only[R] at dt;have e3:=xa (P:=P) (w:=E.w) (j:=j') (c:=.sliceB) ya;simp[Instr.sliceBounds,hr,dt,e2,e3]
 refine ey hs (v:=.aQ ((s.take n).drop m)) (x:=.string ⟨((s.take n).drop m).toArray⟩) ?_ (by simp only[R]) hk;have he:(⟨s.toArray⟩:ByteArray).extract m n=⟨((s.take n).drop m).toArray⟩:=by
  apply ByteArray.ext;rw[ByteArray.data_extract]
  grind
 simp only[execOp,ho,Sem.run_bind,hx];simp[Instr.sliceAt,run_underlying ht,Instr.slice,dE,key,he]
theorem auV(hu:P.underlying u=U .string)(s:List UInt8):
 ∃news,Src P w 1 (fS s).length u (.string ⟨s.toArray⟩) news/\RL E (fS s).flatten news/\(∀v∈news,v.oneCell' = aa)/\∀y∈fS s,y.length=1:=by
 have dE:(⟨s.toArray⟩:ByteArray).size=s.length:=by rfl
 have hx:((⟨s.toArray⟩:ByteArray).extract 0 s.length).data.map (λb:UInt8=>Value.int .u8 (b.toNat:Int))=(s.map λb:UInt8=>Value.int .u8 (b.toNat:Int)).toArray:=by simp
 refine⟨s.map λb=>Value.int .u8 b.toNat,⟨⟨_,hu,λ_ h=>by simp at h⟩,λw' => by simp[Builtin.lenOf,dE,fS],?_,?_,by simp[fS]⟩,?_,?_,?_⟩
 .simp only[Builtin.firstCells,fS,aF,hx,Sem.run_pure]
 .simp only[Builtin.firstCells,fS,aF,hx,Sem.run_pure]
 .rw[Vm];induction s with
  | nil=>simp[RL]
  | cons b s ih=>simp only[cQ,RL,R];exact⟨trivial,by
   clear dE hx ih;induction s with
   | nil=>simp[RL]
   | cons c s ih=>simp only[cQ,RL,R];exact⟨trivial,ih⟩⟩
 .intro v hv;simp only[AE] at hv;obtain⟨b,_,rfl⟩:=hv;rfl
 .intro y hy;simp only[fS,AE] at hy
  grind
theorem Hv{ao:a_}(hl:Bw P o=U ao)(hs:bS E st a)(h:ao.bN P st K):o.wp P a E.w (fu E a o.dst K) Q:=by
 have X:=λ{t:TypeId} {x:Operand} {y:X} (hx:dB P t x=U y)=>qa (E:=E) (st:=st) (a:=a) hs.slot hx
 have XS:=λ{ts:List TypeId} {xs:List Operand} {ys:List Go.Am.X} (hx:kV P ts xs=U ys)=>YU (E:=E) (st:=st) (a:=a) hs.slot hx
 unfold Bw at hl;split at hl
 .rename_i x ho;simp only[ec] at hl;obtain⟨y,hy,rfl⟩:=hl;exact acQ hs (.inl ho) (X hy) h
 .rename_i x ho;simp only[ec] at hl;obtain⟨y,hy,rfl⟩:=hl;exact acQ hs (.inr ho) (X hy) h
 .rename_i c x y ho;split at hl
  case h_2=>simp at hl
  rename_i h1 h2 h3;simp only[bq] at hl;subst hl;exact axh hs ho (X h1) (X h2) (X h3) h
 .rename_i t ho;simp only[ec] at hl;obtain⟨z,hz,rfl⟩:=hl;exact awV hs ho hz h
 .rename_i t x ho;split at hl
  case h_2=>simp at hl
  rename_i h1 h2;simp only[bq] at hl;subst hl;exact aw0 hs ho (X h2) h.1 h.2
 .rename_i t ps ho;split at hl
  .rename_i z fs hz hu;split at hl
   case isFalse=>simp at hl
   rename_i dd;simp only[ec] at hl;obtain⟨ps',hp,rfl⟩:=hl;exact wp_build hs ho hz (.inl ⟨fs,hu,dd,rfl⟩) hp h
  .rename_i z k e hz hu;split at hl
   case isFalse=>simp at hl
   rename_i dd;simp only[ec] at hl;obtain⟨ps',hp,rfl⟩:=hl;exact wp_build hs ho hz (.inr ⟨k,e,hu,dd,rfl⟩) hp h
  .grind
 .rename_i t len ps ho;split at hl
  case h_2=>simp at hl
  rename_i e hu;split at hl
  case h_2=>simp at hl
  rename_i k z xs h1 h2 h3;split at hl
  case isFalse=>simp at hl
  rename_i hc;simp only[bq] at hl;subst hl;exact aw2 hs ho hu h1 h2 h3 hc.1 hc.2.1 h
 .rename_i t x ho;split at hl
  case h_2=>simp at hl
  rename_i h1 h2 h3;simp only[bq] at hl;subst hl;exact axd hs ho h1 h2 (X h3) h
 .rename_i t x y ho;split at hl
  case h_2=>simp at hl
  rename_i n ax ay h1 h2 h3;split at hl
  .grind
  rename_i vG;simp only[bq] at hl;subst hl;simp only[a_.bN] at h;split at h
  case h_2=>exact h.elim
  rename_i aV fM;exact acU hs (Nat.pos_of_ne_zero vG) ho h1 (X h2) (X h3) fM h
 .rename_i x ho;simp only[ec] at hl;obtain⟨y,hy,rfl⟩:=hl;exact axf hs ho (X hy) h
 .rename_i op t x y t' ho;split at hl
  case h_2=>simp at hl
  rename_i ax ay h1 h2;split at hl
  .simp only[bq] at hl;subst hl;exact awY hs ho (X h1) (X h2) h
  .split at hl
   .simp only[bq] at hl;subst hl;exact aw4 hs ho (X h1) (X h2) h
   .simp only[bq] at hl;subst hl;exact awZ hs ho (X h1) (X h2) h
  .rename_i hu;split at hl
   .simp only[bq] at hl;subst hl;exact acL hs (neg:=false) rfl hu ho (X h1) (X h2) h
   .simp only[bq] at hl;subst hl;exact acL hs (neg:=true) rfl hu ho (X h1) (X h2) h
   .grind
  .rename_i fs hu;split at hl
   case h_2=>simp at hl
   rename_i ks fT;split at hl
   .simp only[bq] at hl;subst hl;exact LN hs (neg:=false) rfl fT ho (by simp[jI,hu]) (X h1) (X h2) h
   .simp only[bq] at hl;subst hl;exact LN hs (neg:=true) rfl fT ho (by simp[jI,hu]) (X h1) (X h2) h
   .grind
  .rename_i fs e hu;split at hl
   case h_2=>simp at hl
   rename_i ks fT;split at hl
   .simp only[bq] at hl;subst hl;exact LN hs (neg:=false) rfl fT ho (by simp[jI,hu]) (X h1) (X h2) h
   .simp only[bq] at hl;subst hl;exact LN hs (neg:=true) rfl fT ho (by simp[jI,hu]) (X h1) (X h2) h
   .grind
  .grind
 .rename_i t x ho;simp only[ec] at hl;obtain⟨y,hy,rfl⟩:=hl;exact axg hs ho (X hy) h
 .rename_i src dst x ho;split at hl
  .rename_i h1 h2 h3;simp only[bq] at hl;subst hl;exact aw6 hs ho h1 h2 (X h3) h
  .rename_i h1 h2 h3;split at hl
   case h_2=>simp at hl
   rename_i h4;simp only[bq] at hl;subst hl;exact aw5 hs ho h1 h2 h4 (X h3) h
  .grind
 .rename_i f first cap ho
  split at hl
  case h_2=>simp at hl
  rename_i h1 h2;simp only[bq] at hl;subst hl;exact axe hs ho (XS h1) (XS h2) h
 .rename_i t x lo hi mx ho;split at hl
  case h_2=>simp at hl
  rename_i h1 h2 h3 h4;split at hl
  .rename_i e hu;split at hl
   case h_2=>simp at hl
   rename_i k hk;split at hl
   case isFalse=>simp at hl
   rename_i Bh;simp only[bq] at hl;subst hl;simp only[a_.bN] at h
   rcases h with h | ⟨base,n,cap,m,hh,e1,k1,k2,g1,g2,g3,hK⟩
   .exact axj hs ho hu hk (X h1) h2 h3 h4 Bh h
   .have p8:=X h1;rw[e1] at p8;simp only[R] at p8;rename_i qQ _ _;have g3:qQ = none:=by cases qQ with | none=>rfl | some _=>simp at g3
    subst g3;have hb:=abi (P:=P) (M:=cap) hs h2 h3 h4 Bh g1 g2 rfl k1 k2 (bU _);refine ey hs (v:=.raw _) (x:=.slice (if cap=m then base else base.map (·.add (m*k))) (hh - m) (cap - m)) ?_ (by simp only[R]) hK;simp only[execOp,ho,Sem.run_bind,p8];simp[Instr.sliceAt,run_underlying hu,Instr.slice,hb,tL hk]
  .rename_i hu;split at hl
   case h_2=>simp at hl
   simp only[bq] at hl;subst hl;have Bh:mx=none:=by cases mx with | none=>rfl | some m=>simp[p_] at h4
   subst Bh;exact axi hs ho hu (X h1) h2 h3 h
  .grind
 .rename_i s x i ho;split at hl
  case h_2=>simp at hl
  rename_i fs y h1 h2;split at hl
  case h_2=>simp at hl
  rename_i f hf;split at hl
  case h_2=>simp at hl
  rename_i n hn;split at hl
  .grind
  rename_i vG;simp only[bq] at hl;subst hl;exact aw8 hs ho h1 hf hn vG (X h2) h
 .rename_i s x i ho;split at hl
  case h_2=>simp at hl
  rename_i fs y h1 h2;split at hl
  case h_2=>simp at hl
  rename_i f hf;split at hl
  case h_2=>simp at hl
  rename_i g n hg hn;simp only[bq] at hl;subst hl;exact aw9 hs ho h1 hf hg hn (X h2) h
 .rename_i t x i ho;split at hl
  case h_3=>simp at hl
  case h_1 =>
   rename_i e ax ai h1 h2 h3;simp only[ec] at hl;obtain⟨k,hk,rfl⟩:=hl;exact aw_ hs ho h1 hk (X h2) (X h3) h
  case h_2 =>
   rename_i m e ax ai h1 h2 h3;simp only[ec] at hl;obtain⟨k,hk,rfl⟩:=hl;exact aw' hs ho h1 hk (X h2) (X h3) h
 .rename_i t x i ho;split at hl
  case h_2=>simp at hl
  rename_i ax ai h1 h2 h3;simp only[bq] at hl;subst hl;exact axa hs ho h1 (X h2) (X h3) h
 .rename_i x i ho;simp only[ec] at hl;obtain⟨y,hy,rfl⟩:=hl;exact aw7 hs ho (X hy) h
 .rename_i c ho;obtain⟨callee,args,argTypes⟩:=c;simp only at hl;split at hl
  .rename_i f;simp only[ec] at hl;obtain⟨ys,sx,rfl⟩:=hl;refine acN hs (vs:=args.map a.eval) (by simpa using XS sx) h.1 h.2 ?_;simp[execOp,ho,resolve,Act.eval,Deferred.ofValue,invoke]
  .rename_i x;split at hl
   case h_2=>simp at hl
   rename_i y ys h1 h2;simp only[bq] at hl;subst hl;have hx:=X h1;simp only[a_.bN] at h;split at h
   case h_2=>exact h.elim
   rename_i f as bs Ot;rw[Ot] at hx;simp only[R] at hx;obtain⟨fs,cs,he,r1,r2⟩:=hx;refine acN hs (vs:=fs++args.map a.eval++cs) (by simpa using y3 (y3 r1 (XS h2)) r2) h.1 h.2 ?_;simp[execOp,ho,resolve,he,Deferred.ofValue,invoke]
  .split at hl
   case h_2=>simp at hl
   rename_i t x ht hx;have e1:argTypes=#[t]:=by cases argTypes;simpa using ht
   have e2:args=#[x]:=by cases args;simpa using hx
   subst e1;subst e2;split at hl
   .rename_i e y hu hy;simp only[bq] at hl;subst hl;exact axb hs ho hu (X hy) h
   .rename_i y hu hy;simp only[bq] at hl;subst hl;exact axc hs ho hu (X hy) h
   .grind
  .split at hl
   case h_2=>simp at hl
   rename_i t u s x ht hx;have e1:argTypes=#[t,u]:=by cases argTypes;simpa using ht
   have e2:args=#[s,x]:=by cases args;simpa using hx
   subst e1;subst e2;have e9:(execOp a.eval o).run P E.w=((Builtin.append_ #[t,u] o.type #[a.eval s,a.eval x]).run P E.w).andThen λv w' => .ok (.value v) w' := by simp[execOp,ho,resolve,invoke,builtin]
   split at hl
   .rename_i e e' ys yx h1 h2 h3 h4;split at hl
    case h_2=>simp at hl
    rename_i i z hi hz;split at hl
    case isFalse=>simp at hl
    rename_i hc;obtain⟨rfl,sc,iH⟩:=hc;simp only[bq] at hl;subst hl;obtain⟨i',zv,k1,k2,k3,k4⟩:=yJ hz;rw[hi] at k1;simp only[bq] at k1;subst k1;have mr:zv.cells.size=i.size:=by have:=iV (xL (E:=E) k3);simp at this;omega
    simp only[a_.bN,sR] at h;obtain⟨tk,l,m,es,⟨t',ex⟩,jL,hk⟩:=h;have hS:=X h3;have hX:=X h4;rw[es] at hS;rw[ex] at hX;obtain⟨news,q1,q2,q3,q4⟩:=R9 (P:=P) h2 hX;cases tk with
    | no=>exact hk.elim
    | tk D=>exact Io hs h1 hi k2 mr sc e9 hS q1 q2 q3 q4 jL hk
    | aY =>
     rcases hk with hk | hk | ⟨D,h5,h6⟩
     .exact Io hs h1 hi k2 mr sc e9 hS q1 q2 q3 q4 jL (.inl hk)
     .exact Io hs h1 hi k2 mr sc e9 hS q1 q2 q3 q4 jL (.inr hk)
     .exact Io hs h1 hi k2 mr sc e9 (tk:=.tk D) (Wc hs h5 hS) q1 q2 q3 q4 jL ⟨h5,h6⟩
   .rename_i e ys yx h1 h2 h3 h4;split at hl
    case h_2=>simp at hl
    rename_i i z hi hz;split at hl
    case h_2=>simp at hl
    split at hl
    case isFalse=>simp at hl
    rename_i hc;simp only[bq] at hl;subst hl;obtain⟨i',zv,k1,k2,k3,k4⟩:=yJ hz;rw[hi] at k1;simp only[bq] at k1;subst k1;have mr:zv.cells.size=i.size:=by have:=iV (xL (E:=E) k3);simp at this;omega
    simp only[a_.bN,sR] at h;obtain⟨s',ex,tk,l,m,es,⟨t',em⟩,jL,hk⟩:=h;simp only[V.sl.injEq,qq] at em;obtain⟨_,rfl⟩:=em;have hS:=X h3;have hX:=X h4;rw[es] at hS;rw[ex] at hX;simp only[R] at hX;obtain⟨news,q1,q2,q3,q4⟩:=auV (P:=P) (E:=E.nl) (w:=E.w) h2 s';have Jy:i.size=1:=hc.1;have fin:∀tk,R E (.sl tk 1 l) (a.eval s)->(match (generalizing:=false) tk with
     | .aY=>(∀D,st.out.aS D=ah->K (.sl (.tk D) 1 (l++fS s')) ⟨st.t,st.au,st.out.aU D (l.length+(fS s').length)⟩)\/K (.sl .no 1 (l++fS s')) st
     | .tk D=>st.out.aS D=U l.length/\K (.sl (.tk D) 1 (l++fS s')) ⟨st.t,st.au,st.out.aU D (l.length+(fS s').length)⟩
     | .no=>False)->o.wp P a E.w (fu E a o.dst K) Q:=λtk hS hk=>by
     refine Io hs h1 hi k2 mr (by omega) e9 (tk:=tk) (l:=l) (m:=fS s') (news:=news) (by rw[Jy];exact hS) (by rw[Jy,hX];exact q1) q2 q3 (by rw[Jy];exact q4) jL ?_;rw[Jy];exact hk
    cases tk with
    | no=>exact hk.elim
    | tk D=>exact fin _ hS hk
    | aY =>
     rcases hk with hk | hk | ⟨D,h5,h6⟩
     .exact fin _ hS (.inl hk)
     .exact fin _ hS (.inr hk)
     .exact fin (.tk D) (Wc hs h5 hS) ⟨h5,h6⟩
   .simp at hl
  .simp at hl
 .simp at hl
end
def X.slot:X->List Nat
 | .s n=>[n]
 | .c _=>[]
def vX:Option X->List X
 | none=>[]
 | some x=>[x]
def a_.xs:a_->List X
 | .mv x | .box _ x | .xI _ x | .xH _ x | .load _ _ x | .ym x | .not x | .yj x | .yk x | .rq _ x | .xU _ _ _ x | .ext x _ | .zb _ x | .AS x=>[x]
 | .pick c a b=>[c,a,b]
 | .alloc _ | .y5 _=>[]
 | .build _ ps=>ps.map (·.2.2)
 | .pd _ xs | .call _ xs | .own _ xs=>xs
 | .store _ a x | .qB _ a x | .vg _ a x | .xG _ a x | .cat a x | .lr _ _ a x | .wz _ a x | .vP _ a x | .yg a x | .yf _ _ a x | .app _ a x | .xC a x=>[a,x]
 | .xJ x xs=>x::xs
 | .qZ _ x lo hi mx=>x::(vX lo++vX hi++vX mx)
 | .BQ x lo hi=>x::(vX lo++vX hi)
 | .Bz _ first cap=>first++cap
def a_.bB:a_->Bool
 | .alloc _ | .box _ _ | .xI _ _ | .y5 _ | .xH _ _ | .store _ _ _ | .call _ _ | .xJ _ _ | .app _ _ _ | .xC _ _=>aa
 | .own q _=>!q.pure
 | _=>aq
def a_.EV:a_->Bool
 | .load _ _ _=>aa
 | _=>aq
abbrev dZ:=List (List V) × ab
def cG(t:List V)(s:dZ):St:=⟨t,s.1,s.2⟩
def Exact(t:List V)(v:V)(s:dZ):V->St->Prop:=λv' aV => v' = v/\aV = cG t s
variable{s:dZ}
def aiO{t t2:List V}{s2:dZ}{x:X}(h:∀n∈x.slot,t2.getD n .any=t.getD n .any):ev (cG t2 s2) x=ev (cG t s) x:=by
 cases x with
 | s n=>exact h n (by simp[X.slot])
 | c v=>rfl
def Ei{t t2:List V}{s s2:dZ}:∀{xs:List X},(∀x∈xs,ev (cG t2 s2) x=ev (cG t s) x)->fi (cG t2 s2) xs=fi (cG t s) xs
 | [],_=>rfl
 | x :: xs, h => by
  simp only[gf] at h;simp only[fi,h.1,Ei h.2]
def Us{t t2:List V}{s s2:dZ}:∀{ps:List (Nat × Nat × X)} {z:List V},(∀x∈ps.map (·.2.2),ev (cG t2 s2) x=ev (cG t s) x)->rl (cG t2 s2) z ps=rl (cG t s) z ps
 | [],_,_=>rfl
 | (off, n, x) :: ps, z, h => by
  simp only[cQ,gf] at h;simp only[rl,h.1,Us h.2]
def aaT{t t2:List V}{s s2:dZ}{k:Nat}:∀{xs:List X},(∀x∈xs,ev (cG t2 s2) x=ev (cG t s) x)->mR (cG t2 s2) k xs=mR (cG t s) k xs
 | [],_=>rfl
 | x :: xs, h => by
  simp only[gf] at h;simp only[mR,h.1,aaT h.2]
def vR(s:dZ)(g:Bool)(n:Nat)(a:V):Option V:=p9 (cG [] s) g n a
variable{g:Bool}
theorem Yj{t:List V}{n:Nat}{a:V}:p9 (cG t s) g n a=vR s g n a:=by rfl
def mk_inj{t:List V}{A:List (List V)}{B:ab}(h:(⟨t,A,B⟩:St)=cG t s):s=(A,B):=by
 have:=mf (λq:St=>(q.au,q.out)) h
 exact this.symm
section
variable {P:Program}
theorem aup{op:a_}{t t2:List V}{s2 s':dZ}(hx:∀x∈op.xs,ev (cG t2 s2) x=ev (cG t s) x)(wF:op.bB=aa->s2=s)
 (zA:∀g n x,op = .load g n x->vR s2 g n (ev (cG t s) x)=U v) (h:op.bN P (cG t s) (Exact t v s')) :
 op.bN P (cG t2 s2) (Exact t2 v (if op.bB then s' else s2)):=by
 cases op with
 | mv x =>
  simp only[a_.xs,gf] at hx;simp only[a_.bN,Exact] at h ⊢;exact⟨by rw[hx.1];exact h.1,rfl⟩
 | pick c a b =>
  simp only[a_.xs,gf] at hx;simp only[a_.bN] at h ⊢;rw[hx.1,hx.2.1,hx.2.2.1];split at h
  .exact⟨h.1,rfl⟩
  .exact⟨h.1,rfl⟩
  .omega
 | alloc z =>
  obtain rfl:=wF rfl;simp only[a_.bN,Exact] at h ⊢;obtain rfl:=mk_inj h.2;exact⟨h.1,by simp[a_.bB,cG]⟩
 | box n x =>
  obtain rfl:=wF rfl;simp only[a_.xs,gf] at hx;simp only[a_.bN,Exact] at h ⊢;rw[hx.1];obtain rfl:=mk_inj h.2.2;exact⟨h.1,h.2.1,by simp[a_.bB,cG]⟩
 | xI n x =>
  obtain rfl:=wF rfl;simp only[a_.xs,gf] at hx;simp only[a_.bN,Exact] at h ⊢;rw[hx.1];obtain rfl:=mk_inj h.2.2.2;exact⟨h.1,h.2.1,h.2.2.1,by simp[a_.bB,cG]⟩
 | build z ps =>
  simp only[a_.bN] at h ⊢;rw[Us (ps:=ps) hx];cases hb:(rl (cG t s) z ps).map V.agg with
  | none=>rw[hb] at h;exact h.elim
  | some u=>rw[hb] at h;exact⟨h.1,rfl⟩
 | pd k xs =>
  simp only[a_.bN] at h ⊢;rw[aaT (xs:=xs) hx];cases hb:(mR (cG t s) k xs).map (V.sl .aY k) with
  | none=>rw[hb] at h;exact h.elim
  | some u=>rw[hb] at h;exact⟨h.1,rfl⟩
 | load g n x =>
  simp only[a_.xs,gf] at hx;simp only[a_.bN] at h ⊢;rw[hx.1,Yj,zA g n x rfl];exact⟨rfl,rfl⟩
 | store n a x =>
  obtain rfl:=wF rfl;simp only[a_.xs,gf] at hx;simp only[a_.bN] at h ⊢;rw[hx.1,hx.2.1];generalize ev (cG t s2) x=xv at h ⊢;generalize ev (cG t s2) a=av at h ⊢;have key:∀aV,fe (cG t s2) n xv av=U aV -> fe (cG t2 s2) n xv av=U (cG t2 (aV.au,aV.out)):=λaV he=>by
   cases av with
   | ptr p off =>
    cases p with
    | nq b=>simp[fe] at he
    | au i =>
     simp only[fe,cG,jH] at he ⊢
     grind
    | out b =>
     simp only[fe,cG,jH] at he ⊢
     grind
   | _=>simp[fe] at he
  split at h
  case h_2=>exact h.elim
  rename_i aV he;rw[key aV he]
  have:=mf (λq:St=>(q.au,q.out)) h.2
  have h2:(aV.au,aV.out)=s' := this;exact⟨h.1,by rw[h2];rfl⟩
 | ym x =>
  simp only[a_.xs,gf] at hx;simp only[a_.bN] at h ⊢;rw[hx.1];split at h<;>first | exact⟨h.1,rfl⟩ | exact h.elim
 | qB op x y =>
  simp only[a_.xs,gf] at hx;simp only[a_.bN] at h ⊢;rw[hx.1,hx.2.1];cases hb:y8 op (ev (cG t s) x) (ev (cG t s) y) with
  | none=>rw[hb] at h;exact h.elim
  | some u=>rw[hb] at h;exact⟨h.1,rfl⟩
 | vg op x y =>
  simp only[a_.xs,gf] at hx;simp only[a_.bN] at h ⊢;rw[hx.1,hx.2.1];cases hb:Cj op (ev (cG t s) x) (ev (cG t s) y) with
  | none=>rw[hb] at h;exact h.elim
  | some u=>rw[hb] at h;exact⟨h.1,rfl⟩
 | xG neg x y =>
  simp only[a_.xs,gf] at hx;simp only[a_.bN] at h ⊢;rw[hx.1,hx.2.1];cases hb:AY neg (ev (cG t s) x) (ev (cG t s) y) with
  | none=>rw[hb] at h;exact h.elim
  | some u=>rw[hb] at h;exact⟨h.1,rfl⟩
 | cat x y =>
  simp only[a_.xs,gf] at hx;simp only[a_.bN] at h ⊢;rw[hx.1,hx.2.1];obtain⟨a,b,h1,h2,h3,h4⟩:=h;exact⟨a,b,h1,h2,h3,h4.1,rfl⟩
 | lr neg n x y =>
  simp only[a_.xs,gf] at hx;simp only[a_.bN] at h ⊢;rw[hx.1,hx.2.1];cases hb:AX neg n (ev (cG t s) x) (ev (cG t s) y) with
  | none=>rw[hb] at h;exact h.elim
  | some u=>rw[hb] at h;exact⟨h.1,rfl⟩
 | wz neg x y =>
  simp only[a_.xs,gf] at hx;simp only[a_.bN] at h ⊢;rw[hx.1,hx.2.1];split at h
  .exact⟨h.1,rfl⟩
  .omega
 | not x =>
  simp only[a_.xs,gf] at hx;simp only[a_.bN] at h ⊢;rw[hx.1];split at h
  .exact⟨h.1,rfl⟩
  .omega
 | yj x =>
  simp only[a_.xs,gf] at hx;simp only[a_.bN] at h ⊢;rw[hx.1];split at h
  .exact⟨h.1,rfl⟩
  .exact⟨h.1,rfl⟩
  .omega
 | yk x =>
  simp only[a_.xs,gf] at hx;simp only[a_.bN] at h ⊢;rw[hx.1];split at h
  .exact⟨h.1,rfl⟩
  .omega
 | rq off x =>
  simp only[a_.xs,gf] at hx;simp only[a_.bN] at h ⊢;rw[hx.1];split at h
  .exact⟨h.1,rfl⟩
  .exact⟨h.1,rfl⟩
  .omega
 | xU g off n x =>
  simp only[a_.xs,gf] at hx;simp only[a_.bN] at h ⊢;rw[hx.1];split at h
  case h_2=>exact h.elim
  rename_i cs e;cases hb:bP g n (cs.drop off) with
  | none=>rw[hb] at h;exact h.elim
  | some u=>rw[hb] at h;exact⟨h.1,rfl⟩
 | vP k x i =>
  simp only[a_.xs,gf] at hx;simp only[a_.bN] at h ⊢;rw[hx.1,hx.2.1];split at h
  .obtain⟨h1,k',n,c,h2,h3,h4,h5⟩:=h;exact⟨h1,k',n,c,h2,h3,h4,h5.1,rfl⟩
  .obtain⟨k',n,h2,h3,h4,h5⟩:=h;exact⟨k',n,h2,h3,h4,h5.1,rfl⟩
  .omega
 | yf m k x i =>
  simp only[a_.xs,gf] at hx;simp only[a_.bN] at h ⊢;rw[hx.1,hx.2.1];split at h
  .obtain⟨kk,n,h1,h2,h3,h4⟩:=h;exact⟨kk,n,h1,h2,h3,h4.1,rfl⟩
  .obtain⟨kk,n,h1,h2,h3,h4⟩:=h;exact⟨kk,n,h1,h2,h3,h4.1,rfl⟩
  .omega
 | yg x i =>
  simp only[a_.xs,gf] at hx;simp only[a_.bN] at h ⊢;rw[hx.1,hx.2.1];split at h
  case h_2=>exact h.elim
  obtain⟨k',n,c,h2,h3,h4,h5⟩:=h;exact⟨k',n,c,h2,h3,h4,h5.1,rfl⟩
 | call f xs =>
  obtain rfl:=wF rfl;simp only[a_.bN] at h ⊢;rw[Ei (xs:=xs) hx];refine⟨h.1,h.2.mono λu Z hu=>?_⟩;obtain rfl:=mk_inj hu.2;exact⟨hu.1,rfl⟩
 | xJ x xs =>
  obtain rfl:=wF rfl;simp only[a_.xs,gf] at hx;simp only[a_.bN] at h ⊢;rw[hx.1,Ei hx.2];split at h
  case h_2=>exact h.elim
  refine⟨h.1,h.2.mono λu Z hu=>?_⟩;obtain rfl:=mk_inj hu.2;exact⟨hu.1,rfl⟩
 | app k x y =>
  obtain rfl:=wF rfl;simp only[a_.xs,gf] at hx;simp only[a_.bN,sR] at h ⊢;rw[hx.1,hx.2.1];obtain⟨tk,l,m,h1,h2,h3,h4⟩:=h;refine⟨tk,l,m,h1,h2,h3,?_⟩;have conv:∀{u:V} {Z:ab},Exact t v s' u ⟨t,s2.1,Z⟩->Exact t2 v (if (a_.app k x y).bB then s' else s2) u ⟨t2,s2.1,Z⟩:=λ{u Z} hu=>by
   obtain rfl:=mk_inj hu.2;exact⟨hu.1,rfl⟩
  cases tk with
  | no=>exact h4
  | aY =>
   rcases h4 with h4 | h4 | ⟨D,h4,h5⟩
   .exact .inl λD aW=>conv (h4 D aW)
   .exact .inr (.inl (conv h4))
   .exact .inr (.inr ⟨D,h4,conv h5⟩)
  | tk D=>exact⟨h4.1,conv h4.2⟩
 | xC x y =>
  obtain rfl:=wF rfl;simp only[a_.xs,gf] at hx;simp only[a_.bN,sR] at h ⊢;rw[hx.1,hx.2.1];obtain⟨aQ,h0,tk,l,m,h1,h2,h3,h4⟩:=h;refine⟨aQ,h0,tk,l,m,h1,h2,h3,?_⟩;have conv:∀{u:V} {Z:ab},Exact t v s' u ⟨t,s2.1,Z⟩->Exact t2 v (if (a_.xC x y).bB then s' else s2) u ⟨t2,s2.1,Z⟩:=λ{u Z} hu=>by
   obtain rfl:=mk_inj hu.2;exact⟨hu.1,rfl⟩
  cases tk with
  | no=>exact h4
  | aY =>
   rcases h4 with h4 | h4 | ⟨D,h4,h5⟩
   .exact .inl λD aW=>conv (h4 D aW)
   .exact .inr (.inl (conv h4))
   .exact .inr (.inr ⟨D,h4,conv h5⟩)
  | tk D=>exact⟨h4.1,conv h4.2⟩
 | qZ k x lo hi mx =>
  simp only[a_.xs,gf] at hx;simp only[a_.bN] at h ⊢;rw[hx.1]
  rcases h with ⟨tk,l,m,n,h1,h2,h3,h4,h5,h6⟩ | ⟨a,n,cap,m,hh,h1,h2,h3,h4,h5,h6,h7⟩
  .refine .inl ⟨tk,l,m,n,h1,h2,h3,?_,?_,?_⟩
   .cases lo with
    | none=>exact h4
    | some y=>simp only at h4 ⊢;rw[hx.2 y (by simp[vX])];exact h4
   .cases hi with
    | none=>exact h5
    | some y=>simp only at h5 ⊢;rw[hx.2 y (by simp[vX])];exact h5
   .cases mx with
    | none=>exact⟨h6.1,rfl⟩
    | some y=>simp only at h6 ⊢;rw[hx.2 y (by simp[vX])];exact⟨h6.1,h6.2.1,rfl⟩
  .refine .inr ⟨a,n,cap,m,hh,h1,h2,h3,?_,?_,h6,h7.1,rfl⟩
   .cases lo with
    | none=>exact h4
    | some y=>simp only at h4 ⊢;rw[hx.2 y (by simp[vX])];exact h4
   .cases hi with
    | none=>exact h5
    | some y=>simp only at h5 ⊢;rw[hx.2 y (by simp[vX])];exact h5
 | BQ x lo hi =>
  simp only[a_.xs,gf] at hx;simp only[a_.bN] at h ⊢;rw[hx.1];obtain⟨l,m,n,h1,h2,h3,h4,h5,h6⟩:=h;refine⟨l,m,n,h1,h2,h3,?_,?_,h6.1,rfl⟩
  .cases lo with
   | none=>exact h4
   | some y=>simp only at h4 ⊢;rw[hx.2 y (by simp[vX])];exact h4
  .cases hi with
   | none=>exact h5
   | some y=>simp only at h5 ⊢;rw[hx.2 y (by simp[vX])];exact h5
 | ext x i =>
  simp only[a_.xs,gf] at hx;simp only[a_.bN] at h ⊢;rw[hx.1];split at h
  case h_2=>exact h.elim
  rename_i vs e;cases hb:vs[i]? with
  | none=>rw[hb] at h;exact h.elim
  | some u=>rw[hb] at h;exact⟨h.1,rfl⟩
 | Bz f first cap =>
  simp only[a_.xs,List.forall_mem_append] at hx;simp only[a_.bN] at h ⊢;rw[Ei hx.1,Ei hx.2];exact⟨h.1,rfl⟩
 | zb k x =>
  simp only[a_.xs,gf] at hx;simp only[a_.bN] at h ⊢;rw[hx.1];split at h
  .exact⟨h.1,rfl⟩
  .exact h.elim
 | AS x =>
  simp only[a_.xs,gf] at hx;simp only[a_.bN] at h ⊢;rw[hx.1];obtain⟨tk,aQ,h1,h2⟩:=h;exact⟨tk,aQ,h1,h2.1,rfl⟩
 | y5 z =>
  obtain rfl:=wF rfl;simp only[a_.bN,Exact] at h ⊢;refine⟨h.1,λb hb=>?_⟩;obtain⟨h1,h2⟩:=h.2 b hb;obtain rfl:=mk_inj h2;exact⟨h1,by simp[a_.bB,cG]⟩
 | xH n x =>
  obtain rfl:=wF rfl;simp only[a_.xs,gf] at hx;simp only[a_.bN,Exact] at h ⊢;rw[hx.1];refine⟨h.1,h.2.1,λb hb=>?_⟩;obtain⟨h1,h2⟩:=h.2.2 b hb;obtain rfl:=mk_inj h2;exact⟨h1,by simp[a_.bB,cG]⟩
 | own q xs =>
  simp only[a_.bN,a_.xs] at h hx ⊢;rw[Ei hx];cases hp:q.pure
  .have he:(a_.own q xs).bB=true:=by simp[a_.bB,hp]
   obtain rfl:=wF he;refine OQ.mono (λu σ' hu=>?_) q _ h;obtain rfl:=mk_inj hu.2;exact⟨hu.1,by rw[aL he];rfl⟩
  .have he:¬((a_.own q xs).bB=aa):=by simp[a_.bB,hp]
   obtain⟨u,h1,h2⟩:=OQ.Vc hp h;exact h2 _ _ ⟨h1.1,by rw[aB he]⟩
end
def B0(Z:ab)(k:Nat)(s x:V)(K:V->ab->Prop):Prop :=
 ∃t l m,s = .sl t k l/\(∃t',x = .sl t' k m)/\l.length+m.length<=aJ /\
  match t with
  | .aY=>K (.sl .no k (l++m)) Z\/∃D,Z.aS D=U l.length/\K (.sl (.tk D) k (l++m)) (Z.aU D (l.length+m.length))
  | .tk D=>Z.aS D=U l.length/\K (.sl (.tk D) k (l++m)) (Z.aU D (l.length+m.length))
  | .no=>False
def a_.n7(P:Program)(st:St)(K:V->St->Prop):a_->Prop
 | .call f xs=>bK (fi st xs)=aa/\∃v Z,cy P f (fi st xs) st.out (λv' σ' => v' = v/\σ' = Z)/\K v ⟨st.t,st.au,Z⟩
 | .xJ x xs => match ev st x with
  | .fn (.func f) a b=>bK (a++fi st xs++b)=aa/\∃v Z,cy P f (a++fi st xs++b) st.out (λv' σ' => v' = v/\σ' = Z)/\K v ⟨st.t,st.au,Z⟩
  | _=>False
 | .app k s x=>B0 st.out k (ev st s) (ev st x) λv Z=>K v ⟨st.t,st.au,Z⟩
 | .xC s x=>∃a,ev st x = .aQ a/\B0 st.out 1 (ev st s) (.sl .no 1 (fS a)) λv Z=>K v ⟨st.t,st.au,Z⟩
 | .y5 _ | .xH _ _=>False
 | .own q xs=>q.pure=aa/\q.bN st.out (λv Z=>K v ⟨st.t,st.au,Z⟩) (fi st xs)
 | op=>op.bN P st K
structure TR where
 dst:Option Nat
 val:V
 bB:Bool
 BU:dZ
def l6(t:List V)(d:Option Nat)(v:V):List V :=
 match d with
 | some n=>t.set n v
 | none=>t
def HO(t:List V)(s:dZ)(d:Option Nat)(v:V):(cG t s).put d v=cG (l6 t d v) s:=by cases d<;>rfl
def Fz:dZ:=([],⟨λ_=>ah,λ_=>ah,λ_=>ah⟩)
def Ck(SN:List dZ)(g:Bool)(n:Nat)(a v:V):List Nat->Prop
 | []=>True
 | m::ms=>vR (SN.getD m Fz) g n a=U v/\Ck SN g n a v ms
def sV(SN:List dZ):List (V × Bool × Nat × V × List Nat)->Prop
 | []=>True
 | (a,g,n,v,ms)::r=>Ck SN g n a v ms/\sV SN r
def Uz{SN:List dZ}{g:Bool}{n:Nat}{a v:V}:∀{ms:List Nat},Ck SN g n a v ms->∀m∈ms,vR (SN.getD m Fz) g n a=U v
 | [],_,_,h=>by simp at h
 | m :: ms, h, m', h' => by
  rcases m_.1 h' with rfl | h'
  .exact h.1
  .exact Uz h.2 m' h'
def P7(st:St)(ms:List Nat)(v:V):a_->List (V × Bool × Nat × V × List Nat)
 | .load g n x=>[(ev st x,g,n,v,ms)]
 | _=>[]
def c9(P:Program):List (AO × List Nat)->List dZ->List (V × Bool × Nat × V × List Nat)->(St->Prop)->St->Prop
 | [],SN,L,K,st=>sV SN L/\K st
 | (o, ms) :: r, SN, L, K, st =>
  match o.guard with
  | none=>o.op.n7 P st λv aV => c9 P r (if o.op.bB then SN++[(aV.au,aV.out)] else SN) (P7 st ms v o.op++L) K (aV.put o.dst v)
  | some (g, want) =>
   match ev st (.s g) with
   | .bool b =>
    if b=want then o.op.n7 P st λv aV => c9 P r (if o.op.bB then SN++[(aV.au,aV.out)] else SN) (P7 st ms v o.op++L) K (aV.put o.dst v)
    else c9 P r (if o.op.bB then SN++[(st.au,st.out)] else SN) L K (st.put o.dst (.bw []))
   | .bw []=>c9 P r (if o.op.bB then SN++[(st.au,st.out)] else SN) L K (st.put o.dst (.bw []))
   | _=>False
def TC(P:Program)(SN:List dZ)(o:AO)(ms:List Nat)(t:List V)(s:dZ)(r:TR):Prop :=
 r.dst=o.dst/\r.bB=o.op.bB/\∃run:Bool,
  (match o.guard with | none=>run=aa | some (g,want)=>(∃b,t.getD g .any = .bool b/\run=(b == want))\/t.getD g .any = .bw []/\run=aq) /\
  (run=aa->o.op.bN P (cG t s) (Exact t r.val (if o.op.bB then r.BU else s))/\∀g n x,o.op = .load g n x->∀m∈ms,vR (SN.getD m Fz) g n (ev (cG t s) x)=U r.val) /\
  (run=aq->r.val = .bw []/\(r.bB=aa->r.BU=s))
def AL(P:Program)(SN:List dZ):List (AO × List Nat)->List TR->List V->dZ->Prop
 | [],[],_,_=>True
 | (o,ms)::l,r::tr,t,s=>TC P SN o ms t s r/\AL P SN l tr (l6 t r.dst r.val) (if r.bB then r.BU else s)
 | _,_,_,_=>False
def runT:List TR->List V->List V
 | [],t=>t
 | r::tr,t=>runT tr (l6 t r.dst r.val)
def eW:List TR->dZ->dZ
 | [],s=>s
 | r::tr,s=>eW tr (if r.bB then r.BU else s)
def mg:List TR->List dZ
 | []=>[]
 | r::tr=>if r.bB then r.BU::mg tr else mg tr
section
variable {P:Program}
theorem auo{op:a_}{t:List V}{K:V->St->Prop}(h:op.n7 P (cG t s) K):∃v s',op.bN P (cG t s) (Exact t v s')/\K v (cG t s')/\(op.bB=aq->s' = s):=by
 have Dv:∀{o:Option V},opt o (K2 K (cG t s))->∃v,opt o (K2 (Exact t v s) (cG t s))/\K v (cG t s):=λ{o} h=>by
  cases o with
  | none=>exact h.elim
  | some u=>exact⟨u,⟨rfl,rfl⟩,h⟩
 cases op with
 | mv x=>exact⟨_,s,⟨rfl,rfl⟩,h,λ_=>rfl⟩
 | pick c a b =>
  simp only[a_.n7,a_.bN] at h ⊢;split at h
  .rename_i e;exact⟨_,s,⟨rfl,rfl⟩,h,λ_=>rfl⟩
  .rename_i e;exact⟨_,s,⟨rfl,rfl⟩,h,λ_=>rfl⟩
  .grind
 | alloc z=>exact⟨_,(s.1++[z],s.2),⟨rfl,rfl⟩,h,λh=>by simp[a_.bB] at h⟩
 | box n x=>exact⟨_,(s.1++[(ev (cG t s) x).cells],s.2),⟨h.1,rfl,rfl⟩,h.2,λh=>by simp[a_.bB] at h⟩
 | xI n x=>exact⟨_,(s.1++[(ev (cG t s) x).cells],s.2),⟨h.1,h.2.1,rfl,rfl⟩,h.2.2,λh=>by simp[a_.bB] at h⟩
 | build z ps=>obtain⟨v,h1,h2⟩:=Dv h;exact⟨v,s,h1,h2,λ_=>rfl⟩
 | pd k xs=>obtain⟨v,h1,h2⟩:=Dv h;exact⟨v,s,h1,h2,λ_=>rfl⟩
 | load g n x=>obtain⟨v,h1,h2⟩:=Dv h;exact⟨v,s,h1,h2,λ_=>rfl⟩
 | store n a x =>
  simp only[a_.n7,a_.bN] at h ⊢;split at h
  case h_2=>exact h.elim
  rename_i aV he;have ht:aV.t=t:=by
   generalize ev (cG t s) a=av at he;generalize ev (cG t s) x=xv at he;cases av with
   | ptr p off =>
    cases p with
    | nq b=>simp[fe] at he
    | au i =>
     simp only[fe,jH] at he;obtain⟨cs,_,h2⟩:=he;split at h2
     .simp only[bq] at h2;subst h2;rfl
     .grind
    | out b =>
     simp only[fe,jH] at he;obtain⟨cs,_,h2⟩:=he;split at h2
     .simp only[bq] at h2;subst h2;rfl
     .grind
   | _=>simp[fe] at he
  obtain⟨t',l',o'⟩:=aV;simp only at ht;subst ht;exact⟨.any,(l',o'),⟨rfl,rfl⟩,h,λh=>by simp[a_.bB] at h⟩
 | ym x =>
  simp only[a_.n7,a_.bN] at h ⊢;split at h<;>first | exact⟨_,s,⟨rfl,rfl⟩,h,λ_=>rfl⟩ | exact h.elim
 | qB op x y=>obtain⟨v,h1,h2⟩:=Dv h;exact⟨v,s,h1,h2,λ_=>rfl⟩
 | vg op x y=>obtain⟨v,h1,h2⟩:=Dv h;exact⟨v,s,h1,h2,λ_=>rfl⟩
 | xG neg x y=>obtain⟨v,h1,h2⟩:=Dv h;exact⟨v,s,h1,h2,λ_=>rfl⟩
 | cat x y =>
  obtain⟨a,b,h1,h2,h3,h4⟩:=h;exact⟨_,s,⟨a,b,h1,h2,h3,rfl,rfl⟩,h4,λ_=>rfl⟩
 | lr neg n x y=>obtain⟨v,h1,h2⟩:=Dv h;exact⟨v,s,h1,h2,λ_=>rfl⟩
 | wz neg x y =>
  simp only[a_.n7,a_.bN] at h ⊢;split at h
  .exact⟨_,s,⟨rfl,rfl⟩,h,λ_=>rfl⟩
  .grind
 | not x =>
  simp only[a_.n7,a_.bN] at h ⊢;split at h
  .exact⟨_,s,⟨rfl,rfl⟩,h,λ_=>rfl⟩
  .grind
 | yj x =>
  simp only[a_.n7,a_.bN] at h ⊢;split at h
  .exact⟨_,s,⟨rfl,rfl⟩,h,λ_=>rfl⟩
  .exact⟨_,s,⟨rfl,rfl⟩,h,λ_=>rfl⟩
  .grind
 | yk x =>
  simp only[a_.n7,a_.bN] at h ⊢;split at h
  .exact⟨_,s,⟨rfl,rfl⟩,h,λ_=>rfl⟩
  .grind
 | rq off x =>
  simp only[a_.n7,a_.bN] at h ⊢;split at h
  .exact⟨_,s,⟨rfl,rfl⟩,h,λ_=>rfl⟩
  .exact⟨_,s,⟨rfl,rfl⟩,h,λ_=>rfl⟩
  .grind
 | xU g off n x =>
  simp only[a_.n7,a_.bN] at h ⊢
  grind
 | vP k x i =>
  simp only[a_.n7,a_.bN] at h ⊢;split at h
  .obtain⟨h1,k',n,c,h2,h3,h4,h5⟩:=h;exact⟨_,s,⟨h1,k',n,c,h2,h3,h4,rfl,rfl⟩,h5,λ_=>rfl⟩
  .obtain⟨k',n,h2,h3,h4,h5⟩:=h;exact⟨_,s,⟨k',n,h2,h3,h4,rfl,rfl⟩,h5,λ_=>rfl⟩
  .grind
 | yf m k x i =>
  simp only[a_.n7,a_.bN] at h ⊢;split at h
  .obtain⟨kk,n,h1,h2,h3,h4⟩:=h;exact⟨_,s,⟨kk,n,h1,h2,h3,rfl,rfl⟩,h4,λ_=>rfl⟩
  .obtain⟨kk,n,h1,h2,h3,h4⟩:=h;exact⟨_,s,⟨kk,n,h1,h2,h3,rfl,rfl⟩,h4,λ_=>rfl⟩
  .grind
 | yg x i =>
  simp only[a_.n7,a_.bN] at h ⊢;split at h
  .obtain⟨k',n,c,h2,h3,h4,h5⟩:=h;exact⟨_,s,⟨k',n,c,h2,h3,h4,rfl,rfl⟩,h5,λ_=>rfl⟩
  .grind
 | call f xs =>
  obtain⟨h1,v,Z,h2,h3⟩:=h;exact⟨v,(s.1,Z),⟨h1,h2.mono λu σ' hu=>⟨hu.1,by rw[hu.2];rfl⟩⟩,h3,λh=>by simp[a_.bB] at h⟩
 | xJ x xs =>
  simp only[a_.n7,a_.bN] at h ⊢;split at h
  .rename_i e;obtain⟨h1,v,Z,h2,h3⟩:=h;refine⟨v,(s.1,Z),?_,h3,λh=>by simp[a_.bB] at h⟩
   (try rw[e])
   exact⟨h1,h2.mono λu σ' hu=>⟨hu.1,by rw[hu.2];rfl⟩⟩
  .grind
 | app k x y =>
  obtain⟨tk,l,m,h1,h2,h3,h4⟩:=h;cases tk with
  | no=>exact h4.elim
  | aY =>
   rcases h4 with h4 | ⟨D,h4,h5⟩
   .exact⟨_,s,⟨_,l,m,h1,h2,h3,.inr (.inl ⟨rfl,rfl⟩)⟩,h4,λh=>by simp[a_.bB] at h⟩
   .exact⟨_,(s.1,_),⟨_,l,m,h1,h2,h3,.inr (.inr ⟨D,h4,rfl,rfl⟩)⟩,h5,λh=>by simp[a_.bB] at h⟩
  | tk D=>exact⟨_,(s.1,_),⟨_,l,m,h1,h2,h3,h4.1,rfl,rfl⟩,h4.2,λh=>by simp[a_.bB] at h⟩
 | xC x y =>
  obtain⟨a,h0,tk,l,m,h1,h2,h3,h4⟩:=h;cases tk with
  | no=>exact h4.elim
  | aY =>
   rcases h4 with h4 | ⟨D,h4,h5⟩
   .exact⟨_,s,⟨a,h0,_,l,m,h1,h2,h3,.inr (.inl ⟨rfl,rfl⟩)⟩,h4,λh=>by simp[a_.bB] at h⟩
   .exact⟨_,(s.1,_),⟨a,h0,_,l,m,h1,h2,h3,.inr (.inr ⟨D,h4,rfl,rfl⟩)⟩,h5,λh=>by simp[a_.bB] at h⟩
  | tk D=>exact⟨_,(s.1,_),⟨a,h0,_,l,m,h1,h2,h3,h4.1,rfl,rfl⟩,h4.2,λh=>by simp[a_.bB] at h⟩
 | qZ k x lo hi mx =>
  simp only[a_.n7,a_.bN] at h ⊢
  rcases h with ⟨tk,l,m,n,h1,h2,h3,h4,h5,h6⟩ | ⟨a,n,cap,m,hh,h1,h2,h3,h4,h5,h6,h7⟩
  .cases mx with
   | none=>exact⟨_,s,.inl ⟨tk,l,m,n,h1,h2,h3,h4,h5,rfl,rfl⟩,h6,λ_=>rfl⟩
   | some y=>exact⟨_,s,.inl ⟨tk,l,m,n,h1,h2,h3,h4,h5,h6.1,rfl,rfl⟩,h6.2,λ_=>rfl⟩
  .exact⟨_,s,.inr ⟨a,n,cap,m,hh,h1,h2,h3,h4,h5,h6,rfl,rfl⟩,h7,λ_=>rfl⟩
 | BQ x lo hi =>
  obtain⟨l,m,n,h1,h2,h3,h4,h5,h6⟩:=h;exact⟨_,s,⟨l,m,n,h1,h2,h3,h4,h5,rfl,rfl⟩,h6,λ_=>rfl⟩
 | ext x i =>
  simp only[a_.n7,a_.bN] at h ⊢
  grind
 | Bz f first cap=>exact⟨_,s,⟨rfl,rfl⟩,h,λ_=>rfl⟩
 | zb k x =>
  simp only[a_.n7,a_.bN] at h ⊢;split at h
  .exact⟨_,s,⟨rfl,rfl⟩,h,λ_=>rfl⟩
  .grind
 | AS x =>
  obtain⟨tk,aQ,h1,h2⟩:=h;exact⟨_,s,⟨tk,aQ,h1,rfl,rfl⟩,h2,λ_=>rfl⟩
 | y5 z=>exact h.elim
 | xH n x=>exact h.elim
 | own q xs =>
  obtain⟨hp,h⟩:=h;obtain⟨v,h1,h2⟩:=OQ.Vc hp h;have hE:(a_.own q xs).bN P (cG t s) (Exact t v s):=h2 s.2 (λu Z=>Exact t v s u ⟨t,s.1,Z⟩) ⟨rfl,rfl⟩;exact⟨v,s,hE,h1,λ_=>rfl⟩
def UA{SN:List dZ}:∀{l m:List (V × Bool × Nat × V × List Nat)},sV SN (l++m)↔sV SN l/\sV SN m
 | [],m=>by simp[sV]
 | (a,g,n,v,ms)::l,m=>by simp only[gY,sV,UA,Mu]
theorem LH{K:St->Prop}:∀{l:List (AO × List Nat)} {SN:List dZ} {L:List (V × Bool × Nat × V × List Nat)} {t:List V} {s:dZ},c9 P l SN L K (cG t s) ->
 ∃tr,AL P (SN++mg tr) l tr t s/\sV (SN++mg tr) L/\K (cG (runT tr t) (eW tr s))
 | [],SN,L,t,s,h=>⟨[],trivial,by simpa [mg] using h.1,h.2⟩
 | (o, ms) :: l, SN, L, t, s, h => by
  have go:o.op.n7 P (cG t s) (λv aV => c9 P l (if o.op.bB then SN++[(aV.au,aV.out)] else SN) (P7 (cG t s) ms v o.op++L) K (aV.put o.dst v)) ->
   (match o.guard with | none=>True | some (g,want)=>∃b,t.getD g .any = .bool b/\aa=(b == want)) ->
   ∃tr,AL P (SN++mg tr) ((o,ms)::l) tr t s/\sV (SN++mg tr) L/\K (cG (runT tr t) (eW tr s)):=λh hg=>by
   obtain⟨v,s',h1,h2,h3⟩:=auo h;rw[HO] at h2;obtain⟨tr,k1,k2,k3⟩:=LH h2;have eG : (if o.op.bB then s' else s)=s' := by cases he:o.op.bB<;>simp[he] at h3 ⊢;exact h3.symm
   have wE:SN++mg (⟨o.dst,v,o.op.bB,s'⟩::tr)=(if o.op.bB then SN++[s'] else SN)++mg tr:=by cases o.op.bB<;>simp[mg]
   have alk : (if o.op.bB then SN++[((cG t s').au,(cG t s').out)] else SN)=(if o.op.bB then SN++[s'] else SN):=rfl;rw[alk] at k1 k2;rw[UA] at k2;refine⟨⟨o.dst,v,o.op.bB,s'⟩::tr,?_,by rw[wE];exact k2.2,?_⟩
   .rw[wE];refine⟨⟨rfl,rfl,aa,?_,λ_=>⟨by rw[eG];exact h1,λg n x hx m hm=>?_⟩,λh=>by simp at h⟩,by simp only[eG];exact k1⟩
    .grind
    .rw[hx] at k2
     have:=Uz k2.1.1 m hm
     grind
   .simp only[runT,eW,eG];exact k3
  simp only[c9] at h;cases td:o.guard with
  | none=>rw[td] at h;exact go h (by rw[td];trivial)
  | some p =>
   obtain⟨g,want⟩:=p;rw[td] at h;simp only at h;have skip:∀cF : ((∃b,t.getD g .any = .bool b/\aq=(b == want))\/t.getD g .any = .bw []/\aq=aq),c9 P l (if o.op.bB then SN++[((cG t s).au,(cG t s).out)] else SN) L K ((cG t s).put o.dst (.bw [])) ->
    ∃tr,AL P (SN++mg tr) ((o,ms)::l) tr t s/\sV (SN++mg tr) L/\K (cG (runT tr t) (eW tr s)):=λcF h=>by
    rw[HO] at h;obtain⟨tr,k1,k2,k3⟩:=LH h;have Xw:(if o.op.bB then s else s)=s:=by simp
    have wE:SN++mg (⟨o.dst,.bw [],o.op.bB,s⟩::tr)=(if o.op.bB then SN++[s] else SN)++mg tr:=by cases o.op.bB<;>simp[mg]
    refine⟨⟨o.dst,.bw [],o.op.bB,s⟩::tr,?_,by rw[wE];exact k2,?_⟩
    .rw[wE];refine⟨⟨rfl,rfl,aq,by rw[td];exact cF,λh=>by simp at h,λ_=>⟨rfl,λ_=>rfl⟩⟩,by simp only[Xw];exact k1⟩
    .simp only[runT,eW,Xw];exact k3
   split at h
   .rename_i b hb;have cF : t.getD g .any = .bool b:=hb;split at h
    .rename_i hw;exact go h (by rw[td];exact⟨b,cF,by simp[hw]⟩)
    .rename_i hw;exact skip (.inl ⟨b,cF,by simp[hw]⟩) h
   .rename_i hb;exact skip (.inr ⟨hb,rfl⟩) h
   .exact h.elim
end
def di(S:Nat->Bool):Nat->List TR->List TR
 | _,[]=>[]
 | i,r::tr=>if S i then r::di S (i+1) tr else di S (i+1) tr
def cW(S:Nat->Bool):Nat->List TR->Nat
 | _,[]=>0
 | i,r::tr=>(if S i&&r.bB then 1 else 0)+cW S (i+1) tr
def K5(t:List V)(d:Option Nat)(v:V):(l6 t d v).length=t.length:=by cases d<;>simp[l6]
theorem ND(t:List V)(d:Option Nat)(v:V)(x:Nat):(l6 t d v).getD x .any=if d=U x then(if x<t.length then v else .any) else t.getD x .any:=by
 cases d with
 | none=>simp[l6]
 | some n =>
  simp only[l6,bq]
  grind
theorem BR{S S' : Nat->Bool}{x:Nat}:∀{tr:List TR} {i:Nat} {t t' : List V},t.length=t'.length->t.getD x .any=t'.getD x .any ->
 (∀(j:Nat) r,tr[j]?=U r->r.dst=U x->S (i+j)=S' (i+j))->(runT (di S i tr) t).getD x .any=(runT (di S' i tr) t').getD x .any
 | [],i,t,t',_,h,_=>h
 | r :: tr, i, t, t', hl, h, hS => by
  have zF:∀(j:Nat) r',tr[j]?=U r' -> r'.dst=U x->S (i+1+j)=S' (i+1+j):=λj r' hr hd=>by
   have:=hS (j+1) r' (by simpa using hr) hd
   grind
  have h0:r.dst=U x->S i=S' i:=λhd=>by simpa using hS 0 r (by simp) hd
  simp only[di]
  by_cases hd:r.dst=U x
  .rw[h0 hd];cases S' i
   .exact BR hl h zF
   .simp only[db,runT];refine BR (by simp[K5,hl]) ?_ zF;rw[ND,ND,aL hd,aL hd,hl]
  .have e:∀t:List V,(l6 t r.dst r.val).getD x .any=t.getD x .any:=λt=>by rw[ND,aB hd]
   cases S i<;>cases S' i<;>simp only[db,cz,dK,runT]
   .exact BR hl h zF
   .exact BR (by simp[K5,hl]) (by rw[e];exact h) zF
   .exact BR (by simp[K5,hl]) (by rw[e];exact h) zF
   .exact BR (by simp[K5,hl]) (by rw[e,e];exact h) zF
theorem ar'(t:List V){d d' : Option Nat}(v v' : V)(h:∀n,d=U n->d' ≠ U n):l6 (l6 t d v) d' v' = l6 (l6 t d' v') d v:=by
 cases d with
 | none=>rfl
 | some n =>
  cases d' with
  | none=>rfl
  | some m =>
   simp only[l6];rw[List.set_comm]
   grind
def abg:∀{tr:List TR} {t:List V} {d:Option Nat} {v:V},(∀r∈tr,∀n,d=U n->r.dst≠U n)->runT tr (l6 t d v)=l6 (runT tr t) d v
 | [],_,_,_,_=>rfl
 | r :: tr, t, d, v, h => by
  simp only[gf] at h;simp only[runT];rw[ar' t v r.val h.1,abg h.2]
def RX{S:Nat->Bool}:∀{tr:List TR} {i:Nat} {r:TR},r∈di S i tr->∃j,tr[j]?=U r/\S (i+j)=aa
 | [],_,_,h=>by simp[di] at h
 | q :: tr, i, r, h => by
  simp only[di] at h;split at h
  .rename_i hS
   rcases m_.1 h with rfl | h
   .exact⟨0,by simp,by simpa using hS⟩
   .obtain⟨j,h1,h2⟩:=RX h;exact⟨j+1,by simpa using h1,by rw[show i+(j+1)=i+1+j from by omega];exact h2⟩
  .obtain⟨j,h1,h2⟩:=RX h;exact⟨j+1,by simpa using h1,by rw[show i+(j+1)=i+1+j from by omega];exact h2⟩
def add(S:Nat->Bool)(k:Nat):Nat->Bool:=λj=>S j||decide (j=k)
def abJ{S:Nat->Bool}{k:Nat}:∀{tr:List TR} {i:Nat},k<i->di (add S k) i tr=di S i tr
 | [],_,_=>rfl
 | r :: tr, i, h => by
  have:add S k i=S i:=by simp[add];intro e;omega
  simp only[di,this,abJ (k:=k) (tr:=tr) (i:=i+1) (by omega)]
theorem abd{S:Nat->Bool}{k:Nat}{r:TR}:∀{tr:List TR} {i:Nat} {t:List V},i<=k->tr[k - i]?=U r->S k=aq->(∀(j:Nat) r',tr[j]?=U r' -> i+j≠k->∀n,r.dst=U n->r'.dst≠U n) ->
 runT (di (add S k) i tr) t=l6 (runT (di S i tr) t) r.dst r.val
 | [],i,t,_,h,_,_=>by simp at h
 | q :: tr, i, t, EA, hr, hS, hd => by
  by_cases he:i=k
  .subst he;simp at hr;subst hr;have h1:add S i i=true:=by simp[add]
   simp only[di,h1,db,hS,dK,cz,runT];rw[abJ (by omega)];refine abg λr' dt n hn=>?_
   obtain⟨j,h1,_⟩:=RX dt;exact hd (j+1) r' (by simpa using h1) (by omega) n hn
  .have h1:add S k i=S i:=by simp[add,he]
   have dt : tr[k - (i+1)]?=U r:=by grind
   have ih:=λt=>abd (tr:=tr) (i:=i+1) (t:=t) (by omega) dt hS (λj r' hj bf n hn=>hd (j+1) r' (by simpa using hj) (by omega) n hn)
   simp only[di,h1];cases S i
   .grind
   .simpa [runT] using ih _
theorem abc{S:Nat->Bool}:∀{tr:List TR} {i:Nat} {s:dZ},(∀(j:Nat) r,tr[j]?=U r->r.bB=aa->S (i+j)=aq)->eW (di S i tr) s=s/\cW S i tr=0
 | [],_,_,_=>⟨rfl,rfl⟩
 | r :: tr, i, s, h => by
  have ih:=λs=>abc (S:=S) (tr:=tr) (i:=i+1) (s:=s) λj r' hj he=>by
   have:=h (j+1) r' (by simpa using hj) he
   grind
  have h0:r.bB=aa->S i=false:=λhe=>by simpa using h 0 r (by simp) he
  simp only[di,cW];cases he:r.bB
  .cases S i<;>simp[eW,he,(ih s).1,(ih s).2]
  .rw[h0 he];simp[(ih s).1,(ih s).2]
theorem abb{S:Nat->Bool}:∀{tr:List TR} {i:Nat} {s:dZ},(∀(j k:Nat) r r',tr[j]?=U r->tr[k]?=U r' -> r.bB=aa->r'.bB=aa->j<k->S (i+k)=aa->S (i+j)=aa) ->
 eW (di S i tr) s=(s::mg tr).getD (cW S i tr) Fz
 | [],_,_,_=>by simp[di,eW,cW]
 | r :: tr, i, s, h => by
  have zF:∀(j k:Nat) r r',tr[j]?=U r->tr[k]?=U r' -> r.bB=aa->r'.bB=aa->j<k->S (i+1+k)=aa->S (i+1+j)=true:=λj k q q' h1 h2 h3 h4 h5 h6=>by
   have:=h (j+1) (k+1) q q' (by simpa using h1) (by simpa using h2) h3 h4 (by omega) (by rw[show i+(k+1)=i+1+k from by omega];exact h6)
   grind
  have ih:=λs=>abb (S:=S) (tr:=tr) (i:=i+1) (s:=s) zF
  simp only[di,cW,mg];cases he:r.bB
  .cases S i<;>simp[eW,he,ih]
  .cases hS:S i
   .obtain⟨h1,h2⟩:=abc (S:=S) (tr:=tr) (i:=i+1) (s:=s) λj r' hj CC => by
     cases hq:S (i+1+j) with
     | false=>rfl
     | true =>
      have:=h 0 (j+1) r r' (by simp) (by simpa using hj) he CC (by omega) (by rw[show i+(j+1)=i+1+j from by omega];exact hq)
      grind
    grind
   .simp only[db,eW,he,ih,LX]
    grind
theorem I6{S S' : Nat->Bool}:∀{tr:List TR} {i:Nat},(∀(j:Nat) r,tr[j]?=U r->r.bB=aa->S (i+j)=S' (i+j))->cW S i tr=cW S' i tr
 | [],_,_=>rfl
 | r :: tr, i, h => by
  have ih:=I6 (S:=S) (S' := S') (tr:=tr) (i:=i+1) λj r' hj he=>by
   have:=h (j+1) r' (by simpa using hj) he
   grind
  have h0:r.bB=aa->S i=S' i:=λhe=>by simpa using h 0 r (by simp) he
  simp only[cW,ih];cases he:r.bB
  .simp
  .grind
theorem MQ{S S' : Nat->Bool}:∀{tr:List TR} {i:Nat},(∀(j:Nat) r,tr[j]?=U r->r.bB=aa->S (i+j)=aa->S' (i+j)=aa)->cW S i tr<=cW S' i tr
 | [],_,_=>bU _
 | r :: tr, i, h => by
  have ih:=MQ (S:=S) (S' := S') (tr:=tr) (i:=i+1) λj r' hj he hS=>by
   have:=h (j+1) r' (by simpa using hj) he (by rw[show i+(j+1)=i+1+j from by omega];exact hS)
   grind
  have h0:r.bB=aa->S i=aa->S' i=true:=λhe hS=>by simpa using h 0 r (by simp) he (by simpa using hS)
  simp only[cW];cases he:r.bB
  .grind
  .grind
def abK{S:Nat->Bool}:∀{tr:List TR} {i:Nat},(∀j,j<tr.length->S (i+j)=aa)->di S i tr=tr
 | [],_,_=>rfl
 | r :: tr, i, h => by
  have h0:S i=true:=by simpa using h 0 (by simp)
  simp only[di,h0,db];rw[abK λj hj=>by
   have:=h (j+1) (by simp;omega)
   rw[show i+(j+1)=i+1+j from by omega] at this;exact this]
def fC(k:Nat):Nat->Bool:=λj=>decide (j<k)
def IJ{P:Program}{SN:List dZ}:∀{l:List (AO × List Nat)} {tr:List TR} {t:List V} {s:dZ},AL P SN l tr t s->l.length=tr.length
 | [],[],_,_,_=>rfl
 | [],_::_,_,_,h=>h.elim
 | (o,ms)::_,[],_,_,h=>h.elim
 | (o,ms)::l,r::tr,t,s,h=>by simp[IJ h.2]
def RY:∀{tr:List TR} {i k:Nat},k<=i->di (fC k) i tr=[]
 | [],_,_,_=>rfl
 | r :: tr, i, k, h => by
  have:fC k i=false:=by simp[fC];omega
  simp only[di,this,dK,cz];exact RY (by omega)
def IK{P:Program}{SN:List dZ}{o:AO}{ms:List Nat}{r:TR}:∀{l:List (AO × List Nat)} {tr:List TR} {t:List V} {s:dZ} {i k:Nat},AL P SN l tr t s->l[k]?=U (o,ms)->tr[k]?=U r ->
 TC P SN o ms (runT (di (fC (i+k)) i tr) t) (eW (di (fC (i+k)) i tr) s) r
 | [],_,_,_,_,_,_,h,_=>by simp at h
 | (_,_)::_,[],_,_,_,_,h,_,_=>h.elim
 | (o', ms') :: l, r' :: tr, t, s, i, k, h, hl, ht => by
  cases k with
  | zero =>
   simp at hl ht;obtain⟨rfl,rfl⟩:=hl;subst ht;rw[RY (by omega)];exact h.1
  | succ k =>
   have h1:fC (i+(k+1)) i=true:=by simp[fC]
   simp only[di,h1,db,runT,eW];rw[show i+(k+1)=i+1+k from by omega];exact IK h.2 (by simpa using hl) (by simpa using ht)
def Dz(o:AO):List Nat:=o.op.xs.flatMap X.slot++(match o.guard with | some (g,_)=>[g] | none=>[])
structure DI where
 dst:Option Nat
 reads:List Nat
 bB:Bool
 ld:Bool
 ms:List Nat
 mask:Nat
def gE(p:AO × List Nat)(m:Nat):DI:=⟨p.1.dst,Dz p.1,p.1.op.bB,p.1.op.EV,p.2,m⟩
def KR(b:List Nat)(o:Oper):Nat:=o.after.toList.foldl (λs e=>if Region.binds .any e then s|||2^e.on|||b.getD e.on 0 else s) 0
def Ge(i:Nat)(x:DI)(j:Nat)(y:DI):Bool :=
 (match y.dst with
  | some d=>(!(x.reads.contains d)||(i != j&&(x.mask.testBit j||y.mask.testBit i)))&&(i == j||x.dst != U d)
  | none=>aa)&&(!(decide (i<j)&&x.bB&&y.bB)||y.mask.testBit i)
def D'(p:Nat->DI->Bool)(l:List DI):Nat:=(l.zipIdx.filter λ(x,j)=>x.bB&&p j x).length
def rH(l:List DI)(x:DI):Nat:=D' (λj _=>x.mask.testBit j) l
def Bf(l:List DI)(i:Nat):Nat:=D' (λ_ y=>!(y.mask.testBit i)) l
def Dq(l:List DI)(i:Nat):Nat:=D' (λj _=>decide (j<i)) l
def UB(l:List DI)(i:Nat)(x:DI):Bool :=
 !x.ld||((bH (Bf l i+1 - rH l x)).all λq=>x.ms.contains (rH l x+q)||rH l x+q == Dq l i)
def AV(ops:Array Oper)(l:List (AO × List Nat))(b:List Nat):Bool :=
 let d:=ng gE l b
 decide (l.length=ops.size)&&decide (b.length=ops.size) &&
 ((ops.toList.zip b).zipIdx.all λ((o,m),i)=>(o.after.toList.all λe=>!(Region.binds .any e)||decide (e.on<i))&&decide (m=KR b o)) &&
 (d.zipIdx.all λ(x,i)=>(d.zipIdx.all λ(y,j)=>Ge i x j y)&&UB d i x)
def zQ:List Oper->List Nat->List Nat
 | [],b=>b
 | o::os,b=>zQ os (b++[KR b o])
def wS(P:Program)(ops:Array Oper)(o:Oper):Option AO :=
 match Bw P o with
 | none=>ah
 | some op =>
  match o.guard with
  | none=>U ⟨o.dst,op,ah⟩
  | some (j, want) =>
   match (ops[j]?).bind (·.dst) with
   | some g=>U ⟨o.dst,op,U (g,want)⟩
   | none=>ah
def Df(P:Program)(ops:Array Oper):List Oper->Option (List AO)
 | []=>U []
 | o::os=>(wS P ops o).bind λx=>(Df P ops os).map (x::·)
def KH(P:Program)(ops:Array Oper):Option (List (AO × List Nat)) :=
 match Df P ops ops.toList with
 | none=>ah
 | some l0 =>
  let b:=zQ ops.toList []
  let d:=ng gE (l0.map λo=>(o,[])) b
  let l:=(l0.zip d).zipIdx.map λ((o,x),i)=>(o,if o.op.EV then((bH (Bf d i+1 - rH d x)).map (rH d x+·)).filter (· != Dq d i) else [])
  if AV ops l b=aa/\P.follows .mixedOrders=aa then U l else ah
structure B5(ops:Array Oper)(l:List (AO × List Nat))(b:List Nat):Prop where
 size:l.length=ops.size
 back:∀(i:Nat) o,ops[i]?=U o->∀e∈o.after,Region.binds .any e=aa->e.on<i
 mask:∀(i:Nat) o,ops[i]?=U o->∀j,(b.getD i 0).testBit j=aa->∃e∈o.after,Region.binds .any e=aa/\(j=e.on\/(b.getD e.on 0).testBit j=aa)
 slot:∀(i j:Nat) (x y:AO × List Nat),l[i]?=U x->l[j]?=U y->∀d,y.1.dst=U d->d∈Dz x.1->i≠j/\((b.getD i 0).testBit j=aa\/(b.getD j 0).testBit i=aa)
 dst:∀(i j:Nat) (x y:AO × List Nat),l[i]?=U x->l[j]?=U y->i≠j->∀d,y.1.dst=U d->x.1.dst≠U d
 bB:∀(i j:Nat) (x y:AO × List Nat),l[i]?=U x->l[j]?=U y->i<j->x.1.op.bB=aa->y.1.op.bB=aa->(b.getD j 0).testBit i=aa
 load:∀(i:Nat) (x:AO × List Nat),l[i]?=U x->x.1.op.EV=aa->∀m,rH (ng gE l b) (gE x (b.getD i 0))<=m->m<=Bf (ng gE l b) i->m∈x.2\/m=Dq (ng gE l b) i
theorem aqW{b:List Nat}{o:Oper}{j:Nat}(h:(KR b o).testBit j=aa):∃e∈o.after,Region.binds .any e=aa/\(j=e.on\/(b.getD e.on 0).testBit j=aa):=by
 have key:∀(l:List Edge) (s:Nat),(l.foldl (λs e=>if Region.binds .any e then s|||2^e.on|||b.getD e.on 0 else s) s).testBit j=aa ->
  s.testBit j=aa\/∃e∈l,Region.binds .any e=aa/\(j=e.on\/(b.getD e.on 0).testBit j=aa):=by
  intro l;induction l with
  | nil=>intro s h;exact .inl h
  | cons e l ih =>
   grind
 rcases key o.after.toList 0 h with h1 | ⟨e,h1,h2⟩
 .grind
 .grind
variable{i:Nat}
theorem aye{l:List (AO × List Nat)}{b:List Nat}(hl:b.length=l.length){x:AO × List Nat}(h:l[i]?=U x):(ng gE l b)[i]?=U (gE x (b.getD i 0)):=by grind
variable{ops:Array Oper}
theorem facts{l:List (AO × List Nat)}{b:List Nat}(h:AV ops l b=aa):B5 ops l b:=by
 unfold AV at h;simp only[bO,cU,ma] at h;obtain⟨⟨⟨h1,h2⟩,h3⟩,h4⟩:=h;have XM:∀(i:Nat) o,ops[i]?=U o->((o,b.getD i 0),i)∈(ops.toList.zip b).zipIdx:=λi o ho=>by
  have az:=(mX.1 ho).1;rw[List.mem_zipIdx_iff_getElem?]
  grind
 have hd:∀(i:Nat) x,l[i]?=U x->(gE x (b.getD i 0),i)∈(ng gE l b).zipIdx:=λi x hx=>by
  grind
 have pair:∀(i j:Nat) x y,l[i]?=U x->l[j]?=U y->Ge i (gE x (b.getD i 0)) j (gE y (b.getD j 0))=true:=λi j x y hx hy=>(h4 _ (hd i x hx)).1 _ (hd j y hy)
 refine⟨h1,λi o ho e he hb=>?_,λi o ho j hj=>?_,λi j x y hx hy d CA hr=>?_,λi j x y hx hy bf d CA=>?_,λi j x y hx hy az he1 he2=>?_,λi x hx zA m fX th=>?_⟩
 .have:=(h3 _ (XM i o ho)).1 e (by simpa using he)
  grind
 .have this:b.getD i 0=KR b o:=(h3 _ (XM i o ho)).2;rw[this] at hj;exact aqW hj
 .have:=pair i j x y hx hy
  simp only[Ge,gE,CA,bO,qx,v_,bne_iff_ne,I0] at this
  grind
 .have:=pair i j x y hx hy
  simp only[Ge,gE,CA,bO,qx,v_,bne_iff_ne,I0] at this
  grind
 .have:=pair i j x y hx hy
  simp only[Ge,gE,bO,qx,v_,he1,he2,az,bu,LX] at this
  rcases this.2 with h | h
  .simp at h
  .exact h
 .have:=(h4 _ (hd i x hx)).2
  simp only[UB,gE,zA,qx,v_,ma,qy,I0] at this
  rcases this with h | h
  .simp at h
  .have:=h (m - rH (ng gE l b) (gE x (b.getD i 0))) (by simp only[gE,zA] at fX ⊢;omega)
   simp only[gE,zA] at this fX;rw[show rH (ng gE l b) ⟨x.1.dst,Dz x.1,x.1.op.bB,aa,x.2,b.getD i 0⟩+(m - rH (ng gE l b) ⟨x.1.dst,Dz x.1,x.1.op.bB,aa,x.2,b.getD i 0⟩)=m from by omega] at this
   rcases this with h | h
   .left;simpa using h
   .exact .inr h
theorem Qm{P:Program}{ops:Array Oper}:∀{os:List Oper} {l:List AO},Df P ops os=U l->l.length=os.length/\∀i:Nat,∀o,os[i]?=U o->∃x,l[i]?=U x/\wS P ops o=U x
 | [],l,h=>by simp only[Df,bq] at h;subst h;exact⟨rfl,λi o h=>by simp at h⟩
 | o :: os, l, h => by
  simp only[Df,jH,ec] at h;obtain⟨x,h1,l',h2,rfl⟩:=h;obtain⟨h3,h4⟩:=Qm h2
  grind
def aou{l:List (AO × List Nat)}(h:KH P ops=U l):
 ∃b,B5 ops l b/\b.length=ops.size/\P.follows .mixedOrders=aa/\∀(i:Nat) o,ops[i]?=U o->∃x:AO × List Nat,l[i]?=U x/\wS P ops o=U x.1:=by
 unfold KH at h;cases h0:Df P ops ops.toList with
 | none=>rw[h0] at h;simp at h
 | some l0 =>
 rw[h0] at h;simp only at h;split at h
 case isFalse=>simp at h
 rename_i hc;simp only[bq] at h;subst h;refine⟨_,facts hc.1,?_,hc.2,λi o ho=>?_⟩
 .have:=hc.1
  unfold AV at this;simp only[bO,cU] at this;exact this.1.1.2
 .have hlen:=(facts hc.1).size;obtain⟨h1,h2⟩:=Qm h0;obtain⟨x,k1,k2⟩:=h2 i o (by simpa using ho);have az:=(mX.1 ho).1;generalize hL:(l0.zip (ng gE (l0.map λo=>(o,[])) (zQ ops.toList [])))=z at hlen ⊢;have hz:i<z.length:=by simp at hlen;omega
  refine⟨_,by rw[AD,List.getElem?_zipIdx,bY hz];rfl,?_⟩
  have:z[i].1=x:=by
   have e:z[i]?=U z[i]:=bY hz;subst hL;rw[ado] at e;rw[k1] at e;exact(yY e.1).symm
  simpa [this] using k2
end Go.Am
