/-
  Part 1 of the proof of StackTextUptoCardSaid: a logic over the model, the forms of the functions that the law reaches, and what they compute.
-/
import Derived.WalkKit
import Derived.Orders
import Derived.Below
import Derived.Laws.Append
import Derived.Laws.AppendOwn
import Derived.Laws.Cells
import Derived.Laws.CopyRow
import Derived.Laws.BytesString
import Derived.Laws.Slices
import Derived.Laws.Small
import Derived.Laws.StructEq
import Derived.ChangeKeysEq
set_option linter.unusedVariables false
set_option linter.unusedSimpArgs false
set_option linter.defProp false
set_option linter.unusedSectionVars false
set_option maxRecDepth 4000
set_option maxHeartbeats 4000000
open Option renaming some->aa,none->aj
open Bool renaming true->ab,false->ar
open List renaming replicate->aq,range->bA,getD->fW,zipWith->mu
open Eq renaming mpr->ey
open Ne renaming symm->fJ
namespace Go.Am
def af := @And.intro
def aB := @if_neg
def aF := @if_pos
def aJ := @decide_eq_false
def aK := @decide_eq_true
def aN := @List.length_map
def bc := @Option.some.injEq
def bg := @Bool.and_eq_true
def bM := @List.length_append
def bQ := @decide_eq_true_eq
def bY := @Nat.le_refl
def b9 := @decide_true
def cz := @List.map_cons
def cF := @if_false
def cK := @List.getElem?_eq_getElem
def cM := @if_true
def dj := @List.getElem_mem
def dm := @List.length_cons
def dn := @Option.map_eq_some_iff
def dP := @Bool.false_eq_true
def dQ := @List.length_nil
def dX := @List.take_length
def eD := @List.append_nil
def eM := @List.all_eq_true
def eN := @List.append_assoc
def fe := @List.map_nil
def fh := @List.forall_mem_cons
def fi := @List.mem_append
def fy := @List.getElem?_eq_some_iff
def fI := @List.length_singleton
def fL := @decide_false
def fX := @List.map_append
def gi := @Int.toNat_natCast
def gQ := @List.nil_append
def il := @List.cons_append
def im := @and_true
def iE := @List.cons.injEq
def iF := @List.range_succ
def iG := @List.take_succ_eq_append_getElem
def iH := @congrArg
def iM := @Bool.true_and
def iN := @List.length_take
def iV := @Option.bind_eq_some_iff
def jw := @Nat.add_mul
def j1 := @Bool.or_eq_true
def j5 := @List.map_eq_append_iff
def j6 := @Nat.zero_add
def kn := @List.length_eq_zero_iff
def kH := @List.mem_singleton
def lq := @List.mem_cons
def lU := @Array.getElem?_eq_some_iff
def lV := @List.flatten_cons
def mq := @List.mem_range
def mr := @List.singleton_append
def np := @Array.getElem?_eq_getElem
def nr := @List.drop_eq_getElem_cons
def px := @List.mem_map
def py := @List.sum_cons
def pW := @Prod.mk.injEq
def qF := @true_and
def qI := @List.flatMap_cons
def qJ := @List.getElem?_append_left
def rB := @Array.getD_eq_getD_getElem?
def rC := @Bool.and_true
def rD := @Bool.eq_iff_iff
def rE := @Bool.true_eq_false
def rF := @List.mem_of_getElem?
def rG := @List.take_append_drop
def sd := @Nat.mul_le_mul_right
def se := @Nat.mul_one
def si := @Option.isNone_iff_eq_none
def su := @decide_eq_decide
def ti := @BitVec.getLsbD_and
def tm := @Bool.not_eq_true'
def tq := @Function.comp_def
def tt := @List.mem_flatMap
def tu := @List.sum_nil
def ui := @Bool.or_eq_false_iff
def uj := @Int.natCast_zero
def uk := @List.eq_nil_of_length_eq_zero
def um := @List.find?_eq_none
def uo := @List.getElem?_map
def uq := @List.mem_iff_getElem
def ur := @Nat.lt_of_lt_of_le
def uu := @Option.map_some
def vz := @BitVec.getLsbD_of_ge
def vB := @List.all_cons
def vC := @List.flatten_append
def vD := @List.getElem?_drop
def vE := @List.range_eq_range'
def vF := @Nat.lt_or_ge
def vG := @Option.some.inj
def xd := @List.flatMap_append
def xe := @List.getElem?_eq_none
def xf := @List.take_succ_cons
def xg := @Nat.add_zero
def xh := @Nat.min_eq_left
def xi := @Nat.one_mul
def xl := @Option.bind_some
def xw := @decide_eq_false_iff_not
def yG := @Bool.decide_and
def yK := @List.any_eq_true
def yL := @List.drop_drop
def yM := @List.filter_cons
def yN := @List.foldl_append
def yO := @List.foldl_cons
def yP := @List.getElem?_take_of_lt
def yQ := @Nat.le_trans
def yR := @Option.getD_some
def yS := @Option.isNone_none
def AF := @Int.eq_ofNat_of_zero_le
def AG := @Int.ofNat_eq_natCast
def AI := @List.all_eq_false
def AJ := @List.filter_append
def AK := @List.getElem?_append_right
def AL := @List.getElem_map
def AM := @List.replicate_succ
def AN := @List.take_of_length_le
def AP := @Nat.lt_trichotomy
def Cj := @Array.getElem?_setIfInBounds_ne
def Ck := @Array.length_toList
def Cl := @Bool.false_or
def Cp := @List.find?_append
def Cq := @List.length_filter_le
def Cr := @List.map_map
def Cs := @List.mem_of_mem_take
def Cv := @Option.isSome_none
def CD := @beq_iff_eq
def Dv := @of_decide_eq_true
def D2 := @Array.ext'
def D4 := @Bool.and_eq_false_iff
def D5 := @List.all_append
def D6 := @List.drop_length
def D7 := @List.drop_succ_cons
def D8 := @List.getElem?_set_ne
def D9 := @List.prefix_rfl
def D_ := @List.range'_succ
def D' := @Nat.add_comm
def Ea := @Option.isNone_some
def Eb := @Option.isSome_iff_exists
def Ec := @Option.isSome_some
def Et := @decide_eq_true_iff
def Ew := @dif_pos
def Ey := @false_and
def F1 := @or_false
def GG := @BitVec.getLsbD_ushiftRight
def GL := @List.append_eq_nil_iff
def GM := @List.find?_eq_some_iff_append
def GN := @List.getElem_cons_succ
def GO := @List.getLast?_concat
def GP := @List.map_singleton
def GQ := @List.mem_filter
def GR := @List.not_mem_nil
def GS := @Nat.add_assoc
def GU := @Nat.le_zero
def GV := @Nat.mul_le_mul
def GW := @Nat.succ_mul
def Jh := @not_true_eq_false
def Kk := @BitVec.getLsbD_or
def Kl := @Bool.and_self
def Km := @Bool.false_and
def Kr := @Int.le_refl
def Kt := @List.dropLast_concat
def Ku := @List.drop_take
def Kv := @List.drop_zero
def Kw := @List.filterMap_cons
def Kx := @List.find?_cons
def Ky := @List.flatMap_nil
def Kz := @List.getElem?_cons_zero
def KA := @List.getElem?_range
def KB := @List.getElem?_take
def KC := @List.getElem?_zip_eq_some
def KD := @List.length_drop
def KE := @List.mem_append_left
def KF := @List.mem_of_find?_eq_some
def KG := @List.mem_zipIdx_iff_getElem?
def KH := @List.nodup_append
def KI := @List.nodup_cons
def KJ := @List.take_append_of_le_length
def KL := @Nat.eq_zero_or_pos
def KM := @Nat.le_of_lt
def KN := @Nat.lt_of_not_le
def KO := @Nat.lt_succ_self
def KP := @Nat.zero_le
def KT := @UInt8.toNat_inj
def KY := @and_assoc
def Qz := @Array.getElem?_toList
def QA := @Array.mem_of_getElem?
def QB := @Array.toList_setIfInBounds
def QC := @BitVec.getLsbD_shiftLeft
def QD := @BitVec.getLsbD_zero
def QE := @BitVec.toNat_shiftLeft
def QF := @Bool.and_false
def QK := @List.all_nil
def QL := @List.any_eq_false
def QM := @List.count_cons_self
def QN := @List.count_eq_zero
def QO := @List.drop_eq_nil_of_le
def QP := @List.drop_of_length_le
def QR := @List.eq_nil_or_concat
def QS := @List.ext_getElem
def QT := @List.ext_getElem?
def QU := @List.flatten_nil
def QV := @List.getElem?_set_self
def QW := @List.getElem?_zipIdx
def QX := @List.map_take
def QY := @List.mem_append_right
def QZ := @List.mem_cons_of_mem
def Q0 := @List.mem_filterMap
def Q1 := @List.range'_append
def Q2 := @List.size_toArray
def Q3 := @Nat.lt_succ_iff_lt_or_eq
def Q4 := @Nat.mod_eq_of_lt
def Q5 := @Nat.shiftLeft_eq
def Q6 := @Nat.sub_self
def Q8 := @Option.isSome_eq_false_iff
def WV := @not_false_eq_true
def aal := @Array.getElem?_extract
def aam := @Array.getElem?_setIfInBounds
def aan := @BitVec.toNat_ushiftRight
def aao := @Bool.eq_false_or_eq_true
def aaq := @List.append_inj_right'
def aar := @List.drop_append_of_le_length
def aas := @List.filter_eq_nil_iff
def aat := @List.flatMap_eq_nil_iff
def aau := @List.getElem?_replicate
def aav := @List.getElem?_toArray
def aaw := @List.length_pos_of_mem
def aax := @List.mem_iff_getElem?
def aay := @List.mem_take_iff_getElem
def aaz := @List.nodup_iff_pairwise_ne
def aaA := @List.pairwise_iff_getElem
def aaB := @List.perm_append_singleton
def aaC := @List.set_getElem_self
def aaD := @List.takeWhile_sublist
def aaE := @Nat.add_sub_cancel_left
def aaF := @Nat.shiftRight_eq_div_pow
def aaG := @Nat.testBit_two_pow_sub_one
end Go.Am
namespace Go.Am
inductive Pl where
 | aE (i:Nat)
 | out (b:Nat)
 | kT (b:Nat)
inductive Tk where
 | no
 | aZ
 | tk (t:Nat)
inductive V where
 | any
 | bool (b:Bool)
 | int (k:IntKind) (n:Int)
 | aG (s:List UInt8)
 | jr
 | ptr (p:Pl) (off:Nat)
 | elt (cs:List V) (off:Nat)
 | sl (t:Tk) (k:Nat) (l:List (List V))
 | agg (cs:List V)
 | bH (cs:List V)
 | fn (f:Fn) (first cap:List V)
 | raw (v:Value)
inductive fz where
 | const
 | nC
 | jq (i:Nat)
 | rh
 | hZ (t c:Nat)
def fz.iX:fz->Nat->Prop
 | .const,_=>True
 | .hZ _ c,o=>o<c
 | _,_=>False
structure Env where
 w:World
 bf:Nat->fz
 aE:Nat->Option Nat
 aR:Nat->Option Nat
def Env.nl(E:Env):Env:={E with aE:=λ_=>aj}
@[simp] theorem Env.WO(E:Env):E.nl.w=E.w:=rfl
@[simp] theorem Env.WN(E:Env):E.nl.bf=E.bf:=rfl
@[simp] theorem Env.ayg(E:Env):E.nl.aR=E.aR:=rfl
@[simp] theorem Env.ayf(E:Env)(i:Nat):E.nl.aE i=none:=rfl
@[simp] theorem Env.apP(E:Env):E.nl.nl=E.nl:=rfl
def vJ(E:Env)(k n:Nat)(a:Option Addr)(cap:Nat):Tk->Prop
 | .no=>True
 | .aZ=>cap=n
 | .tk t=>∃m,E.aR t=aa m/\n<=m/\(n=m->cap=n\/∃b cs e,a=aa ⟨b,0,aj⟩/\E.bf b = .hZ t (n*k)/\E.w.heap[b]?=aa (.cells cs e (0,0))/\cs.size=cap*k)
mutual
def R:Env->V->Value->Prop
 | _,.any,_=>True
 | _,.bool b,v=>v = .bool b
 | _,.int k n,v=>v = .int k n
 | _,.aG s,v=>v = .string ⟨s.toArray⟩
 | _,.jr,v=>v = .pointer aj
 | E,.ptr (.aE i) off,v=>∃b,E.aE i=aa b/\v = .pointer (aa ⟨b,off,aj⟩)
 | _,.ptr (.out b) off,v=>v = .pointer (aa ⟨b,off,aj⟩)
 | _,.ptr (.kT b) off,v=>v = .pointer (aa ⟨b,off,aj⟩)
 | E,.elt cs off,v=>∃b o,v = .pointer (aa ⟨b,o+off,aj⟩)/\eU E.nl cs b o
 | E,.sl t k l,v=>∃a cap,v = .slice a l.length cap/\l.length<=cap/\(l=[]\/∃b o,a=aa ⟨b,o,aj⟩/\gv E.nl k l b o)/\vJ E k l.length a cap t
 | E,.agg cs,v=>∃vs,v = .agg vs/\RL E cs vs.toList
 | E,.bH cs,v=>∃vs,v = .tuple vs/\RL E cs vs.toList
 | E,.fn f first cap,v=>∃fs cs,v = .func f fs cs/\RL E first fs.toList/\RL E cap cs.toList
 | _,.raw u,v=>v=u
def eU:Env->List V->Nat->Nat->Prop
 | _,[],_,_=>True
 | E,x::xs,b,o=>(∃c,E.w.cell? ⟨b,o,aj⟩=aa c/\(E.bf b).iX o/\c.oneCell' = ab/\R E x c)/\eU E xs b (o+1)
def gv:Env->Nat->List (List V)->Nat->Nat->Prop
 | _,_,[],_,_=>True
 | E,k,x::xs,b,o=>x.length=k/\eU E x b o/\gv E k xs b (o+k)
def RL:Env->List V->List Value->Prop
 | _,[],[]=>True
 | E,x::xs,v::vs=>R E x v/\RL E xs vs
 | _,_,_=>False
end
structure Env.le(E E' : Env):Prop where
 cell:∀b o c,(E.bf b).iX o->E.w.cell? ⟨b,o,aj⟩=aa c->(E'.bf b).iX o/\E'.w.cell? ⟨b,o,aj⟩=aa c
 aE:∀i b,E.aE i=aa b->E'.aE i=aa b
 tok:∀t n,E.aR t=aa n->∃n',E'.aR t=aa n' /\ n<=n' /\ (n' = n->∀b c,E.bf b = .hZ t c ->
  E'.bf b = .hZ t c/\∀cs e,E.w.heap[b]?=aa (.cells cs e (0,0))->∃cs',E'.w.heap[b]?=aa (.cells cs' e (0,0))/\cs'.size=cs.size)
variable{E E':Env}
def Env.le.nl(h:E.le E'):E.nl.le E'.nl:=⟨h.cell,λ_ _ h=>by simp at h,h.tok⟩
def Env.le.refl(E:Env):E.le E:=⟨λ_ _ _ h h' => ⟨h,h'⟩,λ_ _ h=>h,λ_ n h=>⟨n,h,bY _,λ_ _ _ hr=>⟨hr,λcs _ hc=>⟨cs,hc,rfl⟩⟩⟩⟩
def Env.le.trans{F G'':Env}(h:E.le F)(k:F.le G''):E.le G'':=by
 refine⟨λb o c hc hv=>?_,λi b hb=>k.aE i b (h.aE i b hb),λt n hn=>?_⟩
 .obtain⟨U,h2⟩:=h.cell b o c hc hv;exact k.cell b o c U h2
 .obtain⟨n',U,h2,h3⟩:=h.tok t n hn;obtain⟨WB,k1,k2,k3⟩:=k.tok t n' U;refine⟨WB,k1,yQ h2 k2,λhe b c hr=>?_⟩;have e1:n' = n:=by omega
  have e2:WB = n' := by omega
  obtain⟨r1,r2⟩:=h3 e1 b c hr;obtain⟨s1,s2⟩:=k3 e2 b c r1;refine⟨s1,λcs e b7=>?_⟩;obtain⟨cs',q1,q2⟩:=r2 cs e b7;obtain⟨ael,q3,q4⟩:=s2 cs' e q1;exact⟨ael,q3,q4.trans q2⟩
variable{a:Option Addr}{cap k:Nat}
def vJ.mono(h:E.le E'){n:Nat}{t:Tk}(ht:vJ E k n a cap t):vJ E' k n a cap t:=by
 cases t with
 | no=>trivial
 | aZ=>exact ht
 | tk t =>
  obtain⟨m,U,h2,h3⟩:=ht;obtain⟨m',k1,k2,k3⟩:=h.tok t m U;refine⟨m',k1,yQ h2 k2,λhe=>?_⟩;have e1:n=m:=by omega
  have e2:m' = m:=by omega
  rcases h3 e1 with h4 | ⟨b,cs,e,ha,hr,hc,hs⟩
  .exact .inl h4
  .obtain⟨r1,r2⟩:=k3 e2 b _ hr;obtain⟨cs',r3,r4⟩:=r2 cs e hc;exact .inr ⟨b,cs',e,ha,r1,r3,r4.trans hs⟩
mutual
def R.mono:∀(x:V) {E E' : Env} (_:E.le E') {v:Value},R E x v->R E' x v
 | .any,_,_,_,_,_=>by simp only[R]
 | .bool _,_,_,_,_,hr=>by simp only[R] at hr ⊢;exact hr
 | .int _ _,_,_,_,_,hr=>by simp only[R] at hr ⊢;exact hr
 | .aG _,_,_,_,_,hr=>by simp only[R] at hr ⊢;exact hr
 | .jr,_,_,_,_,hr=>by simp only[R] at hr ⊢;exact hr
 | .ptr (.aE i) _, _, _, h, _, hr => by
  simp only[R] at hr ⊢;obtain⟨b,U,h2⟩:=hr;exact⟨b,h.aE i b U,h2⟩
 | .ptr (.out _) _,_,_,_,_,hr=>by simp only[R] at hr ⊢;exact hr
 | .ptr (.kT _) _,_,_,_,_,hr=>by simp only[R] at hr ⊢;exact hr
 | .elt cs _, _, _, h, _, hr => by
  simp only[R] at hr ⊢;obtain⟨b,o,U,h2⟩:=hr;exact⟨b,o,U,eU.mono cs h.nl h2⟩
 | .sl t k l, _, _, h, _, hr => by
  simp only[R] at hr ⊢;obtain⟨a,cap,U,h2,h3,h4⟩:=hr;refine⟨a,cap,U,h2,?_,h4.mono h⟩
  rcases h3 with h3 | ⟨b,o,h3,h5⟩
  .exact .inl h3
  .exact .inr ⟨b,o,h3,gv.mono l h.nl h5⟩
 | .agg cs, _, _, h, _, hr => by
  simp only[R] at hr ⊢;obtain⟨vs,U,h2⟩:=hr;exact⟨vs,U,RL.mono cs h h2⟩
 | .bH cs, _, _, h, _, hr => by
  simp only[R] at hr ⊢;obtain⟨vs,U,h2⟩:=hr;exact⟨vs,U,RL.mono cs h h2⟩
 | .fn _ first cap, _, _, h, _, hr => by
  simp only[R] at hr ⊢;obtain⟨fs,cs,U,h2,h3⟩:=hr;exact⟨fs,cs,U,RL.mono first h h2,RL.mono cap h h3⟩
 | .raw _,_,_,_,_,hr=>by simp only[R] at hr ⊢;exact hr
def eU.mono:∀(l:List V) {E E' : Env} (_:E.le E') {b o:Nat},eU E l b o->eU E' l b o
 | [],_,_,_,_,_,_=>by simp only[eU]
 | x :: xs, _, _, h, b, o, hr => by
  simp only[eU] at hr ⊢;obtain⟨⟨c,U,h2,h5,h3⟩,h4⟩:=hr;obtain⟨k1,k2⟩:=h.cell b o c h2 U;exact⟨⟨c,k2,k1,h5,R.mono x h h3⟩,eU.mono xs h h4⟩
def gv.mono:∀(l:List (List V)) {E E' : Env} (_:E.le E') {k b o:Nat},gv E k l b o->gv E' k l b o
 | [],_,_,_,_,_,_,_=>by simp only[gv]
 | x :: xs, _, _, h, _, _, _, hr => by
  simp only[gv] at hr ⊢;obtain⟨U,h2,h3⟩:=hr;exact⟨U,eU.mono x h h2,gv.mono xs h h3⟩
def RL.mono:∀(l:List V) {E E' : Env} (_:E.le E') {vs:List Value},RL E l vs->RL E' l vs
 | [],_,_,_,[],_=>by simp only[RL]
 | [],_,_,_,_::_,hr=>by simp only[RL] at hr
 | _::_,_,_,_,[],hr=>by simp only[RL] at hr
 | x :: xs, _, _, h, v :: vs, hr => by
  simp only[RL] at hr ⊢;exact⟨R.mono x h hr.1,RL.mono xs h hr.2⟩
end
structure ah where
 box:Nat->Option (List V)
 aR:Nat->Option Nat
 b8:Nat->Option (List V)
structure St where
 t:List V
 aE:List (List V)
 out:ah
def j4(E:Env)(b:Nat)(cs:List V):Prop :=
 ∃c e,E.w.heap[b]?=aa (.cells c e (0,0))/\cs.length<=c.size/\∀(j:Nat) x,cs[j]?=aa x->∃v,c[j]?=aa v/\R E x v
structure Env.ok(E:Env)(D:ah):Prop where
 box:∀b cs,D.box b=aa cs->E.bf b = .rh/\j4 E.nl b cs
 aR:∀t n,D.aR t=aa n->E.aR t=aa n
 fresh:∀b,E.w.heap.size<=b->E.bf b = .const
 nt:∃N,∀t,N<=t->E.aR t=aj
 b8:∀b cs,D.b8 b=aa cs->eU E.nl cs b 0
structure Env.dv(E:Env)(ls:List (List V)):Prop where
 box:∀i cs,ls[i]?=aa cs->∃b,E.aE i=aa b/\E.bf b = .jq i/\j4 E b cs
 none:∀i,ls.length<=i->E.aE i=aj
def akQ(w:World)(c:Array Value)(t:TypeId)(a:Addr):(w.alloc (.cells c t)).frozen? a=w.frozen? a:=by
 by_cases h:a.block=w.heap.size
 .have e1:(w.alloc (.cells c t)).heap[a.block]?=aa (.cells c t):=by rw[h];exact heap_alloc_new w _
  have e2:w.heap[a.block]?=none:=by rw[h];simp
  simp[World.frozen?,e1,e2]
 .by_cases h2:a.block<w.heap.size
  .simp only[World.frozen?,heap_alloc_old w (.cells c t) h2]
  .have e2:w.heap[a.block]?=none:=by simp;omega
   have e1:(w.alloc (.cells c t)).heap[a.block]?=none:=by simp;omega
   simp only[World.frozen?,e1,e2]
variable{b:Nat}{c new:Array Value}{e:TypeId}{w:World}
def EG(hb:w.heap[b]?=aa (.cells c e (0,0)))(a:Addr):(w.setRow b new).frozen? a=w.frozen? a:=by
 by_cases h:a.block=b
 .have e1:=setRow_heap w b c new e _ hb;rw[<-h] at hb e1;simp only[World.frozen?,h] at hb e1 ⊢;simp only[e1,hb]
 .simp only[World.frozen?,setRow_other w b a.block new h]
structure Fr(E E' : Env):Prop where
 os:E'.w.os=E.w.os
 output:E'.w.output=E.w.output
 tape:E'.w.tape=E.w.tape
 size:E.w.heap.size<=E'.w.heap.size
 iq:∀a,E'.w.frozen? a=E.w.frozen? a
 cell:∀b o c,(E.bf b).iX o->E.w.cell? ⟨b,o,aj⟩=aa c->(E'.bf b).iX o/\E'.w.cell? ⟨b,o,aj⟩=aa c
 tok:∀t n,E.aR t=aa n->∃n',E'.aR t=aa n' /\ n<=n' /\ (n' = n->∀b c,E.bf b = .hZ t c ->
  E'.bf b = .hZ t c/\∀cs e,E.w.heap[b]?=aa (.cells cs e (0,0))->∃cs',E'.w.heap[b]?=aa (.cells cs' e (0,0))/\cs'.size=cs.size)
 same:∀b,b<E.w.heap.size->E.bf b = .const\/E.bf b = .nC->E'.w.heap[b]?=E.w.heap[b]?/\E'.bf b=E.bf b
 Ej:∀b,b<E.w.heap.size->E'.bf b = .rh->E.bf b = .rh\/∃j,E.bf b = .jq j
 Ek:∀b t c,b<E.w.heap.size->E'.bf b = .hZ t c->∃c0,E.bf b = .hZ t c0
 CC:∀b i,b<E.w.heap.size->E'.bf b = .jq i->∃j,E.bf b = .jq j
 shape:∀(b:Nat) (c:Array Value) (e:TypeId),E.w.heap[b]?=aa (.cells c e (0,0))->∃c' : Array Value,E'.w.heap[b]?=aa (.cells c' e (0,0))/\c'.size=c.size
def Fr.le(h:Fr E E')(hl:∀i b,E.aE i=aa b->E'.aE i=aa b):E.le E' := ⟨h.cell,hl,h.tok⟩
def Fr.nl(h:Fr E E'):E.nl.le E'.nl:=⟨h.cell,λ_ _ h=>by simp at h,h.tok⟩
def Fr.refl(E:Env):Fr E E :=
 ⟨rfl,rfl,rfl,bY _,λ_=>rfl,(Env.le.refl E).cell,(Env.le.refl E).tok,λ_ _ _=>⟨rfl,rfl⟩,λ_ _ h=>.inl h,λ_ _ c _ h=>⟨c,h⟩,λ_ i _ h=>⟨i,h⟩,λ_ c _ h=>⟨c,h,rfl⟩⟩
def Fr.trans{F G'':Env}(h:Fr E F)(k:Fr F G''):Fr E G'':=by
 refine⟨k.os.trans h.os,k.output.trans h.output,k.tape.trans h.tape,yQ h.size k.size,λa=>(k.iq a).trans (h.iq a),?_,?_,?_,?_,?_,?_,?_⟩
 .intro b o c hc hv;obtain⟨U,h2⟩:=h.cell b o c hc hv;exact k.cell b o c U h2
 .have h' : Env.le {E with aE:=λ_=>aj} {F with aE:=λ_=>aj}:=⟨h.cell,λ_ _ h=>h,h.tok⟩;have k' : Env.le {F with aE:=λ_=>aj} {G'' with aE:=λ_=>aj}:=⟨k.cell,λ_ _ h=>h,k.tok⟩;exact(h'.trans k').tok
 .intro b hb hr;obtain⟨U,h2⟩:=h.same b hb hr;obtain⟨k1,k2⟩:=k.same b (ur hb h.size) (by rw[h2];exact hr);exact⟨k1.trans U,k2.trans h2⟩
 .intro b hb hr
  rcases k.Ej b (ur hb h.size) hr with U | ⟨j,hj⟩
  .exact h.Ej b hb U
  .exact .inr (h.CC b j hb hj)
 .intro b t c hb hr;obtain⟨c0,h0⟩:=k.Ek b t c (ur hb h.size) hr;exact h.Ek b t c0 hb h0
 .intro b i hb hr;obtain⟨j,hj⟩:=k.CC b i (ur hb h.size) hr;exact h.CC b j hb hj
 .intro b c e hb;obtain⟨c1,U,h2⟩:=h.shape b c e hb;obtain⟨c2,k1,k2⟩:=k.shape b c1 e U;exact⟨c2,k1,k2.trans h2⟩
structure bN(E:Env)(st:St)(a:Act):Prop where
 ok:E.ok st.out
 dv:E.dv st.aE
 defers:a.defers=[]
 slot:RL E st.t a.tmps.toList
def ju(P:Program)(c:Code)(Q:Exit->St->Prop)(st:St):Prop :=
 ∀E a,bN E st a->c.wp P (λe a' w' => ∃E' aP,E'.w=w' /\ bN E' aP a' /\ Fr E E' /\ Q e aP) a E.w
def QH(P:Program)(f:FuncId):Prop:=∀args w,(callFunc f args).run P w = .ok (.enter f args) w
def ch(P:Program)(f:FuncId)(args:List V)(D:ah)(R' : V->ah->Prop):Prop :=
 QH P f/\∀(E:Env) (vs:Array Value),(∀i,E.aE i=aj)->E.ok D->RL E args vs.toList ->
  Calls P f vs E.w λe w' => ∃v x E' σ',e = .returned x/\E'.w=w' /\ (∀i,E'.aE i=aj)/\E'.ok σ' /\ R E' v x/\Fr E E' /\ R' v σ'
variable{P:Program}{f:FuncId}{D:ah}
def ch.mono{args:List V}{Rc Re:V->ah->Prop}(h:ch P f args D Rc)
 (hr:∀v σ',Rc v σ' -> Re v σ'):ch P f args D Re :=
 ⟨h.1,λE vs U h2 h3=>(h.2 E vs U h2 h3).mono λ_ _ ⟨v,x,E',σ',a,b,c,d,e,f,g⟩=>⟨v,x,E',σ',a,b,c,d,e,f,hr _ _ g⟩⟩
variable{Q:Exit->St->Prop}{st:St}
def OZ{c:Code}{Q':Exit->St->Prop}(h:ju P c Q st)(hq:∀e st,Q e st->Q' e st):ju P c Q' st :=
 λE a hs=>wp_mono (h E a hs) λ_ _ _ ⟨E',aP,U,h2,h3,h4⟩=>⟨E',aP,U,h2,h3,hq _ _ h4⟩
def aaL(P:Program)(c:Code)(Q:Exit->St->Prop):Exit->St->Prop
 | .normal,st=>ju P c Q st
 | e,st=>Q e st
def asM{x y:Code}(h:ju P x (aaL P y Q) st):ju P (.seq x y) Q st:=by
 intro E a hs;refine wp_seq (wp_mono (h E a hs) ?_);rintro e a' w' ⟨E',aP,rfl,h2,h3,h4⟩;cases e with
 | normal=>exact wp_mono (h4 E' a' h2) λ_ _ _ ⟨n5,Gk,k1,k2,k3,k4⟩=>⟨n5,Gk,k1,k2,h3.trans k3,k4⟩
 | exit id=>exact⟨E',aP,rfl,h2,h3,h4⟩
 | goto l=>exact⟨E',aP,rfl,h2,h3,h4⟩
 | ret=>exact⟨E',aP,rfl,h2,h3,h4⟩
 | panic c=>exact⟨E',aP,rfl,h2,h3,h4⟩
 | outgrown=>exact⟨E',aP,rfl,h2,h3,h4⟩
def asN(h:Q .normal st):ju P .skip Q st :=
 λE _ hs=>wp_skip ⟨E,st,rfl,hs,Fr.refl E,h⟩
def asG{id:Nat}(h:Q (.exit id) st):ju P (.exit id) Q st :=
 λE _ hs=>wp_exit ⟨E,st,rfl,hs,Fr.refl E,h⟩
def asK(h:Q .ret st):ju P .ret Q st :=
 λE _ hs=>wp_ret ⟨E,st,rfl,hs,Fr.refl E,h⟩
def asH{l:Nat}(h:Q .normal st):ju P (.label l) Q st :=
 λE _ hs=>wp_label ⟨E,st,rfl,hs,Fr.refl E,h⟩
def tj(id:Nat)(Q:Exit->St->Prop):Exit->St->Prop
 | .exit BC,st=>if BC = id then Q .normal st else Q (.exit BC) st
 | e,st=>Q e st
def asF{c:Code}{id:Nat}(h:ju P c (tj id Q) st):ju P (.block id c) Q st:=by
 intro E a hs;refine wp_block (wp_mono (h E a hs) ?_);rintro e a' w' ⟨E',aP,rfl,h2,h3,h4⟩;cases e with
 | exit BC =>
  simp only[tj] at h4;simp only[Exit.inBlock];split
  .rename_i h5;rw[aF h5] at h4;exact⟨E',aP,rfl,h2,h3,h4⟩
  .rename_i h5;rw[aB h5] at h4;exact⟨E',aP,rfl,h2,h3,h4⟩
 | normal=>exact⟨E',aP,rfl,h2,h3,h4⟩
 | goto l=>exact⟨E',aP,rfl,h2,h3,h4⟩
 | ret=>exact⟨E',aP,rfl,h2,h3,h4⟩
 | panic c=>exact⟨E',aP,rfl,h2,h3,h4⟩
 | outgrown=>exact⟨E',aP,rfl,h2,h3,h4⟩
def G1{E:Env}:∀{l:List V} {vs:List Value},RL E l vs->∀(n:Nat) (u:Value),R E (l.getD n .any) (vs.getD n u)
 | [],[],_,n,u=>by simp[R]
 | [],_::_,h,_,_=>by simp[RL] at h
 | _::_,[],h,_,_=>by simp[RL] at h
 | x :: xs, v :: vs, h, n, u => by
  simp only[RL] at h;cases n with
  | zero=>simpa using h.1
  | succ n=>simpa using G1 h.2 n u
def gj{E:Env}:∀{l:List V} {vs:List Value},RL E l vs->l.length=vs.length
 | [],[],_=>rfl
 | [],_::_,h=>by simp[RL] at h
 | _::_,[],h=>by simp[RL] at h
 | x :: xs, v :: vs, h => by
  simp only[RL] at h;simp[gj h.2]
def sk{E:Env}:∀{l:List V} {vs:List Value},RL E l vs->∀(n:Nat) (x:V),l[n]?=aa x->∃v,vs[n]?=aa v/\R E x v
 | [],[],_,n,x,hx=>by simp at hx
 | [],_::_,h,_,_,_=>by simp[RL] at h
 | _::_,[],h,_,_,_=>by simp[RL] at h
 | x :: xs, v :: vs, h, n, y, hy => by
  simp only[RL] at h;cases n with
  | zero=>simp at hy;subst hy;exact⟨v,by simp,h.1⟩
  | succ n=>simp at hy;obtain⟨u,U,h2⟩:=sk h.2 n y hy;exact⟨u,by simpa using U,h2⟩
def Ee{E:Env}:∀{l:List V} {vs:List Value},l.length=vs.length->(∀(n:Nat) x v,l[n]?=aa x->vs[n]?=aa v->R E x v)->RL E l vs
 | [],[],_,_=>by simp[RL]
 | [],_::_,h,_=>by simp at h
 | _::_,[],h,_=>by simp at h
 | x :: xs, v :: vs, h, hx => by
  simp only[RL];exact⟨hx 0 x v (by simp) (by simp),Ee (by simpa using h) λn y u U h2=>hx (n+1) y u (by simpa using U) (by simpa using h2)⟩
def G2{E:Env}:∀{l:List V} {vs:List Value},RL E l vs->∀(n:Nat) {x:V} {v:Value},R E x v->RL E (l.set n x) (vs.set n v)
 | [],[],_,_,_,_,_=>by simp[RL]
 | [],_::_,h,_,_,_,_=>by simp[RL] at h
 | _::_,[],h,_,_,_,_=>by simp[RL] at h
 | x :: xs, v :: vs, h, n, y, u, hy => by
  simp only[RL] at h;cases n with
  | zero=>simp only[List.set,RL];exact⟨hy,h.2⟩
  | succ n=>simp only[List.set,RL];exact⟨h.1,G2 h.2 n hy⟩
def vH{E:Env}:∀{l:List V} {vs:List Value} {m:List V} {us:List Value},RL E l vs->RL E m us->RL E (l++m) (vs++us)
 | [],[],_,_,_,h=>by simpa using h
 | [],_::_,_,_,h,_=>by simp[RL] at h
 | _::_,[],_,_,h,_=>by simp[RL] at h
 | x :: xs, v :: vs, _, _, h, k => by
  simp only[RL,il] at h ⊢;exact⟨h.1,vH h.2 k⟩
def Q_(vs:List Value):RL E (aq vs.length V.any) vs:=by
 induction vs with
 | nil=>simp[RL]
 | cons v vs ih=>simp only[dm,AM,RL];exact⟨by simp[R],ih⟩
def St.put(st:St)(d:Option Nat)(v:V):St :=
 match d with
 | some n=>⟨st.t.set n v,st.aE,st.out⟩
 | none=>st
variable{v:V}
def bN.put{a:Act}(h:bN E st a){x:Value}(hv:R E v x)(d:Option Nat):bN E (st.put d v) (a.put d x):=by
 cases d with
 | none=>exact h
 | some n=>exact⟨h.ok,h.dv,h.defers,by simpa [St.put,Act.put] using G2 h.slot n hv⟩
def aQ:Nat:=268435456
inductive X where
 | s (n:Nat)
 | c (v:V)
inductive OQ where
 | nil
 | len
 | idx (k:Nat)
 | lT (k:Nat) (lo hi mx:Bool)
 | app (k:Nat)
 | mk (z:List V)
 | mS (k:Nat)
 | new (k:Nat)
 | min
 | max
 | JM (m k:Nat) (lo hi:Bool)
 | iq (k:Nat) (lo hi:Bool)
 | Lr
 | n6
 | K3
 | CN (k:Nat)
 | Lk
 | Nx
 | IE (m:Nat)
 | aM
inductive aO where
 | mv (x:X)
 | pick (c a b:X)
 | alloc (z:List V)
 | box (n:Nat) (x:X)
 | vO (n:Nat) (x:X)
 | build (z:List V) (ps:List (Nat × Nat × X))
 | ko (k:Nat) (xs:List X)
 | load (agg:Bool) (n:Nat) (x:X)
 | store (n:Nat) (a x:X)
 | wN (x:X)
 | dU (op:BinOp) (x y:X)
 | pZ (op:BinOp) (x y:X)
 | vM (neg:Bool) (x y:X)
 | cat (x y:X)
 | l8 (neg:Bool) (ks:List Nat) (x y:X)
 | sy (neg:Bool) (x y:X)
 | not (x:X)
 | wJ (x:X)
 | wK (x:X)
 | qa (off:Nat) (x:X)
 | v9 (agg:Bool) (off n:Nat) (x:X)
 | tT (k:Nat) (x i:X)
 | tV (x i:X)
 | sO (m k:Nat) (x i:X)
 | call (f:FuncId) (xs:List X)
 | jj (x:X) (xs:List X)
 | app (k:Nat) (s x:X)
 | n6 (s x:X)
 | lT (k:Nat) (x:X) (lo hi mx:Option X)
 | Ai (x:X) (lo hi:Option X)
 | ext (x:X) (i:Nat)
 | ky (f:Fn) (first cap:List X)
 | qP (k:IntKind) (x:X)
 | uD (x:X)
 | qL (z:List V)
 | gS (n:Nat) (x:X)
 | own (q:OQ) (xs:List X)
structure AO where
 dst:Option Nat
 op:aO
 guard:Option (Nat × Bool)
def ev(st:St):X->V
 | .s n=>st.t.getD n .any
 | .c v=>v
def dw(st:St):List X->List V
 | []=>[]
 | x::xs=>ev st x::dw st xs
def V.wd:V->Option Nat
 | .agg cs=>aa cs.length
 | .any=>aj
 | .bH _=>aj
 | .raw u=>if u.oneCell' then aa 1 else aj
 | _=>aa 1
def V.cells:V->List V
 | .agg cs=>cs
 | v=>[v]
def V.one:V->Bool
 | .bool _ | .int _ _ | .aG _ | .jr | .ptr _ _ | .elt _ _ | .sl _ _ _ | .fn _ _ _=>ab
 | .raw u=>u.oneCell'
 | _=>ar
def cW:List V->Bool
 | []=>ab
 | x::xs=>x.one&&cW xs
mutual
def V.c9:V->Bool
 | .ptr (.aE _) _=>ar
 | .agg cs=>bT cs
 | .bH cs=>bT cs
 | .fn _ first cap=>bT first&&bT cap
 | _=>ab
def bT:List V->Bool
 | []=>ab
 | x::xs=>x.c9&&bT xs
end
mutual
def V.erase:V->V
 | .sl _ k l=>.sl .no k l
 | .agg cs=>.agg (bD cs)
 | .bH cs=>.bH (bD cs)
 | v=>v
def bD:List V->List V
 | []=>[]
 | x::xs=>x.erase::bD xs
end
def takeN:Nat->List V->Option (List V)
 | 0,_=>aa []
 | n+1,x::xs=>(takeN n xs).map (x::·)
 | _+1,[]=>aj
def bP:Bool->Nat->List V->Option V
 | true,n,cs=>(takeN n cs).map V.agg
 | false,_,c::_=>aa c
 | false,_,[]=>aj
def over:List V->List V->List V
 | [],_=>[]
 | l,[]=>l
 | _::l,x::xs=>x::over l xs
def setAt:List V->Nat->List V->List V
 | l,0,xs=>over l xs
 | [],_+1,_=>[]
 | a::l,n+1,xs=>a::setAt l n xs
def cw:Nat->List V->Bool
 | 0,_=>ab
 | n+1,_::xs=>cw n xs
 | _+1,[]=>ar
def ah.set(D:ah)(b:Nat)(cs:List V):ah:={D with box:=λx=>if x=b then aa cs else D.box x}
def ah.a_(D:ah)(t n:Nat):ah:={D with aR:=λx=>if x=t then aa n else D.aR x}
def Hm(st:St):Pl->Option (List V)
 | .aE i=>st.aE[i]?
 | .out b=>st.out.box b
 | .kT b=>st.out.b8 b
def mf(st:St)(agg:Bool)(n:Nat):V->Option V
 | .ptr p off=>(Hm st p).bind λcs=>bP agg n (cs.drop off)
 | .elt cs off=>bP agg n (cs.drop off)
 | _=>aj
def dW(st:St)(n:Nat)(x:V):V->Option St
 | .ptr (.aE i) off=>(st.aE[i]?).bind λcs=>if cw n (cs.drop off)=ab/\x.wd=aa n/\cW x.cells=ab then aa ⟨st.t,st.aE.set i (setAt cs off x.cells),st.out⟩ else aj
 | .ptr (.out b) off=>(st.out.box b).bind λcs=>if cw n (cs.drop off)=ab/\x.wd=aa n/\cW x.cells=ab/\bT x.cells=ab then aa ⟨st.t,st.aE,st.out.set b (setAt cs off x.cells)⟩ else aj
 | _=>aj
def p7(st:St):List V->List (Nat × Nat × X)->Option (List V)
 | z,[]=>aa z
 | z,(off,n,x)::ps=>if cw n (z.drop off)=ab/\(ev st x).wd=aa n then p7 st (setAt z off (ev st x).cells) ps else aj
def mj(st:St)(k:Nat):List X->Option (List (List V))
 | []=>aa []
 | x::xs=>if (ev st x).wd=aa k/\bT (ev st x).cells=ab/\cW (ev st x).cells=ab then(mj st k xs).map (bD (ev st x).cells::·) else aj
def BE:IntKind->IntKind->Bool
 | .i8,.i8 | .i16,.i16 | .i32,.i32 | .i64,.i64 | .u8,.u8 | .u16,.u16 | .u32,.u32 | .u64,.u64=>ab
 | _,_=>ar
def IF{a b:IntKind}(h:BE a b=ab):a=b:=by cases a<;>cases b<;>first | rfl | (simp[BE] at h)
def iJ(k:IntKind)(a b:Int):BinOp->Option V
 | .add=>aa (.int k (k.wrap (a+b)))
 | .sub=>aa (.int k (k.wrap (a - b)))
 | .mul=>aa (.int k (k.wrap (a*b)))
 | .eql=>aa (.bool (decide (a=b)))
 | .neq=>aa (.bool (!decide (a=b)))
 | .lss=>aa (.bool (decide (a<b)))
 | .leq=>aa (.bool (decide (a<=b)))
 | .gtr=>aa (.bool (decide (b<a)))
 | .geq=>aa (.bool (decide (b<=a)))
 | .quo=>if b=0 then aj else aa (.int k (k.wrap (a.tdiv b)))
 | .rem=>if b=0 then aj else aa (.int k (a.tmod b))
 | .and=>aa (.int k (k.wrap ((BitVec.ofInt k.bits a&&&BitVec.ofInt k.bits b).toNat:Nat)))
 | .or=>aa (.int k (k.wrap ((BitVec.ofInt k.bits a|||BitVec.ofInt k.bits b).toNat:Nat)))
 | .xor=>aa (.int k (k.wrap ((BitVec.ofInt k.bits a ^^^ BitVec.ofInt k.bits b).toNat:Nat)))
 | .andNot=>aa (.int k (k.wrap ((BitVec.ofInt k.bits a&&&~~~BitVec.ofInt k.bits b).toNat:Nat)))
 | .shl=>if b<0 then aj else aa (.int k (k.wrap (a*2^(Nat.min b.toNat k.bits))))
 | .shr=>if b<0 then aj else aa (.int k (a.fdiv (2^(Nat.min b.toNat k.bits))))
def BF:BinOp->Bool
 | .shl | .shr=>ab
 | _=>ar
def vN(op:BinOp):V->V->Option V
 | .int k a,.int k' b=>if BE k k' = ab\/BF op=ab then iJ k a b op else aj
 | _,_=>aj
def yt(a b:List UInt8):BinOp->Option V
 | .eql=>aa (.bool (decide (a=b)))
 | .neq=>aa (.bool (!decide (a=b)))
 | .lss=>aa (.bool (Op.bytesLess a b))
 | .leq=>aa (.bool (Op.bytesLess a b||decide (a=b)))
 | .gtr=>aa (.bool (!(Op.bytesLess a b||decide (a=b))))
 | .geq=>aa (.bool (!Op.bytesLess a b))
 | _=>aj
def AW(op:BinOp):V->V->Option V
 | .aG a,.aG b=>yt a b op
 | _,_=>aj
def y8(neg:Bool):V->V->Option V
 | .bool a,.bool b=>aa (.bool (if neg then !decide (a=b) else decide (a=b)))
 | _,_=>aj
def fZ:List Nat->List V->List V->Option Bool
 | [],[],[]=>aa ab
 | 1::ks,.int k a::xs,.int k' b::ys=>if BE k k' = ab then(fZ ks xs ys).map (decide (a=b)&&·) else aj
 | 2::ks,.aG a::xs,.aG b::ys=>(fZ ks xs ys).map (decide (a=b)&&·)
 | 0::ks,.bool a::xs,.bool b::ys=>(fZ ks xs ys).map (decide (a=b)&&·)
 | _,_,_=>aj
def y7(neg:Bool)(ks:List Nat):V->V->Option V
 | .agg xs,.agg ys=>(fZ ks xs ys).map λb=>.bool (if neg then !b else b)
 | _,_=>aj
def isNil:V->Option Bool
 | .jr=>aa ab
 | .ptr _ _=>aa ar
 | _=>aj
def K2(K:V->St->Prop)(st:St):V->Prop:=λv=>K v st
def opt(o:Option V)(K:V->Prop):Prop:=match o with | some v=>K v | none=>False
def Kq(l:List (List V))(i:V)(K:List V->Prop):Prop:=∃k n x,i = .int k n/\0<=n/\l[n.toNat]?=aa x/\K x
def rA(D:ah)(k:Nat)(s x:V)(K:V->ah->Prop):Prop :=
 ∃t l m,s = .sl t k l/\(∃t',x = .sl t' k m)/\l.length+m.length<=aQ /\
  match t with
  | .aZ=>(∀Z,D.aR Z=aj->K (.sl (.tk Z) k (l++m)) (D.a_ Z (l.length+m.length)))\/K (.sl .no k (l++m)) D\/∃Z,D.aR Z=aa l.length/\K (.sl (.tk Z) k (l++m)) (D.a_ Z (l.length+m.length))
  | .tk Z=>D.aR Z=aa l.length/\K (.sl (.tk Z) k (l++m)) (D.a_ Z (l.length+m.length))
  | .no=>False
def dK(s:List UInt8):List (List V):=s.map λb=>[.int .u8 b.toNat]
def lZ(b:Bool)(d:Nat)(vs:List V)(K:Nat->List V->Prop):Prop :=
 match b,vs with
 | false,vs=>K d vs
 | true,.int _ j::vs=>0<=j/\K j.toNat vs
 | true,_=>False
def AE(D:ah)(k:Nat)(a:Option Addr)(n cap:Nat)(m:List (List V))(K:V->ah->Prop):Prop :=
 n<=cap/\n+m.length<=aQ/\bT m.flatten=ab /\
 (m=[]->K (.raw (.slice a n cap)) D) /\
 (m≠[]->n+m.length<=cap->∃b cs,a=aa ⟨b,0,aj⟩/\D.box b=aa cs/\n*k+m.length*k<=cs.length/\K (.raw (.slice a (n+m.length) cap)) (D.set b (setAt cs (n*k) m.flatten))) /\
 (cap<n+m.length->∃cs,(n=0/\cs=[]\/∃b,a=aa ⟨b,0,aj⟩/\D.box b=aa cs/\n*k<=cs.length) /\
   ∀b' p8,D.box b' = aj->n+m.length<=p8 -> K (.raw (.slice (aa ⟨b',0,aj⟩) (n+m.length) p8)) (D.set b' (cs.take (n*k)++m.flatten++aq ((p8 - (n+m.length))*k) .any)))
def zJ(k:Nat):List V->Option (List (List V))
 | []=>aa []
 | v::vs=>if v.wd=aa k/\bT v.cells=ab/\cW v.cells=ab then(zJ k vs).map (v.cells::·) else aj
def Ba:List UInt8->UInt8->Int
 | [],_=>-1
 | b::l,c=>if b == c then 0 else if Ba l c == -1 then -1 else Ba l c+1
def CG(cs:List V):List (List V):=cs.map λx=>[x]
def ah.del(D:ah)(b:Nat):ah:={D with box:=λx=>if x=b then aj else D.box x}
def JD(D:ah)(a:Option Addr)(n:Nat)(s:List UInt8):Prop:=s.length=n/\(n=0\/∃b o cs,a=aa ⟨b,o,aj⟩/\D.box b=aa cs/\(cs.drop o).take n=s.map λc=>.int .u8 c.toNat)
def NQ(k:Nat)(vs:List V)(H:List (List V)->Prop):Prop:=∃l,zJ k vs=aa l/\H l
def Cn(D:ah)(k:Nat)(a:Option Addr)(m:Nat)(xs:List V)(K:V->ah->Prop):Prop :=
 (m=0->K (.int .i64 0) D)/\(m≠0->∃b o cs,a=aa ⟨b,o,aj⟩/\D.box b=aa cs/\o+m*k<=cs.length/\K (.int .i64 m) (D.set b (setAt cs o xs)))
def QG(D:ah)(a:Option Addr)(n:Nat)(xs:List V):Prop :=
 n=0/\xs=[]\/∃b o cs,a=aa ⟨b,o,aj⟩/\D.box b=aa cs/\o+n<=cs.length/\xs=(cs.drop o).take n/\cW xs=ab
def FZ(o:Option V)(K:V->Prop):Prop:=match o with | some c=>K c | none=>False
def OQ.bj(D:ah)(K:V->ah->Prop):OQ->List V->Prop
 | .nil,[]=>K (.raw (.slice aj 0 0)) D
 | .len,[.raw (.slice _ n _)]=>K (.int .i64 n) D
 | .idx k,[.raw (.slice (aa ⟨b,o,aj⟩) n _),.int _ j]=>0<=j/\j<n/\K (.ptr (.out b) (o+j.toNat*k)) D
 | .lT k lo hi mx,.raw (.slice a n cap)::vs=>lZ lo 0 vs λm vs=>lZ hi n vs λh vs=>lZ mx cap vs λM vs=>vs=[]/\m<=h/\h<=M/\M<=cap/\K (.raw (.slice (if M=m then a else a.map (·.add (m*k))) (h - m) (M - m))) D
 | .app k,[.raw (.slice a n cap),.sl _ k' m]=>k' = k/\AE D k a n cap m K
 | .mk z,[.int _ n]=>0<=n/\n<=aQ/\bT z=ab/\0<z.length/\∀b',D.box b' = aj->K (.raw (.slice (aa ⟨b',0,aj⟩) n.toNat n.toNat)) (D.set b' (aq n.toNat z).flatten)
 | .mS k,vs=>NQ k vs λl=>K (.sl .aZ k l) D
 | .new k,vs=>NQ k vs λl=>bT l.flatten=ab/\∀b',D.box b' = aj->K (.raw (.slice (aa ⟨b',0,aj⟩) l.length l.length)) (D.set b' l.flatten)
 | .min,[.int k a,.int k' b]=>BE k k' = ab/\K (.int k (if b<a then b else a)) D
 | .max,[.int k a,.int k' b]=>BE k k' = ab/\K (.int k (if a<b then b else a)) D
 | .JM m k lo hi,.ptr (.out b) o::vs=>lZ lo 0 vs λl vs=>lZ hi m vs λh vs=>vs=[]/\l<=h/\h<=m/\K (.raw (.slice (aa (if m=l then ⟨b,o,aj⟩ else ⟨b,o+l*k,aj⟩)) (h - l) (m - l))) D
 | .iq k lo hi,.raw (.slice (aa ⟨b,o,aj⟩) n cap)::vs=>lZ lo 0 vs λl vs=>lZ hi n vs λh vs=>vs=[]/\l<=h/\h<=cap/\k=1 /\
  ∃cs,D.box b=aa cs/\o+h<=cs.length/\cW (((cs.drop o).take h).drop l)=ab/\bT (((cs.drop o).take h).drop l)=ab/\K (.sl .no 1 (CG (((cs.drop o).take h).drop l))) (D.del b)
 | .Lk,[.aG s,.int .u8 c]=>K (.int .i64 (s.count c.toNat.toUInt8:Nat)) D
 | .Nx,[.aG s,.int .u8 c]=>K (.int .i64 (Ba s c.toNat.toUInt8)) D
 | .Lr,[.raw (.slice a n _)]=>∃s,JD D a n s/\K (.aG s) D
 | .n6,[.raw (.slice a n cap),.aG s]=>AE D 1 a n cap (dK s) K
 | .K3,[.raw (.slice a n cap),.raw (.slice a' n' _)]=>∃s,JD D a' n' s/\AE D 1 a n cap (dK s) K
 | .IE m,[.agg cs,.int _ j]=>0<=j/\j<m/\FZ cs[j.toNat]? λc=>c.c9=ab/\K c D
 | .CN k,[.raw (.slice a n _),.raw (.slice a' n' _)]=>∃xs,QG D a' (Nat.min n' n*k) xs/\Cn D k a (Nat.min n' n) xs K
 | .CN k,[.raw (.slice a n _),.sl _ k' m]=>k' = k/\m.length<=n/\Cn D k a m.length m.flatten K
 | _,_=>False
def OQ.pure:OQ->Bool
 | .nil | .len | .idx _ | .lT .. | .mS _ | .min | .max | .JM .. | .Lk | .Nx | .IE _=>ab
 | .app _ | .mk _ | .new _ | .iq .. | .Lr | .n6 | .K3 | .CN _ | .aM=>ar
def aO.bj(P:Program)(st:St)(K:V->St->Prop):aO->Prop
 | .mv x=>K (ev st x) st
 | .pick c a b=>match ev st c with | .bool ab=>K (ev st a) st | .bool ar=>K (ev st b) st | _=>False
 | .alloc z=>K (.ptr (.aE st.aE.length) 0) ⟨st.t,st.aE++[z],st.out⟩
 | .box n x=>(ev st x).wd=aa n/\K (.ptr (.aE st.aE.length) 0) ⟨st.t,st.aE++[(ev st x).cells],st.out⟩
 | .vO n x=>(ev st x).wd=aa n/\cW (ev st x).cells=ab/\K (.ptr (.aE st.aE.length) 0) ⟨st.t,st.aE++[(ev st x).cells],st.out⟩
 | .build z ps=>opt ((p7 st z ps).map V.agg) (K2 K st)
 | .ko k xs=>opt ((mj st k xs).map (V.sl .aZ k)) (K2 K st)
 | .load agg n x=>opt (mf st agg n (ev st x)) (K2 K st)
 | .store n a x=>match dW st n (ev st x) (ev st a) with | some aP => K .any aP | none=>False
 | .wN x=>match ev st x with | .ptr p o=>K (.ptr p o) st | .elt c o=>K (.elt c o) st | .fn (.func f) a b=>K (.fn (.func f) a b) st | _=>False
 | .dU op x y=>opt (vN op (ev st x) (ev st y)) (K2 K st)
 | .pZ op x y=>opt (AW op (ev st x) (ev st y)) (K2 K st)
 | .vM neg x y=>opt (y8 neg (ev st x) (ev st y)) (K2 K st)
 | .cat x y=>∃a b,ev st x = .aG a/\ev st y = .aG b/\a.length+b.length<=aQ/\K (.aG (a++b)) st
 | .l8 neg ks x y=>opt (y7 neg ks (ev st x) (ev st y)) (K2 K st)
 | .sy neg x y=>match isNil (ev st x),ev st y with | some a,.jr=>K (.bool (if neg then !a else a)) st | _,_=>False
 | .not x=>match ev st x with | .bool b=>K (.bool (!b)) st | _=>False
 | .wJ x=>match ev st x with | .sl _ _ l=>K (.int .i64 l.length) st | .raw (.slice _ n _)=>K (.int .i64 n) st | _=>False
 | .wK x=>match ev st x with | .aG s=>K (.int .i64 s.length) st | _=>False
 | .qa off x=>match ev st x with | .ptr p o=>K (.ptr p (o+off)) st | .elt c o=>K (.elt c (o+off)) st | _=>False
 | .v9 agg off n x=>match ev st x with | .agg cs=>opt (bP agg n (cs.drop off)) (K2 K st) | _=>False
 | .tT k x i => match ev st x with
  | .sl _ k' l=>k' = k/\Kq l (ev st i) λc=>K (.elt c 0) st
  | .raw (.slice (aa ⟨b,o,aj⟩) n _)=>∃ik j,ev st i = .int ik j/\0<=j/\j<n/\K (.ptr (.out b) (o+j.toNat*k)) st
  | _=>False
 | .sO m k x i => match ev st x with
  | .ptr p o=>∃kk n,ev st i = .int kk n/\0<=n/\n<(m:Nat)/\K (.ptr p (o+n.toNat*k)) st
  | .elt c o=>∃kk n,ev st i = .int kk n/\0<=n/\n<(m:Nat)/\K (.elt c (o+n.toNat*k)) st
  | _=>False
 | .tV x i=>match ev st x with | .aG s=>∃k n c,ev st i = .int k n/\0<=n/\s[n.toNat]?=aa c/\K (.int .u8 c.toNat) st | _=>False
 | .call f xs=>bT (dw st xs)=ab/\ch P f (dw st xs) st.out λv D=>K v ⟨st.t,st.aE,D⟩
 | .jj x xs=>match ev st x with | .fn (.func f) a b=>bT (a++dw st xs++b)=ab/\ch P f (a++dw st xs++b) st.out λv D=>K v ⟨st.t,st.aE,D⟩ | _=>False
 | .app k s x=>rA st.out k (ev st s) (ev st x) λv D=>K v ⟨st.t,st.aE,D⟩
 | .n6 s x=>∃a,ev st x = .aG a/\rA st.out 1 (ev st s) (.sl .no 1 (dK a)) λv D=>K v ⟨st.t,st.aE,D⟩
 | .lT k x lo hi mx=>(∃t l a b,ev st x = .sl t k l/\a<=b/\b<=l.length/\(match lo with | none=>a=0 | some y=>∃j,ev st y = .int j a) /\
  (match hi with | none=>b=l.length | some y=>∃j,ev st y = .int j b) /\
  match mx with
  | none=>K (.sl .no k ((l.take b).drop a)) st
  | some y=>(∃j,ev st y = .int j b)/\K (.sl .aZ k ((l.take b).drop a)) st) \/
  ∃a n cap m h,ev st x = .raw (.slice a n cap)/\m<=h/\h<=cap/\(match lo with | none=>m=0 | some y=>∃j,ev st y = .int j m)/\(match hi with | none=>h=n | some y=>∃j,ev st y = .int j h)/\mx.isNone=ab /\
   K (.raw (.slice (if cap=m then a else a.map (·.add (m*k))) (h - m) (cap - m))) st
 | .Ai x lo hi=>∃s a b,ev st x = .aG s/\a<=b/\b<=s.length/\(match lo with | none=>a=0 | some y=>∃j,ev st y = .int j a) /\
  (match hi with | none=>b=s.length | some y=>∃j,ev st y = .int j b)/\K (.aG ((s.take b).drop a)) st
 | .ext x i=>match ev st x with | .bH vs=>opt vs[i]? (K2 K st) | _=>False
 | .ky f first cap=>K (.fn f (dw st first) (dw st cap)) st
 | .qP k x=>match ev st x with | .int _ n=>K (.int k (k.wrap n)) st | _=>False
 | .uD x=>∃t s,ev st x = .sl t 1 (dK s)/\K (.aG s) st
 | .qL z=>bT z=ab/\∀b,st.out.box b=aj->K (.ptr (.out b) 0) ⟨st.t,st.aE,st.out.set b z⟩
 | .gS n x=>(ev st x).wd=aa n/\bT (ev st x).cells=ab/\∀b,st.out.box b=aj->K (.ptr (.out b) 0) ⟨st.t,st.aE,st.out.set b (ev st x).cells⟩
 | .own q xs=>q.bj st.out (λv D=>K v ⟨st.t,st.aE,D⟩) (dw st xs)
def cg(P:Program):List AO->(St->Prop)->St->Prop
 | [],K,st=>K st
 | o :: r, K, st =>
  match o.guard with
  | none=>o.op.bj P st λv aP => cg P r K (aP.put o.dst v)
  | some (g, want) =>
   match ev st (.s g) with
   | .bool b=>if b=want then o.op.bj P st (λv aP => cg P r K (aP.put o.dst v)) else cg P r K (st.put o.dst (.bH []))
   | .bH []=>cg P r K (st.put o.dst (.bH []))
   | _=>False
mutual
def R.erase:∀(x:V) {E:Env} {v:Value},R E x v->R E x.erase v
 | .sl t k l, E, v, h => by
  simp only[V.erase,R] at h ⊢;obtain⟨a,cap,U,h2,h3,_⟩:=h;exact⟨a,cap,U,h2,h3,trivial⟩
 | .agg cs, E, v, h => by
  simp only[V.erase,R] at h ⊢;obtain⟨vs,U,h2⟩:=h;exact⟨vs,U,RL.erase cs h2⟩
 | .bH cs, E, v, h => by
  simp only[V.erase,R] at h ⊢;obtain⟨vs,U,h2⟩:=h;exact⟨vs,U,RL.erase cs h2⟩
 | .any,_,_,h=>by simpa [V.erase] using h
 | .bool _,_,_,h=>by simpa [V.erase] using h
 | .int _ _,_,_,h=>by simpa [V.erase] using h
 | .aG _,_,_,h=>by simpa [V.erase] using h
 | .jr,_,_,h=>by simpa [V.erase] using h
 | .ptr _ _,_,_,h=>by simpa [V.erase] using h
 | .elt _ _,_,_,h=>by simpa [V.erase] using h
 | .fn _ _ _,_,_,h=>by simpa [V.erase] using h
 | .raw _,_,_,h=>by simpa [V.erase] using h
def RL.erase:∀(l:List V) {E:Env} {vs:List Value},RL E l vs->RL E (bD l) vs
 | [],_,[],_=>by simp only[bD,RL]
 | [],_,_::_,h=>by simp only[RL] at h
 | _::_,_,[],h=>by simp only[RL] at h
 | x :: xs, _, v :: vs, h => by
  simp only[bD,RL] at h ⊢;exact⟨R.erase x h.1,RL.erase xs h.2⟩
end
def S9:∀l:List V,(bD l).length=l.length
 | []=>rfl
 | x::xs=>by simp[bD,S9 xs]
variable{vs:List V}
def AX{b:Bool}{d:Nat}{K K' : Nat->List V->Prop}(h:lZ b d vs K)(hk:∀n vs,K n vs->K' n vs):lZ b d vs K' := by
 unfold lZ at h ⊢;split at h
 .exact hk _ _ h
 .exact⟨h.1,hk _ _ h.2⟩
 .exact h.elim
variable{K K':V->ah->Prop}
def AE.mono{n:Nat}{m:List (List V)}(hk:∀v σ',K v σ' -> K' v σ')(h:AE D k a n cap m K):AE D k a n cap m K' := by
 obtain⟨U,h2,h3,h4,h5,h6⟩:=h;refine⟨U,h2,h3,λe=>hk _ _ (h4 e),λe e' => ?_,λe=>?_⟩
 .obtain⟨b,cs,g1,g2,g3,g4⟩:=h5 e e';exact⟨b,cs,g1,g2,g3,hk _ _ g4⟩
 .obtain⟨cs,g1,g2⟩:=h6 e;exact⟨cs,g1,λb' p8 p1 p2=>hk _ _ (g2 b' p8 p1 p2)⟩
variable{m:Nat}
def Cn.mono{xs:List V}(hk:∀v σ',K v σ' -> K' v σ')(h:Cn D k a m xs K):Cn D k a m xs K' :=
 ⟨λe=>hk _ _ (h.1 e),λe=>let ⟨b,o,cs,U,h2,h3,h4⟩:=h.2 e;⟨b,o,cs,U,h2,h3,hk _ _ h4⟩⟩
def OQ.mono(hk:∀v σ',K v σ' -> K' v σ')(q:OQ)(vs:List V)(h:q.bj D K vs):q.bj D K' vs:=by
 unfold OQ.bj at h ⊢;split at h
 .exact hk _ _ h
 .exact hk _ _ h
 .exact⟨h.1,h.2.1,hk _ _ h.2.2⟩
 .exact AX h λ_ _ h=>AX h λ_ _ h=>AX h λ_ _ h=>⟨h.1,h.2.1,h.2.2.1,h.2.2.2.1,hk _ _ h.2.2.2.2⟩
 .obtain⟨h0,U,h2,h3,h4,h5,h6⟩:=h;refine⟨h0,U,h2,h3,λe=>hk _ _ (h4 e),λe e' => ?_,λe=>?_⟩
  .obtain⟨b,cs,g1,g2,g3,g4⟩:=h5 e e';exact⟨b,cs,g1,g2,g3,hk _ _ g4⟩
  .obtain⟨cs,g1,g2⟩:=h6 e;exact⟨cs,g1,λb' p8 p1 p2=>hk _ _ (g2 b' p8 p1 p2)⟩
 .exact⟨h.1,h.2.1,h.2.2.1,h.2.2.2.1,λb' hb=>hk _ _ (h.2.2.2.2 b' hb)⟩
 .obtain⟨l,U,h2⟩:=h;exact⟨l,U,hk _ _ h2⟩
 .obtain⟨l,U,h2,h3⟩:=h;exact⟨l,U,h2,λb' hb=>hk _ _ (h3 b' hb)⟩
 .exact⟨h.1,hk _ _ h.2⟩
 .exact⟨h.1,hk _ _ h.2⟩
 .exact AX h λ_ _ h=>AX h λ_ _ h=>⟨h.1,h.2.1,h.2.2.1,hk _ _ h.2.2.2⟩
 .exact AX h λ_ _ h=>AX h λ_ _ h=>by
   obtain⟨g1,g2,g3,g4,cs,g5,g6,g7,g8,g9⟩:=h;exact⟨g1,g2,g3,g4,cs,g5,g6,g7,g8,hk _ _ g9⟩
 .exact hk _ _ h
 .exact hk _ _ h
 .obtain⟨s,U,h2⟩:=h;exact⟨s,U,hk _ _ h2⟩
 .exact h.mono hk
 .obtain⟨s,U,h2⟩:=h;exact⟨s,U,h2.mono hk⟩
 .obtain⟨U,h2,h3⟩:=h;refine⟨U,h2,?_⟩;unfold FZ at h3 ⊢;split at h3
  .exact⟨h3.1,hk _ _ h3.2⟩
  .exact h3.elim
 .obtain⟨s,U,h2⟩:=h;exact⟨s,U,h2.mono hk⟩
 .exact⟨h.1,h.2.1,h.2.2.mono hk⟩
 .exact h.elim
def Em{b:Bool}{d:Nat}{K:Nat->List V->Prop}(h:lZ b d vs K):∃n DR,K n DR /\ ∀K' : Nat->List V->Prop,K' n DR -> lZ b d vs K' := by
 unfold lZ at h;split at h
 .exact⟨_,_,h,λ_ h=>by unfold lZ;exact h⟩
 .exact⟨_,_,h.2,λ_ h' => by unfold lZ;exact⟨h.1,h'⟩⟩
 .exact h.elim
def OQ.SM{q:OQ}(hp:q.pure=ab)(h:q.bj D K vs):∃v,K v D/\∀(eT:ah) (K' : V->ah->Prop),K' v eT->q.bj eT K' vs:=by
 unfold OQ.bj at h;split at h
 .exact⟨_,h,λ_ _ h=>by unfold OQ.bj;exact h⟩
 .exact⟨_,h,λ_ _ h=>by unfold OQ.bj;exact h⟩
 .exact⟨_,h.2.2,λ_ _ h' => by unfold OQ.bj;exact⟨h.1,h.2.1,h'⟩⟩
 .obtain⟨m,v1,U,g1⟩:=Em h;obtain⟨hh,v2,h2,g2⟩:=Em U;obtain⟨M,v3,h3,g3⟩:=Em h2;obtain⟨e1,e2,e3,e4,h4⟩:=h3;exact⟨_,h4,λ_ _ h' => by unfold OQ.bj;exact g1 _ (g2 _ (g3 _ ⟨e1,e2,e3,e4,h'⟩))⟩
 .simp[OQ.pure] at hp
 .simp[OQ.pure] at hp
 .obtain⟨l,U,h2⟩:=h;exact⟨_,h2,λ_ _ h' => by unfold OQ.bj;exact⟨l,U,h'⟩⟩
 .simp[OQ.pure] at hp
 .exact⟨_,h.2,λ_ _ h' => by unfold OQ.bj;exact⟨h.1,h'⟩⟩
 .exact⟨_,h.2,λ_ _ h' => by unfold OQ.bj;exact⟨h.1,h'⟩⟩
 .obtain⟨m,v1,U,g1⟩:=Em h;obtain⟨hh,v2,h2,g2⟩:=Em U;obtain⟨e1,e2,e3,h4⟩:=h2;exact⟨_,h4,λ_ _ h' => by unfold OQ.bj;exact g1 _ (g2 _ ⟨e1,e2,e3,h'⟩)⟩
 .simp[OQ.pure] at hp
 .exact⟨_,h,λ_ _ h=>by unfold OQ.bj;exact h⟩
 .exact⟨_,h,λ_ _ h=>by unfold OQ.bj;exact h⟩
 .simp[OQ.pure] at hp
 .simp[OQ.pure] at hp
 .simp[OQ.pure] at hp
 .obtain⟨U,h2,h3⟩:=h;unfold FZ at h3;split at h3
  .rename_i c hc;exact⟨c,h3.2,λ_ _ h' => by unfold OQ.bj;refine⟨U,h2,?_⟩;unfold FZ;rw[hc];exact⟨h3.1,h'⟩⟩
  .exact h3.elim
 .simp[OQ.pure] at hp
 .simp[OQ.pure] at hp
 .exact h.elim
def KS:R E (.bH []) undef:=by simp only[R];exact⟨#[],rfl,by simp[RL]⟩
def Rb{v:Value}(h:R E (.bH []) v):v=undef:=by
 simp only[R] at h;obtain⟨vs,rfl,h⟩:=h;cases hv:vs.toList with
 | nil =>
  have:vs=#[]:=by cases vs;simpa using hv
  subst this;rfl
 | cons x xs=>rw[hv] at h;simp[RL] at h
def cv:V->Value->Bool
 | .bool b,.bool c=>b == c
 | .int k n,.int j m=>decide (k=j)&&decide (n=m)
 | .aG s,.string t=>decide (s=t.data.toList)
 | .jr,.pointer aj=>ab
 | .sl .aZ _ [],.slice aj 0 0=>ab
 | .raw .nilFunc,.nilFunc=>ab
 | .raw .nilIface,.nilIface=>ab
 | .raw (.map aj),.map aj=>ab
 | _,_=>ar
def y3:List V->List Value->Bool
 | [],[]=>ab
 | x::xs,v::vs=>cv x v&&y3 xs vs
 | _,_=>ar
def Le(f:Nat->Option (List V)):List Nat->Option (List V)
 | []=>aa []
 | t::ts=>(f t).bind λa=>(Le f ts).map (a++·)
def zeroV(P:Program):Nat->TypeId->Option (List V)
 | 0,_=>aj
 | n + 1, t =>
  match P.underlying t with
  | some .bool=>aa [.bool ar]
  | some (.int k)=>aa [.int k 0]
  | some .string=>aa [.aG []]
  | some (.pointer _)=>aa [.jr]
  | some (.slice e)=>aa [.sl .aZ (P.cellsOf e) []]
  | some (.func _ _ _)=>aa [.raw .nilFunc]
  | some (.interface _)=>aa [.raw .nilIface]
  | some (.map _ _)=>aa [.raw (.map aj)]
  | some (.struct fs)=>Le (zeroV P n) (fs.toList.map (·.type))
  | some (.array k e)=>Le (zeroV P n) (aq k e)
  | _=>aj
def kF(P:Program)(t:TypeId):Option (List V) :=
 match P.info? t,zeroV P 30 t with
 | some i, aa zs =>
  match i.zero with
  | some z=>if y3 zs z.cells.toList=ab/\zs.length=i.size then aa zs else aj
  | none=>aj
 | _,_=>aj
def Lo(P:Program)(t:TypeId):Value->Option V
 | .slice aj 0 0 =>
  match P.underlying t with
  | some (.slice e)=>aa (.sl .aZ (P.cellsOf e) [])
  | _=>aj
 | .agg vs =>
  match kF P t with
  | some zs=>if y3 zs vs.toList=ab then aa (.agg zs) else aj
  | none=>aj
 | .bool b=>aa (.bool b)
 | .int k n=>aa (.int k n)
 | .string s=>aa (.aG s.data.toList)
 | .pointer aj=>aa .jr
 | .nilFunc=>aa (.raw .nilFunc)
 | .nilIface=>aa (.raw .nilIface)
 | _=>aj
def cS(P:Program)(t:TypeId):Operand->Option X
 | .tmp n=>aa (.s n)
 | .const v=>(Lo P t v).map .c
 | .func f=>aa (.c (.fn (.func f) [] []))
 | .global g=>aa (.c (.ptr (.kT g) 0))
def jO(P:Program):List TypeId->List Operand->Option (List X)
 | [],[]=>aa []
 | t::ts,x::xs=>(cS P t x).bind λy=>(jO P ts xs).map (y::·)
 | _,_=>aj
def lJ(P:Program)(t:TypeId):Option Operand->Option (Option X)
 | none=>aa aj
 | some x=>(cS P t x).map aa
def iO(P:Program)(t:TypeId):Option Bool :=
 match P.underlying t with
 | some (.struct _) | some (.array _ _)=>aa ab
 | some _=>aa ar
 | none=>aj
def eQ(P:Program)(t:TypeId):Option Nat:=(P.info? t).map (·.size)
def BP(P:Program)(place:Nat->Option (Nat × TypeId)):List (Nat × Operand)->Option (List (Nat × Nat × X))
 | []=>aa []
 | (i, x) :: ps =>
  match place i with
  | some (off, t) =>
   match eQ P t,cS P t x with
   | some n,aa y=>if n=0 then aj else(BP P place ps).map ((off,n,y)::·)
   | _,_=>aj
  | none=>aj
def Jv(f:TypeId->Nat->Option (List (Nat × Nat)))(size:TypeId->Nat)(all:Nat):List Field->Nat->Option (List (Nat × Nat))
 | [],_=>aa []
 | x::xs,off=>if x.name = "_" \/ all<x.offset+size x.type then aj else(f x.type (off+x.offset)).bind λa=>(Jv f size all xs off).map (a++·)
def Jw(f:Nat->Option (List (Nat × Nat)))(size all:Nat):List Nat->Nat->Option (List (Nat × Nat))
 | [],_=>aa []
 | i::is,off=>if all<i*size+size then aj else(f (off+i*size)).bind λa=>(Jw f size all is off).map (a++·)
def yj(P:Program):Nat->TypeId->Nat->Option (List (Nat × Nat))
 | 0,_,_=>aj
 | n + 1, t, off =>
  match P.info? t,P.underlying t with
  | some _,aa .bool=>if P.cellsOf t=1 then aa [(off,0)] else aj
  | some _,aa (.int _)=>if P.cellsOf t=1 then aa [(off,1)] else aj
  | some _,aa .string=>if P.cellsOf t=1 then aa [(off,2)] else aj
  | some _,aa (.struct fs)=>if P.stoodInHeld t=ab then aj else Jv (yj P n) P.cellsOf (P.cellsOf t) fs.toList off
  | some _,aa (.array k e)=>match P.info? e with | some _=>Jw (yj P n e) (P.cellsOf e) (P.cellsOf t) (bA k) off | none=>aj
  | _,_=>aj
def OT(P:Program)(t:TypeId):Option (List Nat) :=
 match yj P 20 t 0 with
 | some pl=>if pl.map (·.1)=bA (P.cellsOf t)/\P.eqGuardType P.depth t=ar then aa (pl.map (·.2)) else aj
 | none=>aj
def zP(P:Program)(o:Oper):Option aO :=
 match o.op with
 | .move x | .assign x=>(cS P o.type x).map .mv
 | .pick c a b =>
  match cS P o.type c,cS P o.type a,cS P o.type b with
  | some c,aa a,aa b=>aa (.pick c a b)
  | _,_,_=>aj
 | .alloc t=>(kF P t).map .alloc
 | .box t x =>
  match eQ P t,cS P t x with
  | some n,aa y=>aa (.box n y)
  | _,_=>aj
 | .build t ps =>
  match kF P t,P.underlying t with
  | some z,aa (.struct fs)=>if fs.toList.all (λf=>(P.info? f.type).isSome)=ab then(BP P (λi=>(fs[i]?).map λf=>(f.offset,f.type)) ps.toList).map (.build z) else aj
  | some z,aa (.array _ e)=>if (P.info? e).isSome=ab then(BP P (λi=>aa (i*P.cellsOf e,e)) ps.toList).map (.build z) else aj
  | _,_=>aj
 | .buildSlice t len ps =>
  match P.underlying t with
  | some (.slice e) =>
   match eQ P e,kF P e,jO P (aq len e) (ps.toList.map (·.2)) with
   | some k,aa _,aa xs=>if ps.toList.map (·.1)=bA len/\len*k<=16777216/\0<k then aa (.ko k xs) else aj
   | _,_,_=>aj
  | _=>aj
 | .load t x =>
  match iO P t,eQ P t,cS P t x with
  | some g,aa n,aa y=>aa (.load g n y)
  | _,_,_=>aj
 | .store t x y =>
  match eQ P t,cS P t x,cS P t y with
  | some n,aa x,aa y=>if n=0 then aj else aa (.store n x y)
  | _,_,_=>aj
 | .nilCheck x=>(cS P o.type x).map .wN
 | .binOp op t x y _ =>
  match cS P t x,cS P t y with
  | some x, aa y =>
   match P.underlying t with
   | some (.int _)=>aa (.dU op x y)
   | some .string=>match op with | .add=>aa (.cat x y) | _=>aa (.pZ op x y)
   | some .bool=>match op with | .eql=>aa (.vM ar x y) | .neq=>aa (.vM ab x y) | _=>aj
   | some (.struct _) | some (.array _ _) =>
    match OT P t with
    | some ks=>match op with | .eql=>aa (.l8 ar ks x y) | .neq=>aa (.l8 ab ks x y) | _=>aj
    | none=>aj
   | _=>aj
  | _,_=>aj
 | .unOp .not _ x=>(cS P o.type x).map .not
 | .convert src dst x =>
  match P.underlying src,P.underlying dst,cS P src x with
  | some (.int _),aa (.int k),aa y=>aa (.qP k y)
  | some (.slice e),aa .string,aa y=>match P.underlying e with | some (.int .u8)=>aa (.uD y) | _=>aj
  | _,_,_=>aj
 | .makeFunc f first cap =>
  match jO P (aq first.size 0) first.toList,jO P (aq cap.size 0) cap.toList with
  | some a,aa b=>aa (.ky f a b)
  | _,_=>aj
 | .slice t x lo hi mx =>
  match cS P t x,lJ P t lo,lJ P t hi,lJ P t mx with
  | some x, aa lo, aa hi, aa mx =>
   match P.underlying t with
   | some (.slice e)=>match eQ P e with | some k=>if mx.isSome=ab->hi.isSome=ab then aa (.lT k x lo hi mx) else aj | none=>aj
   | some .string=>match mx with | none=>aa (.Ai x lo hi) | some _=>aj
   | _=>aj
  | _,_,_,_=>aj
 | .fieldAddr s x i =>
  match P.underlying s,cS P s x with
  | some (.struct fs), aa y =>
   match fs[i]? with
   | some f=>match eQ P f.type with | some n=>if n=0 then aj else aa (.qa f.offset y) | none=>aj
   | none=>aj
  | _,_=>aj
 | .field s x i =>
  match P.underlying s,cS P s x with
  | some (.struct fs), aa y =>
   match fs[i]? with
   | some f=>match iO P f.type,eQ P f.type with | some g,aa n=>aa (.v9 g f.offset n y) | _,_=>aj
   | none=>aj
  | _,_=>aj
 | .indexAddr t x i =>
  match P.underlying t,cS P t x,cS P t i with
  | some (.slice e),aa x,aa i=>(eQ P e).map λk=>.tT k x i
  | some (.array m e),aa x,aa i=>(eQ P e).map λk=>.sO m k x i
  | _,_,_=>aj
 | .index t x i =>
  match P.underlying t,cS P t x,cS P t i with
  | some .string,aa x,aa i=>aa (.tV x i)
  | _,_,_=>aj
 | .extract x i=>(cS P o.type x).map λy=>.ext y i
 | .call c =>
  match c.callee with
  | .value (.func f)=>(jO P c.argTypes.toList c.args.toList).map (.call f)
  | .value x =>
   match cS P 0 x,jO P c.argTypes.toList c.args.toList with
   | some y,aa xs=>aa (.jj y xs)
   | _,_=>aj
  | .builtin .len =>
   match c.argTypes.toList,c.args.toList with
   | [t], [x] =>
    match P.underlying t,cS P t x with
    | some (.slice _),aa y=>aa (.wJ y)
    | some .string,aa y=>aa (.wK y)
    | _,_=>aj
   | _,_=>aj
  | .builtin .append =>
   match c.argTypes.toList,c.args.toList with
   | [t, u], [s, x] =>
    match P.underlying t,P.underlying u,cS P t s,cS P u x with
    | some (.slice e), aa (.slice e'), aa s, aa x =>
     match P.info? e,kF P e with
     | some i,aa _=>if e=e' /\ i.bytes<=4096/\0<i.size then aa (.app i.size s x) else aj
     | _,_=>aj
    | some (.slice e), aa .string, aa s, aa x =>
     match P.info? e,kF P e with
     | some i,aa _=>match P.underlying e with | some (.int .u8)=>if i.size=1/\i.bytes=1 then aa (.n6 s x) else aj | _=>aj
     | _,_=>aj
    | _,_,_,_=>aj
   | _,_=>aj
  | _=>aj
 | _=>aj
def aep:∀{x:V} {v:Value},cv x v=ab->R E x v:=by
 intro x v h;unfold cv at h;split at h<;>simp_all [R,vJ]
def sr{E:Env}:∀{xs:List V} {vs:List Value},y3 xs vs=ab->RL E xs vs
 | [],[],_=>by simp[RL]
 | [],_::_,h=>by simp[y3] at h
 | _::_,[],h=>by simp[y3] at h
 | x :: xs, v :: vs, h => by
  simp only[y3,bg] at h;simp only[RL];exact⟨aep h.1,sr h.2⟩
variable{t:TypeId}{zs:List V}
def uh(h:kF P t=aa zs):
 ∃i z,P.info? t=aa i/\i.zero=aa z/\y3 zs z.cells.toList=ab/\zs.length=i.size:=by
 unfold kF at h;split at h
 .rename_i i ys U h2;split at h
  .rename_i z hz;split at h
   .rename_i hc;simp only[bc] at h;subst h;exact⟨i,z,U,hz,hc.1,hc.2⟩
   .simp at h
  .simp at h
 .simp at h
def adY{v:Value}{x:V}(h:Lo P t v=aa x):R E x v:=by
 unfold Lo at h;split at h
 .split at h
  .simp only[bc] at h;subst h;simp[R,vJ]
  .simp at h
 .rename_i vs;split at h
  .rename_i zs hz;split at h
   .rename_i hc;simp only[bc] at h;subst h;simp only[R];exact⟨vs,rfl,sr hc⟩
   .simp at h
  .simp at h
 all_goals first | (simp only[bc] at h;subst h;simp[R];done) | (simp at h)
def CR{a:Act}(h:RL E st.t a.tmps.toList)(n:Nat):R E (ev st (.s n)) (a.eval (.tmp n)):=by
 have:=G1 h n undef
 simpa [ev,Act.eval,rB,fW] using this
variable{x:Operand}
def o9{a:Act}{y:X}(h:RL E st.t a.tmps.toList)(hx:cS P t x=aa y):
 R E (ev st y) (a.eval x):=by
 cases x with
 | tmp n=>simp only[cS,bc] at hx;subst hx;exact CR h n
 | const v =>
  simp only[cS,dn] at hx;obtain⟨u,hu,rfl⟩:=hx;exact adY hu
 | func f=>simp only[cS,bc] at hx;subst hx;simp only[ev,R,Act.eval];exact⟨#[],#[],rfl,by simp[RL],by simp[RL]⟩
 | global g=>simp only[cS,bc] at hx;subst hx;simp only[ev,R,Act.eval]
def Oh{P:Program}{E:Env}{st:St}{a:Act}(h:RL E st.t a.tmps.toList):∀{ts:List TypeId} {xs:List Operand} {ys:List X},jO P ts xs=aa ys ->
 RL E (dw st ys) (xs.map a.eval)
 | [],[],ys,hx=>by simp only[jO,bc] at hx;subst hx;simp[dw,RL]
 | [],_::_,_,hx=>by simp[jO] at hx
 | _::_,[],_,hx=>by simp[jO] at hx
 | t :: ts, x :: xs, ys, hx => by
  simp only[jO,iV,dn] at hx;obtain⟨y,U,zs,h2,rfl⟩:=hx;simp only[dw,cz,RL];exact⟨o9 h U,Oh h h2⟩
def ei(E:Env)(a:Act)(d:Option Tmp)(K:V->St->Prop):Act->World->Prop :=
 λa' w' => ∃E' v x aP,E'.w=w' /\ Fr E E' /\ bN E' aP a/\R E' v x/\a' = a.put d x/\K v aP
section
variable {P:Program} {E:Env} {st:St} {a:Act} {o:Oper} {K:V->St->Prop} {Q:Exit->Act->World->Prop}
def dh(hs:bN E st a){x:Value}(hr:(execOp a.eval o).run P E.w = .ok (.value x) E.w)(hv:R E v x)(hk:K v st):o.wp P a E.w (ei E a o.dst K) Q:=by
 unfold Oper.wp;rw[hr];exact⟨E,v,x,st,rfl,Fr.refl E,hs,hv,rfl,hk⟩
def Rd(E:Env)(cs:List V)(b o:Nat):Prop:=∀(j:Nat) x,cs[j]?=aa x->∃v,E.w.cell? ⟨b,o+j,aj⟩=aa v/\R E x v
def Env.Ou(E:Env):E.nl.le E:=⟨λ_ _ _ h h' => ⟨h,h'⟩,λ_ _ h=>by simp at h,(Env.le.refl E).tok⟩
variable{cs:List V}
def Rd.mono{E E' : Env}(h:E.le E')(hw:E'.w=E.w){b o:Nat}(hr:Rd E cs b o):Rd E' cs b o:=λj x hx=>by
 obtain⟨v,U,h2⟩:=hr j x hx;exact⟨v,by rw[hw];exact U,h2.mono _ h⟩
def Rd.W0{E:Env}(h:j4 E b cs):Rd E cs b 0:=by
 obtain⟨c,e,U,h2,h3⟩:=h;intro j x hx;obtain⟨v,hv,hr⟩:=h3 j x hx;exact⟨v,by simp[World.cell?,U,hv],hr⟩
def Rd.Oz{E:Env}:∀{cs:List V} {b o:Nat},eU E cs b o->Rd E cs b o
 | [],_,_,_=>λj x hx=>by simp at hx
 | y :: ys, b, o, h => λj x hx => by
  simp only[eU] at h;obtain⟨⟨c,U,_,_,h3⟩,h4⟩:=h;cases j with
  | zero=>simp at hx;subst hx;exact⟨c,U,h3⟩
  | succ j =>
   simp at hx;obtain⟨v,hv,hr⟩:=Rd.Oz h4 j x hx;exact⟨v,by rw[show o+(j+1)=o+1+j from by omega];exact hv,hr⟩
def Rd.drop{E:Env}{b o:Nat}(h:Rd E cs b o)(n:Nat):Rd E (cs.drop n) b (o+n):=λj x hx=>by
 rw[vD] at hx;obtain⟨v,hv,hr⟩:=h _ x hx;exact⟨v,by rw[show o+n+j=o+(n+j) from by omega];exact hv,hr⟩
def PY:∀{n:Nat} {cs xs:List V},takeN n cs=aa xs->xs=cs.take n/\n<=cs.length
 | 0,cs,xs,h=>by simp[takeN] at h;subst h;simp
 | n+1,[],xs,h=>by simp[takeN] at h
 | n + 1, c :: cs, xs, h => by
  simp only[takeN,dn] at h;obtain⟨ys,U,rfl⟩:=h;obtain⟨rfl,h2⟩:=PY U;simp;omega
def Rd.cells{E:Env}:∀{cs:List V} {b o:Nat},Rd E cs b o->∃vs,RL E cs vs/\∀(j:Nat) v,vs[j]?=aa v->E.w.cell? ⟨b,o+j,aj⟩=aa v
 | [],_,_,_=>⟨[],by simp[RL],λj v h=>by simp at h⟩
 | c :: cs, b, o, h => by
  obtain⟨v,U,h2⟩:=h 0 c (by simp);obtain⟨vs,h3,h4⟩:=Rd.cells (cs:=cs) (b:=b) (o:=o+1) λj x hx=>by
   obtain⟨v,hv,hr⟩:=h (j+1) x (by simpa using hx);exact⟨v,by rw[show o+1+j=o+(j+1) from by omega];exact hv,hr⟩
  refine⟨v::vs,?_,λj u hu=>?_⟩
  .simp only[RL];exact⟨h2,h3⟩
  .cases j with
   | zero=>simp at hu;subst hu;simpa using U
   | succ j=>simp at hu;rw[show o+(j+1)=o+1+j from by omega];exact h4 j u hu
def my(b o j:Nat):(⟨b,o,aj⟩:Addr).add j=⟨b,o+j,aj⟩:=by
 unfold Addr.add;split<;>simp_all
variable{g:Bool}
def B8(h:iO P t=aa g)(w:World):(isAgg t).run P w = .ok g w:=by
 unfold iO at h;cases hu:P.underlying t with
 | none=>simp[hu] at h
 | some d =>
  simp only[hu] at h;simp only[isAgg,Sem.run_bind,run_underlying hu,Result.andThen_ok];cases d<;>simp_all
def pK{n:Nat}(h:eQ P t=aa n)(w:World):(sizeOf t).run P w = .ok n w:=by
 unfold eQ at h;simp only[dn] at h;obtain⟨i,hi,rfl⟩:=h;simp[sizeOf,typeInfo,hi]
def run_load{n:Nat}(ht:iO P t=aa g)(hn:eQ P t=aa n){b o:Nat}(h:Rd E cs b o)(hv:bP g n cs=aa v):
 ∃x,(loadVar t ⟨b,o,aj⟩).run P E.w = .ok x E.w/\R E v x:=by
 cases g with
 | false =>
  cases cs with
  | nil=>simp[bP] at hv
  | cons c cs =>
   simp only[bP,bc] at hv;subst hv;obtain⟨x,U,h2⟩:=h 0 c (by simp);exact⟨x,by simp only[xg] at U;simp[loadVar,B8 ht,U],h2⟩
 | true =>
  simp only[bP,dn] at hv;obtain⟨xs,U,rfl⟩:=hv;obtain⟨rfl,h2⟩:=PY U;have h' : Rd E (cs.take n) b o:=λj x hx=>by
   rw[KB] at hx;split at hx
   .exact h j x hx
   .simp at hx
  obtain⟨vs,h3,h4⟩:=h'.cells;have hl:=gj h3;have fS : vs.length=n:=by rw[<-hl];simp;omega
  refine⟨.agg vs.toArray,?_,by simp only[R];exact⟨vs.toArray,rfl,by simpa using h3⟩⟩;have hc:=run_loadCells_list (P:=P) E.w ⟨b,o,aj⟩ vs (λj u hu=>by rw[my];exact h4 j u hu);rw[fS] at hc;simp[loadVar,B8 ht,pK hn,hc]
def VN(hs:bN E st a){n:Nat}{p:V}{x:Value}(h:mf st g n p=aa v)(hp:R E p x):
 ∃b o cs,x = .pointer (aa ⟨b,o,aj⟩)/\Rd E cs b o/\bP g n cs=aa v:=by
 cases p with
 | ptr p off =>
  cases p with
  | aE i =>
   simp only[mf,Hm,iV] at h;obtain⟨cs,U,h2⟩:=h;simp only[R] at hp;obtain⟨b,hb,rfl⟩:=hp;obtain⟨b',h3,_,h5⟩:=hs.dv.box i cs U;rw[hb] at h3;simp only[bc] at h3;subst h3;exact⟨b,off,cs.drop off,rfl,by simpa using (Rd.W0 h5).drop off,h2⟩
  | out b =>
   simp only[mf,Hm,iV] at h;obtain⟨cs,U,h2⟩:=h;simp only[R] at hp;subst hp;obtain⟨_,h5⟩:=hs.ok.box b cs U;exact⟨b,off,cs.drop off,rfl,by simpa using ((Rd.W0 h5).mono E.Ou rfl).drop off,h2⟩
  | kT b =>
   simp only[mf,Hm,iV] at h;obtain⟨cs,U,h2⟩:=h;simp only[R] at hp;subst hp;exact⟨b,off,cs.drop off,rfl,by simpa using ((Rd.Oz (hs.ok.b8 b cs U)).mono E.Ou rfl).drop off,h2⟩
 | elt cs off =>
  simp only[mf] at h;simp only[R] at hp;obtain⟨b,o,rfl,h2⟩:=hp;exact⟨b,o+off,cs.drop off,rfl,((Rd.Oz h2).mono E.Ou rfl).drop off,h⟩
 | _=>simp[mf] at h
def axj(hs:bN E st a){n:Nat}{y:X}(ho:o.op = .load t x)(ht:iO P t=aa g)(hn:eQ P t=aa n)(hy:R E (ev st y) (a.eval x))
 (h:opt (mf st g n (ev st y)) (K2 K st)):o.wp P a E.w (ei E a o.dst K) Q:=by
 unfold opt K2 at h;split at h
 .rename_i v hv;obtain⟨b,off,cs,U,h2,h3⟩:=VN hs hv hy;obtain⟨u,h4,h5⟩:=run_load ht hn h2 h3;exact dh hs (by simp[execOp,ho,Instr.loadAt,Instr.sureAddr,U,h4]) h5 h
 .exact h.elim
end
structure Ext(w w' : World):Prop where
 os:w'.os=w.os
 output:w'.output=w.output
 tape:w'.tape=w.tape
 size:w.heap.size<=w'.heap.size
 block:∀b,b<w.heap.size->w'.heap[b]?=w.heap[b]?
 iq:∀a,w'.frozen? a=w.frozen? a
def Ext.refl(w:World):Ext w w:=⟨rfl,rfl,rfl,bY _,λ_ _=>rfl,λ_=>rfl⟩
variable{w':World}
def Ext.drew(h:Ext w w'):Ext w w'.drew:=⟨h.os,h.output,h.tape,h.size,h.block,h.iq⟩
def Ext.alloc(h:Ext w w')(c:Array Value)(t:TypeId):Ext w (w'.alloc (.cells c t)) :=
 ⟨h.os,h.output,h.tape,by simp;have:=h.size;omega,λb hb=>(heap_alloc_old w' _ (ur hb h.size)).trans (h.block b hb),λa=>(akQ w' c t a).trans (h.iq a)⟩
def CH{o:Nat}(h:w'.heap[b]?=w.heap[b]?):w'.cell? ⟨b,o,aj⟩=w.cell? ⟨b,o,aj⟩:=by simp[World.cell?,h]
def Wq{o:Nat}{c:Value}(h:w.cell? ⟨b,o,aj⟩=aa c):b<w.heap.size:=World.block_lt_of_cell? (a:=⟨b,o,aj⟩) w h
def lK{x:Obj}(h:w.heap[b]?=aa x):b<w.heap.size:=(lU.1 h).1
def zb(hf:∀b,E.w.heap.size<=b->E.bf b = .const)(hx:Ext E.w E'.w)(hr:∀b,b<E.w.heap.size->E'.bf b=E.bf b)
 (ht:∀t n,E.aR t=aa n->E'.aR t=aa n):Fr E E' := by
 refine⟨hx.os,hx.output,hx.tape,hx.size,hx.iq,?_,?_,?_,?_,?_,?_,λb c e hb=>⟨c,(hx.block b (lK hb)).trans hb,rfl⟩⟩
 .intro b o c hc hv;have hb:=Wq hv;exact⟨by rw[hr b hb];exact hc,by rw[CH (hx.block b hb)];exact hv⟩
 .intro t n hn;refine⟨n,ht t n hn,bY _,λ_ b c hb=>?_⟩;have aD:b<E.w.heap.size:=by
   rcases vF b E.w.heap.size with h | h
   .exact h
   .rw[hf b h] at hb;simp at hb
  exact⟨by rw[hr b aD];exact hb,λcs e b7=>⟨cs,by rw[hx.block b aD];exact b7,rfl⟩⟩
 .intro b hb _;exact⟨hx.block b hb,hr b hb⟩
 .intro b hb h;rw[hr b hb] at h;exact .inl h
 .intro b t c hb h;rw[hr b hb] at h;exact⟨c,h⟩
 .intro b i hb h;rw[hr b hb] at h;exact⟨i,h⟩
variable{cs:List V}
def j4.mono(h:E.le E')(hb:E'.w.heap[b]?=E.w.heap[b]?)(k:j4 E b cs):j4 E' b cs:=by
 obtain⟨c,e,U,h2,h3⟩:=k;exact⟨c,e,by rw[hb];exact U,h2,λj x hx=>let ⟨v,hv,hr⟩:=h3 j x hx;⟨v,hv,hr.mono _ h⟩⟩
def Dw(h:E.ok D)(hle:E.nl.le E'.nl)(hb:∀b,E.bf b = .rh->b<E.w.heap.size->E'.bf b = .rh/\E'.w.heap[b]?=E.w.heap[b]?)
 (ht:∀t n,E.aR t=aa n->E'.aR t=aa n) (hf:∀b,E'.w.heap.size<=b->E'.bf b = .const) (hn:∃N,∀t,N<=t->E'.aR t=aj):E'.ok D:=by
 refine⟨λb cs b7=>?_,λt n mc=>ht t n (h.aR t n mc),hf,hn,λb cs hc=>eU.mono _ hle (h.b8 b cs hc)⟩;obtain⟨U,h2⟩:=h.box b cs b7;have aD:b<E.w.heap.size:=by obtain⟨c,e,h3,_⟩:=h2;exact lK (w:=E.w) h3
 obtain⟨h3,h4⟩:=hb b U aD;exact⟨h3,h2.mono hle h4⟩
def rj{ls:List (List V)}(h:E.dv ls)(hle:E.le E')(hb:∀b i,E.bf b = .jq i->b<E.w.heap.size->E'.bf b = .jq i/\E'.w.heap[b]?=E.w.heap[b]?)
 (hl:∀i,ls.length<=i->E'.aE i=aj):E'.dv ls:=by
 refine⟨λi cs b7=>?_,hl⟩;obtain⟨b,U,h2,h3⟩:=h.box i cs b7;have aD:b<E.w.heap.size:=by obtain⟨c,e,h3,_⟩:=h3;exact lK (w:=E.w) h3
 obtain⟨h4,h5⟩:=hb b i h2 aD;exact⟨b,hle.aE i b U,h4,h3.mono hle h5⟩
section
variable {P:Program} {E:Env} {st:St} {a:Act} {o:Oper} {K:V->St->Prop} {Q:Exit->Act->World->Prop}
def Gj(hs:bN E st a)(hx:Ext E.w w'):Fr E {E with w:=w'}/\E.le {E with w:=w'}/\bN {E with w:=w'} st a:=by
 have bq:Fr E {E with w:=w'}:=zb hs.ok.fresh hx (λ_ _=>rfl) (λ_ _ h=>h);have hle:E.le {E with w:=w'}:=bq.le λ_ _ h=>h
 refine⟨bq,hle,Dw hs.ok bq.nl (λb h hb=>⟨h,hx.block b hb⟩) (λ_ _ h=>h) (λb hb=>hs.ok.fresh b (yQ hx.size hb)) hs.ok.nt,
  rj hs.dv hle (λb i h hb=>⟨h,hx.block b hb⟩) hs.dv.none,hs.defers,RL.mono _ hle hs.slot⟩
def Z8(hs:bN E st a)(hx:Ext E.w w'){x:Value}(hr:(execOp a.eval o).run P E.w = .ok (.value x) w')(hv:R {E with w:=w'} v x)(hk:K v st):
 o.wp P a E.w (ei E a o.dst K) Q:=by
 unfold Oper.wp;rw[hr];obtain⟨U,_,h3⟩:=Gj hs hx;exact⟨_,v,x,st,rfl,U,h3,hv,rfl,hk⟩
def Z_(hs:bN E st a)(hr:(execOp a.eval o).run P E.w = .ok (.value (.pointer (aa ⟨E.w.heap.size,0,aj⟩))) (E.w.alloc (.cells c e)))
 (hz:RL E zs c.toList) (hk:K (.ptr (.aE st.aE.length) 0) ⟨st.t,st.aE++[zs],st.out⟩):o.wp P a E.w (ei E a o.dst K) Q:=by
 unfold Oper.wp;rw[hr]
 let E' : Env:={w:=E.w.alloc (.cells c e),bf:=λb=>if b=E.w.heap.size then .jq st.aE.length else E.bf b,aE:=λi=>if i=st.aE.length then aa E.w.heap.size else E.aE i,aR:=E.aR}
 have hx:Ext E.w E'.w:=(Ext.refl _).alloc _ _;have bq:Fr E E' := zb hs.ok.fresh hx (λb hb=>by simp only[E'];rw[aB (by omega)]) (λ_ _ h=>h);have hle:E.le E' := bq.le λi b h=>by
  simp only[E'];split
  .rename_i hi;rw[hs.dv.none i (by omega)] at h;simp at h
  .exact h
 refine⟨E',_,_,⟨st.t,st.aE++[zs],st.out⟩,rfl,bq,⟨?_,⟨?_,?_⟩,hs.defers,RL.mono _ hle hs.slot⟩,?_,rfl,hk⟩
 .refine Dw hs.ok bq.nl (λb h hb=>⟨by simp only[E'];rw[aB (by omega)];exact h,hx.block b hb⟩) (λ_ _ h=>h) (λb hb=>?_) hs.ok.nt;simp only[E',World.size_alloc] at hb ⊢;rw[aB (by omega)];exact hs.ok.fresh b (by omega)
 .intro i cs b7
  rcases AP i st.aE.length with hi | hi | hi
  .rw[qJ hi] at b7;obtain⟨b,U,h2,h3⟩:=hs.dv.box i cs b7;have aD:b<E.w.heap.size:=by obtain⟨c,e,h3,_⟩:=h3;exact lK (w:=E.w) h3
   exact⟨b,hle.aE i b U,by simp only[E'];rw[aB (by omega)];exact h2,h3.mono hle (hx.block b aD)⟩
  .subst hi;rw[AK (bY _)] at b7;simp at b7;subst b7;have hl:=gj hz;refine⟨E.w.heap.size,by simp[E'],by simp[E'],c,e,heap_alloc_new _ _,by simp at hl;omega,λj x hx=>?_⟩;obtain⟨v,hv,cL⟩:=sk hz j x hx;exact⟨v,by simpa using hv,cL.mono _ hle⟩
  .rw[xe (by simp;omega)] at b7;simp at b7
 .intro i hi;simp at hi;simp only[E'];rw[aB (by omega)];exact hs.dv.none i (by omega)
 .simp only[R];exact⟨E.w.heap.size,by simp[E'],rfl⟩
def yV{x:V}{v:Value}{n:Nat}(h:R E x v)(hw:x.wd=aa n):RL E x.cells v.cells.toList/\v.cells.size=n:=by
 cases x<;>simp only[V.wd,bc] at hw<;>try simp at hw
 case agg cs =>
  simp only[R] at h;obtain⟨vs,rfl,h2⟩:=h
  have:=gj h2
  exact⟨by simpa [V.cells,Value.cells] using h2,by simp[Value.cells];simp at this;omega⟩
 case raw u =>
  simp only[R] at h;subst h;obtain⟨ho,rfl⟩:=hw;cases v<;>simp_all [Value.oneCell',Value.cells,V.cells,RL,R]
 case ptr p off =>
  subst hw;have h' := h;cases p
  .simp only[R] at h;obtain⟨b,_,rfl⟩:=h;simp[Value.cells,V.cells,RL];exact h'
  .simp only[R] at h;subst h;simp[Value.cells,V.cells,RL];exact h'
  .simp only[R] at h;subst h;simp[Value.cells,V.cells,RL];exact h'
 all_goals
  subst hw;have h' := h;simp only[R] at h
  first
   | (subst h;simp[Value.cells,V.cells,RL];exact h')
   | (obtain⟨b,o,rfl,_⟩:=h;simp[Value.cells,V.cells,RL];exact h')
def zU:∀{xs:List V} {vs:List Value},RL E xs vs->cW xs=ab->∀v∈vs,v.oneCell' = ab
 | [],[],_,_=>λv hv=>by simp at hv
 | [],_::_,h,_=>by simp[RL] at h
 | _::_,[],h,_=>by simp[RL] at h
 | x :: xs, v :: vs, h, ho => by
  simp only[RL] at h;simp only[cW,bg] at ho;intro u hu
  rcases lq.1 hu with rfl | hu
  .obtain⟨hr,_⟩:=h;have U:=ho.1;cases x<;>simp only[V.one] at U<;>try (simp at U;done)
   case ptr p off=>cases p<;>simp only[R] at hr<;>first | (subst hr;rfl) | (obtain⟨b,_,rfl⟩:=hr;rfl)
   all_goals
    simp only[R] at hr
    first
     | (subst hr;first | rfl | exact U)
     | (obtain⟨b,o,rfl,_⟩:=hr;rfl)
  .exact zU h.2 ho.2 u hu
def Mt:∀{n:Nat} {xs:List V},cw n xs=ab->n<=xs.length
 | 0,_,_=>KP _
 | n+1,[],h=>by simp[cw] at h
 | n+1,x::xs,h=>by simp only[cw] at h;have:=Mt h;simp;omega
def W8:∀{l xs:List V},xs.length<=l.length->∀j:Nat,(over l xs)[j]?=if j<xs.length then xs[j]? else l[j]?
 | [],[],_,j=>by simp[over]
 | [],_::_,h,_=>by simp at h
 | a::l,[],_,j=>by simp[over]
 | a :: l, x :: xs, h, j => by
  cases j with
  | zero=>simp[over]
  | succ j=>simp[over,W8 (l:=l) (xs:=xs) (by simpa using h)]
def W9:∀{l xs:List V},(over l xs).length=l.length
 | [],_=>by simp[over]
 | a::l,[]=>by simp[over]
 | a::l,x::xs=>by simp[over,W9]
def PC:∀{l:List V} {n:Nat} {xs:List V},(setAt l n xs).length=l.length
 | l,0,xs=>by cases l<;>simp[setAt,W9]
 | [],n+1,xs=>by simp[setAt]
 | a::l,n+1,xs=>by simp[setAt,PC]
def PB:∀{l:List V} {n:Nat} {xs:List V},n+xs.length<=l.length->∀j:Nat,
 (setAt l n xs)[j]?=if j<n then l[j]? else if j<n+xs.length then xs[j - n]? else l[j]?
 | l, 0, xs, h, j => by
  have h' : setAt l 0 xs=over l xs:=by cases l<;>simp[setAt]
  rw[h',W8 (by omega)];simp
 | [],n+1,xs,h,j=>by simp at h
 | a :: l, n + 1, xs, h, j => by
  cases j with
  | zero=>simp[setAt]
  | succ j =>
   have:=PB (l:=l) (n:=n) (xs:=xs) (by simp at h;omega) j
   simp only[setAt,List.getElem?_cons_succ,this]
   by_cases U:j<n
   .rw[aF U,aF (show j+1<n+1 by omega)]
   .rw[aB U,aB (show ¬j+1<n+1 by omega)]
    by_cases h2:j<n+xs.length
    .rw[aF h2,aF (show j+1<n+1+xs.length by omega),show j+1 - (n+1)=j - n from by omega]
    .rw[aB h2,aB (show ¬j+1<n+1+xs.length by omega)]
variable{off:Nat}
def Pq{n:Nat}(hn:eQ P t=aa n)(hb:w.heap[b]?=aa (.cells c e (0,0))){v:Value}(hv:v.cells.size=n)
 (xV:off+n<=c.size) (U:∀u∈v.cells.toList,u.oneCell' = ab) :
 (storeVar t ⟨b,off,aj⟩ v).run P w = .ok () (w.setRow b (c.toList.take off++v.cells.toList++c.toList.drop (off+n)).toArray):=by
 have h:=run_storeCells_at (P:=P) b off e v.cells.toList 0 c w hb (by simp;omega) U;simp only[xg,Ck,hv] at h;simp[storeVar,pK hn,hv,h]
def Gi{c vs:List Value}(h:off+vs.length<=c.length)(j:Nat):
 (c.take off++vs++c.drop (off+vs.length))[j]?=if j<off then c[j]? else if j<off+vs.length then vs[j - off]? else c[j]?:=by
 have hl:(c.take off).length=off:=by simp;omega
 by_cases U:j<off
 .rw[aF U,eN,qJ (by omega),KB,aF U]
 .rw[aB U]
  by_cases h2:j<off+vs.length
  .rw[aF h2,eN,AK (by omega),qJ (by omega),hl]
  .rw[aB h2,AK (by simp;omega),vD];congr 1;simp;omega
def Hn(hc:cs.length<=c.size)(hb:∀(j:Nat) x,cs[j]?=aa x->∃v,c[j]?=aa v/\R E' x v)
 {xs:List V} {vs:List Value} (hx:RL E' xs vs) {off:Nat} (xV:off+xs.length<=cs.length)
 (hn:E'.w.heap[b]?=aa (.cells (c.toList.take off++vs++c.toList.drop (off+vs.length)).toArray e (0,0))):j4 E' b (setAt cs off xs):=by
 have hl:=gj hx;refine⟨_,e,hn,?_,λj x hj=>?_⟩
 .simp[PC];omega
 .rw[PB xV] at hj;have hs:=Gi (c:=c.toList) (vs:=vs) (off:=off) (by simp;omega) j;simp only[aav];rw[hs]
  by_cases U:j<off
  .rw[aF U] at hj ⊢;simpa using hb j x hj
  .rw[aB U] at hj ⊢
   by_cases h2:j<off+xs.length
   .rw[aF h2] at hj;rw[aF (by omega)];exact sk hx _ x hj
   .rw[aB h2] at hj;rw[aB (by omega)];simpa using hb j x hj
end
mutual
def R.qx:∀(x:V) {E E' : Env} (_:E.nl.le E'.nl) (_:x.c9=ab) {v:Value},R E x v->R E' x v
 | .any,_,_,_,_,_,_=>by simp only[R]
 | .bool _,_,_,_,_,_,hr=>by simp only[R] at hr ⊢;exact hr
 | .int _ _,_,_,_,_,_,hr=>by simp only[R] at hr ⊢;exact hr
 | .aG _,_,_,_,_,_,hr=>by simp only[R] at hr ⊢;exact hr
 | .jr,_,_,_,_,_,hr=>by simp only[R] at hr ⊢;exact hr
 | .ptr (.aE i) _,_,_,_,hn,_,_=>by simp[V.c9] at hn
 | .ptr (.out _) _,_,_,_,_,_,hr=>by simp only[R] at hr ⊢;exact hr
 | .ptr (.kT _) _,_,_,_,_,_,hr=>by simp only[R] at hr ⊢;exact hr
 | .elt cs _, _, _, h, _, _, hr => by
  simp only[R] at hr ⊢;obtain⟨b,o,U,h2⟩:=hr;exact⟨b,o,U,eU.mono cs h h2⟩
 | .sl t k l, E, E', h, _, _, hr => by
  simp only[R] at hr ⊢;obtain⟨a,cap,U,h2,h3,h4⟩:=hr;have h4' : vJ E.nl k l.length a cap t:=h4;refine⟨a,cap,U,h2,?_,(h4'.mono h:vJ E'.nl k l.length a cap t)⟩
  rcases h3 with h3 | ⟨b,o,h3,h5⟩
  .exact .inl h3
  .exact .inr ⟨b,o,h3,gv.mono l h h5⟩
 | .agg cs, _, _, h, hn, _, hr => by
  simp only[R] at hr ⊢;simp only[V.c9] at hn;obtain⟨vs,U,h2⟩:=hr;exact⟨vs,U,RL.qx cs h hn h2⟩
 | .bH cs, _, _, h, hn, _, hr => by
  simp only[R] at hr ⊢;simp only[V.c9] at hn;obtain⟨vs,U,h2⟩:=hr;exact⟨vs,U,RL.qx cs h hn h2⟩
 | .fn _ first cap, _, _, h, hn, _, hr => by
  simp only[R] at hr ⊢;simp only[V.c9,bg] at hn;obtain⟨fs,cs,U,h2,h3⟩:=hr;exact⟨fs,cs,U,RL.qx first h hn.1 h2,RL.qx cap h hn.2 h3⟩
 | .raw _,_,_,_,_,_,hr=>by simp only[R] at hr ⊢;exact hr
def RL.qx:∀(l:List V) {E E' : Env} (_:E.nl.le E'.nl) (_:bT l=ab) {vs:List Value},RL E l vs->RL E' l vs
 | [],_,_,_,_,[],_=>by simp only[RL]
 | [],_,_,_,_,_::_,hr=>by simp only[RL] at hr
 | _::_,_,_,_,_,[],hr=>by simp only[RL] at hr
 | x :: xs, _, _, h, hn, v :: vs, hr => by
  simp only[RL] at hr ⊢;simp only[bT,bg] at hn;exact⟨R.qx x h hn.1 hr.1,RL.qx xs h hn.2 hr.2⟩
end
def HR(hb:E.w.heap[b]?=aa (.cells c e (0,0)))(hr:(∃i,E.bf b = .jq i)\/E.bf b = .rh)(c8:new.size=c.size):
 Fr E {E with w:=E.w.setRow b new}:=by
 refine⟨rfl,rfl,rfl,by simp,EG hb,?_,?_,?_,λ_ _ h=>.inl h,λ_ _ c _ h=>⟨c,h⟩,λ_ i _ h=>⟨i,h⟩,λb' c' e' hc=>?_⟩
 .intro b' o v hc hv;have a9:b' ≠ b:=by
   rintro rfl
   rcases hr with ⟨i,hi⟩ | hi<;>rw[hi] at hc<;>exact hc.elim
  exact⟨hc,by rw[cell_setRow_other E.w b new ⟨b',o,aj⟩ a9];exact hv⟩
 .intro t n hn;refine⟨n,hn,bY _,λ_ b' k hk=>⟨hk,λcs e' b7=>?_⟩⟩;have a9:b' ≠ b:=by
   rintro rfl
   rcases hr with ⟨i,hi⟩ | hi<;>rw[hi] at hk<;>simp at hk
  exact⟨cs,by simp only[setRow_other E.w b b' new a9];exact b7,rfl⟩
 .intro b' _ hk;have a9:b' ≠ b:=by
   rintro rfl
   rcases hr with ⟨i,hi⟩ | hi<;>rw[hi] at hk<;>simp at hk
  exact⟨setRow_other E.w b b' new a9,rfl⟩
 .by_cases cQ:b' = b
  .subst cQ;rw[hb] at hc;simp only[bc,Obj.cells.injEq] at hc;obtain⟨rfl,rfl,_⟩:=hc;exact⟨new,setRow_heap E.w b' c new e _ hb,c8⟩
  .exact⟨c',(setRow_other E.w b b' new cQ).trans hc,rfl⟩
def ah.eW(D:ah)(b:Nat)(cs:List V):(D.set b cs).box b=aa cs:=by simp[ah.set]
def ah.eY(D:ah){x:Nat}(cs:List V)(h:x≠b):(D.set b cs).box x=D.box x:=by simp[ah.set,h]
section
variable {P:Program} {E:Env} {st:St} {a:Act} {o:Oper} {K:V->St->Prop} {Q:Exit->Act->World->Prop}
variable{off:Nat}
def Zy{n:Nat}(iw:0<n)(hn:eQ P t=aa n)(hb:E.w.heap[b]?=aa (.cells c e (0,0)))(hlen:cs.length<=c.size)
 {ay:V} {v:Value} (hy:R E ay v) (hh:cw n (cs.drop off)=ab) (sL:ay.wd=aa n) (gp:cW ay.cells=ab) :
 ∃vs:List Value,RL E ay.cells vs/\off+ay.cells.length<=cs.length /\
  (storeVar t ⟨b,off,aj⟩ v).run P E.w = .ok () (E.w.setRow b (c.toList.take off++vs++c.toList.drop (off+vs.length)).toArray) /\
  (E.w.setRow b (c.toList.take off++vs++c.toList.drop (off+vs.length)).toArray).heap[b]?=aa (.cells (c.toList.take off++vs++c.toList.drop (off+vs.length)).toArray e (0,0)):=by
 obtain⟨tH,c8⟩:=yV hy sL;have hl:=gj tH;have hle:=Mt hh;simp at hle hl;have b7:off+n<=cs.length:=by omega
 refine⟨v.cells.toList,tH,by omega,?_,setRow_heap E.w b c _ e _ hb⟩
 have:=Pq (P:=P) (off:=off) hn hb c8 (by omega) (zU tH gp)
 rw[this];simp[c8]
def JK{v:Value}(h:(storeVar t ⟨b,off,aj⟩ v).run P w = .ok () w'):
 (Instr.storeAt t (.pointer (aa ⟨b,off,aj⟩)) v).run P w = .ok () w' := by
 simp[Instr.storeAt,Instr.sureAddr,h]
variable{y:Operand}
def aaa(hs:bN E st a){n:Nat}{ax ay:V}(iw:0<n)(ho:o.op = .store t x y)(hn:eQ P t=aa n)(hx:R E ax (a.eval x))(hy:R E ay (a.eval y))
 {aP : St} (h:dW st n ay ax=aa aP) (hk:K .any aP):o.wp P a E.w (ei E a o.dst K) Q:=by
 cases ax with
 | ptr p off =>
  cases p with
  | kT b=>simp[dW] at h
  | aE i =>
   simp only[dW,iV] at h;obtain⟨cs,U,h2⟩:=h;split at h2
   case isFalse=>simp at h2
   rename_i hc;obtain⟨hh,sL,gp⟩:=hc;simp only[bc] at h2;subst h2;simp only[R] at hx;obtain⟨b,hb,hx⟩:=hx;obtain⟨b',h3,d_,c,e,fB,hlen,qe⟩:=hs.dv.box i cs U;rw[hb] at h3;simp only[bc] at h3;subst h3;obtain⟨vs,tH,xV,dk,iv⟩:=Zy (P:=P) (t:=t) iw hn fB hlen hy hh sL gp;have bq:=HR (E:=E) (new:=(c.toList.take off++vs++c.toList.drop (off+vs.length)).toArray) fB (.inl ⟨i,d_⟩) (by have:=gj tH;simp;omega);have hle:=bq.le λ_ _ h=>h
   have qd:=Hn (E' := {E with w:=E.w.setRow b (c.toList.take off++vs++c.toList.drop (off+vs.length)).toArray}) hlen
    (λj x hj=>let ⟨u,U,h2⟩:=qe j x hj;⟨u,U,h2.mono _ hle⟩) (RL.mono _ hle tH) xV iv
   generalize (c.toList.take off++vs++c.toList.drop (off+vs.length)).toArray=new at dk iv bq hle qd;have j_ : ∀b',b' ≠ b->(E.w.setRow b new).heap[b']?=E.w.heap[b']?:=λb' a9=>setRow_other E.w b b' new a9
   unfold Oper.wp;rw[show(execOp a.eval o).run P E.w = .ok .skip (E.w.setRow b new) from by simp[execOp,ho,hx,JK dk]];refine⟨{E with w:=E.w.setRow b new},.any,undef,⟨st.t,st.aE.set i (setAt cs off ay.cells),st.out⟩,rfl,bq,⟨?_,⟨?_,?_⟩,hs.defers,RL.mono _ hle hs.slot⟩,by simp[R],rfl,hk⟩
   .exact Dw hs.ok bq.nl (λb' hr _=>⟨hr,j_ b' (by rintro rfl;rw[d_] at hr;simp at hr)⟩) (λ_ _ h=>h) (λb' cC => hs.ok.fresh b' (by simpa using cC)) hs.ok.nt
   .intro j ds hj
    by_cases gd:j=i
    .subst gd;have aD:j<st.aE.length:=(fy.1 U).1;simp only[QV aD,bc] at hj;subst hj;exact⟨b,hb,d_,qd⟩
    .simp only[D8 (fJ gd)] at hj;obtain⟨b',k1,k2,k3⟩:=hs.dv.box j ds hj;exact⟨b',k1,k2,k3.mono hle (j_ b' (by rintro rfl;rw[d_] at k2;simp at k2;exact gd k2.symm))⟩
   .intro j hj;exact hs.dv.none j (by simpa using hj)
  | out b =>
   simp only[dW,iV] at h;obtain⟨cs,U,h2⟩:=h;split at h2
   case isFalse=>simp at h2
   rename_i hc;obtain⟨hh,sL,gp,qj⟩:=hc;simp only[bc] at h2;subst h2;simp only[R] at hx;obtain⟨d_,c,e,fB,hlen,qe⟩:=hs.ok.box b cs U;have H8 : E.w.heap[b]?=aa (.cells c e (0,0)):=fB;obtain⟨vs,tH,xV,dk,iv⟩:=Zy (P:=P) (t:=t) iw hn H8 hlen hy hh sL gp;have bq:=HR (E:=E) (new:=(c.toList.take off++vs++c.toList.drop (off+vs.length)).toArray) H8 (.inr d_) (by have:=gj tH;simp;omega);have hle:=bq.le λ_ _ h=>h
   have qd:=Hn (E' := Env.nl {E with w:=E.w.setRow b (c.toList.take off++vs++c.toList.drop (off+vs.length)).toArray}) hlen
    (λj x hj=>let ⟨u,U,h2⟩:=qe j x hj;⟨u,U,h2.mono _ bq.nl⟩) (RL.mono _ bq.nl (RL.qx (E:=E) (E' := E.nl) _ (Env.le.refl E.nl) qj tH)) xV iv
   generalize (c.toList.take off++vs++c.toList.drop (off+vs.length)).toArray=new at dk iv bq hle qd;have j_ : ∀b',b' ≠ b->(E.w.setRow b new).heap[b']?=E.w.heap[b']?:=λb' a9=>setRow_other E.w b b' new a9
   unfold Oper.wp;rw[show(execOp a.eval o).run P E.w = .ok .skip (E.w.setRow b new) from by simp[execOp,ho,hx,JK dk]];refine⟨{E with w:=E.w.setRow b new},.any,undef,⟨st.t,st.aE,st.out.set b (setAt cs off ay.cells)⟩,rfl,bq,⟨⟨?_,hs.ok.aR,λb' cC => hs.ok.fresh b' (by simpa using cC),hs.ok.nt,λb cs hc=>eU.mono _ bq.nl (hs.ok.b8 b cs hc)⟩,
    rj hs.dv hle (λb' i hr _=>⟨hr,j_ b' (by rintro rfl;rw[d_] at hr;simp at hr)⟩) hs.dv.none,hs.defers,RL.mono _ hle hs.slot⟩,by simp[R],rfl,hk⟩
   intro b' ds kV
   by_cases cQ:b' = b
   .subst cQ;rw[ah.eW] at kV;simp only[bc] at kV;subst kV;exact⟨d_,qd⟩
   .rw[ah.eY _ _ cQ] at kV;obtain⟨k1,k2⟩:=hs.ok.box b' ds kV;exact⟨k1,k2.mono bq.nl (j_ b' cQ)⟩
 | _=>simp[dW] at h
end
def fz.mK:fz->fz
 | .jq _=>.nC
 | r=>r
def fz.UL(r:fz)(o:Nat):r.mK.iX o↔r.iX o:=by cases r<;>simp[fz.mK,fz.iX]
def Env.call(E:Env):Env:={w:=E.w,bf:=λb=>(E.bf b).mK,aE:=λ_=>aj,aR:=E.aR}
def fz.back:fz->fz->fz
 | .jq i,_=>.jq i
 | _,r=>r
def Env.back(E E' : Env):Env:={w:=E'.w,bf:=λb=>(E.bf b).back (E'.bf b),aE:=E.aE,aR:=E'.aR}
def Ld(E:Env):E.nl.le E.call.nl :=
 ⟨λb o c hc hv=>⟨(fz.UL _ _).2 hc,hv⟩,λ_ _ h=>by simp at h,λt n hn=>⟨n,hn,bY _,λ_ b c hb=>⟨by
  show(E.bf b).mK=_;have cC : E.bf b = .hZ t c:=hb;rw[cC];rfl,λcs _ hc=>⟨cs,hc,rfl⟩⟩⟩⟩
def ac_(h:E.ok D):E.call.ok D:=by
 refine⟨λb cs b7=>?_,h.aR,λb hb=>?_,h.nt,λb cs hc=>eU.mono _ (Ld E) (h.b8 b cs hc)⟩
 .obtain⟨U,h2⟩:=h.box b cs b7;exact⟨by show(E.bf b).mK=_;rw[U];rfl,h2.mono (Ld E) rfl⟩
 .show(E.bf b).mK=_;rw[h.fresh b hb];rfl
section
variable {E E' : Env} (hf:∀b,E.w.heap.size<=b->E.bf b = .const) (h:Fr E.call E')
variable{i:Nat}
include hf h in
theorem Hh(hb:E.bf b = .jq i):b<E.w.heap.size/\E'.bf b = .nC/\E'.w.heap[b]?=E.w.heap[b]?:=by
 have aD:b<E.w.heap.size:=by
  rcases vF b E.w.heap.size with h | h
  .exact h
  .rw[hf b h] at hb;simp at hb
 have hr:E.call.bf b = .nC:=by show(E.bf b).mK=_;rw[hb];rfl
 obtain⟨U,h2⟩:=h.same b aD (.inr hr);exact⟨aD,h2.trans hr,U⟩
include hf h in
theorem RN(b o:Nat):((E.back E').bf b).iX o↔(E'.bf b).iX o:=by
 show(((E.bf b).back (E'.bf b)).iX o↔_);cases hb:E.bf b with
 | jq i =>
  obtain⟨_,h2,_⟩:=Hh hf h hb;simp[fz.back,h2,fz.iX]
 | _=>simp[fz.back]
include hf h in
theorem RO{t c:Nat}(hb:E'.bf b = .hZ t c):(E.back E').bf b = .hZ t c:=by
 show(E.bf b).back (E'.bf b)=_;cases hr:E.bf b with
 | jq i =>
  obtain⟨_,h2,_⟩:=Hh hf h hr;rw[hb] at h2;simp at h2
 | _=>simp[fz.back,hb]
include hf h in
theorem ace(hb:E'.bf b = .rh):(E.back E').bf b = .rh:=by
 show(E.bf b).back (E'.bf b)=_;cases hr:E.bf b with
 | jq i =>
  obtain⟨_,h2,_⟩:=Hh hf h hr;rw[hb] at h2;simp at h2
 | _=>simp[fz.back,hb]
include hf h in
theorem acd:E'.nl.le (E.back E').nl :=
 ⟨λb o _ hc hv=>⟨(RN hf h b o).2 hc,hv⟩,λ_ _ h=>by simp at h,λ_ n hn=>⟨n,hn,bY _,λ_ _ _ hb=>⟨RO hf h hb,λcs _ hc=>⟨cs,hc,rfl⟩⟩⟩⟩
include hf h in
theorem acb:Fr E (E.back E'):=by
 refine⟨h.os,h.output,h.tape,h.size,h.iq,?_,?_,?_,?_,?_,?_,h.shape⟩
 .intro b o c hc hv;obtain⟨U,h2⟩:=h.cell b o c ((fz.UL _ _).2 hc) hv;exact⟨(RN hf h b o).2 U,h2⟩
 .intro t n hn;obtain⟨n',U,h2,h3⟩:=h.tok t n hn;refine⟨n',U,h2,λhe b c hb=>?_⟩;obtain⟨h4,h5⟩:=h3 he b c (by show(E.bf b).mK=_;rw[hb];rfl);exact⟨RO hf h h4,h5⟩
 .intro b hb hr;have a9:(E.bf b).mK=E.bf b:=by rcases hr with hr | hr<;>rw[hr]<;>rfl
  obtain⟨U,h2⟩:=h.same b hb (by show(E.bf b).mK=_\/(E.bf b).mK=_;rw[a9];exact hr);refine⟨U,?_⟩;show(E.bf b).back (E'.bf b)=_;have xG : E'.bf b=(E.bf b).mK:=h2;rw[xG,a9]
  rcases hr with hr | hr<;>rw[hr]<;>rfl
 .intro b hb hr;have cL : (E.bf b).back (E'.bf b) = .rh:=hr;cases hq:E.bf b with
  | jq i=>rw[hq] at cL;simp[fz.back] at cL
  | rh=>exact .inl rfl
  | _ =>
   rw[hq] at cL;simp only[fz.back] at cL
   rcases h.Ej b hb cL with h' | ⟨j,h'⟩
   .have h' : (E.bf b).mK = .rh:=h';rw[hq] at h';simp[fz.mK] at h'
   .have h' : (E.bf b).mK = .jq j:=h';rw[hq] at h';simp[fz.mK] at h'
 .intro b t c hb hr;have cL : (E.bf b).back (E'.bf b) = .hZ t c:=hr;cases hq:E.bf b with
  | jq i=>rw[hq] at cL;simp[fz.back] at cL
  | _ =>
   rw[hq] at cL;simp only[fz.back] at cL;obtain⟨c0,this⟩:=h.Ek b t c hb cL;have h' : (E.bf b).mK = .hZ t c0:=this;rw[hq] at h'
   first | (simp[fz.mK] at h';done) | exact⟨c0,h'⟩
 .intro b i hb hr;have cL : (E.bf b).back (E'.bf b) = .jq i:=hr;cases hq:E.bf b with
  | jq j=>exact⟨j,rfl⟩
  | _ =>
   rw[hq] at cL;simp only[fz.back] at cL;obtain⟨c0,this⟩:=h.CC b i hb cL;have h' : (E.bf b).mK = .jq c0:=this;rw[hq] at h';simp[fz.mK] at h'
end
section
variable {P:Program} {E:Env} {st:St} {a:Act} {o:Oper} {K:V->St->Prop} {Q:Exit->Act->World->Prop}
def ac9(hs:bN E st a){xs:List V}{vs:Array Value}(hx:RL E xs vs.toList)(hn:bT xs=ab)(hc:ch P f xs st.out λv D=>K v ⟨st.t,st.aE,D⟩):
 Calls P f vs E.w λe w' => ∃E' v x aP,e = .returned x/\E'.w=w' /\ Fr E E' /\ bN E' aP a/\R E' v x/\K v aP := by
 have hf:=hs.ok.fresh;refine(hc.2 E.call vs (λ_=>rfl) (ac_ hs.ok) (RL.qx _ (Ld E) hn hx)).mono ?_;rintro e w' ⟨v,x,E',σ',rfl,rfl,M0,ck,hr,bq,hk⟩;have zp := acb hf bq;have hle:E.le (E.back E'):=zp.le λ_ _ h=>h
 have Mx:=acd hf bq;refine⟨E.back E',v,x,⟨st.t,st.aE,σ'⟩,rfl,rfl,zp,⟨⟨?_,ck.aR,?_,ck.nt,λb cs hc=>eU.mono _ Mx (ck.b8 b cs hc)⟩,?_,hs.defers,RL.mono _ hle hs.slot⟩,?_,hk⟩
 .intro b cs b7;obtain⟨U,h2⟩:=ck.box b cs b7;exact⟨ace hf bq U,h2.mono Mx rfl⟩
 .intro b hb;have cC : E'.w.heap.size<=b:=hb;show(E.bf b).back (E'.bf b)=_;rw[hf b (yQ bq.size cC)];exact ck.fresh b cC
 .refine rj hs.dv hle (λb i cL aD=>?_) hs.dv.none;obtain⟨_,_,h3⟩:=Hh hf bq cL;exact⟨by show(E.bf b).back (E'.bf b)=_;rw[cL];rfl,h3⟩
 .have U:E'.nl.le (E.back E').nl:=Mx;have h2:E'.le (E.back E'):=⟨U.cell,λi b hb=>by rw[M0 i] at hb;simp at hb,U.tok⟩;exact hr.mono _ h2
def Z5(hs:bN E st a){xs:List V}{vs:Array Value}(hx:RL E xs vs.toList)(hn:bT xs=ab)(hc:ch P f xs st.out λv D=>K v ⟨st.t,st.aE,D⟩)
 (hr:(execOp a.eval o).run P E.w=(callFunc f vs).run P E.w):o.wp P a E.w (ei E a o.dst K) Q:=by
 unfold Oper.wp;rw[hr,hc.1];simp only[Oper.upon_enter];refine(ac9 hs hx hn hc).mono ?_;rintro e w' ⟨E',v,x,aP,rfl,rfl,U,h2,h3,h4⟩;exact⟨E',v,x,aP,rfl,U,h2,h3,rfl,h4⟩
end
def yT{E:Env}:∀{xs ys:List V} {b o:Nat},eU E (xs++ys) b o↔eU E xs b o/\eU E ys b (o+xs.length)
 | [],ys,b,o=>by simp[eU]
 | x :: xs, ys, b, o => by
  simp only[il,eU,yT (xs:=xs),dm,KY];rw[show o+1+xs.length=o+(xs.length+1) from by omega]
def sj{E:Env}{k:Nat}:∀{l:List (List V)} {b o:Nat},gv E k l b o↔(∀x∈l,x.length=k)/\eU E l.flatten b o
 | [],b,o=>by simp[gv,eU]
 | x :: xs, b, o => by
  simp only[gv,lV,yT,sj (l:=xs),fh];constructor
  .rintro⟨U,h2,h3,h4⟩;exact⟨⟨U,h3⟩,h2,by rw[U];exact h4⟩
  .rintro⟨⟨U,h3⟩,h2,h4⟩;exact⟨U,h2,h3,by rw[U] at h4;exact h4⟩
def n7{k:Nat}:∀{l:List (List V)},(∀x∈l,x.length=k)->l.flatten.length=l.length*k
 | [],_=>by simp
 | x :: xs, h => by
  simp only[fh] at h;simp only[lV,bM,h.1,n7 h.2,dm,jw,xi];omega
def GZ{E:Env}:∀{cs:List V} {b o:Nat},eU E cs b o->∃vs:List Value,RL E cs vs/\(∀(j:Nat) v,vs[j]?=aa v->E.w.cell? ⟨b,o+j,aj⟩=aa v) /\
 (∀v∈vs,v.oneCell' = ab)/\∀j,j<cs.length->(E.bf b).iX (o+j)
 | [],_,_,_=>⟨[],by simp[RL],λj v h=>by simp at h,λv hv=>by simp at hv,λj hj=>by simp at hj⟩
 | x :: xs, b, o, h => by
  simp only[eU] at h;obtain⟨⟨c,U,h2,h3,h4⟩,h5⟩:=h;obtain⟨vs,k1,k2,k3,k4⟩:=GZ h5;refine⟨c::vs,?_,λj v hv=>?_,λv hv=>?_,λj hj=>?_⟩
  .simp only[RL];exact⟨h4,k1⟩
  .cases j with
   | zero=>simp at hv;subst hv;exact U
   | succ j=>simp at hv;rw[show o+(j+1)=o+1+j from by omega];exact k2 j v hv
  .rcases lq.1 hv with rfl | hv
   .exact h3
   .exact k3 v hv
  .cases j with
   | zero=>exact h2
   | succ j=>rw[show o+(j+1)=o+1+j from by omega];exact k4 j (by simpa using hj)
def Cw{E:Env}{b:Nat}:∀{cs:List V} {vs:List Value} {o:Nat},RL E cs vs->(∀v∈vs,v.oneCell' = ab)->(∀(j:Nat) v,vs[j]?=aa v->E.w.cell? ⟨b,o+j,aj⟩=aa v) ->
 (∀j,j<cs.length->(E.bf b).iX (o+j))->eU E cs b o
 | [],_,_,_,_,_,_=>by simp[eU]
 | _::_,[],_,h,_,_,_=>by simp[RL] at h
 | x :: xs, v :: vs, o, h, U, h2, h3 => by
  simp only[RL] at h;simp only[eU];refine⟨⟨v,by simpa using h2 0 v (by simp),by simpa using h3 0 (by simp),U v (by simp),h.1⟩,Cw h.2 (λu hu=>U u (by simp[hu])) (λj u hu=>?_) (λj hj=>?_)⟩
  .rw[show o+1+j=o+(j+1) from by omega];exact h2 (j+1) u (by simpa using hu)
  .rw[show o+1+j=o+(j+1) from by omega];exact h3 (j+1) (by simpa using hj)
structure Src(P:Program)(w:World)(size m:Nat)(ty:TypeId)(x:Value)(news:List Value):Prop where
 ty:∃d,P.underlying ty=aa d/\∀k,d≠.int k
 len:∀w',(Builtin.lenOf x).run P w' = .ok m w'
 cells:(Builtin.firstCells size m x).run P w = .ok news.toArray w
 p9 : (Builtin.firstCells size m x).run P w.drew = .ok news.toArray w.drew
 size:news.length=m*size
section
variable {P:Program} {w:World} {t u ty e:TypeId} {i:TypeInfo} {z:Value}
variable{base:Option Addr}
def YD(ht:P.underlying t=aa (.slice e))(hi:P.info? e=aa i){n:Nat}(hn:n<=cap){x:Value}(hx:Src P w i.size 0 u x []):
 (Builtin.append_ #[t,u] ty #[.slice base n cap,x]).run P w = .ok (.slice base n cap) w:=by
 obtain⟨d,hd,hk⟩:=hx.ty;cases base<;>simp[Builtin.append_,run_underlying ht,run_underlying hd,sizeOf,typeInfo,hi,hx.len,hn,hx.cells,storeCells]
def Po(ht:P.underlying t=aa (.slice e))(hi:P.info? e=aa i){g n:Nat}{cur:Array Value}{e' : TypeId}(hg:w.heap[g]?=aa (.cells cur e' (0,0)))
 {x:Value} {news:List Value} (hx:Src P w i.size m u x news) (U:∀v∈news,v.oneCell' = ab) (ql:n+m<=cap) (qg:n*i.size+news.length<=cur.size) :
 (Builtin.append_ #[t,u] ty #[.slice (aa ⟨g,0,aj⟩) n cap,x]).run P w =
  .ok (.slice (aa ⟨g,0,aj⟩) (n+m) cap) (w.setRow g (cur.toList.take (n*i.size)++news++cur.toList.drop (n*i.size+news.length)).toArray):=by
 obtain⟨d,hd,hk⟩:=hx.ty;have eE:=run_storeCells_at (P:=P) g (n*i.size) e' news 0 cur w hg (by simpa using qg) U;simp only[xg] at eE;simp[Builtin.append_,run_underlying ht,run_underlying hd,sizeOf,typeInfo,hi,hx.len,ql,hx.cells,my,eE]
def Pn(ht:P.underlying t=aa (.slice e))(hi:P.info? e=aa i)(hzv:i.zero=aa z){n:Nat}{iL:List Value}
 (ho:(Builtin.firstCells i.size n (.slice base n cap)).run P w.drew = .ok iL.toArray w.drew)
 {x:Value} {news:List Value} (hx:Src P w i.size m u x news) (hg:cap<n+m) (hb:(n+m)*i.bytes<=140737488355328) (hs:n+m<=9223372036854775807) :
 (Builtin.append_ #[t,u] ty #[.slice base n cap,x]).run P w =
  .ok (.slice (aa ⟨w.heap.size,0,aj⟩) (n+m) (grownCap w (n+m) cap e))
   (w.drew.alloc (.cells (iL++(news++(Builtin.zeroCells z.cells (grownCap w (n+m) cap e - (n+m))).toList)).toArray e)):=by
 obtain⟨d,hd,hk⟩:=hx.ty;have hn:¬(n+m<=cap):=by omega
 have alA : ¬(9223372036854775807<((n:Int)+(m:Int))):=by omega
 have qg:=growslice_fits (need:=n+m) (old:=cap) (bytes:=i.bytes) hg hb;have alz : ¬(281474976710656<Builtin.nextslicecap (n+m) cap*i.bytes):=by omega
 have ku : (Builtin.firstCells i.size m x).run P w.drew = .ok news.toArray w.drew:=hx.p9;simp[Builtin.append_,run_underlying ht,run_underlying hd,sizeOf,typeInfo,zeroValue,hi,hzv,hx.len,hn,alA,alz,Question.forced,ho,ku,newRow,grownCap];congr 2;apply D2;simp
end
variable{u:TypeId}
def JQ{e':TypeId}(hu:P.underlying u=aa (.slice e')){t' : Tk}{m:List (List V)}{x:Value}(h:R E (.sl t' k m) x):
 ∃news,Src P E.w k m.length u x news/\RL E.nl m.flatten news/\(∀v∈news,v.oneCell' = ab)/\∀y∈m,y.length=k:=by
 simp only[R] at h;obtain⟨a,cap,rfl,_,h3,_⟩:=h;have Vc:∃d,P.underlying u=aa d/\∀k,d≠.int k:=⟨_,hu,λ_ h=>by simp at h⟩
 rcases h3 with rfl | ⟨b,o,rfl,hr⟩
 .refine⟨[],⟨Vc,λw' => by simp[Builtin.lenOf],?_,?_,by simp⟩,by simp[RL],λv hv=>by simp at hv,λy hy=>by simp at hy⟩ <;>
   cases a<;>simp[Builtin.firstCells,loadCells,loadCellsFrom]
 .obtain⟨U,h2⟩:=sj.1 hr;obtain⟨vs,k1,k2,k3,_⟩:=GZ h2;have hl:=gj k1;rw[n7 U] at hl;have hc:∀(j:Nat) v,vs[j]?=aa v->E.w.cell? ((⟨b,o,aj⟩:Addr).add j)=aa v:=λj v hv=>by rw[my];exact k2 j v hv
  refine⟨vs,⟨Vc,λw' => by simp[Builtin.lenOf],?_,?_,hl.symm⟩,k1,k3,U⟩
  .have:=run_loadCells_list (P:=P) E.w ⟨b,o,aj⟩ vs hc
   simp only[Builtin.firstCells];rw[hl];exact this
  .have:=run_loadCells_list (P:=P) E.w.drew ⟨b,o,aj⟩ vs hc
   simp only[Builtin.firstCells];rw[hl];exact this
variable{l:List (List V)}
def W1(h3:l=[]\/∃b o,a=aa ⟨b,o,aj⟩/\gv E.nl k l b o):
 ∃iL,(Builtin.firstCells k l.length (.slice a l.length cap)).run P E.w.drew = .ok iL.toArray E.w.drew/\RL E.nl l.flatten iL/\(∀v∈iL,v.oneCell' = ab)/\(∀y∈l,y.length=k)/\iL.length=l.length*k:=by
 rcases h3 with rfl | ⟨b,o,rfl,hr⟩
 .refine⟨[],?_,by simp[RL],λv hv=>by simp at hv,λy hy=>by simp at hy,by simp⟩;cases a<;>simp[Builtin.firstCells,loadCells,loadCellsFrom]
 .obtain⟨U,h2⟩:=sj.1 hr;obtain⟨vs,k1,k2,k3,_⟩:=GZ h2;have hl:=gj k1;rw[n7 U] at hl;have hc:∀(j:Nat) v,vs[j]?=aa v->E.w.cell? ((⟨b,o,aj⟩:Addr).add j)=aa v:=λj v hv=>by rw[my];exact k2 j v hv
  refine⟨vs,?_,k1,k3,U,hl.symm⟩
  have:=run_loadCells_list (P:=P) E.w.drew ⟨b,o,aj⟩ vs hc
  simp only[Builtin.firstCells];rw[hl];exact this
section
variable {P:Program} {E:Env} {st:St} {a:Act} {o:Oper} {K:V->St->Prop} {Q:Exit->Act->World->Prop}
def G0{nb:Nat}{vs rest:List Value}{fr:Nat × Nat}(hl:∀y∈l,y.length=k)(hr:RL E'.nl l.flatten vs)(U:∀v∈vs,v.oneCell' = ab)
 (hb:E'.w.heap[nb]?=aa (.cells (vs++rest).toArray e fr)) (hc:∀j,j<l.length*k->(E'.bf nb).iX j):gv E'.nl k l nb 0:=by
 refine sj.2 ⟨hl,Cw hr U (λj v hv=>?_) (λj hj=>by rw[n7 hl] at hj;simpa using hc j hj)⟩;have aD:=(fy.1 hv).1;simp[World.cell?,hb,qJ aD,hv]
def GD(hs:bN E st a){ty:TypeId}{i:TypeInfo}{z:Value}(ht:P.underlying t=aa (.slice e))(hi:P.info? e=aa i)(hz:i.zero=aa z)(jB:z.cells.size=i.size)
 (oD:i.bytes<=4096) {vs vx:Value} {tk:Tk} {l m:List (List V)}
 (dk:(execOp a.eval o).run P E.w=((Builtin.append_ #[t,u] ty #[vs,vx]).run P E.w).andThen λv w' => .ok (.value v) w')
 (bx:R E (.sl tk i.size l) vs) {news:List Value} (sJ:Src P E.w i.size m.length u vx news) (tL:RL E.nl m.flatten news) (gp:∀v∈news,v.oneCell' = ab) (hm:∀y∈m,y.length=i.size)
 (lB:l.length+m.length<=aQ)
 (hk:match (generalizing:=false) tk with
   | .aZ=>(∀Z,st.out.aR Z=aj->K (.sl (.tk Z) i.size (l++m)) ⟨st.t,st.aE,st.out.a_ Z (l.length+m.length)⟩)\/K (.sl .no i.size (l++m)) st
   | .tk Z=>st.out.aR Z=aa l.length/\K (.sl (.tk Z) i.size (l++m)) ⟨st.t,st.aE,st.out.a_ Z (l.length+m.length)⟩
   | .no=>False):o.wp P a E.w (ei E a o.dst K) Q:=by
 simp only[R] at bx;obtain⟨base,cap,rfl,Bh,mI,wC⟩:=bx;obtain⟨iL,hold,Mn,Mb,dR,hlen⟩:=W1 (P:=P) (cap:=cap) mI;have EX:(l.length+m.length)*i.bytes<=140737488355328:=by
  have:=GV lB oD
  simp only[aQ] at this;omega
 have Fs:l.length+m.length<=9223372036854775807:=by simp only[aQ] at lB;omega
 have dq:∀y∈l++m,y.length=i.size:=λy hy=>by
  rcases fi.1 hy with h | h
  .exact dR y h
  .exact hm y h
 have Mm:RL E.nl (l++m).flatten (iL++news):=by rw[vC];exact vH Mn tL
 have Ue:∀v∈iL++news,v.oneCell' = true:=λv hv=>by
  rcases fi.1 hv with h | h
  .exact Mb v h
  .exact gp v h
 have tJ:=sJ.size
 -- the ways on which the row is laid anew
 have grow:cap<l.length+m.length->(execOp a.eval o).run P E.w = .ok (.value (.slice (aa ⟨E.w.heap.size,0,aj⟩) (l.length+m.length) (grownCap E.w (l.length+m.length) cap e)))
  (E.w.drew.alloc (.cells (iL++(news++(Builtin.zeroCells z.cells (grownCap E.w (l.length+m.length) cap e - (l.length+m.length))).toList)).toArray e)):=λaD=>by
  rw[dk,Pn (P:=P) ht hi hz hold sJ aD EX Fs];rfl
 have idle:m=[]->(execOp a.eval o).run P E.w = .ok (.value (.slice base l.length cap)) E.w:=λh0=>by
  subst h0
  have:news=[]:=uk (by simpa using tJ)
  subst this;rw[dk,YD (P:=P) ht hi Bh sJ];rfl
 have rO:=grownCap_ge E.w (l.length+m.length) cap e;have size:cap<l.length+m.length->(iL++(news++(Builtin.zeroCells z.cells (grownCap E.w (l.length+m.length) cap e - (l.length+m.length))).toList)).toArray.size=grownCap E.w (l.length+m.length) cap e*i.size:=λ_=>by
  simp only[Q2,bM,Ck,size_zeroCells,jB,hlen,tJ];rw[<-GS,<-jw,<-jw];congr 1;omega
 generalize grownCap E.w (l.length+m.length) cap e=nc at grow rO size;generalize xW:(Builtin.zeroCells z.cells (nc - (l.length+m.length))).toList=rest at grow size;have alJ:iL++(news++rest)=(iL++news)++rest:=by simp
 rw[alJ] at grow size
 -- the row laid anew,as the last of its line
 have Uc:∀Z,(E.aR Z=aj\/E.aR Z=aa l.length)->cap<l.length+m.length->0<m.length->K (.sl (.tk Z) i.size (l++m)) ⟨st.t,st.aE,st.out.a_ Z (l.length+m.length)⟩ ->
  o.wp P a E.w (ei E a o.dst K) Q:=λZ bE aD iw hK=>by
  let E' : Env:={w:=E.w.drew.alloc (.cells ((iL++news)++rest).toArray e),bf:=λb=>if b=E.w.heap.size then .hZ Z ((l.length+m.length)*i.size) else match E.bf b with | .hZ t c=>if t=Z then .const else .hZ t c | r=>r,aE:=E.aE,aR:=λt=>if t=Z then aa (l.length+m.length) else E.aR t}
  have hx:Ext E.w E'.w:=((Ext.refl _).drew).alloc _ _;have iv:∀b,b<E.w.heap.size->E'.bf b=match E.bf b with | .hZ t c=>if t=Z then .const else .hZ t c | r=>r:=λb hb=>by
   simp only[E'];rw[aB (by omega)]
  have Nk:E'.w.heap.size=E.w.heap.size+1:=by simp[E']
  have MZ:∀b,b<E.w.heap.size->∀t c,E'.bf b = .hZ t c->E.bf b = .hZ t c:=λb hb t c h=>by
   rw[iv b hb] at h;cases hq:E.bf b<;>rw[hq] at h<;>simp at h;split at h<;>simp at h;obtain⟨rfl,rfl⟩:=h;rfl
  have bq:Fr E E' := by
   refine⟨rfl,rfl,rfl,hx.size,hx.iq,?_,?_,?_,?_,?_,?_,λb c e hb=>⟨c,(hx.block b (lK hb)).trans hb,rfl⟩⟩
   .intro b o' c hc hv;have hb:=Wq hv;refine⟨?_,by rw[CH (hx.block b hb)];exact hv⟩;rw[iv b hb];cases hq:E.bf b<;>rw[hq] at hc<;>simp only[]
    all_goals first | exact hc | (split<;>first | trivial | exact hc)
   .intro t n hn
    by_cases sK:t=Z
    .subst sK;have M6 : n=l.length:=by rcases bE with h | h<;>rw[h] at hn<;>simp at hn;exact hn.symm
     exact⟨l.length+m.length,by simp[E'],by omega,λh=>by omega⟩
    .refine⟨n,by simp only[E'];rw[aB sK];exact hn,bY _,λ_ b c hb=>?_⟩;have mN : b<E.w.heap.size:=by
      rcases vF b E.w.heap.size with h | h
      .exact h
      .rw[hs.ok.fresh b h] at hb;simp at hb
     refine⟨by rw[iv b mN,hb];simp[sK],λcs CP b7=>⟨cs,by rw[hx.block b mN];exact b7,rfl⟩⟩
   .intro b hb hr;refine⟨hx.block b hb,?_⟩;rw[iv b hb]
    rcases hr with hr | hr<;>rw[hr]
   .intro b hb h;rw[iv b hb] at h;cases hq:E.bf b<;>rw[hq] at h<;>first | exact .inl rfl | (simp at h;done) | (simp only[] at h;split at h<;>simp at h)
   .intro b t c hb h;exact⟨c,MZ b hb t c h⟩
   .intro b i' hb h;rw[iv b hb] at h;cases hq:E.bf b<;>rw[hq] at h<;>try (simp at h;done)
    .exact⟨_,rfl⟩
    .simp only[] at h;split at h<;>simp at h
  have hle:E.le E' := bq.le λ_ _ h=>h
  unfold Oper.wp;rw[grow aD];refine⟨E',_,_,⟨st.t,st.aE,st.out.a_ Z (l.length+m.length)⟩,rfl,bq,⟨⟨?_,?_,?_,?_,λb cs hc=>eU.mono _ bq.nl (hs.ok.b8 b cs hc)⟩,?_,hs.defers,RL.mono _ hle hs.slot⟩,?_,rfl,hK⟩
  .intro b cs b7;obtain⟨k1,k2⟩:=hs.ok.box b cs b7;have mN : b<E.w.heap.size:=by obtain⟨c,e,h3,_⟩:=k2;exact lK (w:=E.w) h3
   exact⟨by rw[iv b mN,k1],k2.mono bq.nl (hx.block b mN)⟩
  .intro t n mc;simp only[ah.a_] at mc;simp only[E'];split at mc
   .rename_i h;rw[aF h];exact mc
   .rename_i h;rw[aB h];exact hs.ok.aR t n mc
  .intro b hb;rw[Nk] at hb;simp only[E'];rw[aB (by omega),hs.ok.fresh b (by omega)]
  .obtain⟨N,hN⟩:=hs.ok.nt;exact⟨max N (Z+1),λt rR => by simp only[E'];rw[aB (by omega)];exact hN t (by omega)⟩
  .exact rj hs.dv hle (λb i' hr mN => ⟨by rw[iv b mN,hr],hx.block b mN⟩) hs.dv.none
  .have tK:E'.w.heap[E.w.heap.size]?=aa (.cells ((iL++news)++rest).toArray e (0,0)):=heap_alloc_new E.w.drew _;have fT:E'.bf E.w.heap.size = .hZ Z ((l.length+m.length)*i.size):=by simp[E']
   simp only[R,bM];refine⟨aa ⟨E.w.heap.size,0,aj⟩,nc,rfl,rO,.inr ⟨_,_,rfl,G0 dq (RL.mono _ bq.nl Mm) Ue tK (λj hj=>by rw[fT];simpa [fz.iX] using hj)⟩,l.length+m.length,by simp[E'],bY _,λ_=>.inr ⟨_,_,_,rfl,fT,tK,size aD⟩⟩
 -- the state where only a tip is new
 have ZI:∀Z,(E.aR Z=aj\/E.aR Z=aa l.length)->m=[]->cap=l.length\/E.aR Z=aa l.length->K (.sl (.tk Z) i.size (l++m)) ⟨st.t,st.aE,st.out.a_ Z (l.length+m.length)⟩ ->
  vJ {E with aR:=λt=>if t=Z then aa l.length else E.aR t} i.size l.length base cap (.tk Z)->o.wp P a E.w (ei E a o.dst K) Q:=λZ bE rQ _ hK ck=>by
  let E' : Env:={E with aR:=λt=>if t=Z then aa l.length else E.aR t}
  have bq:Fr E E' := zb (E' := E') hs.ok.fresh (Ext.refl _) (λ_ _=>rfl) (λt n hn=>by
   simp only[E'];split
   .rename_i h;subst h;rcases bE with h | h<;>rw[h] at hn<;>simp at hn;rw[hn]
   .exact hn)
  have hle:E.le E' := bq.le λ_ _ h=>h
  unfold Oper.wp;rw[idle rQ];refine⟨E',_,_,⟨st.t,st.aE,st.out.a_ Z (l.length+m.length)⟩,rfl,bq,⟨⟨?_,?_,hs.ok.fresh,?_,λb cs hc=>eU.mono _ bq.nl (hs.ok.b8 b cs hc)⟩,?_,hs.defers,RL.mono _ hle hs.slot⟩,?_,rfl,hK⟩
  .intro b cs b7;obtain⟨k1,k2⟩:=hs.ok.box b cs b7;exact⟨k1,k2.mono bq.nl rfl⟩
  .intro t n mc;subst rQ;simp only[ah.a_,dQ,xg] at mc;simp only[E'];split at mc
   .rename_i h;rw[aF h];exact mc
   .rename_i h;rw[aB h];exact hs.ok.aR t n mc
  .obtain⟨N,hN⟩:=hs.ok.nt;exact⟨max N (Z+1),λt rR => by simp only[E'];rw[aB (by omega)];exact hN t (by omega)⟩
  .exact rj hs.dv hle (λb i' hr mN => ⟨hr,rfl⟩) hs.dv.none
  .subst rQ;simp only[R,eD];refine⟨base,cap,rfl,Bh,?_,ck⟩
   rcases mI with h | ⟨b,o',h,hr⟩
   .exact .inl h
   .exact .inr ⟨b,o',h,gv.mono _ bq.nl hr⟩
 cases tk with
 | no=>exact hk.elim
 | aZ =>
  simp only[vJ] at wC
  rcases hk with hk | hk
  .obtain⟨N,hN⟩:=hs.ok.nt;have MO:st.out.aR N=none:=by
    cases h:st.out.aR N with
    | none=>rfl
    | some n=>have:=hs.ok.aR N n h;rw[hN N (bY _)] at this;simp at this
   have hK:=hk N MO
   rcases KL m.length with h0 | h0
   .have rQ:=uk h0;exact ZI N (.inl (hN N (bY _))) rQ (.inl wC) hK ⟨l.length,by simp,bY _,λ_=>.inl wC⟩
   .exact Uc N (.inl (hN N (bY _))) (by omega) h0 hK
  .rcases KL m.length with h0 | h0
   .have rQ:=uk h0;refine dh hs (idle rQ) ?_ hk;subst rQ;simp only[R,eD];exact⟨base,cap,rfl,Bh,mI,trivial⟩
   .refine Z8 hs (((Ext.refl _).drew).alloc _ _) (grow (by omega)) ?_ hk;have tK:(E.w.drew.alloc (.cells ((iL++news)++rest).toArray e)).heap[E.w.heap.size]?=aa (.cells ((iL++news)++rest).toArray e (0,0)):=heap_alloc_new E.w.drew _;obtain⟨bq,_,_⟩:=Gj hs (((Ext.refl E.w).drew).alloc ((iL++news)++rest).toArray e);simp only[R,bM];exact⟨aa ⟨E.w.heap.size,0,aj⟩,nc,rfl,rO,.inr ⟨_,_,rfl,G0 dq (RL.mono _ bq.nl Mm) Ue tK (λj _=>by rw[show({E with w:=E.w.drew.alloc (.cells ((iL++news)++rest).toArray e)}:Env).bf E.w.heap.size = .const from hs.ok.fresh _ (bY _)];trivial)⟩,trivial⟩
 | tk Z =>
  obtain⟨bE,hK⟩:=hk;have hE:=hs.ok.aR Z _ bE;obtain⟨n',U,_,h3⟩:=wC;rw[hE] at U;simp only[bc] at U;subst U
  rcases KL m.length with h0 | h0
  .have rQ:=uk h0;exact ZI Z (.inr hE) rQ (.inr hE) hK ⟨l.length,by simp,bY _,h3⟩
  .rcases vF cap (l.length+m.length) with aD | ql
   .exact Uc Z (.inr hE) aD h0 hK
   .rcases h3 rfl with hc | ⟨b,cs,e',rfl,d_,fB,c8⟩
    .omega
    .have qg:l.length*i.size+news.length<=cs.size:=by
      rw[tJ,c8,<-jw];exact sd _ ql
     have kc:=Po (P:=P) (ty:=ty) ht hi fB sJ gp ql qg;have wo:∀j:Nat,(cs.toList.take (l.length*i.size)++news++cs.toList.drop (l.length*i.size+news.length)).toArray[j]?=if j<l.length*i.size then cs[j]? else if j<l.length*i.size+news.length then news[j - l.length*i.size]? else cs[j]?:=λj=>by
      have:=Gi (c:=cs.toList) (vs:=news) (off:=l.length*i.size) (by simpa using qg) j
      simpa using this
     have tQ:(cs.toList.take (l.length*i.size)++news++cs.toList.drop (l.length*i.size+news.length)).toArray.size=cs.size:=by
      simp;omega
     generalize (cs.toList.take (l.length*i.size)++news++cs.toList.drop (l.length*i.size+news.length)).toArray=new at kc wo tQ;have alL:l.length*i.size<=(l.length+m.length)*i.size:=sd _ (by omega)
     let E' : Env:={w:=E.w.setRow b new,bf:=λb' => if b' = b then .hZ Z ((l.length+m.length)*i.size) else E.bf b',aE:=E.aE,aR:=λt=>if t=Z then aa (l.length+m.length) else E.aR t}
     have jn:∀b',b' ≠ b->E'.w.heap[b']?=E.w.heap[b']?:=λb' a9=>setRow_other E.w b b' new a9
     have nK:∀b',b' ≠ b->E'.bf b' = E.bf b' := λb' a9=>by simp only[E'];rw[aB a9]
     have cC : E'.w.heap[b]?=aa (.cells new e' (0,0)):=setRow_heap E.w b cs new e' _ fB;have qX:E'.bf b = .hZ Z ((l.length+m.length)*i.size):=by simp[E']
     have a9:∀b' r,E.bf b' = r->(∀c,r≠.hZ Z c)->b' ≠ b:=λb' r h h' => by rintro rfl;rw[d_] at h;exact h' _ h.symm
     have bq:Fr E E' := by
      refine⟨rfl,rfl,rfl,by simp[E'],EG fB,?_,?_,?_,?_,?_,?_,λb' c' CP hc=>by
       by_cases cQ:b' = b
       .subst cQ;rw[fB] at hc;simp only[bc,Obj.cells.injEq] at hc;obtain⟨rfl,rfl,_⟩:=hc;exact⟨new,cC,tQ⟩
       .exact⟨c',(jn b' cQ).trans hc,rfl⟩⟩
      .intro b' o' c hc hv
       by_cases cQ:b' = b
       .subst cQ;rw[d_] at hc;simp only[fz.iX] at hc;refine⟨by rw[qX];simp only[fz.iX];omega,?_⟩;simp only[World.cell?,fB] at hv;simp only[World.cell?,cC,wo,aF hc];exact hv
       .exact⟨by rw[nK b' cQ];exact hc,by rw[CH (jn b' cQ)];exact hv⟩
      .intro t n hn
       by_cases sK:t=Z
       .subst sK;rw[hE] at hn;simp only[bc] at hn;exact⟨l.length+m.length,by simp[E'],by omega,λh=>by omega⟩
       .refine⟨n,by simp only[E'];rw[aB sK];exact hn,bY _,λ_ b' c Bf=>?_⟩;have cQ:b' ≠ b:=a9 b' _ Bf (λc' h=>by simp at h;exact sK h.1);exact⟨by rw[nK b' cQ];exact Bf,λcs' CP b7=>⟨cs',by rw[jn b' cQ];exact b7,rfl⟩⟩
      .intro b' _ hr;have cQ:b' ≠ b:=by rcases hr with hr | hr<;>exact a9 b' _ hr (λc h=>by simp at h)
       exact⟨jn b' cQ,nK b' cQ⟩
      .intro b' _ h;have cQ:b' ≠ b:=by rintro rfl;rw[qX] at h;simp at h
       rw[nK b' cQ] at h;exact .inl h
      .intro b' t c _ h
       by_cases cQ:b' = b
       .subst cQ;rw[qX] at h;simp at h;obtain⟨rfl,_⟩:=h;exact⟨_,d_⟩
       .rw[nK b' cQ] at h;exact⟨c,h⟩
      .intro b' i' _ h;have cQ:b' ≠ b:=by rintro rfl;rw[qX] at h;simp at h
       rw[nK b' cQ] at h;exact⟨_,h⟩
     have hle:E.le E' := bq.le λ_ _ h=>h
     unfold Oper.wp;rw[dk,kc];refine⟨E',_,_,⟨st.t,st.aE,st.out.a_ Z (l.length+m.length)⟩,rfl,bq,⟨⟨?_,?_,?_,?_,λb cs hc=>eU.mono _ bq.nl (hs.ok.b8 b cs hc)⟩,?_,hs.defers,RL.mono _ hle hs.slot⟩,?_,rfl,hK⟩
     .intro b' cs' b7;obtain⟨k1,k2⟩:=hs.ok.box b' cs' b7;have cQ:b' ≠ b:=a9 b' _ k1 (λc h=>by simp at h);exact⟨by rw[nK b' cQ];exact k1,k2.mono bq.nl (jn b' cQ)⟩
     .intro t n mc;simp only[ah.a_] at mc;simp only[E'];split at mc
      .rename_i h;rw[aF h];exact mc
      .rename_i h;rw[aB h];exact hs.ok.aR t n mc
     .intro b' rM;have cQ:b' ≠ b:=by
       rintro rfl
       have:=lK fB
       simp[E'] at rM;omega
      rw[nK b' cQ];exact hs.ok.fresh b' (by simpa [E'] using rM)
     .obtain⟨N,hN⟩:=hs.ok.nt;exact⟨max N (Z+1),λt rR => by simp only[E'];rw[aB (by omega)];exact hN t (by omega)⟩
     .refine rj hs.dv hle (λb' i' hr _=>?_) hs.dv.none;have cQ:b' ≠ b:=a9 b' _ hr (λc h=>by simp at h);exact⟨by rw[nK b' cQ];exact hr,jn b' cQ⟩
     .have aye:RL E'.nl (l++m).flatten (iL++news):=RL.mono _ bq.nl Mm
      -- the cells of the row,as they now are
      have Ml:gv E'.nl i.size (l++m) b 0:=by
       have Fg:gv E.nl i.size l b 0:=by
        rcases mI with h | ⟨b2,o2,h,hr⟩
        .subst h;simp[gv]
        .simp only[bc,Addr.mk.injEq] at h;obtain⟨rfl,rfl,_⟩:=h;exact hr
       refine sj.2 ⟨dq,?_⟩;rw[vC];refine yT.2 ⟨(sj.1 (gv.mono _ bq.nl Fg)).2,Cw (RL.mono _ bq.nl tL) gp (λj v hv=>?_) (λj hj=>?_)⟩
       .have hj:=(fy.1 hv).1;rw[n7 dR];simp only[Env.WO,World.cell?,cC,wo];simp only[Cv,dP,cF];rw[aB (show ¬(0+l.length*i.size+j<l.length*i.size) by omega),aF (show 0+l.length*i.size+j<l.length*i.size+news.length by omega)];rw[show 0+l.length*i.size+j - l.length*i.size=j from by omega];exact hv
       .rw[n7 dR];rw[n7 hm] at hj;simp only[Env.WN,qX,fz.iX];rw[jw];omega
      simp only[R,bM];exact⟨aa ⟨b,0,aj⟩,cap,rfl,ql,.inr ⟨b,0,rfl,Ml⟩,l.length+m.length,by simp[E'],bY _,λ_=>.inr ⟨b,new,e',rfl,qX,cC,tQ.trans c8⟩⟩
end
section
variable {P:Program} {E:Env} {st:St} {a:Act} {o:Oper} {K:V->St->Prop} {Q:Exit->Act->World->Prop}
def Z9(hs:bN E st a)(ho:o.op = .move x\/o.op = .assign x)(hx:R E v (a.eval x))(hk:K v st):o.wp P a E.w (ei E a o.dst K) Q :=
 dh hs (by rcases ho with ho | ho<;>simp[execOp,ho]) hx hk
variable{vx vy:V}{y:Operand}
def axn(hs:bN E st a){c:Operand}{vc:V}(ho:o.op = .pick c x y)(hc:R E vc (a.eval c))(hx:R E vx (a.eval x))(hy:R E vy (a.eval y))
 (hk:match (generalizing:=false) vc with | .bool ab=>K vx st | .bool ar=>K vy st | _=>False):o.wp P a E.w (ei E a o.dst K) Q:=by
 cases vc<;>try exact False.elim hk
 rename_i b;simp only[R] at hc;cases b
 .exact dh hs (by simp[execOp,ho,hc,asBool]) hy hk
 .exact dh hs (by simp[execOp,ho,hc,asBool]) hx hk
def aw2(hs:bN E st a)(ho:o.op = .alloc t)(hz:kF P t=aa zs)(hk:K (.ptr (.aE st.aE.length) 0) ⟨st.t,st.aE++[zs],st.out⟩):
 o.wp P a E.w (ei E a o.dst K) Q:=by
 obtain⟨i,z,U,h2,h3,_⟩:=uh hz;refine Z_ hs (c:=z.cells) (e:=t) ?_ (sr h3) hk;simp[execOp,ho,Instr.alloc,zeroValue,typeInfo,U,h2,newVar,newRow]
def aw6(hs:bN E st a){n:Nat}(ho:o.op = .box t x)(hx:R E v (a.eval x))(hw:v.wd=aa n)(hk:K (.ptr (.aE st.aE.length) 0) ⟨st.t,st.aE++[v.cells],st.out⟩):
 o.wp P a E.w (ei E a o.dst K) Q:=by
 refine Z_ hs (c:=(a.eval x).cells) (e:=t) ?_ (yV hx hw).1 hk;simp[execOp,ho,Instr.box,newVar,newRow]
def axl(hs:bN E st a)(ho:o.op = .nilCheck x)(hx:R E v (a.eval x))
 (hk:match (generalizing:=false) v with | .ptr p o=>K (.ptr p o) st | .elt c o=>K (.elt c o) st | .fn (.func f) a b=>K (.fn (.func f) a b) st | _=>False):o.wp P a E.w (ei E a o.dst K) Q:=by
 cases v<;>try exact False.elim hk
 case ptr p off =>
  refine dh hs (v:=.ptr p off) (x:=a.eval x) ?_ hx hk;cases p<;>simp only[R] at hx
  .obtain⟨b,_,h⟩:=hx;simp[execOp,ho,h]
  .simp[execOp,ho,hx]
  .simp[execOp,ho,hx]
 case elt c off =>
  refine dh hs (v:=.elt c off) (x:=a.eval x) ?_ hx hk;simp only[R] at hx;obtain⟨b,o',h,_⟩:=hx;simp[execOp,ho,h]
 case fn f as bs =>
  cases f<;>try exact False.elim hk
  rename_i f;refine dh hs (v:=.fn (.func f) as bs) (x:=a.eval x) ?_ hx hk;simp only[R] at hx;obtain⟨fs,cs,h,_⟩:=hx;simp[execOp,ho,h]
variable{t':TypeId}
def aw4(hs:bN E st a){op:BinOp}(ho:o.op = .binOp op t x y t')(hx:R E vx (a.eval x))(hy:R E vy (a.eval y))
 (hk:opt (vN op vx vy) (K2 K st)):o.wp P a E.w (ei E a o.dst K) Q:=by
 unfold opt K2 at hk;split at hk
 case h_2=>exact hk.elim
 rename_i v hv;unfold vN at hv;split at hv
 case h_2=>simp at hv
 rename_i k n k' m;split at hv
 case isFalse=>simp at hv
 rename_i gY;simp only[R] at hx hy
 by_cases Iz:BF op=ab
 .cases op<;>simp only[BF,dP] at Iz
  .simp only[iJ] at hv;split at hv
   case isTrue=>simp at hv
   rename_i hm;simp only[bc] at hv;subst hv;refine dh hs (x:=.int k (k.wrap (n*2^(Nat.min m.toNat k.bits)))) ?_ (by simp only[R]) hk;simp only[execOp,ho,hx,hy];simp[eqGuard,binOp,Op.shift,hm]
  .simp only[iJ] at hv;split at hv
   case isTrue=>simp at hv
   rename_i hm;simp only[bc] at hv;subst hv;refine dh hs (x:=.int k (n.fdiv (2^(Nat.min m.toNat k.bits)))) ?_ (by simp only[R]) hk;simp only[execOp,ho,hx,hy];simp[eqGuard,binOp,Op.shift,hm]
 have gY:=gY.resolve_right Iz;obtain rfl:=IF gY;cases op<;>simp only[iJ,bc] at hv<;>try (simp at hv;done)
 case shl=>simp[BF] at Iz
 case shr=>simp[BF] at Iz
 case quo =>
  split at hv
  case isTrue=>simp at hv
  rename_i hm;simp only[bc] at hv;subst hv;refine dh hs (by simp only[execOp,ho,hx,hy];simp only[eqGuard,binOp,Op.intDiv];simp[hm];rfl) (by simp only[R];try rfl) hk
 case rem =>
  split at hv
  case isTrue=>simp at hv
  rename_i hm;simp only[bc] at hv;subst hv;refine dh hs (by simp only[execOp,ho,hx,hy];simp only[eqGuard,binOp,Op.intDiv];simp[hm];rfl) (by simp only[R];try rfl) hk
 case andNot =>
  subst hv;refine dh hs (x:=.int k (k.wrap ((BitVec.ofInt k.bits n&&&~~~BitVec.ofInt k.bits m).toNat:Nat))) ?_ (by simp only[R]) hk;simp only[execOp,ho,hx,hy];simp only[eqGuard,binOp,Op.intBits];simp
 all_goals
  subst hv;refine dh hs (by simp only[execOp,ho,hx,hy];simp only[eqGuard,binOp,Op.intArith,Op.intCmp,Op.intBits];simp;first | rfl | simp) (by simp only[R];try rfl) hk
def Wi(x y:List UInt8):(x == y)=decide (x=y):=by
 rw[rD];simp
def aw5(hs:bN E st a){op:BinOp}(ho:o.op = .binOp op t x y t')(hx:R E vx (a.eval x))(hy:R E vy (a.eval y))
 (hk:opt (AW op vx vy) (K2 K st)):o.wp P a E.w (ei E a o.dst K) Q:=by
 unfold opt K2 at hk;split at hk
 case h_2=>exact hk.elim
 rename_i v hv;unfold AW at hv;split at hv
 case h_2=>simp at hv
 rename_i n m;simp only[R] at hx hy;cases op<;>simp only[yt,bc] at hv<;>try (simp at hv;done)
 all_goals
  subst hv;refine dh hs (by simp only[execOp,ho,hx,hy];simp only[eqGuard,binOp,Op.stringOp,ByteArray.toList_mk];simp[Wi];rfl) (by simp[R]) hk
def aw_(hs:bN E st a)(ho:o.op = .binOp .add t x y t')(hx:R E vx (a.eval x))(hy:R E vy (a.eval y))
 (hk:∃m n,vx = .aG m/\vy = .aG n/\m.length+n.length<=aQ/\K (.aG (m++n)) st):o.wp P a E.w (ei E a o.dst K) Q:=by
 obtain⟨m,n,rfl,rfl,hb,hk⟩:=hk;simp only[R] at hx hy;have c8:¬(9223372036854775807<((m.length:Int)+(n.length:Int))):=by simp only[aQ] at hb;omega
 have e1:(⟨m.toArray⟩:ByteArray).size=m.length:=by simp[ByteArray.size]
 have e2:(⟨n.toArray⟩:ByteArray).size=n.length:=by simp[ByteArray.size]
 refine dh hs (v:=.aG (m++n)) (x:=.string ⟨(m++n).toArray⟩) ?_ (by simp only[R]) hk;simp only[execOp,ho,hx,hy];simp only[eqGuard,binOp,Op.stringOp,e1,e2];have e3:(⟨m.toArray⟩:ByteArray)++(⟨n.toArray⟩:ByteArray)=⟨(m++n).toArray⟩:=by
  apply ByteArray.ext;simp[ByteArray.data_append]
 simp[IntKind.max,IntKind.signed,IntKind.bits,c8,e3]
def Z3(hs:bN E st a){neg:Bool}{op:BinOp}(jA:op=if neg then .neq else .eql)(ht:P.underlying t=aa .bool)(ho:o.op = .binOp op t x y t')(hx:R E vx (a.eval x))(hy:R E vy (a.eval y))
 (hk:opt (y8 neg vx vy) (K2 K st)):o.wp P a E.w (ei E a o.dst K) Q:=by
 unfold opt K2 at hk;split at hk
 case h_2=>exact hk.elim
 rename_i v hv;unfold y8 at hv;split at hv
 case h_2=>simp at hv
 rename_i m n;simp only[R] at hx hy;simp only[bc] at hv;subst hv;subst jA;cases neg
 .refine dh hs (x:=.bool (decide (m=n))) ?_ (by simp[R]) hk;simp only[execOp,ho,hx,hy];simp[eqGuard,run_eql_bool E.w t m n ht];cases m<;>cases n<;>rfl
 .refine dh hs (x:=.bool (!decide (m=n))) ?_ (by simp[R]) hk;simp only[execOp,ho,hx,hy];simp[eqGuard,run_neq_bool E.w t m n ht];cases m<;>cases n<;>rfl
def axm(hs:bN E st a)(ho:o.op = .unOp .not t x)(hx:R E v (a.eval x))(hk:match (generalizing:=false) v with | .bool b=>K (.bool (!b)) st | _=>False):
 o.wp P a E.w (ei E a o.dst K) Q:=by
 cases v<;>try exact False.elim hk
 simp only[R] at hx;exact dh hs (by simp[execOp,ho,hx,Op.unary];rfl) (by simp only[R]) hk
def axh(hs:bN E st a)(ho:o.op = .call {callee:=.builtin .len,args:=#[x],argTypes:=#[t]})(ht:P.underlying t=aa (.slice e))(hx:R E v (a.eval x))
 (hk:match (generalizing:=false) v with | .sl _ _ l=>K (.int .i64 l.length) st | .raw (.slice _ n _)=>K (.int .i64 n) st | _=>False):o.wp P a E.w (ei E a o.dst K) Q:=by
 cases v<;>try exact False.elim hk
 case raw u =>
  cases u<;>try exact False.elim hk
  simp only[R] at hx;exact dh hs (by simp[execOp,ho,resolve,invoke,builtin,Builtin.len_,run_underlying ht,hx];rfl) (by simp[R,goInt]) hk
 simp only[R] at hx;obtain⟨b,c,h,_⟩:=hx;exact dh hs (by simp[execOp,ho,resolve,invoke,builtin,Builtin.len_,run_underlying ht,h];rfl) (by simp[R,goInt]) hk
def axi(hs:bN E st a)(ho:o.op = .call {callee:=.builtin .len,args:=#[x],argTypes:=#[t]})(ht:P.underlying t=aa .string)(hx:R E v (a.eval x))
 (hk:match (generalizing:=false) v with | .aG s=>K (.int .i64 s.length) st | _=>False):o.wp P a E.w (ei E a o.dst K) Q:=by
 cases v<;>try exact False.elim hk
 simp only[R] at hx;exact dh hs (by simp[execOp,ho,resolve,invoke,builtin,Builtin.len_,run_underlying ht,hx];rfl) (by simp[R,goInt,ByteArray.size]) hk
variable{i:Nat}
def axc(hs:bN E st a){s:TypeId}{n:Nat}{fs:Array Field}{f:Field}(ho:o.op = .fieldAddr s x i)(ht:P.underlying s=aa (.struct fs))(hf:fs[i]?=aa f)
 (hn:eQ P f.type=aa n) (Da:n≠0) (hx:R E v (a.eval x)) (hk:match (generalizing:=false) v with | .ptr p o=>K (.ptr p (o+f.offset)) st | .elt c o=>K (.elt c (o+f.offset)) st | _=>False) :
 o.wp P a E.w (ei E a o.dst K) Q:=by
 have run:∀b off:Nat,(Instr.fieldAt s (.pointer (aa ⟨b,off,aj⟩)) i).run P E.w = .ok (.pointer (aa ⟨b,off+f.offset,aj⟩)) E.w:=λb off=>by
  simp[Instr.fieldAt,run_underlying ht,hf,Instr.sureAddr,fieldPlace,pK hn,Da,my]
 cases v<;>try exact False.elim hk
 case ptr p off =>
  cases p with
  | aE j =>
   simp only[R] at hx;obtain⟨b,hb,h⟩:=hx;exact dh hs (by simp[execOp,ho,h,run];rfl) (by simp only[R];exact⟨b,hb,rfl⟩) hk
  | out b =>
   simp only[R] at hx;exact dh hs (by simp[execOp,ho,hx,run];rfl) (by simp only[R]) hk
  | kT b =>
   simp only[R] at hx;exact dh hs (by simp[execOp,ho,hx,run];rfl) (by simp only[R]) hk
 case elt c off =>
  simp only[R] at hx;obtain⟨b,o',h,hr⟩:=hx;exact dh hs (by simp[execOp,ho,h,run];rfl) (by simp only[R];exact⟨b,o',by rw[GS],hr⟩) hk
def axb(hs:bN E st a)(ho:o.op = .extract x i)(hx:R E v (a.eval x))(hk:match (generalizing:=false) v with | .bH vs=>opt vs[i]? (K2 K st) | _=>False):
 o.wp P a E.w (ei E a o.dst K) Q:=by
 cases v<;>try exact False.elim hk
 rename_i vs;simp only[opt,K2] at hk;cases hu:vs[i]? with
 | none=>rw[hu] at hk;exact False.elim hk
 | some u =>
  rw[hu] at hk;simp only[R] at hx;obtain⟨us,h,hr⟩:=hx;obtain⟨y,U,h2⟩:=sk hr i u hu;have xF : us[i]?=aa y:=by simpa using U
  exact dh hs (by simp[execOp,ho,h,Instr.extract,xF]) h2 hk
def axk(hs:bN E st a){f:Fn}{first cap:Array Operand}{as bs:List V}(ho:o.op = .makeFunc f first cap)(ha:RL E as (first.toList.map a.eval))(hb:RL E bs (cap.toList.map a.eval))(hk:K (.fn f as bs) st):
 o.wp P a E.w (ei E a o.dst K) Q:=by
 refine dh hs (x:=.func f (first.map a.eval) (cap.map a.eval)) (by simp[execOp,ho,Instr.makeFunc]) ?_ hk;simp only[R];exact⟨_,_,rfl,by simpa using ha,by simpa using hb⟩
def axa(hs:bN E st a){src dst:TypeId}{k k' : IntKind}(ho:o.op = .convert src dst x)(U:P.underlying src=aa (.int k'))(h2:P.underlying dst=aa (.int k))(hx:R E v (a.eval x))
 (hk:match (generalizing:=false) v with | .int _ n=>K (.int k (k.wrap n)) st | _=>False):o.wp P a E.w (ei E a o.dst K) Q:=by
 cases v<;>try exact False.elim hk
 simp only[R] at hx;exact dh hs (by simp[execOp,ho,hx,convert,run_underlying U,run_underlying h2,Conv.intToInt];rfl) (by simp only[R]) hk
def axe(hs:bN E st a){n:Nat}{i:Operand}{vi:V}(ho:o.op = .indexAddr t x i)(ht:P.underlying t=aa (.slice e))(hn:eQ P e=aa n)(hx:R E vx (a.eval x))(hi:R E vi (a.eval i))
 (hk:match (generalizing:=false) vx with
   | .sl _ k' l=>k' = n/\Kq l vi λc=>K (.elt c 0) st
   | .raw (.slice (aa ⟨b,o,aj⟩) m _)=>∃ik j,vi = .int ik j/\0<=j/\j<m/\K (.ptr (.out b) (o+j.toNat*n)) st
   | _=>False):o.wp P a E.w (ei E a o.dst K) Q:=by
 cases vx<;>try exact False.elim hk
 case raw u =>
  split at hk
  .simp_all
  .rename_i b off m cap e;simp only[V.raw.injEq] at e;subst e;obtain⟨ik,j,rfl,g1,g2,hk⟩:=hk;simp only[R] at hx hi;refine dh hs (v:=.ptr (.out b) (off+j.toNat*n)) (x:=.pointer (aa ⟨b,off+j.toNat*n,aj⟩)) ?_ (by simp only[R]) hk;simp[execOp,ho,hx,hi,Instr.indexAt,asIntOf,run_underlying ht,g1,g2,pK hn,my]
  .exact hk.elim
 rename_i tk k' l;obtain⟨rfl,ki,m,c,rfl,hm,hc,hk⟩:=hk;simp only[R] at hx hi;obtain⟨base,cap,h,_,h3,_⟩:=hx;have aD:=(fy.1 hc).1
 rcases h3 with h3 | ⟨b,off,rfl,hr⟩
 .subst h3;simp at hc
 .have wg:eU E.nl c b (off+m.toNat*k'):=by
   obtain⟨U,h2⟩:=sj.1 hr;have Nl:l=l.take m.toNat++c::l.drop (m.toNat+1):=by
    have:=rG m.toNat l
    rw[nr aD] at this;rw[(fy.1 hc).2] at this;exact this.symm
   rw[Nl,vC,lV,yT,yT] at h2;have hl:(l.take m.toNat).flatten.length=m.toNat*k' := by
    rw[n7 (λx hx=>U x (Cs hx))];rw[iN,xh (by omega)]
   rw[hl] at h2;simpa using h2.2.1
  have mN : m<(l.length:Int):=by omega
  refine dh hs (v:=.elt c 0) (x:=.pointer (aa ⟨b,off+m.toNat*k',aj⟩)) ?_ (by simp only[R];exact⟨b,off+m.toNat*k',rfl,wg⟩) hk;simp[execOp,ho,h,hi,Instr.indexAt,asIntOf,run_underlying ht,hm,mN,pK hn,my]
def axf(hs:bN E st a){n:Nat}{i:Operand}{vi:V}(ho:o.op = .indexAddr t x i)(ht:P.underlying t=aa (.array m e))(hn:eQ P e=aa n)(hx:R E vx (a.eval x))(hi:R E vi (a.eval i))
 (hk:match (generalizing:=false) vx with
   | .ptr p o=>∃kk j,vi = .int kk j/\0<=j/\j<(m:Nat)/\K (.ptr p (o+j.toNat*n)) st
   | .elt c o=>∃kk j,vi = .int kk j/\0<=j/\j<(m:Nat)/\K (.elt c (o+j.toNat*n)) st
   | _=>False):o.wp P a E.w (ei E a o.dst K) Q:=by
 have run:∀(b off:Nat) (kk:IntKind) (j:Int),0<=j->j<(m:Nat)->(Instr.indexAt t (.pointer (aa ⟨b,off,aj⟩)) (.int kk j)).run P E.w = .ok (.pointer (aa ⟨b,off+j.toNat*n,aj⟩)) E.w:=λb off kk j h0 U=>by
  simp[Instr.indexAt,asIntOf,run_underlying ht,Instr.sureAddr,h0,U,pK hn,my]
 cases vx<;>try exact False.elim hk
 case ptr p off =>
  obtain⟨kk,j,rfl,h0,U,hk⟩:=hk;simp only[R] at hi;cases p with
  | aE q =>
   simp only[R] at hx;obtain⟨b,hb,h⟩:=hx;exact dh hs (by simp[execOp,ho,h,hi,run _ _ _ _ h0 U];rfl) (by simp only[R];exact⟨b,hb,rfl⟩) hk
  | out b =>
   simp only[R] at hx;exact dh hs (by simp[execOp,ho,hx,hi,run _ _ _ _ h0 U];rfl) (by simp only[R]) hk
  | kT b =>
   simp only[R] at hx;exact dh hs (by simp[execOp,ho,hx,hi,run _ _ _ _ h0 U];rfl) (by simp only[R]) hk
 case elt c off =>
  obtain⟨kk,j,rfl,h0,U,hk⟩:=hk;simp only[R] at hi hx;obtain⟨b,o',h,hr⟩:=hx;exact dh hs (by simp[execOp,ho,h,hi,run _ _ _ _ h0 U];rfl) (by simp only[R];exact⟨b,o',by rw[GS],hr⟩) hk
def axg(hs:bN E st a){i:Operand}{vi:V}(ho:o.op = .index t x i)(ht:P.underlying t=aa .string)(hx:R E vx (a.eval x))(hi:R E vi (a.eval i))
 (hk:match (generalizing:=false) vx with | .aG s=>∃k n c,vi = .int k n/\0<=n/\s[n.toNat]?=aa c/\K (.int .u8 c.toNat) st | _=>False):o.wp P a E.w (ei E a o.dst K) Q:=by
 cases vx<;>try exact False.elim hk
 rename_i s;obtain⟨k,n,c,rfl,hn,hc,hk⟩:=hk;simp only[R] at hx hi;have aD:=(fy.1 hc).1;have mN : n<((⟨s.toArray⟩:ByteArray).size:Int):=by simp[ByteArray.size];omega
 refine dh hs (v:=.int .u8 c.toNat) (x:=.int .u8 c.toNat) ?_ (by simp only[R]) hk
 have:=run_index_string (P:=P) E.w t ⟨s.toArray⟩ k n ht
 rw[Ew ⟨hn,mN⟩] at this;simp only[execOp,ho,hx,hi,Sem.run_bind,this,Result.andThen_ok];have hg:(⟨s.toArray⟩:ByteArray)[n.toNat]'(by simp[ByteArray.size];exact aD)=c:=(fy.1 hc).2;simp[hg]
end
def xu:Nat->Value->Value->Option Bool
 | 1,.int k a,.int k' b=>if k=k' then aa (decide (a=b)) else aj
 | 2,.string a,.string b=>aa (a.toList == b.toList)
 | 0,.bool a,.bool b=>aa (a == b)
 | _,_,_=>aj
section
variable {P:Program} {w:World}
def sv(xs ys:Array Value):List (Nat × Nat)->Option Bool
 | []=>aa ab
 | (j, k) :: js =>
  match xs[j]?,ys[j]? with
  | some x,aa y=>(xu k x y).bind λb=>(sv xs ys js).map (b&&·)
  | _,_=>aj
def LF{xs ys:Array Value}:∀{l m:List (Nat × Nat)} {b:Bool},sv xs ys (l++m)=aa b->∃b1 b2,sv xs ys l=aa b1/\sv xs ys m=aa b2/\b=(b1&&b2)
 | [],m,b,h=>⟨ab,b,rfl,h,by simp⟩
 | (j, k) :: l, m, b, h => by
  simp only[il,sv] at h ⊢;split at h
  .simp only[iV,dn] at h;obtain⟨c,U,d,h2,rfl⟩:=h;obtain⟨b1,b2,k1,k2,rfl⟩:=LF h2;exact⟨c&&b1,b2,by simp[U,k1],k2,by simp[Bool.and_assoc]⟩
  .simp at h
def At(P:Program)(t:TypeId)(xs:Array Value)(off:Nat)(x:Value):Prop :=
 match iO P t with
 | some ab=>x = .agg (xs.extract off (off+P.cellsOf t))/\off+P.cellsOf t<=xs.size
 | some ar=>xs[off]?=aa x
 | none=>False
def R0{i:TypeInfo}(h:P.info? t=aa i):P.cellsOf t=i.size:=by simp[Program.cellsOf,h]
variable{g:Bool}{off:Nat}
def JJ{i:TypeInfo}(hi:P.info? u=aa i){xs:Array Value}{o':Nat}(hle:o' + P.cellsOf u<=P.cellsOf t)(c8:off+P.cellsOf t<=xs.size)(hg:iO P u=aa g)(iw:g=ar->P.cellsOf u=1):
 ∃y,(part u (xs.extract off (off+P.cellsOf t)) o').run P w = .ok y w/\At P u xs (off+o') y:=by
 have hs:(sizeOf u).run P w = .ok (P.cellsOf u) w:=by simp[sizeOf,typeInfo,hi,R0 hi]
 unfold At;rw[hg];cases g
 .have U:=iw rfl;have aD:off+o' < xs.size:=by omega
  refine⟨xs[off+o'],?_,by simp[aD]⟩
  have:(xs.extract off (off+P.cellsOf t))[o']?=aa xs[off+o']:=by
   rw[aal];simp[np aD];omega
  simp[part,B8 hg,this]
 .refine⟨_,by simp[part,B8 hg,hs];rfl,?_,by omega⟩;congr 2;omega
def Xy{n:Nat}{pl:List (Nat × Nat)}(h:yj P n u off=aa pl):∃i g,P.info? u=aa i/\iO P u=aa g/\(g=ar->P.cellsOf u=1):=by
 cases n with
 | zero=>simp[yj] at h
 | succ n =>
  simp only[yj] at h;split at h
  .rename_i i hi hu;split at h<;>simp at h;rename_i hc;exact⟨_,ar,hi,by simp[iO,hu],λ_=>hc⟩
  .rename_i i hi hu;split at h<;>simp at h;rename_i hc;exact⟨_,ar,hi,by simp[iO,hu],λ_=>hc⟩
  .rename_i i hi hu;split at h<;>simp at h;rename_i hc;exact⟨_,ar,hi,by simp[iO,hu],λ_=>hc⟩
  .rename_i i hi hu;exact⟨_,ab,hi,by simp[iO,hu],λh=>by simp at h⟩
  .rename_i i hi hu;exact⟨_,ab,hi,by simp[iO,hu],λh=>by simp at h⟩
  .simp at h
def ar':∀(n:Nat) (t:TypeId) (off:Nat) (pl:List (Nat × Nat)),yj P n t off=aa pl->∀(d:Nat),n<=d->∀(xs ys:Array Value) (x y:Value),At P t xs off x->At P t ys off y ->
 ∀b,sv xs ys pl=aa b->(Op.equalIn d t x y).run P w = .ok b w:=by
 intro n;induction n with
 | zero=>intro t off pl h;simp[yj] at h
 | succ n ih =>
  intro t off pl h d hd xs ys x y hx hy b hb;obtain⟨d,rfl⟩:∃d',d=d' + 1:=⟨d - 1,by omega⟩;have one:∀k,iO P t=aa ar->pl=[(off,k)]->xu k x y=aa b:=λk hg hp=>by
   subst hp;unfold At at hx hy;rw[hg] at hx hy;have ku : xs[off]?=aa x:=hx;have Bv : ys[off]?=aa y:=hy;simp only[sv,ku,Bv,iV,uu,bc] at hb;obtain⟨c,U,h2⟩:=hb;rw[U];simpa using h2
  simp only[yj] at h;split at h
  .rename_i i hi hu;split at h
   case isFalse=>simp at h
   simp only[bc] at h;have hc:=one 0 (by simp[iO,hu]) h.symm;unfold xu at hc;split at hc<;>simp at *;subst hc;exact run_equalIn_bool w d t _ _ hu
  .rename_i i k hi hu;split at h
   case isFalse=>simp at h
   simp only[bc] at h;have hc:=one 1 (by simp[iO,hu]) h.symm;unfold xu at hc;split at hc<;>simp at *;obtain⟨rfl,hc⟩:=hc;subst hc;exact run_equalIn_int w d t _ _ _ _ hu
  .rename_i i hi hu;split at h
   case isFalse=>simp at h
   simp only[bc] at h;have hc:=one 2 (by simp[iO,hu]) h.symm;unfold xu at hc;split at hc<;>simp at *;subst hc;exact run_equalIn_string w d t _ _ hu
  .rename_i i fs hi hu;split at h
   .simp at h
   rename_i eE;unfold At at hx hy;have hg:iO P t=aa true:=by simp[iO,hu]
   rw[hg] at hx hy;obtain⟨rfl,qZ⟩:=hx;obtain⟨rfl,q_⟩:=hy;have wm:P.fieldsOf t=fs:=by simp[Program.fieldsOf,hu]
   rw[run_equalIn_struct w d t _ _ (by rw[wm];exact hu) (by simpa using eE),wm];clear hu wm eE;clear one;generalize fs.toList=l at h;revert b pl;induction l with
   | nil=>intro pl b hb h;simp[Jv] at h;subst h;simp[sv] at hb;subst hb;simp[Op.eqFields]
   | cons f l Nz =>
    intro pl b hb h;simp only[Jv] at h;split at h
    .simp at h
    rename_i hc;simp only[iV,dn] at h;obtain⟨p1,U,p2,h2,rfl⟩:=h;obtain⟨b1,b2,e1,e2,rfl⟩:=LF hb;obtain⟨i',g,dt,rN,ma⟩:=Xy U;have hn:f.name ≠ "_" := λe=>hc (.inl e)
    have hle:f.offset+P.cellsOf f.type<=P.cellsOf t:=by omega
    obtain⟨u,r1,a1⟩:=JJ (P:=P) (w:=w) dt hle qZ rN ma;obtain⟨v,r2,a2⟩:=JJ (P:=P) (w:=w) dt hle q_ rN ma;have r3:=ih f.type (off+f.offset) p1 U d (by omega) xs ys u v a1 a2 b1 e1;have r4:=Nz p2 b2 e2 h2;simp only[Op.eqFields,hn,ne_eq,WV,cM,Sem.run_bind,r1,r2,r3,Result.andThen_ok];cases b1
    .simp
    .simpa using r4
  .rename_i i k e hi hu;split at h
   case h_2=>simp at h
   rename_i ie Bk;unfold At at hx hy;have hg:iO P t=aa true:=by simp[iO,hu]
   rw[hg] at hx hy;obtain⟨rfl,qZ⟩:=hx;obtain⟨rfl,q_⟩:=hy;rw[run_equalIn_array w d _ _ hu Bk];clear hu;clear one;generalize bA k=l at h;revert b pl;induction l with
   | nil=>intro pl b hb h;simp[Jw] at h;subst h;simp[sv] at hb;subst hb;simp[Op.eqItems]
   | cons j l Nz =>
    intro pl b hb h;simp only[Jw] at h;split at h
    .simp at h
    rename_i hc;simp only[iV,dn] at h;obtain⟨p1,U,p2,h2,rfl⟩:=h;obtain⟨b1,b2,e1,e2,rfl⟩:=LF hb;obtain⟨i',g,dt,rN,ma⟩:=Xy U;have hle:j*P.cellsOf e+P.cellsOf e<=P.cellsOf t:=by omega
    obtain⟨u,r1,a1⟩:=JJ (P:=P) (w:=w) dt hle qZ rN ma;obtain⟨v,r2,a2⟩:=JJ (P:=P) (w:=w) dt hle q_ rN ma;have r3:=ih e (off+j*P.cellsOf e) p1 U d (by omega) xs ys u v a1 a2 b1 e1;have r4:=Nz p2 b2 e2 h2;simp only[Op.eqItems,Sem.run_bind,r1,r2,r3,Result.andThen_ok];cases b1
    .simp
    .simpa using r4
  .simp at h
end
section
variable {P:Program} {E:Env} {st:St} {a:Act} {o:Oper} {K:V->St->Prop} {Q:Exit->Act->World->Prop}
def bool_beq(x y:Bool):(x == y)=decide (x=y):=by cases x<;>cases y<;>rfl
def S7{xs ys:Array Value}:∀{ks:List Nat} {vx vy:List V} {us ws:List Value} {b:Bool} (pl:List (Nat × Nat)) (off:Nat),fZ ks vx vy=aa b->RL E vx us->RL E vy ws ->
 (∀(j:Nat) u,us[j]?=aa u->xs[off+j]?=aa u)->(∀(j:Nat) u,ws[j]?=aa u->ys[off+j]?=aa u)->pl.map (·.2)=ks->pl.map (·.1)=List.range' off pl.length->sv xs ys pl=aa b
 | [], vx, vy, us, ws, b, pl, off, h, hx, hy, U, h2, h3, h4 => by
  have:pl=[]:=by simpa using h3
  subst this;cases vx<;>cases vy<;>simp[fZ] at h;subst h;simp[sv]
 | k :: ks, vx, vy, us, ws, b, pl, off, h, hx, hy, U, h2, h3, h4 => by
  obtain⟨⟨j,k'⟩,pl,rfl⟩:∃p q,pl=p::q:=by cases pl with | nil=>simp at h3 | cons p q=>exact⟨p,q,rfl⟩
  simp only[cz,iE,dm,D_] at h3 h4;obtain⟨rfl,h3⟩:=h3;obtain⟨rfl,h4⟩:=h4;have step:∀{x y:V} {P9 P_ : List V} {c d:Bool},vx=x::P9 -> vy=y::P_ -> (∀u v,R E x u->R E y v->xu k' u v=aa c)->fZ ks P9 P_ = aa d->b=(c&&d)->sv xs ys ((j,k')::pl)=aa b :=
   λ{x y P9 P_ c d} e1 e2 hc hd hb=>by
    subst e1;subst e2;cases us with
    | nil=>simp[RL] at hx
    | cons u us =>
     cases ws with
     | nil=>simp[RL] at hy
     | cons v ws =>
      simp only[RL] at hx hy;have hu:=U 0 u (by simp);have hv:=h2 0 v (by simp);simp only[xg] at hu hv;have ih:=S7 (ks:=ks) (us:=us) (ws:=ws) pl (j+1) hd hx.2 hy.2 (λi u hu=>by rw[show j+1+i=j+(i+1) from by omega];exact U (i+1) u (by simpa using hu))
       (λi u hu=>by rw[show j+1+i=j+(i+1) from by omega];exact h2 (i+1) u (by simpa using hu)) h3 h4
      simp only[sv,hu,hv,hc u v hx.1 hy.1,ih,xl,uu,hb]
  unfold fZ at h;split at h
  .simp at *
  .rename_i hk;simp only[iE] at hk;obtain⟨rfl,rfl⟩:=hk;split at h
   case isFalse=>simp at h
   rename_i gY;obtain rfl:=IF gY;simp only[dn] at h;obtain⟨d,hd,rfl⟩:=h;exact step rfl rfl (λu v hu hv=>by simp only[R] at hu hv;subst hu;subst hv;simp[xu]) hd rfl
  .rename_i hk;simp only[iE] at hk;obtain⟨rfl,rfl⟩:=hk;simp only[dn] at h;obtain⟨d,hd,rfl⟩:=h;exact step rfl rfl (λu v hu hv=>by simp only[R] at hu hv;subst hu;subst hv;simp[xu,Wi]) hd rfl
  .rename_i hk;simp only[iE] at hk;obtain⟨rfl,rfl⟩:=hk;simp only[dn] at h;obtain⟨d,hd,rfl⟩:=h;exact step rfl rfl (λu v hu hv=>by simp only[R] at hu hv;subst hu;subst hv;simp[xu,bool_beq]) hd rfl
  .simp at h
def HE:∀{ks:List Nat} {vx vy:List V} {b:Bool},fZ ks vx vy=aa b->vx.length=ks.length/\vy.length=ks.length
 | [],vx,vy,b,h=>by cases vx<;>cases vy<;>simp[fZ] at h;simp
 | k :: ks, vx, vy, b, h => by
  unfold fZ at h;split at h
  .simp at *
  .rename_i hk;simp only[iE] at hk;obtain⟨rfl,rfl⟩:=hk;split at h
   case isFalse=>simp at h
   simp only[dn] at h;obtain⟨d,hd,_⟩:=h
   have:=HE hd;simp[this]
  .rename_i hk;simp only[iE] at hk;obtain⟨rfl,rfl⟩:=hk;simp only[dn] at h;obtain⟨d,hd,_⟩:=h
   have:=HE hd;simp[this]
  .rename_i hk;simp only[iE] at hk;obtain⟨rfl,rfl⟩:=hk;simp only[dn] at h;obtain⟨d,hd,_⟩:=h
   have:=HE hd;simp[this]
  .simp at h
variable{t':TypeId}{vx vy:V}{y:Operand}
def Kc(hs:bN E st a){neg:Bool}{op:BinOp}(jA:op=if neg then .neq else .eql){ks:List Nat}(ht:OT P t=aa ks)(ho:o.op = .binOp op t x y t')
 (hg:iO P t=aa ab) (hx:R E vx (a.eval x)) (hy:R E vy (a.eval y)) (hk:opt (y7 neg ks vx vy) (K2 K st)):o.wp P a E.w (ei E a o.dst K) Q:=by
 unfold opt K2 at hk;split at hk
 case h_2=>exact hk.elim
 rename_i v hv;unfold y7 at hv;split at hv
 case h_2=>simp at hv
 rename_i xs ys;simp only[dn] at hv;obtain⟨b,hb,rfl⟩:=hv;simp only[R] at hx hy;obtain⟨us,wD,Vi⟩:=hx;obtain⟨ws,Vk,Vl⟩:=hy;unfold OT at ht;split at ht
 case h_2=>simp at ht
 rename_i pl qk;split at ht
 case isFalse=>simp at ht
 rename_i hc;obtain⟨hr,qh⟩:=hc;simp only[bc] at ht;have hlen:pl.length=P.cellsOf t:=by have:=iH List.length hr;simpa using this
 obtain⟨l1,l2⟩:=HE hb;have ax':ks.length=P.cellsOf t:=by rw[<-ht];simp[hlen]
 have Nq:us.size=P.cellsOf t:=by have:=gj Vi;simp at this;omega
 have Bu:ws.size=P.cellsOf t:=by have:=gj Vl;simp at this;omega
 have dq:=S7 (E:=E) (xs:=us) (ys:=ws) pl 0 hb Vi Vl (λj u hu=>by simpa using hu) (λj u hu=>by simpa using hu) ht (by rw[hr,hlen,vE]);have dr:∀(zs:Array Value),zs.size=P.cellsOf t->At P t zs 0 (.agg zs):=λzs hz=>by
  unfold At;rw[hg];exact⟨by rw[j6,<-hz,Array.extract_size],by omega⟩
 have dk:=ar' (P:=P) (w:=E.w) 20 t 0 pl qk 10000 (by omega) us ws _ _ (dr us Nq) (dr ws Bu) b dq;subst jA;cases neg
 .refine dh hs (x:=.bool b) ?_ (by simp[R]) hk;simp only[execOp,ho,wD,Vk,dP,cF];simp only[Sem.run_bind,run_eqGuard_agg E.w _ t x y us ws qh,Result.andThen_ok,run_eql_struct,dk,Sem.run_pure]
 .refine dh hs (x:=.bool (!b)) ?_ (by simp[R]) hk;simp only[execOp,ho,wD,Vk,cM];simp only[Sem.run_bind,run_eqGuard_agg E.w _ t x y us ws qh,Result.andThen_ok,run_neq_struct,dk,Sem.run_pure]
variable{g:Bool}{i:Nat}
def axd(hs:bN E st a){s:TypeId}{n:Nat}{fs:Array Field}{f:Field}(ho:o.op = .field s x i)(ht:P.underlying s=aa (.struct fs))(hf:fs[i]?=aa f)
 (hg:iO P f.type=aa g) (hn:eQ P f.type=aa n) (hx:R E v (a.eval x)) (hk:match (generalizing:=false) v with | .agg cs=>opt (bP g n (cs.drop f.offset)) (K2 K st) | _=>False) :
 o.wp P a E.w (ei E a o.dst K) Q:=by
 cases v<;>try exact False.elim hk
 rename_i cs;simp only[opt,K2] at hk;simp only[R] at hx;obtain⟨vs,h,hr⟩:=hx;cases g with
 | false =>
  cases hd:cs.drop f.offset with
  | nil=>rw[hd] at hk;exact False.elim hk
  | cons c rest =>
   rw[hd] at hk;have hc:cs[f.offset]?=aa c:=by
    have:=iH (·[0]?) hd
    simpa using this
   obtain⟨u,U,h2⟩:=sk hr f.offset c hc;have xF : vs[f.offset]?=aa u:=by simpa using U
   exact dh hs (v:=c) (x:=u) (by simp[execOp,ho,h,Instr.field,run_underlying ht,hf,asAgg,part,B8 hg,xF]) h2 hk
 | true =>
  cases hd:takeN n (cs.drop f.offset) with
  | none=>simp only[bP,hd,Option.map_none] at hk;
  | some ys =>
   simp only[bP,hd,uu] at hk;obtain⟨rfl,hle⟩:=PY hd;refine dh hs (x:=.agg (vs.extract f.offset (f.offset+n))) (by simp[execOp,ho,h,Instr.field,run_underlying ht,hf,asAgg,part,B8 hg,pK hn]) ?_ hk;simp only[R];refine⟨_,rfl,?_⟩;have hl:=gj hr;refine Ee ?_ λj y u U h2=>?_
   .simp at hl hle ⊢;omega
   .have hj:j<n:=by have:=(fy.1 U).1;simp at this;omega
    rw[KB,aF hj,vD] at U;obtain⟨u',h3,h4⟩:=sk hr _ y U
    have:(vs.extract f.offset (f.offset+n)).toList[j]?=aa u' := by
     have aD:=(fy.1 h3).1;simp at aD;simp only[Qz] at h3 ⊢;rw[aal];rw[aF (by omega)];exact h3
    rw[this] at h2;simp only[bc] at h2;subst h2;exact h4
def TD:∀(l:List Value) (n off:Nat) (cells:Array Value),off+n+l.length<=cells.size ->
 ((l.zipIdx n).foldl (λcs (c,j)=>cs.setIfInBounds (off+j) c) cells).toList=cells.toList.take (off+n)++l++cells.toList.drop (off+n+l.length)
 | [],n,off,cells,h=>by simp
 | v :: l, n, off, cells, h => by
  simp only[dm] at h;have ih:=TD l (n+1) off (cells.setIfInBounds (off+n) v) (by simp;omega);simp only[List.zipIdx_cons,yO];rw[ih];have e:=list_seg_step cells.toList (off+n) v l (by simp;omega);simpa [QB,GS,D' 1] using e
variable{off:Nat}
def Ti{place:Nat->Option (Nat × Nat)}{cells:Array Value}{n:Nat}{v:Value}{rest:List (Nat × Value)}(hp:place i=aa (off,n))(hv:v.cells.size=n)(xV:off+n<=cells.size):
 Instr.fill place cells ((i,v)::rest)=Instr.fill place (cells.toList.take off++v.cells.toList++cells.toList.drop (off+n)).toArray rest:=by
 have h:=TD v.cells.toList 0 off cells (by simp;omega);have e:v.cells.zipIdx.foldl (λcs (c,j)=>cs.setIfInBounds (off+j) c) cells=(cells.toList.take off++v.cells.toList++cells.toList.drop (off+n)).toArray:=by
  apply D2;rw[<-Array.foldl_toList,Array.toList_zipIdx,h];simp[hv]
 simp only[Instr.fill,hp,hv,ne_eq,Jh,fL,Cl];rw[aB (by simp;omega),e]
def LL(hs:RL E st.t a.tmps.toList){place:Nat->Option (Nat × TypeId)}{place' : Nat->Option (Nat × Nat)}(qk:∀i off t n,place i=aa (off,t)->eQ P t=aa n->place' i=aa (off,n)) :
 ∀{parts:List (Nat × Operand)} {ps:List (Nat × Nat × X)} {z cs:List V} {cells:Array Value},BP P place parts=aa ps->p7 st z ps=aa cs->RL E z cells.toList ->
 ∃p9,Instr.fill place' cells (parts.map λ(i,x)=>(i,a.eval x))=aa p9 /\ RL E cs p9.toList
 | [], ps, z, cs, cells, hp, hb, hz => by
  simp only[BP,bc] at hp;subst hp;simp only[p7,bc] at hb;subst hb;exact⟨cells,by simp[Instr.fill],hz⟩
 | (i, x) :: parts, ps, z, cs, cells, hp, hb, hz => by
  simp only[BP] at hp;split at hp
  case h_2=>simp at hp
  rename_i off t Db;split at hp
  case h_2=>simp at hp
  rename_i n y hn hy;split at hp
  .simp at hp
  rename_i Da;simp only[dn] at hp;obtain⟨XG,ma,rfl⟩:=hp;simp only[p7] at hb;split at hb
  case isFalse=>simp at hb
  rename_i hc;have hx:=o9 (E:=E) (st:=st) (a:=a) hs hy;obtain⟨U,h2⟩:=yV hx hc.2;have hle:=Mt hc.1;have hl:=gj hz;have Fe:=gj U;simp at hle hl Fe;have xV:off+n<=cells.size:=by omega
  .have o5:RL E (setAt z off (ev st y).cells) (cells.toList.take off++(a.eval x).cells.toList++cells.toList.drop (off+n)):=by
    refine Ee (by simp[PC];omega) λj u v h3 h4=>?_
    rw[PB (by omega)] at h3;have xX:=Gi (c:=cells.toList) (vs:=(a.eval x).cells.toList) (off:=off) (by simp;omega) j;simp only[Ck,h2] at xX;rw[xX] at h4
    by_cases k1:j<off
    .rw[aF k1] at h3 h4;obtain⟨v',k3,k4⟩:=sk hz j u h3;rw[k3] at h4;simp only[bc] at h4;subst h4;exact k4
    .rw[aB k1] at h3 h4
     by_cases k2:j<off+n
     .rw[aF (by omega)] at h3;rw[aF k2] at h4;obtain⟨v',k3,k4⟩:=sk U _ u h3;rw[k3] at h4;simp only[bc] at h4;subst h4;exact k4
     .rw[aB (by omega)] at h3;rw[aB k2] at h4;obtain⟨v',k3,k4⟩:=sk hz j u h3;rw[k3] at h4;simp only[bc] at h4;subst h4;exact k4
   obtain⟨p9,k1,k2⟩:=LL hs qk ma hb (cells:=(cells.toList.take off++(a.eval x).cells.toList++cells.toList.drop (off+n)).toArray) (by simpa using o5);refine⟨p9,?_,k2⟩;rw[cz,Ti (qk i off t n Db hn) h2 xV];exact k1
def Wt:∀(fs:List Field),fs.all (λf=>(P.info? f.type).isSome)=ab->∃places:List (Nat × Nat),fs.mapM (λf=>(P.info? f.type).map λi=>(f.offset,i.size))=aa places /\
 ∀i:Nat,places[i]?=(fs[i]?).bind λf=>(P.info? f.type).map λi=>(f.offset,i.size)
 | [],_=>⟨[],by simp,λi=>by simp⟩
 | f :: fs, h => by
  simp only[vB,bg] at h;obtain⟨i,hi⟩:=Eb.1 h.1;obtain⟨places,U,h2⟩:=Wt fs h.2;refine⟨(f.offset,i.size)::places,by simp[hi,U],λj=>?_⟩;cases j with
  | zero=>simp[hi]
  | succ j=>simp[h2]
variable{parts:Array (Nat × Operand)}{z:List V}
def wp_build(hs:bN E st a){ps:List (Nat × Nat × X)}(ho:o.op = .build t parts)(hz:kF P t=aa z){place:Nat->Option (Nat × TypeId)}
 (qk:(∃fs,P.underlying t=aa (.struct fs)/\fs.toList.all (λf=>(P.info? f.type).isSome)=ab/\place=λi=>(fs[i]?).map λf=>(f.offset,f.type)) \/
   ∃k e,P.underlying t=aa (.array k e)/\(P.info? e).isSome=ab/\place=λi=>aa (i*P.cellsOf e,e))
 (hp:BP P place parts.toList=aa ps) (hk:opt ((p7 st z ps).map V.agg) (K2 K st)):o.wp P a E.w (ei E a o.dst K) Q:=by
 unfold opt K2 at hk;split at hk
 case h_2=>exact hk.elim
 rename_i v hv;simp only[dn] at hv;obtain⟨cs,hb,rfl⟩:=hv;obtain⟨i,zv,U,h2,h3,_⟩:=uh hz;have Vn:RL E z zv.cells.toList:=sr h3;have key:∃p9,P.built t (parts.map λ(i,x)=>(i,a.eval x)).toList=aa p9 /\ RL E cs p9.toList:=by
  rcases qk with ⟨fs,hu,dq,rfl⟩ | ⟨k,e,hu,al',rfl⟩
  .obtain⟨places,hm,hg⟩:=Wt (P:=P) fs.toList dq;obtain⟨p9,k1,k2⟩:=LL (P:=P) (st:=st) hs.slot (place' := λi=>places.toArray[i]?) (λi off t' n h hn=>by
    simp only[dn] at h;obtain⟨f,hf,h⟩:=h;simp only[pW] at h;obtain⟨rfl,rfl⟩:=h;simp only[aav,hg];unfold eQ at hn;simp only[dn] at hn;obtain⟨i',dt,rfl⟩:=hn;simp[hf,dt]) hp hb Vn
   exact⟨p9,by simpa [Program.built,U,hu,h2,hm] using k1,k2⟩
  .obtain⟨ie,Bk⟩:=Eb.1 al';obtain⟨p9,k1,k2⟩:=LL (P:=P) (st:=st) hs.slot (place' := λi=>aa (i*ie.size,ie.size)) (λi off t' n h hn=>by
    simp only[bc,pW] at h;obtain⟨rfl,rfl⟩:=h;simp only[eQ,Bk,uu,bc] at hn;simp[R0 Bk,hn]) hp hb Vn
   exact⟨p9,by simpa [Program.built,U,hu,h2,Bk] using k1,k2⟩
 obtain⟨p9,k1,k2⟩:=key;refine dh hs (x:=.agg p9) ?_ (by simp only[R];exact⟨p9,rfl,k2⟩) hk
 have:=run_build (P:=P) E.w t _ _ k1
 simp only[execOp,ho,Sem.run_bind,this,Result.andThen_ok,Sem.run_pure]
def LM{k:Nat}:∀(ps:List (Nat × Value)) (i0:Nat) (cells:Array Value),ps.map (·.1)=List.range' i0 ps.length->(∀p∈ps,p.2.cells.size=k)->cells.size=(i0+ps.length)*k ->
 Instr.fill (λi=>aa (i*k,k)) cells ps=aa (cells.toList.take (i0*k)++(ps.map λp=>p.2.cells.toList).flatten).toArray
 | [], i0, cells, _, _, c8 => by
  simp only[Instr.fill,fe,QU,eD];rw[AN (by simp at c8 ⊢;omega)]
 | (i, v) :: ps, i0, cells, hm, dq, c8 => by
  simp only[cz,dm,D_,iE] at hm;obtain⟨rfl,hm⟩:=hm;simp only[fh] at dq;have qU:(i+(ps.length+1))*k=i*k+k+ps.length*k:=by rw[jw,jw];omega
  simp only[dm,qU] at c8;rw[Ti (n:=k) rfl dq.1 (by omega)];have ih:=LM ps (i+1) (cells.toList.take (i*k)++v.cells.toList++cells.toList.drop (i*k+k)).toArray hm dq.2 (by simp[dq.1,jw];omega);rw[ih];congr 2;simp only[cz,lV,<-eN];congr 1;rw[show(i+1)*k=i*k+k from by rw[jw];omega]
  have:(cells.toList.take (i*k)++v.cells.toList).length=i*k+k:=by simp[dq.1];omega
  rw[KJ (by omega),AN (by omega)]
def Yj(hs:RL E st.t a.tmps.toList){k:Nat}{e:TypeId}:∀{n:Nat} {xs:List Operand} {ys:List X} {l:List (List V)},jO P (aq n e) xs=aa ys->mj st k ys=aa l ->
 xs.length=n/\l.length=n/\(∀x∈xs,(a.eval x).cells.size=k)/\(∀y∈l,y.length=k)/\RL E.nl l.flatten (xs.map λx=>(a.eval x).cells.toList).flatten/\∀v∈(xs.map λx=>(a.eval x).cells.toList).flatten,v.oneCell' = ab
 | 0, [], ys, l, U, h2 => by
  simp only[List.replicate_zero,jO,bc] at U;subst U;simp only[mj,bc] at h2;subst h2;simp[RL]
 | 0,_::_,ys,l,U,h2=>by simp[jO] at U
 | n+1,[],ys,l,U,h2=>by simp[AM,jO] at U
 | n + 1, x :: xs, ys, l, U, h2 => by
  simp only[AM,jO,iV,dn] at U;obtain⟨y,hy,ys',q_,rfl⟩:=U;simp only[mj] at h2;split at h2
  case isFalse=>simp at h2
  rename_i hc;simp only[dn] at h2;obtain⟨l',fS,rfl⟩:=h2;obtain⟨k1,k2,k3,k4,k5,k6⟩:=Yj hs q_ fS;have hx:=o9 (E:=E) (st:=st) (a:=a) hs hy;obtain⟨r1,r2⟩:=yV hx hc.1;have r3:=RL.qx (E:=E) (E' := E.nl) _ (Env.le.refl E.nl) hc.2.1 r1;have r4:=zU r1 hc.2.2;refine⟨by simp[k1],by simp[k2],?_,?_,?_,?_⟩
  .simp only[fh];exact⟨r2,k3⟩
  .simp only[fh];exact⟨by have:=gj r1;rw[S9];simp at this;omega,k4⟩
  .simp only[lV,cz];exact vH (RL.erase _ r3) k5
  .simp only[cz,lV];intro v hv
   rcases fi.1 hv with h | h
   .exact r4 v h
   .exact k6 v h
def Z4(hs:bN E st a){len:Nat}(ho:o.op = .buildSlice t len parts)(ht:P.underlying t=aa (.slice e))(hn:eQ P e=aa k)(hz:kF P e=aa z)
 (hr:parts.toList.map (·.1)=bA len) (c8:len*k<=16777216) {l:List (List V)}
 (hf:(parts.toList.map (·.2)).length=len/\l.length=len/\(∀x∈parts.toList.map (·.2),(a.eval x).cells.size=k)/\(∀y∈l,y.length=k)/\RL E.nl l.flatten ((parts.toList.map (·.2)).map λx=>(a.eval x).cells.toList).flatten/\∀v∈((parts.toList.map (·.2)).map λx=>(a.eval x).cells.toList).flatten,v.oneCell' = ab)
 (hk:K (V.sl .aZ k l) st):o.wp P a E.w (ei E a o.dst K) Q:=by
 obtain⟨k1,k2,k3,k4,k5,k6⟩:=hf;obtain⟨i,zv,U,h2,h3,h4⟩:=uh hz;have hlen:parts.toList.length=len:=by simpa using k1
 let ps:List (Nat × Value):=parts.toList.map λ(i,x)=>(i,a.eval x)
 have Nb:ps.map (·.1)=List.range' 0 ps.length:=by
  have:ps.map (·.1)=parts.toList.map (·.1):=by simp[ps,tq]
  rw[this,hr,vE];congr 1;simp[ps];simpa using hlen.symm
 have Nc:(ps.map λp=>p.2.cells.toList)=(parts.toList.map (·.2)).map λx=>(a.eval x).cells.toList:=by simp[ps,tq]
 have dq:∀p∈ps,p.2.cells.size=k:=λp hp=>by
  simp only[ps,px] at hp;obtain⟨q,hq,rfl⟩:=hp;exact k3 q.2 (px.2 ⟨q,hq,rfl⟩)
 have qk:ps.length=len:=by simp[ps];simpa using hlen
 have fill:∀cells:Array Value,cells.size=len*k->Instr.fill (λi=>aa (i*k,k)) cells ps=aa ((parts.toList.map (·.2)).map λx=>(a.eval x).cells.toList).flatten.toArray:=λcells hc=>by
  have:=LM ps 0 cells Nb dq (by rw[qk];simpa using hc)
  rw[this,Nc];simp
 generalize tL:((parts.toList.map (·.2)).map λx=>(a.eval x).cells.toList).flatten=news at fill k5 k6;refine Z8 hs (w' := E.w.alloc (.cells news.toArray e)) (x:=.slice (aa ⟨E.w.heap.size,0,aj⟩) len len) ((Ext.refl _).alloc _ _) ?_ ?_ hk
 .have jB:(zeroValue e).run P E.w = .ok zv E.w:=by simp[zeroValue,typeInfo,U,h2]
  have Fm:(parts.map λ(i,x)=>(i,a.eval x)).toList=ps:=by simp[ps]
  have zB : ¬(16777216<len*k):=by omega
  simp only[execOp,ho,Sem.run_bind];have key:(Instr.buildSlice t len (parts.map λ(i,x)=>(i,a.eval x))).run P E.w = .ok (.slice (aa ⟨E.w.heap.size,0,aj⟩) len len) (E.w.alloc (.cells news.toArray e)):=by
   unfold Instr.buildSlice;simp only[Sem.run_bind,run_underlying ht,Result.andThen_ok,pK hn];rw[aB (by simpa using zB)];rw[Fm]
   by_cases h0:len*k=0
   .rw[aF h0];simp only[Sem.run_bind,Sem.run_pure,Result.andThen_ok];rw[fill _ (by simp)];simp[newRow]
   .rw[aB h0];simp only[Sem.run_bind,jB,Result.andThen_ok,Sem.run_pure];rw[fill _ (by simp)];simp[newRow]
  rw[key];rfl
 .obtain⟨bq,_,_⟩:=Gj hs ((Ext.refl E.w).alloc news.toArray e);have tK:(E.w.alloc (.cells news.toArray e)).heap[E.w.heap.size]?=aa (.cells (news++[]).toArray e (0,0)):=by simpa using heap_alloc_new E.w (.cells news.toArray e)
  simp only[R,k2];refine⟨aa ⟨E.w.heap.size,0,aj⟩,len,rfl,bY _,.inr ⟨_,_,rfl,?_⟩,rfl⟩;exact G0 (E' := {E with w:=E.w.alloc (.cells news.toArray e)}) k4 (RL.mono _ bq.nl k5) k6 tK (λj _=>by rw[show({E with w:=E.w.alloc (.cells news.toArray e)}:Env).bf E.w.heap.size = .const from hs.ok.fresh _ (bY _)];trivial)
def aw8(hs:bN E st a){len:Nat}{ys:List X}(ho:o.op = .buildSlice t len parts)(ht:P.underlying t=aa (.slice e))(hn:eQ P e=aa k)(hz:kF P e=aa z)
 (hl:jO P (aq len e) (parts.toList.map (·.2))=aa ys) (hr:parts.toList.map (·.1)=bA len) (c8:len*k<=16777216)
 (hk:opt ((mj st k ys).map (V.sl .aZ k)) (K2 K st)):o.wp P a E.w (ei E a o.dst K) Q:=by
 unfold opt K2 at hk;split at hk
 case h_2=>exact hk.elim
 rename_i v hv;simp only[dn] at hv;obtain⟨l,hb,rfl⟩:=hv;exact Z4 hs ho ht hn hz hr c8 (Yj (E:=E) hs.slot hl hb) hk
def NR(hs:RL E st.t a.tmps.toList){k:Nat}{e:TypeId}:∀{n:Nat} {xs:List Operand} {ys:List X} {l:List (List V)},jO P (aq n e) xs=aa ys->zJ k (dw st ys)=aa l ->
 xs.length=n/\l.length=n/\(∀x∈xs,(a.eval x).cells.size=k)/\(∀y∈l,y.length=k)/\RL E.nl l.flatten (xs.map λx=>(a.eval x).cells.toList).flatten/\∀v∈(xs.map λx=>(a.eval x).cells.toList).flatten,v.oneCell' = ab
 | 0, [], ys, l, U, h2 => by
  simp only[List.replicate_zero,jO,bc] at U;subst U;simp only[dw,zJ,bc] at h2;subst h2;simp[RL]
 | 0,_::_,ys,l,U,h2=>by simp[jO] at U
 | n+1,[],ys,l,U,h2=>by simp[AM,jO] at U
 | n + 1, x :: xs, ys, l, U, h2 => by
  simp only[AM,jO,iV,dn] at U;obtain⟨y,hy,ys',q_,rfl⟩:=U;simp only[dw,zJ] at h2;split at h2
  case isFalse=>simp at h2
  rename_i hc;simp only[dn] at h2;obtain⟨l',fS,rfl⟩:=h2;obtain⟨k1,k2,k3,k4,k5,k6⟩:=NR hs q_ fS;have hx:=o9 (E:=E) (st:=st) (a:=a) hs hy;obtain⟨r1,r2⟩:=yV hx hc.1;have r3:=RL.qx (E:=E) (E' := E.nl) _ (Env.le.refl E.nl) hc.2.1 r1;have r4:=zU r1 hc.2.2;refine⟨by simp[k1],by simp[k2],?_,?_,?_,?_⟩
  .simp only[fh];exact⟨r2,k3⟩
  .simp only[fh];exact⟨by have:=gj r1;simp at this;omega,k4⟩
  .simp only[lV,cz];exact vH r3 k5
  .simp only[cz,lV];intro v hv
   rcases fi.1 hv with h | h
   .exact r4 v h
   .exact k6 v h
end
section
variable {P:Program} {E:Env} {st:St} {a:Act} {o:Oper} {K:V->St->Prop} {Q:Exit->Act->World->Prop}
def LD(s:List UInt8):(dK s).flatten=s.map λb=>V.int .u8 b.toNat:=by
 induction s with
 | nil=>rfl
 | cons b s ih=>simp only[dK,cz,lV] at ih ⊢;rw[ih];rfl
def Ra{E:Env}:∀{s:List UInt8} {vs:List Value},RL E (s.map λb=>V.int .u8 b.toNat) vs->vs=(s.map λb=>(b.toNat:Int)).map (Value.int .u8)
 | [],[],_=>rfl
 | [],_::_,h=>by simp[RL] at h
 | _::_,[],h=>by simp[RL] at h
 | b :: s, v :: vs, h => by
  simp only[cz,RL,R] at h;simp only[cz];rw[h.1,Ra h.2]
def OY:∀(s:List UInt8) (r:List UInt8),(s.map λb=>(b.toNat:Int)).foldl (λ(r:ByteArray) n=>r.push (UInt8.ofNat n.toNat)) ⟨r.toArray⟩=⟨(r++s).toArray⟩
 | [],r=>by simp
 | b :: s, r => by
  have e:(⟨r.toArray⟩:ByteArray).push (UInt8.ofNat ((b.toNat:Int)).toNat)=⟨(r++[b]).toArray⟩:=by
   apply ByteArray.ext;simp[ByteArray.push]
  simp only[cz,yO,e,OY s (r++[b])];simp
def aw'(hs:bN E st a){src dst:TypeId}(ho:o.op = .convert src dst x)(U:P.underlying src=aa (.slice e))(h2:P.underlying dst=aa .string)(h3:P.underlying e=aa (.int .u8))(hx:R E v (a.eval x))
 (hk:∃t s,v = .sl t 1 (dK s)/\K (.aG s) st):o.wp P a E.w (ei E a o.dst K) Q:=by
 obtain⟨t,s,rfl,hk⟩:=hk;simp only[R] at hx;obtain⟨base,cap,hv,_,mI,_⟩:=hx;refine dh hs (v:=.aG s) (x:=.string ⟨s.toArray⟩) ?_ (by simp only[R]) hk;have key:(Conv.bytesToString (a.eval x)).run P E.w = .ok (.string ⟨s.toArray⟩) E.w:=by
  rw[hv]
  rcases mI with h | ⟨b,off,rfl,hr⟩
  .have Iy:s=[]:=by simpa [dK] using h
   subst Iy;cases base with
   | none=>simp[Conv.bytesToString];rfl
   | some ad =>
    have:=run_bytesToString (P:=P) E.w ad 0 cap [] (by simp[loadCells,loadCellsFrom])
    simp[dK] at this ⊢;exact this
  .obtain⟨_,h5⟩:=sj.1 hr;obtain⟨vs,k1,k2,_,_⟩:=GZ h5;rw[LD] at k1;have e1:=Ra k1;have hl:vs.length=(dK s).length:=by rw[e1];simp[dK]
   have hc:=run_loadCells_list (P:=P) E.w ⟨b,off,aj⟩ vs (λj u hu=>by rw[my];exact k2 j u hu);rw[hl,e1] at hc
   have:=run_bytesToString (P:=P) E.w ⟨b,off,aj⟩ (dK s).length cap _ hc
   rw[this];have hp:=OY s [];simp only[gQ] at hp;exact iH (λz=>Result.ok (Value.string z) E.w) hp
 rw[hv] at key;simp only[execOp,ho,Sem.run_bind,hv,run_convert_bytes_string E.w src dst e base _ cap U h3 h2,key,Result.andThen_ok,Sem.run_pure]
def aaJ{E:Env}{b o m n:Nat}(h:gv E k l b o)(uT:m<=n)(hn:n<=l.length):gv E k ((l.take n).drop m) b (o+m*k):=by
 obtain⟨U,h2⟩:=sj.1 h;refine sj.2 ⟨λx hx=>U x (Cs (List.mem_of_mem_drop hx)),?_⟩;have e:l=(l.take n).take m++((l.take n).drop m++l.drop n):=by
  rw[<-eN,rG,rG]
 rw[e,vC,vC,yT,yT] at h2;have hl:((l.take n).take m).flatten.length=m*k:=by
  rw[n7 (λx hx=>U x (Cs (Cs hx)))];simp only[iN];congr 1;omega
 rw[hl] at h2;exact h2.2.1
def mV{E:Env}(hs:RL E st.t a.tmps.toList){x:Option Operand}{y:Option X}(h:lJ P t x=aa y):
 (x=aj/\y=aj)\/∃u v,x=aa u/\y=aa v/\R E (ev st v) (a.eval u):=by
 cases x with
 | none=>simp only[lJ,bc] at h;exact .inl ⟨rfl,h.symm⟩
 | some x =>
  simp only[lJ,dn] at h;obtain⟨v,hv,rfl⟩:=h;exact .inr ⟨x,v,rfl,rfl,o9 hs hv⟩
def r5{j:IntKind}{n y:Nat}{c:BoundsCode}(h:n<=y):(Instr.sliceBound (.int j n) y c).run P w = .ok n w:=by
 simp[Instr.sliceBound,asIntOf,h]
def TP(hs:bN E st a){Z:Nat}{v:Value}(ht:st.out.aR Z=aa l.length)(h:R E (.sl .aZ k l) v):R E (.sl (.tk Z) k l) v:=by
 simp only[R] at h ⊢;obtain⟨ad,cap,U,h2,h3,h4⟩:=h;exact⟨ad,cap,U,h2,h3,l.length,hs.ok.aR Z _ ht,bY _,λ_=>.inl h4⟩
variable{dt mx' o8:Option X}{hi mx:Option Operand}
def Pp{lo:Option Operand}(hs:bN E st a)(U:lJ P t lo=aa o8)(h2:lJ P t hi=aa dt)(h3:lJ P t mx=aa mx')(wz:mx'.isSome=ab->dt.isSome=ab){len n M:Nat}
 (dR:match (generalizing:=false) o8 with | none=>m=0 | some y=>∃j,ev st y = .int j m) (oJ:match (generalizing:=false) dt with | none=>n=len | some y=>∃j,ev st y = .int j n) (hM:match (generalizing:=false) mx' with | none=>M=cap | some y=>∃j,ev st y = .int j M)
 (uT:m<=n) (hnM:n<=M) (Mg:M<=cap):(Instr.sliceBounds ab len cap (lo.map a.eval) (hi.map a.eval) (mx.map a.eval)).run P E.w = .ok (m,n,M) E.w:=by
 have e1:∀c,(match (lo.map a.eval:Option Value) with | some v=>Instr.sliceBound v n c | none=>pure 0:Sem Nat).run P E.w = .ok m E.w:=λc=>by
  rcases mV (E:=E) hs.slot U with ⟨rfl,rfl⟩ | ⟨u,v,rfl,rfl,hr⟩
  .simp only at dR;subst dR;simp
  .obtain⟨j,hj⟩:=dR;rw[hj] at hr;simp only[R] at hr;simp only[uu,hr];exact r5 uT
 rcases mV (E:=E) hs.slot h3 with ⟨rfl,rfl⟩ | ⟨u3,v3,rfl,rfl,Bo⟩
 .simp only at hM;subst hM
  rcases mV (E:=E) hs.slot h2 with ⟨rfl,rfl⟩ | ⟨u,v,rfl,rfl,hr⟩
  .simp only at oJ;subst oJ
   have:=e1 .sliceB
   rcases mV (E:=E) hs.slot U with ⟨rfl,rfl⟩ | ⟨u',v',rfl,rfl,cL⟩<;>simp[Instr.sliceBounds] at this ⊢
   .exact this
   .simp[this]
  .obtain⟨j,hj⟩:=oJ;rw[hj] at hr;simp only[R] at hr
   have:=e1 .sliceB
   have e2:=r5 (P:=P) (w:=E.w) (j:=j) (c:=.sliceAcap) (show n<=M by omega)
   rcases mV (E:=E) hs.slot U with ⟨rfl,rfl⟩ | ⟨u',v',rfl,rfl,cL⟩<;>simp[Instr.sliceBounds,hr,e2] at this ⊢
   .exact this
   .simp[this]
 .obtain⟨j3,MU⟩:=hM;rw[MU] at Bo;simp only[R] at Bo;have e3:=r5 (P:=P) (w:=E.w) (j:=j3) (c:=.slice3Acap) Mg
  rcases mV (E:=E) hs.slot h2 with ⟨rfl,rfl⟩ | ⟨u,v,rfl,rfl,hr⟩
  .simp at wz
  .obtain⟨j,hj⟩:=oJ;rw[hj] at hr;simp only[R] at hr
   have:=e1 .slice3C
   have e2:=r5 (P:=P) (w:=E.w) (j:=j) (c:=.slice3B) hnM
   rcases mV (E:=E) hs.slot U with ⟨rfl,rfl⟩ | ⟨u',v',rfl,rfl,cL⟩<;>simp[Instr.sliceBounds,hr,Bo,e2,e3] at this ⊢
   .exact this
   .simp[this]
variable{vx:V}
def axp(hs:bN E st a){lo:Option Operand}(ho:o.op = .slice t x lo hi mx)(ht:P.underlying t=aa (.slice e))(hn:eQ P e=aa k)
 (hx:R E vx (a.eval x)) (U:lJ P t lo=aa o8) (h2:lJ P t hi=aa dt) (h3:lJ P t mx=aa mx') (wz:mx'.isSome=ab->dt.isSome=ab)
 (hk:∃t l m n,vx = .sl t k l/\m<=n/\n<=l.length/\(match (generalizing:=false) o8 with | none=>m=0 | some y=>∃j,ev st y = .int j m)/\(match (generalizing:=false) dt with | none=>n=l.length | some y=>∃j,ev st y = .int j n) /\
   match (generalizing:=false) mx' with
   | none=>K (.sl .no k ((l.take n).drop m)) st
   | some y=>(∃j,ev st y = .int j n)/\K (.sl .aZ k ((l.take n).drop m)) st):o.wp P a E.w (ei E a o.dst K) Q:=by
 obtain⟨tk,l,m,n,rfl,uT,nG,dR,oJ,hk⟩:=hk;simp only[R] at hx;obtain⟨base,cap,hv,Bh,mI,_⟩:=hx;have key:∀M:Nat,n<=M->M<=cap->(mx' = aj->M=cap)->(mx'.isSome=ab->M=n)->(Instr.sliceBounds ab l.length cap (lo.map a.eval) (hi.map a.eval) (mx.map a.eval)).run P E.w = .ok (m,n,M) E.w:=λM hM Mg hM1 hM2=>by
  have e1:∀c,(match (lo.map a.eval:Option Value) with | some v=>Instr.sliceBound v n c | none=>pure 0:Sem Nat).run P E.w = .ok m E.w:=λc=>by
   rcases mV (E:=E) hs.slot U with ⟨rfl,rfl⟩ | ⟨u,v,rfl,rfl,hr⟩
   .simp only at dR;subst dR;simp
   .obtain⟨j,hj⟩:=dR;rw[hj] at hr;simp only[R] at hr;simp only[uu,hr];exact r5 uT
  rcases mV (E:=E) hs.slot h3 with ⟨rfl,rfl⟩ | ⟨u3,v3,rfl,rfl,Bo⟩
  .obtain rfl:=hM1 rfl
   rcases mV (E:=E) hs.slot h2 with ⟨rfl,rfl⟩ | ⟨u,v,rfl,rfl,hr⟩
   .simp only at oJ;subst oJ
    have:=e1 .sliceB
    rcases mV (E:=E) hs.slot U with ⟨rfl,rfl⟩ | ⟨u',v',rfl,rfl,cL⟩<;>simp[Instr.sliceBounds] at this ⊢
    .exact this
    .simp[this]
   .obtain⟨j,hj⟩:=oJ;rw[hj] at hr;simp only[R] at hr
    have:=e1 .sliceB
    have e2:=r5 (P:=P) (w:=E.w) (j:=j) (c:=.sliceAcap) (show n<=M by omega)
    rcases mV (E:=E) hs.slot U with ⟨rfl,rfl⟩ | ⟨u',v',rfl,rfl,cL⟩<;>simp[Instr.sliceBounds,hr,e2] at this ⊢
    .exact this
    .simp[this]
  .obtain rfl:=hM2 rfl;simp only at hk;obtain⟨⟨j3,MU⟩,hk⟩:=hk;rw[MU] at Bo;simp only[R] at Bo;have e3:=r5 (P:=P) (w:=E.w) (j:=j3) (c:=.slice3Acap) Mg
   rcases mV (E:=E) hs.slot h2 with ⟨rfl,rfl⟩ | ⟨u,v,rfl,rfl,hr⟩
   .simp at wz
   .obtain⟨j,hj⟩:=oJ;rw[hj] at hr;simp only[R] at hr
    have:=e1 .slice3C
    have e2:=r5 (P:=P) (w:=E.w) (j:=j) (c:=.slice3B) (bY M)
    rcases mV (E:=E) hs.slot U with ⟨rfl,rfl⟩ | ⟨u',v',rfl,rfl,cL⟩<;>simp[Instr.sliceBounds,hr,Bo,e2,e3] at this ⊢
    .exact this
    .simp[this]
 have run:∀M:Nat,n<=M->M<=cap->(mx' = aj->M=cap)->(mx'.isSome=ab->M=n)->(execOp a.eval o).run P E.w = .ok (.value (.slice (if M=m then base else base.map (·.add (m*k))) (n - m) (M - m))) E.w:=λM U h2 h3 h4=>by
  simp only[execOp,ho,Sem.run_bind,hv];simp[Instr.sliceAt,run_underlying ht,Instr.slice,key M U h2 h3 h4,pK hn]
 have val:∀M fD,n<=M->M<=cap->(fD = Tk.no\/(fD = Tk.aZ/\M=n))->R E (.sl fD k ((l.take n).drop m)) (.slice (if M=m then base else base.map (·.add (m*k))) (n - m) (M - m)):=λM fD U h2 h3=>by
  have hlen:((l.take n).drop m).length=n - m:=by simp;omega
  simp only[R,hlen];refine⟨_,_,rfl,by omega,?_,?_⟩
  .rcases vF m n with aD | rO
   .right
    rcases mI with h | ⟨b,off,rfl,hr⟩
    .subst h;simp at nG;omega
    .refine⟨b,off+m*k,?_,aaJ hr uT nG⟩;rw[aB (by omega)];simp[my]
   .left;exact uk (by omega)
  .rcases h3 with rfl | ⟨rfl,rfl⟩
   .trivial
   .rfl
 cases mx' with
 | none=>exact dh hs (run cap (by omega) (bY _) (λ_=>rfl) (λh=>by simp at h)) (val cap .no (by omega) (bY _) (.inl rfl)) hk
 | some y=>exact dh hs (run n (bY _) (by omega) (λh=>by simp at h) (λ_=>rfl)) (val n .aZ (bY _) (by omega) (.inr ⟨rfl,rfl⟩)) hk.2
def axo(hs:bN E st a){lo:Option Operand}(ho:o.op = .slice t x lo hi aj)(ht:P.underlying t=aa .string)
 (hx:R E vx (a.eval x)) (U:lJ P t lo=aa o8) (h2:lJ P t hi=aa dt)
 (hk:∃s m n,vx = .aG s/\m<=n/\n<=s.length/\(match (generalizing:=false) o8 with | none=>m=0 | some y=>∃j,ev st y = .int j m)/\(match (generalizing:=false) dt with | none=>n=s.length | some y=>∃j,ev st y = .int j n)/\K (.aG ((s.take n).drop m)) st) :
 o.wp P a E.w (ei E a o.dst K) Q:=by
 obtain⟨s,m,n,rfl,uT,nG,dR,oJ,hk⟩:=hk;simp only[R] at hx;have c8:(⟨s.toArray⟩:ByteArray).size=s.length:=by simp[ByteArray.size]
 have key:(Instr.sliceBounds ar s.length s.length (lo.map a.eval) (hi.map a.eval) aj).run P E.w = .ok (m,n,s.length) E.w:=by
  rcases mV (E:=E) hs.slot h2 with ⟨rfl,rfl⟩ | ⟨u,v,rfl,rfl,hr⟩
  .simp only at oJ;subst oJ
   rcases mV (E:=E) hs.slot U with ⟨rfl,rfl⟩ | ⟨u',v',rfl,rfl,cL⟩
   .simp only at dR;subst dR;simp[Instr.sliceBounds]
   .obtain⟨j',iP⟩:=dR;rw[iP] at cL;simp only[R] at cL;have e2:=r5 (P:=P) (w:=E.w) (j:=j') (c:=.sliceB) uT;simp[Instr.sliceBounds,cL,e2]
  .obtain⟨j,hj⟩:=oJ;rw[hj] at hr;simp only[R] at hr;have e2:=r5 (P:=P) (w:=E.w) (j:=j) (c:=.sliceAlen) nG
   rcases mV (E:=E) hs.slot U with ⟨rfl,rfl⟩ | ⟨u',v',rfl,rfl,cL⟩
   .simp only at dR;subst dR;simp[Instr.sliceBounds,hr,e2]
   .obtain⟨j',iP⟩:=dR;rw[iP] at cL;simp only[R] at cL;have e3:=r5 (P:=P) (w:=E.w) (j:=j') (c:=.sliceB) uT;simp[Instr.sliceBounds,hr,cL,e2,e3]
 refine dh hs (v:=.aG ((s.take n).drop m)) (x:=.string ⟨((s.take n).drop m).toArray⟩) ?_ (by simp only[R]) hk;have he:(⟨s.toArray⟩:ByteArray).extract m n=⟨((s.take n).drop m).toArray⟩:=by
  apply ByteArray.ext;rw[ByteArray.data_extract];apply D2;simp[Ku]
 simp only[execOp,ho,Sem.run_bind,hx];simp[Instr.sliceAt,run_underlying ht,Instr.slice,c8,key,he]
def Zq(hu:P.underlying u=aa .string)(s:List UInt8):
 ∃news,Src P w 1 (dK s).length u (.string ⟨s.toArray⟩) news/\RL E (dK s).flatten news/\(∀v∈news,v.oneCell' = ab)/\∀y∈dK s,y.length=1:=by
 have c8:(⟨s.toArray⟩:ByteArray).size=s.length:=by simp[ByteArray.size]
 have hx:((⟨s.toArray⟩:ByteArray).extract 0 s.length).data.map (λb:UInt8=>Value.int .u8 (b.toNat:Int))=(s.map λb:UInt8=>Value.int .u8 (b.toNat:Int)).toArray:=by
  apply D2;rw[ByteArray.data_extract];simp
 refine⟨s.map λb=>Value.int .u8 b.toNat,⟨⟨_,hu,λ_ h=>by simp at h⟩,λw' => by simp[Builtin.lenOf,c8,dK],?_,?_,by simp[dK]⟩,?_,?_,?_⟩
 .simp only[Builtin.firstCells,dK,aN,hx,Sem.run_pure]
 .simp only[Builtin.firstCells,dK,aN,hx,Sem.run_pure]
 .rw[LD];induction s with
  | nil=>simp[RL]
  | cons b s ih=>simp only[cz,RL,R];exact⟨trivial,by
   clear c8 hx ih;induction s with
   | nil=>simp[RL]
   | cons c s ih=>simp only[cz,RL,R];exact⟨trivial,ih⟩⟩
 .intro v hv;simp only[px] at hv;obtain⟨b,_,rfl⟩:=hv;rfl
 .intro y hy;simp only[dK,px] at hy;obtain⟨b,_,rfl⟩:=hy;rfl
def FP{ao:aO}(hl:zP P o=aa ao)(hs:bN E st a)(h:ao.bj P st K):o.wp P a E.w (ei E a o.dst K) Q:=by
 have X:=λ{t:TypeId} {x:Operand} {y:X} (hx:cS P t x=aa y)=>o9 (E:=E) (st:=st) (a:=a) hs.slot hx
 have XS:=λ{ts:List TypeId} {xs:List Operand} {ys:List Go.Am.X} (hx:jO P ts xs=aa ys)=>Oh (E:=E) (st:=st) (a:=a) hs.slot hx
 unfold zP at hl;split at hl
 .rename_i x ho;simp only[dn] at hl;obtain⟨y,hy,rfl⟩:=hl;exact Z9 hs (.inl ho) (X hy) h
 .rename_i x ho;simp only[dn] at hl;obtain⟨y,hy,rfl⟩:=hl;exact Z9 hs (.inr ho) (X hy) h
 .rename_i c x y ho;split at hl
  case h_2=>simp at hl
  rename_i U h2 h3;simp only[bc] at hl;subst hl;exact axn hs ho (X U) (X h2) (X h3) h
 .rename_i t ho;simp only[dn] at hl;obtain⟨z,hz,rfl⟩:=hl;exact aw2 hs ho hz h
 .rename_i t x ho;split at hl
  case h_2=>simp at hl
  rename_i U h2;simp only[bc] at hl;subst hl;exact aw6 hs ho (X h2) h.1 h.2
 .rename_i t ps ho;split at hl
  .rename_i z fs hz hu;split at hl
   case isFalse=>simp at hl
   rename_i dq;simp only[dn] at hl;obtain⟨XG,hp,rfl⟩:=hl;exact wp_build hs ho hz (.inl ⟨fs,hu,dq,rfl⟩) hp h
  .rename_i z k e hz hu;split at hl
   case isFalse=>simp at hl
   rename_i dq;simp only[dn] at hl;obtain⟨XG,hp,rfl⟩:=hl;exact wp_build hs ho hz (.inr ⟨k,e,hu,dq,rfl⟩) hp h
  .simp at hl
 .rename_i t len ps ho;split at hl
  case h_2=>simp at hl
  rename_i e hu;split at hl
  case h_2=>simp at hl
  rename_i k z xs U h2 h3;split at hl
  case isFalse=>simp at hl
  rename_i hc;simp only[bc] at hl;subst hl;exact aw8 hs ho hu U h2 h3 hc.1 hc.2.1 h
 .rename_i t x ho;split at hl
  case h_2=>simp at hl
  rename_i U h2 h3;simp only[bc] at hl;subst hl;exact axj hs ho U h2 (X h3) h
 .rename_i t x y ho;split at hl
  case h_2=>simp at hl
  rename_i n ax ay U h2 h3;split at hl
  .simp at hl
  rename_i Da;simp only[bc] at hl;subst hl;simp only[aO.bj] at h;split at h
  case h_2=>exact h.elim
  rename_i aP eE;exact aaa hs (Nat.pos_of_ne_zero Da) ho U (X h2) (X h3) eE h
 .rename_i x ho;simp only[dn] at hl;obtain⟨y,hy,rfl⟩:=hl;exact axl hs ho (X hy) h
 .rename_i op t x y t' ho;split at hl
  case h_2=>simp at hl
  rename_i ax ay U h2;split at hl
  .simp only[bc] at hl;subst hl;exact aw4 hs ho (X U) (X h2) h
  .split at hl
   .simp only[bc] at hl;subst hl;exact aw_ hs ho (X U) (X h2) h
   .simp only[bc] at hl;subst hl;exact aw5 hs ho (X U) (X h2) h
  .rename_i hu;split at hl
   .simp only[bc] at hl;subst hl;exact Z3 hs (neg:=false) rfl hu ho (X U) (X h2) h
   .simp only[bc] at hl;subst hl;exact Z3 hs (neg:=true) rfl hu ho (X U) (X h2) h
   .simp at hl
  .rename_i fs hu;split at hl
   case h_2=>simp at hl
   rename_i ks gn;split at hl
   .simp only[bc] at hl;subst hl;exact Kc hs (neg:=false) rfl gn ho (by simp[iO,hu]) (X U) (X h2) h
   .simp only[bc] at hl;subst hl;exact Kc hs (neg:=true) rfl gn ho (by simp[iO,hu]) (X U) (X h2) h
   .simp at hl
  .rename_i fs e hu;split at hl
   case h_2=>simp at hl
   rename_i ks gn;split at hl
   .simp only[bc] at hl;subst hl;exact Kc hs (neg:=false) rfl gn ho (by simp[iO,hu]) (X U) (X h2) h
   .simp only[bc] at hl;subst hl;exact Kc hs (neg:=true) rfl gn ho (by simp[iO,hu]) (X U) (X h2) h
   .simp at hl
  .simp at hl
 .rename_i t x ho;simp only[dn] at hl;obtain⟨y,hy,rfl⟩:=hl;exact axm hs ho (X hy) h
 .rename_i src dst x ho;split at hl
  .rename_i U h2 h3;simp only[bc] at hl;subst hl;exact axa hs ho U h2 (X h3) h
  .rename_i U h2 h3;split at hl
   case h_2=>simp at hl
   rename_i h4;simp only[bc] at hl;subst hl;exact aw' hs ho U h2 h4 (X h3) h
  .simp at hl
 .rename_i f first cap ho
  split at hl
  case h_2=>simp at hl
  rename_i U h2;simp only[bc] at hl;subst hl;exact axk hs ho (XS U) (XS h2) h
 .rename_i t x lo hi mx ho;split at hl
  case h_2=>simp at hl
  rename_i U h2 h3 h4;split at hl
  .rename_i e hu;split at hl
   case h_2=>simp at hl
   rename_i k hk;split at hl
   case isFalse=>simp at hl
   rename_i wz;simp only[bc] at hl;subst hl;simp only[aO.bj] at h
   rcases h with h | ⟨base,n,cap,m,hh,e1,k1,k2,g1,g2,g3,hK⟩
   .exact axp hs ho hu hk (X U) h2 h3 h4 wz h
   .have gq:=X U;rw[e1] at gq;simp only[R] at gq;rename_i mx' _ _;have g3:mx' = none:=by cases mx' with | none=>rfl | some _=>simp at g3
    subst g3;have hb:=Pp (P:=P) (M:=cap) hs h2 h3 h4 wz g1 g2 rfl k1 k2 (bY _);refine dh hs (v:=.raw _) (x:=.slice (if cap=m then base else base.map (·.add (m*k))) (hh - m) (cap - m)) ?_ (by simp only[R]) hK;simp only[execOp,ho,Sem.run_bind,gq];simp[Instr.sliceAt,run_underlying hu,Instr.slice,hb,pK hk]
  .rename_i hu;split at hl
   case h_2=>simp at hl
   simp only[bc] at hl;subst hl;have wz:mx=none:=by cases mx with | none=>rfl | some m=>simp[lJ] at h4
   subst wz;exact axo hs ho hu (X U) h2 h3 h
  .simp at hl
 .rename_i s x i ho;split at hl
  case h_2=>simp at hl
  rename_i fs y U h2;split at hl
  case h_2=>simp at hl
  rename_i f hf;split at hl
  case h_2=>simp at hl
  rename_i n hn;split at hl
  .simp at hl
  rename_i Da;simp only[bc] at hl;subst hl;exact axc hs ho U hf hn Da (X h2) h
 .rename_i s x i ho;split at hl
  case h_2=>simp at hl
  rename_i fs y U h2;split at hl
  case h_2=>simp at hl
  rename_i f hf;split at hl
  case h_2=>simp at hl
  rename_i g n hg hn;simp only[bc] at hl;subst hl;exact axd hs ho U hf hg hn (X h2) h
 .rename_i t x i ho;split at hl
  case h_3=>simp at hl
  case h_1 =>
   rename_i e ax ai U h2 h3;simp only[dn] at hl;obtain⟨k,hk,rfl⟩:=hl;exact axe hs ho U hk (X h2) (X h3) h
  case h_2 =>
   rename_i m e ax ai U h2 h3;simp only[dn] at hl;obtain⟨k,hk,rfl⟩:=hl;exact axf hs ho U hk (X h2) (X h3) h
 .rename_i t x i ho;split at hl
  case h_2=>simp at hl
  rename_i ax ai U h2 h3;simp only[bc] at hl;subst hl;exact axg hs ho U (X h2) (X h3) h
 .rename_i x i ho;simp only[dn] at hl;obtain⟨y,hy,rfl⟩:=hl;exact axb hs ho (X hy) h
 .rename_i c ho;obtain⟨callee,args,argTypes⟩:=c;simp only at hl;split at hl
  .rename_i f;simp only[dn] at hl;obtain⟨ys,q_,rfl⟩:=hl;refine Z5 hs (vs:=args.map a.eval) (by simpa using XS q_) h.1 h.2 ?_;simp[execOp,ho,resolve,Act.eval,Deferred.ofValue,invoke]
  .rename_i x;split at hl
   case h_2=>simp at hl
   rename_i y ys U h2;simp only[bc] at hl;subst hl;have hx:=X U;simp only[aO.bj] at h;split at h
   case h_2=>exact h.elim
   rename_i f as bs ML;rw[ML] at hx;simp only[R] at hx;obtain⟨fs,cs,he,r1,r2⟩:=hx;refine Z5 hs (vs:=fs++args.map a.eval++cs) (by simpa using vH (vH r1 (XS h2)) r2) h.1 h.2 ?_;simp[execOp,ho,resolve,he,Deferred.ofValue,invoke]
  .split at hl
   case h_2=>simp at hl
   rename_i t x ht hx;have e1:argTypes=#[t]:=by cases argTypes;simpa using ht
   have e2:args=#[x]:=by cases args;simpa using hx
   subst e1;subst e2;split at hl
   .rename_i e y hu hy;simp only[bc] at hl;subst hl;exact axh hs ho hu (X hy) h
   .rename_i y hu hy;simp only[bc] at hl;subst hl;exact axi hs ho hu (X hy) h
   .simp at hl
  .split at hl
   case h_2=>simp at hl
   rename_i t u s x ht hx;have e1:argTypes=#[t,u]:=by cases argTypes;simpa using ht
   have e2:args=#[s,x]:=by cases args;simpa using hx
   subst e1;subst e2;have dk:(execOp a.eval o).run P E.w=((Builtin.append_ #[t,u] o.type #[a.eval s,a.eval x]).run P E.w).andThen λv w' => .ok (.value v) w' := by
    simp[execOp,ho,resolve,invoke,builtin]
   split at hl
   .rename_i e e' ys yx U h2 h3 h4;split at hl
    case h_2=>simp at hl
    rename_i i z hi hz;split at hl
    case isFalse=>simp at hl
    rename_i hc;obtain⟨rfl,oD,iw⟩:=hc;simp only[bc] at hl;subst hl;obtain⟨i',zv,k1,k2,k3,k4⟩:=uh hz;rw[hi] at k1;simp only[bc] at k1;subst k1;have jB:zv.cells.size=i.size:=by have:=gj (sr (E:=E) k3);simp at this;omega
    simp only[aO.bj,rA] at h;obtain⟨tk,l,m,es,⟨t',ex⟩,lB,hk⟩:=h;have hS:=X h3;have hX:=X h4;rw[es] at hS;rw[ex] at hX;obtain⟨news,q1,q2,q3,q4⟩:=JQ (P:=P) h2 hX;cases tk with
    | no=>exact hk.elim
    | tk Z=>exact GD hs U hi k2 jB oD dk hS q1 q2 q3 q4 lB hk
    | aZ =>
     rcases hk with hk | hk | ⟨Z,h5,h6⟩
     .exact GD hs U hi k2 jB oD dk hS q1 q2 q3 q4 lB (.inl hk)
     .exact GD hs U hi k2 jB oD dk hS q1 q2 q3 q4 lB (.inr hk)
     .exact GD hs U hi k2 jB oD dk (tk:=.tk Z) (TP hs h5 hS) q1 q2 q3 q4 lB ⟨h5,h6⟩
   .rename_i e ys yx U h2 h3 h4;split at hl
    case h_2=>simp at hl
    rename_i i z hi hz;split at hl
    case h_2=>simp at hl
    split at hl
    case isFalse=>simp at hl
    rename_i hc;simp only[bc] at hl;subst hl;obtain⟨i',zv,k1,k2,k3,k4⟩:=uh hz;rw[hi] at k1;simp only[bc] at k1;subst k1;have jB:zv.cells.size=i.size:=by have:=gj (sr (E:=E) k3);simp at this;omega
    simp only[aO.bj,rA] at h;obtain⟨s',ex,tk,l,m,es,⟨t',em⟩,lB,hk⟩:=h;simp only[V.sl.injEq,qF] at em;obtain⟨_,rfl⟩:=em;have hS:=X h3;have hX:=X h4;rw[es] at hS;rw[ex] at hX;simp only[R] at hX;obtain⟨news,q1,q2,q3,q4⟩:=Zq (P:=P) (E:=E.nl) (w:=E.w) h2 s';have HY:i.size=1:=hc.1;have fin:∀tk,R E (.sl tk 1 l) (a.eval s)->(match (generalizing:=false) tk with
     | .aZ=>(∀Z,st.out.aR Z=aj->K (.sl (.tk Z) 1 (l++dK s')) ⟨st.t,st.aE,st.out.a_ Z (l.length+(dK s').length)⟩)\/K (.sl .no 1 (l++dK s')) st
     | .tk Z=>st.out.aR Z=aa l.length/\K (.sl (.tk Z) 1 (l++dK s')) ⟨st.t,st.aE,st.out.a_ Z (l.length+(dK s').length)⟩
     | .no=>False)->o.wp P a E.w (ei E a o.dst K) Q:=λtk hS hk=>by
     refine GD hs U hi k2 jB (by omega) dk (tk:=tk) (l:=l) (m:=dK s') (news:=news) (by rw[HY];exact hS) (by rw[HY,hX];exact q1) q2 q3 (by rw[HY];exact q4) lB ?_;rw[HY];exact hk
    cases tk with
    | no=>exact hk.elim
    | tk Z=>exact fin _ hS hk
    | aZ =>
     rcases hk with hk | hk | ⟨Z,h5,h6⟩
     .exact fin _ hS (.inl hk)
     .exact fin _ hS (.inr hk)
     .exact fin (.tk Z) (TP hs h5 hS) ⟨h5,h6⟩
   .simp at hl
  .simp at hl
 .simp at hl
end
def X.slot:X->List Nat
 | .s n=>[n]
 | .c _=>[]
def tZ:Option X->List X
 | none=>[]
 | some x=>[x]
def aO.xs:aO->List X
 | .mv x | .box _ x | .vO _ x | .gS _ x | .load _ _ x | .wN x | .not x | .wJ x | .wK x | .qa _ x | .v9 _ _ _ x | .ext x _ | .qP _ x | .uD x=>[x]
 | .pick c a b=>[c,a,b]
 | .alloc _ | .qL _=>[]
 | .build _ ps=>ps.map (·.2.2)
 | .ko _ xs | .call _ xs | .own _ xs=>xs
 | .store _ a x | .dU _ a x | .pZ _ a x | .vM _ a x | .cat a x | .l8 _ _ a x | .sy _ a x | .tT _ a x | .tV a x | .sO _ _ a x | .app _ a x | .n6 a x=>[a,x]
 | .jj x xs=>x::xs
 | .lT _ x lo hi mx=>x::(tZ lo++tZ hi++tZ mx)
 | .Ai x lo hi=>x::(tZ lo++tZ hi)
 | .ky _ first cap=>first++cap
def aO.bB:aO->Bool
 | .alloc _ | .box _ _ | .vO _ _ | .qL _ | .gS _ _ | .store _ _ _ | .call _ _ | .jj _ _ | .app _ _ _ | .n6 _ _=>ab
 | .own q _=>!q.pure
 | _=>ar
def aO.Dl:aO->Bool
 | .load _ _ _=>ab
 | _=>ar
abbrev dy:=List (List V) × ah
def cm(t:List V)(s:dy):St:=⟨t,s.1,s.2⟩
def Exact(t:List V)(v:V)(s:dy):V->St->Prop:=λv' aP => v' = v/\aP = cm t s
variable{s:dy}
def af6{t t2:List V}{s2:dy}{x:X}(h:∀n∈x.slot,t2.getD n .any=t.getD n .any):ev (cm t2 s2) x=ev (cm t s) x:=by
 cases x with
 | s n=>exact h n (by simp[X.slot])
 | c v=>rfl
def CS{t t2:List V}{s s2:dy}:∀{xs:List X},(∀x∈xs,ev (cm t2 s2) x=ev (cm t s) x)->dw (cm t2 s2) xs=dw (cm t s) xs
 | [],_=>rfl
 | x :: xs, h => by
  simp only[fh] at h;simp only[dw,h.1,CS h.2]
def RX{t t2:List V}{s s2:dy}:∀{ps:List (Nat × Nat × X)} {z:List V},(∀x∈ps.map (·.2.2),ev (cm t2 s2) x=ev (cm t s) x)->p7 (cm t2 s2) z ps=p7 (cm t s) z ps
 | [],_,_=>rfl
 | (off, n, x) :: ps, z, h => by
  simp only[cz,fh] at h;simp only[p7,h.1,RX h.2]
def Yk{t t2:List V}{s s2:dy}{k:Nat}:∀{xs:List X},(∀x∈xs,ev (cm t2 s2) x=ev (cm t s) x)->mj (cm t2 s2) k xs=mj (cm t s) k xs
 | [],_=>rfl
 | x :: xs, h => by
  simp only[fh] at h;simp only[mj,h.1,Yk h.2]
def sT(s:dy)(g:Bool)(n:Nat)(a:V):Option V:=mf (cm [] s) g n a
variable{g:Bool}
def VO{t:List V}{n:Nat}{a:V}:mf (cm t s) g n a=sT s g n a:=by
 unfold sT;cases a<;>simp only[mf];rename_i p o;cases p<;>rfl
def mk_inj{t:List V}{A:List (List V)}{B:ah}(h:(⟨t,A,B⟩:St)=cm t s):s=(A,B):=by
 have:=iH (λq:St=>(q.aE,q.out)) h
 exact this.symm
section
variable {P:Program}
def auE{op:aO}{t t2:List V}{s2 s':dy}(hx:∀x∈op.xs,ev (cm t2 s2) x=ev (cm t s) x)(uO:op.bB=ab->s2=s)
 (xT:∀g n x,op = .load g n x->sT s2 g n (ev (cm t s) x)=aa v) (h:op.bj P (cm t s) (Exact t v s')) :
 op.bj P (cm t2 s2) (Exact t2 v (if op.bB then s' else s2)):=by
 cases op with
 | mv x =>
  simp only[aO.xs,fh] at hx;simp only[aO.bj,Exact] at h ⊢;exact⟨by rw[hx.1];exact h.1,rfl⟩
 | pick c a b =>
  simp only[aO.xs,fh] at hx;simp only[aO.bj] at h ⊢;rw[hx.1,hx.2.1,hx.2.2.1];split at h
  .exact⟨h.1,rfl⟩
  .exact⟨h.1,rfl⟩
  .exact h.elim
 | alloc z =>
  obtain rfl:=uO rfl;simp only[aO.bj,Exact] at h ⊢;obtain rfl:=mk_inj h.2;exact⟨h.1,by simp[aO.bB,cm]⟩
 | box n x =>
  obtain rfl:=uO rfl;simp only[aO.xs,fh] at hx;simp only[aO.bj,Exact] at h ⊢;rw[hx.1];obtain rfl:=mk_inj h.2.2;exact⟨h.1,h.2.1,by simp[aO.bB,cm]⟩
 | vO n x =>
  obtain rfl:=uO rfl;simp only[aO.xs,fh] at hx;simp only[aO.bj,Exact] at h ⊢;rw[hx.1];obtain rfl:=mk_inj h.2.2.2;exact⟨h.1,h.2.1,h.2.2.1,by simp[aO.bB,cm]⟩
 | build z ps =>
  simp only[aO.bj] at h ⊢;rw[RX (ps:=ps) hx];cases hb:(p7 (cm t s) z ps).map V.agg with
  | none=>rw[hb] at h;exact h.elim
  | some u=>rw[hb] at h;exact⟨h.1,rfl⟩
 | ko k xs =>
  simp only[aO.bj] at h ⊢;rw[Yk (xs:=xs) hx];cases hb:(mj (cm t s) k xs).map (V.sl .aZ k) with
  | none=>rw[hb] at h;exact h.elim
  | some u=>rw[hb] at h;exact⟨h.1,rfl⟩
 | load g n x =>
  simp only[aO.xs,fh] at hx;simp only[aO.bj] at h ⊢;rw[hx.1,VO,xT g n x rfl];exact⟨rfl,rfl⟩
 | store n a x =>
  obtain rfl:=uO rfl;simp only[aO.xs,fh] at hx;simp only[aO.bj] at h ⊢;rw[hx.1,hx.2.1];generalize ev (cm t s2) x=xv at h ⊢;generalize ev (cm t s2) a=av at h ⊢;have key:∀aP,dW (cm t s2) n xv av=aa aP -> dW (cm t2 s2) n xv av=aa (cm t2 (aP.aE,aP.out)):=λaP he=>by
   cases av with
   | ptr p off =>
    cases p with
    | kT b=>simp[dW] at he
    | aE i =>
     simp only[dW,cm,iV] at he ⊢;obtain⟨cs,U,h2⟩:=he;refine⟨cs,U,?_⟩
     by_cases hc:cw n (cs.drop off)=ab/\xv.wd=aa n/\cW xv.cells=ab
     .rw[aF hc] at h2 ⊢;simp only[bc] at h2;subst h2;rfl
     .rw[aB hc] at h2;simp at h2
    | out b =>
     simp only[dW,cm,iV] at he ⊢;obtain⟨cs,U,h2⟩:=he;refine⟨cs,U,?_⟩
     by_cases hc:cw n (cs.drop off)=ab/\xv.wd=aa n/\cW xv.cells=ab/\bT xv.cells=ab
     .rw[aF hc] at h2 ⊢;simp only[bc] at h2;subst h2;rfl
     .rw[aB hc] at h2;simp at h2
   | _=>simp[dW] at he
  split at h
  case h_2=>exact h.elim
  rename_i aP he;rw[key aP he]
  have:=iH (λq:St=>(q.aE,q.out)) h.2
  have h2:(aP.aE,aP.out)=s' := this;exact⟨h.1,by rw[h2];rfl⟩
 | wN x =>
  simp only[aO.xs,fh] at hx;simp only[aO.bj] at h ⊢;rw[hx.1];split at h<;>first | exact⟨h.1,rfl⟩ | exact h.elim
 | dU op x y =>
  simp only[aO.xs,fh] at hx;simp only[aO.bj] at h ⊢;rw[hx.1,hx.2.1];cases hb:vN op (ev (cm t s) x) (ev (cm t s) y) with
  | none=>rw[hb] at h;exact h.elim
  | some u=>rw[hb] at h;exact⟨h.1,rfl⟩
 | pZ op x y =>
  simp only[aO.xs,fh] at hx;simp only[aO.bj] at h ⊢;rw[hx.1,hx.2.1];cases hb:AW op (ev (cm t s) x) (ev (cm t s) y) with
  | none=>rw[hb] at h;exact h.elim
  | some u=>rw[hb] at h;exact⟨h.1,rfl⟩
 | vM neg x y =>
  simp only[aO.xs,fh] at hx;simp only[aO.bj] at h ⊢;rw[hx.1,hx.2.1];cases hb:y8 neg (ev (cm t s) x) (ev (cm t s) y) with
  | none=>rw[hb] at h;exact h.elim
  | some u=>rw[hb] at h;exact⟨h.1,rfl⟩
 | cat x y =>
  simp only[aO.xs,fh] at hx;simp only[aO.bj] at h ⊢;rw[hx.1,hx.2.1];obtain⟨a,b,U,h2,h3,h4⟩:=h;exact⟨a,b,U,h2,h3,h4.1,rfl⟩
 | l8 neg n x y =>
  simp only[aO.xs,fh] at hx;simp only[aO.bj] at h ⊢;rw[hx.1,hx.2.1];cases hb:y7 neg n (ev (cm t s) x) (ev (cm t s) y) with
  | none=>rw[hb] at h;exact h.elim
  | some u=>rw[hb] at h;exact⟨h.1,rfl⟩
 | sy neg x y =>
  simp only[aO.xs,fh] at hx;simp only[aO.bj] at h ⊢;rw[hx.1,hx.2.1];split at h
  .exact⟨h.1,rfl⟩
  .exact h.elim
 | not x =>
  simp only[aO.xs,fh] at hx;simp only[aO.bj] at h ⊢;rw[hx.1];split at h
  .exact⟨h.1,rfl⟩
  .exact h.elim
 | wJ x =>
  simp only[aO.xs,fh] at hx;simp only[aO.bj] at h ⊢;rw[hx.1];split at h
  .exact⟨h.1,rfl⟩
  .exact⟨h.1,rfl⟩
  .exact h.elim
 | wK x =>
  simp only[aO.xs,fh] at hx;simp only[aO.bj] at h ⊢;rw[hx.1];split at h
  .exact⟨h.1,rfl⟩
  .exact h.elim
 | qa off x =>
  simp only[aO.xs,fh] at hx;simp only[aO.bj] at h ⊢;rw[hx.1];split at h
  .exact⟨h.1,rfl⟩
  .exact⟨h.1,rfl⟩
  .exact h.elim
 | v9 g off n x =>
  simp only[aO.xs,fh] at hx;simp only[aO.bj] at h ⊢;rw[hx.1];split at h
  case h_2=>exact h.elim
  rename_i cs e;cases hb:bP g n (cs.drop off) with
  | none=>rw[hb] at h;exact h.elim
  | some u=>rw[hb] at h;exact⟨h.1,rfl⟩
 | tT k x i =>
  simp only[aO.xs,fh] at hx;simp only[aO.bj] at h ⊢;rw[hx.1,hx.2.1];split at h
  .obtain⟨U,k',n,c,h2,h3,h4,h5⟩:=h;exact⟨U,k',n,c,h2,h3,h4,h5.1,rfl⟩
  .obtain⟨k',n,h2,h3,h4,h5⟩:=h;exact⟨k',n,h2,h3,h4,h5.1,rfl⟩
  .exact h.elim
 | sO m k x i =>
  simp only[aO.xs,fh] at hx;simp only[aO.bj] at h ⊢;rw[hx.1,hx.2.1];split at h
  .obtain⟨kk,n,U,h2,h3,h4⟩:=h;exact⟨kk,n,U,h2,h3,h4.1,rfl⟩
  .obtain⟨kk,n,U,h2,h3,h4⟩:=h;exact⟨kk,n,U,h2,h3,h4.1,rfl⟩
  .exact h.elim
 | tV x i =>
  simp only[aO.xs,fh] at hx;simp only[aO.bj] at h ⊢;rw[hx.1,hx.2.1];split at h
  case h_2=>exact h.elim
  obtain⟨k',n,c,h2,h3,h4,h5⟩:=h;exact⟨k',n,c,h2,h3,h4,h5.1,rfl⟩
 | call f xs =>
  obtain rfl:=uO rfl;simp only[aO.bj] at h ⊢;rw[CS (xs:=xs) hx];refine⟨h.1,h.2.mono λu D hu=>?_⟩;obtain rfl:=mk_inj hu.2;exact⟨hu.1,rfl⟩
 | jj x xs =>
  obtain rfl:=uO rfl;simp only[aO.xs,fh] at hx;simp only[aO.bj] at h ⊢;rw[hx.1,CS hx.2];split at h
  case h_2=>exact h.elim
  refine⟨h.1,h.2.mono λu D hu=>?_⟩;obtain rfl:=mk_inj hu.2;exact⟨hu.1,rfl⟩
 | app k x y =>
  obtain rfl:=uO rfl;simp only[aO.xs,fh] at hx;simp only[aO.bj,rA] at h ⊢;rw[hx.1,hx.2.1];obtain⟨tk,l,m,U,h2,h3,h4⟩:=h;refine⟨tk,l,m,U,h2,h3,?_⟩;have conv:∀{u:V} {D:ah},Exact t v s' u ⟨t,s2.1,D⟩->Exact t2 v (if (aO.app k x y).bB then s' else s2) u ⟨t2,s2.1,D⟩:=λ{u D} hu=>by
   obtain rfl:=mk_inj hu.2;exact⟨hu.1,rfl⟩
  cases tk with
  | no=>exact h4
  | aZ =>
   rcases h4 with h4 | h4 | ⟨Z,h4,h5⟩
   .exact .inl λZ bE=>conv (h4 Z bE)
   .exact .inr (.inl (conv h4))
   .exact .inr (.inr ⟨Z,h4,conv h5⟩)
  | tk Z=>exact⟨h4.1,conv h4.2⟩
 | n6 x y =>
  obtain rfl:=uO rfl;simp only[aO.xs,fh] at hx;simp only[aO.bj,rA] at h ⊢;rw[hx.1,hx.2.1];obtain⟨aG,h0,tk,l,m,U,h2,h3,h4⟩:=h;refine⟨aG,h0,tk,l,m,U,h2,h3,?_⟩;have conv:∀{u:V} {D:ah},Exact t v s' u ⟨t,s2.1,D⟩->Exact t2 v (if (aO.n6 x y).bB then s' else s2) u ⟨t2,s2.1,D⟩:=λ{u D} hu=>by
   obtain rfl:=mk_inj hu.2;exact⟨hu.1,rfl⟩
  cases tk with
  | no=>exact h4
  | aZ =>
   rcases h4 with h4 | h4 | ⟨Z,h4,h5⟩
   .exact .inl λZ bE=>conv (h4 Z bE)
   .exact .inr (.inl (conv h4))
   .exact .inr (.inr ⟨Z,h4,conv h5⟩)
  | tk Z=>exact⟨h4.1,conv h4.2⟩
 | lT k x lo hi mx =>
  simp only[aO.xs,fh] at hx;simp only[aO.bj] at h ⊢;rw[hx.1]
  rcases h with ⟨tk,l,m,n,U,h2,h3,h4,h5,h6⟩ | ⟨a,n,cap,m,hh,U,h2,h3,h4,h5,h6,h7⟩
  .refine .inl ⟨tk,l,m,n,U,h2,h3,?_,?_,?_⟩
   .cases lo with
    | none=>exact h4
    | some y=>simp only at h4 ⊢;rw[hx.2 y (by simp[tZ])];exact h4
   .cases hi with
    | none=>exact h5
    | some y=>simp only at h5 ⊢;rw[hx.2 y (by simp[tZ])];exact h5
   .cases mx with
    | none=>exact⟨h6.1,rfl⟩
    | some y=>simp only at h6 ⊢;rw[hx.2 y (by simp[tZ])];exact⟨h6.1,h6.2.1,rfl⟩
  .refine .inr ⟨a,n,cap,m,hh,U,h2,h3,?_,?_,h6,h7.1,rfl⟩
   .cases lo with
    | none=>exact h4
    | some y=>simp only at h4 ⊢;rw[hx.2 y (by simp[tZ])];exact h4
   .cases hi with
    | none=>exact h5
    | some y=>simp only at h5 ⊢;rw[hx.2 y (by simp[tZ])];exact h5
 | Ai x lo hi =>
  simp only[aO.xs,fh] at hx;simp only[aO.bj] at h ⊢;rw[hx.1];obtain⟨l,m,n,U,h2,h3,h4,h5,h6⟩:=h;refine⟨l,m,n,U,h2,h3,?_,?_,h6.1,rfl⟩
  .cases lo with
   | none=>exact h4
   | some y=>simp only at h4 ⊢;rw[hx.2 y (by simp[tZ])];exact h4
  .cases hi with
   | none=>exact h5
   | some y=>simp only at h5 ⊢;rw[hx.2 y (by simp[tZ])];exact h5
 | ext x i =>
  simp only[aO.xs,fh] at hx;simp only[aO.bj] at h ⊢;rw[hx.1];split at h
  case h_2=>exact h.elim
  rename_i vs e;cases hb:vs[i]? with
  | none=>rw[hb] at h;exact h.elim
  | some u=>rw[hb] at h;exact⟨h.1,rfl⟩
 | ky f first cap =>
  simp only[aO.xs,List.forall_mem_append] at hx;simp only[aO.bj] at h ⊢;rw[CS hx.1,CS hx.2];exact⟨h.1,rfl⟩
 | qP k x =>
  simp only[aO.xs,fh] at hx;simp only[aO.bj] at h ⊢;rw[hx.1];split at h
  .exact⟨h.1,rfl⟩
  .exact h.elim
 | uD x =>
  simp only[aO.xs,fh] at hx;simp only[aO.bj] at h ⊢;rw[hx.1];obtain⟨tk,aG,U,h2⟩:=h;exact⟨tk,aG,U,h2.1,rfl⟩
 | qL z =>
  obtain rfl:=uO rfl;simp only[aO.bj,Exact] at h ⊢;refine⟨h.1,λb hb=>?_⟩;obtain⟨U,h2⟩:=h.2 b hb;obtain rfl:=mk_inj h2;exact⟨U,by simp[aO.bB,cm]⟩
 | gS n x =>
  obtain rfl:=uO rfl;simp only[aO.xs,fh] at hx;simp only[aO.bj,Exact] at h ⊢;rw[hx.1];refine⟨h.1,h.2.1,λb hb=>?_⟩;obtain⟨U,h2⟩:=h.2.2 b hb;obtain rfl:=mk_inj h2;exact⟨U,by simp[aO.bB,cm]⟩
 | own q xs =>
  simp only[aO.bj,aO.xs] at h hx ⊢;rw[CS hx];cases hp:q.pure
  .have he:(aO.own q xs).bB=true:=by simp[aO.bB,hp]
   obtain rfl:=uO he;refine OQ.mono (λu σ' hu=>?_) q _ h;obtain rfl:=mk_inj hu.2;exact⟨hu.1,by rw[aF he];rfl⟩
  .have he:¬((aO.own q xs).bB=ab):=by simp[aO.bB,hp]
   obtain⟨u,U,h2⟩:=OQ.SM hp h;exact h2 _ _ ⟨U.1,by rw[aB he]⟩
end
def Az(D:ah)(k:Nat)(s x:V)(K:V->ah->Prop):Prop :=
 ∃t l m,s = .sl t k l/\(∃t',x = .sl t' k m)/\l.length+m.length<=aQ /\
  match t with
  | .aZ=>K (.sl .no k (l++m)) D\/∃Z,D.aR Z=aa l.length/\K (.sl (.tk Z) k (l++m)) (D.a_ Z (l.length+m.length))
  | .tk Z=>D.aR Z=aa l.length/\K (.sl (.tk Z) k (l++m)) (D.a_ Z (l.length+m.length))
  | .no=>False
def aO.m_(P:Program)(st:St)(K:V->St->Prop):aO->Prop
 | .call f xs=>bT (dw st xs)=ab/\∃v D,ch P f (dw st xs) st.out (λv' σ' => v' = v/\σ' = D)/\K v ⟨st.t,st.aE,D⟩
 | .jj x xs => match ev st x with
  | .fn (.func f) a b=>bT (a++dw st xs++b)=ab/\∃v D,ch P f (a++dw st xs++b) st.out (λv' σ' => v' = v/\σ' = D)/\K v ⟨st.t,st.aE,D⟩
  | _=>False
 | .app k s x=>Az st.out k (ev st s) (ev st x) λv D=>K v ⟨st.t,st.aE,D⟩
 | .n6 s x=>∃a,ev st x = .aG a/\Az st.out 1 (ev st s) (.sl .no 1 (dK a)) λv D=>K v ⟨st.t,st.aE,D⟩
 | .qL _ | .gS _ _=>False
 | .own q xs=>q.pure=ab/\q.bj st.out (λv D=>K v ⟨st.t,st.aE,D⟩) (dw st xs)
 | op=>op.bj P st K
structure TR where
 dst:Option Nat
 val:V
 bB:Bool
 An:dy
def lg(t:List V)(d:Option Nat)(v:V):List V :=
 match d with
 | some n=>t.set n v
 | none=>t
def F8(t:List V)(s:dy)(d:Option Nat)(v:V):(cm t s).put d v=cm (lg t d v) s:=by cases d<;>rfl
def DK:dy:=([],⟨λ_=>aj,λ_=>aj,λ_=>aj⟩)
def AZ(SN:List dy)(g:Bool)(n:Nat)(a v:V):List Nat->Prop
 | []=>True
 | m::ms=>sT (SN.getD m DK) g n a=aa v/\AZ SN g n a v ms
def rI(SN:List dy):List (V × Bool × Nat × V × List Nat)->Prop
 | []=>True
 | (a,g,n,v,ms)::r=>AZ SN g n a v ms/\rI SN r
def R2{SN:List dy}{g:Bool}{n:Nat}{a v:V}:∀{ms:List Nat},AZ SN g n a v ms->∀m∈ms,sT (SN.getD m DK) g n a=aa v
 | [],_,_,h=>by simp at h
 | m :: ms, h, m', h' => by
  rcases lq.1 h' with rfl | h'
  .exact h.1
  .exact R2 h.2 m' h'
def N2(st:St)(ms:List Nat)(v:V):aO->List (V × Bool × Nat × V × List Nat)
 | .load g n x=>[(ev st x,g,n,v,ms)]
 | _=>[]
def cJ(P:Program):List (AO × List Nat)->List dy->List (V × Bool × Nat × V × List Nat)->(St->Prop)->St->Prop
 | [],SN,L,K,st=>rI SN L/\K st
 | (o, ms) :: r, SN, L, K, st =>
  match o.guard with
  | none=>o.op.m_ P st λv aP => cJ P r (if o.op.bB then SN++[(aP.aE,aP.out)] else SN) (N2 st ms v o.op++L) K (aP.put o.dst v)
  | some (g, want) =>
   match ev st (.s g) with
   | .bool b =>
    if b=want then o.op.m_ P st λv aP => cJ P r (if o.op.bB then SN++[(aP.aE,aP.out)] else SN) (N2 st ms v o.op++L) K (aP.put o.dst v)
    else cJ P r (if o.op.bB then SN++[(st.aE,st.out)] else SN) L K (st.put o.dst (.bH []))
   | .bH []=>cJ P r (if o.op.bB then SN++[(st.aE,st.out)] else SN) L K (st.put o.dst (.bH []))
   | _=>False
def Rf(P:Program)(SN:List dy)(o:AO)(ms:List Nat)(t:List V)(s:dy)(r:TR):Prop :=
 r.dst=o.dst/\r.bB=o.op.bB/\∃run:Bool,
  (match o.guard with | none=>run=ab | some (g,want)=>(∃b,t.getD g .any = .bool b/\run=(b == want))\/t.getD g .any = .bH []/\run=ar) /\
  (run=ab->o.op.bj P (cm t s) (Exact t r.val (if o.op.bB then r.An else s))/\∀g n x,o.op = .load g n x->∀m∈ms,sT (SN.getD m DK) g n (ev (cm t s) x)=aa r.val) /\
  (run=ar->r.val = .bH []/\(r.bB=ab->r.An=s))
def yX(P:Program)(SN:List dy):List (AO × List Nat)->List TR->List V->dy->Prop
 | [],[],_,_=>True
 | (o,ms)::l,r::tr,t,s=>Rf P SN o ms t s r/\yX P SN l tr (lg t r.dst r.val) (if r.bB then r.An else s)
 | _,_,_,_=>False
def runT:List TR->List V->List V
 | [],t=>t
 | r::tr,t=>runT tr (lg t r.dst r.val)
def eb:List TR->dy->dy
 | [],s=>s
 | r::tr,s=>eb tr (if r.bB then r.An else s)
def ly:List TR->List dy
 | []=>[]
 | r::tr=>if r.bB then r.An::ly tr else ly tr
section
variable {P:Program}
def auD{op:aO}{t:List V}{K:V->St->Prop}(h:op.m_ P (cm t s) K):∃v s',op.bj P (cm t s) (Exact t v s')/\K v (cm t s')/\(op.bB=ar->s' = s):=by
 have yk:∀{o:Option V},opt o (K2 K (cm t s))->∃v,opt o (K2 (Exact t v s) (cm t s))/\K v (cm t s):=λ{o} h=>by
  cases o with
  | none=>exact h.elim
  | some u=>exact⟨u,⟨rfl,rfl⟩,h⟩
 cases op with
 | mv x=>exact⟨_,s,⟨rfl,rfl⟩,h,λ_=>rfl⟩
 | pick c a b =>
  simp only[aO.m_,aO.bj] at h ⊢;split at h
  .rename_i e;exact⟨_,s,⟨rfl,rfl⟩,h,λ_=>rfl⟩
  .rename_i e;exact⟨_,s,⟨rfl,rfl⟩,h,λ_=>rfl⟩
  .exact h.elim
 | alloc z=>exact⟨_,(s.1++[z],s.2),⟨rfl,rfl⟩,h,λh=>by simp[aO.bB] at h⟩
 | box n x=>exact⟨_,(s.1++[(ev (cm t s) x).cells],s.2),⟨h.1,rfl,rfl⟩,h.2,λh=>by simp[aO.bB] at h⟩
 | vO n x=>exact⟨_,(s.1++[(ev (cm t s) x).cells],s.2),⟨h.1,h.2.1,rfl,rfl⟩,h.2.2,λh=>by simp[aO.bB] at h⟩
 | build z ps=>obtain⟨v,U,h2⟩:=yk h;exact⟨v,s,U,h2,λ_=>rfl⟩
 | ko k xs=>obtain⟨v,U,h2⟩:=yk h;exact⟨v,s,U,h2,λ_=>rfl⟩
 | load g n x=>obtain⟨v,U,h2⟩:=yk h;exact⟨v,s,U,h2,λ_=>rfl⟩
 | store n a x =>
  simp only[aO.m_,aO.bj] at h ⊢;split at h
  case h_2=>exact h.elim
  rename_i aP he;have ht:aP.t=t:=by
   generalize ev (cm t s) a=av at he;generalize ev (cm t s) x=xv at he;cases av with
   | ptr p off =>
    cases p with
    | kT b=>simp[dW] at he
    | aE i =>
     simp only[dW,iV] at he;obtain⟨cs,_,h2⟩:=he;split at h2
     .simp only[bc] at h2;subst h2;rfl
     .simp at h2
    | out b =>
     simp only[dW,iV] at he;obtain⟨cs,_,h2⟩:=he;split at h2
     .simp only[bc] at h2;subst h2;rfl
     .simp at h2
   | _=>simp[dW] at he
  obtain⟨t',l',o'⟩:=aP;simp only at ht;subst ht;exact⟨.any,(l',o'),⟨rfl,rfl⟩,h,λh=>by simp[aO.bB] at h⟩
 | wN x =>
  simp only[aO.m_,aO.bj] at h ⊢;split at h<;>first | exact⟨_,s,⟨rfl,rfl⟩,h,λ_=>rfl⟩ | exact h.elim
 | dU op x y=>obtain⟨v,U,h2⟩:=yk h;exact⟨v,s,U,h2,λ_=>rfl⟩
 | pZ op x y=>obtain⟨v,U,h2⟩:=yk h;exact⟨v,s,U,h2,λ_=>rfl⟩
 | vM neg x y=>obtain⟨v,U,h2⟩:=yk h;exact⟨v,s,U,h2,λ_=>rfl⟩
 | cat x y =>
  obtain⟨a,b,U,h2,h3,h4⟩:=h;exact⟨_,s,⟨a,b,U,h2,h3,rfl,rfl⟩,h4,λ_=>rfl⟩
 | l8 neg n x y=>obtain⟨v,U,h2⟩:=yk h;exact⟨v,s,U,h2,λ_=>rfl⟩
 | sy neg x y =>
  simp only[aO.m_,aO.bj] at h ⊢;split at h
  .exact⟨_,s,⟨rfl,rfl⟩,h,λ_=>rfl⟩
  .exact h.elim
 | not x =>
  simp only[aO.m_,aO.bj] at h ⊢;split at h
  .exact⟨_,s,⟨rfl,rfl⟩,h,λ_=>rfl⟩
  .exact h.elim
 | wJ x =>
  simp only[aO.m_,aO.bj] at h ⊢;split at h
  .exact⟨_,s,⟨rfl,rfl⟩,h,λ_=>rfl⟩
  .exact⟨_,s,⟨rfl,rfl⟩,h,λ_=>rfl⟩
  .exact h.elim
 | wK x =>
  simp only[aO.m_,aO.bj] at h ⊢;split at h
  .exact⟨_,s,⟨rfl,rfl⟩,h,λ_=>rfl⟩
  .exact h.elim
 | qa off x =>
  simp only[aO.m_,aO.bj] at h ⊢;split at h
  .exact⟨_,s,⟨rfl,rfl⟩,h,λ_=>rfl⟩
  .exact⟨_,s,⟨rfl,rfl⟩,h,λ_=>rfl⟩
  .exact h.elim
 | v9 g off n x =>
  simp only[aO.m_,aO.bj] at h ⊢;split at h
  .obtain⟨v,U,h2⟩:=yk h;exact⟨v,s,U,h2,λ_=>rfl⟩
  .exact h.elim
 | tT k x i =>
  simp only[aO.m_,aO.bj] at h ⊢;split at h
  .obtain⟨U,k',n,c,h2,h3,h4,h5⟩:=h;exact⟨_,s,⟨U,k',n,c,h2,h3,h4,rfl,rfl⟩,h5,λ_=>rfl⟩
  .obtain⟨k',n,h2,h3,h4,h5⟩:=h;exact⟨_,s,⟨k',n,h2,h3,h4,rfl,rfl⟩,h5,λ_=>rfl⟩
  .exact h.elim
 | sO m k x i =>
  simp only[aO.m_,aO.bj] at h ⊢;split at h
  .obtain⟨kk,n,U,h2,h3,h4⟩:=h;exact⟨_,s,⟨kk,n,U,h2,h3,rfl,rfl⟩,h4,λ_=>rfl⟩
  .obtain⟨kk,n,U,h2,h3,h4⟩:=h;exact⟨_,s,⟨kk,n,U,h2,h3,rfl,rfl⟩,h4,λ_=>rfl⟩
  .exact h.elim
 | tV x i =>
  simp only[aO.m_,aO.bj] at h ⊢;split at h
  .obtain⟨k',n,c,h2,h3,h4,h5⟩:=h;exact⟨_,s,⟨k',n,c,h2,h3,h4,rfl,rfl⟩,h5,λ_=>rfl⟩
  .exact h.elim
 | call f xs =>
  obtain⟨U,v,D,h2,h3⟩:=h;exact⟨v,(s.1,D),⟨U,h2.mono λu σ' hu=>⟨hu.1,by rw[hu.2];rfl⟩⟩,h3,λh=>by simp[aO.bB] at h⟩
 | jj x xs =>
  simp only[aO.m_,aO.bj] at h ⊢;split at h
  .rename_i e;obtain⟨U,v,D,h2,h3⟩:=h;refine⟨v,(s.1,D),?_,h3,λh=>by simp[aO.bB] at h⟩
   (try rw[e])
   exact⟨U,h2.mono λu σ' hu=>⟨hu.1,by rw[hu.2];rfl⟩⟩
  .exact h.elim
 | app k x y =>
  obtain⟨tk,l,m,U,h2,h3,h4⟩:=h;cases tk with
  | no=>exact h4.elim
  | aZ =>
   rcases h4 with h4 | ⟨Z,h4,h5⟩
   .exact⟨_,s,⟨_,l,m,U,h2,h3,.inr (.inl ⟨rfl,rfl⟩)⟩,h4,λh=>by simp[aO.bB] at h⟩
   .exact⟨_,(s.1,_),⟨_,l,m,U,h2,h3,.inr (.inr ⟨Z,h4,rfl,rfl⟩)⟩,h5,λh=>by simp[aO.bB] at h⟩
  | tk Z=>exact⟨_,(s.1,_),⟨_,l,m,U,h2,h3,h4.1,rfl,rfl⟩,h4.2,λh=>by simp[aO.bB] at h⟩
 | n6 x y =>
  obtain⟨a,h0,tk,l,m,U,h2,h3,h4⟩:=h;cases tk with
  | no=>exact h4.elim
  | aZ =>
   rcases h4 with h4 | ⟨Z,h4,h5⟩
   .exact⟨_,s,⟨a,h0,_,l,m,U,h2,h3,.inr (.inl ⟨rfl,rfl⟩)⟩,h4,λh=>by simp[aO.bB] at h⟩
   .exact⟨_,(s.1,_),⟨a,h0,_,l,m,U,h2,h3,.inr (.inr ⟨Z,h4,rfl,rfl⟩)⟩,h5,λh=>by simp[aO.bB] at h⟩
  | tk Z=>exact⟨_,(s.1,_),⟨a,h0,_,l,m,U,h2,h3,h4.1,rfl,rfl⟩,h4.2,λh=>by simp[aO.bB] at h⟩
 | lT k x lo hi mx =>
  simp only[aO.m_,aO.bj] at h ⊢
  rcases h with ⟨tk,l,m,n,U,h2,h3,h4,h5,h6⟩ | ⟨a,n,cap,m,hh,U,h2,h3,h4,h5,h6,h7⟩
  .cases mx with
   | none=>exact⟨_,s,.inl ⟨tk,l,m,n,U,h2,h3,h4,h5,rfl,rfl⟩,h6,λ_=>rfl⟩
   | some y=>exact⟨_,s,.inl ⟨tk,l,m,n,U,h2,h3,h4,h5,h6.1,rfl,rfl⟩,h6.2,λ_=>rfl⟩
  .exact⟨_,s,.inr ⟨a,n,cap,m,hh,U,h2,h3,h4,h5,h6,rfl,rfl⟩,h7,λ_=>rfl⟩
 | Ai x lo hi =>
  obtain⟨l,m,n,U,h2,h3,h4,h5,h6⟩:=h;exact⟨_,s,⟨l,m,n,U,h2,h3,h4,h5,rfl,rfl⟩,h6,λ_=>rfl⟩
 | ext x i =>
  simp only[aO.m_,aO.bj] at h ⊢;split at h
  .obtain⟨v,U,h2⟩:=yk h;exact⟨v,s,U,h2,λ_=>rfl⟩
  .exact h.elim
 | ky f first cap=>exact⟨_,s,⟨rfl,rfl⟩,h,λ_=>rfl⟩
 | qP k x =>
  simp only[aO.m_,aO.bj] at h ⊢;split at h
  .exact⟨_,s,⟨rfl,rfl⟩,h,λ_=>rfl⟩
  .exact h.elim
 | uD x =>
  obtain⟨tk,aG,U,h2⟩:=h;exact⟨_,s,⟨tk,aG,U,rfl,rfl⟩,h2,λ_=>rfl⟩
 | qL z=>exact h.elim
 | gS n x=>exact h.elim
 | own q xs =>
  obtain⟨hp,h⟩:=h;obtain⟨v,U,h2⟩:=OQ.SM hp h;have hE:(aO.own q xs).bj P (cm t s) (Exact t v s):=h2 s.2 (λu D=>Exact t v s u ⟨t,s.1,D⟩) ⟨rfl,rfl⟩;exact⟨v,s,hE,U,λ_=>rfl⟩
def R3{SN:List dy}:∀{l m:List (V × Bool × Nat × V × List Nat)},rI SN (l++m)↔rI SN l/\rI SN m
 | [],m=>by simp[rI]
 | (a,g,n,v,ms)::l,m=>by simp only[il,rI,R3,KY]
def Ka{K:St->Prop}:∀{l:List (AO × List Nat)} {SN:List dy} {L:List (V × Bool × Nat × V × List Nat)} {t:List V} {s:dy},cJ P l SN L K (cm t s) ->
 ∃tr,yX P (SN++ly tr) l tr t s/\rI (SN++ly tr) L/\K (cm (runT tr t) (eb tr s))
 | [],SN,L,t,s,h=>⟨[],trivial,by simpa [ly] using h.1,h.2⟩
 | (o, ms) :: l, SN, L, t, s, h => by
  have go:o.op.m_ P (cm t s) (λv aP => cJ P l (if o.op.bB then SN++[(aP.aE,aP.out)] else SN) (N2 (cm t s) ms v o.op++L) K (aP.put o.dst v)) ->
   (match o.guard with | none=>True | some (g,want)=>∃b,t.getD g .any = .bool b/\ab=(b == want)) ->
   ∃tr,yX P (SN++ly tr) ((o,ms)::l) tr t s/\rI (SN++ly tr) L/\K (cm (runT tr t) (eb tr s)):=λh hg=>by
   obtain⟨v,s',U,h2,h3⟩:=auD h;rw[F8] at h2;obtain⟨tr,k1,k2,k3⟩:=Ka h2;have dS : (if o.op.bB then s' else s)=s' := by cases he:o.op.bB<;>simp[he] at h3 ⊢;exact h3.symm
   have uN:SN++ly (⟨o.dst,v,o.op.bB,s'⟩::tr)=(if o.op.bB then SN++[s'] else SN)++ly tr:=by
    cases o.op.bB<;>simp[ly]
   have alB : (if o.op.bB then SN++[((cm t s').aE,(cm t s').out)] else SN)=(if o.op.bB then SN++[s'] else SN):=rfl;rw[alB] at k1 k2;rw[R3] at k2;refine⟨⟨o.dst,v,o.op.bB,s'⟩::tr,?_,by rw[uN];exact k2.2,?_⟩
   .rw[uN];refine⟨⟨rfl,rfl,ab,?_,λ_=>⟨by rw[dS];exact U,λg n x hx m hm=>?_⟩,λh=>by simp at h⟩,by simp only[dS];exact k1⟩
    .cases qh:o.guard with
     | none=>rfl
     | some p=>rw[qh] at hg;exact .inl hg
    .rw[hx] at k2
     have:=R2 k2.1.1 m hm
     rw[<-hx] at this;exact this
   .simp only[runT,eb,dS];exact k3
  simp only[cJ] at h;cases qh:o.guard with
  | none=>rw[qh] at h;exact go h (by rw[qh];trivial)
  | some p =>
   obtain⟨g,want⟩:=p;rw[qh] at h;simp only at h;have skip:∀cC : ((∃b,t.getD g .any = .bool b/\ar=(b == want))\/t.getD g .any = .bH []/\ar=ar),cJ P l (if o.op.bB then SN++[((cm t s).aE,(cm t s).out)] else SN) L K ((cm t s).put o.dst (.bH [])) ->
    ∃tr,yX P (SN++ly tr) ((o,ms)::l) tr t s/\rI (SN++ly tr) L/\K (cm (runT tr t) (eb tr s)):=λcC h=>by
    rw[F8] at h;obtain⟨tr,k1,k2,k3⟩:=Ka h;have U9:(if o.op.bB then s else s)=s:=by simp
    have uN:SN++ly (⟨o.dst,.bH [],o.op.bB,s⟩::tr)=(if o.op.bB then SN++[s] else SN)++ly tr:=by
     cases o.op.bB<;>simp[ly]
    refine⟨⟨o.dst,.bH [],o.op.bB,s⟩::tr,?_,by rw[uN];exact k2,?_⟩
    .rw[uN];refine⟨⟨rfl,rfl,ar,by rw[qh];exact cC,λh=>by simp at h,λ_=>⟨rfl,λ_=>rfl⟩⟩,by simp only[U9];exact k1⟩
    .simp only[runT,eb,U9];exact k3
   split at h
   .rename_i b hb;have cC : t.getD g .any = .bool b:=hb;split at h
    .rename_i hw;exact go h (by rw[qh];exact⟨b,cC,by simp[hw]⟩)
    .rename_i hw;exact skip (.inl ⟨b,cC,by simp[hw]⟩) h
   .rename_i hb;exact skip (.inr ⟨hb,rfl⟩) h
   .exact h.elim
end
def cR(S:Nat->Bool):Nat->List TR->List TR
 | _,[]=>[]
 | i,r::tr=>if S i then r::cR S (i+1) tr else cR S (i+1) tr
def cU(S:Nat->Bool):Nat->List TR->Nat
 | _,[]=>0
 | i,r::tr=>(if S i&&r.bB then 1 else 0)+cU S (i+1) tr
def Jy(t:List V)(d:Option Nat)(v:V):(lg t d v).length=t.length:=by cases d<;>simp[lg]
def L3(t:List V)(d:Option Nat)(v:V)(x:Nat):(lg t d v).getD x .any=if d=aa x then(if x<t.length then v else .any) else t.getD x .any:=by
 cases d with
 | none=>simp[lg]
 | some n =>
  simp only[lg,bc]
  by_cases h:n=x
  .subst h;rw[aF rfl]
   by_cases hl:n<t.length
   .rw[aF hl];simp[fW,QV hl]
   .rw[aB hl,fW,xe (by simp;omega)];rfl
  .rw[aB h];simp[fW,D8 h]
def Aj{S S' : Nat->Bool}{x:Nat}:∀{tr:List TR} {i:Nat} {t t' : List V},t.length=t'.length->t.getD x .any=t'.getD x .any ->
 (∀(j:Nat) r,tr[j]?=aa r->r.dst=aa x->S (i+j)=S' (i+j))->(runT (cR S i tr) t).getD x .any=(runT (cR S' i tr) t').getD x .any
 | [],i,t,t',_,h,_=>h
 | r :: tr, i, t, t', hl, h, hS => by
  have xW:∀(j:Nat) r',tr[j]?=aa r' -> r'.dst=aa x->S (i+1+j)=S' (i+1+j):=λj r' hr hd=>by
   have:=hS (j+1) r' (by simpa using hr) hd
   rw[show i+(j+1)=i+1+j from by omega] at this;exact this
  have h0:r.dst=aa x->S i=S' i:=λhd=>by simpa using hS 0 r (by simp) hd
  simp only[cR]
  by_cases hd:r.dst=aa x
  .rw[h0 hd];cases S' i
   .exact Aj hl h xW
   .simp only[cM,runT];refine Aj (by simp[Jy,hl]) ?_ xW;rw[L3,L3,aF hd,aF hd,hl]
  .have e:∀t:List V,(lg t r.dst r.val).getD x .any=t.getD x .any:=λt=>by rw[L3,aB hd]
   cases S i<;>cases S' i<;>simp only[cM,cF,dP,runT]
   .exact Aj hl h xW
   .exact Aj (by simp[Jy,hl]) (by rw[e];exact h) xW
   .exact Aj (by simp[Jy,hl]) (by rw[e];exact h) xW
   .exact Aj (by simp[Jy,hl]) (by rw[e,e];exact h) xW
def asA(t:List V){d d' : Option Nat}(v v' : V)(h:∀n,d=aa n->d' ≠ aa n):lg (lg t d v) d' v' = lg (lg t d' v') d v:=by
 cases d with
 | none=>rfl
 | some n =>
  cases d' with
  | none=>rfl
  | some m =>
   simp only[lg];rw[List.set_comm];intro e;exact h n rfl (by rw[e])
def YC:∀{tr:List TR} {t:List V} {d:Option Nat} {v:V},(∀r∈tr,∀n,d=aa n->r.dst≠aa n)->runT tr (lg t d v)=lg (runT tr t) d v
 | [],_,_,_,_=>rfl
 | r :: tr, t, d, v, h => by
  simp only[fh] at h;simp only[runT];rw[asA t v r.val h.1,YC h.2]
def Py{S:Nat->Bool}:∀{tr:List TR} {i:Nat} {r:TR},r∈cR S i tr->∃j,tr[j]?=aa r/\S (i+j)=ab
 | [],_,_,h=>by simp[cR] at h
 | q :: tr, i, r, h => by
  simp only[cR] at h;split at h
  .rename_i hS
   rcases lq.1 h with rfl | h
   .exact⟨0,by simp,by simpa using hS⟩
   .obtain⟨j,U,h2⟩:=Py h;exact⟨j+1,by simpa using U,by rw[show i+(j+1)=i+1+j from by omega];exact h2⟩
  .obtain⟨j,U,h2⟩:=Py h;exact⟨j+1,by simpa using U,by rw[show i+(j+1)=i+1+j from by omega];exact h2⟩
def add(S:Nat->Bool)(k:Nat):Nat->Bool:=λj=>S j||decide (j=k)
def Y7{S:Nat->Bool}{k:Nat}:∀{tr:List TR} {i:Nat},k<i->cR (add S k) i tr=cR S i tr
 | [],_,_=>rfl
 | r :: tr, i, h => by
  have:add S k i=S i:=by simp[add];intro e;omega
  simp only[cR,this,Y7 (k:=k) (tr:=tr) (i:=i+1) (by omega)]
def Yz{S:Nat->Bool}{k:Nat}{r:TR}:∀{tr:List TR} {i:Nat} {t:List V},i<=k->tr[k - i]?=aa r->S k=ar->(∀(j:Nat) r',tr[j]?=aa r' -> i+j≠k->∀n,r.dst=aa n->r'.dst≠aa n) ->
 runT (cR (add S k) i tr) t=lg (runT (cR S i tr) t) r.dst r.val
 | [],i,t,_,h,_,_=>by simp at h
 | q :: tr, i, t, hik, hr, hS, hd => by
  by_cases he:i=k
  .subst he;simp at hr;subst hr;have U:add S i i=true:=by simp[add]
   simp only[cR,U,cM,hS,dP,cF,runT];rw[Y7 (by omega)];refine YC λr' cL n hn=>?_
   obtain⟨j,U,_⟩:=Py cL;exact hd (j+1) r' (by simpa using U) (by omega) n hn
  .have U:add S k i=S i:=by simp[add,he]
   have cL : tr[k - (i+1)]?=aa r:=by
    rw[show k - i=(k - (i+1))+1 from by omega] at hr;simpa using hr
   have ih:=λt=>Yz (tr:=tr) (i:=i+1) (t:=t) (by omega) cL hS (λj r' hj a9 n hn=>hd (j+1) r' (by simpa using hj) (by omega) n hn)
   simp only[cR,U];cases S i
   .simpa using ih t
   .simpa [runT] using ih _
def Yy{S:Nat->Bool}:∀{tr:List TR} {i:Nat} {s:dy},(∀(j:Nat) r,tr[j]?=aa r->r.bB=ab->S (i+j)=ar)->eb (cR S i tr) s=s/\cU S i tr=0
 | [],_,_,_=>⟨rfl,rfl⟩
 | r :: tr, i, s, h => by
  have ih:=λs=>Yy (S:=S) (tr:=tr) (i:=i+1) (s:=s) λj r' hj he=>by
   have:=h (j+1) r' (by simpa using hj) he
   rw[show i+(j+1)=i+1+j from by omega] at this;exact this
  have h0:r.bB=ab->S i=false:=λhe=>by simpa using h 0 r (by simp) he
  simp only[cR,cU];cases he:r.bB
  .cases S i<;>simp[eb,he,(ih s).1,(ih s).2]
  .rw[h0 he];simp[(ih s).1,(ih s).2]
def Yx{S:Nat->Bool}:∀{tr:List TR} {i:Nat} {s:dy},(∀(j k:Nat) r r',tr[j]?=aa r->tr[k]?=aa r' -> r.bB=ab->r'.bB=ab->j<k->S (i+k)=ab->S (i+j)=ab) ->
 eb (cR S i tr) s=(s::ly tr).getD (cU S i tr) DK
 | [],_,_,_=>by simp[cR,eb,cU]
 | r :: tr, i, s, h => by
  have xW:∀(j k:Nat) r r',tr[j]?=aa r->tr[k]?=aa r' -> r.bB=ab->r'.bB=ab->j<k->S (i+1+k)=ab->S (i+1+j)=true:=λj k q q' U h2 h3 h4 h5 h6=>by
   have:=h (j+1) (k+1) q q' (by simpa using U) (by simpa using h2) h3 h4 (by omega) (by rw[show i+(k+1)=i+1+k from by omega];exact h6)
   rw[show i+(j+1)=i+1+j from by omega] at this;exact this
  have ih:=λs=>Yx (S:=S) (tr:=tr) (i:=i+1) (s:=s) xW
  simp only[cR,cU,ly];cases he:r.bB
  .cases S i<;>simp[eb,he,ih]
  .cases hS:S i
   .obtain⟨U,h2⟩:=Yy (S:=S) (tr:=tr) (i:=i+1) (s:=s) λj r' hj Ig => by
     cases hq:S (i+1+j) with
     | false=>rfl
     | true =>
      have:=h 0 (j+1) r r' (by simp) (by simpa using hj) he Ig (by omega) (by rw[show i+(j+1)=i+1+j from by omega];exact hq)
      simp[hS] at this
    simp[U,h2]
   .simp only[cM,eb,he,ih,Kl];rw[D' 1,List.getD_cons_succ]
def Hr{S S' : Nat->Bool}:∀{tr:List TR} {i:Nat},(∀(j:Nat) r,tr[j]?=aa r->r.bB=ab->S (i+j)=S' (i+j))->cU S i tr=cU S' i tr
 | [],_,_=>rfl
 | r :: tr, i, h => by
  have ih:=Hr (S:=S) (S' := S') (tr:=tr) (i:=i+1) λj r' hj he=>by
   have:=h (j+1) r' (by simpa using hj) he
   rw[show i+(j+1)=i+1+j from by omega] at this;exact this
  have h0:r.bB=ab->S i=S' i:=λhe=>by simpa using h 0 r (by simp) he
  simp only[cU,ih];cases he:r.bB
  .simp
  .rw[h0 he]
def Ll{S S' : Nat->Bool}:∀{tr:List TR} {i:Nat},(∀(j:Nat) r,tr[j]?=aa r->r.bB=ab->S (i+j)=ab->S' (i+j)=ab)->cU S i tr<=cU S' i tr
 | [],_,_=>bY _
 | r :: tr, i, h => by
  have ih:=Ll (S:=S) (S' := S') (tr:=tr) (i:=i+1) λj r' hj he hS=>by
   have:=h (j+1) r' (by simpa using hj) he (by rw[show i+(j+1)=i+1+j from by omega];exact hS)
   rw[show i+(j+1)=i+1+j from by omega] at this;exact this
  have h0:r.bB=ab->S i=ab->S' i=true:=λhe hS=>by simpa using h 0 r (by simp) he (by simpa using hS)
  simp only[cU];cases he:r.bB
  .simpa using ih
  .cases hS:S i
   .simp;omega
   .simp[h0 he hS];exact ih
def Y8{S:Nat->Bool}:∀{tr:List TR} {i:Nat},(∀j,j<tr.length->S (i+j)=ab)->cR S i tr=tr
 | [],_,_=>rfl
 | r :: tr, i, h => by
  have h0:S i=true:=by simpa using h 0 (by simp)
  simp only[cR,h0,cM];rw[Y8 λj hj=>by
   have:=h (j+1) (by simp;omega)
   rw[show i+(j+1)=i+1+j from by omega] at this;exact this]
def eR(k:Nat):Nat->Bool:=λj=>decide (j<k)
def G4{P:Program}{SN:List dy}:∀{l:List (AO × List Nat)} {tr:List TR} {t:List V} {s:dy},yX P SN l tr t s->l.length=tr.length
 | [],[],_,_,_=>rfl
 | [],_::_,_,_,h=>h.elim
 | (o,ms)::_,[],_,_,h=>h.elim
 | (o,ms)::l,r::tr,t,s,h=>by simp[G4 h.2]
def Pz:∀{tr:List TR} {i k:Nat},k<=i->cR (eR k) i tr=[]
 | [],_,_,_=>rfl
 | r :: tr, i, k, h => by
  have:eR k i=false:=by simp[eR];omega
  simp only[cR,this,dP,cF];exact Pz (by omega)
def G5{P:Program}{SN:List dy}{o:AO}{ms:List Nat}{r:TR}:∀{l:List (AO × List Nat)} {tr:List TR} {t:List V} {s:dy} {i k:Nat},yX P SN l tr t s->l[k]?=aa (o,ms)->tr[k]?=aa r ->
 Rf P SN o ms (runT (cR (eR (i+k)) i tr) t) (eb (cR (eR (i+k)) i tr) s) r
 | [],_,_,_,_,_,_,h,_=>by simp at h
 | (_,_)::_,[],_,_,_,_,h,_,_=>h.elim
 | (o', ms') :: l, r' :: tr, t, s, i, k, h, hl, ht => by
  cases k with
  | zero =>
   simp at hl ht;obtain⟨rfl,rfl⟩:=hl;subst ht;rw[Pz (by omega)];exact h.1
  | succ k =>
   have U:eR (i+(k+1)) i=true:=by simp[eR]
   simp only[cR,U,cM,runT,eb];rw[show i+(k+1)=i+1+k from by omega];exact G5 h.2 (by simpa using hl) (by simpa using ht)
def z_(o:AO):List Nat:=o.op.xs.flatMap X.slot++(match o.guard with | some (g,_)=>[g] | none=>[])
structure DI where
 dst:Option Nat
 reads:List Nat
 bB:Bool
 ld:Bool
 ms:List Nat
 mask:Nat
def fF(p:AO × List Nat)(m:Nat):DI:=⟨p.1.dst,z_ p.1,p.1.op.bB,p.1.op.Dl,p.2,m⟩
def Jl(b:List Nat)(o:Oper):Nat:=o.after.toList.foldl (λs e=>if Region.binds .any e then s|||2^e.on|||b.getD e.on 0 else s) 0
def En(i:Nat)(x:DI)(j:Nat)(y:DI):Bool :=
 (match y.dst with
  | some d=>(!(x.reads.contains d)||(i != j&&(x.mask.testBit j||y.mask.testBit i)))&&(i == j||x.dst != aa d)
  | none=>ab)&&(!(decide (i<j)&&x.bB&&y.bB)||y.mask.testBit i)
def CL(p:Nat->DI->Bool)(l:List DI):Nat:=(l.zipIdx.filter λ(x,j)=>x.bB&&p j x).length
def qq(l:List DI)(x:DI):Nat:=CL (λj _=>x.mask.testBit j) l
def zr(l:List DI)(i:Nat):Nat:=CL (λ_ y=>!(y.mask.testBit i)) l
def BW(l:List DI)(i:Nat):Nat:=CL (λj _=>decide (j<i)) l
def R4(l:List DI)(i:Nat)(x:DI):Bool :=
 !x.ld||((bA (zr l i+1 - qq l x)).all λq=>x.ms.contains (qq l x+q)||qq l x+q == BW l i)
def y5(ops:Array Oper)(l:List (AO × List Nat))(b:List Nat):Bool :=
 let d:=mu fF l b
 decide (l.length=ops.size)&&decide (b.length=ops.size) &&
 ((ops.toList.zip b).zipIdx.all λ((o,m),i)=>(o.after.toList.all λe=>!(Region.binds .any e)||decide (e.on<i))&&decide (m=Jl b o)) &&
 (d.zipIdx.all λ(x,i)=>(d.zipIdx.all λ(y,j)=>En i x j y)&&R4 d i x)
def yd:List Oper->List Nat->List Nat
 | [],b=>b
 | o::os,b=>yd os (b++[Jl b o])
def uZ(P:Program)(ops:Array Oper)(o:Oper):Option AO :=
 match zP P o with
 | none=>aj
 | some op =>
  match o.guard with
  | none=>aa ⟨o.dst,op,aj⟩
  | some (j, want) =>
   match (ops[j]?).bind (·.dst) with
   | some g=>aa ⟨o.dst,op,aa (g,want)⟩
   | none=>aj
def BN(P:Program)(ops:Array Oper):List Oper->Option (List AO)
 | []=>aa []
 | o::os=>(uZ P ops o).bind λx=>(BN P ops os).map (x::·)
def I_(P:Program)(ops:Array Oper):Option (List (AO × List Nat)) :=
 match BN P ops ops.toList with
 | none=>aj
 | some l0 =>
  let b:=yd ops.toList []
  let d:=mu fF (l0.map λo=>(o,[])) b
  let l:=(l0.zip d).zipIdx.map λ((o,x),i)=>(o,if o.op.Dl then((bA (zr d i+1 - qq d x)).map (qq d x+·)).filter (· != BW d i) else [])
  if y5 ops l b=ab/\P.follows .mixedOrders=ab then aa l else aj
structure AD(ops:Array Oper)(l:List (AO × List Nat))(b:List Nat):Prop where
 size:l.length=ops.size
 back:∀(i:Nat) o,ops[i]?=aa o->∀e∈o.after,Region.binds .any e=ab->e.on<i
 mask:∀(i:Nat) o,ops[i]?=aa o->∀j,(b.getD i 0).testBit j=ab->∃e∈o.after,Region.binds .any e=ab/\(j=e.on\/(b.getD e.on 0).testBit j=ab)
 slot:∀(i j:Nat) (x y:AO × List Nat),l[i]?=aa x->l[j]?=aa y->∀d,y.1.dst=aa d->d∈z_ x.1->i≠j/\((b.getD i 0).testBit j=ab\/(b.getD j 0).testBit i=ab)
 dst:∀(i j:Nat) (x y:AO × List Nat),l[i]?=aa x->l[j]?=aa y->i≠j->∀d,y.1.dst=aa d->x.1.dst≠aa d
 bB:∀(i j:Nat) (x y:AO × List Nat),l[i]?=aa x->l[j]?=aa y->i<j->x.1.op.bB=ab->y.1.op.bB=ab->(b.getD j 0).testBit i=ab
 load:∀(i:Nat) (x:AO × List Nat),l[i]?=aa x->x.1.op.Dl=ab->∀m,qq (mu fF l b) (fF x (b.getD i 0))<=m->m<=zr (mu fF l b) i->m∈x.2\/m=BW (mu fF l b) i
def arf{b:List Nat}{o:Oper}{j:Nat}(h:(Jl b o).testBit j=ab):∃e∈o.after,Region.binds .any e=ab/\(j=e.on\/(b.getD e.on 0).testBit j=ab):=by
 have key:∀(l:List Edge) (s:Nat),(l.foldl (λs e=>if Region.binds .any e then s|||2^e.on|||b.getD e.on 0 else s) s).testBit j=ab ->
  s.testBit j=ab\/∃e∈l,Region.binds .any e=ab/\(j=e.on\/(b.getD e.on 0).testBit j=ab):=by
  intro l;induction l with
  | nil=>intro s h;exact .inl h
  | cons e l ih =>
   intro s h;rw[yO] at h
   rcases ih _ h with U | ⟨e',U,h2⟩
   .split at U
    .rename_i hb;simp only[Nat.testBit_or,j1,Nat.testBit_two_pow,bQ] at U
     rcases U with(U | U) | U
     .exact .inl U
     .exact .inr ⟨e,by simp,hb,.inl U.symm⟩
     .exact .inr ⟨e,by simp,hb,.inr U⟩
    .exact .inl U
   .exact .inr ⟨e',by simp[U],h2⟩
 rcases key o.after.toList 0 h with U | ⟨e,U,h2⟩
 .simp at U
 .exact⟨e,by simpa using U,h2⟩
variable{i:Nat}
def ax1{l:List (AO × List Nat)}{b:List Nat}(hl:b.length=l.length){x:AO × List Nat}(h:l[i]?=aa x):(mu fF l b)[i]?=aa (fF x (b.getD i 0)):=by
 have aD:=(fy.1 h).1;rw[List.getElem?_zipWith,h]
 have:b[i]?=aa (b.getD i 0):=by
  rw[fW,cK (by omega)];rfl
 rw[this]
variable{ops:Array Oper}
def facts{l:List (AO × List Nat)}{b:List Nat}(h:y5 ops l b=ab):AD ops l b:=by
 unfold y5 at h;simp only[bg,bQ,eM] at h;obtain⟨⟨⟨U,h2⟩,h3⟩,h4⟩:=h;have Vm:∀(i:Nat) o,ops[i]?=aa o->((o,b.getD i 0),i)∈(ops.toList.zip b).zipIdx:=λi o ho=>by
  have aD:=(lU.1 ho).1;rw[KG];rw[KC];refine⟨by simpa using ho,?_⟩;rw[fW,cK (by omega)];rfl
 have hd:∀(i:Nat) x,l[i]?=aa x->(fF x (b.getD i 0),i)∈(mu fF l b).zipIdx:=λi x hx=>by
  rw[KG];exact ax1 (by omega) hx
 have pair:∀(i j:Nat) x y,l[i]?=aa x->l[j]?=aa y->En i (fF x (b.getD i 0)) j (fF y (b.getD j 0))=true:=λi j x y hx hy=>(h4 _ (hd i x hx)).1 _ (hd j y hy)
 refine⟨U,λi o ho e he hb=>?_,λi o ho j hj=>?_,λi j x y hx hy d Bi hr=>?_,λi j x y hx hy a9 d Bi=>?_,λi j x y hx hy aD he1 he2=>?_,λi x hx xT m dR oJ=>?_⟩
 .have:=(h3 _ (Vm i o ho)).1 e (by simpa using he)
  simpa [hb] using this
 .have this:b.getD i 0=Jl b o:=(h3 _ (Vm i o ho)).2;rw[this] at hj;exact arf hj
 .have:=pair i j x y hx hy
  simp only[En,fF,Bi,bg,j1,tm,bne_iff_ne,CD] at this;have hc:(z_ x.1).contains d=true:=by simpa using hr
  rcases this.1.1 with h | ⟨h5,h6⟩
  .rw[hc] at h;simp at h
  .exact⟨h5,h6⟩
 .have:=pair i j x y hx hy
  simp only[En,fF,Bi,bg,j1,tm,bne_iff_ne,CD] at this
  rcases this.1.2 with h | h
  .exact absurd h a9
  .exact h
 .have:=pair i j x y hx hy
  simp only[En,fF,bg,j1,tm,he1,he2,aD,b9,Kl] at this
  rcases this.2 with h | h
  .simp at h
  .exact h
 .have:=(h4 _ (hd i x hx)).2
  simp only[R4,fF,xT,j1,tm,eM,mq,CD] at this
  rcases this with h | h
  .simp at h
  .have:=h (m - qq (mu fF l b) (fF x (b.getD i 0))) (by simp only[fF,xT] at dR ⊢;omega)
   simp only[fF,xT] at this dR;rw[show qq (mu fF l b) ⟨x.1.dst,z_ x.1,x.1.op.bB,ab,x.2,b.getD i 0⟩+(m - qq (mu fF l b) ⟨x.1.dst,z_ x.1,x.1.op.bB,ab,x.2,b.getD i 0⟩)=m from by omega] at this
   rcases this with h | h
   .left;simpa using h
   .exact .inr h
def Ob{P:Program}{ops:Array Oper}:∀{os:List Oper} {l:List AO},BN P ops os=aa l->l.length=os.length/\∀i:Nat,∀o,os[i]?=aa o->∃x,l[i]?=aa x/\uZ P ops o=aa x
 | [],l,h=>by simp only[BN,bc] at h;subst h;exact⟨rfl,λi o h=>by simp at h⟩
 | o :: os, l, h => by
  simp only[BN,iV,dn] at h;obtain⟨x,U,l',h2,rfl⟩:=h;obtain⟨h3,h4⟩:=Ob h2;refine⟨by simp[h3],λi q hq=>?_⟩;cases i with
  | zero=>simp at hq;subst hq;exact⟨x,by simp,U⟩
  | succ i=>simp at hq;obtain⟨y,k1,k2⟩:=h4 i q hq;exact⟨y,by simpa using k1,k2⟩
def aoT{l:List (AO × List Nat)}(h:I_ P ops=aa l):
 ∃b,AD ops l b/\b.length=ops.size/\P.follows .mixedOrders=ab/\∀(i:Nat) o,ops[i]?=aa o->∃x:AO × List Nat,l[i]?=aa x/\uZ P ops o=aa x.1:=by
 unfold I_ at h;cases h0:BN P ops ops.toList with
 | none=>rw[h0] at h;simp at h
 | some l0 =>
 rw[h0] at h;simp only at h;split at h
 case isFalse=>simp at h
 rename_i hc;simp only[bc] at h;subst h;refine⟨_,facts hc.1,?_,hc.2,λi o ho=>?_⟩
 .have:=hc.1
  unfold y5 at this;simp only[bg,bQ] at this;exact this.1.1.2
 .have hlen:=(facts hc.1).size;obtain⟨U,h2⟩:=Ob h0;obtain⟨x,k1,k2⟩:=h2 i o (by simpa using ho);have aD:=(lU.1 ho).1;generalize hL:(l0.zip (mu fF (l0.map λo=>(o,[])) (yd ops.toList [])))=z at hlen ⊢;have hz:i<z.length:=by simp at hlen;omega
  refine⟨_,by rw[uo,QW,cK hz];rfl,?_⟩
  have:z[i].1=x:=by
   have e:z[i]?=aa z[i]:=cK hz;subst hL;rw[KC] at e;rw[k1] at e;exact(vG e.1).symm
  simpa [this] using k2
end Go.Am
