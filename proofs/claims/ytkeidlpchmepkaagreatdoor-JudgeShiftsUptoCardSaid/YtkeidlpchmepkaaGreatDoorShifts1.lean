/-
  Part 1 of the proof of JudgeShiftsUptoCardSaid: a logic over the model, the forms of the functions that the law reaches, and what they compute.
-/
import Derived.WalkKit
import Derived.Orders
import Derived.Below
import Derived.Laws.Append
import Derived.Laws.AppendOwn
import Derived.Laws.Cells
import Derived.Laws.CopyRow
import Derived.Laws.BytesString
import Derived.Laws.Slices
import Derived.Laws.Small
import Derived.Laws.StructEq
import Derived.ChangeKeysEq
set_option linter.unusedVariables false
set_option linter.unusedSimpArgs false
set_option linter.defProp false
set_option linter.unusedSectionVars false

namespace Go.Am
def ah := @if_neg
def aw := @if_pos
def aA := @decide_eq_false
def aC := @decide_eq_true
def aD := @List.length_map
def aG := @Option.some.injEq
def bm := @Bool.and_eq_true
def bt := @Nat.le_refl
def bz := @List.length_append
def bL := @List.map_cons
def bQ := @decide_true
def cc := @List.getElem?_eq_getElem
def cf := @Option.map_eq_some_iff
def cq := @decide_eq_true_eq
def cF := @List.length_cons
def cX := @List.map_nil
def c7 := @List.forall_mem_cons
def dj := @List.getElem?_eq_some_iff
def dk := @List.length_nil
def dv := @List.take_length
def dD := @List.append_nil
def dP := @if_true
def eh := @List.append_assoc
def ey := @if_false
def eC := @and_true
def eP := @List.cons.injEq
def eT := @decide_false
def eZ := @List.getElem_mem
def fw := @List.map_append
def fF := @Array.getElem?_eq_getElem
def fG := @Array.getElem?_eq_some_iff
def fH := @Option.bind_eq_some_iff
def fO := @Bool.false_eq_true
def gb := @Nat.add_mul
def gh := @Nat.zero_add
def gj := @congrArg
def gN := @List.cons_append
def gO := @List.length_take
def gY := @List.mem_append
def iv := @Int.toNat_natCast
def iQ := @List.flatten_cons
def iR := @List.mem_cons
def iS := @List.nil_append
def jn := @List.length_singleton
def jS := @Bool.or_eq_true
def jU := @List.drop_eq_getElem_cons
def jV := @List.take_succ_eq_append_getElem
def jW := @Prod.mk.injEq
def la := @List.all_eq_true
def lb := @List.mem_singleton
def lJ := @Bool.true_and
def lM := @Option.some.inj
def mw := @Array.getD_eq_getD_getElem?
def my := @List.take_append_drop
def mz := @Nat.lt_or_ge
def mA := @Nat.mul_le_mul_right
def nj := @List.eq_nil_of_length_eq_zero
def nk := @List.getElem?_append_left
def nn := @List.take_succ_cons
def nB := @decide_eq_decide
def od := @List.flatten_append
def oe := @List.sum_cons
def og := @Nat.mul_one
def o7 := @true_and
def pd := @List.sum_nil
def pe := @Nat.zero_le
def pf := @Option.map_some
def qd := @List.flatMap_cons
def qe := @List.foldl_cons
def qf := @List.getElem?_drop
def qg := @List.getElem?_map
def qh := @List.mem_map
def qi := @List.range_eq_range'
def qj := @List.range_succ
def qk := @Nat.add_zero
def ql := @Nat.lt_of_lt_of_le
def qm := @Nat.min_eq_left
def rq := @Bool.and_true
def rr := @Function.comp_def
def ru := @List.mem_of_mem_take
def ry := @List.replicate_succ
def rz := @Option.bind_some
def sK := @Bool.decide_and
def sO := @Int.natCast_zero
def sR := @List.drop_drop
def sS := @Nat.le_trans
def sT := @Nat.one_mul
def uK := @Bool.not_eq_true'
def uO := @List.all_cons
def uP := @List.flatMap_append
def uQ := @List.getElem?_append_right
def uR := @List.getElem?_eq_none
def uS := @List.getElem?_take_of_lt
def uT := @List.length_eq_zero_iff
def uU := @List.map_map
def uV := @List.mem_range
def wI := @Array.getElem?_setIfInBounds_ne
def wJ := @Array.length_toList
def wK := @BitVec.getLsbD_and
def wL := @Bool.false_or
def wM := @Bool.or_eq_false_iff
def wP := @List.mem_of_getElem?
def wQ := @List.range'_succ
def wR := @List.take_of_length_le
def wS := @Nat.add_comm
def wU := @Option.isNone_iff_eq_none
def wV := @Option.isNone_none
def wW := @Option.isSome_none
def xq := @beq_iff_eq
def xC := @decide_eq_false_iff_not
def y8 := @Array.ext'
def y9 := @BitVec.getLsbD_of_ge
def za := @List.any_eq_true
def zb := @List.drop_succ_cons
def zc := @List.find?_append
def zd := @List.foldl_append
def zf := @List.getElem?_set_ne
def zg := @List.getElem_cons_succ
def zh := @Nat.lt_trichotomy
def zi := @Option.isNone_some
def zE := @dif_pos
def BL := @Bool.and_eq_false_iff
def BM := @Bool.eq_iff_iff
def BP := @List.drop_length
def BQ := @List.drop_of_length_le
def BR := @List.drop_zero
def BS := @List.find?_eq_none
def BT := @List.find?_eq_some_iff_append
def BU := @List.getElem?_cons_zero
def BV := @List.getElem?_take
def BW := @List.getLast?_concat
def BX := @List.length_drop
def BZ := @List.map_singleton
def B0 := @List.mem_of_mem_drop
def B1 := @List.mem_zipIdx_iff_getElem?
def B2 := @Nat.add_assoc
def B3 := @Nat.le_zero
def B4 := @Nat.succ_mul
def B5 := @Option.getD_some
def B6 := @Option.isSome_some
def B7 := @Option.map_none
def EU := @Array.getElem?_extract
def EV := @Array.toList_setIfInBounds
def EW := @Bool.and_self
def EX := @Bool.false_and
def E8 := @Int.eq_ofNat_of_zero_le
def Fb := @List.all_append
def Fc := @List.all_eq_false
def Fe := @List.any_eq_false
def Ff := @List.dropLast_concat
def Fg := @List.drop_take
def Fh := @List.ext_getElem
def Fi := @List.filterMap_cons
def Fj := @List.getElem?_range
def Fk := @List.getElem?_zip_eq_some
def Fl := @List.length_replicate
def Fm := @List.map_congr_left
def Fo := @List.mem_iff_getElem
def Fp := @List.singleton_append
def Fq := @List.take_append_of_le_length
def Ft := @Nat.eq_zero_or_pos
def Fu := @Nat.le_of_lt
def Fv := @Nat.lt_succ_self
def Fw := @Nat.sub_self
def FC := @and_assoc
def IM := @not_true_eq_false
def IW := @of_decide_eq_true
def KE := @Array.getElem?_toList
def KF := @Array.mem_of_getElem?
def KG := @Bool.not_eq_true
def KK := @Int.ofNat_eq_natCast
def KL := @List.all_nil
def KM := @List.count_pos_iff
def KN := @List.drop_append_of_le_length
def KO := @List.drop_eq_nil_of_le
def KP := @List.eq_nil_or_concat
def KQ := @List.ext_getElem?
def KR := @List.filter_cons
def KS := @List.flatten_nil
def KT := @List.getElem?_set_self
def KU := @List.getElem?_zipIdx
def KV := @List.getElem_map
def KW := @List.mem_cons_of_mem
def KX := @List.mem_filterMap
def KY := @List.mem_of_find?_eq_some
def KZ := @List.nodup_cons
def K0 := @List.range'_append
def K1 := @List.size_toArray
def K3 := @List.take_zero
def K4 := @Nat.add_sub_cancel_left
def K5 := @Nat.min_eq_right
def K6 := @Nat.mod_eq_of_lt
def K7 := @Nat.mul_le_mul
def K8 := @Option.isSome_iff_exists
def Lk := @UInt8.toNat_inj
def SZ := @not_false_eq_true
def VY := @Array.getElem?_setIfInBounds
def V0 := @BitVec.toNat_shiftLeft
def V2 := @List.append_inj_right'
def V3 := @List.filter_eq_nil_iff
def V4 := @List.getElem?_replicate
def V5 := @List.getElem?_toArray
def V6 := @List.getElem_cons_zero
def V7 := @List.mem_iff_getElem?
def V8 := @List.perm_append_singleton
def V9 := @List.set_getElem_self
def V_ := @List.takeWhile_sublist
def V' := @Nat.lt_succ_iff_lt_or_eq
def Wa := @Nat.testBit_two_pow_sub_one
end Go.Am
namespace Go.Am
inductive Pl where
  | loc (i:Nat)
  | out (b:Nat)
  | iB (b:Nat)
inductive Tk where
  | no
  | full
  | tk (t:Nat)
inductive V where
  | any
  | bool (b:Bool)
  | int (k:IntKind) (n:Int)
  | str (s:List UInt8)
  | kS
  | ptr (p:Pl) (off:Nat)
  | elt (cs:List V) (off:Nat)
  | sl (t:Tk) (k:Nat) (l:List (List V))
  | agg (cs:List V)
  | aT (cs:List V)
  | fn (f:Fn) (first cap:List V)
  | raw (v:Value)
inductive dm where
  | const
  | jZ
  | fY (i:Nat)
  | mb
  | eY (t c:Nat)
def dm.fp:dm→Nat→Prop
  | .const,_=>True
  | .eY _ c,o=>o<c
  | _,_=>False
structure Env where
  w:World
  role:Nat→dm
  loc:Nat→Option Nat
  aB:Nat→Option Nat
def Env.nl (E:Env):Env:={E with loc:=fun _=>none}
@[simp] theorem Env.SS (E:Env):E.nl.w=E.w:=rfl
@[simp] theorem Env.SR (E:Env):E.nl.role=E.role:=rfl
@[simp] theorem Env.aqw (E:Env):E.nl.aB=E.aB:=rfl
@[simp] theorem Env.aqv (E:Env) (i:Nat):E.nl.loc i=none:=rfl
@[simp] theorem Env.ai6 (E:Env):E.nl.nl=E.nl:=rfl
def qo (E:Env) (k n:Nat) (a:Option Addr) (cap:Nat):Tk→Prop
  | .no=>True
  | .full=>cap=n
  | .tk t=>∃m,E.aB t=some m∧n≤m∧(n=m→cap=n∨∃b cs e,a=some ⟨b,0,none⟩∧E.role b = .eY t (n*k)∧E.w.heap[b]?=some (.cells cs e (0,0))∧cs.size=cap*k)
mutual
def R:Env→V→Value→Prop
  | _,.any,_=>True
  | _,.bool b,v=>v = .bool b
  | _,.int k n,v=>v = .int k n
  | _,.str s,v=>v = .string ⟨s.toArray⟩
  | _,.kS,v=>v = .pointer none
  | E,.ptr (.loc i) off,v=>∃b,E.loc i=some b∧v = .pointer (some ⟨b,off,none⟩)
  | _,.ptr (.out b) off,v=>v = .pointer (some ⟨b,off,none⟩)
  | _,.ptr (.iB b) off,v=>v = .pointer (some ⟨b,off,none⟩)
  | E,.elt cs off,v=>∃b o,v = .pointer (some ⟨b,o+off,none⟩)∧cJ E.nl cs b o
  | E,.sl t k l,v=>∃a cap,v = .slice a l.length cap∧l.length≤cap∧(l=[]∨∃b o,a=some ⟨b,o,none⟩∧dE E.nl k l b o)∧qo E k l.length a cap t
  | E,.agg cs,v=>∃vs,v = .agg vs∧RL E cs vs.toList
  | E,.aT cs,v=>∃vs,v = .tuple vs∧RL E cs vs.toList
  | E,.fn f first cap,v=>∃fs cs,v = .func f fs cs∧RL E first fs.toList∧RL E cap cs.toList
  | _,.raw u,v=>v=u
def cJ:Env→List V→Nat→Nat→Prop
  | _,[],_,_=>True
  | E,x::xs,b,o=>(∃c,E.w.cell? ⟨b,o,none⟩=some c∧(E.role b).fp o∧c.oneCell' = true∧R E x c)∧cJ E xs b (o+1)
def dE:Env→Nat→List (List V)→Nat→Nat→Prop
  | _,_,[],_,_=>True
  | E,k,x::xs,b,o=>x.length=k∧cJ E x b o∧dE E k xs b (o+k)
def RL:Env→List V→List Value→Prop
  | _,[],[]=>True
  | E,x::xs,v::vs=>R E x v∧RL E xs vs
  | _,_,_=>False
end
structure Env.le (E E' : Env):Prop where
  cell:∀b o c,(E.role b).fp o→E.w.cell? ⟨b,o,none⟩=some c→(E'.role b).fp o∧E'.w.cell? ⟨b,o,none⟩=some c
  loc:∀i b,E.loc i=some b→E'.loc i=some b
  tok:∀t n,E.aB t=some n→∃n',E'.aB t=some n' ∧ n≤n' ∧ (n' = n→∀b c,E.role b = .eY t c →
    E'.role b = .eY t c∧∀cs e,E.w.heap[b]?=some (.cells cs e (0,0))→∃cs',E'.w.heap[b]?=some (.cells cs' e (0,0))∧cs'.size=cs.size)
theorem Env.le.nl {E E' : Env} (h:E.le E'):E.nl.le E'.nl:=⟨h.cell,fun _ _ h=>by simp at h,h.tok⟩
theorem Env.le.refl (E:Env):E.le E:=⟨fun _ _ _ h h' => ⟨h,h'⟩,fun _ _ h=>h,fun _ n h=>⟨n,h,bt _,fun _ _ _ hr=>⟨hr,fun cs _ hc=>⟨cs,hc,rfl⟩⟩⟩⟩
theorem Env.le.trans {E F G:Env} (h:E.le F) (k:F.le G):E.le G:=by
  refine⟨fun b o c hc hv=>?_,fun i b hb=>k.loc i b (h.loc i b hb),fun t n hn=>?_⟩
  · obtain⟨h1,h2⟩:=h.cell b o c hc hv;exact k.cell b o c h1 h2
  · obtain⟨n',h1,h2,h3⟩:=h.tok t n hn;obtain⟨SI,k1,k2,k3⟩:=k.tok t n' h1;refine⟨SI,k1,sS h2 k2,fun he b c hr=>?_⟩;have e1:n' = n:=by omega
    have e2:SI = n' := by omega
    obtain⟨r1,r2⟩:=h3 e1 b c hr;obtain⟨s1,s2⟩:=k3 e2 b c r1;refine⟨s1,fun cs e hcs=>?_⟩;obtain⟨cs',q1,q2⟩:=r2 cs e hcs;obtain⟨Zf,q3,q4⟩:=s2 cs' e q1;exact⟨Zf,q3,q4.trans q2⟩
theorem qo.mono {E E' : Env} (h:E.le E') {k n:Nat} {a:Option Addr} {cap:Nat} {t:Tk} (ht:qo E k n a cap t):qo E' k n a cap t:=by
  cases t with
  | no=>trivial
  | full=>exact ht
  | tk t =>
    obtain⟨m,h1,h2,h3⟩:=ht;obtain⟨m',k1,k2,k3⟩:=h.tok t m h1;refine⟨m',k1,sS h2 k2,fun he=>?_⟩;have e1:n=m:=by omega
    have e2:m' = m:=by omega
    rcases h3 e1 with h4 | ⟨b,cs,e,ha,hr,hc,hs⟩
    · exact .inl h4
    · obtain⟨r1,r2⟩:=k3 e2 b _ hr;obtain⟨cs',r3,r4⟩:=r2 cs e hc;exact .inr ⟨b,cs',e,ha,r1,r3,r4.trans hs⟩
mutual
theorem R.mono:∀(x:V) {E E' : Env} (_:E.le E') {v:Value},R E x v→R E' x v
  | .any,_,_,_,_,_=>by simp only[R]
  | .bool _,_,_,_,_,hr=>by simp only[R] at hr ⊢;exact hr
  | .int _ _,_,_,_,_,hr=>by simp only[R] at hr ⊢;exact hr
  | .str _,_,_,_,_,hr=>by simp only[R] at hr ⊢;exact hr
  | .kS,_,_,_,_,hr=>by simp only[R] at hr ⊢;exact hr
  | .ptr (.loc i) _, _, _, h, _, hr => by
    simp only[R] at hr ⊢;obtain⟨b,h1,h2⟩:=hr;exact⟨b,h.loc i b h1,h2⟩
  | .ptr (.out _) _,_,_,_,_,hr=>by simp only[R] at hr ⊢;exact hr
  | .ptr (.iB _) _,_,_,_,_,hr=>by simp only[R] at hr ⊢;exact hr
  | .elt cs _, _, _, h, _, hr => by
    simp only[R] at hr ⊢;obtain⟨b,o,h1,h2⟩:=hr;exact⟨b,o,h1,cJ.mono cs h.nl h2⟩
  | .sl t k l, _, _, h, _, hr => by
    simp only[R] at hr ⊢;obtain⟨a,cap,h1,h2,h3,h4⟩:=hr;refine⟨a,cap,h1,h2,?_,h4.mono h⟩
    rcases h3 with h3 | ⟨b,o,h3,h5⟩
    · exact .inl h3
    · exact .inr ⟨b,o,h3,dE.mono l h.nl h5⟩
  | .agg cs, _, _, h, _, hr => by
    simp only[R] at hr ⊢;obtain⟨vs,h1,h2⟩:=hr;exact⟨vs,h1,RL.mono cs h h2⟩
  | .aT cs, _, _, h, _, hr => by
    simp only[R] at hr ⊢;obtain⟨vs,h1,h2⟩:=hr;exact⟨vs,h1,RL.mono cs h h2⟩
  | .fn _ first cap, _, _, h, _, hr => by
    simp only[R] at hr ⊢;obtain⟨fs,cs,h1,h2,h3⟩:=hr;exact⟨fs,cs,h1,RL.mono first h h2,RL.mono cap h h3⟩
  | .raw _,_,_,_,_,hr=>by simp only[R] at hr ⊢;exact hr
theorem cJ.mono:∀(l:List V) {E E' : Env} (_:E.le E') {b o:Nat},cJ E l b o→cJ E' l b o
  | [],_,_,_,_,_,_=>by simp only[cJ]
  | x :: xs, _, _, h, b, o, hr => by
    simp only[cJ] at hr ⊢;obtain⟨⟨c,h1,h2,h5,h3⟩,h4⟩:=hr;obtain⟨k1,k2⟩:=h.cell b o c h2 h1;exact⟨⟨c,k2,k1,h5,R.mono x h h3⟩,cJ.mono xs h h4⟩
theorem dE.mono:∀(l:List (List V)) {E E' : Env} (_:E.le E') {k b o:Nat},dE E k l b o→dE E' k l b o
  | [],_,_,_,_,_,_,_=>by simp only[dE]
  | x :: xs, _, _, h, _, _, _, hr => by
    simp only[dE] at hr ⊢;obtain⟨h1,h2,h3⟩:=hr;exact⟨h1,cJ.mono x h h2,dE.mono xs h h3⟩
theorem RL.mono:∀(l:List V) {E E' : Env} (_:E.le E') {vs:List Value},RL E l vs→RL E' l vs
  | [],_,_,_,[],_=>by simp only[RL]
  | [],_,_,_,_::_,hr=>by simp only[RL] at hr
  | _::_,_,_,_,[],hr=>by simp only[RL] at hr
  | x :: xs, _, _, h, v :: vs, hr => by
    simp only[RL] at hr ⊢;exact⟨R.mono x h hr.1,RL.mono xs h hr.2⟩
end
structure ab where
  box:Nat→Option (List V)
  aB:Nat→Option Nat
  bH:Nat→Option (List V)
structure St where
  t:List V
  loc:List (List V)
  out:ab
def gx (E:Env) (b:Nat) (cs:List V):Prop :=
  ∃c e,E.w.heap[b]?=some (.cells c e (0,0))∧cs.length≤c.size∧∀(j:Nat) x,cs[j]?=some x→∃v,c[j]?=some v∧R E x v
structure Env.ok (E:Env) (σ:ab):Prop where
  box:∀b cs,σ.box b=some cs→E.role b = .mb∧gx E.nl b cs
  aB:∀t n,σ.aB t=some n→E.aB t=some n
  fresh:∀b,E.w.heap.size≤b→E.role b = .const
  nt:∃N,∀t,N≤t→E.aB t=none
  bH:∀b cs,σ.bH b=some cs→cJ E.nl cs b 0
structure Env.bW (E:Env) (ls:List (List V)):Prop where
  box:∀i cs,ls[i]?=some cs→∃b,E.loc i=some b∧E.role b = .fY i∧gx E b cs
  none:∀i,ls.length≤i→E.loc i=none
theorem aeP (w:World) (c:Array Value) (t:TypeId) (a:Addr):(w.alloc (.cells c t)).frozen? a=w.frozen? a:=by
  by_cases h:a.block=w.heap.size
  · have e1:(w.alloc (.cells c t)).heap[a.block]?=some (.cells c t):=by rw[h];exact heap_alloc_new w _
    have e2:w.heap[a.block]?=none:=by rw[h];simp
    simp[World.frozen?,e1,e2]
  · by_cases h2:a.block<w.heap.size
    · simp only[World.frozen?,heap_alloc_old w (.cells c t) h2]
    · have e2:w.heap[a.block]?=none:=by simp;omega
      have e1:(w.alloc (.cells c t)).heap[a.block]?=none:=by simp;omega
      simp only[World.frozen?,e1,e2]
theorem zQ {w:World} {b:Nat} {c new:Array Value} {e:TypeId} (hb:w.heap[b]?=some (.cells c e (0,0))) (a:Addr):(w.setRow b new).frozen? a=w.frozen? a:=by
  by_cases h:a.block=b
  · have e1:=setRow_heap w b c new e _ hb;rw[←h] at hb e1;simp only[World.frozen?,h] at hb e1 ⊢;simp only[e1,hb]
  · simp only[World.frozen?,setRow_other w b a.block new h]
structure Fr (E E' : Env):Prop where
  os:E'.w.os=E.w.os
  output:E'.w.output=E.w.output
  tape:E'.w.tape=E.w.tape
  size:E.w.heap.size≤E'.w.heap.size
  ew:∀a,E'.w.frozen? a=E.w.frozen? a
  cell:∀b o c,(E.role b).fp o→E.w.cell? ⟨b,o,none⟩=some c→(E'.role b).fp o∧E'.w.cell? ⟨b,o,none⟩=some c
  tok:∀t n,E.aB t=some n→∃n',E'.aB t=some n' ∧ n≤n' ∧ (n' = n→∀b c,E.role b = .eY t c →
    E'.role b = .eY t c∧∀cs e,E.w.heap[b]?=some (.cells cs e (0,0))→∃cs',E'.w.heap[b]?=some (.cells cs' e (0,0))∧cs'.size=cs.size)
  same:∀b,b<E.w.heap.size→E.role b = .const∨E.role b = .jZ→E'.w.heap[b]?=E.w.heap[b]?∧E'.role b=E.role b
  zq:∀b,b<E.w.heap.size→E'.role b = .mb→E.role b = .mb∨∃j,E.role b = .fY j
  zr:∀b t c,b<E.w.heap.size→E'.role b = .eY t c→∃c0,E.role b = .eY t c0
  xn:∀b i,b<E.w.heap.size→E'.role b = .fY i→∃j,E.role b = .fY j
  shape:∀(b:Nat) (c:Array Value) (e:TypeId),E.w.heap[b]?=some (.cells c e (0,0))→∃c' : Array Value,E'.w.heap[b]?=some (.cells c' e (0,0))∧c'.size=c.size
theorem Fr.le {E E' : Env} (h:Fr E E') (hl:∀i b,E.loc i=some b→E'.loc i=some b):E.le E' := ⟨h.cell,hl,h.tok⟩
theorem Fr.nl {E E' : Env} (h:Fr E E'):E.nl.le E'.nl:=⟨h.cell,fun _ _ h=>by simp at h,h.tok⟩
theorem Fr.refl (E:Env):Fr E E :=
  ⟨rfl,rfl,rfl,bt _,fun _=>rfl,(Env.le.refl E).cell,(Env.le.refl E).tok,fun _ _ _=>⟨rfl,rfl⟩,fun _ _ h=>.inl h,fun _ _ c _ h=>⟨c,h⟩,fun _ i _ h=>⟨i,h⟩,fun _ c _ h=>⟨c,h,rfl⟩⟩
theorem Fr.trans {E F G:Env} (h:Fr E F) (k:Fr F G):Fr E G:=by
  refine⟨k.os.trans h.os,k.output.trans h.output,k.tape.trans h.tape,sS h.size k.size,fun a=>(k.ew a).trans (h.ew a),?_,?_,?_,?_,?_,?_,?_⟩
  · intro b o c hc hv;obtain⟨h1,h2⟩:=h.cell b o c hc hv;exact k.cell b o c h1 h2
  · have h' : Env.le {E with loc:=fun _=>none} {F with loc:=fun _=>none}:=⟨h.cell,fun _ _ h=>h,h.tok⟩;have k' : Env.le {F with loc:=fun _=>none} {G with loc:=fun _=>none}:=⟨k.cell,fun _ _ h=>h,k.tok⟩;exact(h'.trans k').tok
  · intro b hb hr;obtain⟨h1,h2⟩:=h.same b hb hr;obtain⟨k1,k2⟩:=k.same b (ql hb h.size) (by rw[h2];exact hr);exact⟨k1.trans h1,k2.trans h2⟩
  · intro b hb hr
    rcases k.zq b (ql hb h.size) hr with h1 | ⟨j,hj⟩
    · exact h.zq b hb h1
    · exact .inr (h.xn b j hb hj)
  · intro b t c hb hr;obtain⟨c0,h0⟩:=k.zr b t c (ql hb h.size) hr;exact h.zr b t c0 hb h0
  · intro b i hb hr;obtain⟨j,hj⟩:=k.xn b i (ql hb h.size) hr;exact h.xn b j hb hj
  · intro b c e hb;obtain⟨c1,h1,h2⟩:=h.shape b c e hb;obtain⟨c2,k1,k2⟩:=k.shape b c1 e h1;exact⟨c2,k1,k2.trans h2⟩
structure a7 (E:Env) (st:St) (a:Act):Prop where
  ok:E.ok st.out
  bW:E.bW st.loc
  defers:a.defers=[]
  slot:RL E st.t a.tmps.toList
def fL (P:Program) (c:Code) (Q:Exit→St→Prop) (st:St):Prop :=
  ∀E a,a7 E st a→c.wp P (fun e a' w' => ∃E' al,E'.w=w' ∧ a7 E' al a' ∧ Fr E E' ∧ Q e al) a E.w
def KI (P:Program) (f:FuncId):Prop:=∀args w,(callFunc f args).run P w = .ok (.enter f args) w
def ak (P:Program) (f:FuncId) (args:List V) (σ:ab) (R' : V→ab→Prop):Prop :=
  KI P f∧∀(E:Env) (vs:Array Value),(∀i,E.loc i=none)→E.ok σ→RL E args vs.toList →
    Calls P f vs E.w fun e w' => ∃v x E' σ',e = .returned x∧E'.w=w' ∧ (∀i,E'.loc i=none)∧E'.ok σ' ∧ R E' v x∧Fr E E' ∧ R' v σ'
theorem ak.mono {P:Program} {f:FuncId} {args:List V} {σ:ab} {Lg Lh:V→ab→Prop} (h:ak P f args σ Lg)
    (hr:∀v σ',Lg v σ' → Lh v σ'):ak P f args σ Lh :=
  ⟨h.1,fun E vs h1 h2 h3=>(h.2 E vs h1 h2 h3).mono fun _ _ ⟨v,x,E',σ',a,b,c,d,e,f,g⟩=>⟨v,x,E',σ',a,b,c,d,e,f,hr _ _ g⟩⟩
theorem Ji {P:Program} {c:Code} {Q Q' : Exit→St→Prop} {st:St} (h:fL P c Q st) (hq:∀e st,Q e st→Q' e st):fL P c Q' st :=
  fun E a hs=>wp_mono (h E a hs) fun _ _ _ ⟨E',al,h1,h2,h3,h4⟩=>⟨E',al,h1,h2,h3,hq _ _ h4⟩
def Wf (P:Program) (c:Code) (Q:Exit→St→Prop):Exit→St→Prop
  | .normal,st=>fL P c Q st
  | e,st=>Q e st
theorem alC {P:Program} {x y:Code} {Q:Exit→St→Prop} {st:St} (h:fL P x (Wf P y Q) st):fL P (.seq x y) Q st:=by
  intro E a hs;refine wp_seq (wp_mono (h E a hs) ?_);rintro e a' w' ⟨E',al,rfl,h2,h3,h4⟩;cases e with
  | normal=>exact wp_mono (h4 E' a' h2) fun _ _ _ ⟨kb,Bk,k1,k2,k3,k4⟩=>⟨kb,Bk,k1,k2,h3.trans k3,k4⟩
  | exit id=>exact⟨E',al,rfl,h2,h3,h4⟩
  | goto l=>exact⟨E',al,rfl,h2,h3,h4⟩
  | ret=>exact⟨E',al,rfl,h2,h3,h4⟩
  | panic c=>exact⟨E',al,rfl,h2,h3,h4⟩
  | outgrown=>exact⟨E',al,rfl,h2,h3,h4⟩
theorem alD {P:Program} {Q:Exit→St→Prop} {st:St} (h:Q .normal st):fL P .skip Q st :=
  fun E _ hs=>wp_skip ⟨E,st,rfl,hs,Fr.refl E,h⟩
theorem alw {P:Program} {Q:Exit→St→Prop} {st:St} {id:Nat} (h:Q (.exit id) st):fL P (.exit id) Q st :=
  fun E _ hs=>wp_exit ⟨E,st,rfl,hs,Fr.refl E,h⟩
theorem alA {P:Program} {Q:Exit→St→Prop} {st:St} (h:Q .ret st):fL P .ret Q st :=
  fun E _ hs=>wp_ret ⟨E,st,rfl,hs,Fr.refl E,h⟩
theorem alx {P:Program} {Q:Exit→St→Prop} {st:St} {l:Nat} (h:Q .normal st):fL P (.label l) Q st :=
  fun E _ hs=>wp_label ⟨E,st,rfl,hs,Fr.refl E,h⟩
def oc (id:Nat) (Q:Exit→St→Prop):Exit→St→Prop
  | .exit vL,st=>if vL = id then Q .normal st else Q (.exit vL) st
  | e,st=>Q e st
theorem alu {P:Program} {c:Code} {id:Nat} {Q:Exit→St→Prop} {st:St} (h:fL P c (oc id Q) st):fL P (.block id c) Q st:=by
  intro E a hs;refine wp_block (wp_mono (h E a hs) ?_);rintro e a' w' ⟨E',al,rfl,h2,h3,h4⟩;cases e with
  | exit vL =>
    simp only[oc] at h4;simp only[Exit.inBlock];split
    · rename_i h5;rw[aw h5] at h4;exact⟨E',al,rfl,h2,h3,h4⟩
    · rename_i h5;rw[ah h5] at h4;exact⟨E',al,rfl,h2,h3,h4⟩
  | normal=>exact⟨E',al,rfl,h2,h3,h4⟩
  | goto l=>exact⟨E',al,rfl,h2,h3,h4⟩
  | ret=>exact⟨E',al,rfl,h2,h3,h4⟩
  | panic c=>exact⟨E',al,rfl,h2,h3,h4⟩
  | outgrown=>exact⟨E',al,rfl,h2,h3,h4⟩
theorem B' {E:Env}:∀{l:List V} {vs:List Value},RL E l vs→∀(n:Nat) (u:Value),R E (l.getD n .any) (vs.getD n u)
  | [],[],_,n,u=>by simp[R]
  | [],_::_,h,_,_=>by simp[RL] at h
  | _::_,[],h,_,_=>by simp[RL] at h
  | x :: xs, v :: vs, h, n, u => by
    simp only[RL] at h;cases n with
    | zero=>simpa using h.1
    | succ n=>simpa using B' h.2 n u
theorem dS {E:Env}:∀{l:List V} {vs:List Value},RL E l vs→l.length=vs.length
  | [],[],_=>rfl
  | [],_::_,h=>by simp[RL] at h
  | _::_,[],h=>by simp[RL] at h
  | x :: xs, v :: vs, h => by
    simp only[RL] at h;simp[dS h.2]
theorem nr {E:Env}:∀{l:List V} {vs:List Value},RL E l vs→∀(n:Nat) (x:V),l[n]?=some x→∃v,vs[n]?=some v∧R E x v
  | [],[],_,n,x,hx=>by simp at hx
  | [],_::_,h,_,_,_=>by simp[RL] at h
  | _::_,[],h,_,_,_=>by simp[RL] at h
  | x :: xs, v :: vs, h, n, y, hy => by
    simp only[RL] at h;cases n with
    | zero=>simp at hy;subst hy;exact⟨v,by simp,h.1⟩
    | succ n=>simp at hy;obtain⟨u,h1,h2⟩:=nr h.2 n y hy;exact⟨u,by simpa using h1,h2⟩
theorem zj {E:Env}:∀{l:List V} {vs:List Value},l.length=vs.length→(∀(n:Nat) x v,l[n]?=some x→vs[n]?=some v→R E x v)→RL E l vs
  | [],[],_,_=>by simp[RL]
  | [],_::_,h,_=>by simp at h
  | _::_,[],h,_=>by simp at h
  | x :: xs, v :: vs, h, hx => by
    simp only[RL];exact⟨hx 0 x v (by simp) (by simp),zj (by simpa using h) fun n y u h1 h2=>hx (n+1) y u (by simpa using h1) (by simpa using h2)⟩
theorem Ca {E:Env}:∀{l:List V} {vs:List Value},RL E l vs→∀(n:Nat) {x:V} {v:Value},R E x v→RL E (l.set n x) (vs.set n v)
  | [],[],_,_,_,_,_=>by simp[RL]
  | [],_::_,h,_,_,_,_=>by simp[RL] at h
  | _::_,[],h,_,_,_,_=>by simp[RL] at h
  | x :: xs, v :: vs, h, n, y, u, hy => by
    simp only[RL] at h;cases n with
    | zero=>simp only[List.set,RL];exact⟨hy,h.2⟩
    | succ n=>simp only[List.set,RL];exact⟨h.1,Ca h.2 n hy⟩
theorem qn {E:Env}:∀{l:List V} {vs:List Value} {m:List V} {us:List Value},RL E l vs→RL E m us→RL E (l++m) (vs++us)
  | [],[],_,_,_,h=>by simpa using h
  | [],_::_,_,_,h,_=>by simp[RL] at h
  | _::_,[],_,_,h,_=>by simp[RL] at h
  | x :: xs, v :: vs, _, _, h, k => by
    simp only[RL,gN] at h ⊢;exact⟨h.1,qn h.2 k⟩
theorem Lb {E:Env} (vs:List Value):RL E (List.replicate vs.length V.any) vs:=by
  induction vs with
  | nil=>simp[RL]
  | cons v vs ih=>simp only[cF,ry,RL];exact⟨by simp[R],ih⟩
def St.put (st:St) (d:Option Nat) (v:V):St :=
  match d with
  | some n=>⟨st.t.set n v,st.loc,st.out⟩
  | none=>st
theorem a7.put {E:Env} {st:St} {a:Act} (h:a7 E st a) {v:V} {x:Value} (hv:R E v x) (d:Option Nat):a7 E (st.put d v) (a.put d x):=by
  cases d with
  | none=>exact h
  | some n=>exact⟨h.ok,h.bW,h.defers,by simpa [St.put,Act.put] using Ca h.slot n hv⟩
def aE:Nat:=268435456
inductive X where
  | s (n:Nat)
  | c (v:V)
inductive OQ where
  | nil
  | len
  | idx (k:Nat)
  | j_ (k:Nat) (lo hi mx:Bool)
  | app (k:Nat)
  | mk (z:List V)
  | jI (k:Nat)
  | new (k:Nat)
  | min
  | max
  | Er (m k:Nat) (lo hi:Bool)
  | ew (k:Nat) (lo hi:Bool)
  | zB
  | jr
  | zn
  | s7 (k:Nat)
  | FW
  | HY
  | Du (m:Nat)
  | bad
inductive aq where
  | mv (x:X)
  | pick (c a b:X)
  | alloc (z:List V)
  | box (n:Nat) (x:X)
  | kH (n:Nat) (x:X)
  | build (z:List V) (ps:List (Nat × Nat × X))
  | cB (k:Nat) (xs:List X)
  | load (agg:Bool) (n:Nat) (x:X)
  | store (n:Nat) (a x:X)
  | qZ (x:X)
  | de (op:BinOp) (x y:X)
  | gP (op:BinOp) (x y:X)
  | rG (neg:Bool) (x y:X)
  | cat (x y:X)
  | jw (neg:Bool) (ks:List Nat) (x y:X)
  | xH (neg:Bool) (x y:X)
  | not (x:X)
  | qU (x:X)
  | qV (x:X)
  | lq (off:Nat) (x:X)
  | oq (agg:Bool) (off n:Nat) (x:X)
  | jH (k:Nat) (x i:X)
  | pE (x i:X)
  | eJ (m k:Nat) (x i:X)
  | call (f:FuncId) (xs:List X)
  | fR (x:X) (xs:List X)
  | app (k:Nat) (s x:X)
  | jr (s x:X)
  | j_ (k:Nat) (x:X) (lo hi mx:Option X)
  | rj (x:X) (lo hi:Option X)
  | ext (x:X) (i:Nat)
  | gG (f:Fn) (first cap:List X)
  | lS (k:IntKind) (x:X)
  | qy (x:X)
  | lO (z:List V)
  | eD (n:Nat) (x:X)
  | own (q:OQ) (xs:List X)
structure AO where
  dst:Option Nat
  op:aq
  guard:Option (Nat × Bool)
def ev (st:St):X→V
  | .s n=>st.t.getD n .any
  | .c v=>v
def b9 (st:St):List X→List V
  | []=>[]
  | x::xs=>ev st x::b9 st xs
def V.wd:V→Option Nat
  | .agg cs=>some cs.length
  | .any=>none
  | .aT _=>none
  | .raw u=>if u.oneCell' then some 1 else none
  | _=>some 1
def V.cells:V→List V
  | .agg cs=>cs
  | v=>[v]
def V.one:V→Bool
  | .bool _ | .int _ _ | .str _ | .kS | .ptr _ _ | .elt _ _ | .sl _ _ _ | .fn _ _ _=>true
  | .raw u=>u.oneCell'
  | _=>false
def bA:List V→Bool
  | []=>true
  | x::xs=>x.one&&bA xs
mutual
def V.bS:V→Bool
  | .ptr (.loc _) _=>false
  | .agg cs=>bd cs
  | .aT cs=>bd cs
  | .fn _ first cap=>bd first&&bd cap
  | _=>true
def bd:List V→Bool
  | []=>true
  | x::xs=>x.bS&&bd xs
end
mutual
def V.erase:V→V
  | .sl _ k l=>.sl .no k l
  | .agg cs=>.agg (aX cs)
  | .aT cs=>.aT (aX cs)
  | v=>v
def aX:List V→List V
  | []=>[]
  | x::xs=>x.erase::aX xs
end
def takeN:Nat→List V→Option (List V)
  | 0,_=>some []
  | n+1,x::xs=>(takeN n xs).map (x::·)
  | _+1,[]=>none
def a9:Bool→Nat→List V→Option V
  | true,n,cs=>(takeN n cs).map V.agg
  | false,_,c::_=>some c
  | false,_,[]=>none
def over:List V→List V→List V
  | [],_=>[]
  | l,[]=>l
  | _::l,x::xs=>x::over l xs
def setAt:List V→Nat→List V→List V
  | l,0,xs=>over l xs
  | [],_+1,_=>[]
  | a::l,n+1,xs=>a::setAt l n xs
def bD:Nat→List V→Bool
  | 0,_=>true
  | n+1,_::xs=>bD n xs
  | _+1,[]=>false
def ab.set (σ:ab) (b:Nat) (cs:List V):ab:={σ with box:=fun x=>if x=b then some cs else σ.box x}
def ab.aK (σ:ab) (t n:Nat):ab:={σ with aB:=fun x=>if x=t then some n else σ.aB x}
def Cq (st:St):Pl→Option (List V)
  | .loc i=>st.loc[i]?
  | .out b=>st.out.box b
  | .iB b=>st.out.bH b
def jb (st:St) (agg:Bool) (n:Nat):V→Option V
  | .ptr p off=>(Cq st p).bind fun cs=>a9 agg n (cs.drop off)
  | .elt cs off=>a9 agg n (cs.drop off)
  | _=>none
def cr (st:St) (n:Nat) (x:V):V→Option St
  | .ptr (.loc i) off=>(st.loc[i]?).bind fun cs=>if bD n (cs.drop off)=true∧x.wd=some n∧bA x.cells=true then some ⟨st.t,st.loc.set i (setAt cs off x.cells),st.out⟩ else none
  | .ptr (.out b) off=>(st.out.box b).bind fun cs=>if bD n (cs.drop off)=true∧x.wd=some n∧bA x.cells=true∧bd x.cells=true then some ⟨st.t,st.loc,st.out.set b (setAt cs off x.cells)⟩ else none
  | _=>none
def lf (st:St):List V→List (Nat × Nat × X)→Option (List V)
  | z,[]=>some z
  | z,(off,n,x)::ps=>if bD n (z.drop off)=true∧(ev st x).wd=some n then lf st (setAt z off (ev st x).cells) ps else none
def jh (st:St) (k:Nat):List X→Option (List (List V))
  | []=>some []
  | x::xs=>if (ev st x).wd=some k∧bd (ev st x).cells=true∧bA (ev st x).cells=true then (jh st k xs).map (aX (ev st x).cells::·) else none
def vO:IntKind→IntKind→Bool
  | .i8,.i8 | .i16,.i16 | .i32,.i32 | .i64,.i64 | .u8,.u8 | .u16,.u16 | .u32,.u32 | .u64,.u64=>true
  | _,_=>false
theorem Dv {a b:IntKind} (h:vO a b=true):a=b:=by cases a<;>cases b<;>first | rfl | (simp[vO] at h)
def gg (k:IntKind) (a b:Int):BinOp→Option V
  | .add=>some (.int k (k.wrap (a+b)))
  | .sub=>some (.int k (k.wrap (a - b)))
  | .mul=>some (.int k (k.wrap (a*b)))
  | .eql=>some (.bool (decide (a=b)))
  | .neq=>some (.bool (!decide (a=b)))
  | .lss=>some (.bool (decide (a<b)))
  | .leq=>some (.bool (decide (a≤b)))
  | .gtr=>some (.bool (decide (b<a)))
  | .geq=>some (.bool (decide (b≤a)))
  | .quo=>if b=0 then none else some (.int k (k.wrap (a.tdiv b)))
  | .rem=>if b=0 then none else some (.int k (a.tmod b))
  | .and=>some (.int k (k.wrap ((BitVec.ofInt k.bits a&&&BitVec.ofInt k.bits b).toNat:Nat)))
  | .or=>some (.int k (k.wrap ((BitVec.ofInt k.bits a|||BitVec.ofInt k.bits b).toNat:Nat)))
  | .xor=>some (.int k (k.wrap ((BitVec.ofInt k.bits a ^^^ BitVec.ofInt k.bits b).toNat:Nat)))
  | .andNot=>some (.int k (k.wrap ((BitVec.ofInt k.bits a&&&~~~BitVec.ofInt k.bits b).toNat:Nat)))
  | .shl=>if b<0 then none else some (.int k (k.wrap (a*2^(Nat.min b.toNat k.bits))))
  | .shr=>if b<0 then none else some (.int k (a.fdiv (2^(Nat.min b.toNat k.bits))))
def vP:BinOp→Bool
  | .shl | .shr=>true
  | _=>false
def qu (op:BinOp):V→V→Option V
  | .int k a,.int k' b=>if vO k k' = true∨vP op=true then gg k a b op else none
  | _,_=>none
def sv (a b:List UInt8):BinOp→Option V
  | .eql=>some (.bool (decide (a=b)))
  | .neq=>some (.bool (!decide (a=b)))
  | .lss=>some (.bool (Op.bytesLess a b))
  | .leq=>some (.bool (Op.bytesLess a b||decide (a=b)))
  | .gtr=>some (.bool (!(Op.bytesLess a b||decide (a=b))))
  | .geq=>some (.bool (!Op.bytesLess a b))
  | _=>none
def u2 (op:BinOp):V→V→Option V
  | .str a,.str b=>sv a b op
  | _,_=>none
def th (neg:Bool):V→V→Option V
  | .bool a,.bool b=>some (.bool (if neg then !decide (a=b) else decide (a=b)))
  | _,_=>none
def dU:List Nat→List V→List V→Option Bool
  | [],[],[]=>some true
  | 1::ks,.int k a::xs,.int k' b::ys=>if vO k k' = true then (dU ks xs ys).map (decide (a=b)&&·) else none
  | 2::ks,.str a::xs,.str b::ys=>(dU ks xs ys).map (decide (a=b)&&·)
  | 0::ks,.bool a::xs,.bool b::ys=>(dU ks xs ys).map (decide (a=b)&&·)
  | _,_,_=>none
def tg (neg:Bool) (ks:List Nat):V→V→Option V
  | .agg xs,.agg ys=>(dU ks xs ys).map fun b=>.bool (if neg then !b else b)
  | _,_=>none
def isNil:V→Option Bool
  | .kS | .raw .nilFunc=>some true
  | .ptr _ _ | .elt _ _ | .fn _ _ _=>some false
  | _=>none
def K2 (K:V→St→Prop) (st:St):V→Prop:=fun v=>K v st
def opt (o:Option V) (K:V→Prop):Prop:=match o with | some v=>K v | none=>False
def E7 (l:List (List V)) (i:V) (K:List V→Prop):Prop:=∃k n x,i = .int k n∧0≤n∧l[n.toNat]?=some x∧K x
def mu (σ:ab) (k:Nat) (s x:V) (K:V→ab→Prop):Prop :=
  ∃t l m,s = .sl t k l∧(∃t',x = .sl t' k m)∧l.length+m.length≤aE ∧
    match t with
    | .full=>(∀τ,σ.aB τ=none→K (.sl (.tk τ) k (l++m)) (σ.aK τ (l.length+m.length)))∨K (.sl .no k (l++m)) σ∨∃τ,σ.aB τ=some l.length∧K (.sl (.tk τ) k (l++m)) (σ.aK τ (l.length+m.length))
    | .tk τ=>σ.aB τ=some l.length∧K (.sl (.tk τ) k (l++m)) (σ.aK τ (l.length+m.length))
    | .no=>False
def b6 (s:List UInt8):List (List V):=s.map fun b=>[.int .u8 b.toNat]
def iU (b:Bool) (d:Nat) (vs:List V) (K:Nat→List V→Prop):Prop :=
  match b,vs with
  | false,vs=>K d vs
  | true,.int _ j::vs=>0≤j∧K j.toNat vs
  | true,_=>False
def uM (σ:ab) (k:Nat) (a:Option Addr) (n cap:Nat) (m:List (List V)) (K:V→ab→Prop):Prop :=
  n≤cap∧n+m.length≤aE∧bd m.flatten=true ∧
  (m=[]→K (.raw (.slice a n cap)) σ) ∧
  (m≠[]→n+m.length≤cap→∃b cs,a=some ⟨b,0,none⟩∧σ.box b=some cs∧n*k+m.length*k≤cs.length∧K (.raw (.slice a (n+m.length) cap)) (σ.set b (setAt cs (n*k) m.flatten))) ∧
  (cap<n+m.length→∃cs,(n=0∧cs=[]∨∃b,a=some ⟨b,0,none⟩∧σ.box b=some cs∧n*k≤cs.length) ∧
    ∀b' lh,σ.box b' = none→n+m.length≤lh → K (.raw (.slice (some ⟨b',0,none⟩) (n+m.length) lh)) (σ.set b' (cs.take (n*k)++m.flatten++List.replicate ((lh - (n+m.length))*k) .any)))
def tX (k:Nat):List V→Option (List (List V))
  | []=>some []
  | v::vs=>if v.wd=some k∧bd v.cells=true∧bA v.cells=true then (tX k vs).map (v.cells::·) else none
def vg:List UInt8→UInt8→Int
  | [],_=>-1
  | b::l,c=>if b == c then 0 else if vg l c == -1 then -1 else vg l c+1
def xr (cs:List V):List (List V):=cs.map fun x=>[x]
def ab.del (σ:ab) (b:Nat):ab:={σ with box:=fun x=>if x=b then none else σ.box x}
def Bg (σ:ab) (a:Option Addr) (n:Nat) (s:List UInt8):Prop:=s.length=n∧(n=0∨∃b o cs,a=some ⟨b,o,none⟩∧σ.box b=some cs∧(cs.drop o).take n=s.map fun c=>.int .u8 c.toNat)
def H_ (k:Nat) (vs:List V) (H:List (List V)→Prop):Prop:=∃l,tX k vs=some l∧H l
def uL (σ:ab) (k:Nat) (a:Option Addr) (m:Nat) (xs:List V) (K:V→ab→Prop):Prop :=
  (m=0→K (.int .i64 0) σ)∧(m≠0→∃b o cs,a=some ⟨b,o,none⟩∧σ.box b=some cs∧o+m*k≤cs.length∧K (.int .i64 m) (σ.set b (setAt cs o xs)))
def EZ (σ:ab) (a:Option Addr) (n:Nat) (xs:List V):Prop :=
  n=0∧xs=[]∨∃b o cs,a=some ⟨b,o,none⟩∧σ.box b=some cs∧o+n≤cs.length∧xs=(cs.drop o).take n∧bA xs=true
def A8 (o:Option V) (K:V→Prop):Prop:=match o with | some c=>K c | none=>False
def OQ.aL (σ:ab) (K:V→ab→Prop):OQ→List V→Prop
  | .nil,[]=>K (.raw (.slice none 0 0)) σ
  | .len,[.raw (.slice _ n _)]=>K (.int .i64 n) σ
  | .idx k,[.raw (.slice (some ⟨b,o,none⟩) n _),.int _ j]=>0≤j∧j<n∧K (.ptr (.out b) (o+j.toNat*k)) σ
  | .j_ k lo hi mx,.raw (.slice a n cap)::vs=>iU lo 0 vs fun m vs=>iU hi n vs fun h vs=>iU mx cap vs fun M vs=>vs=[]∧m≤h∧h≤M∧M≤cap∧K (.raw (.slice (if M=m then a else a.map (·.add (m*k))) (h - m) (M - m))) σ
  | .app k,[.raw (.slice a n cap),.sl _ k' m]=>k' = k∧uM σ k a n cap m K
  | .mk z,[.int _ n]=>0≤n∧n≤aE∧bd z=true∧0<z.length∧∀b',σ.box b' = none→K (.raw (.slice (some ⟨b',0,none⟩) n.toNat n.toNat)) (σ.set b' (List.replicate n.toNat z).flatten)
  | .jI k,vs=>H_ k vs fun l=>K (.sl .full k l) σ
  | .new k,vs=>H_ k vs fun l=>bd l.flatten=true∧∀b',σ.box b' = none→K (.raw (.slice (some ⟨b',0,none⟩) l.length l.length)) (σ.set b' l.flatten)
  | .min,[.int k a,.int k' b]=>vO k k' = true∧K (.int k (if b<a then b else a)) σ
  | .max,[.int k a,.int k' b]=>vO k k' = true∧K (.int k (if a<b then b else a)) σ
  | .Er m k lo hi,.ptr (.out b) o::vs=>iU lo 0 vs fun l vs=>iU hi m vs fun h vs=>vs=[]∧l≤h∧h≤m∧K (.raw (.slice (some (if m=l then ⟨b,o,none⟩ else ⟨b,o+l*k,none⟩)) (h - l) (m - l))) σ
  | .ew k lo hi,.raw (.slice (some ⟨b,o,none⟩) n cap)::vs=>iU lo 0 vs fun l vs=>iU hi n vs fun h vs=>vs=[]∧l≤h∧h≤cap∧k=1 ∧
      ∃cs,σ.box b=some cs∧o+h≤cs.length∧bA (((cs.drop o).take h).drop l)=true∧bd (((cs.drop o).take h).drop l)=true∧K (.sl .no 1 (xr (((cs.drop o).take h).drop l))) (σ.del b)
  | .FW,[.str s,.int .u8 c]=>K (.int .i64 (s.count c.toNat.toUInt8:Nat)) σ
  | .HY,[.str s,.int .u8 c]=>K (.int .i64 (vg s c.toNat.toUInt8)) σ
  | .zB,[.raw (.slice a n _)]=>∃s,Bg σ a n s∧K (.str s) σ
  | .jr,[.raw (.slice a n cap),.str s]=>uM σ 1 a n cap (b6 s) K
  | .zn,[.raw (.slice a n cap),.raw (.slice a' n' _)]=>∃s,Bg σ a' n' s∧uM σ 1 a n cap (b6 s) K
  | .Du m,[.agg cs,.int _ j]=>0≤j∧j<m∧A8 cs[j.toNat]? fun c=>c.bS=true∧K c σ
  | .s7 k,[.raw (.slice a n _),.raw (.slice a' n' _)]=>∃xs,EZ σ a' (Nat.min n' n*k) xs∧uL σ k a (Nat.min n' n) xs K
  | .s7 k,[.raw (.slice a n _),.sl _ k' m]=>k' = k∧m.length≤n∧uL σ k a m.length m.flatten K
  | _,_=>False
def OQ.pure:OQ→Bool
  | .nil | .len | .idx _ | .j_ .. | .jI _ | .min | .max | .Er .. | .FW | .HY | .Du _=>true
  | .app _ | .mk _ | .new _ | .ew .. | .zB | .jr | .zn | .s7 _ | .bad=>false
def aq.aL (P:Program) (st:St) (K:V→St→Prop):aq→Prop
  | .mv x=>K (ev st x) st
  | .pick c a b=>match ev st c with | .bool true=>K (ev st a) st | .bool false=>K (ev st b) st | _=>False
  | .alloc z=>K (.ptr (.loc st.loc.length) 0) ⟨st.t,st.loc++[z],st.out⟩
  | .box n x=>(ev st x).wd=some n∧K (.ptr (.loc st.loc.length) 0) ⟨st.t,st.loc++[(ev st x).cells],st.out⟩
  | .kH n x=>(ev st x).wd=some n∧bA (ev st x).cells=true∧K (.ptr (.loc st.loc.length) 0) ⟨st.t,st.loc++[(ev st x).cells],st.out⟩
  | .build z ps=>opt ((lf st z ps).map V.agg) (K2 K st)
  | .cB k xs=>opt ((jh st k xs).map (V.sl .full k)) (K2 K st)
  | .load agg n x=>opt (jb st agg n (ev st x)) (K2 K st)
  | .store n a x=>match cr st n (ev st x) (ev st a) with | some al => K .any al | none=>False
  | .qZ x=>match ev st x with | .ptr p o=>K (.ptr p o) st | .elt c o=>K (.elt c o) st | .fn (.func f) a b=>K (.fn (.func f) a b) st | _=>False
  | .de op x y=>opt (qu op (ev st x) (ev st y)) (K2 K st)
  | .gP op x y=>opt (u2 op (ev st x) (ev st y)) (K2 K st)
  | .rG neg x y=>opt (th neg (ev st x) (ev st y)) (K2 K st)
  | .cat x y=>∃a b,ev st x = .str a∧ev st y = .str b∧a.length+b.length≤aE∧K (.str (a++b)) st
  | .jw neg ks x y=>opt (tg neg ks (ev st x) (ev st y)) (K2 K st)
  | .xH neg x y=>match isNil (ev st x),isNil (ev st y) with | some a,some b=>(a=true∨b=true)∧K (.bool (if neg then !(a&&b) else a&&b)) st | _,_=>False
  | .not x=>match ev st x with | .bool b=>K (.bool (!b)) st | _=>False
  | .qU x=>match ev st x with | .sl _ _ l=>K (.int .i64 l.length) st | .raw (.slice _ n _)=>K (.int .i64 n) st | _=>False
  | .qV x=>match ev st x with | .str s=>K (.int .i64 s.length) st | _=>False
  | .lq off x=>match ev st x with | .ptr p o=>K (.ptr p (o+off)) st | .elt c o=>K (.elt c (o+off)) st | _=>False
  | .oq agg off n x=>match ev st x with | .agg cs=>opt (a9 agg n (cs.drop off)) (K2 K st) | _=>False
  | .jH k x i => match ev st x with
    | .sl _ k' l=>k' = k∧E7 l (ev st i) fun c=>K (.elt c 0) st
    | .raw (.slice (some ⟨b,o,none⟩) n _)=>∃ik j,ev st i = .int ik j∧0≤j∧j<n∧K (.ptr (.out b) (o+j.toNat*k)) st
    | _=>False
  | .eJ m k x i => match ev st x with
    | .ptr p o=>∃kk n,ev st i = .int kk n∧0≤n∧n<(m:Nat)∧K (.ptr p (o+n.toNat*k)) st
    | .elt c o=>∃kk n,ev st i = .int kk n∧0≤n∧n<(m:Nat)∧K (.elt c (o+n.toNat*k)) st
    | _=>False
  | .pE x i=>match ev st x with | .str s=>∃k n c,ev st i = .int k n∧0≤n∧s[n.toNat]?=some c∧K (.int .u8 c.toNat) st | _=>False
  | .call f xs=>bd (b9 st xs)=true∧ak P f (b9 st xs) st.out fun v σ=>K v ⟨st.t,st.loc,σ⟩
  | .fR x xs=>match ev st x with | .fn (.func f) a b=>bd (a++b9 st xs++b)=true∧ak P f (a++b9 st xs++b) st.out fun v σ=>K v ⟨st.t,st.loc,σ⟩ | _=>False
  | .app k s x=>mu st.out k (ev st s) (ev st x) fun v σ=>K v ⟨st.t,st.loc,σ⟩
  | .jr s x=>∃a,ev st x = .str a∧mu st.out 1 (ev st s) (.sl .no 1 (b6 a)) fun v σ=>K v ⟨st.t,st.loc,σ⟩
  | .j_ k x lo hi mx=>(∃t l a b,ev st x = .sl t k l∧a≤b∧b≤l.length∧(match lo with | none=>a=0 | some y=>∃j,ev st y = .int j a) ∧
      (match hi with | none=>b=l.length | some y=>∃j,ev st y = .int j b) ∧
      match mx with
      | none=>K (.sl .no k ((l.take b).drop a)) st
      | some y=>(∃j,ev st y = .int j b)∧K (.sl .full k ((l.take b).drop a)) st) ∨
      ∃a n cap m h,ev st x = .raw (.slice a n cap)∧m≤h∧h≤cap∧(match lo with | none=>m=0 | some y=>∃j,ev st y = .int j m)∧(match hi with | none=>h=n | some y=>∃j,ev st y = .int j h)∧mx.isNone=true ∧
        K (.raw (.slice (if cap=m then a else a.map (·.add (m*k))) (h - m) (cap - m))) st
  | .rj x lo hi=>∃s a b,ev st x = .str s∧a≤b∧b≤s.length∧(match lo with | none=>a=0 | some y=>∃j,ev st y = .int j a) ∧
      (match hi with | none=>b=s.length | some y=>∃j,ev st y = .int j b)∧K (.str ((s.take b).drop a)) st
  | .ext x i=>match ev st x with | .aT vs=>opt vs[i]? (K2 K st) | _=>False
  | .gG f first cap=>K (.fn f (b9 st first) (b9 st cap)) st
  | .lS k x=>match ev st x with | .int _ n=>K (.int k (k.wrap n)) st | _=>False
  | .qy x=>∃t s,ev st x = .sl t 1 (b6 s)∧K (.str s) st
  | .lO z=>bd z=true∧∀b,st.out.box b=none→K (.ptr (.out b) 0) ⟨st.t,st.loc,st.out.set b z⟩
  | .eD n x=>(ev st x).wd=some n∧bd (ev st x).cells=true∧∀b,st.out.box b=none→K (.ptr (.out b) 0) ⟨st.t,st.loc,st.out.set b (ev st x).cells⟩
  | .own q xs=>q.aL st.out (fun v σ=>K v ⟨st.t,st.loc,σ⟩) (b9 st xs)
def bq (P:Program):List AO→(St→Prop)→St→Prop
  | [],K,st=>K st
  | o :: r, K, st =>
    match o.guard with
    | none=>o.op.aL P st fun v al => bq P r K (al.put o.dst v)
    | some (g, want) =>
      match ev st (.s g) with
      | .bool b=>if b=want then o.op.aL P st (fun v al => bq P r K (al.put o.dst v)) else bq P r K (st.put o.dst (.aT []))
      | .aT []=>bq P r K (st.put o.dst (.aT []))
      | _=>False
mutual
theorem R.erase:∀(x:V) {E:Env} {v:Value},R E x v→R E x.erase v
  | .sl t k l, E, v, h => by
    simp only[V.erase,R] at h ⊢;obtain⟨a,cap,h1,h2,h3,_⟩:=h;exact⟨a,cap,h1,h2,h3,trivial⟩
  | .agg cs, E, v, h => by
    simp only[V.erase,R] at h ⊢;obtain⟨vs,h1,h2⟩:=h;exact⟨vs,h1,RL.erase cs h2⟩
  | .aT cs, E, v, h => by
    simp only[V.erase,R] at h ⊢;obtain⟨vs,h1,h2⟩:=h;exact⟨vs,h1,RL.erase cs h2⟩
  | .any,_,_,h=>by simpa [V.erase] using h
  | .bool _,_,_,h=>by simpa [V.erase] using h
  | .int _ _,_,_,h=>by simpa [V.erase] using h
  | .str _,_,_,h=>by simpa [V.erase] using h
  | .kS,_,_,h=>by simpa [V.erase] using h
  | .ptr _ _,_,_,h=>by simpa [V.erase] using h
  | .elt _ _,_,_,h=>by simpa [V.erase] using h
  | .fn _ _ _,_,_,h=>by simpa [V.erase] using h
  | .raw _,_,_,h=>by simpa [V.erase] using h
theorem RL.erase:∀(l:List V) {E:Env} {vs:List Value},RL E l vs→RL E (aX l) vs
  | [],_,[],_=>by simp only[aX,RL]
  | [],_,_::_,h=>by simp only[RL] at h
  | _::_,_,[],h=>by simp only[RL] at h
  | x :: xs, _, v :: vs, h => by
    simp only[aX,RL] at h ⊢;exact⟨R.erase x h.1,RL.erase xs h.2⟩
end
theorem PV:∀l:List V,(aX l).length=l.length
  | []=>rfl
  | x::xs=>by simp[aX,PV xs]
theorem u4 {b:Bool} {d:Nat} {vs:List V} {K K' : Nat→List V→Prop} (h:iU b d vs K) (hk:∀n vs,K n vs→K' n vs):iU b d vs K' := by
  unfold iU at h ⊢;split at h
  · exact hk _ _ h
  · exact⟨h.1,hk _ _ h.2⟩
  · exact h.elim
theorem uM.mono {σ:ab} {k:Nat} {a:Option Addr} {n cap:Nat} {m:List (List V)} {K K' : V→ab→Prop} (hk:∀v σ',K v σ' → K' v σ') (h:uM σ k a n cap m K):uM σ k a n cap m K' := by
  obtain⟨h1,h2,h3,h4,h5,h6⟩:=h;refine⟨h1,h2,h3,fun e=>hk _ _ (h4 e),fun e e' => ?_,fun e=>?_⟩
  · obtain⟨b,cs,g1,g2,g3,g4⟩:=h5 e e';exact⟨b,cs,g1,g2,g3,hk _ _ g4⟩
  · obtain⟨cs,g1,g2⟩:=h6 e;exact⟨cs,g1,fun b' lh p1 p2=>hk _ _ (g2 b' lh p1 p2)⟩
theorem uL.mono {σ:ab} {k:Nat} {a:Option Addr} {m:Nat} {xs:List V} {K K' : V→ab→Prop} (hk:∀v σ',K v σ' → K' v σ') (h:uL σ k a m xs K):uL σ k a m xs K' :=
  ⟨fun e=>hk _ _ (h.1 e),fun e=>let ⟨b,o,cs,h1,h2,h3,h4⟩:=h.2 e;⟨b,o,cs,h1,h2,h3,hk _ _ h4⟩⟩
theorem OQ.mono {σ:ab} {K K' : V→ab→Prop} (hk:∀v σ',K v σ' → K' v σ') (q:OQ) (vs:List V) (h:q.aL σ K vs):q.aL σ K' vs:=by
  unfold OQ.aL at h ⊢;split at h
  · exact hk _ _ h
  · exact hk _ _ h
  · exact⟨h.1,h.2.1,hk _ _ h.2.2⟩
  · exact u4 h fun _ _ h=>u4 h fun _ _ h=>u4 h fun _ _ h=>⟨h.1,h.2.1,h.2.2.1,h.2.2.2.1,hk _ _ h.2.2.2.2⟩
  · obtain⟨h0,h1,h2,h3,h4,h5,h6⟩:=h;refine⟨h0,h1,h2,h3,fun e=>hk _ _ (h4 e),fun e e' => ?_,fun e=>?_⟩
    · obtain⟨b,cs,g1,g2,g3,g4⟩:=h5 e e';exact⟨b,cs,g1,g2,g3,hk _ _ g4⟩
    · obtain⟨cs,g1,g2⟩:=h6 e;exact⟨cs,g1,fun b' lh p1 p2=>hk _ _ (g2 b' lh p1 p2)⟩
  · exact⟨h.1,h.2.1,h.2.2.1,h.2.2.2.1,fun b' hb=>hk _ _ (h.2.2.2.2 b' hb)⟩
  · obtain⟨l,h1,h2⟩:=h;exact⟨l,h1,hk _ _ h2⟩
  · obtain⟨l,h1,h2,h3⟩:=h;exact⟨l,h1,h2,fun b' hb=>hk _ _ (h3 b' hb)⟩
  · exact⟨h.1,hk _ _ h.2⟩
  · exact⟨h.1,hk _ _ h.2⟩
  · exact u4 h fun _ _ h=>u4 h fun _ _ h=>⟨h.1,h.2.1,h.2.2.1,hk _ _ h.2.2.2⟩
  · exact u4 h fun _ _ h=>u4 h fun _ _ h=>by
      obtain⟨g1,g2,g3,g4,cs,g5,g6,g7,g8,g9⟩:=h;exact⟨g1,g2,g3,g4,cs,g5,g6,g7,g8,hk _ _ g9⟩
  · exact hk _ _ h
  · exact hk _ _ h
  · obtain⟨s,h1,h2⟩:=h;exact⟨s,h1,hk _ _ h2⟩
  · exact h.mono hk
  · obtain⟨s,h1,h2⟩:=h;exact⟨s,h1,h2.mono hk⟩
  · obtain⟨h1,h2,h3⟩:=h;refine⟨h1,h2,?_⟩;unfold A8 at h3 ⊢;split at h3
    · exact⟨h3.1,hk _ _ h3.2⟩
    · exact h3.elim
  · obtain⟨s,h1,h2⟩:=h;exact⟨s,h1,h2.mono hk⟩
  · exact⟨h.1,h.2.1,h.2.2.mono hk⟩
  · exact h.elim
theorem zu {b:Bool} {d:Nat} {vs:List V} {K:Nat→List V→Prop} (h:iU b d vs K):∃n wE,K n wE ∧ ∀K' : Nat→List V→Prop,K' n wE → iU b d vs K' := by
  unfold iU at h;split at h
  · exact⟨_,_,h,fun _ h=>by unfold iU;exact h⟩
  · exact⟨_,_,h.2,fun _ h' => by unfold iU;exact⟨h.1,h'⟩⟩
  · exact h.elim
theorem OQ.Pu {σ:ab} {K:V→ab→Prop} {q:OQ} (hp:q.pure=true) {vs:List V} (h:q.aL σ K vs):∃v,K v σ∧∀(ir:ab) (K' : V→ab→Prop),K' v ir→q.aL ir K' vs:=by
  unfold OQ.aL at h;split at h
  · exact⟨_,h,fun _ _ h=>by unfold OQ.aL;exact h⟩
  · exact⟨_,h,fun _ _ h=>by unfold OQ.aL;exact h⟩
  · exact⟨_,h.2.2,fun _ _ h' => by unfold OQ.aL;exact⟨h.1,h.2.1,h'⟩⟩
  · obtain⟨m,v1,h1,g1⟩:=zu h;obtain⟨hh,v2,h2,g2⟩:=zu h1;obtain⟨M,v3,h3,g3⟩:=zu h2;obtain⟨e1,e2,e3,e4,h4⟩:=h3;exact⟨_,h4,fun _ _ h' => by unfold OQ.aL;exact g1 _ (g2 _ (g3 _ ⟨e1,e2,e3,e4,h'⟩))⟩
  · simp[OQ.pure] at hp
  · simp[OQ.pure] at hp
  · obtain⟨l,h1,h2⟩:=h;exact⟨_,h2,fun _ _ h' => by unfold OQ.aL;exact⟨l,h1,h'⟩⟩
  · simp[OQ.pure] at hp
  · exact⟨_,h.2,fun _ _ h' => by unfold OQ.aL;exact⟨h.1,h'⟩⟩
  · exact⟨_,h.2,fun _ _ h' => by unfold OQ.aL;exact⟨h.1,h'⟩⟩
  · obtain⟨m,v1,h1,g1⟩:=zu h;obtain⟨hh,v2,h2,g2⟩:=zu h1;obtain⟨e1,e2,e3,h4⟩:=h2;exact⟨_,h4,fun _ _ h' => by unfold OQ.aL;exact g1 _ (g2 _ ⟨e1,e2,e3,h'⟩)⟩
  · simp[OQ.pure] at hp
  · exact⟨_,h,fun _ _ h=>by unfold OQ.aL;exact h⟩
  · exact⟨_,h,fun _ _ h=>by unfold OQ.aL;exact h⟩
  · simp[OQ.pure] at hp
  · simp[OQ.pure] at hp
  · simp[OQ.pure] at hp
  · obtain⟨h1,h2,h3⟩:=h;unfold A8 at h3;split at h3
    · rename_i c hc;exact⟨c,h3.2,fun _ _ h' => by unfold OQ.aL;refine⟨h1,h2,?_⟩;unfold A8;rw[hc];exact⟨h3.1,h'⟩⟩
    · exact h3.elim
  · simp[OQ.pure] at hp
  · simp[OQ.pure] at hp
  · exact h.elim
theorem Fx {E:Env}:R E (.aT []) undef:=by simp only[R];exact⟨#[],rfl,by simp[RL]⟩
theorem Lf {E:Env} {v:Value} (h:R E (.aT []) v):v=undef:=by
  simp only[R] at h;obtain⟨vs,rfl,h⟩:=h;cases hv:vs.toList with
  | nil => have : vs = #[] := by cases vs; simpa using hv
           subst this;rfl
  | cons x xs=>rw[hv] at h;simp[RL] at h
def cv:V→Value→Bool
  | .bool b,.bool c=>b == c
  | .int k n,.int j m=>decide (k=j)&&decide (n=m)
  | .str s,.string t=>decide (s=t.data.toList)
  | .kS,.pointer none=>true
  | .sl .full _ [],.slice none 0 0=>true
  | .raw .nilFunc,.nilFunc=>true
  | .raw .nilIface,.nilIface=>true
  | .raw (.map none),.map none=>true
  | _,_=>false
def s8:List V→List Value→Bool
  | [],[]=>true
  | x::xs,v::vs=>cv x v&&s8 xs vs
  | _,_=>false
def FO (f:Nat→Option (List V)):List Nat→Option (List V)
  | []=>some []
  | t::ts=>(f t).bind fun a=>(FO f ts).map (a++·)
def zeroV (P:Program):Nat→TypeId→Option (List V)
  | 0,_=>none
  | n + 1, t =>
    match P.underlying t with
    | some .bool=>some [.bool false]
    | some (.int k)=>some [.int k 0]
    | some .string=>some [.str []]
    | some (.pointer _)=>some [.kS]
    | some (.slice e)=>some [.sl .full (P.cellsOf e) []]
    | some (.func _ _ _)=>some [.raw .nilFunc]
    | some (.interface _)=>some [.raw .nilIface]
    | some (.map _ _)=>some [.raw (.map none)]
    | some (.struct fs)=>FO (zeroV P n) (fs.toList.map (·.type))
    | some (.array k e)=>FO (zeroV P n) (List.replicate k e)
    | _=>none
def gW (P:Program) (t:TypeId):Option (List V) :=
  match P.info? t,zeroV P 30 t with
  | some i, some zs =>
    match i.zero with
    | some z=>if s8 zs z.cells.toList=true∧zs.length=i.size then some zs else none
    | none=>none
  | _,_=>none
def F4 (P:Program) (t:TypeId):Value→Option V
  | .slice none 0 0 =>
    match P.underlying t with
    | some (.slice e)=>some (.sl .full (P.cellsOf e) [])
    | _=>none
  | .agg vs =>
    match gW P t with
    | some zs=>if s8 zs vs.toList=true then some (.agg zs) else none
    | none=>none
  | .bool b=>some (.bool b)
  | .int k n=>some (.int k n)
  | .string s=>some (.str s.data.toList)
  | .pointer none=>some .kS
  | .nilFunc=>some (.raw .nilFunc)
  | .nilIface=>some (.raw .nilIface)
  | _=>none
def bN (P:Program) (t:TypeId):Operand→Option X
  | .tmp n=>some (.s n)
  | .const v=>(F4 P t v).map .c
  | .func f=>some (.c (.fn (.func f) [] []))
  | .global g=>some (.c (.ptr (.iB g) 0))
def gq (P:Program):List TypeId→List Operand→Option (List X)
  | [],[]=>some []
  | t::ts,x::xs=>(bN P t x).bind fun y=>(gq P ts xs).map (y::·)
  | _,_=>none
def iJ (P:Program) (t:TypeId):Option Operand→Option (Option X)
  | none=>some none
  | some x=>(bN P t x).map some
def fx (P:Program) (t:TypeId):Option Bool :=
  match P.underlying t with
  | some (.struct _) | some (.array _ _)=>some true
  | some _=>some false
  | none=>none
def cO (P:Program) (t:TypeId):Option Nat:=(P.info? t).map (·.size)
def v7 (P:Program) (place:Nat→Option (Nat × TypeId)):List (Nat × Operand)→Option (List (Nat × Nat × X))
  | []=>some []
  | (i, x) :: ps =>
    match place i with
    | some (off, t) =>
      match cO P t,bN P t x with
      | some n,some y=>if n=0 then none else (v7 P place ps).map ((off,n,y)::·)
      | _,_=>none
    | none=>none
def D8 (f:TypeId→Nat→Option (List (Nat × Nat))) (size:TypeId→Nat) (all:Nat):List Field→Nat→Option (List (Nat × Nat))
  | [],_=>some []
  | x::xs,off=>if x.name = "_" ∨ all<x.offset+size x.type then none else (f x.type (off+x.offset)).bind fun a=>(D8 f size all xs off).map (a++·)
def D9 (f:Nat→Option (List (Nat × Nat))) (size all:Nat):List Nat→Nat→Option (List (Nat × Nat))
  | [],_=>some []
  | i::is,off=>if all<i*size+size then none else (f (off+i*size)).bind fun a=>(D9 f size all is off).map (a++·)
def sj (P:Program):Nat→TypeId→Nat→Option (List (Nat × Nat))
  | 0,_,_=>none
  | n + 1, t, off =>
    match P.info? t,P.underlying t with
    | some _,some .bool=>if P.cellsOf t=1 then some [(off,0)] else none
    | some _,some (.int _)=>if P.cellsOf t=1 then some [(off,1)] else none
    | some _,some .string=>if P.cellsOf t=1 then some [(off,2)] else none
    | some _,some (.struct fs)=>if P.stoodInHeld t=true then none else D8 (sj P n) P.cellsOf (P.cellsOf t) fs.toList off
    | some _,some (.array k e)=>match P.info? e with | some _=>D9 (sj P n e) (P.cellsOf e) (P.cellsOf t) (List.range k) off | none=>none
    | _,_=>none
def Jc (P:Program) (t:TypeId):Option (List Nat) :=
  match sj P 20 t 0 with
  | some pl=>if pl.map (·.1)=List.range (P.cellsOf t)∧P.eqGuardType P.depth t=false then some (pl.map (·.2)) else none
  | none=>none
def ub (P:Program) (o:Oper):Option aq :=
  match o.op with
  | .move x | .assign x=>(bN P o.type x).map .mv
  | .pick c a b =>
    match bN P o.type c,bN P o.type a,bN P o.type b with
    | some c,some a,some b=>some (.pick c a b)
    | _,_,_=>none
  | .alloc t=>(gW P t).map .alloc
  | .box t x =>
    match cO P t,bN P t x with
    | some n,some y=>some (.box n y)
    | _,_=>none
  | .build t ps =>
    match gW P t,P.underlying t with
    | some z,some (.struct fs)=>if fs.toList.all (fun f=>(P.info? f.type).isSome)=true then (v7 P (fun i=>(fs[i]?).map fun f=>(f.offset,f.type)) ps.toList).map (.build z) else none
    | some z,some (.array _ e)=>if (P.info? e).isSome=true then (v7 P (fun i=>some (i*P.cellsOf e,e)) ps.toList).map (.build z) else none
    | _,_=>none
  | .buildSlice t len ps =>
    match P.underlying t with
    | some (.slice e) =>
      match cO P e,gW P e,gq P (List.replicate len e) (ps.toList.map (·.2)) with
      | some k,some _,some xs=>if ps.toList.map (·.1)=List.range len∧len*k≤16777216∧0<k then some (.cB k xs) else none
      | _,_,_=>none
    | _=>none
  | .load t x =>
    match fx P t,cO P t,bN P t x with
    | some g,some n,some y=>some (.load g n y)
    | _,_,_=>none
  | .store t x y =>
    match cO P t,bN P t x,bN P t y with
    | some n,some x,some y=>if n=0 then none else some (.store n x y)
    | _,_,_=>none
  | .nilCheck x=>(bN P o.type x).map .qZ
  | .binOp op t x y _ =>
    match bN P t x,bN P t y with
    | some x, some y =>
      match P.underlying t with
      | some (.int _)=>some (.de op x y)
      | some .string=>match op with | .add=>some (.cat x y) | _=>some (.gP op x y)
      | some .bool=>match op with | .eql=>some (.rG false x y) | .neq=>some (.rG true x y) | _=>none
      | some (.struct _) | some (.array _ _) =>
        match Jc P t with
        | some ks=>match op with | .eql=>some (.jw false ks x y) | .neq=>some (.jw true ks x y) | _=>none
        | none=>none
      | _=>none
    | _,_=>none
  | .unOp .not _ x=>(bN P o.type x).map .not
  | .convert src dst x =>
    match P.underlying src,P.underlying dst,bN P src x with
    | some (.int _),some (.int k),some y=>some (.lS k y)
    | some (.slice e),some .string,some y=>match P.underlying e with | some (.int .u8)=>some (.qy y) | _=>none
    | _,_,_=>none
  | .makeFunc f first cap =>
    match gq P (List.replicate first.size 0) first.toList,gq P (List.replicate cap.size 0) cap.toList with
    | some a,some b=>some (.gG f a b)
    | _,_=>none
  | .slice t x lo hi mx =>
    match bN P t x,iJ P t lo,iJ P t hi,iJ P t mx with
    | some x, some lo, some hi, some mx =>
      match P.underlying t with
      | some (.slice e)=>match cO P e with | some k=>if mx.isSome=true→hi.isSome=true then some (.j_ k x lo hi mx) else none | none=>none
      | some .string=>match mx with | none=>some (.rj x lo hi) | some _=>none
      | _=>none
    | _,_,_,_=>none
  | .fieldAddr s x i =>
    match P.underlying s,bN P s x with
    | some (.struct fs), some y =>
      match fs[i]? with
      | some f=>match cO P f.type with | some n=>if n=0 then none else some (.lq f.offset y) | none=>none
      | none=>none
    | _,_=>none
  | .field s x i =>
    match P.underlying s,bN P s x with
    | some (.struct fs), some y =>
      match fs[i]? with
      | some f=>match fx P f.type,cO P f.type with | some g,some n=>some (.oq g f.offset n y) | _,_=>none
      | none=>none
    | _,_=>none
  | .indexAddr t x i =>
    match P.underlying t,bN P t x,bN P t i with
    | some (.slice e),some x,some i=>(cO P e).map fun k=>.jH k x i
    | some (.array m e),some x,some i=>(cO P e).map fun k=>.eJ m k x i
    | _,_,_=>none
  | .index t x i =>
    match P.underlying t,bN P t x,bN P t i with
    | some .string,some x,some i=>some (.pE x i)
    | _,_,_=>none
  | .extract x i=>(bN P o.type x).map fun y=>.ext y i
  | .call c =>
    match c.callee with
    | .value (.func f)=>(gq P c.argTypes.toList c.args.toList).map (.call f)
    | .value x =>
      match bN P 0 x,gq P c.argTypes.toList c.args.toList with
      | some y,some xs=>some (.fR y xs)
      | _,_=>none
    | .builtin .len =>
      match c.argTypes.toList,c.args.toList with
      | [t], [x] =>
        match P.underlying t,bN P t x with
        | some (.slice _),some y=>some (.qU y)
        | some .string,some y=>some (.qV y)
        | _,_=>none
      | _,_=>none
    | .builtin .append =>
      match c.argTypes.toList,c.args.toList with
      | [t, u], [s, x] =>
        match P.underlying t,P.underlying u,bN P t s,bN P u x with
        | some (.slice e), some (.slice e'), some s, some x =>
          match P.info? e,gW P e with
          | some i,some _=>if e=e' ∧ i.bytes≤4096∧0<i.size then some (.app i.size s x) else none
          | _,_=>none
        | some (.slice e), some .string, some s, some x =>
          match P.info? e,gW P e with
          | some i,some _=>match P.underlying e with | some (.int .u8)=>if i.size=1∧i.bytes=1 then some (.jr s x) else none | _=>none
          | _,_=>none
        | _,_,_,_=>none
      | _,_=>none
    | _=>none
  | _=>none
theorem Zm {E:Env}:∀{x:V} {v:Value},cv x v=true→R E x v:=by
  intro x v h;unfold cv at h;split at h<;>simp_all [R,qo]
theorem nz {E:Env}:∀{xs:List V} {vs:List Value},s8 xs vs=true→RL E xs vs
  | [],[],_=>by simp[RL]
  | [],_::_,h=>by simp[s8] at h
  | _::_,[],h=>by simp[s8] at h
  | x :: xs, v :: vs, h => by
    simp only[s8,bm] at h;simp only[RL];exact⟨Zm h.1,nz h.2⟩
theorem o_ {P:Program} {t:TypeId} {zs:List V} (h:gW P t=some zs) :
    ∃i z,P.info? t=some i∧i.zero=some z∧s8 zs z.cells.toList=true∧zs.length=i.size:=by
  unfold gW at h;split at h
  · rename_i i ys h1 h2;split at h
    · rename_i z hz;split at h
      · rename_i hc;simp only[aG] at h;subst h;exact⟨i,z,h1,hz,hc.1,hc.2⟩
      · simp at h
    · simp at h
  · simp at h
theorem YU {P:Program} {E:Env} {t:TypeId} {v:Value} {x:V} (h:F4 P t v=some x):R E x v:=by
  unfold F4 at h;split at h
  · split at h
    · simp only[aG] at h;subst h;simp[R,qo]
    · simp at h
  · rename_i vs;split at h
    · rename_i zs hz;split at h
      · rename_i hc;simp only[aG] at h;subst h;simp only[R];exact⟨vs,rfl,nz hc⟩
      · simp at h
    · simp at h
  all_goals first | (simp only[aG] at h;subst h;simp[R];done) | (simp at h)
theorem xJ {E:Env} {st:St} {a:Act} (h:RL E st.t a.tmps.toList) (n:Nat):R E (ev st (.s n)) (a.eval (.tmp n)):=by
  have:=B' h n undef
  simpa [ev,Act.eval,mw,List.getD] using this
theorem kr {P:Program} {E:Env} {st:St} {a:Act} {t:TypeId} {x:Operand} {y:X} (h:RL E st.t a.tmps.toList) (hx:bN P t x=some y) :
    R E (ev st y) (a.eval x):=by
  cases x with
  | tmp n=>simp only[bN,aG] at hx;subst hx;exact xJ h n
  | const v =>
    simp only[bN,cf] at hx;obtain⟨u,hu,rfl⟩:=hx;exact YU hu
  | func f=>simp only[bN,aG] at hx;subst hx;simp only[ev,R,Act.eval];exact⟨#[],#[],rfl,by simp[RL],by simp[RL]⟩
  | global g=>simp only[bN,aG] at hx;subst hx;simp only[ev,R,Act.eval]
theorem Iy {P:Program} {E:Env} {st:St} {a:Act} (h:RL E st.t a.tmps.toList):∀{ts:List TypeId} {xs:List Operand} {ys:List X},gq P ts xs=some ys →
    RL E (b9 st ys) (xs.map a.eval)
  | [],[],ys,hx=>by simp only[gq,aG] at hx;subst hx;simp[b9,RL]
  | [],_::_,_,hx=>by simp[gq] at hx
  | _::_,[],_,hx=>by simp[gq] at hx
  | t :: ts, x :: xs, ys, hx => by
    simp only[gq,fH,cf] at hx;obtain⟨y,h1,zs,h2,rfl⟩:=hx;simp only[b9,bL,RL];exact⟨kr h h1,Iy h h2⟩
def cI (E:Env) (a:Act) (d:Option Tmp) (K:V→St→Prop):Act→World→Prop :=
  fun a' w' => ∃E' v x al,E'.w=w' ∧ Fr E E' ∧ a7 E' al a∧R E' v x∧a' = a.put d x∧K v al
section
variable {P:Program} {E:Env} {st:St} {a:Act} {o:Oper} {K:V→St→Prop} {Q:Exit→Act→World→Prop}
theorem b8 (hs:a7 E st a) {v:V} {x:Value} (hr:(execOp a.eval o).run P E.w = .ok (.value x) E.w) (hv:R E v x) (hk:K v st):o.wp P a E.w (cI E a o.dst K) Q:=by
  unfold Oper.wp;rw[hr];exact⟨E,v,x,st,rfl,Fr.refl E,hs,hv,rfl,hk⟩
def Rd (E:Env) (cs:List V) (b o:Nat):Prop:=∀(j:Nat) x,cs[j]?=some x→∃v,E.w.cell? ⟨b,o+j,none⟩=some v∧R E x v
theorem Env.IJ (E:Env):E.nl.le E:=⟨fun _ _ _ h h' => ⟨h,h'⟩,fun _ _ h=>by simp at h,(Env.le.refl E).tok⟩
theorem Rd.mono {E E' : Env} (h:E.le E') (hw:E'.w=E.w) {cs:List V} {b o:Nat} (hr:Rd E cs b o):Rd E' cs b o:=fun j x hx=>by
  obtain⟨v,h1,h2⟩:=hr j x hx;exact⟨v,by rw[hw];exact h1,h2.mono _ h⟩
theorem Rd.S2 {E:Env} {cs:List V} {b:Nat} (h:gx E b cs):Rd E cs b 0:=by
  obtain⟨c,e,h1,h2,h3⟩:=h;intro j x hx;obtain⟨v,hv,hr⟩:=h3 j x hx;exact⟨v,by simp[World.cell?,h1,hv],hr⟩
theorem Rd.IU {E:Env}:∀{cs:List V} {b o:Nat},cJ E cs b o→Rd E cs b o
  | [],_,_,_=>fun j x hx=>by simp at hx
  | y :: ys, b, o, h => fun j x hx => by
    simp only[cJ] at h;obtain⟨⟨c,h1,_,_,h3⟩,h4⟩:=h;cases j with
    | zero=>simp at hx;subst hx;exact⟨c,h1,h3⟩
    | succ j =>
      simp at hx;obtain⟨v,hv,hr⟩:=Rd.IU h4 j x hx;exact⟨v,by rw[show o+(j+1)=o+1+j from by omega];exact hv,hr⟩
theorem Rd.drop {E:Env} {cs:List V} {b o:Nat} (h:Rd E cs b o) (n:Nat):Rd E (cs.drop n) b (o+n):=fun j x hx=>by
  rw[qf] at hx;obtain⟨v,hv,hr⟩:=h _ x hx;exact⟨v,by rw[show o+n+j=o+(n+j) from by omega];exact hv,hr⟩
theorem J4:∀{n:Nat} {cs xs:List V},takeN n cs=some xs→xs=cs.take n∧n≤cs.length
  | 0,cs,xs,h=>by simp[takeN] at h;subst h;simp
  | n+1,[],xs,h=>by simp[takeN] at h
  | n + 1, c :: cs, xs, h => by
    simp only[takeN,cf] at h;obtain⟨ys,h1,rfl⟩:=h;obtain⟨rfl,h2⟩:=J4 h1;simp;omega
theorem Rd.cells {E:Env}:∀{cs:List V} {b o:Nat},Rd E cs b o→∃vs,RL E cs vs∧∀(j:Nat) v,vs[j]?=some v→E.w.cell? ⟨b,o+j,none⟩=some v
  | [],_,_,_=>⟨[],by simp[RL],fun j v h=>by simp at h⟩
  | c :: cs, b, o, h => by
    obtain⟨v,h1,h2⟩:=h 0 c (by simp);obtain⟨vs,h3,h4⟩:=Rd.cells (cs:=cs) (b:=b) (o:=o+1) fun j x hx=>by
      obtain⟨v,hv,hr⟩:=h (j+1) x (by simpa using hx);exact⟨v,by rw[show o+1+j=o+(j+1) from by omega];exact hv,hr⟩
    refine⟨v::vs,?_,fun j u hu=>?_⟩
    · simp only[RL];exact⟨h2,h3⟩
    · cases j with
      | zero=>simp at hu;subst hu;simpa using h1
      | succ j=>simp at hu;rw[show o+(j+1)=o+1+j from by omega];exact h4 j u hu
theorem jq (b o j:Nat):(⟨b,o,none⟩:Addr).add j=⟨b,o+j,none⟩:=by
  unfold Addr.add;split<;>simp_all
theorem wk {t:TypeId} {g:Bool} (h:fx P t=some g) (w:World):(isAgg t).run P w = .ok g w:=by
  unfold fx at h;cases hu:P.underlying t with
  | none=>simp[hu] at h
  | some d =>
    simp only[hu] at h;simp only[isAgg,Sem.run_bind,run_underlying hu,Result.andThen_ok];cases d<;>simp_all
theorem kX {t:TypeId} {n:Nat} (h:cO P t=some n) (w:World):(sizeOf t).run P w = .ok n w:=by
  unfold cO at h;simp only[cf] at h;obtain⟨i,hi,rfl⟩:=h;simp[sizeOf,typeInfo,hi]
theorem run_load {t:TypeId} {g:Bool} {n:Nat} (ht:fx P t=some g) (hn:cO P t=some n) {cs:List V} {b o:Nat} (h:Rd E cs b o) {v:V} (hv:a9 g n cs=some v) :
    ∃x,(loadVar t ⟨b,o,none⟩).run P E.w = .ok x E.w∧R E v x:=by
  cases g with
  | false =>
    cases cs with
    | nil=>simp[a9] at hv
    | cons c cs =>
      simp only[a9,aG] at hv;subst hv;obtain⟨x,h1,h2⟩:=h 0 c (by simp);exact⟨x,by simp only[qk] at h1;simp[loadVar,wk ht,h1],h2⟩
  | true =>
    simp only[a9,cf] at hv;obtain⟨xs,h1,rfl⟩:=hv;obtain⟨rfl,h2⟩:=J4 h1;have h' : Rd E (cs.take n) b o:=fun j x hx=>by
      rw[BV] at hx;split at hx
      · exact h j x hx
      · simp at hx
    obtain⟨vs,h3,h4⟩:=h'.cells;have hl:=dS h3;have fc : vs.length=n:=by rw[←hl];simp;omega
    refine⟨.agg vs.toArray,?_,by simp only[R];exact⟨vs.toArray,rfl,by simpa using h3⟩⟩;have hc:=run_loadCells_list (P:=P) E.w ⟨b,o,none⟩ vs (fun j u hu=>by rw[jq];exact h4 j u hu);rw[fc] at hc;simp[loadVar,wk ht,kX hn,hc]
theorem R7 (hs:a7 E st a) {g:Bool} {n:Nat} {p:V} {v:V} {x:Value} (h:jb st g n p=some v) (hp:R E p x) :
    ∃b o cs,x = .pointer (some ⟨b,o,none⟩)∧Rd E cs b o∧a9 g n cs=some v:=by
  cases p with
  | ptr p off =>
    cases p with
    | loc i =>
      simp only[jb,Cq,fH] at h;obtain⟨cs,h1,h2⟩:=h;simp only[R] at hp;obtain⟨b,hb,rfl⟩:=hp;obtain⟨b',h3,_,h5⟩:=hs.bW.box i cs h1;rw[hb] at h3;simp only[aG] at h3;subst h3;exact⟨b,off,cs.drop off,rfl,by simpa using (Rd.S2 h5).drop off,h2⟩
    | out b =>
      simp only[jb,Cq,fH] at h;obtain⟨cs,h1,h2⟩:=h;simp only[R] at hp;subst hp;obtain⟨_,h5⟩:=hs.ok.box b cs h1;exact⟨b,off,cs.drop off,rfl,by simpa using ((Rd.S2 h5).mono E.IJ rfl).drop off,h2⟩
    | iB b =>
      simp only[jb,Cq,fH] at h;obtain⟨cs,h1,h2⟩:=h;simp only[R] at hp;subst hp;exact⟨b,off,cs.drop off,rfl,by simpa using ((Rd.IU (hs.ok.bH b cs h1)).mono E.IJ rfl).drop off,h2⟩
  | elt cs off =>
    simp only[jb] at h;simp only[R] at hp;obtain⟨b,o,rfl,h2⟩:=hp;exact⟨b,o+off,cs.drop off,rfl,((Rd.IU h2).mono E.IJ rfl).drop off,h⟩
  | _=>simp[jb] at h
theorem apL (hs:a7 E st a) {t:TypeId} {x:Operand} {g:Bool} {n:Nat} {y:X} (ho:o.op = .load t x) (ht:fx P t=some g) (hn:cO P t=some n) (hy:R E (ev st y) (a.eval x))
    (h:opt (jb st g n (ev st y)) (K2 K st)):o.wp P a E.w (cI E a o.dst K) Q:=by
  unfold opt K2 at h;split at h
  · rename_i v hv;obtain⟨b,off,cs,h1,h2,h3⟩:=R7 hs hv hy;obtain⟨u,h4,h5⟩:=run_load ht hn h2 h3;exact b8 hs (by simp[execOp,ho,Instr.loadAt,Instr.sureAddr,h1,h4]) h5 h
  · exact h.elim
end
structure Ext (w w' : World):Prop where
  os:w'.os=w.os
  output:w'.output=w.output
  tape:w'.tape=w.tape
  size:w.heap.size≤w'.heap.size
  block:∀b,b<w.heap.size→w'.heap[b]?=w.heap[b]?
  ew:∀a,w'.frozen? a=w.frozen? a
theorem Ext.refl (w:World):Ext w w:=⟨rfl,rfl,rfl,bt _,fun _ _=>rfl,fun _=>rfl⟩
theorem Ext.drew {w w' : World} (h:Ext w w'):Ext w w'.drew:=⟨h.os,h.output,h.tape,h.size,h.block,h.ew⟩
theorem Ext.alloc {w w' : World} (h:Ext w w') (c:Array Value) (t:TypeId):Ext w (w'.alloc (.cells c t)) :=
  ⟨h.os,h.output,h.tape,by simp;have:=h.size;omega,fun b hb=>(heap_alloc_old w' _ (ql hb h.size)).trans (h.block b hb),fun a=>(aeP w' c t a).trans (h.ew a)⟩
theorem xx {w w' : World} {b o:Nat} (h:w'.heap[b]?=w.heap[b]?):w'.cell? ⟨b,o,none⟩=w.cell? ⟨b,o,none⟩:=by simp[World.cell?,h]
theorem Sx {w:World} {b o:Nat} {c:Value} (h:w.cell? ⟨b,o,none⟩=some c):b<w.heap.size:=World.block_lt_of_cell? (a:=⟨b,o,none⟩) w h
theorem iK {w:World} {b:Nat} {x:Obj} (h:w.heap[b]?=some x):b<w.heap.size:=(fG.1 h).1
theorem tz {E E' : Env} (hf:∀b,E.w.heap.size≤b→E.role b = .const) (hx:Ext E.w E'.w) (hr:∀b,b<E.w.heap.size→E'.role b=E.role b)
    (ht:∀t n,E.aB t=some n→E'.aB t=some n):Fr E E' := by
  refine⟨hx.os,hx.output,hx.tape,hx.size,hx.ew,?_,?_,?_,?_,?_,?_,fun b c e hb=>⟨c,(hx.block b (iK hb)).trans hb,rfl⟩⟩
  · intro b o c hc hv;have hb:=Sx hv;exact⟨by rw[hr b hb];exact hc,by rw[xx (hx.block b hb)];exact hv⟩
  · intro t n hn;refine⟨n,ht t n hn,bt _,fun _ b c hb=>?_⟩;have ag:b<E.w.heap.size:=by
      rcases mz b E.w.heap.size with h | h
      · exact h
      · rw[hf b h] at hb;simp at hb
    exact⟨by rw[hr b ag];exact hb,fun cs e hcs=>⟨cs,by rw[hx.block b ag];exact hcs,rfl⟩⟩
  · intro b hb _;exact⟨hx.block b hb,hr b hb⟩
  · intro b hb h;rw[hr b hb] at h;exact .inl h
  · intro b t c hb h;rw[hr b hb] at h;exact⟨c,h⟩
  · intro b i hb h;rw[hr b hb] at h;exact⟨i,h⟩
theorem gx.mono {E E' : Env} {b:Nat} {cs:List V} (h:E.le E') (hb:E'.w.heap[b]?=E.w.heap[b]?) (k:gx E b cs):gx E' b cs:=by
  obtain⟨c,e,h1,h2,h3⟩:=k;exact⟨c,e,by rw[hb];exact h1,h2,fun j x hx=>let ⟨v,hv,hr⟩:=h3 j x hx;⟨v,hv,hr.mono _ h⟩⟩
theorem yD {E E' : Env} {σ:ab} (h:E.ok σ) (hle:E.nl.le E'.nl) (hb:∀b,E.role b = .mb→b<E.w.heap.size→E'.role b = .mb∧E'.w.heap[b]?=E.w.heap[b]?)
    (ht:∀t n,E.aB t=some n→E'.aB t=some n) (hf:∀b,E'.w.heap.size≤b→E'.role b = .const) (hn:∃N,∀t,N≤t→E'.aB t=none):E'.ok σ:=by
  refine⟨fun b cs hcs=>?_,fun t n i_=>ht t n (h.aB t n i_),hf,hn,fun b cs hc=>cJ.mono _ hle (h.bH b cs hc)⟩;obtain⟨h1,h2⟩:=h.box b cs hcs;have ag:b<E.w.heap.size:=by obtain⟨c,e,h3,_⟩:=h2;exact iK (w:=E.w) h3
  obtain⟨h3,h4⟩:=hb b h1 ag;exact⟨h3,h2.mono hle h4⟩
theorem mc {E E' : Env} {ls:List (List V)} (h:E.bW ls) (hle:E.le E') (hb:∀b i,E.role b = .fY i→b<E.w.heap.size→E'.role b = .fY i∧E'.w.heap[b]?=E.w.heap[b]?)
    (hl:∀i,ls.length≤i→E'.loc i=none):E'.bW ls:=by
  refine⟨fun i cs hcs=>?_,hl⟩;obtain⟨b,h1,h2,h3⟩:=h.box i cs hcs;have ag:b<E.w.heap.size:=by obtain⟨c,e,h3,_⟩:=h3;exact iK (w:=E.w) h3
  obtain⟨h4,h5⟩:=hb b i h2 ag;exact⟨b,hle.loc i b h1,h4,h3.mono hle h5⟩
section
variable {P:Program} {E:Env} {st:St} {a:Act} {o:Oper} {K:V→St→Prop} {Q:Exit→Act→World→Prop}
theorem yM (hs:a7 E st a) {w' : World} (hx:Ext E.w w'):Fr E {E with w:=w'}∧E.le {E with w:=w'}∧a7 {E with w:=w'} st a:=by
  have aQ:Fr E {E with w:=w'}:=tz hs.ok.fresh hx (fun _ _=>rfl) (fun _ _ h=>h);have hle:E.le {E with w:=w'}:=aQ.le fun _ _ h=>h
  refine⟨aQ,hle,yD hs.ok aQ.nl (fun b h hb=>⟨h,hx.block b hb⟩) (fun _ _ h=>h) (fun b hb=>hs.ok.fresh b (sS hx.size hb)) hs.ok.nt,
    mc hs.bW hle (fun b i h hb=>⟨h,hx.block b hb⟩) hs.bW.none,hs.defers,RL.mono _ hle hs.slot⟩
theorem VH (hs:a7 E st a) {w' : World} (hx:Ext E.w w') {v:V} {x:Value} (hr:(execOp a.eval o).run P E.w = .ok (.value x) w') (hv:R {E with w:=w'} v x) (hk:K v st) :
    o.wp P a E.w (cI E a o.dst K) Q:=by
  unfold Oper.wp;rw[hr];obtain⟨h1,_,h3⟩:=yM hs hx;exact⟨_,v,x,st,rfl,h1,h3,hv,rfl,hk⟩
theorem VJ (hs:a7 E st a) {zs:List V} {c:Array Value} {e:TypeId} (hr:(execOp a.eval o).run P E.w = .ok (.value (.pointer (some ⟨E.w.heap.size,0,none⟩))) (E.w.alloc (.cells c e)))
    (hz:RL E zs c.toList) (hk:K (.ptr (.loc st.loc.length) 0) ⟨st.t,st.loc++[zs],st.out⟩):o.wp P a E.w (cI E a o.dst K) Q:=by
  unfold Oper.wp;rw[hr]
  let E' : Env:={w:=E.w.alloc (.cells c e),role:=fun b=>if b=E.w.heap.size then .fY st.loc.length else E.role b,
                    loc:=fun i=>if i=st.loc.length then some E.w.heap.size else E.loc i,aB:=E.aB}
  have hx:Ext E.w E'.w:=(Ext.refl _).alloc _ _;have aQ:Fr E E' := tz hs.ok.fresh hx (fun b hb=>by simp only[E'];rw[ah (by omega)]) (fun _ _ h=>h);have hle:E.le E' := aQ.le fun i b h=>by
    simp only[E'];split
    · rename_i hi;rw[hs.bW.none i (by omega)] at h;simp at h
    · exact h
  refine⟨E',_,_,⟨st.t,st.loc++[zs],st.out⟩,rfl,aQ,⟨?_,⟨?_,?_⟩,hs.defers,RL.mono _ hle hs.slot⟩,?_,rfl,hk⟩
  · refine yD hs.ok aQ.nl (fun b h hb=>⟨by simp only[E'];rw[ah (by omega)];exact h,hx.block b hb⟩) (fun _ _ h=>h) (fun b hb=>?_) hs.ok.nt;simp only[E',World.size_alloc] at hb ⊢;rw[ah (by omega)];exact hs.ok.fresh b (by omega)
  · intro i cs hcs
    rcases zh i st.loc.length with hi | hi | hi
    · rw[nk hi] at hcs;obtain⟨b,h1,h2,h3⟩:=hs.bW.box i cs hcs;have ag:b<E.w.heap.size:=by obtain⟨c,e,h3,_⟩:=h3;exact iK (w:=E.w) h3
      exact⟨b,hle.loc i b h1,by simp only[E'];rw[ah (by omega)];exact h2,h3.mono hle (hx.block b ag)⟩
    · subst hi;rw[uQ (bt _)] at hcs;simp at hcs;subst hcs;have hl:=dS hz;refine⟨E.w.heap.size,by simp[E'],by simp[E'],c,e,heap_alloc_new _ _,by simp at hl;omega,fun j x hx=>?_⟩;obtain⟨v,hv,bF⟩:=nr hz j x hx;exact⟨v,by simpa using hv,bF.mono _ hle⟩
    · rw[uR (by simp;omega)] at hcs;simp at hcs
  · intro i hi;simp at hi;simp only[E'];rw[ah (by omega)];exact hs.bW.none i (by omega)
  · simp only[R];exact⟨E.w.heap.size,by simp[E'],rfl⟩
theorem sW {x:V} {v:Value} {n:Nat} (h:R E x v) (hw:x.wd=some n):RL E x.cells v.cells.toList∧v.cells.size=n:=by
  cases x<;>simp only[V.wd,aG] at hw<;>try simp at hw
  case agg cs =>
    simp only[R] at h;obtain⟨vs,rfl,h2⟩:=h
    have:=dS h2
    exact⟨by simpa [V.cells,Value.cells] using h2,by simp[Value.cells];simp at this;omega⟩
  case raw u =>
    simp only[R] at h;subst h;obtain⟨ho,rfl⟩:=hw;cases v<;>simp_all [Value.oneCell',Value.cells,V.cells,RL,R]
  case ptr p off =>
    subst hw;have h' := h;cases p
    · simp only[R] at h;obtain⟨b,_,rfl⟩:=h;simp[Value.cells,V.cells,RL];exact h'
    · simp only[R] at h;subst h;simp[Value.cells,V.cells,RL];exact h'
    · simp only[R] at h;subst h;simp[Value.cells,V.cells,RL];exact h'
  all_goals
    subst hw;have h' := h;simp only[R] at h
    first
      | (subst h;simp[Value.cells,V.cells,RL];exact h')
      | (obtain⟨b,o,rfl,_⟩:=h;simp[Value.cells,V.cells,RL];exact h')
theorem sf:∀{xs:List V} {vs:List Value},RL E xs vs→bA xs=true→∀v∈vs,v.oneCell' = true
  | [],[],_,_=>fun v hv=>by simp at hv
  | [],_::_,h,_=>by simp[RL] at h
  | _::_,[],h,_=>by simp[RL] at h
  | x :: xs, v :: vs, h, ho => by
    simp only[RL] at h;simp only[bA,bm] at ho;intro u hu
    rcases iR.1 hu with rfl | hu
    · obtain⟨hr,_⟩:=h;have h1:=ho.1;cases x<;>simp only[V.one] at h1<;>try (simp at h1;done)
      case ptr p off=>cases p<;>simp only[R] at hr<;>first | (subst hr;rfl) | (obtain⟨b,_,rfl⟩:=hr;rfl)
      all_goals
        simp only[R] at hr
        first
          | (subst hr;first | rfl | exact h1)
          | (obtain⟨b,o,rfl,_⟩:=hr;rfl)
    · exact sf h.2 ho.2 u hu
theorem G3:∀{n:Nat} {xs:List V},bD n xs=true→n≤xs.length
  | 0,_,_=>pe _
  | n+1,[],h=>by simp[bD] at h
  | n+1,x::xs,h=>by simp only[bD] at h;have:=G3 h;simp;omega
theorem S8:∀{l xs:List V},xs.length≤l.length→∀j:Nat,(over l xs)[j]?=if j<xs.length then xs[j]? else l[j]?
  | [],[],_,j=>by simp[over]
  | [],_::_,h,_=>by simp at h
  | a::l,[],_,j=>by simp[over]
  | a :: l, x :: xs, h, j => by
    cases j with
    | zero=>simp[over]
    | succ j=>simp[over,S8 (l:=l) (xs:=xs) (by simpa using h)]
theorem S9:∀{l xs:List V},(over l xs).length=l.length
  | [],_=>by simp[over]
  | a::l,[]=>by simp[over]
  | a::l,x::xs=>by simp[over,S9]
theorem JP:∀{l:List V} {n:Nat} {xs:List V},(setAt l n xs).length=l.length
  | l,0,xs=>by cases l<;>simp[setAt,S9]
  | [],n+1,xs=>by simp[setAt]
  | a::l,n+1,xs=>by simp[setAt,JP]
theorem JO:∀{l:List V} {n:Nat} {xs:List V},n+xs.length≤l.length→∀j:Nat,
    (setAt l n xs)[j]?=if j<n then l[j]? else if j<n+xs.length then xs[j - n]? else l[j]?
  | l, 0, xs, h, j => by
    have h' : setAt l 0 xs=over l xs:=by cases l<;>simp[setAt]
    rw[h',S8 (by omega)];simp
  | [],n+1,xs,h,j=>by simp at h
  | a :: l, n + 1, xs, h, j => by
    cases j with
    | zero=>simp[setAt]
    | succ j =>
      have:=JO (l:=l) (n:=n) (xs:=xs) (by simp at h;omega) j
      simp only[setAt,List.getElem?_cons_succ,this]
      by_cases h1:j<n
      · rw[aw h1,aw (show j+1<n+1 by omega)]
      · rw[ah h1,ah (show ¬j+1<n+1 by omega)]
        by_cases h2:j<n+xs.length
        · rw[aw h2,aw (show j+1<n+1+xs.length by omega),show j+1 - (n+1)=j - n from by omega]
        · rw[ah h2,ah (show ¬j+1<n+1+xs.length by omega)]
theorem JC {t:TypeId} {n:Nat} (hn:cO P t=some n) {w:World} {b off:Nat} {c:Array Value} {e:TypeId} (hb:w.heap[b]?=some (.cells c e (0,0))) {v:Value} (hv:v.cells.size=n)
    (rY:off+n≤c.size) (h1:∀u∈v.cells.toList,u.oneCell' = true) :
    (storeVar t ⟨b,off,none⟩ v).run P w = .ok () (w.setRow b (c.toList.take off++v.cells.toList++c.toList.drop (off+n)).toArray):=by
  have h:=run_storeCells_at (P:=P) b off e v.cells.toList 0 c w hb (by simp;omega) h1;simp only[qk,wJ,hv] at h;simp[storeVar,kX hn,hv,h]
theorem Bj {c vs:List Value} {off:Nat} (h:off+vs.length≤c.length) (j:Nat) :
    (c.take off++vs++c.drop (off+vs.length))[j]?=if j<off then c[j]? else if j<off+vs.length then vs[j - off]? else c[j]?:=by
  have hl:(c.take off).length=off:=by simp;omega
  by_cases h1:j<off
  · rw[aw h1,eh,nk (by omega),BV,aw h1]
  · rw[ah h1]
    by_cases h2:j<off+vs.length
    · rw[aw h2,eh,uQ (by omega),nk (by omega),hl]
    · rw[ah h2,uQ (by simp;omega),qf];congr 1;simp;omega
theorem Cr {E' : Env} {b:Nat} {cs:List V} {c:Array Value} {e:TypeId} (hc:cs.length≤c.size) (hb:∀(j:Nat) x,cs[j]?=some x→∃v,c[j]?=some v∧R E' x v)
    {xs:List V} {vs:List Value} (hx:RL E' xs vs) {off:Nat} (rY:off+xs.length≤cs.length)
    (hn:E'.w.heap[b]?=some (.cells (c.toList.take off++vs++c.toList.drop (off+vs.length)).toArray e (0,0))):gx E' b (setAt cs off xs):=by
  have hl:=dS hx;refine⟨_,e,hn,?_,fun j x hj=>?_⟩
  · simp[JP];omega
  · rw[JO rY] at hj;have hs:=Bj (c:=c.toList) (vs:=vs) (off:=off) (by simp;omega) j;simp only[V5];rw[hs]
    by_cases h1:j<off
    · rw[aw h1] at hj ⊢;simpa using hb j x hj
    · rw[ah h1] at hj ⊢
      by_cases h2:j<off+xs.length
      · rw[aw h2] at hj;rw[aw (by omega)];exact nr hx _ x hj
      · rw[ah h2] at hj;rw[ah (by omega)];simpa using hb j x hj
end
mutual
theorem R.ma:∀(x:V) {E E' : Env} (_:E.nl.le E'.nl) (_:x.bS=true) {v:Value},R E x v→R E' x v
  | .any,_,_,_,_,_,_=>by simp only[R]
  | .bool _,_,_,_,_,_,hr=>by simp only[R] at hr ⊢;exact hr
  | .int _ _,_,_,_,_,_,hr=>by simp only[R] at hr ⊢;exact hr
  | .str _,_,_,_,_,_,hr=>by simp only[R] at hr ⊢;exact hr
  | .kS,_,_,_,_,_,hr=>by simp only[R] at hr ⊢;exact hr
  | .ptr (.loc i) _,_,_,_,hn,_,_=>by simp[V.bS] at hn
  | .ptr (.out _) _,_,_,_,_,_,hr=>by simp only[R] at hr ⊢;exact hr
  | .ptr (.iB _) _,_,_,_,_,_,hr=>by simp only[R] at hr ⊢;exact hr
  | .elt cs _, _, _, h, _, _, hr => by
    simp only[R] at hr ⊢;obtain⟨b,o,h1,h2⟩:=hr;exact⟨b,o,h1,cJ.mono cs h h2⟩
  | .sl t k l, E, E', h, _, _, hr => by
    simp only[R] at hr ⊢;obtain⟨a,cap,h1,h2,h3,h4⟩:=hr;have h4' : qo E.nl k l.length a cap t:=h4;refine⟨a,cap,h1,h2,?_,(h4'.mono h:qo E'.nl k l.length a cap t)⟩
    rcases h3 with h3 | ⟨b,o,h3,h5⟩
    · exact .inl h3
    · exact .inr ⟨b,o,h3,dE.mono l h h5⟩
  | .agg cs, _, _, h, hn, _, hr => by
    simp only[R] at hr ⊢;simp only[V.bS] at hn;obtain⟨vs,h1,h2⟩:=hr;exact⟨vs,h1,RL.ma cs h hn h2⟩
  | .aT cs, _, _, h, hn, _, hr => by
    simp only[R] at hr ⊢;simp only[V.bS] at hn;obtain⟨vs,h1,h2⟩:=hr;exact⟨vs,h1,RL.ma cs h hn h2⟩
  | .fn _ first cap, _, _, h, hn, _, hr => by
    simp only[R] at hr ⊢;simp only[V.bS,bm] at hn;obtain⟨fs,cs,h1,h2,h3⟩:=hr;exact⟨fs,cs,h1,RL.ma first h hn.1 h2,RL.ma cap h hn.2 h3⟩
  | .raw _,_,_,_,_,_,hr=>by simp only[R] at hr ⊢;exact hr
theorem RL.ma:∀(l:List V) {E E' : Env} (_:E.nl.le E'.nl) (_:bd l=true) {vs:List Value},RL E l vs→RL E' l vs
  | [],_,_,_,_,[],_=>by simp only[RL]
  | [],_,_,_,_,_::_,hr=>by simp only[RL] at hr
  | _::_,_,_,_,_,[],hr=>by simp only[RL] at hr
  | x :: xs, _, _, h, hn, v :: vs, hr => by
    simp only[RL] at hr ⊢;simp only[bd,bm] at hn;exact⟨R.ma x h hn.1 hr.1,RL.ma xs h hn.2 hr.2⟩
end
theorem CQ {E:Env} {b:Nat} {c new:Array Value} {e:TypeId} (hb:E.w.heap[b]?=some (.cells c e (0,0))) (hr:(∃i,E.role b = .fY i)∨E.role b = .mb) (bK:new.size=c.size) :
    Fr E {E with w:=E.w.setRow b new}:=by
  refine⟨rfl,rfl,rfl,by simp,zQ hb,?_,?_,?_,fun _ _ h=>.inl h,fun _ _ c _ h=>⟨c,h⟩,fun _ i _ h=>⟨i,h⟩,fun b' c' e' hc=>?_⟩
  · intro b' o v hc hv;have aH:b' ≠ b:=by
      rintro rfl
      rcases hr with ⟨i,hi⟩ | hi<;>rw[hi] at hc<;>exact hc.elim
    exact⟨hc,by rw[cell_setRow_other E.w b new ⟨b',o,none⟩ aH];exact hv⟩
  · intro t n hn;refine⟨n,hn,bt _,fun _ b' k hk=>⟨hk,fun cs e' hcs=>?_⟩⟩;have aH:b' ≠ b:=by
      rintro rfl
      rcases hr with ⟨i,hi⟩ | hi<;>rw[hi] at hk<;>simp at hk
    exact⟨cs,by simp only[setRow_other E.w b b' new aH];exact hcs,rfl⟩
  · intro b' _ hk;have aH:b' ≠ b:=by
      rintro rfl
      rcases hr with ⟨i,hi⟩ | hi<;>rw[hi] at hk<;>simp at hk
    exact⟨setRow_other E.w b b' new aH,rfl⟩
  · by_cases bJ:b' = b
    · subst bJ;rw[hb] at hc;simp only[aG,Obj.cells.injEq] at hc;obtain⟨rfl,rfl,_⟩:=hc;exact⟨new,setRow_heap E.w b' c new e _ hb,bK⟩
    · exact⟨c',(setRow_other E.w b b' new bJ).trans hc,rfl⟩
theorem ab.cH (σ:ab) (b:Nat) (cs:List V):(σ.set b cs).box b=some cs:=by simp[ab.set]
theorem ab.cN (σ:ab) {b x:Nat} (cs:List V) (h:x≠b):(σ.set b cs).box x=σ.box x:=by simp[ab.set,h]
section
variable {P:Program} {E:Env} {st:St} {a:Act} {o:Oper} {K:V→St→Prop} {Q:Exit→Act→World→Prop}
theorem Vc {t:TypeId} {n:Nat} (iD:0<n) (hn:cO P t=some n) {b off:Nat} {cs:List V} {c:Array Value} {e:TypeId} (hb:E.w.heap[b]?=some (.cells c e (0,0))) (hlen:cs.length≤c.size)
    {ay:V} {v:Value} (hy:R E ay v) (hh:bD n (cs.drop off)=true) (qQ:ay.wd=some n) (dH:bA ay.cells=true) :
    ∃vs:List Value,RL E ay.cells vs∧off+ay.cells.length≤cs.length ∧
      (storeVar t ⟨b,off,none⟩ v).run P E.w = .ok () (E.w.setRow b (c.toList.take off++vs++c.toList.drop (off+vs.length)).toArray) ∧
      (E.w.setRow b (c.toList.take off++vs++c.toList.drop (off+vs.length)).toArray).heap[b]?=some (.cells (c.toList.take off++vs++c.toList.drop (off+vs.length)).toArray e (0,0)):=by
  obtain⟨ou,bK⟩:=sW hy qQ;have hl:=dS ou;have hle:=G3 hh;simp at hle hl;have hcs:off+n≤cs.length:=by omega
  refine⟨v.cells.toList,ou,by omega,?_,setRow_heap E.w b c _ e _ hb⟩
  have:=JC (P:=P) (off:=off) hn hb bK (by omega) (sf ou dH)
  rw[this];simp[bK]
theorem Ek {t:TypeId} {b off:Nat} {v:Value} {w w' : World} (h:(storeVar t ⟨b,off,none⟩ v).run P w = .ok () w') :
    (Instr.storeAt t (.pointer (some ⟨b,off,none⟩)) v).run P w = .ok () w' := by
  simp[Instr.storeAt,Instr.sureAddr,h]
theorem VL (hs:a7 E st a) {t:TypeId} {x y:Operand} {n:Nat} {ax ay:V} (iD:0<n) (ho:o.op = .store t x y) (hn:cO P t=some n) (hx:R E ax (a.eval x)) (hy:R E ay (a.eval y))
    {al : St} (h:cr st n ay ax=some al) (hk:K .any al):o.wp P a E.w (cI E a o.dst K) Q:=by
  cases ax with
  | ptr p off =>
    cases p with
    | iB b=>simp[cr] at h
    | loc i =>
      simp only[cr,fH] at h;obtain⟨cs,h1,h2⟩:=h;split at h2
      case isFalse=>simp at h2
      rename_i hc;obtain⟨hh,qQ,dH⟩:=hc;simp only[aG] at h2;subst h2;simp only[R] at hx;obtain⟨b,hb,hx⟩:=hx;obtain⟨b',h3,cu,c,e,dn,hlen,lx⟩:=hs.bW.box i cs h1;rw[hb] at h3;simp only[aG] at h3;subst h3;obtain⟨vs,ou,rY,cg,fe⟩:=Vc (P:=P) (t:=t) iD hn dn hlen hy hh qQ dH;have aQ:=CQ (E:=E) (new:=(c.toList.take off++vs++c.toList.drop (off+vs.length)).toArray) dn (.inl ⟨i,cu⟩) (by have:=dS ou;simp;omega);have hle:=aQ.le fun _ _ h=>h
      have lv:=Cr (E' := {E with w:=E.w.setRow b (c.toList.take off++vs++c.toList.drop (off+vs.length)).toArray}) hlen
        (fun j x hj=>let ⟨u,h1,h2⟩:=lx j x hj;⟨u,h1,h2.mono _ hle⟩) (RL.mono _ hle ou) rY fe
      generalize (c.toList.take off++vs++c.toList.drop (off+vs.length)).toArray=new at cg fe aQ hle lv;have iY : ∀b',b' ≠ b→(E.w.setRow b new).heap[b']?=E.w.heap[b']?:=fun b' aH=>setRow_other E.w b b' new aH
      unfold Oper.wp;rw[show (execOp a.eval o).run P E.w = .ok .skip (E.w.setRow b new) from by simp[execOp,ho,hx,Ek cg]];refine⟨{E with w:=E.w.setRow b new},.any,undef,⟨st.t,st.loc.set i (setAt cs off ay.cells),st.out⟩,rfl,aQ,⟨?_,⟨?_,?_⟩,hs.defers,RL.mono _ hle hs.slot⟩,by simp[R],rfl,hk⟩
      · exact yD hs.ok aQ.nl (fun b' hr _=>⟨hr,iY b' (by rintro rfl;rw[cu] at hr;simp at hr)⟩) (fun _ _ h=>h) (fun b' bl => hs.ok.fresh b' (by simpa using bl)) hs.ok.nt
      · intro j ds hj
        by_cases dL:j=i
        · subst dL;have ag:j<st.loc.length:=(dj.1 h1).1;simp only[KT ag,aG] at hj;subst hj;exact⟨b,hb,cu,lv⟩
        · simp only[zf (Ne.symm dL)] at hj;obtain⟨b',k1,k2,k3⟩:=hs.bW.box j ds hj;exact⟨b',k1,k2,k3.mono hle (iY b' (by rintro rfl;rw[cu] at k2;simp at k2;exact dL k2.symm))⟩
      · intro j hj;exact hs.bW.none j (by simpa using hj)
    | out b =>
      simp only[cr,fH] at h;obtain⟨cs,h1,h2⟩:=h;split at h2
      case isFalse=>simp at h2
      rename_i hc;obtain⟨hh,qQ,dH,lV⟩:=hc;simp only[aG] at h2;subst h2;simp only[R] at hx;obtain⟨cu,c,e,dn,hlen,lx⟩:=hs.ok.box b cs h1;have C1 : E.w.heap[b]?=some (.cells c e (0,0)):=dn;obtain⟨vs,ou,rY,cg,fe⟩:=Vc (P:=P) (t:=t) iD hn C1 hlen hy hh qQ dH;have aQ:=CQ (E:=E) (new:=(c.toList.take off++vs++c.toList.drop (off+vs.length)).toArray) C1 (.inr cu) (by have:=dS ou;simp;omega);have hle:=aQ.le fun _ _ h=>h
      have lv:=Cr (E' := Env.nl {E with w:=E.w.setRow b (c.toList.take off++vs++c.toList.drop (off+vs.length)).toArray}) hlen
        (fun j x hj=>let ⟨u,h1,h2⟩:=lx j x hj;⟨u,h1,h2.mono _ aQ.nl⟩) (RL.mono _ aQ.nl (RL.ma (E:=E) (E' := E.nl) _ (Env.le.refl E.nl) lV ou)) rY fe
      generalize (c.toList.take off++vs++c.toList.drop (off+vs.length)).toArray=new at cg fe aQ hle lv;have iY : ∀b',b' ≠ b→(E.w.setRow b new).heap[b']?=E.w.heap[b']?:=fun b' aH=>setRow_other E.w b b' new aH
      unfold Oper.wp;rw[show (execOp a.eval o).run P E.w = .ok .skip (E.w.setRow b new) from by simp[execOp,ho,hx,Ek cg]];refine⟨{E with w:=E.w.setRow b new},.any,undef,⟨st.t,st.loc,st.out.set b (setAt cs off ay.cells)⟩,rfl,aQ,⟨⟨?_,hs.ok.aB,fun b' bl => hs.ok.fresh b' (by simpa using bl),hs.ok.nt,fun b cs hc=>cJ.mono _ aQ.nl (hs.ok.bH b cs hc)⟩,
        mc hs.bW hle (fun b' i hr _=>⟨hr,iY b' (by rintro rfl;rw[cu] at hr;simp at hr)⟩) hs.bW.none,hs.defers,RL.mono _ hle hs.slot⟩,by simp[R],rfl,hk⟩
      intro b' ds iX
      by_cases bJ:b' = b
      · subst bJ;rw[ab.cH] at iX;simp only[aG] at iX;subst iX;exact⟨cu,lv⟩
      · rw[ab.cN _ _ bJ] at iX;obtain⟨k1,k2⟩:=hs.ok.box b' ds iX;exact⟨k1,k2.mono aQ.nl (iY b' bJ)⟩
  | _=>simp[cr] at h
end
def dm.jC:dm→dm
  | .fY _=>.jZ
  | r=>r
theorem dm.Q5 (r:dm) (o:Nat):r.jC.fp o↔r.fp o:=by cases r<;>simp[dm.jC,dm.fp]
def Env.call (E:Env):Env:={w:=E.w,role:=fun b=>(E.role b).jC,loc:=fun _=>none,aB:=E.aB}
def dm.back:dm→dm→dm
  | .fY i,_=>.fY i
  | _,r=>r
def Env.back (E E' : Env):Env:={w:=E'.w,role:=fun b=>(E.role b).back (E'.role b),loc:=E.loc,aB:=E'.aB}
theorem FN (E:Env):E.nl.le E.call.nl :=
  ⟨fun b o c hc hv=>⟨(dm.Q5 _ _).2 hc,hv⟩,fun _ _ h=>by simp at h,fun t n hn=>⟨n,hn,bt _,fun _ b c hb=>⟨by
    show (E.role b).jC=_;have bl : E.role b = .eY t c:=hb;rw[bl];rfl,fun cs _ hc=>⟨cs,hc,rfl⟩⟩⟩⟩
theorem Yd {E:Env} {σ:ab} (h:E.ok σ):E.call.ok σ:=by
  refine⟨fun b cs hcs=>?_,h.aB,fun b hb=>?_,h.nt,fun b cs hc=>cJ.mono _ (FN E) (h.bH b cs hc)⟩
  · obtain⟨h1,h2⟩:=h.box b cs hcs;exact⟨by show (E.role b).jC=_;rw[h1];rfl,h2.mono (FN E) rfl⟩
  · show (E.role b).jC=_;rw[h.fresh b hb];rfl
section
variable {E E' : Env} (hf:∀b,E.w.heap.size≤b→E.role b = .const) (h:Fr E.call E')
include hf h in
theorem Cm {b i:Nat} (hb:E.role b = .fY i):b<E.w.heap.size∧E'.role b = .jZ∧E'.w.heap[b]?=E.w.heap[b]?:=by
  have ag:b<E.w.heap.size:=by
    rcases mz b E.w.heap.size with h | h
    · exact h
    · rw[hf b h] at hb;simp at hb
  have hr:E.call.role b = .jZ:=by show (E.role b).jC=_;rw[hb];rfl
  obtain⟨h1,h2⟩:=h.same b ag (.inr hr);exact⟨ag,h2.trans hr,h1⟩
include hf h in
theorem OG (b o:Nat):((E.back E').role b).fp o↔(E'.role b).fp o:=by
  show (((E.role b).back (E'.role b)).fp o↔_);cases hb:E.role b with
  | fY i =>
    obtain⟨_,h2,_⟩:=Cm hf h hb;simp[dm.back,h2,dm.fp]
  | _=>simp[dm.back]
include hf h in
theorem OH {b t c:Nat} (hb:E'.role b = .eY t c):(E.back E').role b = .eY t c:=by
  show (E.role b).back (E'.role b)=_;cases hr:E.role b with
  | fY i =>
    obtain⟨_,h2,_⟩:=Cm hf h hr;rw[hb] at h2;simp at h2
  | _=>simp[dm.back,hb]
include hf h in
theorem Xi {b:Nat} (hb:E'.role b = .mb):(E.back E').role b = .mb:=by
  show (E.role b).back (E'.role b)=_;cases hr:E.role b with
  | fY i =>
    obtain⟨_,h2,_⟩:=Cm hf h hr;rw[hb] at h2;simp at h2
  | _=>simp[dm.back,hb]
include hf h in
theorem Xh:E'.nl.le (E.back E').nl :=
  ⟨fun b o _ hc hv=>⟨(OG hf h b o).2 hc,hv⟩,fun _ _ h=>by simp at h,fun _ n hn=>⟨n,hn,bt _,fun _ _ _ hb=>⟨OH hf h hb,fun cs _ hc=>⟨cs,hc,rfl⟩⟩⟩⟩
include hf h in
theorem Xg:Fr E (E.back E'):=by
  refine⟨h.os,h.output,h.tape,h.size,h.ew,?_,?_,?_,?_,?_,?_,h.shape⟩
  · intro b o c hc hv;obtain⟨h1,h2⟩:=h.cell b o c ((dm.Q5 _ _).2 hc) hv;exact⟨(OG hf h b o).2 h1,h2⟩
  · intro t n hn;obtain⟨n',h1,h2,h3⟩:=h.tok t n hn;refine⟨n',h1,h2,fun he b c hb=>?_⟩;obtain⟨h4,h5⟩:=h3 he b c (by show (E.role b).jC=_;rw[hb];rfl);exact⟨OH hf h h4,h5⟩
  · intro b hb hr;have aH:(E.role b).jC=E.role b:=by rcases hr with hr | hr<;>rw[hr]<;>rfl
    obtain⟨h1,h2⟩:=h.same b hb (by show (E.role b).jC=_∨(E.role b).jC=_;rw[aH];exact hr);refine⟨h1,?_⟩;show (E.role b).back (E'.role b)=_;have zV : E'.role b=(E.role b).jC:=h2;rw[zV,aH]
    rcases hr with hr | hr<;>rw[hr]<;>rfl
  · intro b hb hr;have bF : (E.role b).back (E'.role b) = .mb:=hr;cases hq:E.role b with
    | fY i=>rw[hq] at bF;simp[dm.back] at bF
    | mb=>exact .inl rfl
    | _ =>
      rw[hq] at bF;simp only[dm.back] at bF
      rcases h.zq b hb bF with h' | ⟨j,h'⟩
      · have h' : (E.role b).jC = .mb:=h';rw[hq] at h';simp[dm.jC] at h'
      · have h' : (E.role b).jC = .fY j:=h';rw[hq] at h';simp[dm.jC] at h'
  · intro b t c hb hr;have bF : (E.role b).back (E'.role b) = .eY t c:=hr;cases hq:E.role b with
    | fY i=>rw[hq] at bF;simp[dm.back] at bF
    | _ =>
      rw[hq] at bF;simp only[dm.back] at bF;obtain⟨c0,this⟩:=h.zr b t c hb bF;have h' : (E.role b).jC = .eY t c0:=this;rw[hq] at h'
      first | (simp[dm.jC] at h';done) | exact⟨c0,h'⟩
  · intro b i hb hr;have bF : (E.role b).back (E'.role b) = .fY i:=hr;cases hq:E.role b with
    | fY j=>exact⟨j,rfl⟩
    | _ =>
      rw[hq] at bF;simp only[dm.back] at bF;obtain⟨c0,this⟩:=h.xn b i hb bF;have h' : (E.role b).jC = .fY c0:=this;rw[hq] at h';simp[dm.jC] at h'
end
section
variable {P:Program} {E:Env} {st:St} {a:Act} {o:Oper} {K:V→St→Prop} {Q:Exit→Act→World→Prop}
theorem Yc (hs:a7 E st a) {f:FuncId} {xs:List V} {vs:Array Value} (hx:RL E xs vs.toList) (hn:bd xs=true) (hc:ak P f xs st.out fun v σ=>K v ⟨st.t,st.loc,σ⟩) :
    Calls P f vs E.w fun e w' => ∃E' v x al,e = .returned x∧E'.w=w' ∧ Fr E E' ∧ a7 E' al a∧R E' v x∧K v al := by
  have hf:=hs.ok.fresh;refine(hc.2 E.call vs (fun _=>rfl) (Yd hs.ok) (RL.ma _ (FN E) hn hx)).mono ?_;rintro e w' ⟨v,x,E',σ',rfl,rfl,Hu,bw,hr,aQ,hk⟩;have tG := Xg hf aQ;have hle:E.le (E.back E'):=tG.le fun _ _ h=>h
  have G8:=Xh hf aQ;refine⟨E.back E',v,x,⟨st.t,st.loc,σ'⟩,rfl,rfl,tG,⟨⟨?_,bw.aB,?_,bw.nt,fun b cs hc=>cJ.mono _ G8 (bw.bH b cs hc)⟩,?_,hs.defers,RL.mono _ hle hs.slot⟩,?_,hk⟩
  · intro b cs hcs;obtain⟨h1,h2⟩:=bw.box b cs hcs;exact⟨Xi hf aQ h1,h2.mono G8 rfl⟩
  · intro b hb;have bl : E'.w.heap.size≤b:=hb;show (E.role b).back (E'.role b)=_;rw[hf b (sS aQ.size bl)];exact bw.fresh b bl
  · refine mc hs.bW hle (fun b i bF ag=>?_) hs.bW.none;obtain⟨_,_,h3⟩:=Cm hf aQ bF;exact⟨by show (E.role b).back (E'.role b)=_;rw[bF];rfl,h3⟩
  · have h1:E'.nl.le (E.back E').nl:=G8;have h2:E'.le (E.back E'):=⟨h1.cell,fun i b hb=>by rw[Hu i] at hb;simp at hb,h1.tok⟩;exact hr.mono _ h2
theorem VF (hs:a7 E st a) {f:FuncId} {xs:List V} {vs:Array Value} (hx:RL E xs vs.toList) (hn:bd xs=true) (hc:ak P f xs st.out fun v σ=>K v ⟨st.t,st.loc,σ⟩)
    (hr:(execOp a.eval o).run P E.w=(callFunc f vs).run P E.w):o.wp P a E.w (cI E a o.dst K) Q:=by
  unfold Oper.wp;rw[hr,hc.1];simp only[Oper.upon_enter];refine(Yc hs hx hn hc).mono ?_;rintro e w' ⟨E',v,x,al,rfl,rfl,h1,h2,h3,h4⟩;exact⟨E',v,x,al,rfl,h1,h2,h3,rfl,h4⟩
end
theorem sU {E:Env}:∀{xs ys:List V} {b o:Nat},cJ E (xs++ys) b o↔cJ E xs b o∧cJ E ys b (o+xs.length)
  | [],ys,b,o=>by simp[cJ]
  | x :: xs, ys, b, o => by
    simp only[gN,cJ,sU (xs:=xs),cF,FC];rw[show o+1+xs.length=o+(xs.length+1) from by omega]
theorem nq {E:Env} {k:Nat}:∀{l:List (List V)} {b o:Nat},dE E k l b o↔(∀x∈l,x.length=k)∧cJ E l.flatten b o
  | [],b,o=>by simp[dE,cJ]
  | x :: xs, b, o => by
    simp only[dE,iQ,sU,nq (l:=xs),c7];constructor
    · rintro⟨h1,h2,h3,h4⟩;exact⟨⟨h1,h3⟩,h2,by rw[h1];exact h4⟩
    · rintro⟨⟨h1,h3⟩,h2,h4⟩;exact⟨h1,h2,h3,by rw[h1] at h4;exact h4⟩
theorem iA {k:Nat}:∀{l:List (List V)},(∀x∈l,x.length=k)→l.flatten.length=l.length*k
  | [],_=>by simp
  | x :: xs, h => by
    simp only[c7] at h;simp only[iQ,bz,h.1,iA h.2,cF,gb,sT];omega
theorem B9 {E:Env}:∀{cs:List V} {b o:Nat},cJ E cs b o→∃vs:List Value,RL E cs vs∧(∀(j:Nat) v,vs[j]?=some v→E.w.cell? ⟨b,o+j,none⟩=some v) ∧
    (∀v∈vs,v.oneCell' = true)∧∀j,j<cs.length→(E.role b).fp (o+j)
  | [],_,_,_=>⟨[],by simp[RL],fun j v h=>by simp at h,fun v hv=>by simp at hv,fun j hj=>by simp at hj⟩
  | x :: xs, b, o, h => by
    simp only[cJ] at h;obtain⟨⟨c,h1,h2,h3,h4⟩,h5⟩:=h;obtain⟨vs,k1,k2,k3,k4⟩:=B9 h5;refine⟨c::vs,?_,fun j v hv=>?_,fun v hv=>?_,fun j hj=>?_⟩
    · simp only[RL];exact⟨h4,k1⟩
    · cases j with
      | zero=>simp at hv;subst hv;exact h1
      | succ j=>simp at hv;rw[show o+(j+1)=o+1+j from by omega];exact k2 j v hv
    · rcases iR.1 hv with rfl | hv
      · exact h3
      · exact k3 v hv
    · cases j with
      | zero=>exact h2
      | succ j=>rw[show o+(j+1)=o+1+j from by omega];exact k4 j (by simpa using hj)
theorem wY {E:Env} {b:Nat}:∀{cs:List V} {vs:List Value} {o:Nat},RL E cs vs→(∀v∈vs,v.oneCell' = true)→(∀(j:Nat) v,vs[j]?=some v→E.w.cell? ⟨b,o+j,none⟩=some v) →
    (∀j,j<cs.length→(E.role b).fp (o+j))→cJ E cs b o
  | [],_,_,_,_,_,_=>by simp[cJ]
  | _::_,[],_,h,_,_,_=>by simp[RL] at h
  | x :: xs, v :: vs, o, h, h1, h2, h3 => by
    simp only[RL] at h;simp only[cJ];refine⟨⟨v,by simpa using h2 0 v (by simp),by simpa using h3 0 (by simp),h1 v (by simp),h.1⟩,wY h.2 (fun u hu=>h1 u (by simp[hu])) (fun j u hu=>?_) (fun j hj=>?_)⟩
    · rw[show o+1+j=o+(j+1) from by omega];exact h2 (j+1) u (by simpa using hu)
    · rw[show o+1+j=o+(j+1) from by omega];exact h3 (j+1) (by simpa using hj)
structure Src (P:Program) (w:World) (size m:Nat) (ty:TypeId) (x:Value) (news:List Value):Prop where
  ty:∃d,P.underlying ty=some d∧∀k,d≠.int k
  len:∀w',(Builtin.lenOf x).run P w' = .ok m w'
  cells:(Builtin.firstCells size m x).run P w = .ok news.toArray w
  lj : (Builtin.firstCells size m x).run P w.drew = .ok news.toArray w.drew
  size:news.length=m*size
section
variable {P:Program} {w:World} {t u ty e:TypeId} {i:TypeInfo} {z:Value}
theorem Up (ht:P.underlying t=some (.slice e)) (hi:P.info? e=some i) {base:Option Addr} {n cap:Nat} (hn:n≤cap) {x:Value} (hx:Src P w i.size 0 u x []) :
    (Builtin.append_ #[t,u] ty #[.slice base n cap,x]).run P w = .ok (.slice base n cap) w:=by
  obtain⟨d,hd,hk⟩:=hx.ty;cases base<;>simp[Builtin.append_,run_underlying ht,run_underlying hd,sizeOf,typeInfo,hi,hx.len,hn,hx.cells,storeCells]
theorem JA (ht:P.underlying t=some (.slice e)) (hi:P.info? e=some i) {g n cap m:Nat} {cur:Array Value} {e' : TypeId} (hg:w.heap[g]?=some (.cells cur e' (0,0)))
    {x:Value} {news:List Value} (hx:Src P w i.size m u x news) (h1:∀v∈news,v.oneCell' = true) (lB:n+m≤cap) (ly:n*i.size+news.length≤cur.size) :
    (Builtin.append_ #[t,u] ty #[.slice (some ⟨g,0,none⟩) n cap,x]).run P w =
      .ok (.slice (some ⟨g,0,none⟩) (n+m) cap) (w.setRow g (cur.toList.take (n*i.size)++news++cur.toList.drop (n*i.size+news.length)).toArray):=by
  obtain⟨d,hd,hk⟩:=hx.ty;have dO:=run_storeCells_at (P:=P) g (n*i.size) e' news 0 cur w hg (by simpa using ly) h1;simp only[qk] at dO;simp[Builtin.append_,run_underlying ht,run_underlying hd,sizeOf,typeInfo,hi,hx.len,lB,hx.cells,jq,dO]
theorem Jz (ht:P.underlying t=some (.slice e)) (hi:P.info? e=some i) (hzv:i.zero=some z) {base:Option Addr} {n cap m:Nat} {ft:List Value}
    (ho:(Builtin.firstCells i.size n (.slice base n cap)).run P w.drew = .ok ft.toArray w.drew)
    {x:Value} {news:List Value} (hx:Src P w i.size m u x news) (hg:cap<n+m) (hb:(n+m)*i.bytes≤140737488355328) (hs:n+m≤9223372036854775807) :
    (Builtin.append_ #[t,u] ty #[.slice base n cap,x]).run P w =
      .ok (.slice (some ⟨w.heap.size,0,none⟩) (n+m) (grownCap w (n+m) cap e))
        (w.drew.alloc (.cells (ft++(news++(Builtin.zeroCells z.cells (grownCap w (n+m) cap e - (n+m))).toList)).toArray e)):=by
  obtain⟨d,hd,hk⟩:=hx.ty;have hn:¬(n+m≤cap):=by omega
  have afm : ¬(9223372036854775807<((n:Int)+(m:Int))):=by omega
  have ly:=growslice_fits (need:=n+m) (old:=cap) (bytes:=i.bytes) hg hb;have afl : ¬(281474976710656<Builtin.nextslicecap (n+m) cap*i.bytes):=by omega
  have gS : (Builtin.firstCells i.size m x).run P w.drew = .ok news.toArray w.drew:=hx.lj;simp[Builtin.append_,run_underlying ht,run_underlying hd,sizeOf,typeInfo,zeroValue,hi,hzv,hx.len,hn,afm,afl,Question.forced,ho,gS,newRow,grownCap];congr 2;apply y8;simp
end
theorem Eu {P:Program} {E:Env} {u e' : TypeId} (hu:P.underlying u=some (.slice e')) {t' : Tk} {k:Nat} {m:List (List V)} {x:Value} (h:R E (.sl t' k m) x) :
    ∃news,Src P E.w k m.length u x news∧RL E.nl m.flatten news∧(∀v∈news,v.oneCell' = true)∧∀y∈m,y.length=k:=by
  simp only[R] at h;obtain⟨a,cap,rfl,_,h3,_⟩:=h;have RA:∃d,P.underlying u=some d∧∀k,d≠.int k:=⟨_,hu,fun _ h=>by simp at h⟩
  rcases h3 with rfl | ⟨b,o,rfl,hr⟩
  · refine⟨[],⟨RA,fun w' => by simp[Builtin.lenOf],?_,?_,by simp⟩,by simp[RL],fun v hv=>by simp at hv,fun y hy=>by simp at hy⟩ <;>
      cases a<;>simp[Builtin.firstCells,loadCells,loadCellsFrom]
  · obtain⟨h1,h2⟩:=nq.1 hr;obtain⟨vs,k1,k2,k3,_⟩:=B9 h2;have hl:=dS k1;rw[iA h1] at hl;have hc:∀(j:Nat) v,vs[j]?=some v→E.w.cell? ((⟨b,o,none⟩:Addr).add j)=some v:=fun j v hv=>by rw[jq];exact k2 j v hv
    refine⟨vs,⟨RA,fun w' => by simp[Builtin.lenOf],?_,?_,hl.symm⟩,k1,k3,h1⟩
    · have:=run_loadCells_list (P:=P) E.w ⟨b,o,none⟩ vs hc
      simp only[Builtin.firstCells];rw[hl];exact this
    · have:=run_loadCells_list (P:=P) E.w.drew ⟨b,o,none⟩ vs hc
      simp only[Builtin.firstCells];rw[hl];exact this
theorem S3 {P:Program} {E:Env} {k:Nat} {l:List (List V)} {a:Option Addr} {cap:Nat} (h3:l=[]∨∃b o,a=some ⟨b,o,none⟩∧dE E.nl k l b o) :
    ∃ft,(Builtin.firstCells k l.length (.slice a l.length cap)).run P E.w.drew = .ok ft.toArray E.w.drew∧RL E.nl l.flatten ft∧(∀v∈ft,v.oneCell' = true)∧(∀y∈l,y.length=k)∧ft.length=l.length*k:=by
  rcases h3 with rfl | ⟨b,o,rfl,hr⟩
  · refine⟨[],?_,by simp[RL],fun v hv=>by simp at hv,fun y hy=>by simp at hy,by simp⟩;cases a<;>simp[Builtin.firstCells,loadCells,loadCellsFrom]
  · obtain⟨h1,h2⟩:=nq.1 hr;obtain⟨vs,k1,k2,k3,_⟩:=B9 h2;have hl:=dS k1;rw[iA h1] at hl;have hc:∀(j:Nat) v,vs[j]?=some v→E.w.cell? ((⟨b,o,none⟩:Addr).add j)=some v:=fun j v hv=>by rw[jq];exact k2 j v hv
    refine⟨vs,?_,k1,k3,h1,hl.symm⟩
    have:=run_loadCells_list (P:=P) E.w.drew ⟨b,o,none⟩ vs hc
    simp only[Builtin.firstCells];rw[hl];exact this
section
variable {P:Program} {E:Env} {st:St} {a:Act} {o:Oper} {K:V→St→Prop} {Q:Exit→Act→World→Prop}
theorem B_ {E' : Env} {k nb:Nat} {l:List (List V)} {vs rest:List Value} {e:TypeId} {fr:Nat × Nat} (hl:∀y∈l,y.length=k) (hr:RL E'.nl l.flatten vs) (h1:∀v∈vs,v.oneCell' = true)
    (hb:E'.w.heap[nb]?=some (.cells (vs++rest).toArray e fr)) (hc:∀j,j<l.length*k→(E'.role nb).fp j):dE E'.nl k l nb 0:=by
  refine nq.2 ⟨hl,wY hr h1 (fun j v hv=>?_) (fun j hj=>by rw[iA hl] at hj;simpa using hc j hj)⟩;have ag:=(dj.1 hv).1;simp[World.cell?,hb,nk ag,hv]
theorem BF (hs:a7 E st a) {t u ty e:TypeId} {i:TypeInfo} {z:Value} (ht:P.underlying t=some (.slice e)) (hi:P.info? e=some i) (hz:i.zero=some z) (gf:z.cells.size=i.size)
    (kf:i.bytes≤4096) {vs vx:Value} {tk:Tk} {l m:List (List V)}
    (cg:(execOp a.eval o).run P E.w=((Builtin.append_ #[t,u] ty #[vs,vx]).run P E.w).andThen fun v w' => .ok (.value v) w')
    (cT:R E (.sl tk i.size l) vs) {news:List Value} (nQ:Src P E.w i.size m.length u vx news) (oG:RL E.nl m.flatten news) (dH:∀v∈news,v.oneCell' = true) (hm:∀y∈m,y.length=i.size)
    (hbig:l.length+m.length≤aE)
    (hk:match (generalizing:=false) tk with
      | .full=>(∀τ,st.out.aB τ=none→K (.sl (.tk τ) i.size (l++m)) ⟨st.t,st.loc,st.out.aK τ (l.length+m.length)⟩)∨K (.sl .no i.size (l++m)) st
      | .tk τ=>st.out.aB τ=some l.length∧K (.sl (.tk τ) i.size (l++m)) ⟨st.t,st.loc,st.out.aK τ (l.length+m.length)⟩
      | .no=>False):o.wp P a E.w (cI E a o.dst K) Q:=by
  simp only[R] at cT;obtain⟨base,cap,rfl,vq,jy,r6⟩:=cT;obtain⟨ft,hold,GV,GC,cG,hlen⟩:=S3 (P:=P) (cap:=cap) jy;have Ae:(l.length+m.length)*i.bytes≤140737488355328:=by
    have:=K7 hbig kf
    simp only[aE] at this;omega
  have AD:l.length+m.length≤9223372036854775807:=by simp only[aE] at hbig;omega
  have bT:∀y∈l++m,y.length=i.size:=fun y hy=>by
    rcases gY.1 hy with h | h
    · exact cG y h
    · exact hm y h
  have GU:RL E.nl (l++m).flatten (ft++news):=by rw[od];exact qn GV oG
  have QD:∀v∈ft++news,v.oneCell' = true:=fun v hv=>by
    rcases gY.1 hv with h | h
    · exact GC v h
    · exact dH v h
  have oD:=nQ.size
  -- the ways on which the row is laid anew
  have grow:cap<l.length+m.length→(execOp a.eval o).run P E.w = .ok (.value (.slice (some ⟨E.w.heap.size,0,none⟩) (l.length+m.length) (grownCap E.w (l.length+m.length) cap e)))
      (E.w.drew.alloc (.cells (ft++(news++(Builtin.zeroCells z.cells (grownCap E.w (l.length+m.length) cap e - (l.length+m.length))).toList)).toArray e)):=fun ag=>by
    rw[cg,Jz (P:=P) ht hi hz hold nQ ag Ae AD];rfl
  have idle:m=[]→(execOp a.eval o).run P E.w = .ok (.value (.slice base l.length cap)) E.w:=fun h0=>by
    subst h0
    have:news=[]:=nj (by simpa using oD)
    subst this;rw[cg,Up (P:=P) ht hi vq nQ];rfl
  have pz:=grownCap_ge E.w (l.length+m.length) cap e;have size:cap<l.length+m.length→(ft++(news++(Builtin.zeroCells z.cells (grownCap E.w (l.length+m.length) cap e - (l.length+m.length))).toList)).toArray.size=grownCap E.w (l.length+m.length) cap e*i.size:=fun _=>by
    simp only[K1,bz,wJ,size_zeroCells,gf,hlen,oD];rw[←B2,←gb,←gb];congr 1;omega
  generalize grownCap E.w (l.length+m.length) cap e=nc at grow pz size;generalize rZ:(Builtin.zeroCells z.cells (nc - (l.length+m.length))).toList=rest at grow size;have afw:ft++(news++rest)=(ft++news)++rest:=by simp
  rw[afw] at grow size
  -- the row laid anew,as the last of its line
  have QB:∀τ,(E.aB τ=none∨E.aB τ=some l.length)→cap<l.length+m.length→0<m.length→K (.sl (.tk τ) i.size (l++m)) ⟨st.t,st.loc,st.out.aK τ (l.length+m.length)⟩ →
      o.wp P a E.w (cI E a o.dst K) Q:=fun τ ba ag iD hK=>by
    let E' : Env:={w:=E.w.drew.alloc (.cells ((ft++news)++rest).toArray e),
                      role:=fun b=>if b=E.w.heap.size then .eY τ ((l.length+m.length)*i.size) else match E.role b with | .eY t c=>if t=τ then .const else .eY t c | r=>r,
                      loc:=E.loc,aB:=fun t=>if t=τ then some (l.length+m.length) else E.aB t}
    have hx:Ext E.w E'.w:=((Ext.refl _).drew).alloc _ _;have fe:∀b,b<E.w.heap.size→E'.role b=match E.role b with | .eY t c=>if t=τ then .const else .eY t c | r=>r:=fun b hb=>by
      simp only[E'];rw[ah (by omega)]
    have HO:E'.w.heap.size=E.w.heap.size+1:=by simp[E']
    have Ht:∀b,b<E.w.heap.size→∀t c,E'.role b = .eY t c→E.role b = .eY t c:=fun b hb t c h=>by
      rw[fe b hb] at h;cases hq:E.role b<;>rw[hq] at h<;>simp at h;split at h<;>simp at h;obtain⟨rfl,rfl⟩:=h;rfl
    have aQ:Fr E E' := by
      refine⟨rfl,rfl,rfl,hx.size,hx.ew,?_,?_,?_,?_,?_,?_,fun b c e hb=>⟨c,(hx.block b (iK hb)).trans hb,rfl⟩⟩
      · intro b o' c hc hv;have hb:=Sx hv;refine⟨?_,by rw[xx (hx.block b hb)];exact hv⟩;rw[fe b hb];cases hq:E.role b<;>rw[hq] at hc<;>simp only[]
        all_goals first | exact hc | (split<;>first | trivial | exact hc)
      · intro t n hn
        by_cases nR:t=τ
        · subst nR;have Q_ : n=l.length:=by rcases ba with h | h<;>rw[h] at hn<;>simp at hn;exact hn.symm
          exact⟨l.length+m.length,by simp[E'],by omega,fun h=>by omega⟩
        · refine⟨n,by simp only[E'];rw[ah nR];exact hn,bt _,fun _ b c hb=>?_⟩;have jD : b<E.w.heap.size:=by
            rcases mz b E.w.heap.size with h | h
            · exact h
            · rw[hs.ok.fresh b h] at hb;simp at hb
          refine⟨by rw[fe b jD,hb];simp[nR],fun cs xE hcs=>⟨cs,by rw[hx.block b jD];exact hcs,rfl⟩⟩
      · intro b hb hr;refine⟨hx.block b hb,?_⟩;rw[fe b hb]
        rcases hr with hr | hr<;>rw[hr]
      · intro b hb h;rw[fe b hb] at h;cases hq:E.role b<;>rw[hq] at h<;>first | exact .inl rfl | (simp at h;done) | (simp only[] at h;split at h<;>simp at h)
      · intro b t c hb h;exact⟨c,Ht b hb t c h⟩
      · intro b i' hb h;rw[fe b hb] at h;cases hq:E.role b<;>rw[hq] at h<;>try (simp at h;done)
        · exact⟨_,rfl⟩
        · simp only[] at h;split at h<;>simp at h
    have hle:E.le E' := aQ.le fun _ _ h=>h
    unfold Oper.wp;rw[grow ag];refine⟨E',_,_,⟨st.t,st.loc,st.out.aK τ (l.length+m.length)⟩,rfl,aQ,⟨⟨?_,?_,?_,?_,fun b cs hc=>cJ.mono _ aQ.nl (hs.ok.bH b cs hc)⟩,?_,hs.defers,RL.mono _ hle hs.slot⟩,?_,rfl,hK⟩
    · intro b cs hcs;obtain⟨k1,k2⟩:=hs.ok.box b cs hcs;have jD : b<E.w.heap.size:=by obtain⟨c,e,h3,_⟩:=k2;exact iK (w:=E.w) h3
      exact⟨by rw[fe b jD,k1],k2.mono aQ.nl (hx.block b jD)⟩
    · intro t n i_;simp only[ab.aK] at i_;simp only[E'];split at i_
      · rename_i h;rw[aw h];exact i_
      · rename_i h;rw[ah h];exact hs.ok.aB t n i_
    · intro b hb;rw[HO] at hb;simp only[E'];rw[ah (by omega),hs.ok.fresh b (by omega)]
    · obtain⟨N,hN⟩:=hs.ok.nt;exact⟨max N (τ+1),fun t yk => by simp only[E'];rw[ah (by omega)];exact hN t (by omega)⟩
    · exact mc hs.bW hle (fun b i' hr jD => ⟨by rw[fe b jD,hr],hx.block b jD⟩) hs.bW.none
    · have oE:E'.w.heap[E.w.heap.size]?=some (.cells ((ft++news)++rest).toArray e (0,0)):=heap_alloc_new E.w.drew _;have dp:E'.role E.w.heap.size = .eY τ ((l.length+m.length)*i.size):=by simp[E']
      simp only[R,bz];refine⟨some ⟨E.w.heap.size,0,none⟩,nc,rfl,pz,.inr ⟨_,_,rfl,B_ bT (RL.mono _ aQ.nl GU) QD oE (fun j hj=>by rw[dp];simpa [dm.fp] using hj)⟩,l.length+m.length,by simp[E'],bt _,fun _=>.inr ⟨_,_,_,rfl,dp,oE,size ag⟩⟩
  -- the state where only a tip is new
  have Vk:∀τ,(E.aB τ=none∨E.aB τ=some l.length)→m=[]→cap=l.length∨E.aB τ=some l.length→K (.sl (.tk τ) i.size (l++m)) ⟨st.t,st.loc,st.out.aK τ (l.length+m.length)⟩ →
      qo {E with aB:=fun t=>if t=τ then some l.length else E.aB t} i.size l.length base cap (.tk τ)→o.wp P a E.w (cI E a o.dst K) Q:=fun τ ba mL _ hK bw=>by
    let E' : Env:={E with aB:=fun t=>if t=τ then some l.length else E.aB t}
    have aQ:Fr E E' := tz (E' := E') hs.ok.fresh (Ext.refl _) (fun _ _=>rfl) (fun t n hn=>by
      simp only[E'];split
      · rename_i h;subst h;rcases ba with h | h<;>rw[h] at hn<;>simp at hn;rw[hn]
      · exact hn)
    have hle:E.le E' := aQ.le fun _ _ h=>h
    unfold Oper.wp;rw[idle mL];refine⟨E',_,_,⟨st.t,st.loc,st.out.aK τ (l.length+m.length)⟩,rfl,aQ,⟨⟨?_,?_,hs.ok.fresh,?_,fun b cs hc=>cJ.mono _ aQ.nl (hs.ok.bH b cs hc)⟩,?_,hs.defers,RL.mono _ hle hs.slot⟩,?_,rfl,hK⟩
    · intro b cs hcs;obtain⟨k1,k2⟩:=hs.ok.box b cs hcs;exact⟨k1,k2.mono aQ.nl rfl⟩
    · intro t n i_;subst mL;simp only[ab.aK,dk,qk] at i_;simp only[E'];split at i_
      · rename_i h;rw[aw h];exact i_
      · rename_i h;rw[ah h];exact hs.ok.aB t n i_
    · obtain⟨N,hN⟩:=hs.ok.nt;exact⟨max N (τ+1),fun t yk => by simp only[E'];rw[ah (by omega)];exact hN t (by omega)⟩
    · exact mc hs.bW hle (fun b i' hr jD => ⟨hr,rfl⟩) hs.bW.none
    · subst mL;simp only[R,dD];refine⟨base,cap,rfl,vq,?_,bw⟩
      rcases jy with h | ⟨b,o',h,hr⟩
      · exact .inl h
      · exact .inr ⟨b,o',h,dE.mono _ aQ.nl hr⟩
  cases tk with
  | no=>exact hk.elim
  | full =>
    simp only[qo] at r6
    rcases hk with hk | hk
    · obtain⟨N,hN⟩:=hs.ok.nt;have Hk:st.out.aB N=none:=by
        cases h:st.out.aB N with
        | none=>rfl
        | some n=>have:=hs.ok.aB N n h;rw[hN N (bt _)] at this;simp at this
      have hK:=hk N Hk
      rcases Ft m.length with h0 | h0
      · have mL:=nj h0;exact Vk N (.inl (hN N (bt _))) mL (.inl r6) hK ⟨l.length,by simp,bt _,fun _=>.inl r6⟩
      · exact QB N (.inl (hN N (bt _))) (by omega) h0 hK
    · rcases Ft m.length with h0 | h0
      · have mL:=nj h0;refine b8 hs (idle mL) ?_ hk;subst mL;simp only[R,dD];exact⟨base,cap,rfl,vq,jy,trivial⟩
      · refine VH hs (((Ext.refl _).drew).alloc _ _) (grow (by omega)) ?_ hk;have oE:(E.w.drew.alloc (.cells ((ft++news)++rest).toArray e)).heap[E.w.heap.size]?=some (.cells ((ft++news)++rest).toArray e (0,0)):=heap_alloc_new E.w.drew _;obtain⟨aQ,_,_⟩:=yM hs (((Ext.refl E.w).drew).alloc ((ft++news)++rest).toArray e);simp only[R,bz];exact⟨some ⟨E.w.heap.size,0,none⟩,nc,rfl,pz,.inr ⟨_,_,rfl,B_ bT (RL.mono _ aQ.nl GU) QD oE (fun j _=>by rw[show ({E with w:=E.w.drew.alloc (.cells ((ft++news)++rest).toArray e)}:Env).role E.w.heap.size = .const from hs.ok.fresh _ (bt _)];trivial)⟩,trivial⟩
  | tk τ =>
    obtain⟨ba,hK⟩:=hk;have hE:=hs.ok.aB τ _ ba;obtain⟨n',h1,_,h3⟩:=r6;rw[hE] at h1;simp only[aG] at h1;subst h1
    rcases Ft m.length with h0 | h0
    · have mL:=nj h0;exact Vk τ (.inr hE) mL (.inr hE) hK ⟨l.length,by simp,bt _,h3⟩
    · rcases mz cap (l.length+m.length) with ag | lB
      · exact QB τ (.inr hE) ag h0 hK
      · rcases h3 rfl with hc | ⟨b,cs,e',rfl,cu,dn,bK⟩
        · omega
        · have ly:l.length*i.size+news.length≤cs.size:=by
            rw[oD,bK,←gb];exact mA _ lB
          have gC:=JA (P:=P) (ty:=ty) ht hi dn nQ dH lB ly;have qJ:∀j:Nat,(cs.toList.take (l.length*i.size)++news++cs.toList.drop (l.length*i.size+news.length)).toArray[j]?=if j<l.length*i.size then cs[j]? else if j<l.length*i.size+news.length then news[j - l.length*i.size]? else cs[j]?:=fun j=>by
            have:=Bj (c:=cs.toList) (vs:=news) (off:=l.length*i.size) (by simpa using ly) j
            simpa using this
          have oL:(cs.toList.take (l.length*i.size)++news++cs.toList.drop (l.length*i.size+news.length)).toArray.size=cs.size:=by
            simp;omega
          generalize (cs.toList.take (l.length*i.size)++news++cs.toList.drop (l.length*i.size+news.length)).toArray=new at gC qJ oL;have afy:l.length*i.size≤(l.length+m.length)*i.size:=mA _ (by omega)
          let E' : Env:={w:=E.w.setRow b new,role:=fun b' => if b' = b then .eY τ ((l.length+m.length)*i.size) else E.role b',loc:=E.loc,aB:=fun t=>if t=τ then some (l.length+m.length) else E.aB t}
          have fW:∀b',b' ≠ b→E'.w.heap[b']?=E.w.heap[b']?:=fun b' aH=>setRow_other E.w b b' new aH
          have j2:∀b',b' ≠ b→E'.role b' = E.role b' := fun b' aH=>by simp only[E'];rw[ah aH]
          have bl : E'.w.heap[b]?=some (.cells new e' (0,0)):=setRow_heap E.w b cs new e' _ dn;have lX:E'.role b = .eY τ ((l.length+m.length)*i.size):=by simp[E']
          have aH:∀b' r,E.role b' = r→(∀c,r≠.eY τ c)→b' ≠ b:=fun b' r h h' => by rintro rfl;rw[cu] at h;exact h' _ h.symm
          have aQ:Fr E E' := by
            refine⟨rfl,rfl,rfl,by simp[E'],zQ dn,?_,?_,?_,?_,?_,?_,fun b' c' xE hc=>by
                by_cases bJ:b' = b
                · subst bJ;rw[dn] at hc;simp only[aG,Obj.cells.injEq] at hc;obtain⟨rfl,rfl,_⟩:=hc;exact⟨new,bl,oL⟩
                · exact⟨c',(fW b' bJ).trans hc,rfl⟩⟩
            · intro b' o' c hc hv
              by_cases bJ:b' = b
              · subst bJ;rw[cu] at hc;simp only[dm.fp] at hc;refine⟨by rw[lX];simp only[dm.fp];omega,?_⟩;simp only[World.cell?,dn] at hv;simp only[World.cell?,bl,qJ,aw hc];exact hv
              · exact⟨by rw[j2 b' bJ];exact hc,by rw[xx (fW b' bJ)];exact hv⟩
            · intro t n hn
              by_cases nR:t=τ
              · subst nR;rw[hE] at hn;simp only[aG] at hn;exact⟨l.length+m.length,by simp[E'],by omega,fun h=>by omega⟩
              · refine⟨n,by simp only[E'];rw[ah nR];exact hn,bt _,fun _ b' c vp=>?_⟩;have bJ:b' ≠ b:=aH b' _ vp (fun c' h=>by simp at h;exact nR h.1);exact⟨by rw[j2 b' bJ];exact vp,fun cs' xE hcs=>⟨cs',by rw[fW b' bJ];exact hcs,rfl⟩⟩
            · intro b' _ hr;have bJ:b' ≠ b:=by rcases hr with hr | hr<;>exact aH b' _ hr (fun c h=>by simp at h)
              exact⟨fW b' bJ,j2 b' bJ⟩
            · intro b' _ h;have bJ:b' ≠ b:=by rintro rfl;rw[lX] at h;simp at h
              rw[j2 b' bJ] at h;exact .inl h
            · intro b' t c _ h
              by_cases bJ:b' = b
              · subst bJ;rw[lX] at h;simp at h;obtain⟨rfl,_⟩:=h;exact⟨_,cu⟩
              · rw[j2 b' bJ] at h;exact⟨c,h⟩
            · intro b' i' _ h;have bJ:b' ≠ b:=by rintro rfl;rw[lX] at h;simp at h
              rw[j2 b' bJ] at h;exact⟨_,h⟩
          have hle:E.le E' := aQ.le fun _ _ h=>h
          unfold Oper.wp;rw[cg,gC];refine⟨E',_,_,⟨st.t,st.loc,st.out.aK τ (l.length+m.length)⟩,rfl,aQ,⟨⟨?_,?_,?_,?_,fun b cs hc=>cJ.mono _ aQ.nl (hs.ok.bH b cs hc)⟩,?_,hs.defers,RL.mono _ hle hs.slot⟩,?_,rfl,hK⟩
          · intro b' cs' hcs;obtain⟨k1,k2⟩:=hs.ok.box b' cs' hcs;have bJ:b' ≠ b:=aH b' _ k1 (fun c h=>by simp at h);exact⟨by rw[j2 b' bJ];exact k1,k2.mono aQ.nl (fW b' bJ)⟩
          · intro t n i_;simp only[ab.aK] at i_;simp only[E'];split at i_
            · rename_i h;rw[aw h];exact i_
            · rename_i h;rw[ah h];exact hs.ok.aB t n i_
          · intro b' mH;have bJ:b' ≠ b:=by
              rintro rfl
              have:=iK dn
              simp[E'] at mH;omega
            rw[j2 b' bJ];exact hs.ok.fresh b' (by simpa [E'] using mH)
          · obtain⟨N,hN⟩:=hs.ok.nt;exact⟨max N (τ+1),fun t yk => by simp only[E'];rw[ah (by omega)];exact hN t (by omega)⟩
          · refine mc hs.bW hle (fun b' i' hr _=>?_) hs.bW.none;have bJ:b' ≠ b:=aH b' _ hr (fun c h=>by simp at h);exact⟨by rw[j2 b' bJ];exact hr,fW b' bJ⟩
          · have aqt:RL E'.nl (l++m).flatten (ft++news):=RL.mono _ aQ.nl GU
            -- the cells of the row,as they now are
            have GR:dE E'.nl i.size (l++m) b 0:=by
              have As:dE E.nl i.size l b 0:=by
                rcases jy with h | ⟨b2,o2,h,hr⟩
                · subst h;simp[dE]
                · simp only[aG,Addr.mk.injEq] at h;obtain⟨rfl,rfl,_⟩:=h;exact hr
              refine nq.2 ⟨bT,?_⟩;rw[od];refine sU.2 ⟨(nq.1 (dE.mono _ aQ.nl As)).2,wY (RL.mono _ aQ.nl oG) dH (fun j v hv=>?_) (fun j hj=>?_)⟩
              · have hj:=(dj.1 hv).1;rw[iA cG];simp only[Env.SS,World.cell?,bl,qJ];simp only[wW,fO,ey];rw[ah (show ¬(0+l.length*i.size+j<l.length*i.size) by omega),aw (show 0+l.length*i.size+j<l.length*i.size+news.length by omega)];rw[show 0+l.length*i.size+j - l.length*i.size=j from by omega];exact hv
              · rw[iA cG];rw[iA hm] at hj;simp only[Env.SR,lX,dm.fp];rw[gb];omega
            simp only[R,bz];exact⟨some ⟨b,0,none⟩,cap,rfl,lB,.inr ⟨b,0,rfl,GR⟩,l.length+m.length,by simp[E'],bt _,fun _=>.inr ⟨b,new,e',rfl,lX,bl,oL.trans bK⟩⟩
end
section
variable {P:Program} {E:Env} {st:St} {a:Act} {o:Oper} {K:V→St→Prop} {Q:Exit→Act→World→Prop}
theorem VI (hs:a7 E st a) {x:Operand} {v:V} (ho:o.op = .move x∨o.op = .assign x) (hx:R E v (a.eval x)) (hk:K v st):o.wp P a E.w (cI E a o.dst K) Q :=
  b8 hs (by rcases ho with ho | ho<;>simp[execOp,ho]) hx hk
theorem apP (hs:a7 E st a) {c x y:Operand} {vc vx vy:V} (ho:o.op = .pick c x y) (hc:R E vc (a.eval c)) (hx:R E vx (a.eval x)) (hy:R E vy (a.eval y))
    (hk:match (generalizing:=false) vc with | .bool true=>K vx st | .bool false=>K vy st | _=>False):o.wp P a E.w (cI E a o.dst K) Q:=by
  cases vc<;>try exact False.elim hk
  rename_i b;simp only[R] at hc;cases b
  · exact b8 hs (by simp[execOp,ho,hc,asBool]) hy hk
  · exact b8 hs (by simp[execOp,ho,hc,asBool]) hx hk
theorem aps (hs:a7 E st a) {t:TypeId} {zs:List V} (ho:o.op = .alloc t) (hz:gW P t=some zs) (hk:K (.ptr (.loc st.loc.length) 0) ⟨st.t,st.loc++[zs],st.out⟩) :
    o.wp P a E.w (cI E a o.dst K) Q:=by
  obtain⟨i,z,h1,h2,h3,_⟩:=o_ hz;refine VJ hs (c:=z.cells) (e:=t) ?_ (nz h3) hk;simp[execOp,ho,Instr.alloc,zeroValue,typeInfo,h1,h2,newVar,newRow]
theorem apw (hs:a7 E st a) {t:TypeId} {x:Operand} {n:Nat} {v:V} (ho:o.op = .box t x) (hx:R E v (a.eval x)) (hw:v.wd=some n) (hk:K (.ptr (.loc st.loc.length) 0) ⟨st.t,st.loc++[v.cells],st.out⟩) :
    o.wp P a E.w (cI E a o.dst K) Q:=by
  refine VJ hs (c:=(a.eval x).cells) (e:=t) ?_ (sW hx hw).1 hk;simp[execOp,ho,Instr.box,newVar,newRow]
theorem apN (hs:a7 E st a) {x:Operand} {v:V} (ho:o.op = .nilCheck x) (hx:R E v (a.eval x))
    (hk:match (generalizing:=false) v with | .ptr p o=>K (.ptr p o) st | .elt c o=>K (.elt c o) st | .fn (.func f) a b=>K (.fn (.func f) a b) st | _=>False):o.wp P a E.w (cI E a o.dst K) Q:=by
  cases v<;>try exact False.elim hk
  case ptr p off =>
    refine b8 hs (v:=.ptr p off) (x:=a.eval x) ?_ hx hk;cases p<;>simp only[R] at hx
    · obtain⟨b,_,h⟩:=hx;simp[execOp,ho,h]
    · simp[execOp,ho,hx]
    · simp[execOp,ho,hx]
  case elt c off =>
    refine b8 hs (v:=.elt c off) (x:=a.eval x) ?_ hx hk;simp only[R] at hx;obtain⟨b,o',h,_⟩:=hx;simp[execOp,ho,h]
  case fn f as bs =>
    cases f<;>try exact False.elim hk
    rename_i f;refine b8 hs (v:=.fn (.func f) as bs) (x:=a.eval x) ?_ hx hk;simp only[R] at hx;obtain⟨fs,cs,h,_⟩:=hx;simp[execOp,ho,h]
theorem apu (hs:a7 E st a) {op:BinOp} {t t' : TypeId} {x y:Operand} {vx vy:V} (ho:o.op = .binOp op t x y t') (hx:R E vx (a.eval x)) (hy:R E vy (a.eval y))
    (hk:opt (qu op vx vy) (K2 K st)):o.wp P a E.w (cI E a o.dst K) Q:=by
  unfold opt K2 at hk;split at hk
  case h_2=>exact hk.elim
  rename_i v hv;unfold qu at hv;split at hv
  case h_2=>simp at hv
  rename_i k n k' m;split at hv
  case isFalse=>simp at hv
  rename_i fV;simp only[R] at hx hy
  by_cases Dl:vP op=true
  · cases op<;>simp only[vP,fO] at Dl
    · simp only[gg] at hv;split at hv
      case isTrue=>simp at hv
      rename_i hm;simp only[aG] at hv;subst hv;refine b8 hs (x:=.int k (k.wrap (n*2^(Nat.min m.toNat k.bits)))) ?_ (by simp only[R]) hk;simp only[execOp,ho,hx,hy];simp[eqGuard,binOp,Op.shift,hm]
    · simp only[gg] at hv;split at hv
      case isTrue=>simp at hv
      rename_i hm;simp only[aG] at hv;subst hv;refine b8 hs (x:=.int k (n.fdiv (2^(Nat.min m.toNat k.bits)))) ?_ (by simp only[R]) hk;simp only[execOp,ho,hx,hy];simp[eqGuard,binOp,Op.shift,hm]
  have fV:=fV.resolve_right Dl;obtain rfl:=Dv fV;cases op<;>simp only[gg,aG] at hv<;>try (simp at hv;done)
  case shl=>simp[vP] at Dl
  case shr=>simp[vP] at Dl
  case quo =>
    split at hv
    case isTrue=>simp at hv
    rename_i hm;simp only[aG] at hv;subst hv;refine b8 hs (by simp only[execOp,ho,hx,hy];simp only[eqGuard,binOp,Op.intDiv];simp[hm];rfl) (by simp only[R];try rfl) hk
  case rem =>
    split at hv
    case isTrue=>simp at hv
    rename_i hm;simp only[aG] at hv;subst hv;refine b8 hs (by simp only[execOp,ho,hx,hy];simp only[eqGuard,binOp,Op.intDiv];simp[hm];rfl) (by simp only[R];try rfl) hk
  case andNot =>
    subst hv;refine b8 hs (x:=.int k (k.wrap ((BitVec.ofInt k.bits n&&&~~~BitVec.ofInt k.bits m).toNat:Nat))) ?_ (by simp only[R]) hk;simp only[execOp,ho,hx,hy];simp only[eqGuard,binOp,Op.intBits];simp
  all_goals
    subst hv;refine b8 hs (by simp only[execOp,ho,hx,hy];simp only[eqGuard,binOp,Op.intArith,Op.intCmp,Op.intBits];simp;first | rfl | simp) (by simp only[R];try rfl) hk
theorem Sn (x y:List UInt8):(x == y)=decide (x=y):=by
  rw[BM];simp
theorem apv (hs:a7 E st a) {op:BinOp} {t t' : TypeId} {x y:Operand} {vx vy:V} (ho:o.op = .binOp op t x y t') (hx:R E vx (a.eval x)) (hy:R E vy (a.eval y))
    (hk:opt (u2 op vx vy) (K2 K st)):o.wp P a E.w (cI E a o.dst K) Q:=by
  unfold opt K2 at hk;split at hk
  case h_2=>exact hk.elim
  rename_i v hv;unfold u2 at hv;split at hv
  case h_2=>simp at hv
  rename_i n m;simp only[R] at hx hy;cases op<;>simp only[sv,aG] at hv<;>try (simp at hv;done)
  all_goals
    subst hv;refine b8 hs (by simp only[execOp,ho,hx,hy];simp only[eqGuard,binOp,Op.stringOp,ByteArray.toList_mk];simp[Sn];rfl) (by simp[R]) hk
theorem apA (hs:a7 E st a) {t t' : TypeId} {x y:Operand} {vx vy:V} (ho:o.op = .binOp .add t x y t') (hx:R E vx (a.eval x)) (hy:R E vy (a.eval y))
    (hk:∃m n,vx = .str m∧vy = .str n∧m.length+n.length≤aE∧K (.str (m++n)) st):o.wp P a E.w (cI E a o.dst K) Q:=by
  obtain⟨m,n,rfl,rfl,hb,hk⟩:=hk;simp only[R] at hx hy;have bK:¬(9223372036854775807<((m.length:Int)+(n.length:Int))):=by simp only[aE] at hb;omega
  have e1:(⟨m.toArray⟩:ByteArray).size=m.length:=by simp[ByteArray.size]
  have e2:(⟨n.toArray⟩:ByteArray).size=n.length:=by simp[ByteArray.size]
  refine b8 hs (v:=.str (m++n)) (x:=.string ⟨(m++n).toArray⟩) ?_ (by simp only[R]) hk;simp only[execOp,ho,hx,hy];simp only[eqGuard,binOp,Op.stringOp,e1,e2];have e3:(⟨m.toArray⟩:ByteArray)++(⟨n.toArray⟩:ByteArray)=⟨(m++n).toArray⟩:=by
    apply ByteArray.ext;simp[ByteArray.data_append]
  simp[IntKind.max,IntKind.signed,IntKind.bits,bK,e3]
theorem VD (hs:a7 E st a) {neg:Bool} {op:BinOp} (lW:op=if neg then .neq else .eql) {t t' : TypeId} (ht:P.underlying t=some .bool) {x y:Operand} {vx vy:V} (ho:o.op = .binOp op t x y t') (hx:R E vx (a.eval x)) (hy:R E vy (a.eval y))
    (hk:opt (th neg vx vy) (K2 K st)):o.wp P a E.w (cI E a o.dst K) Q:=by
  unfold opt K2 at hk;split at hk
  case h_2=>exact hk.elim
  rename_i v hv;unfold th at hv;split at hv
  case h_2=>simp at hv
  rename_i m n;simp only[R] at hx hy;simp only[aG] at hv;subst hv;subst lW;cases neg
  · refine b8 hs (x:=.bool (decide (m=n))) ?_ (by simp[R]) hk;simp only[execOp,ho,hx,hy];simp[eqGuard,run_eql_bool E.w t m n ht];cases m<;>cases n<;>rfl
  · refine b8 hs (x:=.bool (!decide (m=n))) ?_ (by simp[R]) hk;simp only[execOp,ho,hx,hy];simp[eqGuard,run_neq_bool E.w t m n ht];cases m<;>cases n<;>rfl
theorem apO (hs:a7 E st a) {t:TypeId} {x:Operand} {v:V} (ho:o.op = .unOp .not t x) (hx:R E v (a.eval x)) (hk:match (generalizing:=false) v with | .bool b=>K (.bool (!b)) st | _=>False) :
    o.wp P a E.w (cI E a o.dst K) Q:=by
  cases v<;>try exact False.elim hk
  simp only[R] at hx;exact b8 hs (by simp[execOp,ho,hx,Op.unary];rfl) (by simp only[R]) hk
theorem apJ (hs:a7 E st a) {t e:TypeId} {x:Operand} {v:V} (ho:o.op = .call {callee:=.builtin .len,args:=#[x],argTypes:=#[t]}) (ht:P.underlying t=some (.slice e)) (hx:R E v (a.eval x))
    (hk:match (generalizing:=false) v with | .sl _ _ l=>K (.int .i64 l.length) st | .raw (.slice _ n _)=>K (.int .i64 n) st | _=>False):o.wp P a E.w (cI E a o.dst K) Q:=by
  cases v<;>try exact False.elim hk
  case raw u =>
    cases u<;>try exact False.elim hk
    simp only[R] at hx;exact b8 hs (by simp[execOp,ho,resolve,invoke,builtin,Builtin.len_,run_underlying ht,hx];rfl) (by simp[R,goInt]) hk
  simp only[R] at hx;obtain⟨b,c,h,_⟩:=hx;exact b8 hs (by simp[execOp,ho,resolve,invoke,builtin,Builtin.len_,run_underlying ht,h];rfl) (by simp[R,goInt]) hk
theorem apK (hs:a7 E st a) {t:TypeId} {x:Operand} {v:V} (ho:o.op = .call {callee:=.builtin .len,args:=#[x],argTypes:=#[t]}) (ht:P.underlying t=some .string) (hx:R E v (a.eval x))
    (hk:match (generalizing:=false) v with | .str s=>K (.int .i64 s.length) st | _=>False):o.wp P a E.w (cI E a o.dst K) Q:=by
  cases v<;>try exact False.elim hk
  simp only[R] at hx;exact b8 hs (by simp[execOp,ho,resolve,invoke,builtin,Builtin.len_,run_underlying ht,hx];rfl) (by simp[R,goInt,ByteArray.size]) hk
theorem apE (hs:a7 E st a) {s:TypeId} {i n:Nat} {fs:Array Field} {f:Field} {x:Operand} {v:V} (ho:o.op = .fieldAddr s x i) (ht:P.underlying s=some (.struct fs)) (hf:fs[i]?=some f)
    (hn:cO P f.type=some n) (yh:n≠0) (hx:R E v (a.eval x)) (hk:match (generalizing:=false) v with | .ptr p o=>K (.ptr p (o+f.offset)) st | .elt c o=>K (.elt c (o+f.offset)) st | _=>False) :
    o.wp P a E.w (cI E a o.dst K) Q:=by
  have run:∀b off:Nat,(Instr.fieldAt s (.pointer (some ⟨b,off,none⟩)) i).run P E.w = .ok (.pointer (some ⟨b,off+f.offset,none⟩)) E.w:=fun b off=>by
    simp[Instr.fieldAt,run_underlying ht,hf,Instr.sureAddr,fieldPlace,kX hn,yh,jq]
  cases v<;>try exact False.elim hk
  case ptr p off =>
    cases p with
    | loc j =>
      simp only[R] at hx;obtain⟨b,hb,h⟩:=hx;exact b8 hs (by simp[execOp,ho,h,run];rfl) (by simp only[R];exact⟨b,hb,rfl⟩) hk
    | out b =>
      simp only[R] at hx;exact b8 hs (by simp[execOp,ho,hx,run];rfl) (by simp only[R]) hk
    | iB b =>
      simp only[R] at hx;exact b8 hs (by simp[execOp,ho,hx,run];rfl) (by simp only[R]) hk
  case elt c off =>
    simp only[R] at hx;obtain⟨b,o',h,hr⟩:=hx;exact b8 hs (by simp[execOp,ho,h,run];rfl) (by simp only[R];exact⟨b,o',by rw[B2],hr⟩) hk
theorem apD (hs:a7 E st a) {x:Operand} {i:Nat} {v:V} (ho:o.op = .extract x i) (hx:R E v (a.eval x)) (hk:match (generalizing:=false) v with | .aT vs=>opt vs[i]? (K2 K st) | _=>False) :
    o.wp P a E.w (cI E a o.dst K) Q:=by
  cases v<;>try exact False.elim hk
  rename_i vs;simp only[opt,K2] at hk;cases hu:vs[i]? with
  | none=>rw[hu] at hk;exact False.elim hk
  | some u =>
    rw[hu] at hk;simp only[R] at hx;obtain⟨us,h,hr⟩:=hx;obtain⟨y,h1,h2⟩:=nr hr i u hu;have rQ : us[i]?=some y:=by simpa using h1
    exact b8 hs (by simp[execOp,ho,h,Instr.extract,rQ]) h2 hk
theorem apM (hs:a7 E st a) {f:Fn} {first cap:Array Operand} {as bs:List V} (ho:o.op = .makeFunc f first cap) (ha:RL E as (first.toList.map a.eval)) (hb:RL E bs (cap.toList.map a.eval)) (hk:K (.fn f as bs) st) :
    o.wp P a E.w (cI E a o.dst K) Q:=by
  refine b8 hs (x:=.func f (first.map a.eval) (cap.map a.eval)) (by simp[execOp,ho,Instr.makeFunc]) ?_ hk;simp only[R];exact⟨_,_,rfl,by simpa using ha,by simpa using hb⟩
theorem apC (hs:a7 E st a) {src dst:TypeId} {k k' : IntKind} {x:Operand} {v:V} (ho:o.op = .convert src dst x) (h1:P.underlying src=some (.int k')) (h2:P.underlying dst=some (.int k)) (hx:R E v (a.eval x))
    (hk:match (generalizing:=false) v with | .int _ n=>K (.int k (k.wrap n)) st | _=>False):o.wp P a E.w (cI E a o.dst K) Q:=by
  cases v<;>try exact False.elim hk
  simp only[R] at hx;exact b8 hs (by simp[execOp,ho,hx,convert,run_underlying h1,run_underlying h2,Conv.intToInt];rfl) (by simp only[R]) hk
theorem apG (hs:a7 E st a) {t e:TypeId} {n:Nat} {x i:Operand} {vx vi:V} (ho:o.op = .indexAddr t x i) (ht:P.underlying t=some (.slice e)) (hn:cO P e=some n) (hx:R E vx (a.eval x)) (hi:R E vi (a.eval i))
    (hk:match (generalizing:=false) vx with
      | .sl _ k' l=>k' = n∧E7 l vi fun c=>K (.elt c 0) st
      | .raw (.slice (some ⟨b,o,none⟩) m _)=>∃ik j,vi = .int ik j∧0≤j∧j<m∧K (.ptr (.out b) (o+j.toNat*n)) st
      | _=>False):o.wp P a E.w (cI E a o.dst K) Q:=by
  cases vx<;>try exact False.elim hk
  case raw u =>
    split at hk
    · simp_all
    · rename_i b off m cap e;simp only[V.raw.injEq] at e;subst e;obtain⟨ik,j,rfl,g1,g2,hk⟩:=hk;simp only[R] at hx hi;refine b8 hs (v:=.ptr (.out b) (off+j.toNat*n)) (x:=.pointer (some ⟨b,off+j.toNat*n,none⟩)) ?_ (by simp only[R]) hk;simp[execOp,ho,hx,hi,Instr.indexAt,asIntOf,run_underlying ht,g1,g2,kX hn,jq]
    · exact hk.elim
  rename_i tk k' l;obtain⟨rfl,ki,m,c,rfl,hm,hc,hk⟩:=hk;simp only[R] at hx hi;obtain⟨base,cap,h,_,h3,_⟩:=hx;have ag:=(dj.1 hc).1
  rcases h3 with h3 | ⟨b,off,rfl,hr⟩
  · subst h3;simp at hc
  · have oy:cJ E.nl c b (off+m.toNat*k'):=by
      obtain⟨h1,h2⟩:=nq.1 hr;have HP:l=l.take m.toNat++c::l.drop (m.toNat+1):=by
        have:=my m.toNat l
        rw[jU ag] at this;rw[(dj.1 hc).2] at this;exact this.symm
      rw[HP,od,iQ,sU,sU] at h2;have hl:(l.take m.toNat).flatten.length=m.toNat*k' := by
        rw[iA (fun x hx=>h1 x (ru hx))];rw[gO,qm (by omega)]
      rw[hl] at h2;simpa using h2.2.1
    have jD : m<(l.length:Int):=by omega
    refine b8 hs (v:=.elt c 0) (x:=.pointer (some ⟨b,off+m.toNat*k',none⟩)) ?_ (by simp only[R];exact⟨b,off+m.toNat*k',rfl,oy⟩) hk;simp[execOp,ho,h,hi,Instr.indexAt,asIntOf,run_underlying ht,hm,jD,kX hn,jq]
theorem apH (hs:a7 E st a) {t e:TypeId} {m n:Nat} {x i:Operand} {vx vi:V} (ho:o.op = .indexAddr t x i) (ht:P.underlying t=some (.array m e)) (hn:cO P e=some n) (hx:R E vx (a.eval x)) (hi:R E vi (a.eval i))
    (hk:match (generalizing:=false) vx with
      | .ptr p o=>∃kk j,vi = .int kk j∧0≤j∧j<(m:Nat)∧K (.ptr p (o+j.toNat*n)) st
      | .elt c o=>∃kk j,vi = .int kk j∧0≤j∧j<(m:Nat)∧K (.elt c (o+j.toNat*n)) st
      | _=>False):o.wp P a E.w (cI E a o.dst K) Q:=by
  have run:∀(b off:Nat) (kk:IntKind) (j:Int),0≤j→j<(m:Nat)→(Instr.indexAt t (.pointer (some ⟨b,off,none⟩)) (.int kk j)).run P E.w = .ok (.pointer (some ⟨b,off+j.toNat*n,none⟩)) E.w:=fun b off kk j h0 h1=>by
    simp[Instr.indexAt,asIntOf,run_underlying ht,Instr.sureAddr,h0,h1,kX hn,jq]
  cases vx<;>try exact False.elim hk
  case ptr p off =>
    obtain⟨kk,j,rfl,h0,h1,hk⟩:=hk;simp only[R] at hi;cases p with
    | loc q =>
      simp only[R] at hx;obtain⟨b,hb,h⟩:=hx;exact b8 hs (by simp[execOp,ho,h,hi,run _ _ _ _ h0 h1];rfl) (by simp only[R];exact⟨b,hb,rfl⟩) hk
    | out b =>
      simp only[R] at hx;exact b8 hs (by simp[execOp,ho,hx,hi,run _ _ _ _ h0 h1];rfl) (by simp only[R]) hk
    | iB b =>
      simp only[R] at hx;exact b8 hs (by simp[execOp,ho,hx,hi,run _ _ _ _ h0 h1];rfl) (by simp only[R]) hk
  case elt c off =>
    obtain⟨kk,j,rfl,h0,h1,hk⟩:=hk;simp only[R] at hi hx;obtain⟨b,o',h,hr⟩:=hx;exact b8 hs (by simp[execOp,ho,h,hi,run _ _ _ _ h0 h1];rfl) (by simp only[R];exact⟨b,o',by rw[B2],hr⟩) hk
theorem apI (hs:a7 E st a) {t:TypeId} {x i:Operand} {vx vi:V} (ho:o.op = .index t x i) (ht:P.underlying t=some .string) (hx:R E vx (a.eval x)) (hi:R E vi (a.eval i))
    (hk:match (generalizing:=false) vx with | .str s=>∃k n c,vi = .int k n∧0≤n∧s[n.toNat]?=some c∧K (.int .u8 c.toNat) st | _=>False):o.wp P a E.w (cI E a o.dst K) Q:=by
  cases vx<;>try exact False.elim hk
  rename_i s;obtain⟨k,n,c,rfl,hn,hc,hk⟩:=hk;simp only[R] at hx hi;have ag:=(dj.1 hc).1;have jD : n<((⟨s.toArray⟩:ByteArray).size:Int):=by simp[ByteArray.size];omega
  refine b8 hs (v:=.int .u8 c.toNat) (x:=.int .u8 c.toNat) ?_ (by simp only[R]) hk
  have:=run_index_string (P:=P) E.w t ⟨s.toArray⟩ k n ht
  rw[zE ⟨hn,jD⟩] at this;simp only[execOp,ho,hx,hi,Sem.run_bind,this,Result.andThen_ok];have hg:(⟨s.toArray⟩:ByteArray)[n.toNat]'(by simp[ByteArray.size];exact ag)=c:=(dj.1 hc).2;simp[hg]
end
def rH:Nat→Value→Value→Option Bool
  | 1,.int k a,.int k' b=>if k=k' then some (decide (a=b)) else none
  | 2,.string a,.string b=>some (a.toList == b.toList)
  | 0,.bool a,.bool b=>some (a == b)
  | _,_,_=>none
section
variable {P:Program} {w:World}
def nD (xs ys:Array Value):List (Nat × Nat)→Option Bool
  | []=>some true
  | (j, k) :: js =>
    match xs[j]?,ys[j]? with
    | some x,some y=>(rH k x y).bind fun b=>(nD xs ys js).map (b&&·)
    | _,_=>none
theorem Ge {xs ys:Array Value}:∀{l m:List (Nat × Nat)} {b:Bool},nD xs ys (l++m)=some b→∃b1 b2,nD xs ys l=some b1∧nD xs ys m=some b2∧b=(b1&&b2)
  | [],m,b,h=>⟨true,b,rfl,h,by simp⟩
  | (j, k) :: l, m, b, h => by
    simp only[gN,nD] at h ⊢;split at h
    · simp only[fH,cf] at h;obtain⟨c,h1,d,h2,rfl⟩:=h;obtain⟨b1,b2,k1,k2,rfl⟩:=Ge h2;exact⟨c&&b1,b2,by simp[h1,k1],k2,by simp[Bool.and_assoc]⟩
    · simp at h
def At (P:Program) (t:TypeId) (xs:Array Value) (off:Nat) (x:Value):Prop :=
  match fx P t with
  | some true=>x = .agg (xs.extract off (off+P.cellsOf t))∧off+P.cellsOf t≤xs.size
  | some false=>xs[off]?=some x
  | none=>False
theorem OU {t:TypeId} {i:TypeInfo} (h:P.info? t=some i):P.cellsOf t=i.size:=by simp[Program.cellsOf,h]
theorem Ej {t u:TypeId} {i:TypeInfo} (hi:P.info? u=some i) {xs:Array Value} {off o' : Nat} (hle:o' + P.cellsOf u≤P.cellsOf t) (bK:off+P.cellsOf t≤xs.size) {g:Bool} (hg:fx P u=some g) (iD:g=false→P.cellsOf u=1) :
    ∃y,(part u (xs.extract off (off+P.cellsOf t)) o').run P w = .ok y w∧At P u xs (off+o') y:=by
  have hs:(sizeOf u).run P w = .ok (P.cellsOf u) w:=by simp[sizeOf,typeInfo,hi,OU hi]
  unfold At;rw[hg];cases g
  · have h1:=iD rfl;have ag:off+o' < xs.size:=by omega
    refine⟨xs[off+o'],?_,by simp[ag]⟩
    have:(xs.extract off (off+P.cellsOf t))[o']?=some xs[off+o']:=by
      rw[EU];simp[fF ag];omega
    simp[part,wk hg,this]
  · refine⟨_,by simp[part,wk hg,hs];rfl,?_,by omega⟩;congr 2;omega
theorem Tz {n:Nat} {u:TypeId} {off:Nat} {pl:List (Nat × Nat)} (h:sj P n u off=some pl):∃i g,P.info? u=some i∧fx P u=some g∧(g=false→P.cellsOf u=1):=by
  cases n with
  | zero=>simp[sj] at h
  | succ n =>
    simp only[sj] at h;split at h
    · rename_i i hi hu;split at h<;>simp at h;rename_i hc;exact⟨_,false,hi,by simp[fx,hu],fun _=>hc⟩
    · rename_i i hi hu;split at h<;>simp at h;rename_i hc;exact⟨_,false,hi,by simp[fx,hu],fun _=>hc⟩
    · rename_i i hi hu;split at h<;>simp at h;rename_i hc;exact⟨_,false,hi,by simp[fx,hu],fun _=>hc⟩
    · rename_i i hi hu;exact⟨_,true,hi,by simp[fx,hu],fun h=>by simp at h⟩
    · rename_i i hi hu;exact⟨_,true,hi,by simp[fx,hu],fun h=>by simp at h⟩
    · simp at h
theorem ak2:∀(n:Nat) (t:TypeId) (off:Nat) (pl:List (Nat × Nat)),sj P n t off=some pl→∀(d:Nat),n≤d→∀(xs ys:Array Value) (x y:Value),At P t xs off x→At P t ys off y →
    ∀b,nD xs ys pl=some b→(Op.equalIn d t x y).run P w = .ok b w:=by
  intro n;induction n with
  | zero=>intro t off pl h;simp[sj] at h
  | succ n ih =>
    intro t off pl h d hd xs ys x y hx hy b hb;obtain⟨d,rfl⟩:∃d',d=d' + 1:=⟨d - 1,by omega⟩;have one:∀k,fx P t=some false→pl=[(off,k)]→rH k x y=some b:=fun k hg hp=>by
      subst hp;unfold At at hx hy;rw[hg] at hx hy;have gS : xs[off]?=some x:=hx;have vI : ys[off]?=some y:=hy;simp only[nD,gS,vI,fH,pf,aG] at hb;obtain⟨c,h1,h2⟩:=hb;rw[h1];simpa using h2
    simp only[sj] at h;split at h
    · rename_i i hi hu;split at h
      case isFalse=>simp at h
      simp only[aG] at h;have hc:=one 0 (by simp[fx,hu]) h.symm;unfold rH at hc;split at hc<;>simp at *;subst hc;exact run_equalIn_bool w d t _ _ hu
    · rename_i i k hi hu;split at h
      case isFalse=>simp at h
      simp only[aG] at h;have hc:=one 1 (by simp[fx,hu]) h.symm;unfold rH at hc;split at hc<;>simp at *;obtain⟨rfl,hc⟩:=hc;subst hc;exact run_equalIn_int w d t _ _ _ _ hu
    · rename_i i hi hu;split at h
      case isFalse=>simp at h
      simp only[aG] at h;have hc:=one 2 (by simp[fx,hu]) h.symm;unfold rH at hc;split at hc<;>simp at *;subst hc;exact run_equalIn_string w d t _ _ hu
    · rename_i i fs hi hu;split at h
      · simp at h
      rename_i dO;unfold At at hx hy;have hg:fx P t=some true:=by simp[fx,hu]
      rw[hg] at hx hy;obtain⟨rfl,kp⟩:=hx;obtain⟨rfl,lZ⟩:=hy;have qI:P.fieldsOf t=fs:=by simp[Program.fieldsOf,hu]
      rw[run_equalIn_struct w d t _ _ (by rw[qI];exact hu) (by simpa using dO),qI];clear hu qI dO;clear one;generalize fs.toList=l at h;revert b pl;induction l with
      | nil=>intro pl b hb h;simp[D8] at h;subst h;simp[nD] at hb;subst hb;simp[Op.eqFields]
      | cons f l H0 =>
        intro pl b hb h;simp only[D8] at h;split at h
        · simp at h
        rename_i hc;simp only[fH,cf] at h;obtain⟨p1,h1,p2,h2,rfl⟩:=h;obtain⟨b1,b2,e1,e2,rfl⟩:=Ge hb;obtain⟨i',g,cD,oz,iZ⟩:=Tz h1;have hn:f.name ≠ "_" := fun e=>hc (.inl e)
        have hle:f.offset+P.cellsOf f.type≤P.cellsOf t:=by omega
        obtain⟨u,r1,a1⟩:=Ej (P:=P) (w:=w) cD hle kp oz iZ;obtain⟨v,r2,a2⟩:=Ej (P:=P) (w:=w) cD hle lZ oz iZ;have r3:=ih f.type (off+f.offset) p1 h1 d (by omega) xs ys u v a1 a2 b1 e1;have r4:=H0 p2 b2 e2 h2;simp only[Op.eqFields,hn,ne_eq,SZ,dP,Sem.run_bind,r1,r2,r3,Result.andThen_ok];cases b1
        · simp
        · simpa using r4
    · rename_i i k e hi hu;split at h
      case h_2=>simp at h
      rename_i ie qK;unfold At at hx hy;have hg:fx P t=some true:=by simp[fx,hu]
      rw[hg] at hx hy;obtain⟨rfl,kp⟩:=hx;obtain⟨rfl,lZ⟩:=hy;rw[run_equalIn_array w d _ _ hu qK];clear hu;clear one;generalize List.range k=l at h;revert b pl;induction l with
      | nil=>intro pl b hb h;simp[D9] at h;subst h;simp[nD] at hb;subst hb;simp[Op.eqItems]
      | cons j l H0 =>
        intro pl b hb h;simp only[D9] at h;split at h
        · simp at h
        rename_i hc;simp only[fH,cf] at h;obtain⟨p1,h1,p2,h2,rfl⟩:=h;obtain⟨b1,b2,e1,e2,rfl⟩:=Ge hb;obtain⟨i',g,cD,oz,iZ⟩:=Tz h1;have hle:j*P.cellsOf e+P.cellsOf e≤P.cellsOf t:=by omega
        obtain⟨u,r1,a1⟩:=Ej (P:=P) (w:=w) cD hle kp oz iZ;obtain⟨v,r2,a2⟩:=Ej (P:=P) (w:=w) cD hle lZ oz iZ;have r3:=ih e (off+j*P.cellsOf e) p1 h1 d (by omega) xs ys u v a1 a2 b1 e1;have r4:=H0 p2 b2 e2 h2;simp only[Op.eqItems,Sem.run_bind,r1,r2,r3,Result.andThen_ok];cases b1
        · simp
        · simpa using r4
    · simp at h
end
section
variable {P:Program} {E:Env} {st:St} {a:Act} {o:Oper} {K:V→St→Prop} {Q:Exit→Act→World→Prop}
theorem bool_beq (x y:Bool):(x == y)=decide (x=y):=by cases x<;>cases y<;>rfl
theorem PM {xs ys:Array Value}:∀{ks:List Nat} {vx vy:List V} {us ws:List Value} {b:Bool} (pl:List (Nat × Nat)) (off:Nat),dU ks vx vy=some b→RL E vx us→RL E vy ws →
    (∀(j:Nat) u,us[j]?=some u→xs[off+j]?=some u)→(∀(j:Nat) u,ws[j]?=some u→ys[off+j]?=some u)→pl.map (·.2)=ks→pl.map (·.1)=List.range' off pl.length→nD xs ys pl=some b
  | [], vx, vy, us, ws, b, pl, off, h, hx, hy, h1, h2, h3, h4 => by
    have:pl=[]:=by simpa using h3
    subst this;cases vx<;>cases vy<;>simp[dU] at h;subst h;simp[nD]
  | k :: ks, vx, vy, us, ws, b, pl, off, h, hx, hy, h1, h2, h3, h4 => by
    obtain⟨⟨j,k'⟩,pl,rfl⟩:∃p q,pl=p::q:=by cases pl with | nil=>simp at h3 | cons p q=>exact⟨p,q,rfl⟩
    simp only[bL,eP,cF,wQ] at h3 h4;obtain⟨rfl,h3⟩:=h3;obtain⟨rfl,h4⟩:=h4;have step:∀{x y:V} {Kf Kg : List V} {c d:Bool},vx=x::Kf → vy=y::Kg → (∀u v,R E x u→R E y v→rH k' u v=some c)→dU ks Kf Kg = some d→b=(c&&d)→nD xs ys ((j,k')::pl)=some b :=
      fun {x y Kf Kg c d} e1 e2 hc hd hb=>by
        subst e1;subst e2;cases us with
        | nil=>simp[RL] at hx
        | cons u us =>
          cases ws with
          | nil=>simp[RL] at hy
          | cons v ws =>
            simp only[RL] at hx hy;have hu:=h1 0 u (by simp);have hv:=h2 0 v (by simp);simp only[qk] at hu hv;have ih:=PM (ks:=ks) (us:=us) (ws:=ws) pl (j+1) hd hx.2 hy.2 (fun i u hu=>by rw[show j+1+i=j+(i+1) from by omega];exact h1 (i+1) u (by simpa using hu))
              (fun i u hu=>by rw[show j+1+i=j+(i+1) from by omega];exact h2 (i+1) u (by simpa using hu)) h3 h4
            simp only[nD,hu,hv,hc u v hx.1 hy.1,ih,rz,pf,hb]
    unfold dU at h;split at h
    · simp at *
    · rename_i hk;simp only[eP] at hk;obtain⟨rfl,rfl⟩:=hk;split at h
      case isFalse=>simp at h
      rename_i fV;obtain rfl:=Dv fV;simp only[cf] at h;obtain⟨d,hd,rfl⟩:=h;exact step rfl rfl (fun u v hu hv=>by simp only[R] at hu hv;subst hu;subst hv;simp[rH]) hd rfl
    · rename_i hk;simp only[eP] at hk;obtain⟨rfl,rfl⟩:=hk;simp only[cf] at h;obtain⟨d,hd,rfl⟩:=h;exact step rfl rfl (fun u v hu hv=>by simp only[R] at hu hv;subst hu;subst hv;simp[rH,Sn]) hd rfl
    · rename_i hk;simp only[eP] at hk;obtain⟨rfl,rfl⟩:=hk;simp only[cf] at h;obtain⟨d,hd,rfl⟩:=h;exact step rfl rfl (fun u v hu hv=>by simp only[R] at hu hv;subst hu;subst hv;simp[rH,bool_beq]) hd rfl
    · simp at h
theorem CG:∀{ks:List Nat} {vx vy:List V} {b:Bool},dU ks vx vy=some b→vx.length=ks.length∧vy.length=ks.length
  | [],vx,vy,b,h=>by cases vx<;>cases vy<;>simp[dU] at h;simp
  | k :: ks, vx, vy, b, h => by
    unfold dU at h;split at h
    · simp at *
    · rename_i hk;simp only[eP] at hk;obtain⟨rfl,rfl⟩:=hk;split at h
      case isFalse=>simp at h
      simp only[cf] at h;obtain⟨d,hd,_⟩:=h
      have:=CG hd;simp[this]
    · rename_i hk;simp only[eP] at hk;obtain⟨rfl,rfl⟩:=hk;simp only[cf] at h;obtain⟨d,hd,_⟩:=h
      have:=CG hd;simp[this]
    · rename_i hk;simp only[eP] at hk;obtain⟨rfl,rfl⟩:=hk;simp only[cf] at h;obtain⟨d,hd,_⟩:=h
      have:=CG hd;simp[this]
    · simp at h
theorem EN (hs:a7 E st a) {neg:Bool} {op:BinOp} (lW:op=if neg then .neq else .eql) {t t' : TypeId} {ks:List Nat} (ht:Jc P t=some ks) {x y:Operand} {vx vy:V} (ho:o.op = .binOp op t x y t')
    (hg:fx P t=some true) (hx:R E vx (a.eval x)) (hy:R E vy (a.eval y)) (hk:opt (tg neg ks vx vy) (K2 K st)):o.wp P a E.w (cI E a o.dst K) Q:=by
  unfold opt K2 at hk;split at hk
  case h_2=>exact hk.elim
  rename_i v hv;unfold tg at hv;split at hv
  case h_2=>simp at hv
  rename_i xs ys;simp only[cf] at hv;obtain⟨b,hb,rfl⟩:=hv;simp only[R] at hx hy;obtain⟨us,qR,RD⟩:=hx;obtain⟨ws,RF,RG⟩:=hy;unfold Jc at ht;split at ht
  case h_2=>simp at ht
  rename_i pl lA;split at ht
  case isFalse=>simp at ht
  rename_i hc;obtain⟨hr,jB⟩:=hc;simp only[aG] at ht;have hlen:pl.length=P.cellsOf t:=by have:=gj List.length hr;simpa using this
  obtain⟨l1,l2⟩:=CG hb;have aqn:ks.length=P.cellsOf t:=by rw[←ht];simp[hlen]
  have HT:us.size=P.cellsOf t:=by have:=dS RD;simp at this;omega
  have hws:ws.size=P.cellsOf t:=by have:=dS RG;simp at this;omega
  have bT:=PM (E:=E) (xs:=us) (ys:=ws) pl 0 hb RD RG (fun j u hu=>by simpa using hu) (fun j u hu=>by simpa using hu) ht (by rw[hr,hlen,qi]);have fy:∀(zs:Array Value),zs.size=P.cellsOf t→At P t zs 0 (.agg zs):=fun zs hz=>by
    unfold At;rw[hg];exact⟨by rw[gh,←hz,Array.extract_size],by omega⟩
  have cg:=ak2 (P:=P) (w:=E.w) 20 t 0 pl lA 10000 (by omega) us ws _ _ (fy us HT) (fy ws hws) b bT;subst lW;cases neg
  · refine b8 hs (x:=.bool b) ?_ (by simp[R]) hk;simp only[execOp,ho,qR,RF,fO,ey];simp only[Sem.run_bind,run_eqGuard_agg E.w _ t x y us ws jB,Result.andThen_ok,run_eql_struct,cg,Sem.run_pure]
  · refine b8 hs (x:=.bool (!b)) ?_ (by simp[R]) hk;simp only[execOp,ho,qR,RF,dP];simp only[Sem.run_bind,run_eqGuard_agg E.w _ t x y us ws jB,Result.andThen_ok,run_neq_struct,cg,Sem.run_pure]
theorem apF (hs:a7 E st a) {s:TypeId} {i n:Nat} {fs:Array Field} {f:Field} {g:Bool} {x:Operand} {v:V} (ho:o.op = .field s x i) (ht:P.underlying s=some (.struct fs)) (hf:fs[i]?=some f)
    (hg:fx P f.type=some g) (hn:cO P f.type=some n) (hx:R E v (a.eval x)) (hk:match (generalizing:=false) v with | .agg cs=>opt (a9 g n (cs.drop f.offset)) (K2 K st) | _=>False) :
    o.wp P a E.w (cI E a o.dst K) Q:=by
  cases v<;>try exact False.elim hk
  rename_i cs;simp only[opt,K2] at hk;simp only[R] at hx;obtain⟨vs,h,hr⟩:=hx;cases g with
  | false =>
    cases hd:cs.drop f.offset with
    | nil=>rw[hd] at hk;exact False.elim hk
    | cons c rest =>
      rw[hd] at hk;have hc:cs[f.offset]?=some c:=by
        have:=gj (·[0]?) hd
        simpa using this
      obtain⟨u,h1,h2⟩:=nr hr f.offset c hc;have rQ : vs[f.offset]?=some u:=by simpa using h1
      exact b8 hs (v:=c) (x:=u) (by simp[execOp,ho,h,Instr.field,run_underlying ht,hf,asAgg,part,wk hg,rQ]) h2 hk
  | true =>
    cases hd:takeN n (cs.drop f.offset) with
    | none=>simp only[a9,hd,B7] at hk;
    | some ys =>
      simp only[a9,hd,pf] at hk;obtain⟨rfl,hle⟩:=J4 hd;refine b8 hs (x:=.agg (vs.extract f.offset (f.offset+n))) (by simp[execOp,ho,h,Instr.field,run_underlying ht,hf,asAgg,part,wk hg,kX hn]) ?_ hk;simp only[R];refine⟨_,rfl,?_⟩;have hl:=dS hr;refine zj ?_ fun j y u h1 h2=>?_
      · simp at hl hle ⊢;omega
      · have hj:j<n:=by have:=(dj.1 h1).1;simp at this;omega
        rw[BV,aw hj,qf] at h1;obtain⟨u',h3,h4⟩:=nr hr _ y h1
        have:(vs.extract f.offset (f.offset+n)).toList[j]?=some u' := by
          have ag:=(dj.1 h3).1;simp at ag;simp only[KE] at h3 ⊢;rw[EU];rw[aw (by omega)];exact h3
        rw[this] at h2;simp only[aG] at h2;subst h2;exact h4
theorem Qh:∀(l:List Value) (n off:Nat) (cells:Array Value),off+n+l.length≤cells.size →
    ((l.zipIdx n).foldl (fun cs (c,j)=>cs.setIfInBounds (off+j) c) cells).toList=cells.toList.take (off+n)++l++cells.toList.drop (off+n+l.length)
  | [],n,off,cells,h=>by simp
  | v :: l, n, off, cells, h => by
    simp only[cF] at h;have ih:=Qh l (n+1) off (cells.setIfInBounds (off+n) v) (by simp;omega);simp only[List.zipIdx_cons,qe];rw[ih];have e:=list_seg_step cells.toList (off+n) v l (by simp;omega);simpa [EV,B2,wS 1] using e
theorem P3 {place:Nat→Option (Nat × Nat)} {cells:Array Value} {i off n:Nat} {v:Value} {rest:List (Nat × Value)} (hp:place i=some (off,n)) (hv:v.cells.size=n) (rY:off+n≤cells.size) :
    Instr.fill place cells ((i,v)::rest)=Instr.fill place (cells.toList.take off++v.cells.toList++cells.toList.drop (off+n)).toArray rest:=by
  have h:=Qh v.cells.toList 0 off cells (by simp;omega);have e:v.cells.zipIdx.foldl (fun cs (c,j)=>cs.setIfInBounds (off+j) c) cells=(cells.toList.take off++v.cells.toList++cells.toList.drop (off+n)).toArray:=by
    apply y8;rw[←Array.foldl_toList,Array.toList_zipIdx,h];simp[hv]
  simp only[Instr.fill,hp,hv,ne_eq,IM,eT,wL];rw[ah (by simp;omega),e]
theorem Gi (hs:RL E st.t a.tmps.toList) {place:Nat→Option (Nat × TypeId)} {place' : Nat→Option (Nat × Nat)} (lA:∀i off t n,place i=some (off,t)→cO P t=some n→place' i=some (off,n)) :
    ∀{parts:List (Nat × Operand)} {ps:List (Nat × Nat × X)} {z cs:List V} {cells:Array Value},v7 P place parts=some ps→lf st z ps=some cs→RL E z cells.toList →
    ∃lj,Instr.fill place' cells (parts.map fun (i,x)=>(i,a.eval x))=some lj ∧ RL E cs lj.toList
  | [], ps, z, cs, cells, hp, hb, hz => by
    simp only[v7,aG] at hp;subst hp;simp only[lf,aG] at hb;subst hb;exact⟨cells,by simp[Instr.fill],hz⟩
  | (i, x) :: parts, ps, z, cs, cells, hp, hb, hz => by
    simp only[v7] at hp;split at hp
    case h_2=>simp at hp
    rename_i off t yi;split at hp
    case h_2=>simp at hp
    rename_i n y hn hy;split at hp
    · simp at hp
    rename_i yh;simp only[cf] at hp;obtain⟨TE,iZ,rfl⟩:=hp;simp only[lf] at hb;split at hb
    case isFalse=>simp at hb
    rename_i hc;have hx:=kr (E:=E) (st:=st) (a:=a) hs hy;obtain⟨h1,h2⟩:=sW hx hc.2;have hle:=G3 hc.1;have hl:=dS hz;have Aq:=dS h1;simp at hle hl Aq;have rY:off+n≤cells.size:=by omega
    · have kn:RL E (setAt z off (ev st y).cells) (cells.toList.take off++(a.eval x).cells.toList++cells.toList.drop (off+n)):=by
        refine zj (by simp[JP];omega) fun j u v h3 h4=>?_
        rw[JO (by omega)] at h3;have r5:=Bj (c:=cells.toList) (vs:=(a.eval x).cells.toList) (off:=off) (by simp;omega) j;simp only[wJ,h2] at r5;rw[r5] at h4
        by_cases k1:j<off
        · rw[aw k1] at h3 h4;obtain⟨v',k3,k4⟩:=nr hz j u h3;rw[k3] at h4;simp only[aG] at h4;subst h4;exact k4
        · rw[ah k1] at h3 h4
          by_cases k2:j<off+n
          · rw[aw (by omega)] at h3;rw[aw k2] at h4;obtain⟨v',k3,k4⟩:=nr h1 _ u h3;rw[k3] at h4;simp only[aG] at h4;subst h4;exact k4
          · rw[ah (by omega)] at h3;rw[ah k2] at h4;obtain⟨v',k3,k4⟩:=nr hz j u h3;rw[k3] at h4;simp only[aG] at h4;subst h4;exact k4
      obtain⟨lj,k1,k2⟩:=Gi hs lA iZ hb (cells:=(cells.toList.take off++(a.eval x).cells.toList++cells.toList.drop (off+n)).toArray) (by simpa using kn);refine⟨lj,?_,k2⟩;rw[bL,P3 (lA i off t n yi hn) h2 rY];exact k1
theorem SA:∀(fs:List Field),fs.all (fun f=>(P.info? f.type).isSome)=true→∃places:List (Nat × Nat),fs.mapM (fun f=>(P.info? f.type).map fun i=>(f.offset,i.size))=some places ∧
    ∀i:Nat,places[i]?=(fs[i]?).bind fun f=>(P.info? f.type).map fun i=>(f.offset,i.size)
  | [],_=>⟨[],by simp,fun i=>by simp⟩
  | f :: fs, h => by
    simp only[uO,bm] at h;obtain⟨i,hi⟩:=K8.1 h.1;obtain⟨places,h1,h2⟩:=SA fs h.2;refine⟨(f.offset,i.size)::places,by simp[hi,h1],fun j=>?_⟩;cases j with
    | zero=>simp[hi]
    | succ j=>simp[h2]
theorem wp_build (hs:a7 E st a) {t:TypeId} {parts:Array (Nat × Operand)} {z:List V} {ps:List (Nat × Nat × X)} (ho:o.op = .build t parts) (hz:gW P t=some z) {place:Nat→Option (Nat × TypeId)}
    (lA:(∃fs,P.underlying t=some (.struct fs)∧fs.toList.all (fun f=>(P.info? f.type).isSome)=true∧place=fun i=>(fs[i]?).map fun f=>(f.offset,f.type)) ∨
      ∃k e,P.underlying t=some (.array k e)∧(P.info? e).isSome=true∧place=fun i=>some (i*P.cellsOf e,e))
    (hp:v7 P place parts.toList=some ps) (hk:opt ((lf st z ps).map V.agg) (K2 K st)):o.wp P a E.w (cI E a o.dst K) Q:=by
  unfold opt K2 at hk;split at hk
  case h_2=>exact hk.elim
  rename_i v hv;simp only[cf] at hv;obtain⟨cs,hb,rfl⟩:=hv;obtain⟨i,zv,h1,h2,h3,_⟩:=o_ hz;have RJ:RL E z zv.cells.toList:=nz h3;have key:∃lj,P.built t (parts.map fun (i,x)=>(i,a.eval x)).toList=some lj ∧ RL E cs lj.toList:=by
    rcases lA with ⟨fs,hu,bT,rfl⟩ | ⟨k,e,hu,afU,rfl⟩
    · obtain⟨places,hm,hg⟩:=SA (P:=P) fs.toList bT;obtain⟨lj,k1,k2⟩:=Gi (P:=P) (st:=st) hs.slot (place' := fun i=>places.toArray[i]?) (fun i off t' n h hn=>by
        simp only[cf] at h;obtain⟨f,hf,h⟩:=h;simp only[jW] at h;obtain⟨rfl,rfl⟩:=h;simp only[V5,hg];unfold cO at hn;simp only[cf] at hn;obtain⟨i',cD,rfl⟩:=hn;simp[hf,cD]) hp hb RJ
      exact⟨lj,by simpa [Program.built,h1,hu,h2,hm] using k1,k2⟩
    · obtain⟨ie,qK⟩:=K8.1 afU;obtain⟨lj,k1,k2⟩:=Gi (P:=P) (st:=st) hs.slot (place' := fun i=>some (i*ie.size,ie.size)) (fun i off t' n h hn=>by
        simp only[aG,jW] at h;obtain⟨rfl,rfl⟩:=h;simp only[cO,qK,pf,aG] at hn;simp[OU qK,hn]) hp hb RJ
      exact⟨lj,by simpa [Program.built,h1,hu,h2,qK] using k1,k2⟩
  obtain⟨lj,k1,k2⟩:=key;refine b8 hs (x:=.agg lj) ?_ (by simp only[R];exact⟨lj,rfl,k2⟩) hk
  have:=run_build (P:=P) E.w t _ _ k1
  simp only[execOp,ho,Sem.run_bind,this,Result.andThen_ok,Sem.run_pure]
theorem Gj {k:Nat}:∀(ps:List (Nat × Value)) (i0:Nat) (cells:Array Value),ps.map (·.1)=List.range' i0 ps.length→(∀p∈ps,p.2.cells.size=k)→cells.size=(i0+ps.length)*k →
    Instr.fill (fun i=>some (i*k,k)) cells ps=some (cells.toList.take (i0*k)++(ps.map fun p=>p.2.cells.toList).flatten).toArray
  | [], i0, cells, _, _, bK => by
    simp only[Instr.fill,cX,KS,dD];rw[wR (by simp at bK ⊢;omega)]
  | (i, v) :: ps, i0, cells, hm, bT, bK => by
    simp only[bL,cF,wQ,eP] at hm;obtain⟨rfl,hm⟩:=hm;simp only[c7] at bT;have tK:(i+(ps.length+1))*k=i*k+k+ps.length*k:=by rw[gb,gb];omega
    simp only[cF,tK] at bK;rw[P3 (n:=k) rfl bT.1 (by omega)];have ih:=Gj ps (i+1) (cells.toList.take (i*k)++v.cells.toList++cells.toList.drop (i*k+k)).toArray hm bT.2 (by simp[bT.1,gb];omega);rw[ih];congr 2;simp only[bL,iQ,←eh];congr 1;rw[show (i+1)*k=i*k+k from by rw[gb];omega]
    have:(cells.toList.take (i*k)++v.cells.toList).length=i*k+k:=by simp[bT.1];omega
    rw[Fq (by omega),wR (by omega)]
theorem T' (hs:RL E st.t a.tmps.toList) {k:Nat} {e:TypeId}:∀{n:Nat} {xs:List Operand} {ys:List X} {l:List (List V)},gq P (List.replicate n e) xs=some ys→jh st k ys=some l →
    xs.length=n∧l.length=n∧(∀x∈xs,(a.eval x).cells.size=k)∧(∀y∈l,y.length=k)∧RL E.nl l.flatten (xs.map fun x=>(a.eval x).cells.toList).flatten∧∀v∈(xs.map fun x=>(a.eval x).cells.toList).flatten,v.oneCell' = true
  | 0, [], ys, l, h1, h2 => by
    simp only[List.replicate_zero,gq,aG] at h1;subst h1;simp only[jh,aG] at h2;subst h2;simp[RL]
  | 0,_::_,ys,l,h1,h2=>by simp[gq] at h1
  | n+1,[],ys,l,h1,h2=>by simp[ry,gq] at h1
  | n + 1, x :: xs, ys, l, h1, h2 => by
    simp only[ry,gq,fH,cf] at h1;obtain⟨y,hy,VU,lZ,rfl⟩:=h1;simp only[jh] at h2;split at h2
    case isFalse=>simp at h2
    rename_i hc;simp only[cf] at h2;obtain⟨l',fc,rfl⟩:=h2;obtain⟨k1,k2,k3,k4,k5,k6⟩:=T' hs lZ fc;have hx:=kr (E:=E) (st:=st) (a:=a) hs hy;obtain⟨r1,r2⟩:=sW hx hc.1;have r3:=RL.ma (E:=E) (E' := E.nl) _ (Env.le.refl E.nl) hc.2.1 r1;have r4:=sf r1 hc.2.2;refine⟨by simp[k1],by simp[k2],?_,?_,?_,?_⟩
    · simp only[c7];exact⟨r2,k3⟩
    · simp only[c7];exact⟨by have:=dS r1;rw[PV];simp at this;omega,k4⟩
    · simp only[iQ,bL];exact qn (RL.erase _ r3) k5
    · simp only[bL,iQ];intro v hv
      rcases gY.1 hv with h | h
      · exact r4 v h
      · exact k6 v h
theorem VE (hs:a7 E st a) {t e:TypeId} {len k:Nat} {parts:Array (Nat × Operand)} {z:List V} (ho:o.op = .buildSlice t len parts) (ht:P.underlying t=some (.slice e)) (hn:cO P e=some k) (hz:gW P e=some z)
    (hr:parts.toList.map (·.1)=List.range len) (bK:len*k≤16777216) {l:List (List V)}
    (hf:(parts.toList.map (·.2)).length=len∧l.length=len∧(∀x∈parts.toList.map (·.2),(a.eval x).cells.size=k)∧(∀y∈l,y.length=k)∧RL E.nl l.flatten ((parts.toList.map (·.2)).map fun x=>(a.eval x).cells.toList).flatten∧∀v∈((parts.toList.map (·.2)).map fun x=>(a.eval x).cells.toList).flatten,v.oneCell' = true)
    (hk:K (V.sl .full k l) st):o.wp P a E.w (cI E a o.dst K) Q:=by
  obtain⟨k1,k2,k3,k4,k5,k6⟩:=hf;obtain⟨i,zv,h1,h2,h3,h4⟩:=o_ hz;have hlen:parts.toList.length=len:=by simpa using k1
  let ps:List (Nat × Value):=parts.toList.map fun (i,x)=>(i,a.eval x)
  have HD:ps.map (·.1)=List.range' 0 ps.length:=by
    have:ps.map (·.1)=parts.toList.map (·.1):=by simp[ps,rr]
    rw[this,hr,qi];congr 1;simp[ps];simpa using hlen.symm
  have HE:(ps.map fun p=>p.2.cells.toList)=(parts.toList.map (·.2)).map fun x=>(a.eval x).cells.toList:=by simp[ps,rr]
  have bT:∀p∈ps,p.2.cells.size=k:=fun p hp=>by
    simp only[ps,qh] at hp;obtain⟨q,hq,rfl⟩:=hp;exact k3 q.2 (qh.2 ⟨q,hq,rfl⟩)
  have lA:ps.length=len:=by simp[ps];simpa using hlen
  have fill:∀cells:Array Value,cells.size=len*k→Instr.fill (fun i=>some (i*k,k)) cells ps=some ((parts.toList.map (·.2)).map fun x=>(a.eval x).cells.toList).flatten.toArray:=fun cells hc=>by
    have:=Gj ps 0 cells HD bT (by rw[lA];simpa using hc)
    rw[this,HE];simp
  generalize oG:((parts.toList.map (·.2)).map fun x=>(a.eval x).cells.toList).flatten=news at fill k5 k6;refine VH hs (w' := E.w.alloc (.cells news.toArray e)) (x:=.slice (some ⟨E.w.heap.size,0,none⟩) len len) ((Ext.refl _).alloc _ _) ?_ ?_ hk
  · have gf:(zeroValue e).run P E.w = .ok zv E.w:=by simp[zeroValue,typeInfo,h1,h2]
    have Ay:(parts.map fun (i,x)=>(i,a.eval x)).toList=ps:=by simp[ps]
    have tQ : ¬(16777216<len*k):=by omega
    simp only[execOp,ho,Sem.run_bind];have key:(Instr.buildSlice t len (parts.map fun (i,x)=>(i,a.eval x))).run P E.w = .ok (.slice (some ⟨E.w.heap.size,0,none⟩) len len) (E.w.alloc (.cells news.toArray e)):=by
      unfold Instr.buildSlice;simp only[Sem.run_bind,run_underlying ht,Result.andThen_ok,kX hn];rw[ah (by simpa using tQ)];rw[Ay]
      by_cases h0:len*k=0
      · rw[aw h0];simp only[Sem.run_bind,Sem.run_pure,Result.andThen_ok];rw[fill _ (by simp)];simp[newRow]
      · rw[ah h0];simp only[Sem.run_bind,gf,Result.andThen_ok,Sem.run_pure];rw[fill _ (by simp)];simp[newRow]
    rw[key];rfl
  · obtain⟨aQ,_,_⟩:=yM hs ((Ext.refl E.w).alloc news.toArray e);have oE:(E.w.alloc (.cells news.toArray e)).heap[E.w.heap.size]?=some (.cells (news++[]).toArray e (0,0)):=by simpa using heap_alloc_new E.w (.cells news.toArray e)
    simp only[R,k2];refine⟨some ⟨E.w.heap.size,0,none⟩,len,rfl,bt _,.inr ⟨_,_,rfl,?_⟩,rfl⟩;exact B_ (E' := {E with w:=E.w.alloc (.cells news.toArray e)}) k4 (RL.mono _ aQ.nl k5) k6 oE (fun j _=>by rw[show ({E with w:=E.w.alloc (.cells news.toArray e)}:Env).role E.w.heap.size = .const from hs.ok.fresh _ (bt _)];trivial)
theorem apy (hs:a7 E st a) {t e:TypeId} {len k:Nat} {parts:Array (Nat × Operand)} {ys:List X} {z:List V} (ho:o.op = .buildSlice t len parts) (ht:P.underlying t=some (.slice e)) (hn:cO P e=some k) (hz:gW P e=some z)
    (hl:gq P (List.replicate len e) (parts.toList.map (·.2))=some ys) (hr:parts.toList.map (·.1)=List.range len) (bK:len*k≤16777216)
    (hk:opt ((jh st k ys).map (V.sl .full k)) (K2 K st)):o.wp P a E.w (cI E a o.dst K) Q:=by
  unfold opt K2 at hk;split at hk
  case h_2=>exact hk.elim
  rename_i v hv;simp only[cf] at hv;obtain⟨l,hb,rfl⟩:=hv;exact VE hs ho ht hn hz hr bK (T' (E:=E) hs.slot hl hb) hk
theorem H' (hs:RL E st.t a.tmps.toList) {k:Nat} {e:TypeId}:∀{n:Nat} {xs:List Operand} {ys:List X} {l:List (List V)},gq P (List.replicate n e) xs=some ys→tX k (b9 st ys)=some l →
    xs.length=n∧l.length=n∧(∀x∈xs,(a.eval x).cells.size=k)∧(∀y∈l,y.length=k)∧RL E.nl l.flatten (xs.map fun x=>(a.eval x).cells.toList).flatten∧∀v∈(xs.map fun x=>(a.eval x).cells.toList).flatten,v.oneCell' = true
  | 0, [], ys, l, h1, h2 => by
    simp only[List.replicate_zero,gq,aG] at h1;subst h1;simp only[b9,tX,aG] at h2;subst h2;simp[RL]
  | 0,_::_,ys,l,h1,h2=>by simp[gq] at h1
  | n+1,[],ys,l,h1,h2=>by simp[ry,gq] at h1
  | n + 1, x :: xs, ys, l, h1, h2 => by
    simp only[ry,gq,fH,cf] at h1;obtain⟨y,hy,VU,lZ,rfl⟩:=h1;simp only[b9,tX] at h2;split at h2
    case isFalse=>simp at h2
    rename_i hc;simp only[cf] at h2;obtain⟨l',fc,rfl⟩:=h2;obtain⟨k1,k2,k3,k4,k5,k6⟩:=H' hs lZ fc;have hx:=kr (E:=E) (st:=st) (a:=a) hs hy;obtain⟨r1,r2⟩:=sW hx hc.1;have r3:=RL.ma (E:=E) (E' := E.nl) _ (Env.le.refl E.nl) hc.2.1 r1;have r4:=sf r1 hc.2.2;refine⟨by simp[k1],by simp[k2],?_,?_,?_,?_⟩
    · simp only[c7];exact⟨r2,k3⟩
    · simp only[c7];exact⟨by have:=dS r1;simp at this;omega,k4⟩
    · simp only[iQ,bL];exact qn r3 k5
    · simp only[bL,iQ];intro v hv
      rcases gY.1 hv with h | h
      · exact r4 v h
      · exact k6 v h
end
section
variable {P:Program} {E:Env} {st:St} {a:Act} {o:Oper} {K:V→St→Prop} {Q:Exit→Act→World→Prop}
theorem zI (s:List UInt8):(b6 s).flatten=s.map fun b=>V.int .u8 b.toNat:=by
  induction s with
  | nil=>rfl
  | cons b s ih=>simp only[b6,bL,iQ] at ih ⊢;rw[ih];rfl
theorem Ld {E:Env}:∀{s:List UInt8} {vs:List Value},RL E (s.map fun b=>V.int .u8 b.toNat) vs→vs=(s.map fun b=>(b.toNat:Int)).map (Value.int .u8)
  | [],[],_=>rfl
  | [],_::_,h=>by simp[RL] at h
  | _::_,[],h=>by simp[RL] at h
  | b :: s, v :: vs, h => by
    simp only[bL,RL,R] at h;simp only[bL];rw[h.1,Ld h.2]
theorem Jh:∀(s:List UInt8) (r:List UInt8),(s.map fun b=>(b.toNat:Int)).foldl (fun (r:ByteArray) n=>r.push (UInt8.ofNat n.toNat)) ⟨r.toArray⟩=⟨(r++s).toArray⟩
  | [],r=>by simp
  | b :: s, r => by
    have e:(⟨r.toArray⟩:ByteArray).push (UInt8.ofNat ((b.toNat:Int)).toNat)=⟨(r++[b]).toArray⟩:=by
      apply ByteArray.ext;simp[ByteArray.push]
    simp only[bL,qe,e,Jh s (r++[b])];simp
theorem apB (hs:a7 E st a) {src dst e:TypeId} {x:Operand} {v:V} (ho:o.op = .convert src dst x) (h1:P.underlying src=some (.slice e)) (h2:P.underlying dst=some .string) (h3:P.underlying e=some (.int .u8)) (hx:R E v (a.eval x))
    (hk:∃t s,v = .sl t 1 (b6 s)∧K (.str s) st):o.wp P a E.w (cI E a o.dst K) Q:=by
  obtain⟨t,s,rfl,hk⟩:=hk;simp only[R] at hx;obtain⟨base,cap,hv,_,jy,_⟩:=hx;refine b8 hs (v:=.str s) (x:=.string ⟨s.toArray⟩) ?_ (by simp only[R]) hk;have key:(Conv.bytesToString (a.eval x)).run P E.w = .ok (.string ⟨s.toArray⟩) E.w:=by
    rw[hv]
    rcases jy with h | ⟨b,off,rfl,hr⟩
    · have Dj:s=[]:=by simpa [b6] using h
      subst Dj;cases base with
      | none=>simp[Conv.bytesToString];rfl
      | some ad =>
        have:=run_bytesToString (P:=P) E.w ad 0 cap [] (by simp[loadCells,loadCellsFrom])
        simp[b6] at this ⊢;exact this
    · obtain⟨_,h5⟩:=nq.1 hr;obtain⟨vs,k1,k2,_,_⟩:=B9 h5;rw[zI] at k1;have e1:=Ld k1;have hl:vs.length=(b6 s).length:=by rw[e1];simp[b6]
      have hc:=run_loadCells_list (P:=P) E.w ⟨b,off,none⟩ vs (fun j u hu=>by rw[jq];exact k2 j u hu);rw[hl,e1] at hc
      have:=run_bytesToString (P:=P) E.w ⟨b,off,none⟩ (b6 s).length cap _ hc
      rw[this];have hp:=Jh s [];simp only[iS] at hp;exact gj (fun z=>Result.ok (Value.string z) E.w) hp
  rw[hv] at key;simp only[execOp,ho,Sem.run_bind,hv,run_convert_bytes_string E.w src dst e base _ cap h1 h3 h2,key,Result.andThen_ok,Sem.run_pure]
theorem Wd {E:Env} {k:Nat} {l:List (List V)} {b o m n:Nat} (h:dE E k l b o) (pC:m≤n) (hn:n≤l.length):dE E k ((l.take n).drop m) b (o+m*k):=by
  obtain⟨h1,h2⟩:=nq.1 h;refine nq.2 ⟨fun x hx=>h1 x (ru (B0 hx)),?_⟩;have e:l=(l.take n).take m++((l.take n).drop m++l.drop n):=by
    rw[←eh,my,my]
  rw[e,od,od,sU,sU] at h2;have hl:((l.take n).take m).flatten.length=m*k:=by
    rw[iA (fun x hx=>h1 x (ru (ru hx)))];simp only[gO];congr 1;omega
  rw[hl] at h2;exact h2.2.1
theorem jJ {E:Env} (hs:RL E st.t a.tmps.toList) {t:TypeId} {x:Option Operand} {y:Option X} (h:iJ P t x=some y) :
    (x=none∧y=none)∨∃u v,x=some u∧y=some v∧R E (ev st v) (a.eval u):=by
  cases x with
  | none=>simp only[iJ,aG] at h;exact .inl ⟨rfl,h.symm⟩
  | some x =>
    simp only[iJ,cf] at h;obtain⟨v,hv,rfl⟩:=h;exact .inr ⟨x,v,rfl,rfl,kr hs hv⟩
theorem mY {w:World} {j:IntKind} {n y:Nat} {c:BoundsCode} (h:n≤y):(Instr.sliceBound (.int j n) y c).run P w = .ok n w:=by
  simp[Instr.sliceBound,asIntOf,h]
theorem Qp (hs:a7 E st a) {τ k:Nat} {l:List (List V)} {v:Value} (ht:st.out.aB τ=some l.length) (h:R E (.sl .full k l) v):R E (.sl (.tk τ) k l) v:=by
  simp only[R] at h ⊢;obtain⟨ad,cap,h1,h2,h3,h4⟩:=h;exact⟨ad,cap,h1,h2,h3,l.length,hs.ok.aB τ _ ht,bt _,fun _=>.inl h4⟩
theorem JB {t:TypeId} {lo hi mx:Option Operand} {kq cD mx' : Option X} (hs:a7 E st a) (h1:iJ P t lo=some kq) (h2:iJ P t hi=some cD) (h3:iJ P t mx=some mx') (qM:mx'.isSome=true→cD.isSome=true) {len cap m n M:Nat}
    (cG:match (generalizing:=false) kq with | none=>m=0 | some y=>∃j,ev st y = .int j m) (kj:match (generalizing:=false) cD with | none=>n=len | some y=>∃j,ev st y = .int j n) (hM:match (generalizing:=false) mx' with | none=>M=cap | some y=>∃j,ev st y = .int j M)
    (pC:m≤n) (hnM:n≤M) (GJ:M≤cap):(Instr.sliceBounds true len cap (lo.map a.eval) (hi.map a.eval) (mx.map a.eval)).run P E.w = .ok (m,n,M) E.w:=by
  have e1:∀c,(match (lo.map a.eval:Option Value) with | some v=>Instr.sliceBound v n c | none=>pure 0:Sem Nat).run P E.w = .ok m E.w:=fun c=>by
    rcases jJ (E:=E) hs.slot h1 with ⟨rfl,rfl⟩ | ⟨u,v,rfl,rfl,hr⟩
    · simp only at cG;subst cG;simp
    · obtain⟨j,hj⟩:=cG;rw[hj] at hr;simp only[R] at hr;simp only[pf,hr];exact mY pC
  rcases jJ (E:=E) hs.slot h3 with ⟨rfl,rfl⟩ | ⟨u3,v3,rfl,rfl,vC⟩
  · simp only at hM;subst hM
    rcases jJ (E:=E) hs.slot h2 with ⟨rfl,rfl⟩ | ⟨u,v,rfl,rfl,hr⟩
    · simp only at kj;subst kj
      have:=e1 .sliceB
      rcases jJ (E:=E) hs.slot h1 with ⟨rfl,rfl⟩ | ⟨u',v',rfl,rfl,bF⟩<;>simp[Instr.sliceBounds] at this ⊢
      · exact this
      · simp[this]
    · obtain⟨j,hj⟩:=kj;rw[hj] at hr;simp only[R] at hr
      have:=e1 .sliceB
      have e2:=mY (P:=P) (w:=E.w) (j:=j) (c:=.sliceAcap) (show n≤M by omega)
      rcases jJ (E:=E) hs.slot h1 with ⟨rfl,rfl⟩ | ⟨u',v',rfl,rfl,bF⟩<;>simp[Instr.sliceBounds,hr,e2] at this ⊢
      · exact this
      · simp[this]
  · obtain⟨j3,Hp⟩:=hM;rw[Hp] at vC;simp only[R] at vC;have e3:=mY (P:=P) (w:=E.w) (j:=j3) (c:=.slice3Acap) GJ
    rcases jJ (E:=E) hs.slot h2 with ⟨rfl,rfl⟩ | ⟨u,v,rfl,rfl,hr⟩
    · simp at qM
    · obtain⟨j,hj⟩:=kj;rw[hj] at hr;simp only[R] at hr
      have:=e1 .slice3C
      have e2:=mY (P:=P) (w:=E.w) (j:=j) (c:=.slice3B) hnM
      rcases jJ (E:=E) hs.slot h1 with ⟨rfl,rfl⟩ | ⟨u',v',rfl,rfl,bF⟩<;>simp[Instr.sliceBounds,hr,vC,e2,e3] at this ⊢
      · exact this
      · simp[this]
theorem apR (hs:a7 E st a) {t e:TypeId} {k:Nat} {x:Operand} {lo hi mx:Option Operand} {vx:V} {kq cD mx' : Option X} (ho:o.op = .slice t x lo hi mx) (ht:P.underlying t=some (.slice e)) (hn:cO P e=some k)
    (hx:R E vx (a.eval x)) (h1:iJ P t lo=some kq) (h2:iJ P t hi=some cD) (h3:iJ P t mx=some mx') (qM:mx'.isSome=true→cD.isSome=true)
    (hk:∃t l m n,vx = .sl t k l∧m≤n∧n≤l.length∧(match (generalizing:=false) kq with | none=>m=0 | some y=>∃j,ev st y = .int j m)∧(match (generalizing:=false) cD with | none=>n=l.length | some y=>∃j,ev st y = .int j n) ∧
      match (generalizing:=false) mx' with
      | none=>K (.sl .no k ((l.take n).drop m)) st
      | some y=>(∃j,ev st y = .int j n)∧K (.sl .full k ((l.take n).drop m)) st):o.wp P a E.w (cI E a o.dst K) Q:=by
  obtain⟨tk,l,m,n,rfl,pC,mM,cG,kj,hk⟩:=hk;simp only[R] at hx;obtain⟨base,cap,hv,vq,jy,_⟩:=hx;have key:∀M:Nat,n≤M→M≤cap→(mx' = none→M=cap)→(mx'.isSome=true→M=n)→(Instr.sliceBounds true l.length cap (lo.map a.eval) (hi.map a.eval) (mx.map a.eval)).run P E.w = .ok (m,n,M) E.w:=fun M hM GJ hM1 hM2=>by
    have e1:∀c,(match (lo.map a.eval:Option Value) with | some v=>Instr.sliceBound v n c | none=>pure 0:Sem Nat).run P E.w = .ok m E.w:=fun c=>by
      rcases jJ (E:=E) hs.slot h1 with ⟨rfl,rfl⟩ | ⟨u,v,rfl,rfl,hr⟩
      · simp only at cG;subst cG;simp
      · obtain⟨j,hj⟩:=cG;rw[hj] at hr;simp only[R] at hr;simp only[pf,hr];exact mY pC
    rcases jJ (E:=E) hs.slot h3 with ⟨rfl,rfl⟩ | ⟨u3,v3,rfl,rfl,vC⟩
    · obtain rfl:=hM1 rfl
      rcases jJ (E:=E) hs.slot h2 with ⟨rfl,rfl⟩ | ⟨u,v,rfl,rfl,hr⟩
      · simp only at kj;subst kj
        have:=e1 .sliceB
        rcases jJ (E:=E) hs.slot h1 with ⟨rfl,rfl⟩ | ⟨u',v',rfl,rfl,bF⟩<;>simp[Instr.sliceBounds] at this ⊢
        · exact this
        · simp[this]
      · obtain⟨j,hj⟩:=kj;rw[hj] at hr;simp only[R] at hr
        have:=e1 .sliceB
        have e2:=mY (P:=P) (w:=E.w) (j:=j) (c:=.sliceAcap) (show n≤M by omega)
        rcases jJ (E:=E) hs.slot h1 with ⟨rfl,rfl⟩ | ⟨u',v',rfl,rfl,bF⟩<;>simp[Instr.sliceBounds,hr,e2] at this ⊢
        · exact this
        · simp[this]
    · obtain rfl:=hM2 rfl;simp only at hk;obtain⟨⟨j3,Hp⟩,hk⟩:=hk;rw[Hp] at vC;simp only[R] at vC;have e3:=mY (P:=P) (w:=E.w) (j:=j3) (c:=.slice3Acap) GJ
      rcases jJ (E:=E) hs.slot h2 with ⟨rfl,rfl⟩ | ⟨u,v,rfl,rfl,hr⟩
      · simp at qM
      · obtain⟨j,hj⟩:=kj;rw[hj] at hr;simp only[R] at hr
        have:=e1 .slice3C
        have e2:=mY (P:=P) (w:=E.w) (j:=j) (c:=.slice3B) (bt M)
        rcases jJ (E:=E) hs.slot h1 with ⟨rfl,rfl⟩ | ⟨u',v',rfl,rfl,bF⟩<;>simp[Instr.sliceBounds,hr,vC,e2,e3] at this ⊢
        · exact this
        · simp[this]
  have run:∀M:Nat,n≤M→M≤cap→(mx' = none→M=cap)→(mx'.isSome=true→M=n)→(execOp a.eval o).run P E.w = .ok (.value (.slice (if M=m then base else base.map (·.add (m*k))) (n - m) (M - m))) E.w:=fun M h1 h2 h3 h4=>by
    simp only[execOp,ho,Sem.run_bind,hv];simp[Instr.sliceAt,run_underlying ht,Instr.slice,key M h1 h2 h3 h4,kX hn]
  have val:∀M iP,n≤M→M≤cap→(iP = Tk.no∨(iP = Tk.full∧M=n))→R E (.sl iP k ((l.take n).drop m)) (.slice (if M=m then base else base.map (·.add (m*k))) (n - m) (M - m)):=fun M iP h1 h2 h3=>by
    have hlen:((l.take n).drop m).length=n - m:=by simp;omega
    simp only[R,hlen];refine⟨_,_,rfl,by omega,?_,?_⟩
    · rcases mz m n with ag | pz
      · right
        rcases jy with h | ⟨b,off,rfl,hr⟩
        · subst h;simp at mM;omega
        · refine⟨b,off+m*k,?_,Wd hr pC mM⟩;rw[ah (by omega)];simp[jq]
      · left;exact nj (by omega)
    · rcases h3 with rfl | ⟨rfl,rfl⟩
      · trivial
      · rfl
  cases mx' with
  | none=>exact b8 hs (run cap (by omega) (bt _) (fun _=>rfl) (fun h=>by simp at h)) (val cap .no (by omega) (bt _) (.inl rfl)) hk
  | some y=>exact b8 hs (run n (bt _) (by omega) (fun h=>by simp at h) (fun _=>rfl)) (val n .full (bt _) (by omega) (.inr ⟨rfl,rfl⟩)) hk.2
theorem apQ (hs:a7 E st a) {t:TypeId} {x:Operand} {lo hi:Option Operand} {vx:V} {kq cD : Option X} (ho:o.op = .slice t x lo hi none) (ht:P.underlying t=some .string)
    (hx:R E vx (a.eval x)) (h1:iJ P t lo=some kq) (h2:iJ P t hi=some cD)
    (hk:∃s m n,vx = .str s∧m≤n∧n≤s.length∧(match (generalizing:=false) kq with | none=>m=0 | some y=>∃j,ev st y = .int j m)∧(match (generalizing:=false) cD with | none=>n=s.length | some y=>∃j,ev st y = .int j n)∧K (.str ((s.take n).drop m)) st) :
    o.wp P a E.w (cI E a o.dst K) Q:=by
  obtain⟨s,m,n,rfl,pC,mM,cG,kj,hk⟩:=hk;simp only[R] at hx;have bK:(⟨s.toArray⟩:ByteArray).size=s.length:=by simp[ByteArray.size]
  have key:(Instr.sliceBounds false s.length s.length (lo.map a.eval) (hi.map a.eval) none).run P E.w = .ok (m,n,s.length) E.w:=by
    rcases jJ (E:=E) hs.slot h2 with ⟨rfl,rfl⟩ | ⟨u,v,rfl,rfl,hr⟩
    · simp only at kj;subst kj
      rcases jJ (E:=E) hs.slot h1 with ⟨rfl,rfl⟩ | ⟨u',v',rfl,rfl,bF⟩
      · simp only at cG;subst cG;simp[Instr.sliceBounds]
      · obtain⟨j',gl⟩:=cG;rw[gl] at bF;simp only[R] at bF;have e2:=mY (P:=P) (w:=E.w) (j:=j') (c:=.sliceB) pC;simp[Instr.sliceBounds,bF,e2]
    · obtain⟨j,hj⟩:=kj;rw[hj] at hr;simp only[R] at hr;have e2:=mY (P:=P) (w:=E.w) (j:=j) (c:=.sliceAlen) mM
      rcases jJ (E:=E) hs.slot h1 with ⟨rfl,rfl⟩ | ⟨u',v',rfl,rfl,bF⟩
      · simp only at cG;subst cG;simp[Instr.sliceBounds,hr,e2]
      · obtain⟨j',gl⟩:=cG;rw[gl] at bF;simp only[R] at bF;have e3:=mY (P:=P) (w:=E.w) (j:=j') (c:=.sliceB) pC;simp[Instr.sliceBounds,hr,bF,e2,e3]
  refine b8 hs (v:=.str ((s.take n).drop m)) (x:=.string ⟨((s.take n).drop m).toArray⟩) ?_ (by simp only[R]) hk;have he:(⟨s.toArray⟩:ByteArray).extract m n=⟨((s.take n).drop m).toArray⟩:=by
    apply ByteArray.ext;rw[ByteArray.data_extract];apply y8;simp[Fg]
  simp only[execOp,ho,Sem.run_bind,hx];simp[Instr.sliceAt,run_underlying ht,Instr.slice,bK,key,he]
theorem U5 {w:World} {u:TypeId} (hu:P.underlying u=some .string) (s:List UInt8) :
    ∃news,Src P w 1 (b6 s).length u (.string ⟨s.toArray⟩) news∧RL E (b6 s).flatten news∧(∀v∈news,v.oneCell' = true)∧∀y∈b6 s,y.length=1:=by
  have bK:(⟨s.toArray⟩:ByteArray).size=s.length:=by simp[ByteArray.size]
  have hx:((⟨s.toArray⟩:ByteArray).extract 0 s.length).data.map (fun b:UInt8=>Value.int .u8 (b.toNat:Int))=(s.map fun b:UInt8=>Value.int .u8 (b.toNat:Int)).toArray:=by
    apply y8;rw[ByteArray.data_extract];simp
  refine⟨s.map fun b=>Value.int .u8 b.toNat,⟨⟨_,hu,fun _ h=>by simp at h⟩,fun w' => by simp[Builtin.lenOf,bK,b6],?_,?_,by simp[b6]⟩,?_,?_,?_⟩
  · simp only[Builtin.firstCells,b6,aD,hx,Sem.run_pure]
  · simp only[Builtin.firstCells,b6,aD,hx,Sem.run_pure]
  · rw[zI];induction s with
    | nil=>simp[RL]
    | cons b s ih=>simp only[bL,RL,R];exact⟨trivial,by
        clear bK hx ih;induction s with
        | nil=>simp[RL]
        | cons c s ih=>simp only[bL,RL,R];exact⟨trivial,ih⟩⟩
  · intro v hv;simp only[qh] at hv;obtain⟨b,_,rfl⟩:=hv;rfl
  · intro y hy;simp only[b6,qh] at hy;obtain⟨b,_,rfl⟩:=hy;rfl
theorem A1 {ao:aq} (hl:ub P o=some ao) (hs:a7 E st a) (h:ao.aL P st K):o.wp P a E.w (cI E a o.dst K) Q:=by
  have X:=fun {t:TypeId} {x:Operand} {y:X} (hx:bN P t x=some y)=>kr (E:=E) (st:=st) (a:=a) hs.slot hx
  have XS:=fun {ts:List TypeId} {xs:List Operand} {ys:List Go.Am.X} (hx:gq P ts xs=some ys)=>Iy (E:=E) (st:=st) (a:=a) hs.slot hx
  unfold ub at hl;split at hl
  · rename_i x ho;simp only[cf] at hl;obtain⟨y,hy,rfl⟩:=hl;exact VI hs (.inl ho) (X hy) h
  · rename_i x ho;simp only[cf] at hl;obtain⟨y,hy,rfl⟩:=hl;exact VI hs (.inr ho) (X hy) h
  · rename_i c x y ho;split at hl
    case h_2=>simp at hl
    rename_i h1 h2 h3;simp only[aG] at hl;subst hl;exact apP hs ho (X h1) (X h2) (X h3) h
  · rename_i t ho;simp only[cf] at hl;obtain⟨z,hz,rfl⟩:=hl;exact aps hs ho hz h
  · rename_i t x ho;split at hl
    case h_2=>simp at hl
    rename_i h1 h2;simp only[aG] at hl;subst hl;exact apw hs ho (X h2) h.1 h.2
  · rename_i t ps ho;split at hl
    · rename_i z fs hz hu;split at hl
      case isFalse=>simp at hl
      rename_i bT;simp only[cf] at hl;obtain⟨TE,hp,rfl⟩:=hl;exact wp_build hs ho hz (.inl ⟨fs,hu,bT,rfl⟩) hp h
    · rename_i z k e hz hu;split at hl
      case isFalse=>simp at hl
      rename_i bT;simp only[cf] at hl;obtain⟨TE,hp,rfl⟩:=hl;exact wp_build hs ho hz (.inr ⟨k,e,hu,bT,rfl⟩) hp h
    · simp at hl
  · rename_i t len ps ho;split at hl
    case h_2=>simp at hl
    rename_i e hu;split at hl
    case h_2=>simp at hl
    rename_i k z xs h1 h2 h3;split at hl
    case isFalse=>simp at hl
    rename_i hc;simp only[aG] at hl;subst hl;exact apy hs ho hu h1 h2 h3 hc.1 hc.2.1 h
  · rename_i t x ho;split at hl
    case h_2=>simp at hl
    rename_i h1 h2 h3;simp only[aG] at hl;subst hl;exact apL hs ho h1 h2 (X h3) h
  · rename_i t x y ho;split at hl
    case h_2=>simp at hl
    rename_i n ax ay h1 h2 h3;split at hl
    · simp at hl
    rename_i yh;simp only[aG] at hl;subst hl;simp only[aq.aL] at h;split at h
    case h_2=>exact h.elim
    rename_i al dO;exact VL hs (Nat.pos_of_ne_zero yh) ho h1 (X h2) (X h3) dO h
  · rename_i x ho;simp only[cf] at hl;obtain⟨y,hy,rfl⟩:=hl;exact apN hs ho (X hy) h
  · rename_i op t x y t' ho;split at hl
    case h_2=>simp at hl
    rename_i ax ay h1 h2;split at hl
    · simp only[aG] at hl;subst hl;exact apu hs ho (X h1) (X h2) h
    · split at hl
      · simp only[aG] at hl;subst hl;exact apA hs ho (X h1) (X h2) h
      · simp only[aG] at hl;subst hl;exact apv hs ho (X h1) (X h2) h
    · rename_i hu;split at hl
      · simp only[aG] at hl;subst hl;exact VD hs (neg:=false) rfl hu ho (X h1) (X h2) h
      · simp only[aG] at hl;subst hl;exact VD hs (neg:=true) rfl hu ho (X h1) (X h2) h
      · simp at hl
    · rename_i fs hu;split at hl
      case h_2=>simp at hl
      rename_i ks eU;split at hl
      · simp only[aG] at hl;subst hl;exact EN hs (neg:=false) rfl eU ho (by simp[fx,hu]) (X h1) (X h2) h
      · simp only[aG] at hl;subst hl;exact EN hs (neg:=true) rfl eU ho (by simp[fx,hu]) (X h1) (X h2) h
      · simp at hl
    · rename_i fs e hu;split at hl
      case h_2=>simp at hl
      rename_i ks eU;split at hl
      · simp only[aG] at hl;subst hl;exact EN hs (neg:=false) rfl eU ho (by simp[fx,hu]) (X h1) (X h2) h
      · simp only[aG] at hl;subst hl;exact EN hs (neg:=true) rfl eU ho (by simp[fx,hu]) (X h1) (X h2) h
      · simp at hl
    · simp at hl
  · rename_i t x ho;simp only[cf] at hl;obtain⟨y,hy,rfl⟩:=hl;exact apO hs ho (X hy) h
  · rename_i src dst x ho;split at hl
    · rename_i h1 h2 h3;simp only[aG] at hl;subst hl;exact apC hs ho h1 h2 (X h3) h
    · rename_i h1 h2 h3;split at hl
      case h_2=>simp at hl
      rename_i h4;simp only[aG] at hl;subst hl;exact apB hs ho h1 h2 h4 (X h3) h
    · simp at hl
  · rename_i f first cap ho
    split at hl
    case h_2=>simp at hl
    rename_i h1 h2;simp only[aG] at hl;subst hl;exact apM hs ho (XS h1) (XS h2) h
  · rename_i t x lo hi mx ho;split at hl
    case h_2=>simp at hl
    rename_i h1 h2 h3 h4;split at hl
    · rename_i e hu;split at hl
      case h_2=>simp at hl
      rename_i k hk;split at hl
      case isFalse=>simp at hl
      rename_i qM;simp only[aG] at hl;subst hl;simp only[aq.aL] at h
      rcases h with h | ⟨base,n,cap,m,hh,e1,k1,k2,g1,g2,g3,hK⟩
      · exact apR hs ho hu hk (X h1) h2 h3 h4 qM h
      · have dW:=X h1;rw[e1] at dW;simp only[R] at dW;rename_i mx' _ _;have g3:mx' = none:=by cases mx' with | none=>rfl | some _=>simp at g3
        subst g3;have hb:=JB (P:=P) (M:=cap) hs h2 h3 h4 qM g1 g2 rfl k1 k2 (bt _);refine b8 hs (v:=.raw _) (x:=.slice (if cap=m then base else base.map (·.add (m*k))) (hh - m) (cap - m)) ?_ (by simp only[R]) hK;simp only[execOp,ho,Sem.run_bind,dW];simp[Instr.sliceAt,run_underlying hu,Instr.slice,hb,kX hk]
    · rename_i hu;split at hl
      case h_2=>simp at hl
      simp only[aG] at hl;subst hl;have qM:mx=none:=by cases mx with | none=>rfl | some m=>simp[iJ] at h4
      subst qM;exact apQ hs ho hu (X h1) h2 h3 h
    · simp at hl
  · rename_i s x i ho;split at hl
    case h_2=>simp at hl
    rename_i fs y h1 h2;split at hl
    case h_2=>simp at hl
    rename_i f hf;split at hl
    case h_2=>simp at hl
    rename_i n hn;split at hl
    · simp at hl
    rename_i yh;simp only[aG] at hl;subst hl;exact apE hs ho h1 hf hn yh (X h2) h
  · rename_i s x i ho;split at hl
    case h_2=>simp at hl
    rename_i fs y h1 h2;split at hl
    case h_2=>simp at hl
    rename_i f hf;split at hl
    case h_2=>simp at hl
    rename_i g n hg hn;simp only[aG] at hl;subst hl;exact apF hs ho h1 hf hg hn (X h2) h
  · rename_i t x i ho;split at hl
    case h_3=>simp at hl
    case h_1 =>
      rename_i e ax ai h1 h2 h3;simp only[cf] at hl;obtain⟨k,hk,rfl⟩:=hl;exact apG hs ho h1 hk (X h2) (X h3) h
    case h_2 =>
      rename_i m e ax ai h1 h2 h3;simp only[cf] at hl;obtain⟨k,hk,rfl⟩:=hl;exact apH hs ho h1 hk (X h2) (X h3) h
  · rename_i t x i ho;split at hl
    case h_2=>simp at hl
    rename_i ax ai h1 h2 h3;simp only[aG] at hl;subst hl;exact apI hs ho h1 (X h2) (X h3) h
  · rename_i x i ho;simp only[cf] at hl;obtain⟨y,hy,rfl⟩:=hl;exact apD hs ho (X hy) h
  · rename_i c ho;obtain⟨callee,args,argTypes⟩:=c;simp only at hl;split at hl
    · rename_i f;simp only[cf] at hl;obtain⟨ys,lZ,rfl⟩:=hl;refine VF hs (vs:=args.map a.eval) (by simpa using XS lZ) h.1 h.2 ?_;simp[execOp,ho,resolve,Act.eval,Deferred.ofValue,invoke]
    · rename_i x;split at hl
      case h_2=>simp at hl
      rename_i y ys h1 h2;simp only[aG] at hl;subst hl;have hx:=X h1;simp only[aq.aL] at h;split at h
      case h_2=>exact h.elim
      rename_i f as bs Hh;rw[Hh] at hx;simp only[R] at hx;obtain⟨fs,cs,he,r1,r2⟩:=hx;refine VF hs (vs:=fs++args.map a.eval++cs) (by simpa using qn (qn r1 (XS h2)) r2) h.1 h.2 ?_;simp[execOp,ho,resolve,he,Deferred.ofValue,invoke]
    · split at hl
      case h_2=>simp at hl
      rename_i t x ht hx;have e1:argTypes=#[t]:=by cases argTypes;simpa using ht
      have e2:args=#[x]:=by cases args;simpa using hx
      subst e1;subst e2;split at hl
      · rename_i e y hu hy;simp only[aG] at hl;subst hl;exact apJ hs ho hu (X hy) h
      · rename_i y hu hy;simp only[aG] at hl;subst hl;exact apK hs ho hu (X hy) h
      · simp at hl
    · split at hl
      case h_2=>simp at hl
      rename_i t u s x ht hx;have e1:argTypes=#[t,u]:=by cases argTypes;simpa using ht
      have e2:args=#[s,x]:=by cases args;simpa using hx
      subst e1;subst e2;have cg:(execOp a.eval o).run P E.w=((Builtin.append_ #[t,u] o.type #[a.eval s,a.eval x]).run P E.w).andThen fun v w' => .ok (.value v) w' := by
        simp[execOp,ho,resolve,invoke,builtin]
      split at hl
      · rename_i e e' ys yx h1 h2 h3 h4;split at hl
        case h_2=>simp at hl
        rename_i i z hi hz;split at hl
        case isFalse=>simp at hl
        rename_i hc;obtain⟨rfl,kf,iD⟩:=hc;simp only[aG] at hl;subst hl;obtain⟨i',zv,k1,k2,k3,k4⟩:=o_ hz;rw[hi] at k1;simp only[aG] at k1;subst k1;have gf:zv.cells.size=i.size:=by have:=dS (nz (E:=E) k3);simp at this;omega
        simp only[aq.aL,mu] at h;obtain⟨tk,l,m,es,⟨t',ex⟩,hbig,hk⟩:=h;have hS:=X h3;have hX:=X h4;rw[es] at hS;rw[ex] at hX;obtain⟨news,q1,q2,q3,q4⟩:=Eu (P:=P) h2 hX;cases tk with
        | no=>exact hk.elim
        | tk τ=>exact BF hs h1 hi k2 gf kf cg hS q1 q2 q3 q4 hbig hk
        | full =>
          rcases hk with hk | hk | ⟨τ,h5,h6⟩
          · exact BF hs h1 hi k2 gf kf cg hS q1 q2 q3 q4 hbig (.inl hk)
          · exact BF hs h1 hi k2 gf kf cg hS q1 q2 q3 q4 hbig (.inr hk)
          · exact BF hs h1 hi k2 gf kf cg (tk:=.tk τ) (Qp hs h5 hS) q1 q2 q3 q4 hbig ⟨h5,h6⟩
      · rename_i e ys yx h1 h2 h3 h4;split at hl
        case h_2=>simp at hl
        rename_i i z hi hz;split at hl
        case h_2=>simp at hl
        split at hl
        case isFalse=>simp at hl
        rename_i hc;simp only[aG] at hl;subst hl;obtain⟨i',zv,k1,k2,k3,k4⟩:=o_ hz;rw[hi] at k1;simp only[aG] at k1;subst k1;have gf:zv.cells.size=i.size:=by have:=dS (nz (E:=E) k3);simp at this;omega
        simp only[aq.aL,mu] at h;obtain⟨s',ex,tk,l,m,es,⟨t',em⟩,hbig,hk⟩:=h;simp only[V.sl.injEq,o7] at em;obtain⟨_,rfl⟩:=em;have hS:=X h3;have hX:=X h4;rw[es] at hS;rw[ex] at hX;simp only[R] at hX;obtain⟨news,q1,q2,q3,q4⟩:=U5 (P:=P) (E:=E.nl) (w:=E.w) h2 s';have CX:i.size=1:=hc.1;have fin:∀tk,R E (.sl tk 1 l) (a.eval s)→(match (generalizing:=false) tk with
            | .full=>(∀τ,st.out.aB τ=none→K (.sl (.tk τ) 1 (l++b6 s')) ⟨st.t,st.loc,st.out.aK τ (l.length+(b6 s').length)⟩)∨K (.sl .no 1 (l++b6 s')) st
            | .tk τ=>st.out.aB τ=some l.length∧K (.sl (.tk τ) 1 (l++b6 s')) ⟨st.t,st.loc,st.out.aK τ (l.length+(b6 s').length)⟩
            | .no=>False)→o.wp P a E.w (cI E a o.dst K) Q:=fun tk hS hk=>by
          refine BF hs h1 hi k2 gf (by omega) cg (tk:=tk) (l:=l) (m:=b6 s') (news:=news) (by rw[CX];exact hS) (by rw[CX,hX];exact q1) q2 q3 (by rw[CX];exact q4) hbig ?_;rw[CX];exact hk
        cases tk with
        | no=>exact hk.elim
        | tk τ=>exact fin _ hS hk
        | full =>
          rcases hk with hk | hk | ⟨τ,h5,h6⟩
          · exact fin _ hS (.inl hk)
          · exact fin _ hS (.inr hk)
          · exact fin (.tk τ) (Qp hs h5 hS) ⟨h5,h6⟩
      · simp at hl
    · simp at hl
  · simp at hl
end
def X.slot:X→List Nat
  | .s n=>[n]
  | .c _=>[]
def oX:Option X→List X
  | none=>[]
  | some x=>[x]
def aq.xs:aq→List X
  | .mv x | .box _ x | .kH _ x | .eD _ x | .load _ _ x | .qZ x | .not x | .qU x | .qV x | .lq _ x | .oq _ _ _ x | .ext x _ | .lS _ x | .qy x=>[x]
  | .pick c a b=>[c,a,b]
  | .alloc _ | .lO _=>[]
  | .build _ ps=>ps.map (·.2.2)
  | .cB _ xs | .call _ xs | .own _ xs=>xs
  | .store _ a x | .de _ a x | .gP _ a x | .rG _ a x | .cat a x | .jw _ _ a x | .xH _ a x | .jH _ a x | .pE a x | .eJ _ _ a x | .app _ a x | .jr a x=>[a,x]
  | .fR x xs=>x::xs
  | .j_ _ x lo hi mx=>x::(oX lo++oX hi++oX mx)
  | .rj x lo hi=>x::(oX lo++oX hi)
  | .gG _ first cap=>first++cap
def aq.aR:aq→Bool
  | .alloc _ | .box _ _ | .kH _ _ | .lO _ | .eD _ _ | .store _ _ _ | .call _ _ | .fR _ _ | .app _ _ _ | .jr _ _=>true
  | .own q _=>!q.pure
  | _=>false
def aq.yv:aq→Bool
  | .load _ _ _=>true
  | _=>false
abbrev ch:=List (List V) × ab
def br (t:List V) (s:ch):St:=⟨t,s.1,s.2⟩
def Exact (t:List V) (v:V) (s:ch):V→St→Prop:=fun v' al => v' = v∧al = br t s
theorem aa6 {t t2:List V} {s s2:ch} {x:X} (h:∀n∈x.slot,t2.getD n .any=t.getD n .any):ev (br t2 s2) x=ev (br t s) x:=by
  cases x with
  | s n=>exact h n (by simp[X.slot])
  | c v=>rfl
theorem xK {t t2:List V} {s s2:ch}:∀{xs:List X},(∀x∈xs,ev (br t2 s2) x=ev (br t s) x)→b9 (br t2 s2) xs=b9 (br t s) xs
  | [],_=>rfl
  | x :: xs, h => by
    simp only[c7] at h;simp only[b9,h.1,xK h.2]
theorem OT {t t2:List V} {s s2:ch}:∀{ps:List (Nat × Nat × X)} {z:List V},(∀x∈ps.map (·.2.2),ev (br t2 s2) x=ev (br t s) x)→lf (br t2 s2) z ps=lf (br t s) z ps
  | [],_,_=>rfl
  | (off, n, x) :: ps, z, h => by
    simp only[bL,c7] at h;simp only[lf,h.1,OT h.2]
theorem Ua {t t2:List V} {s s2:ch} {k:Nat}:∀{xs:List X},(∀x∈xs,ev (br t2 s2) x=ev (br t s) x)→jh (br t2 s2) k xs=jh (br t s) k xs
  | [],_=>rfl
  | x :: xs, h => by
    simp only[c7] at h;simp only[jh,h.1,Ua h.2]
def nU (s:ch) (g:Bool) (n:Nat) (a:V):Option V:=jb (br [] s) g n a
theorem R8 {t:List V} {s:ch} {g:Bool} {n:Nat} {a:V}:jb (br t s) g n a=nU s g n a:=by
  unfold nU;cases a<;>simp only[jb];rename_i p o;cases p<;>rfl
theorem mk_inj {t:List V} {A:List (List V)} {B:ab} {s:ch} (h:(⟨t,A,B⟩:St)=br t s):s=(A,B):=by
  have:=gj (fun q:St=>(q.loc,q.out)) h
  exact this.symm
section
variable {P:Program}
theorem anf {op:aq} {t t2:List V} {s s2 s' : ch} {v:V} (hx:∀x∈op.xs,ev (br t2 s2) x=ev (br t s) x) (px:op.aR=true→s2=s)
    (rX:∀g n x,op = .load g n x→nU s2 g n (ev (br t s) x)=some v) (h:op.aL P (br t s) (Exact t v s')) :
    op.aL P (br t2 s2) (Exact t2 v (if op.aR then s' else s2)):=by
  cases op with
  | mv x =>
    simp only[aq.xs,c7] at hx;simp only[aq.aL,Exact] at h ⊢;exact⟨by rw[hx.1];exact h.1,rfl⟩
  | pick c a b =>
    simp only[aq.xs,c7] at hx;simp only[aq.aL] at h ⊢;rw[hx.1,hx.2.1,hx.2.2.1];split at h
    · exact⟨h.1,rfl⟩
    · exact⟨h.1,rfl⟩
    · exact h.elim
  | alloc z =>
    obtain rfl:=px rfl;simp only[aq.aL,Exact] at h ⊢;obtain rfl:=mk_inj h.2;exact⟨h.1,by simp[aq.aR,br]⟩
  | box n x =>
    obtain rfl:=px rfl;simp only[aq.xs,c7] at hx;simp only[aq.aL,Exact] at h ⊢;rw[hx.1];obtain rfl:=mk_inj h.2.2;exact⟨h.1,h.2.1,by simp[aq.aR,br]⟩
  | kH n x =>
    obtain rfl:=px rfl;simp only[aq.xs,c7] at hx;simp only[aq.aL,Exact] at h ⊢;rw[hx.1];obtain rfl:=mk_inj h.2.2.2;exact⟨h.1,h.2.1,h.2.2.1,by simp[aq.aR,br]⟩
  | build z ps =>
    simp only[aq.aL] at h ⊢;rw[OT (ps:=ps) hx];cases hb:(lf (br t s) z ps).map V.agg with
    | none=>rw[hb] at h;exact h.elim
    | some u=>rw[hb] at h;exact⟨h.1,rfl⟩
  | cB k xs =>
    simp only[aq.aL] at h ⊢;rw[Ua (xs:=xs) hx];cases hb:(jh (br t s) k xs).map (V.sl .full k) with
    | none=>rw[hb] at h;exact h.elim
    | some u=>rw[hb] at h;exact⟨h.1,rfl⟩
  | load g n x =>
    simp only[aq.xs,c7] at hx;simp only[aq.aL] at h ⊢;rw[hx.1,R8,rX g n x rfl];exact⟨rfl,rfl⟩
  | store n a x =>
    obtain rfl:=px rfl;simp only[aq.xs,c7] at hx;simp only[aq.aL] at h ⊢;rw[hx.1,hx.2.1];generalize ev (br t s2) x=xv at h ⊢;generalize ev (br t s2) a=av at h ⊢;have key:∀al,cr (br t s2) n xv av=some al → cr (br t2 s2) n xv av=some (br t2 (al.loc,al.out)):=fun al he=>by
      cases av with
      | ptr p off =>
        cases p with
        | iB b=>simp[cr] at he
        | loc i =>
          simp only[cr,br,fH] at he ⊢;obtain⟨cs,h1,h2⟩:=he;refine⟨cs,h1,?_⟩
          by_cases hc:bD n (cs.drop off)=true∧xv.wd=some n∧bA xv.cells=true
          · rw[aw hc] at h2 ⊢;simp only[aG] at h2;subst h2;rfl
          · rw[ah hc] at h2;simp at h2
        | out b =>
          simp only[cr,br,fH] at he ⊢;obtain⟨cs,h1,h2⟩:=he;refine⟨cs,h1,?_⟩
          by_cases hc:bD n (cs.drop off)=true∧xv.wd=some n∧bA xv.cells=true∧bd xv.cells=true
          · rw[aw hc] at h2 ⊢;simp only[aG] at h2;subst h2;rfl
          · rw[ah hc] at h2;simp at h2
      | _=>simp[cr] at he
    split at h
    case h_2=>exact h.elim
    rename_i al he;rw[key al he]
    have:=gj (fun q:St=>(q.loc,q.out)) h.2
    have h2:(al.loc,al.out)=s' := this;exact⟨h.1,by rw[h2];rfl⟩
  | qZ x =>
    simp only[aq.xs,c7] at hx;simp only[aq.aL] at h ⊢;rw[hx.1];split at h<;>first | exact⟨h.1,rfl⟩ | exact h.elim
  | de op x y =>
    simp only[aq.xs,c7] at hx;simp only[aq.aL] at h ⊢;rw[hx.1,hx.2.1];cases hb:qu op (ev (br t s) x) (ev (br t s) y) with
    | none=>rw[hb] at h;exact h.elim
    | some u=>rw[hb] at h;exact⟨h.1,rfl⟩
  | gP op x y =>
    simp only[aq.xs,c7] at hx;simp only[aq.aL] at h ⊢;rw[hx.1,hx.2.1];cases hb:u2 op (ev (br t s) x) (ev (br t s) y) with
    | none=>rw[hb] at h;exact h.elim
    | some u=>rw[hb] at h;exact⟨h.1,rfl⟩
  | rG neg x y =>
    simp only[aq.xs,c7] at hx;simp only[aq.aL] at h ⊢;rw[hx.1,hx.2.1];cases hb:th neg (ev (br t s) x) (ev (br t s) y) with
    | none=>rw[hb] at h;exact h.elim
    | some u=>rw[hb] at h;exact⟨h.1,rfl⟩
  | cat x y =>
    simp only[aq.xs,c7] at hx;simp only[aq.aL] at h ⊢;rw[hx.1,hx.2.1];obtain⟨a,b,h1,h2,h3,h4⟩:=h;exact⟨a,b,h1,h2,h3,h4.1,rfl⟩
  | jw neg n x y =>
    simp only[aq.xs,c7] at hx;simp only[aq.aL] at h ⊢;rw[hx.1,hx.2.1];cases hb:tg neg n (ev (br t s) x) (ev (br t s) y) with
    | none=>rw[hb] at h;exact h.elim
    | some u=>rw[hb] at h;exact⟨h.1,rfl⟩
  | xH neg x y =>
    simp only[aq.xs,c7] at hx;simp only[aq.aL] at h ⊢;rw[hx.1,hx.2.1];split at h
    · rename_i e1 e2;exact⟨h.1,h.2.1,rfl⟩
    · exact h.elim
  | not x =>
    simp only[aq.xs,c7] at hx;simp only[aq.aL] at h ⊢;rw[hx.1];split at h
    · exact⟨h.1,rfl⟩
    · exact h.elim
  | qU x =>
    simp only[aq.xs,c7] at hx;simp only[aq.aL] at h ⊢;rw[hx.1];split at h
    · exact⟨h.1,rfl⟩
    · exact⟨h.1,rfl⟩
    · exact h.elim
  | qV x =>
    simp only[aq.xs,c7] at hx;simp only[aq.aL] at h ⊢;rw[hx.1];split at h
    · exact⟨h.1,rfl⟩
    · exact h.elim
  | lq off x =>
    simp only[aq.xs,c7] at hx;simp only[aq.aL] at h ⊢;rw[hx.1];split at h
    · exact⟨h.1,rfl⟩
    · exact⟨h.1,rfl⟩
    · exact h.elim
  | oq g off n x =>
    simp only[aq.xs,c7] at hx;simp only[aq.aL] at h ⊢;rw[hx.1];split at h
    case h_2=>exact h.elim
    rename_i cs e;cases hb:a9 g n (cs.drop off) with
    | none=>rw[hb] at h;exact h.elim
    | some u=>rw[hb] at h;exact⟨h.1,rfl⟩
  | jH k x i =>
    simp only[aq.xs,c7] at hx;simp only[aq.aL] at h ⊢;rw[hx.1,hx.2.1];split at h
    · obtain⟨h1,k',n,c,h2,h3,h4,h5⟩:=h;exact⟨h1,k',n,c,h2,h3,h4,h5.1,rfl⟩
    · obtain⟨k',n,h2,h3,h4,h5⟩:=h;exact⟨k',n,h2,h3,h4,h5.1,rfl⟩
    · exact h.elim
  | eJ m k x i =>
    simp only[aq.xs,c7] at hx;simp only[aq.aL] at h ⊢;rw[hx.1,hx.2.1];split at h
    · obtain⟨kk,n,h1,h2,h3,h4⟩:=h;exact⟨kk,n,h1,h2,h3,h4.1,rfl⟩
    · obtain⟨kk,n,h1,h2,h3,h4⟩:=h;exact⟨kk,n,h1,h2,h3,h4.1,rfl⟩
    · exact h.elim
  | pE x i =>
    simp only[aq.xs,c7] at hx;simp only[aq.aL] at h ⊢;rw[hx.1,hx.2.1];split at h
    case h_2=>exact h.elim
    obtain⟨k',n,c,h2,h3,h4,h5⟩:=h;exact⟨k',n,c,h2,h3,h4,h5.1,rfl⟩
  | call f xs =>
    obtain rfl:=px rfl;simp only[aq.aL] at h ⊢;rw[xK (xs:=xs) hx];refine⟨h.1,h.2.mono fun u σ hu=>?_⟩;obtain rfl:=mk_inj hu.2;exact⟨hu.1,rfl⟩
  | fR x xs =>
    obtain rfl:=px rfl;simp only[aq.xs,c7] at hx;simp only[aq.aL] at h ⊢;rw[hx.1,xK hx.2];split at h
    case h_2=>exact h.elim
    refine⟨h.1,h.2.mono fun u σ hu=>?_⟩;obtain rfl:=mk_inj hu.2;exact⟨hu.1,rfl⟩
  | app k x y =>
    obtain rfl:=px rfl;simp only[aq.xs,c7] at hx;simp only[aq.aL,mu] at h ⊢;rw[hx.1,hx.2.1];obtain⟨tk,l,m,h1,h2,h3,h4⟩:=h;refine⟨tk,l,m,h1,h2,h3,?_⟩;have conv:∀{u:V} {σ:ab},Exact t v s' u ⟨t,s2.1,σ⟩→Exact t2 v (if (aq.app k x y).aR then s' else s2) u ⟨t2,s2.1,σ⟩:=fun {u σ} hu=>by
      obtain rfl:=mk_inj hu.2;exact⟨hu.1,rfl⟩
    cases tk with
    | no=>exact h4
    | full =>
      rcases h4 with h4 | h4 | ⟨τ,h4,h5⟩
      · exact .inl fun τ ba=>conv (h4 τ ba)
      · exact .inr (.inl (conv h4))
      · exact .inr (.inr ⟨τ,h4,conv h5⟩)
    | tk τ=>exact⟨h4.1,conv h4.2⟩
  | jr x y =>
    obtain rfl:=px rfl;simp only[aq.xs,c7] at hx;simp only[aq.aL,mu] at h ⊢;rw[hx.1,hx.2.1];obtain⟨str,h0,tk,l,m,h1,h2,h3,h4⟩:=h;refine⟨str,h0,tk,l,m,h1,h2,h3,?_⟩;have conv:∀{u:V} {σ:ab},Exact t v s' u ⟨t,s2.1,σ⟩→Exact t2 v (if (aq.jr x y).aR then s' else s2) u ⟨t2,s2.1,σ⟩:=fun {u σ} hu=>by
      obtain rfl:=mk_inj hu.2;exact⟨hu.1,rfl⟩
    cases tk with
    | no=>exact h4
    | full =>
      rcases h4 with h4 | h4 | ⟨τ,h4,h5⟩
      · exact .inl fun τ ba=>conv (h4 τ ba)
      · exact .inr (.inl (conv h4))
      · exact .inr (.inr ⟨τ,h4,conv h5⟩)
    | tk τ=>exact⟨h4.1,conv h4.2⟩
  | j_ k x lo hi mx =>
    simp only[aq.xs,c7] at hx;simp only[aq.aL] at h ⊢;rw[hx.1]
    rcases h with ⟨tk,l,m,n,h1,h2,h3,h4,h5,h6⟩ | ⟨a,n,cap,m,hh,h1,h2,h3,h4,h5,h6,h7⟩
    · refine .inl ⟨tk,l,m,n,h1,h2,h3,?_,?_,?_⟩
      · cases lo with
        | none=>exact h4
        | some y=>simp only at h4 ⊢;rw[hx.2 y (by simp[oX])];exact h4
      · cases hi with
        | none=>exact h5
        | some y=>simp only at h5 ⊢;rw[hx.2 y (by simp[oX])];exact h5
      · cases mx with
        | none=>exact⟨h6.1,rfl⟩
        | some y=>simp only at h6 ⊢;rw[hx.2 y (by simp[oX])];exact⟨h6.1,h6.2.1,rfl⟩
    · refine .inr ⟨a,n,cap,m,hh,h1,h2,h3,?_,?_,h6,h7.1,rfl⟩
      · cases lo with
        | none=>exact h4
        | some y=>simp only at h4 ⊢;rw[hx.2 y (by simp[oX])];exact h4
      · cases hi with
        | none=>exact h5
        | some y=>simp only at h5 ⊢;rw[hx.2 y (by simp[oX])];exact h5
  | rj x lo hi =>
    simp only[aq.xs,c7] at hx;simp only[aq.aL] at h ⊢;rw[hx.1];obtain⟨l,m,n,h1,h2,h3,h4,h5,h6⟩:=h;refine⟨l,m,n,h1,h2,h3,?_,?_,h6.1,rfl⟩
    · cases lo with
      | none=>exact h4
      | some y=>simp only at h4 ⊢;rw[hx.2 y (by simp[oX])];exact h4
    · cases hi with
      | none=>exact h5
      | some y=>simp only at h5 ⊢;rw[hx.2 y (by simp[oX])];exact h5
  | ext x i =>
    simp only[aq.xs,c7] at hx;simp only[aq.aL] at h ⊢;rw[hx.1];split at h
    case h_2=>exact h.elim
    rename_i vs e;cases hb:vs[i]? with
    | none=>rw[hb] at h;exact h.elim
    | some u=>rw[hb] at h;exact⟨h.1,rfl⟩
  | gG f first cap =>
    simp only[aq.xs,List.forall_mem_append] at hx;simp only[aq.aL] at h ⊢;rw[xK hx.1,xK hx.2];exact⟨h.1,rfl⟩
  | lS k x =>
    simp only[aq.xs,c7] at hx;simp only[aq.aL] at h ⊢;rw[hx.1];split at h
    · exact⟨h.1,rfl⟩
    · exact h.elim
  | qy x =>
    simp only[aq.xs,c7] at hx;simp only[aq.aL] at h ⊢;rw[hx.1];obtain⟨tk,str,h1,h2⟩:=h;exact⟨tk,str,h1,h2.1,rfl⟩
  | lO z =>
    obtain rfl:=px rfl;simp only[aq.aL,Exact] at h ⊢;refine⟨h.1,fun b hb=>?_⟩;obtain⟨h1,h2⟩:=h.2 b hb;obtain rfl:=mk_inj h2;exact⟨h1,by simp[aq.aR,br]⟩
  | eD n x =>
    obtain rfl:=px rfl;simp only[aq.xs,c7] at hx;simp only[aq.aL,Exact] at h ⊢;rw[hx.1];refine⟨h.1,h.2.1,fun b hb=>?_⟩;obtain⟨h1,h2⟩:=h.2.2 b hb;obtain rfl:=mk_inj h2;exact⟨h1,by simp[aq.aR,br]⟩
  | own q xs =>
    simp only[aq.aL,aq.xs] at h hx ⊢;rw[xK hx];cases hp:q.pure
    · have he:(aq.own q xs).aR=true:=by simp[aq.aR,hp]
      obtain rfl:=px he;refine OQ.mono (fun u σ' hu=>?_) q _ h;obtain rfl:=mk_inj hu.2;exact⟨hu.1,by rw[aw he];rfl⟩
    · have he:¬((aq.own q xs).aR=true):=by simp[aq.aR,hp]
      obtain⟨u,h1,h2⟩:=OQ.Pu hp h;exact h2 _ _ ⟨h1.1,by rw[ah he]⟩
end
def BK (σ:ab) (k:Nat) (s x:V) (K:V→ab→Prop):Prop :=
  ∃t l m,s = .sl t k l∧(∃t',x = .sl t' k m)∧l.length+m.length≤aE ∧
    match t with
    | .full=>K (.sl .no k (l++m)) σ∨∃τ,σ.aB τ=some l.length∧K (.sl (.tk τ) k (l++m)) (σ.aK τ (l.length+m.length))
    | .tk τ=>σ.aB τ=some l.length∧K (.sl (.tk τ) k (l++m)) (σ.aK τ (l.length+m.length))
    | .no=>False
def aq.jP (P:Program) (st:St) (K:V→St→Prop):aq→Prop
  | .call f xs=>bd (b9 st xs)=true∧∃v σ,ak P f (b9 st xs) st.out (fun v' σ' => v' = v∧σ' = σ)∧K v ⟨st.t,st.loc,σ⟩
  | .fR x xs => match ev st x with
    | .fn (.func f) a b=>bd (a++b9 st xs++b)=true∧∃v σ,ak P f (a++b9 st xs++b) st.out (fun v' σ' => v' = v∧σ' = σ)∧K v ⟨st.t,st.loc,σ⟩
    | _=>False
  | .app k s x=>BK st.out k (ev st s) (ev st x) fun v σ=>K v ⟨st.t,st.loc,σ⟩
  | .jr s x=>∃a,ev st x = .str a∧BK st.out 1 (ev st s) (.sl .no 1 (b6 a)) fun v σ=>K v ⟨st.t,st.loc,σ⟩
  | .lO _ | .eD _ _=>False
  | .own q xs=>q.pure=true∧q.aL st.out (fun v σ=>K v ⟨st.t,st.loc,σ⟩) (b9 st xs)
  | op=>op.aL P st K
structure TR where
  dst:Option Nat
  val:V
  aR:Bool
  uD:ch
def ij (t:List V) (d:Option Nat) (v:V):List V :=
  match d with
  | some n=>t.set n v
  | none=>t
theorem Bb (t:List V) (s:ch) (d:Option Nat) (v:V):(br t s).put d v=br (ij t d v) s:=by cases d<;>rfl
def yN:ch:=([],⟨fun _=>none,fun _=>none,fun _=>none⟩)
def u7 (SN:List ch) (g:Bool) (n:Nat) (a v:V):List Nat→Prop
  | []=>True
  | m::ms=>nU (SN.getD m yN) g n a=some v∧u7 SN g n a v ms
def mE (SN:List ch):List (V × Bool × Nat × V × List Nat)→Prop
  | []=>True
  | (a,g,n,v,ms)::r=>u7 SN g n a v ms∧mE SN r
theorem OW {SN:List ch} {g:Bool} {n:Nat} {a v:V}:∀{ms:List Nat},u7 SN g n a v ms→∀m∈ms,nU (SN.getD m yN) g n a=some v
  | [],_,_,h=>by simp at h
  | m :: ms, h, m', h' => by
    rcases iR.1 h' with rfl | h'
    · exact h.1
    · exact OW h.2 m' h'
def Ij (st:St) (ms:List Nat) (v:V):aq→List (V × Bool × Nat × V × List Nat)
  | .load g n x=>[(ev st x,g,n,v,ms)]
  | _=>[]
def bE (P:Program):List (AO × List Nat)→List ch→List (V × Bool × Nat × V × List Nat)→(St→Prop)→St→Prop
  | [],SN,L,K,st=>mE SN L∧K st
  | (o, ms) :: r, SN, L, K, st =>
    match o.guard with
    | none=>o.op.jP P st fun v al => bE P r (if o.op.aR then SN++[(al.loc,al.out)] else SN) (Ij st ms v o.op++L) K (al.put o.dst v)
    | some (g, want) =>
      match ev st (.s g) with
      | .bool b =>
        if b=want then o.op.jP P st fun v al => bE P r (if o.op.aR then SN++[(al.loc,al.out)] else SN) (Ij st ms v o.op++L) K (al.put o.dst v)
        else bE P r (if o.op.aR then SN++[(st.loc,st.out)] else SN) L K (st.put o.dst (.aT []))
      | .aT []=>bE P r (if o.op.aR then SN++[(st.loc,st.out)] else SN) L K (st.put o.dst (.aT []))
      | _=>False
def Li (P:Program) (SN:List ch) (o:AO) (ms:List Nat) (t:List V) (s:ch) (r:TR):Prop :=
  r.dst=o.dst∧r.aR=o.op.aR∧∃run:Bool,
    (match o.guard with | none=>run=true | some (g,want)=>(∃b,t.getD g .any = .bool b∧run=(b == want))∨t.getD g .any = .aT []∧run=false) ∧
    (run=true→o.op.aL P (br t s) (Exact t r.val (if o.op.aR then r.uD else s))∧∀g n x,o.op = .load g n x→∀m∈ms,nU (SN.getD m yN) g n (ev (br t s) x)=some r.val) ∧
    (run=false→r.val = .aT []∧(r.aR=true→r.uD=s))
def sY (P:Program) (SN:List ch):List (AO × List Nat)→List TR→List V→ch→Prop
  | [],[],_,_=>True
  | (o,ms)::l,r::tr,t,s=>Li P SN o ms t s r∧sY P SN l tr (ij t r.dst r.val) (if r.aR then r.uD else s)
  | _,_,_,_=>False
def runT:List TR→List V→List V
  | [],t=>t
  | r::tr,t=>runT tr (ij t r.dst r.val)
def cy:List TR→ch→ch
  | [],s=>s
  | r::tr,s=>cy tr (if r.aR then r.uD else s)
def gQ:List TR→List ch
  | []=>[]
  | r::tr=>if r.aR then r.uD::gQ tr else gQ tr
section
variable {P:Program}
theorem ane {op:aq} {t:List V} {s:ch} {K:V→St→Prop} (h:op.jP P (br t s) K):∃v s',op.aL P (br t s) (Exact t v s')∧K v (br t s')∧(op.aR=false→s' = s):=by
  have sn:∀{o:Option V},opt o (K2 K (br t s))→∃v,opt o (K2 (Exact t v s) (br t s))∧K v (br t s):=fun {o} h=>by
    cases o with
    | none=>exact h.elim
    | some u=>exact⟨u,⟨rfl,rfl⟩,h⟩
  cases op with
  | mv x=>exact⟨_,s,⟨rfl,rfl⟩,h,fun _=>rfl⟩
  | pick c a b =>
    simp only[aq.jP,aq.aL] at h ⊢;split at h
    · rename_i e;exact⟨_,s,⟨rfl,rfl⟩,h,fun _=>rfl⟩
    · rename_i e;exact⟨_,s,⟨rfl,rfl⟩,h,fun _=>rfl⟩
    · exact h.elim
  | alloc z=>exact⟨_,(s.1++[z],s.2),⟨rfl,rfl⟩,h,fun h=>by simp[aq.aR] at h⟩
  | box n x=>exact⟨_,(s.1++[(ev (br t s) x).cells],s.2),⟨h.1,rfl,rfl⟩,h.2,fun h=>by simp[aq.aR] at h⟩
  | kH n x=>exact⟨_,(s.1++[(ev (br t s) x).cells],s.2),⟨h.1,h.2.1,rfl,rfl⟩,h.2.2,fun h=>by simp[aq.aR] at h⟩
  | build z ps=>obtain⟨v,h1,h2⟩:=sn h;exact⟨v,s,h1,h2,fun _=>rfl⟩
  | cB k xs=>obtain⟨v,h1,h2⟩:=sn h;exact⟨v,s,h1,h2,fun _=>rfl⟩
  | load g n x=>obtain⟨v,h1,h2⟩:=sn h;exact⟨v,s,h1,h2,fun _=>rfl⟩
  | store n a x =>
    simp only[aq.jP,aq.aL] at h ⊢;split at h
    case h_2=>exact h.elim
    rename_i al he;have ht:al.t=t:=by
      generalize ev (br t s) a=av at he;generalize ev (br t s) x=xv at he;cases av with
      | ptr p off =>
        cases p with
        | iB b=>simp[cr] at he
        | loc i =>
          simp only[cr,fH] at he;obtain⟨cs,_,h2⟩:=he;split at h2
          · simp only[aG] at h2;subst h2;rfl
          · simp at h2
        | out b =>
          simp only[cr,fH] at he;obtain⟨cs,_,h2⟩:=he;split at h2
          · simp only[aG] at h2;subst h2;rfl
          · simp at h2
      | _=>simp[cr] at he
    obtain⟨t',l',o'⟩:=al;simp only at ht;subst ht;exact⟨.any,(l',o'),⟨rfl,rfl⟩,h,fun h=>by simp[aq.aR] at h⟩
  | qZ x =>
    simp only[aq.jP,aq.aL] at h ⊢;split at h<;>first | exact⟨_,s,⟨rfl,rfl⟩,h,fun _=>rfl⟩ | exact h.elim
  | de op x y=>obtain⟨v,h1,h2⟩:=sn h;exact⟨v,s,h1,h2,fun _=>rfl⟩
  | gP op x y=>obtain⟨v,h1,h2⟩:=sn h;exact⟨v,s,h1,h2,fun _=>rfl⟩
  | rG neg x y=>obtain⟨v,h1,h2⟩:=sn h;exact⟨v,s,h1,h2,fun _=>rfl⟩
  | cat x y =>
    obtain⟨a,b,h1,h2,h3,h4⟩:=h;exact⟨_,s,⟨a,b,h1,h2,h3,rfl,rfl⟩,h4,fun _=>rfl⟩
  | jw neg n x y=>obtain⟨v,h1,h2⟩:=sn h;exact⟨v,s,h1,h2,fun _=>rfl⟩
  | xH neg x y =>
    simp only[aq.jP,aq.aL] at h ⊢;split at h
    · exact⟨_,s,⟨h.1,rfl,rfl⟩,h.2,fun _=>rfl⟩
    · exact h.elim
  | not x =>
    simp only[aq.jP,aq.aL] at h ⊢;split at h
    · exact⟨_,s,⟨rfl,rfl⟩,h,fun _=>rfl⟩
    · exact h.elim
  | qU x =>
    simp only[aq.jP,aq.aL] at h ⊢;split at h
    · exact⟨_,s,⟨rfl,rfl⟩,h,fun _=>rfl⟩
    · exact⟨_,s,⟨rfl,rfl⟩,h,fun _=>rfl⟩
    · exact h.elim
  | qV x =>
    simp only[aq.jP,aq.aL] at h ⊢;split at h
    · exact⟨_,s,⟨rfl,rfl⟩,h,fun _=>rfl⟩
    · exact h.elim
  | lq off x =>
    simp only[aq.jP,aq.aL] at h ⊢;split at h
    · exact⟨_,s,⟨rfl,rfl⟩,h,fun _=>rfl⟩
    · exact⟨_,s,⟨rfl,rfl⟩,h,fun _=>rfl⟩
    · exact h.elim
  | oq g off n x =>
    simp only[aq.jP,aq.aL] at h ⊢;split at h
    · obtain⟨v,h1,h2⟩:=sn h;exact⟨v,s,h1,h2,fun _=>rfl⟩
    · exact h.elim
  | jH k x i =>
    simp only[aq.jP,aq.aL] at h ⊢;split at h
    · obtain⟨h1,k',n,c,h2,h3,h4,h5⟩:=h;exact⟨_,s,⟨h1,k',n,c,h2,h3,h4,rfl,rfl⟩,h5,fun _=>rfl⟩
    · obtain⟨k',n,h2,h3,h4,h5⟩:=h;exact⟨_,s,⟨k',n,h2,h3,h4,rfl,rfl⟩,h5,fun _=>rfl⟩
    · exact h.elim
  | eJ m k x i =>
    simp only[aq.jP,aq.aL] at h ⊢;split at h
    · obtain⟨kk,n,h1,h2,h3,h4⟩:=h;exact⟨_,s,⟨kk,n,h1,h2,h3,rfl,rfl⟩,h4,fun _=>rfl⟩
    · obtain⟨kk,n,h1,h2,h3,h4⟩:=h;exact⟨_,s,⟨kk,n,h1,h2,h3,rfl,rfl⟩,h4,fun _=>rfl⟩
    · exact h.elim
  | pE x i =>
    simp only[aq.jP,aq.aL] at h ⊢;split at h
    · obtain⟨k',n,c,h2,h3,h4,h5⟩:=h;exact⟨_,s,⟨k',n,c,h2,h3,h4,rfl,rfl⟩,h5,fun _=>rfl⟩
    · exact h.elim
  | call f xs =>
    obtain⟨h1,v,σ,h2,h3⟩:=h;exact⟨v,(s.1,σ),⟨h1,h2.mono fun u σ' hu=>⟨hu.1,by rw[hu.2];rfl⟩⟩,h3,fun h=>by simp[aq.aR] at h⟩
  | fR x xs =>
    simp only[aq.jP,aq.aL] at h ⊢;split at h
    · rename_i e;obtain⟨h1,v,σ,h2,h3⟩:=h;refine⟨v,(s.1,σ),?_,h3,fun h=>by simp[aq.aR] at h⟩
      (try rw[e])
      exact⟨h1,h2.mono fun u σ' hu=>⟨hu.1,by rw[hu.2];rfl⟩⟩
    · exact h.elim
  | app k x y =>
    obtain⟨tk,l,m,h1,h2,h3,h4⟩:=h;cases tk with
    | no=>exact h4.elim
    | full =>
      rcases h4 with h4 | ⟨τ,h4,h5⟩
      · exact⟨_,s,⟨_,l,m,h1,h2,h3,.inr (.inl ⟨rfl,rfl⟩)⟩,h4,fun h=>by simp[aq.aR] at h⟩
      · exact⟨_,(s.1,_),⟨_,l,m,h1,h2,h3,.inr (.inr ⟨τ,h4,rfl,rfl⟩)⟩,h5,fun h=>by simp[aq.aR] at h⟩
    | tk τ=>exact⟨_,(s.1,_),⟨_,l,m,h1,h2,h3,h4.1,rfl,rfl⟩,h4.2,fun h=>by simp[aq.aR] at h⟩
  | jr x y =>
    obtain⟨a,h0,tk,l,m,h1,h2,h3,h4⟩:=h;cases tk with
    | no=>exact h4.elim
    | full =>
      rcases h4 with h4 | ⟨τ,h4,h5⟩
      · exact⟨_,s,⟨a,h0,_,l,m,h1,h2,h3,.inr (.inl ⟨rfl,rfl⟩)⟩,h4,fun h=>by simp[aq.aR] at h⟩
      · exact⟨_,(s.1,_),⟨a,h0,_,l,m,h1,h2,h3,.inr (.inr ⟨τ,h4,rfl,rfl⟩)⟩,h5,fun h=>by simp[aq.aR] at h⟩
    | tk τ=>exact⟨_,(s.1,_),⟨a,h0,_,l,m,h1,h2,h3,h4.1,rfl,rfl⟩,h4.2,fun h=>by simp[aq.aR] at h⟩
  | j_ k x lo hi mx =>
    simp only[aq.jP,aq.aL] at h ⊢
    rcases h with ⟨tk,l,m,n,h1,h2,h3,h4,h5,h6⟩ | ⟨a,n,cap,m,hh,h1,h2,h3,h4,h5,h6,h7⟩
    · cases mx with
      | none=>exact⟨_,s,.inl ⟨tk,l,m,n,h1,h2,h3,h4,h5,rfl,rfl⟩,h6,fun _=>rfl⟩
      | some y=>exact⟨_,s,.inl ⟨tk,l,m,n,h1,h2,h3,h4,h5,h6.1,rfl,rfl⟩,h6.2,fun _=>rfl⟩
    · exact⟨_,s,.inr ⟨a,n,cap,m,hh,h1,h2,h3,h4,h5,h6,rfl,rfl⟩,h7,fun _=>rfl⟩
  | rj x lo hi =>
    obtain⟨l,m,n,h1,h2,h3,h4,h5,h6⟩:=h;exact⟨_,s,⟨l,m,n,h1,h2,h3,h4,h5,rfl,rfl⟩,h6,fun _=>rfl⟩
  | ext x i =>
    simp only[aq.jP,aq.aL] at h ⊢;split at h
    · obtain⟨v,h1,h2⟩:=sn h;exact⟨v,s,h1,h2,fun _=>rfl⟩
    · exact h.elim
  | gG f first cap=>exact⟨_,s,⟨rfl,rfl⟩,h,fun _=>rfl⟩
  | lS k x =>
    simp only[aq.jP,aq.aL] at h ⊢;split at h
    · exact⟨_,s,⟨rfl,rfl⟩,h,fun _=>rfl⟩
    · exact h.elim
  | qy x =>
    obtain⟨tk,str,h1,h2⟩:=h;exact⟨_,s,⟨tk,str,h1,rfl,rfl⟩,h2,fun _=>rfl⟩
  | lO z=>exact h.elim
  | eD n x=>exact h.elim
  | own q xs =>
    obtain⟨hp,h⟩:=h;obtain⟨v,h1,h2⟩:=OQ.Pu hp h;have hE:(aq.own q xs).aL P (br t s) (Exact t v s):=h2 s.2 (fun u σ=>Exact t v s u ⟨t,s.1,σ⟩) ⟨rfl,rfl⟩;exact⟨v,s,hE,h1,fun _=>rfl⟩
theorem OX {SN:List ch}:∀{l m:List (V × Bool × Nat × V × List Nat)},mE SN (l++m)↔mE SN l∧mE SN m
  | [],m=>by simp[mE]
  | (a,g,n,v,ms)::l,m=>by simp only[gN,mE,OX,FC]
theorem Bv {K:St→Prop}:∀{l:List (AO × List Nat)} {SN:List ch} {L:List (V × Bool × Nat × V × List Nat)} {t:List V} {s:ch},bE P l SN L K (br t s) →
    ∃tr,sY P (SN++gQ tr) l tr t s∧mE (SN++gQ tr) L∧K (br (runT tr t) (cy tr s))
  | [],SN,L,t,s,h=>⟨[],trivial,by simpa [gQ] using h.1,h.2⟩
  | (o, ms) :: l, SN, L, t, s, h => by
    have go:o.op.jP P (br t s) (fun v al => bE P l (if o.op.aR then SN++[(al.loc,al.out)] else SN) (Ij (br t s) ms v o.op++L) K (al.put o.dst v)) →
        (match o.guard with | none=>True | some (g,want)=>∃b,t.getD g .any = .bool b∧true=(b == want)) →
        ∃tr,sY P (SN++gQ tr) ((o,ms)::l) tr t s∧mE (SN++gQ tr) L∧K (br (runT tr t) (cy tr s)):=fun h hg=>by
      obtain⟨v,s',h1,h2,h3⟩:=ane h;rw[Bb] at h2;obtain⟨tr,k1,k2,k3⟩:=Bv h2;have b_ : (if o.op.aR then s' else s)=s' := by cases he:o.op.aR<;>simp[he] at h3 ⊢;exact h3.symm
      have nJ:SN++gQ (⟨o.dst,v,o.op.aR,s'⟩::tr)=(if o.op.aR then SN++[s'] else SN)++gQ tr:=by
        cases o.op.aR<;>simp[gQ]
      have afn : (if o.op.aR then SN++[((br t s').loc,(br t s').out)] else SN)=(if o.op.aR then SN++[s'] else SN):=rfl;rw[afn] at k1 k2;rw[OX] at k2;refine⟨⟨o.dst,v,o.op.aR,s'⟩::tr,?_,by rw[nJ];exact k2.2,?_⟩
      · rw[nJ];refine⟨⟨rfl,rfl,true,?_,fun _=>⟨by rw[b_];exact h1,fun g n x hx m hm=>?_⟩,fun h=>by simp at h⟩,by simp only[b_];exact k1⟩
        · cases jB:o.guard with
          | none=>rfl
          | some p=>rw[jB] at hg;exact .inl hg
        · rw[hx] at k2
          have:=OW k2.1.1 m hm
          rw[←hx] at this;exact this
      · simp only[runT,cy,b_];exact k3
    simp only[bE] at h;cases jB:o.guard with
    | none=>rw[jB] at h;exact go h (by rw[jB];trivial)
    | some p =>
      obtain⟨g,want⟩:=p;rw[jB] at h;simp only at h;have skip:∀bl : ((∃b,t.getD g .any = .bool b∧false=(b == want))∨t.getD g .any = .aT []∧false=false),bE P l (if o.op.aR then SN++[((br t s).loc,(br t s).out)] else SN) L K ((br t s).put o.dst (.aT [])) →
          ∃tr,sY P (SN++gQ tr) ((o,ms)::l) tr t s∧mE (SN++gQ tr) L∧K (br (runT tr t) (cy tr s)):=fun bl h=>by
        rw[Bb] at h;obtain⟨tr,k1,k2,k3⟩:=Bv h;have Rv:(if o.op.aR then s else s)=s:=by simp
        have nJ:SN++gQ (⟨o.dst,.aT [],o.op.aR,s⟩::tr)=(if o.op.aR then SN++[s] else SN)++gQ tr:=by
          cases o.op.aR<;>simp[gQ]
        refine⟨⟨o.dst,.aT [],o.op.aR,s⟩::tr,?_,by rw[nJ];exact k2,?_⟩
        · rw[nJ];refine⟨⟨rfl,rfl,false,by rw[jB];exact bl,fun h=>by simp at h,fun _=>⟨rfl,fun _=>rfl⟩⟩,by simp only[Rv];exact k1⟩
        · simp only[runT,cy,Rv];exact k3
      split at h
      · rename_i b hb;have bl : t.getD g .any = .bool b:=hb;split at h
        · rename_i hw;exact go h (by rw[jB];exact⟨b,bl,by simp[hw]⟩)
        · rename_i hw;exact skip (.inl ⟨b,bl,by simp[hw]⟩) h
      · rename_i hb;exact skip (.inr ⟨hb,rfl⟩) h
      · exact h.elim
end
def bG (S:Nat→Bool):Nat→List TR→List TR
  | _,[]=>[]
  | i,r::tr=>if S i then r::bG S (i+1) tr else bG S (i+1) tr
def bI (S:Nat→Bool):Nat→List TR→Nat
  | _,[]=>0
  | i,r::tr=>(if S i&&r.aR then 1 else 0)+bI S (i+1) tr
theorem D' (t:List V) (d:Option Nat) (v:V):(ij t d v).length=t.length:=by cases d<;>simp[ij]
theorem Gw (t:List V) (d:Option Nat) (v:V) (x:Nat):(ij t d v).getD x .any=if d=some x then (if x<t.length then v else .any) else t.getD x .any:=by
  cases d with
  | none=>simp[ij]
  | some n =>
    simp only[ij,aG]
    by_cases h:n=x
    · subst h;rw[aw rfl]
      by_cases hl:n<t.length
      · rw[aw hl];simp[List.getD,KT hl]
      · rw[ah hl,List.getD,uR (by simp;omega)];rfl
    · rw[ah h];simp[List.getD,zf h]
theorem uy {S S' : Nat→Bool} {x:Nat}:∀{tr:List TR} {i:Nat} {t t' : List V},t.length=t'.length→t.getD x .any=t'.getD x .any →
    (∀(j:Nat) r,tr[j]?=some r→r.dst=some x→S (i+j)=S' (i+j))→(runT (bG S i tr) t).getD x .any=(runT (bG S' i tr) t').getD x .any
  | [],i,t,t',_,h,_=>h
  | r :: tr, i, t, t', hl, h, hS => by
    have rZ:∀(j:Nat) r',tr[j]?=some r' → r'.dst=some x→S (i+1+j)=S' (i+1+j):=fun j r' hr hd=>by
      have:=hS (j+1) r' (by simpa using hr) hd
      rw[show i+(j+1)=i+1+j from by omega] at this;exact this
    have h0:r.dst=some x→S i=S' i:=fun hd=>by simpa using hS 0 r (by simp) hd
    simp only[bG]
    by_cases hd:r.dst=some x
    · rw[h0 hd];cases S' i
      · exact uy hl h rZ
      · simp only[dP,runT];refine uy (by simp[D',hl]) ?_ rZ;rw[Gw,Gw,aw hd,aw hd,hl]
    · have e:∀t:List V,(ij t r.dst r.val).getD x .any=t.getD x .any:=fun t=>by rw[Gw,ah hd]
      cases S i<;>cases S' i<;>simp only[dP,ey,fO,runT]
      · exact uy hl h rZ
      · exact uy (by simp[D',hl]) (by rw[e];exact h) rZ
      · exact uy (by simp[D',hl]) (by rw[e];exact h) rZ
      · exact uy (by simp[D',hl]) (by rw[e,e];exact h) rZ
theorem alp (t:List V) {d d' : Option Nat} (v v' : V) (h:∀n,d=some n→d' ≠ some n):ij (ij t d v) d' v' = ij (ij t d' v') d v:=by
  cases d with
  | none=>rfl
  | some n =>
    cases d' with
    | none=>rfl
    | some m =>
      simp only[ij];rw[List.set_comm];intro e;exact h n rfl (by rw[e])
theorem Uo:∀{tr:List TR} {t:List V} {d:Option Nat} {v:V},(∀r∈tr,∀n,d=some n→r.dst≠some n)→runT tr (ij t d v)=ij (runT tr t) d v
  | [],_,_,_,_=>rfl
  | r :: tr, t, d, v, h => by
    simp only[c7] at h;simp only[runT];rw[alp t v r.val h.1,Uo h.2]
theorem JL {S:Nat→Bool}:∀{tr:List TR} {i:Nat} {r:TR},r∈bG S i tr→∃j,tr[j]?=some r∧S (i+j)=true
  | [],_,_,h=>by simp[bG] at h
  | q :: tr, i, r, h => by
    simp only[bG] at h;split at h
    · rename_i hS
      rcases iR.1 h with rfl | h
      · exact⟨0,by simp,by simpa using hS⟩
      · obtain⟨j,h1,h2⟩:=JL h;exact⟨j+1,by simpa using h1,by rw[show i+(j+1)=i+1+j from by omega];exact h2⟩
    · obtain⟨j,h1,h2⟩:=JL h;exact⟨j+1,by simpa using h1,by rw[show i+(j+1)=i+1+j from by omega];exact h2⟩
def add (S:Nat→Bool) (k:Nat):Nat→Bool:=fun j=>S j||decide (j=k)
theorem UM {S:Nat→Bool} {k:Nat}:∀{tr:List TR} {i:Nat},k<i→bG (add S k) i tr=bG S i tr
  | [],_,_=>rfl
  | r :: tr, i, h => by
    have:add S k i=S i:=by simp[add];intro e;omega
    simp only[bG,this,UM (k:=k) (tr:=tr) (i:=i+1) (by omega)]
theorem Ul {S:Nat→Bool} {k:Nat} {r:TR}:∀{tr:List TR} {i:Nat} {t:List V},i≤k→tr[k - i]?=some r→S k=false→(∀(j:Nat) r',tr[j]?=some r' → i+j≠k→∀n,r.dst=some n→r'.dst≠some n) →
    runT (bG (add S k) i tr) t=ij (runT (bG S i tr) t) r.dst r.val
  | [],i,t,_,h,_,_=>by simp at h
  | q :: tr, i, t, Dc, hr, hS, hd => by
    by_cases he:i=k
    · subst he;simp at hr;subst hr;have h1:add S i i=true:=by simp[add]
      simp only[bG,h1,dP,hS,fO,ey,runT];rw[UM (by omega)];refine Uo fun r' bF n hn=>?_
      obtain⟨j,h1,_⟩:=JL bF;exact hd (j+1) r' (by simpa using h1) (by omega) n hn
    · have h1:add S k i=S i:=by simp[add,he]
      have bF : tr[k - (i+1)]?=some r:=by
        rw[show k - i=(k - (i+1))+1 from by omega] at hr;simpa using hr
      have ih:=fun t=>Ul (tr:=tr) (i:=i+1) (t:=t) (by omega) bF hS (fun j r' hj aH n hn=>hd (j+1) r' (by simpa using hj) (by omega) n hn)
      simp only[bG,h1];cases S i
      · simpa using ih t
      · simpa [runT] using ih _
theorem Uk {S:Nat→Bool}:∀{tr:List TR} {i:Nat} {s:ch},(∀(j:Nat) r,tr[j]?=some r→r.aR=true→S (i+j)=false)→cy (bG S i tr) s=s∧bI S i tr=0
  | [],_,_,_=>⟨rfl,rfl⟩
  | r :: tr, i, s, h => by
    have ih:=fun s=>Uk (S:=S) (tr:=tr) (i:=i+1) (s:=s) fun j r' hj he=>by
      have:=h (j+1) r' (by simpa using hj) he
      rw[show i+(j+1)=i+1+j from by omega] at this;exact this
    have h0:r.aR=true→S i=false:=fun he=>by simpa using h 0 r (by simp) he
    simp only[bG,bI];cases he:r.aR
    · cases S i<;>simp[cy,he,(ih s).1,(ih s).2]
    · rw[h0 he];simp[(ih s).1,(ih s).2]
theorem Uj {S:Nat→Bool}:∀{tr:List TR} {i:Nat} {s:ch},(∀(j k:Nat) r r',tr[j]?=some r→tr[k]?=some r' → r.aR=true→r'.aR=true→j<k→S (i+k)=true→S (i+j)=true) →
    cy (bG S i tr) s=(s::gQ tr).getD (bI S i tr) yN
  | [],_,_,_=>by simp[bG,cy,bI]
  | r :: tr, i, s, h => by
    have rZ:∀(j k:Nat) r r',tr[j]?=some r→tr[k]?=some r' → r.aR=true→r'.aR=true→j<k→S (i+1+k)=true→S (i+1+j)=true:=fun j k q q' h1 h2 h3 h4 h5 h6=>by
      have:=h (j+1) (k+1) q q' (by simpa using h1) (by simpa using h2) h3 h4 (by omega) (by rw[show i+(k+1)=i+1+k from by omega];exact h6)
      rw[show i+(j+1)=i+1+j from by omega] at this;exact this
    have ih:=fun s=>Uj (S:=S) (tr:=tr) (i:=i+1) (s:=s) rZ
    simp only[bG,bI,gQ];cases he:r.aR
    · cases S i<;>simp[cy,he,ih]
    · cases hS:S i
      · obtain⟨h1,h2⟩:=Uk (S:=S) (tr:=tr) (i:=i+1) (s:=s) fun j r' hj C8 => by
          cases hq:S (i+1+j) with
          | false=>rfl
          | true =>
            have:=h 0 (j+1) r r' (by simp) (by simpa using hj) he C8 (by omega) (by rw[show i+(j+1)=i+1+j from by omega];exact hq)
            simp[hS] at this
        simp[h1,h2]
      · simp only[dP,cy,he,ih,EW];rw[wS 1,List.getD_cons_succ]
theorem Cw {S S' : Nat→Bool}:∀{tr:List TR} {i:Nat},(∀(j:Nat) r,tr[j]?=some r→r.aR=true→S (i+j)=S' (i+j))→bI S i tr=bI S' i tr
  | [],_,_=>rfl
  | r :: tr, i, h => by
    have ih:=Cw (S:=S) (S' := S') (tr:=tr) (i:=i+1) fun j r' hj he=>by
      have:=h (j+1) r' (by simpa using hj) he
      rw[show i+(j+1)=i+1+j from by omega] at this;exact this
    have h0:r.aR=true→S i=S' i:=fun he=>by simpa using h 0 r (by simp) he
    simp only[bI,ih];cases he:r.aR
    · simp
    · rw[h0 he]
theorem FX {S S' : Nat→Bool}:∀{tr:List TR} {i:Nat},(∀(j:Nat) r,tr[j]?=some r→r.aR=true→S (i+j)=true→S' (i+j)=true)→bI S i tr≤bI S' i tr
  | [],_,_=>bt _
  | r :: tr, i, h => by
    have ih:=FX (S:=S) (S' := S') (tr:=tr) (i:=i+1) fun j r' hj he hS=>by
      have:=h (j+1) r' (by simpa using hj) he (by rw[show i+(j+1)=i+1+j from by omega];exact hS)
      rw[show i+(j+1)=i+1+j from by omega] at this;exact this
    have h0:r.aR=true→S i=true→S' i=true:=fun he hS=>by simpa using h 0 r (by simp) he (by simpa using hS)
    simp only[bI];cases he:r.aR
    · simpa using ih
    · cases hS:S i
      · simp;omega
      · simp[h0 he hS];exact ih
theorem JK {S:Nat→Bool}:∀{tr:List TR} {i:Nat},(∀j,j<tr.length→S (i+j)=true)→bG S i tr=tr
  | [],_,_=>rfl
  | r :: tr, i, h => by
    have h0:S i=true:=by simpa using h 0 (by simp)
    simp only[bG,h0,dP];rw[JK fun j hj=>by
      have:=h (j+1) (by simp;omega)
      rw[show i+(j+1)=i+1+j from by omega] at this;exact this]
def cP (k:Nat):Nat→Bool:=fun j=>decide (j<k)
theorem zk {P:Program} {SN:List ch}:∀{l:List (AO × List Nat)} {tr:List TR} {t:List V} {s:ch},sY P SN l tr t s→l.length=tr.length
  | [],[],_,_,_=>rfl
  | [],_::_,_,_,h=>h.elim
  | (o,ms)::_,[],_,_,h=>h.elim
  | (o,ms)::l,r::tr,t,s,h=>by simp[zk h.2]
theorem JM:∀{tr:List TR} {i k:Nat},k≤i→bG (cP k) i tr=[]
  | [],_,_,_=>rfl
  | r :: tr, i, k, h => by
    have:cP k i=false:=by simp[cP];omega
    simp only[bG,this,fO,ey];exact JM (by omega)
theorem Cc {P:Program} {SN:List ch} {o:AO} {ms:List Nat} {r:TR}:∀{l:List (AO × List Nat)} {tr:List TR} {t:List V} {s:ch} {i k:Nat},sY P SN l tr t s→l[k]?=some (o,ms)→tr[k]?=some r →
    Li P SN o ms (runT (bG (cP (i+k)) i tr) t) (cy (bG (cP (i+k)) i tr) s) r
  | [],_,_,_,_,_,_,h,_=>by simp at h
  | (_,_)::_,[],_,_,_,_,h,_,_=>h.elim
  | (o', ms') :: l, r' :: tr, t, s, i, k, h, hl, ht => by
    cases k with
    | zero =>
      simp at hl ht;obtain⟨rfl,rfl⟩:=hl;subst ht;rw[JM (by omega)];exact h.1
    | succ k =>
      have h1:cP (i+(k+1)) i=true:=by simp[cP]
      simp only[bG,h1,dP,runT,cy];rw[show i+(k+1)=i+1+k from by omega];exact Cc h.2 (by simpa using hl) (by simpa using ht)
def uq (o:AO):List Nat:=o.op.xs.flatMap X.slot++(match o.guard with | some (g,_)=>[g] | none=>[])
structure DI where
  dst:Option Nat
  reads:List Nat
  aR:Bool
  ld:Bool
  ms:List Nat
  mask:Nat
def dy (p:AO × List Nat) (m:Nat):DI:=⟨p.1.dst,uq p.1,p.1.op.aR,p.1.op.yv,p.2,m⟩
def A9 (b:List Nat) (o:Oper):Nat:=o.after.toList.foldl (fun s e=>if Region.binds .any e then s|||2^e.on|||b.getD e.on 0 else s) 0
def zw (i:Nat) (x:DI) (j:Nat) (y:DI):Bool :=
  (match y.dst with
   | some d=>(!(x.reads.contains d)||(i != j&&(x.mask.testBit j||y.mask.testBit i)))&&(i == j||x.dst != some d)
   | none=>true)&&(!(decide (i<j)&&x.aR&&y.aR)||y.mask.testBit i)
def xy (p:Nat→DI→Bool) (l:List DI):Nat:=(l.zipIdx.filter fun (x,j)=>x.aR&&p j x).length
def lD (l:List DI) (x:DI):Nat:=xy (fun j _=>x.mask.testBit j) l
def tJ (l:List DI) (i:Nat):Nat:=xy (fun _ y=>!(y.mask.testBit i)) l
def wa (l:List DI) (i:Nat):Nat:=xy (fun j _=>decide (j<i)) l
def OY (l:List DI) (i:Nat) (x:DI):Bool :=
  !x.ld||((List.range (tJ l i+1 - lD l x)).all fun q=>x.ms.contains (lD l x+q)||lD l x+q == wa l i)
def tc (ops:Array Oper) (l:List (AO × List Nat)) (b:List Nat):Bool :=
  let d:=List.zipWith dy l b
  decide (l.length=ops.size)&&decide (b.length=ops.size) &&
  ((ops.toList.zip b).zipIdx.all fun ((o,m),i)=>(o.after.toList.all fun e=>!(Region.binds .any e)||decide (e.on<i))&&decide (m=A9 b o)) &&
  (d.zipIdx.all fun (x,i)=>(d.zipIdx.all fun (y,j)=>zw i x j y)&&OY d i x)
def qW:List Oper→List Nat→List Nat
  | [],b=>b
  | o::os,b=>qW os (b++[A9 b o])
def nW (P:Program) (ops:Array Oper) (o:Oper):Option AO :=
  match ub P o with
  | none=>none
  | some op =>
    match o.guard with
    | none=>some ⟨o.dst,op,none⟩
    | some (j, want) =>
      match (ops[j]?).bind (·.dst) with
      | some g=>some ⟨o.dst,op,some (g,want)⟩
      | none=>none
def v5 (P:Program) (ops:Array Oper):List Oper→Option (List AO)
  | []=>some []
  | o::os=>(nW P ops o).bind fun x=>(v5 P ops os).map (x::·)
def AZ (P:Program) (ops:Array Oper):Option (List (AO × List Nat)) :=
  match v5 P ops ops.toList with
  | none=>none
  | some l0 =>
    let b:=qW ops.toList []
    let d:=List.zipWith dy (l0.map fun o=>(o,[])) b
    let l:=(l0.zip d).zipIdx.map fun ((o,x),i)=>(o,if o.op.yv then ((List.range (tJ d i+1 - lD d x)).map (lD d x+·)).filter (· != wa d i) else [])
    if tc ops l b=true∧P.follows .mixedOrders=true then some l else none
structure sM (ops:Array Oper) (l:List (AO × List Nat)) (b:List Nat):Prop where
  size:l.length=ops.size
  back:∀(i:Nat) o,ops[i]?=some o→∀e∈o.after,Region.binds .any e=true→e.on<i
  mask:∀(i:Nat) o,ops[i]?=some o→∀j,(b.getD i 0).testBit j=true→∃e∈o.after,Region.binds .any e=true∧(j=e.on∨(b.getD e.on 0).testBit j=true)
  slot:∀(i j:Nat) (x y:AO × List Nat),l[i]?=some x→l[j]?=some y→∀d,y.1.dst=some d→d∈uq x.1→i≠j∧((b.getD i 0).testBit j=true∨(b.getD j 0).testBit i=true)
  dst:∀(i j:Nat) (x y:AO × List Nat),l[i]?=some x→l[j]?=some y→i≠j→∀d,y.1.dst=some d→x.1.dst≠some d
  aR:∀(i j:Nat) (x y:AO × List Nat),l[i]?=some x→l[j]?=some y→i<j→x.1.op.aR=true→y.1.op.aR=true→(b.getD j 0).testBit i=true
  load:∀(i:Nat) (x:AO × List Nat),l[i]?=some x→x.1.op.yv=true→∀m,lD (List.zipWith dy l b) (dy x (b.getD i 0))≤m→m≤tJ (List.zipWith dy l b) i→m∈x.2∨m=wa (List.zipWith dy l b) i
theorem S6 {b:List Nat} {o:Oper} {j:Nat} (h:(A9 b o).testBit j=true):∃e∈o.after,Region.binds .any e=true∧(j=e.on∨(b.getD e.on 0).testBit j=true):=by
  have key:∀(l:List Edge) (s:Nat),(l.foldl (fun s e=>if Region.binds .any e then s|||2^e.on|||b.getD e.on 0 else s) s).testBit j=true →
      s.testBit j=true∨∃e∈l,Region.binds .any e=true∧(j=e.on∨(b.getD e.on 0).testBit j=true):=by
    intro l;induction l with
    | nil=>intro s h;exact .inl h
    | cons e l ih =>
      intro s h;rw[qe] at h
      rcases ih _ h with h1 | ⟨e',h1,h2⟩
      · split at h1
        · rename_i hb;simp only[Nat.testBit_or,jS,Nat.testBit_two_pow,cq] at h1
          rcases h1 with (h1 | h1) | h1
          · exact .inl h1
          · exact .inr ⟨e,by simp,hb,.inl h1.symm⟩
          · exact .inr ⟨e,by simp,hb,.inr h1⟩
        · exact .inl h1
      · exact .inr ⟨e',by simp[h1],h2⟩
  rcases key o.after.toList 0 h with h1 | ⟨e,h1,h2⟩
  · simp at h1
  · exact⟨e,by simpa using h1,h2⟩
theorem aqe {l:List (AO × List Nat)} {b:List Nat} (hl:b.length=l.length) {i:Nat} {x:AO × List Nat} (h:l[i]?=some x):(List.zipWith dy l b)[i]?=some (dy x (b.getD i 0)):=by
  have ag:=(dj.1 h).1;rw[List.getElem?_zipWith,h]
  have:b[i]?=some (b.getD i 0):=by
    rw[List.getD,cc (by omega)];rfl
  rw[this]
theorem facts {ops:Array Oper} {l:List (AO × List Nat)} {b:List Nat} (h:tc ops l b=true):sM ops l b:=by
  unfold tc at h;simp only[bm,cq,la] at h;obtain⟨⟨⟨h1,h2⟩,h3⟩,h4⟩:=h;have RH:∀(i:Nat) o,ops[i]?=some o→((o,b.getD i 0),i)∈(ops.toList.zip b).zipIdx:=fun i o ho=>by
    have ag:=(fG.1 ho).1;rw[B1];rw[Fk];refine⟨by simpa using ho,?_⟩;rw[List.getD,cc (by omega)];rfl
  have hd:∀(i:Nat) x,l[i]?=some x→(dy x (b.getD i 0),i)∈(List.zipWith dy l b).zipIdx:=fun i x hx=>by
    rw[B1];exact aqe (by omega) hx
  have pair:∀(i j:Nat) x y,l[i]?=some x→l[j]?=some y→zw i (dy x (b.getD i 0)) j (dy y (b.getD j 0))=true:=fun i j x y hx hy=>(h4 _ (hd i x hx)).1 _ (hd j y hy)
  refine⟨h1,fun i o ho e he hb=>?_,fun i o ho j hj=>?_,fun i j x y hx hy d vr hr=>?_,fun i j x y hx hy aH d vr=>?_,fun i j x y hx hy ag he1 he2=>?_,fun i x hx rX m cG kj=>?_⟩
  · have:=(h3 _ (RH i o ho)).1 e (by simpa using he)
    simpa [hb] using this
  · have this:b.getD i 0=A9 b o:=(h3 _ (RH i o ho)).2;rw[this] at hj;exact S6 hj
  · have:=pair i j x y hx hy
    simp only[zw,dy,vr,bm,jS,uK,bne_iff_ne,xq] at this;have hc:(uq x.1).contains d=true:=by simpa using hr
    rcases this.1.1 with h | ⟨h5,h6⟩
    · rw[hc] at h;simp at h
    · exact⟨h5,h6⟩
  · have:=pair i j x y hx hy
    simp only[zw,dy,vr,bm,jS,uK,bne_iff_ne,xq] at this
    rcases this.1.2 with h | h
    · exact absurd h aH
    · exact h
  · have:=pair i j x y hx hy
    simp only[zw,dy,bm,jS,uK,he1,he2,ag,bQ,EW] at this
    rcases this.2 with h | h
    · simp at h
    · exact h
  · have:=(h4 _ (hd i x hx)).2
    simp only[OY,dy,rX,jS,uK,la,uV,xq] at this
    rcases this with h | h
    · simp at h
    · have:=h (m - lD (List.zipWith dy l b) (dy x (b.getD i 0))) (by simp only[dy,rX] at cG ⊢;omega)
      simp only[dy,rX] at this cG;rw[show lD (List.zipWith dy l b) ⟨x.1.dst,uq x.1,x.1.op.aR,true,x.2,b.getD i 0⟩+(m - lD (List.zipWith dy l b) ⟨x.1.dst,uq x.1,x.1.op.aR,true,x.2,b.getD i 0⟩)=m from by omega] at this
      rcases this with h | h
      · left;simpa using h
      · exact .inr h
theorem Iq {P:Program} {ops:Array Oper}:∀{os:List Oper} {l:List AO},v5 P ops os=some l→l.length=os.length∧∀i:Nat,∀o,os[i]?=some o→∃x,l[i]?=some x∧nW P ops o=some x
  | [],l,h=>by simp only[v5,aG] at h;subst h;exact⟨rfl,fun i o h=>by simp at h⟩
  | o :: os, l, h => by
    simp only[v5,fH,cf] at h;obtain⟨x,h1,l',h2,rfl⟩:=h;obtain⟨h3,h4⟩:=Iq h2;refine⟨by simp[h3],fun i q hq=>?_⟩;cases i with
    | zero=>simp at hq;subst hq;exact⟨x,by simp,h1⟩
    | succ i=>simp at hq;obtain⟨y,k1,k2⟩:=h4 i q hq;exact⟨y,by simpa using k1,k2⟩
theorem Sv {P:Program} {ops:Array Oper} {l:List (AO × List Nat)} (h:AZ P ops=some l) :
    ∃b,sM ops l b∧b.length=ops.size∧P.follows .mixedOrders=true∧∀(i:Nat) o,ops[i]?=some o→∃x:AO × List Nat,l[i]?=some x∧nW P ops o=some x.1:=by
  unfold AZ at h;cases h0:v5 P ops ops.toList with
  | none=>rw[h0] at h;simp at h
  | some l0 =>
  rw[h0] at h;simp only at h;split at h
  case isFalse=>simp at h
  rename_i hc;simp only[aG] at h;subst h;refine⟨_,facts hc.1,?_,hc.2,fun i o ho=>?_⟩
  · have:=hc.1
    unfold tc at this;simp only[bm,cq] at this;exact this.1.1.2
  · have hlen:=(facts hc.1).size;obtain⟨h1,h2⟩:=Iq h0;obtain⟨x,k1,k2⟩:=h2 i o (by simpa using ho);have ag:=(fG.1 ho).1;generalize hL:(l0.zip (List.zipWith dy (l0.map fun o=>(o,[])) (qW ops.toList [])))=z at hlen ⊢;have hz:i<z.length:=by simp at hlen;omega
    refine⟨_,by rw[qg,KU,cc hz];rfl,?_⟩
    have:z[i].1=x:=by
      have e:z[i]?=some z[i]:=cc hz;subst hL;rw[Fk] at e;rw[k1] at e;exact(lM e.1).symm
    simpa [this] using k2
end Go.Am
