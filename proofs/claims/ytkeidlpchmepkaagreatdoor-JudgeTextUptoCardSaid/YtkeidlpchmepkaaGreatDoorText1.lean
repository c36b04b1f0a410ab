/-
  Part 1 of the proof of JudgeTextUptoCardSaid: a logic over the model, the forms of the functions that the law reaches, and what they compute.
-/
import Derived.WalkKit
import Derived.Orders
import Derived.Below
import Derived.Laws.Append
import Derived.Laws.AppendOwn
import Derived.Laws.Cells
import Derived.Laws.CopyRow
import Derived.Laws.BytesString
import Derived.Laws.Slices
import Derived.Laws.Small
import Derived.Laws.StructEq
import Derived.ChangeKeysEq
set_option linter.unusedVariables false
set_option linter.unusedSimpArgs false
set_option linter.defProp false
set_option linter.unusedSectionVars false

namespace Go.Am
def ah := @if_neg
def ak := @if_pos
def aB := @decide_eq_false
def aD := @decide_eq_true
def aE := @List.length_map
def aH := @Option.some.injEq
def a_ := @Bool.and_eq_true
def bt := @Nat.le_refl
def bw := @List.length_append
def bC := @List.map_cons
def bH := @decide_eq_true_eq
def bP := @if_false
def bZ := @decide_true
def b7 := @if_true
def cw := @List.getElem?_eq_getElem
def cx := @Option.map_eq_some_iff
def cG := @List.length_cons
def cI := @Bool.false_eq_true
def dn := @List.append_nil
def dp := @List.map_nil
def dt := @List.append_assoc
def du := @List.forall_mem_cons
def dv := @List.length_nil
def dD := @List.getElem?_eq_some_iff
def dW := @List.take_length
def fh := @decide_false
def fD := @List.getElem_mem
def fE := @List.map_append
def fM := @List.cons.injEq
def fN := @List.cons_append
def fO := @and_true
def gi := @Array.getElem?_eq_getElem
def gj := @Array.getElem?_eq_some_iff
def gk := @List.nil_append
def gl := @Option.bind_eq_some_iff
def gm := @congrArg
def gP := @Nat.add_mul
def gQ := @Nat.zero_add
def gZ := @List.length_take
def ij := @List.map_eq_append_iff
def il := @List.mem_append
def iC := @List.flatten_cons
def iD := @List.length_eq_zero_iff
def iE := @List.length_singleton
def iP := @Int.toNat_natCast
def jl := @List.all_eq_true
def j_ := @List.mem_cons
def kK := @Bool.or_eq_true
def kN := @List.drop_eq_getElem_cons
def kP := @List.take_succ_eq_append_getElem
def lS := @List.mem_singleton
def lT := @List.singleton_append
def mr := @List.sum_cons
def mu := @Prod.mk.injEq
def mS := @Bool.true_and
def mV := @Option.some.inj
def nL := @true_and
def nO := @Array.getD_eq_getD_getElem?
def nP := @Bool.true_eq_false
def nQ := @List.flatMap_cons
def nR := @List.take_append_drop
def nS := @Nat.lt_or_ge
def nT := @Nat.mul_le_mul_right
def oB := @List.eq_nil_of_length_eq_zero
def oC := @List.getElem?_append_left
def oD := @List.sum_nil
def oE := @List.take_succ_cons
def oT := @decide_eq_decide
def pH := @List.flatten_append
def pI := @List.mem_of_getElem?
def pJ := @Nat.mul_one
def rD := @Bool.not_eq_true'
def rG := @List.all_cons
def rH := @List.getElem?_drop
def rI := @List.mem_map
def rJ := @List.range_eq_range'
def rK := @List.range_succ
def rL := @Nat.add_zero
def rM := @Nat.lt_of_lt_of_le
def rN := @Nat.min_eq_left
def rO := @Nat.zero_le
def s4 := @Bool.and_true
def s5 := @Function.comp_def
def s7 := @List.getElem?_map
def s8 := @List.mem_of_mem_take
def s9 := @Option.bind_some
def s_ := @Option.map_some
def uM := @Bool.decide_and
def uP := @Int.natCast_zero
def uR := @List.drop_drop
def uS := @Nat.le_trans
def uT := @Nat.one_mul
def wC := @List.flatMap_append
def wD := @List.foldl_cons
def wE := @List.getElem?_append_right
def wF := @List.getElem?_eq_none
def wG := @List.getElem?_take_of_lt
def wH := @List.mem_range
def wI := @List.replicate_succ
def yQ := @Array.getElem?_setIfInBounds_ne
def yR := @Array.length_toList
def yS := @BitVec.getLsbD_and
def yT := @Bool.false_or
def yU := @Bool.or_eq_false_iff
def yW := @List.range'_succ
def yX := @List.take_of_length_le
def yZ := @Option.isNone_none
def zd := @beq_iff_eq
def zi := @decide_eq_false_iff_not
def A0 := @Array.ext'
def A1 := @BitVec.getLsbD_of_ge
def A3 := @Int.eq_ofNat_of_zero_le
def A4 := @List.any_eq_true
def A5 := @List.drop_succ_cons
def A6 := @List.find?_append
def A7 := @List.foldl_append
def A8 := @List.getElem?_set_ne
def A9 := @List.getElem_cons_succ
def A_ := @List.length_drop
def A' := @List.map_map
def Ba := @Nat.add_comm
def Bb := @Nat.lt_trichotomy
def Bc := @Option.isNone_iff_eq_none
def Bd := @Option.isNone_some
def Be := @Option.isSome_none
def By := @dif_pos
def BD := @false_and
def Dy := @Bool.and_eq_false_iff
def Dz := @Bool.eq_iff_iff
def DF := @List.drop_length
def DG := @List.drop_of_length_le
def DH := @List.drop_zero
def DJ := @List.find?_eq_none
def DK := @List.find?_eq_some_iff_append
def DL := @List.getElem?_cons_zero
def DM := @List.getElem?_take
def DN := @List.getLast?_concat
def DP := @List.map_singleton
def DQ := @List.mem_of_mem_drop
def DR := @List.mem_zipIdx_iff_getElem?
def DS := @Nat.add_assoc
def DT := @Nat.le_zero
def DU := @Nat.succ_mul
def DW := @Option.getD_some
def DX := @Option.isSome_some
def Gl := @not_true_eq_false
def Gs := @or_false
def Hp := @Array.getElem?_extract
def Hq := @Array.toList_setIfInBounds
def Hr := @Bool.and_self
def Hs := @Bool.false_and
def Hy := @Int.le_refl
def HB := @List.all_append
def HC := @List.all_eq_false
def HD := @List.any_eq_false
def HE := @List.dropLast_concat
def HG := @List.drop_take
def HJ := @List.ext_getElem
def HK := @List.filterMap_cons
def HL := @List.getElem?_range
def HM := @List.getElem?_zip_eq_some
def HN := @List.mem_iff_getElem
def HO := @List.not_mem_nil
def HP := @List.take_append_of_le_length
def HR := @Nat.eq_zero_or_pos
def HS := @Nat.le_of_lt
def HT := @Nat.lt_succ_self
def HU := @Nat.sub_self
def H0 := @and_assoc
def Ll := @of_decide_eq_true
def Nc := @Array.getElem?_toList
def Nf := @Array.mem_of_getElem?
def Ng := @Bool.not_eq_true
def Nl := @Int.ofNat_eq_natCast
def Nm := @List.all_nil
def Nn := @List.count_cons_self
def Np := @List.count_eq_zero
def Nq := @List.count_pos_iff
def Nr := @List.drop_append_of_le_length
def Ns := @List.drop_eq_nil_of_le
def Nt := @List.eq_nil_or_concat
def Nu := @List.ext_getElem?
def Nv := @List.filter_cons
def Nw := @List.flatten_nil
def Nx := @List.getElem?_set_self
def Ny := @List.getElem?_zipIdx
def Nz := @List.getElem_map
def NA := @List.mem_cons_of_mem
def NB := @List.mem_filterMap
def NC := @List.mem_of_find?_eq_some
def ND := @List.nodup_cons
def NF := @List.range'_append
def NG := @List.size_toArray
def NH := @List.take_zero
def NI := @Nat.add_sub_cancel_left
def NJ := @Nat.min_eq_right
def NK := @Nat.mod_eq_of_lt
def NL := @Nat.mul_le_mul
def NM := @Option.isSome_iff_exists
def N1 := @UInt8.toNat_inj
def V5 := @not_false_eq_true
def Ze := @Array.getElem?_setIfInBounds
def Zg := @BitVec.toNat_shiftLeft
def Zi := @List.append_inj_right'
def Zj := @List.filter_eq_nil_iff
def Zk := @List.getElem?_replicate
def Zl := @List.getElem?_toArray
def Zm := @List.getElem_cons_zero
def Zn := @List.mem_iff_getElem?
def Zo := @List.perm_append_singleton
def Zp := @List.set_getElem_self
def Zq := @List.takeWhile_sublist
def Zr := @Nat.lt_succ_iff_lt_or_eq
def Zs := @Nat.testBit_two_pow_sub_one
end Go.Am
namespace Go.Am
inductive Pl where
  | loc (i:Nat)
  | out (b:Nat)
  | jt (b:Nat)
inductive Tk where
  | no
  | full
  | tk (t:Nat)
inductive V where
  | any
  | bool (b:Bool)
  | int (k:IntKind) (n:Int)
  | str (s:List UInt8)
  | mb
  | ptr (p:Pl) (off:Nat)
  | elt (cs:List V) (off:Nat)
  | sl (t:Tk) (k:Nat) (l:List (List V))
  | agg (cs:List V)
  | aX (cs:List V)
  | fn (f:Fn) (first cap:List V)
  | raw (v:Value)
inductive dO where
  | const
  | kU
  | gK (i:Nat)
  | nB
  | fA (t c:Nat)
def dO.fP:dO→Nat→Prop
  | .const,_=>True
  | .fA _ c,o=>o<c
  | _,_=>False
structure Env where
  w:World
  role:Nat→dO
  loc:Nat→Option Nat
  aC:Nat→Option Nat
def Env.nl (E:Env):Env:={E with loc:=fun _=>none}
@[simp] theorem Env.V0 (E:Env):E.nl.w=E.w:=rfl
@[simp] theorem Env.VZ (E:Env):E.nl.role=E.role:=rfl
@[simp] theorem Env.aug (E:Env):E.nl.aC=E.aC:=rfl
@[simp] theorem Env.auf (E:Env) (i:Nat):E.nl.loc i=none:=rfl
@[simp] theorem Env.amF (E:Env):E.nl.nl=E.nl:=rfl
def rR (E:Env) (k n:Nat) (a:Option Addr) (cap:Nat):Tk→Prop
  | .no=>True
  | .full=>cap=n
  | .tk t=>∃m,E.aC t=some m∧n≤m∧(n=m→cap=n∨∃b cs e,a=some ⟨b,0,none⟩∧E.role b = .fA t (n*k)∧E.w.heap[b]?=some (.cells cs e (0,0))∧cs.size=cap*k)
mutual
def R:Env→V→Value→Prop
  | _,.any,_=>True
  | _,.bool b,v=>v = .bool b
  | _,.int k n,v=>v = .int k n
  | _,.str s,v=>v = .string ⟨s.toArray⟩
  | _,.mb,v=>v = .pointer none
  | E,.ptr (.loc i) off,v=>∃b,E.loc i=some b∧v = .pointer (some ⟨b,off,none⟩)
  | _,.ptr (.out b) off,v=>v = .pointer (some ⟨b,off,none⟩)
  | _,.ptr (.jt b) off,v=>v = .pointer (some ⟨b,off,none⟩)
  | E,.elt cs off,v=>∃b o,v = .pointer (some ⟨b,o+off,none⟩)∧c7 E.nl cs b o
  | E,.sl t k l,v=>∃a cap,v = .slice a l.length cap∧l.length≤cap∧(l=[]∨∃b o,a=some ⟨b,o,none⟩∧ek E.nl k l b o)∧rR E k l.length a cap t
  | E,.agg cs,v=>∃vs,v = .agg vs∧RL E cs vs.toList
  | E,.aX cs,v=>∃vs,v = .tuple vs∧RL E cs vs.toList
  | E,.fn f first cap,v=>∃fs cs,v = .func f fs cs∧RL E first fs.toList∧RL E cap cs.toList
  | _,.raw u,v=>v=u
def c7:Env→List V→Nat→Nat→Prop
  | _,[],_,_=>True
  | E,x::xs,b,o=>(∃c,E.w.cell? ⟨b,o,none⟩=some c∧(E.role b).fP o∧c.oneCell' = true∧R E x c)∧c7 E xs b (o+1)
def ek:Env→Nat→List (List V)→Nat→Nat→Prop
  | _,_,[],_,_=>True
  | E,k,x::xs,b,o=>x.length=k∧c7 E x b o∧ek E k xs b (o+k)
def RL:Env→List V→List Value→Prop
  | _,[],[]=>True
  | E,x::xs,v::vs=>R E x v∧RL E xs vs
  | _,_,_=>False
end
structure Env.le (E E' : Env):Prop where
  cell:∀b o c,(E.role b).fP o→E.w.cell? ⟨b,o,none⟩=some c→(E'.role b).fP o∧E'.w.cell? ⟨b,o,none⟩=some c
  loc:∀i b,E.loc i=some b→E'.loc i=some b
  tok:∀t n,E.aC t=some n→∃n',E'.aC t=some n' ∧ n≤n' ∧ (n' = n→∀b c,E.role b = .fA t c →
    E'.role b = .fA t c∧∀cs e,E.w.heap[b]?=some (.cells cs e (0,0))→∃cs',E'.w.heap[b]?=some (.cells cs' e (0,0))∧cs'.size=cs.size)
theorem Env.le.nl {E E' : Env} (h:E.le E'):E.nl.le E'.nl:=⟨h.cell,fun _ _ h=>by simp at h,h.tok⟩
theorem Env.le.refl (E:Env):E.le E:=⟨fun _ _ _ h h' => ⟨h,h'⟩,fun _ _ h=>h,fun _ n h=>⟨n,h,bt _,fun _ _ _ hr=>⟨hr,fun cs _ hc=>⟨cs,hc,rfl⟩⟩⟩⟩
theorem Env.le.trans {E F G:Env} (h:E.le F) (k:F.le G):E.le G:=by
  refine⟨fun b o c hc hv=>?_,fun i b hb=>k.loc i b (h.loc i b hb),fun t n hn=>?_⟩
  · obtain⟨h1,U⟩:=h.cell b o c hc hv;exact k.cell b o c h1 U
  · obtain⟨n',h1,U,h3⟩:=h.tok t n hn;obtain⟨VQ,k1,k2,k3⟩:=k.tok t n' h1;refine⟨VQ,k1,uS U k2,fun he b c hr=>?_⟩;have e1:n' = n:=by omega
    have e2:VQ = n' := by omega
    obtain⟨r1,r2⟩:=h3 e1 b c hr;obtain⟨s1,s2⟩:=k3 e2 b c r1;refine⟨s1,fun cs e hcs=>?_⟩;obtain⟨cs',q1,q2⟩:=r2 cs e hcs;obtain⟨acG,q3,q4⟩:=s2 cs' e q1;exact⟨acG,q3,q4.trans q2⟩
theorem rR.mono {E E' : Env} (h:E.le E') {k n:Nat} {a:Option Addr} {cap:Nat} {t:Tk} (ht:rR E k n a cap t):rR E' k n a cap t:=by
  cases t with
  | no=>trivial
  | full=>exact ht
  | tk t =>
    obtain⟨m,h1,U,h3⟩:=ht;obtain⟨m',k1,k2,k3⟩:=h.tok t m h1;refine⟨m',k1,uS U k2,fun he=>?_⟩;have e1:n=m:=by omega
    have e2:m' = m:=by omega
    rcases h3 e1 with h4 | ⟨b,cs,e,ha,hr,hc,hs⟩
    · exact .inl h4
    · obtain⟨r1,r2⟩:=k3 e2 b _ hr;obtain⟨cs',r3,r4⟩:=r2 cs e hc;exact .inr ⟨b,cs',e,ha,r1,r3,r4.trans hs⟩
mutual
theorem R.mono:∀(x:V) {E E' : Env} (_:E.le E') {v:Value},R E x v→R E' x v
  | .any,_,_,_,_,_=>by simp only[R]
  | .bool _,_,_,_,_,hr=>by simp only[R] at hr ⊢;exact hr
  | .int _ _,_,_,_,_,hr=>by simp only[R] at hr ⊢;exact hr
  | .str _,_,_,_,_,hr=>by simp only[R] at hr ⊢;exact hr
  | .mb,_,_,_,_,hr=>by simp only[R] at hr ⊢;exact hr
  | .ptr (.loc i) _, _, _, h, _, hr => by
    simp only[R] at hr ⊢;obtain⟨b,h1,U⟩:=hr;exact⟨b,h.loc i b h1,U⟩
  | .ptr (.out _) _,_,_,_,_,hr=>by simp only[R] at hr ⊢;exact hr
  | .ptr (.jt _) _,_,_,_,_,hr=>by simp only[R] at hr ⊢;exact hr
  | .elt cs _, _, _, h, _, hr => by
    simp only[R] at hr ⊢;obtain⟨b,o,h1,U⟩:=hr;exact⟨b,o,h1,c7.mono cs h.nl U⟩
  | .sl t k l, _, _, h, _, hr => by
    simp only[R] at hr ⊢;obtain⟨a,cap,h1,U,h3,h4⟩:=hr;refine⟨a,cap,h1,U,?_,h4.mono h⟩
    rcases h3 with h3 | ⟨b,o,h3,h5⟩
    · exact .inl h3
    · exact .inr ⟨b,o,h3,ek.mono l h.nl h5⟩
  | .agg cs, _, _, h, _, hr => by
    simp only[R] at hr ⊢;obtain⟨vs,h1,U⟩:=hr;exact⟨vs,h1,RL.mono cs h U⟩
  | .aX cs, _, _, h, _, hr => by
    simp only[R] at hr ⊢;obtain⟨vs,h1,U⟩:=hr;exact⟨vs,h1,RL.mono cs h U⟩
  | .fn _ first cap, _, _, h, _, hr => by
    simp only[R] at hr ⊢;obtain⟨fs,cs,h1,U,h3⟩:=hr;exact⟨fs,cs,h1,RL.mono first h U,RL.mono cap h h3⟩
  | .raw _,_,_,_,_,hr=>by simp only[R] at hr ⊢;exact hr
theorem c7.mono:∀(l:List V) {E E' : Env} (_:E.le E') {b o:Nat},c7 E l b o→c7 E' l b o
  | [],_,_,_,_,_,_=>by simp only[c7]
  | x :: xs, _, _, h, b, o, hr => by
    simp only[c7] at hr ⊢;obtain⟨⟨c,h1,U,h5,h3⟩,h4⟩:=hr;obtain⟨k1,k2⟩:=h.cell b o c U h1;exact⟨⟨c,k2,k1,h5,R.mono x h h3⟩,c7.mono xs h h4⟩
theorem ek.mono:∀(l:List (List V)) {E E' : Env} (_:E.le E') {k b o:Nat},ek E k l b o→ek E' k l b o
  | [],_,_,_,_,_,_,_=>by simp only[ek]
  | x :: xs, _, _, h, _, _, _, hr => by
    simp only[ek] at hr ⊢;obtain⟨h1,U,h3⟩:=hr;exact⟨h1,c7.mono x h U,ek.mono xs h h3⟩
theorem RL.mono:∀(l:List V) {E E' : Env} (_:E.le E') {vs:List Value},RL E l vs→RL E' l vs
  | [],_,_,_,[],_=>by simp only[RL]
  | [],_,_,_,_::_,hr=>by simp only[RL] at hr
  | _::_,_,_,_,[],hr=>by simp only[RL] at hr
  | x :: xs, _, _, h, v :: vs, hr => by
    simp only[RL] at hr ⊢;exact⟨R.mono x h hr.1,RL.mono xs h hr.2⟩
end
structure ae where
  box:Nat→Option (List V)
  aC:Nat→Option Nat
  bR:Nat→Option (List V)
structure St where
  t:List V
  loc:List (List V)
  out:ae
def ig (E:Env) (b:Nat) (cs:List V):Prop :=
  ∃c e,E.w.heap[b]?=some (.cells c e (0,0))∧cs.length≤c.size∧∀(j:Nat) x,cs[j]?=some x→∃v,c[j]?=some v∧R E x v
structure Env.ok (E:Env) (σ:ae):Prop where
  box:∀b cs,σ.box b=some cs→E.role b = .nB∧ig E.nl b cs
  aC:∀t n,σ.aC t=some n→E.aC t=some n
  fresh:∀b,E.w.heap.size≤b→E.role b = .const
  nt:∃N,∀t,N≤t→E.aC t=none
  bR:∀b cs,σ.bR b=some cs→c7 E.nl cs b 0
structure Env.cg (E:Env) (ls:List (List V)):Prop where
  box:∀i cs,ls[i]?=some cs→∃b,E.loc i=some b∧E.role b = .gK i∧ig E b cs
  none:∀i,ls.length≤i→E.loc i=none
theorem aia (w:World) (c:Array Value) (t:TypeId) (a:Addr):(w.alloc (.cells c t)).frozen? a=w.frozen? a:=by
  by_cases h:a.block=w.heap.size
  · have e1:(w.alloc (.cells c t)).heap[a.block]?=some (.cells c t):=by rw[h];exact heap_alloc_new w _
    have e2:w.heap[a.block]?=none:=by rw[h];simp
    simp[World.frozen?,e1,e2]
  · by_cases U:a.block<w.heap.size
    · simp only[World.frozen?,heap_alloc_old w (.cells c t) U]
    · have e2:w.heap[a.block]?=none:=by simp;omega
      have e1:(w.alloc (.cells c t)).heap[a.block]?=none:=by simp;omega
      simp only[World.frozen?,e1,e2]
theorem BK {w:World} {b:Nat} {c new:Array Value} {e:TypeId} (hb:w.heap[b]?=some (.cells c e (0,0))) (a:Addr):(w.setRow b new).frozen? a=w.frozen? a:=by
  by_cases h:a.block=b
  · have e1:=setRow_heap w b c new e _ hb;rw[←h] at hb e1;simp only[World.frozen?,h] at hb e1 ⊢;simp only[e1,hb]
  · simp only[World.frozen?,setRow_other w b a.block new h]
structure Fr (E E' : Env):Prop where
  os:E'.w.os=E.w.os
  output:E'.w.output=E.w.output
  tape:E'.w.tape=E.w.tape
  size:E.w.heap.size≤E'.w.heap.size
  eZ:∀a,E'.w.frozen? a=E.w.frozen? a
  cell:∀b o c,(E.role b).fP o→E.w.cell? ⟨b,o,none⟩=some c→(E'.role b).fP o∧E'.w.cell? ⟨b,o,none⟩=some c
  tok:∀t n,E.aC t=some n→∃n',E'.aC t=some n' ∧ n≤n' ∧ (n' = n→∀b c,E.role b = .fA t c →
    E'.role b = .fA t c∧∀cs e,E.w.heap[b]?=some (.cells cs e (0,0))→∃cs',E'.w.heap[b]?=some (.cells cs' e (0,0))∧cs'.size=cs.size)
  same:∀b,b<E.w.heap.size→E.role b = .const∨E.role b = .kU→E'.w.heap[b]?=E.w.heap[b]?∧E'.role b=E.role b
  Bm:∀b,b<E.w.heap.size→E'.role b = .nB→E.role b = .nB∨∃j,E.role b = .gK j
  Bn:∀b t c,b<E.w.heap.size→E'.role b = .fA t c→∃c0,E.role b = .fA t c0
  zc:∀b i,b<E.w.heap.size→E'.role b = .gK i→∃j,E.role b = .gK j
  shape:∀(b:Nat) (c:Array Value) (e:TypeId),E.w.heap[b]?=some (.cells c e (0,0))→∃c' : Array Value,E'.w.heap[b]?=some (.cells c' e (0,0))∧c'.size=c.size
theorem Fr.le {E E' : Env} (h:Fr E E') (hl:∀i b,E.loc i=some b→E'.loc i=some b):E.le E' := ⟨h.cell,hl,h.tok⟩
theorem Fr.nl {E E' : Env} (h:Fr E E'):E.nl.le E'.nl:=⟨h.cell,fun _ _ h=>by simp at h,h.tok⟩
theorem Fr.refl (E:Env):Fr E E :=
  ⟨rfl,rfl,rfl,bt _,fun _=>rfl,(Env.le.refl E).cell,(Env.le.refl E).tok,fun _ _ _=>⟨rfl,rfl⟩,fun _ _ h=>.inl h,fun _ _ c _ h=>⟨c,h⟩,fun _ i _ h=>⟨i,h⟩,fun _ c _ h=>⟨c,h,rfl⟩⟩
theorem Fr.trans {E F G:Env} (h:Fr E F) (k:Fr F G):Fr E G:=by
  refine⟨k.os.trans h.os,k.output.trans h.output,k.tape.trans h.tape,uS h.size k.size,fun a=>(k.eZ a).trans (h.eZ a),?_,?_,?_,?_,?_,?_,?_⟩
  · intro b o c hc hv;obtain⟨h1,U⟩:=h.cell b o c hc hv;exact k.cell b o c h1 U
  · have h' : Env.le {E with loc:=fun _=>none} {F with loc:=fun _=>none}:=⟨h.cell,fun _ _ h=>h,h.tok⟩;have k' : Env.le {F with loc:=fun _=>none} {G with loc:=fun _=>none}:=⟨k.cell,fun _ _ h=>h,k.tok⟩;exact(h'.trans k').tok
  · intro b hb hr;obtain⟨h1,U⟩:=h.same b hb hr;obtain⟨k1,k2⟩:=k.same b (rM hb h.size) (by rw[U];exact hr);exact⟨k1.trans h1,k2.trans U⟩
  · intro b hb hr
    rcases k.Bm b (rM hb h.size) hr with h1 | ⟨j,hj⟩
    · exact h.Bm b hb h1
    · exact .inr (h.zc b j hb hj)
  · intro b t c hb hr;obtain⟨c0,h0⟩:=k.Bn b t c (rM hb h.size) hr;exact h.Bn b t c0 hb h0
  · intro b i hb hr;obtain⟨j,hj⟩:=k.zc b i (rM hb h.size) hr;exact h.zc b j hb hj
  · intro b c e hb;obtain⟨c1,h1,U⟩:=h.shape b c e hb;obtain⟨c2,k1,k2⟩:=k.shape b c1 e h1;exact⟨c2,k1,k2.trans U⟩
structure bc (E:Env) (st:St) (a:Act):Prop where
  ok:E.ok st.out
  cg:E.cg st.loc
  defers:a.defers=[]
  slot:RL E st.t a.tmps.toList
def gu (P:Program) (c:Code) (Q:Exit→St→Prop) (st:St):Prop :=
  ∀E a,bc E st a→c.wp P (fun e a' w' => ∃E' aq,E'.w=w' ∧ bc E' aq a' ∧ Fr E E' ∧ Q e aq) a E.w
def Ni (P:Program) (f:FuncId):Prop:=∀args w,(callFunc f args).run P w = .ok (.enter f args) w
def al (P:Program) (f:FuncId) (args:List V) (σ:ae) (R' : V→ae→Prop):Prop :=
  Ni P f∧∀(E:Env) (vs:Array Value),(∀i,E.loc i=none)→E.ok σ→RL E args vs.toList →
    Calls P f vs E.w fun e w' => ∃v x E' σ',e = .returned x∧E'.w=w' ∧ (∀i,E'.loc i=none)∧E'.ok σ' ∧ R E' v x∧Fr E E' ∧ R' v σ'
theorem al.mono {P:Program} {f:FuncId} {args:List V} {σ:ae} {NW NY:V→ae→Prop} (h:al P f args σ NW)
    (hr:∀v σ',NW v σ' → NY v σ'):al P f args σ NY :=
  ⟨h.1,fun E vs h1 U h3=>(h.2 E vs h1 U h3).mono fun _ _ ⟨v,x,E',σ',a,b,c,d,e,f,g⟩=>⟨v,x,E',σ',a,b,c,d,e,f,hr _ _ g⟩⟩
theorem LN {P:Program} {c:Code} {Q Q' : Exit→St→Prop} {st:St} (h:gu P c Q st) (hq:∀e st,Q e st→Q' e st):gu P c Q' st :=
  fun E a hs=>wp_mono (h E a hs) fun _ _ _ ⟨E',aq,h1,U,h3,h4⟩=>⟨E',aq,h1,U,h3,hq _ _ h4⟩
def Zy (P:Program) (c:Code) (Q:Exit→St→Prop):Exit→St→Prop
  | .normal,st=>gu P c Q st
  | e,st=>Q e st
theorem api {P:Program} {x y:Code} {Q:Exit→St→Prop} {st:St} (h:gu P x (Zy P y Q) st):gu P (.seq x y) Q st:=by
  intro E a hs;refine wp_seq (wp_mono (h E a hs) ?_);rintro e a' w' ⟨E',aq,rfl,U,h3,h4⟩;cases e with
  | normal=>exact wp_mono (h4 E' a' U) fun _ _ _ ⟨lk,Da,k1,k2,k3,k4⟩=>⟨lk,Da,k1,k2,h3.trans k3,k4⟩
  | exit id=>exact⟨E',aq,rfl,U,h3,h4⟩
  | goto l=>exact⟨E',aq,rfl,U,h3,h4⟩
  | ret=>exact⟨E',aq,rfl,U,h3,h4⟩
  | panic c=>exact⟨E',aq,rfl,U,h3,h4⟩
  | outgrown=>exact⟨E',aq,rfl,U,h3,h4⟩
theorem apj {P:Program} {Q:Exit→St→Prop} {st:St} (h:Q .normal st):gu P .skip Q st :=
  fun E _ hs=>wp_skip ⟨E,st,rfl,hs,Fr.refl E,h⟩
theorem apc {P:Program} {Q:Exit→St→Prop} {st:St} {id:Nat} (h:Q (.exit id) st):gu P (.exit id) Q st :=
  fun E _ hs=>wp_exit ⟨E,st,rfl,hs,Fr.refl E,h⟩
theorem apg {P:Program} {Q:Exit→St→Prop} {st:St} (h:Q .ret st):gu P .ret Q st :=
  fun E _ hs=>wp_ret ⟨E,st,rfl,hs,Fr.refl E,h⟩
theorem apd {P:Program} {Q:Exit→St→Prop} {st:St} {l:Nat} (h:Q .normal st):gu P (.label l) Q st :=
  fun E _ hs=>wp_label ⟨E,st,rfl,hs,Fr.refl E,h⟩
def pG (id:Nat) (Q:Exit→St→Prop):Exit→St→Prop
  | .exit xW,st=>if xW = id then Q .normal st else Q (.exit xW) st
  | e,st=>Q e st
theorem apb {P:Program} {c:Code} {id:Nat} {Q:Exit→St→Prop} {st:St} (h:gu P c (pG id Q) st):gu P (.block id c) Q st:=by
  intro E a hs;refine wp_block (wp_mono (h E a hs) ?_);rintro e a' w' ⟨E',aq,rfl,U,h3,h4⟩;cases e with
  | exit xW =>
    simp only[pG] at h4;simp only[Exit.inBlock];split
    · rename_i h5;rw[ak h5] at h4;exact⟨E',aq,rfl,U,h3,h4⟩
    · rename_i h5;rw[ah h5] at h4;exact⟨E',aq,rfl,U,h3,h4⟩
  | normal=>exact⟨E',aq,rfl,U,h3,h4⟩
  | goto l=>exact⟨E',aq,rfl,U,h3,h4⟩
  | ret=>exact⟨E',aq,rfl,U,h3,h4⟩
  | panic c=>exact⟨E',aq,rfl,U,h3,h4⟩
  | outgrown=>exact⟨E',aq,rfl,U,h3,h4⟩
theorem D1 {E:Env}:∀{l:List V} {vs:List Value},RL E l vs→∀(n:Nat) (u:Value),R E (l.getD n .any) (vs.getD n u)
  | [],[],_,n,u=>by simp[R]
  | [],_::_,h,_,_=>by simp[RL] at h
  | _::_,[],h,_,_=>by simp[RL] at h
  | x :: xs, v :: vs, h, n, u => by
    simp only[RL] at h;cases n with
    | zero=>simpa using h.1
    | succ n=>simpa using D1 h.2 n u
theorem eM {E:Env}:∀{l:List V} {vs:List Value},RL E l vs→l.length=vs.length
  | [],[],_=>rfl
  | [],_::_,h=>by simp[RL] at h
  | _::_,[],h=>by simp[RL] at h
  | x :: xs, v :: vs, h => by
    simp only[RL] at h;simp[eM h.2]
theorem oI {E:Env}:∀{l:List V} {vs:List Value},RL E l vs→∀(n:Nat) (x:V),l[n]?=some x→∃v,vs[n]?=some v∧R E x v
  | [],[],_,n,x,hx=>by simp at hx
  | [],_::_,h,_,_,_=>by simp[RL] at h
  | _::_,[],h,_,_,_=>by simp[RL] at h
  | x :: xs, v :: vs, h, n, y, hy => by
    simp only[RL] at h;cases n with
    | zero=>simp at hy;subst hy;exact⟨v,by simp,h.1⟩
    | succ n=>simp at hy;obtain⟨u,h1,U⟩:=oI h.2 n y hy;exact⟨u,by simpa using h1,U⟩
theorem Bf {E:Env}:∀{l:List V} {vs:List Value},l.length=vs.length→(∀(n:Nat) x v,l[n]?=some x→vs[n]?=some v→R E x v)→RL E l vs
  | [],[],_,_=>by simp[RL]
  | [],_::_,h,_=>by simp at h
  | _::_,[],h,_=>by simp at h
  | x :: xs, v :: vs, h, hx => by
    simp only[RL];exact⟨hx 0 x v (by simp) (by simp),Bf (by simpa using h) fun n y u h1 U=>hx (n+1) y u (by simpa using h1) (by simpa using U)⟩
theorem D2 {E:Env}:∀{l:List V} {vs:List Value},RL E l vs→∀(n:Nat) {x:V} {v:Value},R E x v→RL E (l.set n x) (vs.set n v)
  | [],[],_,_,_,_,_=>by simp[RL]
  | [],_::_,h,_,_,_,_=>by simp[RL] at h
  | _::_,[],h,_,_,_,_=>by simp[RL] at h
  | x :: xs, v :: vs, h, n, y, u, hy => by
    simp only[RL] at h;cases n with
    | zero=>simp only[List.set,RL];exact⟨hy,h.2⟩
    | succ n=>simp only[List.set,RL];exact⟨h.1,D2 h.2 n hy⟩
theorem rP {E:Env}:∀{l:List V} {vs:List Value} {m:List V} {us:List Value},RL E l vs→RL E m us→RL E (l++m) (vs++us)
  | [],[],_,_,_,h=>by simpa using h
  | [],_::_,_,_,h,_=>by simp[RL] at h
  | _::_,[],_,_,h,_=>by simp[RL] at h
  | x :: xs, v :: vs, _, _, h, k => by
    simp only[RL,fN] at h ⊢;exact⟨h.1,rP h.2 k⟩
theorem NR {E:Env} (vs:List Value):RL E (List.replicate vs.length V.any) vs:=by
  induction vs with
  | nil=>simp[RL]
  | cons v vs ih=>simp only[cG,wI,RL];exact⟨by simp[R],ih⟩
def St.put (st:St) (d:Option Nat) (v:V):St :=
  match d with
  | some n=>⟨st.t.set n v,st.loc,st.out⟩
  | none=>st
theorem bc.put {E:Env} {st:St} {a:Act} (h:bc E st a) {v:V} {x:Value} (hv:R E v x) (d:Option Nat):bc E (st.put d v) (a.put d x):=by
  cases d with
  | none=>exact h
  | some n=>exact⟨h.ok,h.cg,h.defers,by simpa [St.put,Act.put] using D2 h.slot n hv⟩
def aF:Nat:=268435456
inductive X where
  | s (n:Nat)
  | c (v:V)
inductive OQ where
  | nil
  | len
  | idx (k:Nat)
  | lg (k:Nat) (lo hi mx:Bool)
  | app (k:Nat)
  | mk (z:List V)
  | kx (k:Nat)
  | new (k:Nat)
  | min
  | max
  | GZ (m k:Nat) (lo hi:Bool)
  | eZ (k:Nat) (lo hi:Bool)
  | Bu
  | kc
  | Bk
  | u5 (k:Nat)
  | Im
  | Kr
  | FK (m:Nat)
  | bad
inductive ar where
  | mv (x:X)
  | pick (c a b:X)
  | alloc (z:List V)
  | box (n:Nat) (x:X)
  | kf (n:Nat) (x:X)
  | build (z:List V) (ps:List (Nat × Nat × X))
  | cR (k:Nat) (xs:List X)
  | load (agg:Bool) (n:Nat) (x:X)
  | store (n:Nat) (a x:X)
  | sI (x:X)
  | dA (op:BinOp) (x y:X)
  | iG (op:BinOp) (x y:X)
  | tq (neg:Bool) (x y:X)
  | cat (x y:X)
  | kS (neg:Bool) (ks:List Nat) (x y:X)
  | zo (neg:Bool) (x y:X)
  | not (x:X)
  | sC (x:X)
  | sD (x:X)
  | mB (off:Nat) (x:X)
  | pP (agg:Bool) (off n:Nat) (x:X)
  | kv (k:Nat) (x i:X)
  | qP (x i:X)
  | fk (m k:Nat) (x i:X)
  | call (f:FuncId) (xs:List X)
  | gC (x:X) (xs:List X)
  | app (k:Nat) (s x:X)
  | kc (s x:X)
  | lg (k:Nat) (x:X) (lo hi mx:Option X)
  | sR (x:X) (lo hi:Option X)
  | ext (x:X) (i:Nat)
  | ix (f:Fn) (first cap:List X)
  | nZ (k:IntKind) (x:X)
  | r6 (x:X)
  | mX (z:List V)
  | ff (n:Nat) (x:X)
  | own (q:OQ) (xs:List X)
structure AO where
  dst:Option Nat
  op:ar
  guard:Option (Nat × Bool)
def ev (st:St):X→V
  | .s n=>st.t.getD n .any
  | .c v=>v
def cr (st:St):List X→List V
  | []=>[]
  | x::xs=>ev st x::cr st xs
def V.wd:V→Option Nat
  | .agg cs=>some cs.length
  | .any=>none
  | .aX _=>none
  | .raw u=>if u.oneCell' then some 1 else none
  | _=>some 1
def V.cells:V→List V
  | .agg cs=>cs
  | v=>[v]
def V.one:V→Bool
  | .bool _ | .int _ _ | .str _ | .mb | .ptr _ _ | .elt _ _ | .sl _ _ _ | .fn _ _ _=>true
  | .raw u=>u.oneCell'
  | _=>false
def bE:List V→Bool
  | []=>true
  | x::xs=>x.one&&bE xs
mutual
def V.cc:V→Bool
  | .ptr (.loc _) _=>false
  | .agg cs=>bm cs
  | .aX cs=>bm cs
  | .fn _ first cap=>bm first&&bm cap
  | _=>true
def bm:List V→Bool
  | []=>true
  | x::xs=>x.cc&&bm xs
end
mutual
def V.erase:V→V
  | .sl _ k l=>.sl .no k l
  | .agg cs=>.agg (a9 cs)
  | .aX cs=>.aX (a9 cs)
  | v=>v
def a9:List V→List V
  | []=>[]
  | x::xs=>x.erase::a9 xs
end
def takeN:Nat→List V→Option (List V)
  | 0,_=>some []
  | n+1,x::xs=>(takeN n xs).map (x::·)
  | _+1,[]=>none
def bf:Bool→Nat→List V→Option V
  | true,n,cs=>(takeN n cs).map V.agg
  | false,_,c::_=>some c
  | false,_,[]=>none
def over:List V→List V→List V
  | [],_=>[]
  | l,[]=>l
  | _::l,x::xs=>x::over l xs
def setAt:List V→Nat→List V→List V
  | l,0,xs=>over l xs
  | [],_+1,_=>[]
  | a::l,n+1,xs=>a::setAt l n xs
def bI:Nat→List V→Bool
  | 0,_=>true
  | n+1,_::xs=>bI n xs
  | _+1,[]=>false
def ae.set (σ:ae) (b:Nat) (cs:List V):ae:={σ with box:=fun x=>if x=b then some cs else σ.box x}
def ae.aL (σ:ae) (t n:Nat):ae:={σ with aC:=fun x=>if x=t then some n else σ.aC x}
def El (st:St):Pl→Option (List V)
  | .loc i=>st.loc[i]?
  | .out b=>st.out.box b
  | .jt b=>st.out.bR b
def jV (st:St) (agg:Bool) (n:Nat):V→Option V
  | .ptr p off=>(El st p).bind fun cs=>bf agg n (cs.drop off)
  | .elt cs off=>bf agg n (cs.drop off)
  | _=>none
def cJ (st:St) (n:Nat) (x:V):V→Option St
  | .ptr (.loc i) off=>(st.loc[i]?).bind fun cs=>if bI n (cs.drop off)=true∧x.wd=some n∧bE x.cells=true then some ⟨st.t,st.loc.set i (setAt cs off x.cells),st.out⟩ else none
  | .ptr (.out b) off=>(st.out.box b).bind fun cs=>if bI n (cs.drop off)=true∧x.wd=some n∧bE x.cells=true∧bm x.cells=true then some ⟨st.t,st.loc,st.out.set b (setAt cs off x.cells)⟩ else none
  | _=>none
def mw (st:St):List V→List (Nat × Nat × X)→Option (List V)
  | z,[]=>some z
  | z,(off,n,x)::ps=>if bI n (z.drop off)=true∧(ev st x).wd=some n then mw st (setAt z off (ev st x).cells) ps else none
def j4 (st:St) (k:Nat):List X→Option (List (List V))
  | []=>some []
  | x::xs=>if (ev st x).wd=some k∧bm (ev st x).cells=true∧bE (ev st x).cells=true then (j4 st k xs).map (a9 (ev st x).cells::·) else none
def xZ:IntKind→IntKind→Bool
  | .i8,.i8 | .i16,.i16 | .i32,.i32 | .i64,.i64 | .u8,.u8 | .u16,.u16 | .u32,.u32 | .u64,.u64=>true
  | _,_=>false
theorem FL {a b:IntKind} (h:xZ a b=true):a=b:=by cases a<;>cases b<;>first | rfl | (simp[xZ] at h)
def gV (k:IntKind) (a b:Int):BinOp→Option V
  | .add=>some (.int k (k.wrap (a+b)))
  | .sub=>some (.int k (k.wrap (a - b)))
  | .mul=>some (.int k (k.wrap (a*b)))
  | .eql=>some (.bool (decide (a=b)))
  | .neq=>some (.bool (!decide (a=b)))
  | .lss=>some (.bool (decide (a<b)))
  | .leq=>some (.bool (decide (a≤b)))
  | .gtr=>some (.bool (decide (b<a)))
  | .geq=>some (.bool (decide (b≤a)))
  | .quo=>if b=0 then none else some (.int k (k.wrap (a.tdiv b)))
  | .rem=>if b=0 then none else some (.int k (a.tmod b))
  | .and=>some (.int k (k.wrap ((BitVec.ofInt k.bits a&&&BitVec.ofInt k.bits b).toNat:Nat)))
  | .or=>some (.int k (k.wrap ((BitVec.ofInt k.bits a|||BitVec.ofInt k.bits b).toNat:Nat)))
  | .xor=>some (.int k (k.wrap ((BitVec.ofInt k.bits a ^^^ BitVec.ofInt k.bits b).toNat:Nat)))
  | .andNot=>some (.int k (k.wrap ((BitVec.ofInt k.bits a&&&~~~BitVec.ofInt k.bits b).toNat:Nat)))
  | .shl=>if b<0 then none else some (.int k (k.wrap (a*2^(Nat.min b.toNat k.bits))))
  | .shr=>if b<0 then none else some (.int k (a.fdiv (2^(Nat.min b.toNat k.bits))))
def x6:BinOp→Bool
  | .shl | .shr=>true
  | _=>false
def rV (op:BinOp):V→V→Option V
  | .int k a,.int k' b=>if xZ k k' = true∨x6 op=true then gV k a b op else none
  | _,_=>none
def uz (a b:List UInt8):BinOp→Option V
  | .eql=>some (.bool (decide (a=b)))
  | .neq=>some (.bool (!decide (a=b)))
  | .lss=>some (.bool (Op.bytesLess a b))
  | .leq=>some (.bool (Op.bytesLess a b||decide (a=b)))
  | .gtr=>some (.bool (!(Op.bytesLess a b||decide (a=b))))
  | .geq=>some (.bool (!Op.bytesLess a b))
  | _=>none
def wP (op:BinOp):V→V→Option V
  | .str a,.str b=>uz a b op
  | _,_=>none
def vb (neg:Bool):V→V→Option V
  | .bool a,.bool b=>some (.bool (if neg then !decide (a=b) else decide (a=b)))
  | _,_=>none
def eP:List Nat→List V→List V→Option Bool
  | [],[],[]=>some true
  | 1::ks,.int k a::xs,.int k' b::ys=>if xZ k k' = true then (eP ks xs ys).map (decide (a=b)&&·) else none
  | 2::ks,.str a::xs,.str b::ys=>(eP ks xs ys).map (decide (a=b)&&·)
  | 0::ks,.bool a::xs,.bool b::ys=>(eP ks xs ys).map (decide (a=b)&&·)
  | _,_,_=>none
def va (neg:Bool) (ks:List Nat):V→V→Option V
  | .agg xs,.agg ys=>(eP ks xs ys).map fun b=>.bool (if neg then !b else b)
  | _,_=>none
def isNil:V→Option Bool
  | .mb | .raw .nilFunc=>some true
  | .ptr _ _ | .elt _ _ | .fn _ _ _=>some false
  | _=>none
def K2 (K:V→St→Prop) (st:St):V→Prop:=fun v=>K v st
def opt (o:Option V) (K:V→Prop):Prop:=match o with | some v=>K v | none=>False
def Hx (l:List (List V)) (i:V) (K:List V→Prop):Prop:=∃k n x,i = .int k n∧0≤n∧l[n.toNat]?=some x∧K x
def nN (σ:ae) (k:Nat) (s x:V) (K:V→ae→Prop):Prop :=
  ∃t l m,s = .sl t k l∧(∃t',x = .sl t' k m)∧l.length+m.length≤aF ∧
    match t with
    | .full=>(∀τ,σ.aC τ=none→K (.sl (.tk τ) k (l++m)) (σ.aL τ (l.length+m.length)))∨K (.sl .no k (l++m)) σ∨∃τ,σ.aC τ=some l.length∧K (.sl (.tk τ) k (l++m)) (σ.aL τ (l.length+m.length))
    | .tk τ=>σ.aC τ=some l.length∧K (.sl (.tk τ) k (l++m)) (σ.aL τ (l.length+m.length))
    | .no=>False
def cm (s:List UInt8):List (List V):=s.map fun b=>[.int .u8 b.toNat]
def jM (b:Bool) (d:Nat) (vs:List V) (K:Nat→List V→Prop):Prop :=
  match b,vs with
  | false,vs=>K d vs
  | true,.int _ j::vs=>0≤j∧K j.toNat vs
  | true,_=>False
def wA (σ:ae) (k:Nat) (a:Option Addr) (n cap:Nat) (m:List (List V)) (K:V→ae→Prop):Prop :=
  n≤cap∧n+m.length≤aF∧bm m.flatten=true ∧
  (m=[]→K (.raw (.slice a n cap)) σ) ∧
  (m≠[]→n+m.length≤cap→∃b cs,a=some ⟨b,0,none⟩∧σ.box b=some cs∧n*k+m.length*k≤cs.length∧K (.raw (.slice a (n+m.length) cap)) (σ.set b (setAt cs (n*k) m.flatten))) ∧
  (cap<n+m.length→∃cs,(n=0∧cs=[]∨∃b,a=some ⟨b,0,none⟩∧σ.box b=some cs∧n*k≤cs.length) ∧
    ∀b' my,σ.box b' = none→n+m.length≤my → K (.raw (.slice (some ⟨b',0,none⟩) (n+m.length) my)) (σ.set b' (cs.take (n*k)++m.flatten++List.replicate ((my - (n+m.length))*k) .any)))
def vL (k:Nat):List V→Option (List (List V))
  | []=>some []
  | v::vs=>if v.wd=some k∧bm v.cells=true∧bE v.cells=true then (vL k vs).map (v.cells::·) else none
def w_:List UInt8→UInt8→Int
  | [],_=>-1
  | b::l,c=>if b == c then 0 else if w_ l c == -1 then -1 else w_ l c+1
def zf (cs:List V):List (List V):=cs.map fun x=>[x]
def ae.del (σ:ae) (b:Nat):ae:={σ with box:=fun x=>if x=b then none else σ.box x}
def C4 (σ:ae) (a:Option Addr) (n:Nat) (s:List UInt8):Prop:=s.length=n∧(n=0∨∃b o cs,a=some ⟨b,o,none⟩∧σ.box b=some cs∧(cs.drop o).take n=s.map fun c=>.int .u8 c.toNat)
def KD (k:Nat) (vs:List V) (H:List (List V)→Prop):Prop:=∃l,vL k vs=some l∧H l
def wz (σ:ae) (k:Nat) (a:Option Addr) (m:Nat) (xs:List V) (K:V→ae→Prop):Prop :=
  (m=0→K (.int .i64 0) σ)∧(m≠0→∃b o cs,a=some ⟨b,o,none⟩∧σ.box b=some cs∧o+m*k≤cs.length∧K (.int .i64 m) (σ.set b (setAt cs o xs)))
def Hu (σ:ae) (a:Option Addr) (n:Nat) (xs:List V):Prop :=
  n=0∧xs=[]∨∃b o cs,a=some ⟨b,o,none⟩∧σ.box b=some cs∧o+n≤cs.length∧xs=(cs.drop o).take n∧bE xs=true
def CT (o:Option V) (K:V→Prop):Prop:=match o with | some c=>K c | none=>False
def OQ.aM (σ:ae) (K:V→ae→Prop):OQ→List V→Prop
  | .nil,[]=>K (.raw (.slice none 0 0)) σ
  | .len,[.raw (.slice _ n _)]=>K (.int .i64 n) σ
  | .idx k,[.raw (.slice (some ⟨b,o,none⟩) n _),.int _ j]=>0≤j∧j<n∧K (.ptr (.out b) (o+j.toNat*k)) σ
  | .lg k lo hi mx,.raw (.slice a n cap)::vs=>jM lo 0 vs fun m vs=>jM hi n vs fun h vs=>jM mx cap vs fun M vs=>vs=[]∧m≤h∧h≤M∧M≤cap∧K (.raw (.slice (if M=m then a else a.map (·.add (m*k))) (h - m) (M - m))) σ
  | .app k,[.raw (.slice a n cap),.sl _ k' m]=>k' = k∧wA σ k a n cap m K
  | .mk z,[.int _ n]=>0≤n∧n≤aF∧bm z=true∧0<z.length∧∀b',σ.box b' = none→K (.raw (.slice (some ⟨b',0,none⟩) n.toNat n.toNat)) (σ.set b' (List.replicate n.toNat z).flatten)
  | .kx k,vs=>KD k vs fun l=>K (.sl .full k l) σ
  | .new k,vs=>KD k vs fun l=>bm l.flatten=true∧∀b',σ.box b' = none→K (.raw (.slice (some ⟨b',0,none⟩) l.length l.length)) (σ.set b' l.flatten)
  | .min,[.int k a,.int k' b]=>xZ k k' = true∧K (.int k (if b<a then b else a)) σ
  | .max,[.int k a,.int k' b]=>xZ k k' = true∧K (.int k (if a<b then b else a)) σ
  | .GZ m k lo hi,.ptr (.out b) o::vs=>jM lo 0 vs fun l vs=>jM hi m vs fun h vs=>vs=[]∧l≤h∧h≤m∧K (.raw (.slice (some (if m=l then ⟨b,o,none⟩ else ⟨b,o+l*k,none⟩)) (h - l) (m - l))) σ
  | .eZ k lo hi,.raw (.slice (some ⟨b,o,none⟩) n cap)::vs=>jM lo 0 vs fun l vs=>jM hi n vs fun h vs=>vs=[]∧l≤h∧h≤cap∧k=1 ∧
      ∃cs,σ.box b=some cs∧o+h≤cs.length∧bE (((cs.drop o).take h).drop l)=true∧bm (((cs.drop o).take h).drop l)=true∧K (.sl .no 1 (zf (((cs.drop o).take h).drop l))) (σ.del b)
  | .Im,[.str s,.int .u8 c]=>K (.int .i64 (s.count c.toNat.toUInt8:Nat)) σ
  | .Kr,[.str s,.int .u8 c]=>K (.int .i64 (w_ s c.toNat.toUInt8)) σ
  | .Bu,[.raw (.slice a n _)]=>∃s,C4 σ a n s∧K (.str s) σ
  | .kc,[.raw (.slice a n cap),.str s]=>wA σ 1 a n cap (cm s) K
  | .Bk,[.raw (.slice a n cap),.raw (.slice a' n' _)]=>∃s,C4 σ a' n' s∧wA σ 1 a n cap (cm s) K
  | .FK m,[.agg cs,.int _ j]=>0≤j∧j<m∧CT cs[j.toNat]? fun c=>c.cc=true∧K c σ
  | .u5 k,[.raw (.slice a n _),.raw (.slice a' n' _)]=>∃xs,Hu σ a' (Nat.min n' n*k) xs∧wz σ k a (Nat.min n' n) xs K
  | .u5 k,[.raw (.slice a n _),.sl _ k' m]=>k' = k∧m.length≤n∧wz σ k a m.length m.flatten K
  | _,_=>False
def OQ.pure:OQ→Bool
  | .nil | .len | .idx _ | .lg .. | .kx _ | .min | .max | .GZ .. | .Im | .Kr | .FK _=>true
  | .app _ | .mk _ | .new _ | .eZ .. | .Bu | .kc | .Bk | .u5 _ | .bad=>false
def ar.aM (P:Program) (st:St) (K:V→St→Prop):ar→Prop
  | .mv x=>K (ev st x) st
  | .pick c a b=>match ev st c with | .bool true=>K (ev st a) st | .bool false=>K (ev st b) st | _=>False
  | .alloc z=>K (.ptr (.loc st.loc.length) 0) ⟨st.t,st.loc++[z],st.out⟩
  | .box n x=>(ev st x).wd=some n∧K (.ptr (.loc st.loc.length) 0) ⟨st.t,st.loc++[(ev st x).cells],st.out⟩
  | .kf n x=>(ev st x).wd=some n∧bE (ev st x).cells=true∧K (.ptr (.loc st.loc.length) 0) ⟨st.t,st.loc++[(ev st x).cells],st.out⟩
  | .build z ps=>opt ((mw st z ps).map V.agg) (K2 K st)
  | .cR k xs=>opt ((j4 st k xs).map (V.sl .full k)) (K2 K st)
  | .load agg n x=>opt (jV st agg n (ev st x)) (K2 K st)
  | .store n a x=>match cJ st n (ev st x) (ev st a) with | some aq => K .any aq | none=>False
  | .sI x=>match ev st x with | .ptr p o=>K (.ptr p o) st | .elt c o=>K (.elt c o) st | .fn (.func f) a b=>K (.fn (.func f) a b) st | _=>False
  | .dA op x y=>opt (rV op (ev st x) (ev st y)) (K2 K st)
  | .iG op x y=>opt (wP op (ev st x) (ev st y)) (K2 K st)
  | .tq neg x y=>opt (vb neg (ev st x) (ev st y)) (K2 K st)
  | .cat x y=>∃a b,ev st x = .str a∧ev st y = .str b∧a.length+b.length≤aF∧K (.str (a++b)) st
  | .kS neg ks x y=>opt (va neg ks (ev st x) (ev st y)) (K2 K st)
  | .zo neg x y=>match isNil (ev st x),isNil (ev st y) with | some a,some b=>(a=true∨b=true)∧K (.bool (if neg then !(a&&b) else a&&b)) st | _,_=>False
  | .not x=>match ev st x with | .bool b=>K (.bool (!b)) st | _=>False
  | .sC x=>match ev st x with | .sl _ _ l=>K (.int .i64 l.length) st | .raw (.slice _ n _)=>K (.int .i64 n) st | _=>False
  | .sD x=>match ev st x with | .str s=>K (.int .i64 s.length) st | _=>False
  | .mB off x=>match ev st x with | .ptr p o=>K (.ptr p (o+off)) st | .elt c o=>K (.elt c (o+off)) st | _=>False
  | .pP agg off n x=>match ev st x with | .agg cs=>opt (bf agg n (cs.drop off)) (K2 K st) | _=>False
  | .kv k x i => match ev st x with
    | .sl _ k' l=>k' = k∧Hx l (ev st i) fun c=>K (.elt c 0) st
    | .raw (.slice (some ⟨b,o,none⟩) n _)=>∃ik j,ev st i = .int ik j∧0≤j∧j<n∧K (.ptr (.out b) (o+j.toNat*k)) st
    | _=>False
  | .fk m k x i => match ev st x with
    | .ptr p o=>∃kk n,ev st i = .int kk n∧0≤n∧n<(m:Nat)∧K (.ptr p (o+n.toNat*k)) st
    | .elt c o=>∃kk n,ev st i = .int kk n∧0≤n∧n<(m:Nat)∧K (.elt c (o+n.toNat*k)) st
    | _=>False
  | .qP x i=>match ev st x with | .str s=>∃k n c,ev st i = .int k n∧0≤n∧s[n.toNat]?=some c∧K (.int .u8 c.toNat) st | _=>False
  | .call f xs=>bm (cr st xs)=true∧al P f (cr st xs) st.out fun v σ=>K v ⟨st.t,st.loc,σ⟩
  | .gC x xs=>match ev st x with | .fn (.func f) a b=>bm (a++cr st xs++b)=true∧al P f (a++cr st xs++b) st.out fun v σ=>K v ⟨st.t,st.loc,σ⟩ | _=>False
  | .app k s x=>nN st.out k (ev st s) (ev st x) fun v σ=>K v ⟨st.t,st.loc,σ⟩
  | .kc s x=>∃a,ev st x = .str a∧nN st.out 1 (ev st s) (.sl .no 1 (cm a)) fun v σ=>K v ⟨st.t,st.loc,σ⟩
  | .lg k x lo hi mx=>(∃t l a b,ev st x = .sl t k l∧a≤b∧b≤l.length∧(match lo with | none=>a=0 | some y=>∃j,ev st y = .int j a) ∧
      (match hi with | none=>b=l.length | some y=>∃j,ev st y = .int j b) ∧
      match mx with
      | none=>K (.sl .no k ((l.take b).drop a)) st
      | some y=>(∃j,ev st y = .int j b)∧K (.sl .full k ((l.take b).drop a)) st) ∨
      ∃a n cap m h,ev st x = .raw (.slice a n cap)∧m≤h∧h≤cap∧(match lo with | none=>m=0 | some y=>∃j,ev st y = .int j m)∧(match hi with | none=>h=n | some y=>∃j,ev st y = .int j h)∧mx.isNone=true ∧
        K (.raw (.slice (if cap=m then a else a.map (·.add (m*k))) (h - m) (cap - m))) st
  | .sR x lo hi=>∃s a b,ev st x = .str s∧a≤b∧b≤s.length∧(match lo with | none=>a=0 | some y=>∃j,ev st y = .int j a) ∧
      (match hi with | none=>b=s.length | some y=>∃j,ev st y = .int j b)∧K (.str ((s.take b).drop a)) st
  | .ext x i=>match ev st x with | .aX vs=>opt vs[i]? (K2 K st) | _=>False
  | .ix f first cap=>K (.fn f (cr st first) (cr st cap)) st
  | .nZ k x=>match ev st x with | .int _ n=>K (.int k (k.wrap n)) st | _=>False
  | .r6 x=>∃t s,ev st x = .sl t 1 (cm s)∧K (.str s) st
  | .mX z=>bm z=true∧∀b,st.out.box b=none→K (.ptr (.out b) 0) ⟨st.t,st.loc,st.out.set b z⟩
  | .ff n x=>(ev st x).wd=some n∧bm (ev st x).cells=true∧∀b,st.out.box b=none→K (.ptr (.out b) 0) ⟨st.t,st.loc,st.out.set b (ev st x).cells⟩
  | .own q xs=>q.aM st.out (fun v σ=>K v ⟨st.t,st.loc,σ⟩) (cr st xs)
def bA (P:Program):List AO→(St→Prop)→St→Prop
  | [],K,st=>K st
  | o :: r, K, st =>
    match o.guard with
    | none=>o.op.aM P st fun v aq => bA P r K (aq.put o.dst v)
    | some (g, want) =>
      match ev st (.s g) with
      | .bool b=>if b=want then o.op.aM P st (fun v aq => bA P r K (aq.put o.dst v)) else bA P r K (st.put o.dst (.aX []))
      | .aX []=>bA P r K (st.put o.dst (.aX []))
      | _=>False
mutual
theorem R.erase:∀(x:V) {E:Env} {v:Value},R E x v→R E x.erase v
  | .sl t k l, E, v, h => by
    simp only[V.erase,R] at h ⊢;obtain⟨a,cap,h1,U,h3,_⟩:=h;exact⟨a,cap,h1,U,h3,trivial⟩
  | .agg cs, E, v, h => by
    simp only[V.erase,R] at h ⊢;obtain⟨vs,h1,U⟩:=h;exact⟨vs,h1,RL.erase cs U⟩
  | .aX cs, E, v, h => by
    simp only[V.erase,R] at h ⊢;obtain⟨vs,h1,U⟩:=h;exact⟨vs,h1,RL.erase cs U⟩
  | .any,_,_,h=>by simpa [V.erase] using h
  | .bool _,_,_,h=>by simpa [V.erase] using h
  | .int _ _,_,_,h=>by simpa [V.erase] using h
  | .str _,_,_,h=>by simpa [V.erase] using h
  | .mb,_,_,h=>by simpa [V.erase] using h
  | .ptr _ _,_,_,h=>by simpa [V.erase] using h
  | .elt _ _,_,_,h=>by simpa [V.erase] using h
  | .fn _ _ _,_,_,h=>by simpa [V.erase] using h
  | .raw _,_,_,h=>by simpa [V.erase] using h
theorem RL.erase:∀(l:List V) {E:Env} {vs:List Value},RL E l vs→RL E (a9 l) vs
  | [],_,[],_=>by simp only[a9,RL]
  | [],_,_::_,h=>by simp only[RL] at h
  | _::_,_,[],h=>by simp only[RL] at h
  | x :: xs, _, v :: vs, h => by
    simp only[a9,RL] at h ⊢;exact⟨R.erase x h.1,RL.erase xs h.2⟩
end
theorem Sz:∀l:List V,(a9 l).length=l.length
  | []=>rfl
  | x::xs=>by simp[a9,Sz xs]
theorem wQ {b:Bool} {d:Nat} {vs:List V} {K K' : Nat→List V→Prop} (h:jM b d vs K) (hk:∀n vs,K n vs→K' n vs):jM b d vs K' := by
  unfold jM at h ⊢;split at h
  · exact hk _ _ h
  · exact⟨h.1,hk _ _ h.2⟩
  · exact h.elim
theorem wA.mono {σ:ae} {k:Nat} {a:Option Addr} {n cap:Nat} {m:List (List V)} {K K' : V→ae→Prop} (hk:∀v σ',K v σ' → K' v σ') (h:wA σ k a n cap m K):wA σ k a n cap m K' := by
  obtain⟨h1,U,h3,h4,h5,h6⟩:=h;refine⟨h1,U,h3,fun e=>hk _ _ (h4 e),fun e e' => ?_,fun e=>?_⟩
  · obtain⟨b,cs,g1,g2,g3,g4⟩:=h5 e e';exact⟨b,cs,g1,g2,g3,hk _ _ g4⟩
  · obtain⟨cs,g1,g2⟩:=h6 e;exact⟨cs,g1,fun b' my p1 p2=>hk _ _ (g2 b' my p1 p2)⟩
theorem wz.mono {σ:ae} {k:Nat} {a:Option Addr} {m:Nat} {xs:List V} {K K' : V→ae→Prop} (hk:∀v σ',K v σ' → K' v σ') (h:wz σ k a m xs K):wz σ k a m xs K' :=
  ⟨fun e=>hk _ _ (h.1 e),fun e=>let ⟨b,o,cs,h1,U,h3,h4⟩:=h.2 e;⟨b,o,cs,h1,U,h3,hk _ _ h4⟩⟩
theorem OQ.mono {σ:ae} {K K' : V→ae→Prop} (hk:∀v σ',K v σ' → K' v σ') (q:OQ) (vs:List V) (h:q.aM σ K vs):q.aM σ K' vs:=by
  unfold OQ.aM at h ⊢;split at h
  · exact hk _ _ h
  · exact hk _ _ h
  · exact⟨h.1,h.2.1,hk _ _ h.2.2⟩
  · exact wQ h fun _ _ h=>wQ h fun _ _ h=>wQ h fun _ _ h=>⟨h.1,h.2.1,h.2.2.1,h.2.2.2.1,hk _ _ h.2.2.2.2⟩
  · obtain⟨h0,h1,U,h3,h4,h5,h6⟩:=h;refine⟨h0,h1,U,h3,fun e=>hk _ _ (h4 e),fun e e' => ?_,fun e=>?_⟩
    · obtain⟨b,cs,g1,g2,g3,g4⟩:=h5 e e';exact⟨b,cs,g1,g2,g3,hk _ _ g4⟩
    · obtain⟨cs,g1,g2⟩:=h6 e;exact⟨cs,g1,fun b' my p1 p2=>hk _ _ (g2 b' my p1 p2)⟩
  · exact⟨h.1,h.2.1,h.2.2.1,h.2.2.2.1,fun b' hb=>hk _ _ (h.2.2.2.2 b' hb)⟩
  · obtain⟨l,h1,U⟩:=h;exact⟨l,h1,hk _ _ U⟩
  · obtain⟨l,h1,U,h3⟩:=h;exact⟨l,h1,U,fun b' hb=>hk _ _ (h3 b' hb)⟩
  · exact⟨h.1,hk _ _ h.2⟩
  · exact⟨h.1,hk _ _ h.2⟩
  · exact wQ h fun _ _ h=>wQ h fun _ _ h=>⟨h.1,h.2.1,h.2.2.1,hk _ _ h.2.2.2⟩
  · exact wQ h fun _ _ h=>wQ h fun _ _ h=>by
      obtain⟨g1,g2,g3,g4,cs,g5,g6,g7,g8,g9⟩:=h;exact⟨g1,g2,g3,g4,cs,g5,g6,g7,g8,hk _ _ g9⟩
  · exact hk _ _ h
  · exact hk _ _ h
  · obtain⟨s,h1,U⟩:=h;exact⟨s,h1,hk _ _ U⟩
  · exact h.mono hk
  · obtain⟨s,h1,U⟩:=h;exact⟨s,h1,U.mono hk⟩
  · obtain⟨h1,U,h3⟩:=h;refine⟨h1,U,?_⟩;unfold CT at h3 ⊢;split at h3
    · exact⟨h3.1,hk _ _ h3.2⟩
    · exact h3.elim
  · obtain⟨s,h1,U⟩:=h;exact⟨s,h1,U.mono hk⟩
  · exact⟨h.1,h.2.1,h.2.2.mono hk⟩
  · exact h.elim
theorem Bp {b:Bool} {d:Nat} {vs:List V} {K:Nat→List V→Prop} (h:jM b d vs K):∃n yM,K n yM ∧ ∀K' : Nat→List V→Prop,K' n yM → jM b d vs K' := by
  unfold jM at h;split at h
  · exact⟨_,_,h,fun _ h=>by unfold jM;exact h⟩
  · exact⟨_,_,h.2,fun _ h' => by unfold jM;exact⟨h.1,h'⟩⟩
  · exact h.elim
theorem OQ.Sd {σ:ae} {K:V→ae→Prop} {q:OQ} (hp:q.pure=true) {vs:List V} (h:q.aM σ K vs):∃v,K v σ∧∀(ji:ae) (K' : V→ae→Prop),K' v ji→q.aM ji K' vs:=by
  unfold OQ.aM at h;split at h
  · exact⟨_,h,fun _ _ h=>by unfold OQ.aM;exact h⟩
  · exact⟨_,h,fun _ _ h=>by unfold OQ.aM;exact h⟩
  · exact⟨_,h.2.2,fun _ _ h' => by unfold OQ.aM;exact⟨h.1,h.2.1,h'⟩⟩
  · obtain⟨m,v1,h1,g1⟩:=Bp h;obtain⟨hh,v2,U,g2⟩:=Bp h1;obtain⟨M,v3,h3,g3⟩:=Bp U;obtain⟨e1,e2,e3,e4,h4⟩:=h3;exact⟨_,h4,fun _ _ h' => by unfold OQ.aM;exact g1 _ (g2 _ (g3 _ ⟨e1,e2,e3,e4,h'⟩))⟩
  · simp[OQ.pure] at hp
  · simp[OQ.pure] at hp
  · obtain⟨l,h1,U⟩:=h;exact⟨_,U,fun _ _ h' => by unfold OQ.aM;exact⟨l,h1,h'⟩⟩
  · simp[OQ.pure] at hp
  · exact⟨_,h.2,fun _ _ h' => by unfold OQ.aM;exact⟨h.1,h'⟩⟩
  · exact⟨_,h.2,fun _ _ h' => by unfold OQ.aM;exact⟨h.1,h'⟩⟩
  · obtain⟨m,v1,h1,g1⟩:=Bp h;obtain⟨hh,v2,U,g2⟩:=Bp h1;obtain⟨e1,e2,e3,h4⟩:=U;exact⟨_,h4,fun _ _ h' => by unfold OQ.aM;exact g1 _ (g2 _ ⟨e1,e2,e3,h'⟩)⟩
  · simp[OQ.pure] at hp
  · exact⟨_,h,fun _ _ h=>by unfold OQ.aM;exact h⟩
  · exact⟨_,h,fun _ _ h=>by unfold OQ.aM;exact h⟩
  · simp[OQ.pure] at hp
  · simp[OQ.pure] at hp
  · simp[OQ.pure] at hp
  · obtain⟨h1,U,h3⟩:=h;unfold CT at h3;split at h3
    · rename_i c hc;exact⟨c,h3.2,fun _ _ h' => by unfold OQ.aM;refine⟨h1,U,?_⟩;unfold CT;rw[hc];exact⟨h3.1,h'⟩⟩
    · exact h3.elim
  · simp[OQ.pure] at hp
  · simp[OQ.pure] at hp
  · exact h.elim
theorem HV {E:Env}:R E (.aX []) undef:=by simp only[R];exact⟨#[],rfl,by simp[RL]⟩
theorem NV {E:Env} {v:Value} (h:R E (.aX []) v):v=undef:=by
  simp only[R] at h;obtain⟨vs,rfl,h⟩:=h;cases hv:vs.toList with
  | nil => have : vs = #[] := by cases vs; simpa using hv
           subst this;rfl
  | cons x xs=>rw[hv] at h;simp[RL] at h
def cv:V→Value→Bool
  | .bool b,.bool c=>b == c
  | .int k n,.int j m=>decide (k=j)&&decide (n=m)
  | .str s,.string t=>decide (s=t.data.toList)
  | .mb,.pointer none=>true
  | .sl .full _ [],.slice none 0 0=>true
  | .raw .nilFunc,.nilFunc=>true
  | .raw .nilIface,.nilIface=>true
  | .raw (.map none),.map none=>true
  | _,_=>false
def u6:List V→List Value→Bool
  | [],[]=>true
  | x::xs,v::vs=>cv x v&&u6 xs vs
  | _,_=>false
def Ig (f:Nat→Option (List V)):List Nat→Option (List V)
  | []=>some []
  | t::ts=>(f t).bind fun a=>(Ig f ts).map (a++·)
def zeroV (P:Program):Nat→TypeId→Option (List V)
  | 0,_=>none
  | n + 1, t =>
    match P.underlying t with
    | some .bool=>some [.bool false]
    | some (.int k)=>some [.int k 0]
    | some .string=>some [.str []]
    | some (.pointer _)=>some [.mb]
    | some (.slice e)=>some [.sl .full (P.cellsOf e) []]
    | some (.func _ _ _)=>some [.raw .nilFunc]
    | some (.interface _)=>some [.raw .nilIface]
    | some (.map _ _)=>some [.raw (.map none)]
    | some (.struct fs)=>Ig (zeroV P n) (fs.toList.map (·.type))
    | some (.array k e)=>Ig (zeroV P n) (List.replicate k e)
    | _=>none
def iO (P:Program) (t:TypeId):Option (List V) :=
  match P.info? t,zeroV P 30 t with
  | some i, some zs =>
    match i.zero with
    | some z=>if u6 zs z.cells.toList=true∧zs.length=i.size then some zs else none
    | none=>none
  | _,_=>none
def Is (P:Program) (t:TypeId):Value→Option V
  | .slice none 0 0 =>
    match P.underlying t with
    | some (.slice e)=>some (.sl .full (P.cellsOf e) [])
    | _=>none
  | .agg vs =>
    match iO P t with
    | some zs=>if u6 zs vs.toList=true then some (.agg zs) else none
    | none=>none
  | .bool b=>some (.bool b)
  | .int k n=>some (.int k n)
  | .string s=>some (.str s.data.toList)
  | .pointer none=>some .mb
  | .nilFunc=>some (.raw .nilFunc)
  | .nilIface=>some (.raw .nilIface)
  | _=>none
def bX (P:Program) (t:TypeId):Operand→Option X
  | .tmp n=>some (.s n)
  | .const v=>(Is P t v).map .c
  | .func f=>some (.c (.fn (.func f) [] []))
  | .global g=>some (.c (.ptr (.jt g) 0))
def hH (P:Program):List TypeId→List Operand→Option (List X)
  | [],[]=>some []
  | t::ts,x::xs=>(bX P t x).bind fun y=>(hH P ts xs).map (y::·)
  | _,_=>none
def jB (P:Program) (t:TypeId):Option Operand→Option (Option X)
  | none=>some none
  | some x=>(bX P t x).map some
def fV (P:Program) (t:TypeId):Option Bool :=
  match P.underlying t with
  | some (.struct _) | some (.array _ _)=>some true
  | some _=>some false
  | none=>none
def dd (P:Program) (t:TypeId):Option Nat:=(P.info? t).map (·.size)
def yh (P:Program) (place:Nat→Option (Nat × TypeId)):List (Nat × Operand)→Option (List (Nat × Nat × X))
  | []=>some []
  | (i, x) :: ps =>
    match place i with
    | some (off, t) =>
      match dd P t,bX P t x with
      | some n,some y=>if n=0 then none else (yh P place ps).map ((off,n,y)::·)
      | _,_=>none
    | none=>none
def GC (f:TypeId→Nat→Option (List (Nat × Nat))) (size:TypeId→Nat) (all:Nat):List Field→Nat→Option (List (Nat × Nat))
  | [],_=>some []
  | x::xs,off=>if x.name = "_" ∨ all<x.offset+size x.type then none else (f x.type (off+x.offset)).bind fun a=>(GC f size all xs off).map (a++·)
def GD (f:Nat→Option (List (Nat × Nat))) (size all:Nat):List Nat→Nat→Option (List (Nat × Nat))
  | [],_=>some []
  | i::is,off=>if all<i*size+size then none else (f (off+i*size)).bind fun a=>(GD f size all is off).map (a++·)
def uo (P:Program):Nat→TypeId→Nat→Option (List (Nat × Nat))
  | 0,_,_=>none
  | n + 1, t, off =>
    match P.info? t,P.underlying t with
    | some _,some .bool=>if P.cellsOf t=1 then some [(off,0)] else none
    | some _,some (.int _)=>if P.cellsOf t=1 then some [(off,1)] else none
    | some _,some .string=>if P.cellsOf t=1 then some [(off,2)] else none
    | some _,some (.struct fs)=>if P.stoodInHeld t=true then none else GC (uo P n) P.cellsOf (P.cellsOf t) fs.toList off
    | some _,some (.array k e)=>match P.info? e with | some _=>GD (uo P n e) (P.cellsOf e) (P.cellsOf t) (List.range k) off | none=>none
    | _,_=>none
def LH (P:Program) (t:TypeId):Option (List Nat) :=
  match uo P 20 t 0 with
  | some pl=>if pl.map (·.1)=List.range (P.cellsOf t)∧P.eqGuardType P.depth t=false then some (pl.map (·.2)) else none
  | none=>none
def vQ (P:Program) (o:Oper):Option ar :=
  match o.op with
  | .move x | .assign x=>(bX P o.type x).map .mv
  | .pick c a b =>
    match bX P o.type c,bX P o.type a,bX P o.type b with
    | some c,some a,some b=>some (.pick c a b)
    | _,_,_=>none
  | .alloc t=>(iO P t).map .alloc
  | .box t x =>
    match dd P t,bX P t x with
    | some n,some y=>some (.box n y)
    | _,_=>none
  | .build t ps =>
    match iO P t,P.underlying t with
    | some z,some (.struct fs)=>if fs.toList.all (fun f=>(P.info? f.type).isSome)=true then (yh P (fun i=>(fs[i]?).map fun f=>(f.offset,f.type)) ps.toList).map (.build z) else none
    | some z,some (.array _ e)=>if (P.info? e).isSome=true then (yh P (fun i=>some (i*P.cellsOf e,e)) ps.toList).map (.build z) else none
    | _,_=>none
  | .buildSlice t len ps =>
    match P.underlying t with
    | some (.slice e) =>
      match dd P e,iO P e,hH P (List.replicate len e) (ps.toList.map (·.2)) with
      | some k,some _,some xs=>if ps.toList.map (·.1)=List.range len∧len*k≤16777216∧0<k then some (.cR k xs) else none
      | _,_,_=>none
    | _=>none
  | .load t x =>
    match fV P t,dd P t,bX P t x with
    | some g,some n,some y=>some (.load g n y)
    | _,_,_=>none
  | .store t x y =>
    match dd P t,bX P t x,bX P t y with
    | some n,some x,some y=>if n=0 then none else some (.store n x y)
    | _,_,_=>none
  | .nilCheck x=>(bX P o.type x).map .sI
  | .binOp op t x y _ =>
    match bX P t x,bX P t y with
    | some x, some y =>
      match P.underlying t with
      | some (.int _)=>some (.dA op x y)
      | some .string=>match op with | .add=>some (.cat x y) | _=>some (.iG op x y)
      | some .bool=>match op with | .eql=>some (.tq false x y) | .neq=>some (.tq true x y) | _=>none
      | some (.struct _) | some (.array _ _) =>
        match LH P t with
        | some ks=>match op with | .eql=>some (.kS false ks x y) | .neq=>some (.kS true ks x y) | _=>none
        | none=>none
      | _=>none
    | _,_=>none
  | .unOp .not _ x=>(bX P o.type x).map .not
  | .convert src dst x =>
    match P.underlying src,P.underlying dst,bX P src x with
    | some (.int _),some (.int k),some y=>some (.nZ k y)
    | some (.slice e),some .string,some y=>match P.underlying e with | some (.int .u8)=>some (.r6 y) | _=>none
    | _,_,_=>none
  | .makeFunc f first cap =>
    match hH P (List.replicate first.size 0) first.toList,hH P (List.replicate cap.size 0) cap.toList with
    | some a,some b=>some (.ix f a b)
    | _,_=>none
  | .slice t x lo hi mx =>
    match bX P t x,jB P t lo,jB P t hi,jB P t mx with
    | some x, some lo, some hi, some mx =>
      match P.underlying t with
      | some (.slice e)=>match dd P e with | some k=>if mx.isSome=true→hi.isSome=true then some (.lg k x lo hi mx) else none | none=>none
      | some .string=>match mx with | none=>some (.sR x lo hi) | some _=>none
      | _=>none
    | _,_,_,_=>none
  | .fieldAddr s x i =>
    match P.underlying s,bX P s x with
    | some (.struct fs), some y =>
      match fs[i]? with
      | some f=>match dd P f.type with | some n=>if n=0 then none else some (.mB f.offset y) | none=>none
      | none=>none
    | _,_=>none
  | .field s x i =>
    match P.underlying s,bX P s x with
    | some (.struct fs), some y =>
      match fs[i]? with
      | some f=>match fV P f.type,dd P f.type with | some g,some n=>some (.pP g f.offset n y) | _,_=>none
      | none=>none
    | _,_=>none
  | .indexAddr t x i =>
    match P.underlying t,bX P t x,bX P t i with
    | some (.slice e),some x,some i=>(dd P e).map fun k=>.kv k x i
    | some (.array m e),some x,some i=>(dd P e).map fun k=>.fk m k x i
    | _,_,_=>none
  | .index t x i =>
    match P.underlying t,bX P t x,bX P t i with
    | some .string,some x,some i=>some (.qP x i)
    | _,_,_=>none
  | .extract x i=>(bX P o.type x).map fun y=>.ext y i
  | .call c =>
    match c.callee with
    | .value (.func f)=>(hH P c.argTypes.toList c.args.toList).map (.call f)
    | .value x =>
      match bX P 0 x,hH P c.argTypes.toList c.args.toList with
      | some y,some xs=>some (.gC y xs)
      | _,_=>none
    | .builtin .len =>
      match c.argTypes.toList,c.args.toList with
      | [t], [x] =>
        match P.underlying t,bX P t x with
        | some (.slice _),some y=>some (.sC y)
        | some .string,some y=>some (.sD y)
        | _,_=>none
      | _,_=>none
    | .builtin .append =>
      match c.argTypes.toList,c.args.toList with
      | [t, u], [s, x] =>
        match P.underlying t,P.underlying u,bX P t s,bX P u x with
        | some (.slice e), some (.slice e'), some s, some x =>
          match P.info? e,iO P e with
          | some i,some _=>if e=e' ∧ i.bytes≤4096∧0<i.size then some (.app i.size s x) else none
          | _,_=>none
        | some (.slice e), some .string, some s, some x =>
          match P.info? e,iO P e with
          | some i,some _=>match P.underlying e with | some (.int .u8)=>if i.size=1∧i.bytes=1 then some (.kc s x) else none | _=>none
          | _,_=>none
        | _,_,_,_=>none
      | _,_=>none
    | _=>none
  | _=>none
theorem acL {E:Env}:∀{x:V} {v:Value},cv x v=true→R E x v:=by
  intro x v h;unfold cv at h;split at h<;>simp_all [R,rR]
theorem oS {E:Env}:∀{xs:List V} {vs:List Value},u6 xs vs=true→RL E xs vs
  | [],[],_=>by simp[RL]
  | [],_::_,h=>by simp[u6] at h
  | _::_,[],h=>by simp[u6] at h
  | x :: xs, v :: vs, h => by
    simp only[u6,a_] at h;simp only[RL];exact⟨acL h.1,oS h.2⟩
theorem qw {P:Program} {t:TypeId} {zs:List V} (h:iO P t=some zs) :
    ∃i z,P.info? t=some i∧i.zero=some z∧u6 zs z.cells.toList=true∧zs.length=i.size:=by
  unfold iO at h;split at h
  · rename_i i ys h1 U;split at h
    · rename_i z hz;split at h
      · rename_i hc;simp only[aH] at h;subst h;exact⟨i,z,h1,hz,hc.1,hc.2⟩
      · simp at h
    · simp at h
  · simp at h
theorem acf {P:Program} {E:Env} {t:TypeId} {v:Value} {x:V} (h:Is P t v=some x):R E x v:=by
  unfold Is at h;split at h
  · split at h
    · simp only[aH] at h;subst h;simp[R,rR]
    · simp at h
  · rename_i vs;split at h
    · rename_i zs hz;split at h
      · rename_i hc;simp only[aH] at h;subst h;simp only[R];exact⟨vs,rfl,oS hc⟩
      · simp at h
    · simp at h
  all_goals first | (simp only[aH] at h;subst h;simp[R];done) | (simp at h)
theorem zp {E:Env} {st:St} {a:Act} (h:RL E st.t a.tmps.toList) (n:Nat):R E (ev st (.s n)) (a.eval (.tmp n)):=by
  have:=D1 h n undef
  simpa [ev,Act.eval,nO,List.getD] using this
theorem lD {P:Program} {E:Env} {st:St} {a:Act} {t:TypeId} {x:Operand} {y:X} (h:RL E st.t a.tmps.toList) (hx:bX P t x=some y) :
    R E (ev st y) (a.eval x):=by
  cases x with
  | tmp n=>simp only[bX,aH] at hx;subst hx;exact zp h n
  | const v =>
    simp only[bX,cx] at hx;obtain⟨u,hu,rfl⟩:=hx;exact acf hu
  | func f=>simp only[bX,aH] at hx;subst hx;simp only[ev,R,Act.eval];exact⟨#[],#[],rfl,by simp[RL],by simp[RL]⟩
  | global g=>simp only[bX,aH] at hx;subst hx;simp only[ev,R,Act.eval]
theorem K5 {P:Program} {E:Env} {st:St} {a:Act} (h:RL E st.t a.tmps.toList):∀{ts:List TypeId} {xs:List Operand} {ys:List X},hH P ts xs=some ys →
    RL E (cr st ys) (xs.map a.eval)
  | [],[],ys,hx=>by simp only[hH,aH] at hx;subst hx;simp[cr,RL]
  | [],_::_,_,hx=>by simp[hH] at hx
  | _::_,[],_,hx=>by simp[hH] at hx
  | t :: ts, x :: xs, ys, hx => by
    simp only[hH,gl,cx] at hx;obtain⟨y,h1,zs,U,rfl⟩:=hx;simp only[cr,bC,RL];exact⟨lD h h1,K5 h U⟩
def cZ (E:Env) (a:Act) (d:Option Tmp) (K:V→St→Prop):Act→World→Prop :=
  fun a' w' => ∃E' v x aq,E'.w=w' ∧ Fr E E' ∧ bc E' aq a∧R E' v x∧a' = a.put d x∧K v aq
section
variable {P:Program} {E:Env} {st:St} {a:Act} {o:Oper} {K:V→St→Prop} {Q:Exit→Act→World→Prop}
theorem cq (hs:bc E st a) {v:V} {x:Value} (hr:(execOp a.eval o).run P E.w = .ok (.value x) E.w) (hv:R E v x) (hk:K v st):o.wp P a E.w (cZ E a o.dst K) Q:=by
  unfold Oper.wp;rw[hr];exact⟨E,v,x,st,rfl,Fr.refl E,hs,hv,rfl,hk⟩
def Rd (E:Env) (cs:List V) (b o:Nat):Prop:=∀(j:Nat) x,cs[j]?=some x→∃v,E.w.cell? ⟨b,o+j,none⟩=some v∧R E x v
theorem Env.Le (E:Env):E.nl.le E:=⟨fun _ _ _ h h' => ⟨h,h'⟩,fun _ _ h=>by simp at h,(Env.le.refl E).tok⟩
theorem Rd.mono {E E' : Env} (h:E.le E') (hw:E'.w=E.w) {cs:List V} {b o:Nat} (hr:Rd E cs b o):Rd E' cs b o:=fun j x hx=>by
  obtain⟨v,h1,U⟩:=hr j x hx;exact⟨v,by rw[hw];exact h1,U.mono _ h⟩
theorem Rd.V9 {E:Env} {cs:List V} {b:Nat} (h:ig E b cs):Rd E cs b 0:=by
  obtain⟨c,e,h1,U,h3⟩:=h;intro j x hx;obtain⟨v,hv,hr⟩:=h3 j x hx;exact⟨v,by simp[World.cell?,h1,hv],hr⟩
theorem Rd.Lj {E:Env}:∀{cs:List V} {b o:Nat},c7 E cs b o→Rd E cs b o
  | [],_,_,_=>fun j x hx=>by simp at hx
  | y :: ys, b, o, h => fun j x hx => by
    simp only[c7] at h;obtain⟨⟨c,h1,_,_,h3⟩,h4⟩:=h;cases j with
    | zero=>simp at hx;subst hx;exact⟨c,h1,h3⟩
    | succ j =>
      simp at hx;obtain⟨v,hv,hr⟩:=Rd.Lj h4 j x hx;exact⟨v,by rw[show o+(j+1)=o+1+j from by omega];exact hv,hr⟩
theorem Rd.drop {E:Env} {cs:List V} {b o:Nat} (h:Rd E cs b o) (n:Nat):Rd E (cs.drop n) b (o+n):=fun j x hx=>by
  rw[rH] at hx;obtain⟨v,hv,hr⟩:=h _ x hx;exact⟨v,by rw[show o+n+j=o+(n+j) from by omega];exact hv,hr⟩
theorem MB:∀{n:Nat} {cs xs:List V},takeN n cs=some xs→xs=cs.take n∧n≤cs.length
  | 0,cs,xs,h=>by simp[takeN] at h;subst h;simp
  | n+1,[],xs,h=>by simp[takeN] at h
  | n + 1, c :: cs, xs, h => by
    simp only[takeN,cx] at h;obtain⟨ys,h1,rfl⟩:=h;obtain⟨rfl,U⟩:=MB h1;simp;omega
theorem Rd.cells {E:Env}:∀{cs:List V} {b o:Nat},Rd E cs b o→∃vs,RL E cs vs∧∀(j:Nat) v,vs[j]?=some v→E.w.cell? ⟨b,o+j,none⟩=some v
  | [],_,_,_=>⟨[],by simp[RL],fun j v h=>by simp at h⟩
  | c :: cs, b, o, h => by
    obtain⟨v,h1,U⟩:=h 0 c (by simp);obtain⟨vs,h3,h4⟩:=Rd.cells (cs:=cs) (b:=b) (o:=o+1) fun j x hx=>by
      obtain⟨v,hv,hr⟩:=h (j+1) x (by simpa using hx);exact⟨v,by rw[show o+1+j=o+(j+1) from by omega];exact hv,hr⟩
    refine⟨v::vs,?_,fun j u hu=>?_⟩
    · simp only[RL];exact⟨U,h3⟩
    · cases j with
      | zero=>simp at hu;subst hu;simpa using h1
      | succ j=>simp at hu;rw[show o+(j+1)=o+1+j from by omega];exact h4 j u hu
theorem kb (b o j:Nat):(⟨b,o,none⟩:Addr).add j=⟨b,o+j,none⟩:=by
  unfold Addr.add;split<;>simp_all
theorem yw {t:TypeId} {g:Bool} (h:fV P t=some g) (w:World):(isAgg t).run P w = .ok g w:=by
  unfold fV at h;cases hu:P.underlying t with
  | none=>simp[hu] at h
  | some d =>
    simp only[hu] at h;simp only[isAgg,Sem.run_bind,run_underlying hu,Result.andThen_ok];cases d<;>simp_all
theorem mh {t:TypeId} {n:Nat} (h:dd P t=some n) (w:World):(sizeOf t).run P w = .ok n w:=by
  unfold dd at h;simp only[cx] at h;obtain⟨i,hi,rfl⟩:=h;simp[sizeOf,typeInfo,hi]
theorem run_load {t:TypeId} {g:Bool} {n:Nat} (ht:fV P t=some g) (hn:dd P t=some n) {cs:List V} {b o:Nat} (h:Rd E cs b o) {v:V} (hv:bf g n cs=some v) :
    ∃x,(loadVar t ⟨b,o,none⟩).run P E.w = .ok x E.w∧R E v x:=by
  cases g with
  | false =>
    cases cs with
    | nil=>simp[bf] at hv
    | cons c cs =>
      simp only[bf,aH] at hv;subst hv;obtain⟨x,h1,U⟩:=h 0 c (by simp);exact⟨x,by simp only[rL] at h1;simp[loadVar,yw ht,h1],U⟩
  | true =>
    simp only[bf,cx] at hv;obtain⟨xs,h1,rfl⟩:=hv;obtain⟨rfl,U⟩:=MB h1;have h' : Rd E (cs.take n) b o:=fun j x hx=>by
      rw[DM] at hx;split at hx
      · exact h j x hx
      · simp at hx
    obtain⟨vs,h3,h4⟩:=h'.cells;have hl:=eM h3;have fH : vs.length=n:=by rw[←hl];simp;omega
    refine⟨.agg vs.toArray,?_,by simp only[R];exact⟨vs.toArray,rfl,by simpa using h3⟩⟩;have hc:=run_loadCells_list (P:=P) E.w ⟨b,o,none⟩ vs (fun j u hu=>by rw[kb];exact h4 j u hu);rw[fH] at hc;simp[loadVar,yw ht,mh hn,hc]
theorem U' (hs:bc E st a) {g:Bool} {n:Nat} {p:V} {v:V} {x:Value} (h:jV st g n p=some v) (hp:R E p x) :
    ∃b o cs,x = .pointer (some ⟨b,o,none⟩)∧Rd E cs b o∧bf g n cs=some v:=by
  cases p with
  | ptr p off =>
    cases p with
    | loc i =>
      simp only[jV,El,gl] at h;obtain⟨cs,h1,U⟩:=h;simp only[R] at hp;obtain⟨b,hb,rfl⟩:=hp;obtain⟨b',h3,_,h5⟩:=hs.cg.box i cs h1;rw[hb] at h3;simp only[aH] at h3;subst h3;exact⟨b,off,cs.drop off,rfl,by simpa using (Rd.V9 h5).drop off,U⟩
    | out b =>
      simp only[jV,El,gl] at h;obtain⟨cs,h1,U⟩:=h;simp only[R] at hp;subst hp;obtain⟨_,h5⟩:=hs.ok.box b cs h1;exact⟨b,off,cs.drop off,rfl,by simpa using ((Rd.V9 h5).mono E.Le rfl).drop off,U⟩
    | jt b =>
      simp only[jV,El,gl] at h;obtain⟨cs,h1,U⟩:=h;simp only[R] at hp;subst hp;exact⟨b,off,cs.drop off,rfl,by simpa using ((Rd.Lj (hs.ok.bR b cs h1)).mono E.Le rfl).drop off,U⟩
  | elt cs off =>
    simp only[jV] at h;simp only[R] at hp;obtain⟨b,o,rfl,U⟩:=hp;exact⟨b,o+off,cs.drop off,rfl,((Rd.Lj U).mono E.Le rfl).drop off,h⟩
  | _=>simp[jV] at h
theorem atp (hs:bc E st a) {t:TypeId} {x:Operand} {g:Bool} {n:Nat} {y:X} (ho:o.op = .load t x) (ht:fV P t=some g) (hn:dd P t=some n) (hy:R E (ev st y) (a.eval x))
    (h:opt (jV st g n (ev st y)) (K2 K st)):o.wp P a E.w (cZ E a o.dst K) Q:=by
  unfold opt K2 at h;split at h
  · rename_i v hv;obtain⟨b,off,cs,h1,U,h3⟩:=U' hs hv hy;obtain⟨u,h4,h5⟩:=run_load ht hn U h3;exact cq hs (by simp[execOp,ho,Instr.loadAt,Instr.sureAddr,h1,h4]) h5 h
  · exact h.elim
end
structure Ext (w w' : World):Prop where
  os:w'.os=w.os
  output:w'.output=w.output
  tape:w'.tape=w.tape
  size:w.heap.size≤w'.heap.size
  block:∀b,b<w.heap.size→w'.heap[b]?=w.heap[b]?
  eZ:∀a,w'.frozen? a=w.frozen? a
theorem Ext.refl (w:World):Ext w w:=⟨rfl,rfl,rfl,bt _,fun _ _=>rfl,fun _=>rfl⟩
theorem Ext.drew {w w' : World} (h:Ext w w'):Ext w w'.drew:=⟨h.os,h.output,h.tape,h.size,h.block,h.eZ⟩
theorem Ext.alloc {w w' : World} (h:Ext w w') (c:Array Value) (t:TypeId):Ext w (w'.alloc (.cells c t)) :=
  ⟨h.os,h.output,h.tape,by simp;have:=h.size;omega,fun b hb=>(heap_alloc_old w' _ (rM hb h.size)).trans (h.block b hb),fun a=>(aia w' c t a).trans (h.eZ a)⟩
theorem zg {w w' : World} {b o:Nat} (h:w'.heap[b]?=w.heap[b]?):w'.cell? ⟨b,o,none⟩=w.cell? ⟨b,o,none⟩:=by simp[World.cell?,h]
theorem VF {w:World} {b o:Nat} {c:Value} (h:w.cell? ⟨b,o,none⟩=some c):b<w.heap.size:=World.block_lt_of_cell? (a:=⟨b,o,none⟩) w h
theorem jC {w:World} {b:Nat} {x:Obj} (h:w.heap[b]?=some x):b<w.heap.size:=(gj.1 h).1
theorem vh {E E' : Env} (hf:∀b,E.w.heap.size≤b→E.role b = .const) (hx:Ext E.w E'.w) (hr:∀b,b<E.w.heap.size→E'.role b=E.role b)
    (ht:∀t n,E.aC t=some n→E'.aC t=some n):Fr E E' := by
  refine⟨hx.os,hx.output,hx.tape,hx.size,hx.eZ,?_,?_,?_,?_,?_,?_,fun b c e hb=>⟨c,(hx.block b (jC hb)).trans hb,rfl⟩⟩
  · intro b o c hc hv;have hb:=VF hv;exact⟨by rw[hr b hb];exact hc,by rw[zg (hx.block b hb)];exact hv⟩
  · intro t n hn;refine⟨n,ht t n hn,bt _,fun _ b c hb=>?_⟩;have aj:b<E.w.heap.size:=by
      rcases nS b E.w.heap.size with h | h
      · exact h
      · rw[hf b h] at hb;simp at hb
    exact⟨by rw[hr b aj];exact hb,fun cs e hcs=>⟨cs,by rw[hx.block b aj];exact hcs,rfl⟩⟩
  · intro b hb _;exact⟨hx.block b hb,hr b hb⟩
  · intro b hb h;rw[hr b hb] at h;exact .inl h
  · intro b t c hb h;rw[hr b hb] at h;exact⟨c,h⟩
  · intro b i hb h;rw[hr b hb] at h;exact⟨i,h⟩
theorem ig.mono {E E' : Env} {b:Nat} {cs:List V} (h:E.le E') (hb:E'.w.heap[b]?=E.w.heap[b]?) (k:ig E b cs):ig E' b cs:=by
  obtain⟨c,e,h1,U,h3⟩:=k;exact⟨c,e,by rw[hb];exact h1,U,fun j x hx=>let ⟨v,hv,hr⟩:=h3 j x hx;⟨v,hv,hr.mono _ h⟩⟩
theorem Al {E E' : Env} {σ:ae} (h:E.ok σ) (hle:E.nl.le E'.nl) (hb:∀b,E.role b = .nB→b<E.w.heap.size→E'.role b = .nB∧E'.w.heap[b]?=E.w.heap[b]?)
    (ht:∀t n,E.aC t=some n→E'.aC t=some n) (hf:∀b,E'.w.heap.size≤b→E'.role b = .const) (hn:∃N,∀t,N≤t→E'.aC t=none):E'.ok σ:=by
  refine⟨fun b cs hcs=>?_,fun t n jT=>ht t n (h.aC t n jT),hf,hn,fun b cs hc=>c7.mono _ hle (h.bR b cs hc)⟩;obtain⟨h1,U⟩:=h.box b cs hcs;have aj:b<E.w.heap.size:=by obtain⟨c,e,h3,_⟩:=U;exact jC (w:=E.w) h3
  obtain⟨h3,h4⟩:=hb b h1 aj;exact⟨h3,U.mono hle h4⟩
theorem nC {E E' : Env} {ls:List (List V)} (h:E.cg ls) (hle:E.le E') (hb:∀b i,E.role b = .gK i→b<E.w.heap.size→E'.role b = .gK i∧E'.w.heap[b]?=E.w.heap[b]?)
    (hl:∀i,ls.length≤i→E'.loc i=none):E'.cg ls:=by
  refine⟨fun i cs hcs=>?_,hl⟩;obtain⟨b,h1,U,h3⟩:=h.box i cs hcs;have aj:b<E.w.heap.size:=by obtain⟨c,e,h3,_⟩:=h3;exact jC (w:=E.w) h3
  obtain⟨h4,h5⟩:=hb b i U aj;exact⟨b,hle.loc i b h1,h4,h3.mono hle h5⟩
section
variable {P:Program} {E:Env} {st:St} {a:Act} {o:Oper} {K:V→St→Prop} {Q:Exit→Act→World→Prop}
theorem AB (hs:bc E st a) {w' : World} (hx:Ext E.w w'):Fr E {E with w:=w'}∧E.le {E with w:=w'}∧bc {E with w:=w'} st a:=by
  have aS:Fr E {E with w:=w'}:=vh hs.ok.fresh hx (fun _ _=>rfl) (fun _ _ h=>h);have hle:E.le {E with w:=w'}:=aS.le fun _ _ h=>h
  refine⟨aS,hle,Al hs.ok aS.nl (fun b h hb=>⟨h,hx.block b hb⟩) (fun _ _ h=>h) (fun b hb=>hs.ok.fresh b (uS hx.size hb)) hs.ok.nt,
    nC hs.cg hle (fun b i h hb=>⟨h,hx.block b hb⟩) hs.cg.none,hs.defers,RL.mono _ hle hs.slot⟩
theorem YZ (hs:bc E st a) {w' : World} (hx:Ext E.w w') {v:V} {x:Value} (hr:(execOp a.eval o).run P E.w = .ok (.value x) w') (hv:R {E with w:=w'} v x) (hk:K v st) :
    o.wp P a E.w (cZ E a o.dst K) Q:=by
  unfold Oper.wp;rw[hr];obtain⟨h1,_,h3⟩:=AB hs hx;exact⟨_,v,x,st,rfl,h1,h3,hv,rfl,hk⟩
theorem Y1 (hs:bc E st a) {zs:List V} {c:Array Value} {e:TypeId} (hr:(execOp a.eval o).run P E.w = .ok (.value (.pointer (some ⟨E.w.heap.size,0,none⟩))) (E.w.alloc (.cells c e)))
    (hz:RL E zs c.toList) (hk:K (.ptr (.loc st.loc.length) 0) ⟨st.t,st.loc++[zs],st.out⟩):o.wp P a E.w (cZ E a o.dst K) Q:=by
  unfold Oper.wp;rw[hr]
  let E' : Env:={w:=E.w.alloc (.cells c e),role:=fun b=>if b=E.w.heap.size then .gK st.loc.length else E.role b,
                    loc:=fun i=>if i=st.loc.length then some E.w.heap.size else E.loc i,aC:=E.aC}
  have hx:Ext E.w E'.w:=(Ext.refl _).alloc _ _;have aS:Fr E E' := vh hs.ok.fresh hx (fun b hb=>by simp only[E'];rw[ah (by omega)]) (fun _ _ h=>h);have hle:E.le E' := aS.le fun i b h=>by
    simp only[E'];split
    · rename_i hi;rw[hs.cg.none i (by omega)] at h;simp at h
    · exact h
  refine⟨E',_,_,⟨st.t,st.loc++[zs],st.out⟩,rfl,aS,⟨?_,⟨?_,?_⟩,hs.defers,RL.mono _ hle hs.slot⟩,?_,rfl,hk⟩
  · refine Al hs.ok aS.nl (fun b h hb=>⟨by simp only[E'];rw[ah (by omega)];exact h,hx.block b hb⟩) (fun _ _ h=>h) (fun b hb=>?_) hs.ok.nt;simp only[E',World.size_alloc] at hb ⊢;rw[ah (by omega)];exact hs.ok.fresh b (by omega)
  · intro i cs hcs
    rcases Bb i st.loc.length with hi | hi | hi
    · rw[oC hi] at hcs;obtain⟨b,h1,U,h3⟩:=hs.cg.box i cs hcs;have aj:b<E.w.heap.size:=by obtain⟨c,e,h3,_⟩:=h3;exact jC (w:=E.w) h3
      exact⟨b,hle.loc i b h1,by simp only[E'];rw[ah (by omega)];exact U,h3.mono hle (hx.block b aj)⟩
    · subst hi;rw[wE (bt _)] at hcs;simp at hcs;subst hcs;have hl:=eM hz;refine⟨E.w.heap.size,by simp[E'],by simp[E'],c,e,heap_alloc_new _ _,by simp at hl;omega,fun j x hx=>?_⟩;obtain⟨v,hv,bN⟩:=oI hz j x hx;exact⟨v,by simpa using hv,bN.mono _ hle⟩
    · rw[wF (by simp;omega)] at hcs;simp at hcs
  · intro i hi;simp at hi;simp only[E'];rw[ah (by omega)];exact hs.cg.none i (by omega)
  · simp only[R];exact⟨E.w.heap.size,by simp[E'],rfl⟩
theorem uW {x:V} {v:Value} {n:Nat} (h:R E x v) (hw:x.wd=some n):RL E x.cells v.cells.toList∧v.cells.size=n:=by
  cases x<;>simp only[V.wd,aH] at hw<;>try simp at hw
  case agg cs =>
    simp only[R] at h;obtain⟨vs,rfl,U⟩:=h
    have:=eM U
    exact⟨by simpa [V.cells,Value.cells] using U,by simp[Value.cells];simp at this;omega⟩
  case raw u =>
    simp only[R] at h;subst h;obtain⟨ho,rfl⟩:=hw;cases v<;>simp_all [Value.oneCell',Value.cells,V.cells,RL,R]
  case ptr p off =>
    subst hw;have h' := h;cases p
    · simp only[R] at h;obtain⟨b,_,rfl⟩:=h;simp[Value.cells,V.cells,RL];exact h'
    · simp only[R] at h;subst h;simp[Value.cells,V.cells,RL];exact h'
    · simp only[R] at h;subst h;simp[Value.cells,V.cells,RL];exact h'
  all_goals
    subst hw;have h' := h;simp only[R] at h
    first
      | (subst h;simp[Value.cells,V.cells,RL];exact h')
      | (obtain⟨b,o,rfl,_⟩:=h;simp[Value.cells,V.cells,RL];exact h')
theorem ui:∀{xs:List V} {vs:List Value},RL E xs vs→bE xs=true→∀v∈vs,v.oneCell' = true
  | [],[],_,_=>fun v hv=>by simp at hv
  | [],_::_,h,_=>by simp[RL] at h
  | _::_,[],h,_=>by simp[RL] at h
  | x :: xs, v :: vs, h, ho => by
    simp only[RL] at h;simp only[bE,a_] at ho;intro u hu
    rcases j_.1 hu with rfl | hu
    · obtain⟨hr,_⟩:=h;have h1:=ho.1;cases x<;>simp only[V.one] at h1<;>try (simp at h1;done)
      case ptr p off=>cases p<;>simp only[R] at hr<;>first | (subst hr;rfl) | (obtain⟨b,_,rfl⟩:=hr;rfl)
      all_goals
        simp only[R] at hr
        first
          | (subst hr;first | rfl | exact h1)
          | (obtain⟨b,o,rfl,_⟩:=hr;rfl)
    · exact ui h.2 ho.2 u hu
theorem Jr:∀{n:Nat} {xs:List V},bI n xs=true→n≤xs.length
  | 0,_,_=>rO _
  | n+1,[],h=>by simp[bI] at h
  | n+1,x::xs,h=>by simp only[bI] at h;have:=Jr h;simp;omega
theorem We:∀{l xs:List V},xs.length≤l.length→∀j:Nat,(over l xs)[j]?=if j<xs.length then xs[j]? else l[j]?
  | [],[],_,j=>by simp[over]
  | [],_::_,h,_=>by simp at h
  | a::l,[],_,j=>by simp[over]
  | a :: l, x :: xs, h, j => by
    cases j with
    | zero=>simp[over]
    | succ j=>simp[over,We (l:=l) (xs:=xs) (by simpa using h)]
theorem Wf:∀{l xs:List V},(over l xs).length=l.length
  | [],_=>by simp[over]
  | a::l,[]=>by simp[over]
  | a::l,x::xs=>by simp[over,Wf]
theorem Mk:∀{l:List V} {n:Nat} {xs:List V},(setAt l n xs).length=l.length
  | l,0,xs=>by cases l<;>simp[setAt,Wf]
  | [],n+1,xs=>by simp[setAt]
  | a::l,n+1,xs=>by simp[setAt,Mk]
theorem Mj:∀{l:List V} {n:Nat} {xs:List V},n+xs.length≤l.length→∀j:Nat,
    (setAt l n xs)[j]?=if j<n then l[j]? else if j<n+xs.length then xs[j - n]? else l[j]?
  | l, 0, xs, h, j => by
    have h' : setAt l 0 xs=over l xs:=by cases l<;>simp[setAt]
    rw[h',We (by omega)];simp
  | [],n+1,xs,h,j=>by simp at h
  | a :: l, n + 1, xs, h, j => by
    cases j with
    | zero=>simp[setAt]
    | succ j =>
      have:=Mj (l:=l) (n:=n) (xs:=xs) (by simp at h;omega) j
      simp only[setAt,List.getElem?_cons_succ,this]
      by_cases h1:j<n
      · rw[ak h1,ak (show j+1<n+1 by omega)]
      · rw[ah h1,ah (show ¬j+1<n+1 by omega)]
        by_cases U:j<n+xs.length
        · rw[ak U,ak (show j+1<n+1+xs.length by omega),show j+1 - (n+1)=j - n from by omega]
        · rw[ah U,ah (show ¬j+1<n+1+xs.length by omega)]
theorem L_ {t:TypeId} {n:Nat} (hn:dd P t=some n) {w:World} {b off:Nat} {c:Array Value} {e:TypeId} (hb:w.heap[b]?=some (.cells c e (0,0))) {v:Value} (hv:v.cells.size=n)
    (tV:off+n≤c.size) (h1:∀u∈v.cells.toList,u.oneCell' = true) :
    (storeVar t ⟨b,off,none⟩ v).run P w = .ok () (w.setRow b (c.toList.take off++v.cells.toList++c.toList.drop (off+n)).toArray):=by
  have h:=run_storeCells_at (P:=P) b off e v.cells.toList 0 c w hb (by simp;omega) h1;simp only[rL,yR,hv] at h;simp[storeVar,mh hn,hv,h]
theorem C' {c vs:List Value} {off:Nat} (h:off+vs.length≤c.length) (j:Nat) :
    (c.take off++vs++c.drop (off+vs.length))[j]?=if j<off then c[j]? else if j<off+vs.length then vs[j - off]? else c[j]?:=by
  have hl:(c.take off).length=off:=by simp;omega
  by_cases h1:j<off
  · rw[ak h1,dt,oC (by omega),DM,ak h1]
  · rw[ah h1]
    by_cases U:j<off+vs.length
    · rw[ak U,dt,wE (by omega),oC (by omega),hl]
    · rw[ah U,wE (by simp;omega),rH];congr 1;simp;omega
theorem Em {E' : Env} {b:Nat} {cs:List V} {c:Array Value} {e:TypeId} (hc:cs.length≤c.size) (hb:∀(j:Nat) x,cs[j]?=some x→∃v,c[j]?=some v∧R E' x v)
    {xs:List V} {vs:List Value} (hx:RL E' xs vs) {off:Nat} (tV:off+xs.length≤cs.length)
    (hn:E'.w.heap[b]?=some (.cells (c.toList.take off++vs++c.toList.drop (off+vs.length)).toArray e (0,0))):ig E' b (setAt cs off xs):=by
  have hl:=eM hx;refine⟨_,e,hn,?_,fun j x hj=>?_⟩
  · simp[Mk];omega
  · rw[Mj tV] at hj;have hs:=C' (c:=c.toList) (vs:=vs) (off:=off) (by simp;omega) j;simp only[Zl];rw[hs]
    by_cases h1:j<off
    · rw[ak h1] at hj ⊢;simpa using hb j x hj
    · rw[ah h1] at hj ⊢
      by_cases U:j<off+xs.length
      · rw[ak U] at hj;rw[ak (by omega)];exact oI hx _ x hj
      · rw[ah U] at hj;rw[ah (by omega)];simpa using hb j x hj
end
mutual
theorem R.nz:∀(x:V) {E E' : Env} (_:E.nl.le E'.nl) (_:x.cc=true) {v:Value},R E x v→R E' x v
  | .any,_,_,_,_,_,_=>by simp only[R]
  | .bool _,_,_,_,_,_,hr=>by simp only[R] at hr ⊢;exact hr
  | .int _ _,_,_,_,_,_,hr=>by simp only[R] at hr ⊢;exact hr
  | .str _,_,_,_,_,_,hr=>by simp only[R] at hr ⊢;exact hr
  | .mb,_,_,_,_,_,hr=>by simp only[R] at hr ⊢;exact hr
  | .ptr (.loc i) _,_,_,_,hn,_,_=>by simp[V.cc] at hn
  | .ptr (.out _) _,_,_,_,_,_,hr=>by simp only[R] at hr ⊢;exact hr
  | .ptr (.jt _) _,_,_,_,_,_,hr=>by simp only[R] at hr ⊢;exact hr
  | .elt cs _, _, _, h, _, _, hr => by
    simp only[R] at hr ⊢;obtain⟨b,o,h1,U⟩:=hr;exact⟨b,o,h1,c7.mono cs h U⟩
  | .sl t k l, E, E', h, _, _, hr => by
    simp only[R] at hr ⊢;obtain⟨a,cap,h1,U,h3,h4⟩:=hr;have h4' : rR E.nl k l.length a cap t:=h4;refine⟨a,cap,h1,U,?_,(h4'.mono h:rR E'.nl k l.length a cap t)⟩
    rcases h3 with h3 | ⟨b,o,h3,h5⟩
    · exact .inl h3
    · exact .inr ⟨b,o,h3,ek.mono l h h5⟩
  | .agg cs, _, _, h, hn, _, hr => by
    simp only[R] at hr ⊢;simp only[V.cc] at hn;obtain⟨vs,h1,U⟩:=hr;exact⟨vs,h1,RL.nz cs h hn U⟩
  | .aX cs, _, _, h, hn, _, hr => by
    simp only[R] at hr ⊢;simp only[V.cc] at hn;obtain⟨vs,h1,U⟩:=hr;exact⟨vs,h1,RL.nz cs h hn U⟩
  | .fn _ first cap, _, _, h, hn, _, hr => by
    simp only[R] at hr ⊢;simp only[V.cc,a_] at hn;obtain⟨fs,cs,h1,U,h3⟩:=hr;exact⟨fs,cs,h1,RL.nz first h hn.1 U,RL.nz cap h hn.2 h3⟩
  | .raw _,_,_,_,_,_,hr=>by simp only[R] at hr ⊢;exact hr
theorem RL.nz:∀(l:List V) {E E' : Env} (_:E.nl.le E'.nl) (_:bm l=true) {vs:List Value},RL E l vs→RL E' l vs
  | [],_,_,_,_,[],_=>by simp only[RL]
  | [],_,_,_,_,_::_,hr=>by simp only[RL] at hr
  | _::_,_,_,_,_,[],hr=>by simp only[RL] at hr
  | x :: xs, _, _, h, hn, v :: vs, hr => by
    simp only[RL] at hr ⊢;simp only[bm,a_] at hn;exact⟨R.nz x h hn.1 hr.1,RL.nz xs h hn.2 hr.2⟩
end
theorem EP {E:Env} {b:Nat} {c new:Array Value} {e:TypeId} (hb:E.w.heap[b]?=some (.cells c e (0,0))) (hr:(∃i,E.role b = .gK i)∨E.role b = .nB) (bO:new.size=c.size) :
    Fr E {E with w:=E.w.setRow b new}:=by
  refine⟨rfl,rfl,rfl,by simp,BK hb,?_,?_,?_,fun _ _ h=>.inl h,fun _ _ c _ h=>⟨c,h⟩,fun _ i _ h=>⟨i,h⟩,fun b' c' e' hc=>?_⟩
  · intro b' o v hc hv;have aI:b' ≠ b:=by
      rintro rfl
      rcases hr with ⟨i,hi⟩ | hi<;>rw[hi] at hc<;>exact hc.elim
    exact⟨hc,by rw[cell_setRow_other E.w b new ⟨b',o,none⟩ aI];exact hv⟩
  · intro t n hn;refine⟨n,hn,bt _,fun _ b' k hk=>⟨hk,fun cs e' hcs=>?_⟩⟩;have aI:b' ≠ b:=by
      rintro rfl
      rcases hr with ⟨i,hi⟩ | hi<;>rw[hi] at hk<;>simp at hk
    exact⟨cs,by simp only[setRow_other E.w b b' new aI];exact hcs,rfl⟩
  · intro b' _ hk;have aI:b' ≠ b:=by
      rintro rfl
      rcases hr with ⟨i,hi⟩ | hi<;>rw[hi] at hk<;>simp at hk
    exact⟨setRow_other E.w b b' new aI,rfl⟩
  · by_cases bU:b' = b
    · subst bU;rw[hb] at hc;simp only[aH,Obj.cells.injEq] at hc;obtain⟨rfl,rfl,_⟩:=hc;exact⟨new,setRow_heap E.w b' c new e _ hb,bO⟩
    · exact⟨c',(setRow_other E.w b b' new bU).trans hc,rfl⟩
theorem ae.cX (σ:ae) (b:Nat) (cs:List V):(σ.set b cs).box b=some cs:=by simp[ae.set]
theorem ae.dc (σ:ae) {b x:Nat} (cs:List V) (h:x≠b):(σ.set b cs).box x=σ.box x:=by simp[ae.set,h]
section
variable {P:Program} {E:Env} {st:St} {a:Act} {o:Oper} {K:V→St→Prop} {Q:Exit→Act→World→Prop}
theorem Ys {t:TypeId} {n:Nat} (gT:0<n) (hn:dd P t=some n) {b off:Nat} {cs:List V} {c:Array Value} {e:TypeId} (hb:E.w.heap[b]?=some (.cells c e (0,0))) (hlen:cs.length≤c.size)
    {ay:V} {v:Value} (hy:R E ay v) (hh:bI n (cs.drop off)=true) (pk:ay.wd=some n) (ey:bE ay.cells=true) :
    ∃vs:List Value,RL E ay.cells vs∧off+ay.cells.length≤cs.length ∧
      (storeVar t ⟨b,off,none⟩ v).run P E.w = .ok () (E.w.setRow b (c.toList.take off++vs++c.toList.drop (off+vs.length)).toArray) ∧
      (E.w.setRow b (c.toList.take off++vs++c.toList.drop (off+vs.length)).toArray).heap[b]?=some (.cells (c.toList.take off++vs++c.toList.drop (off+vs.length)).toArray e (0,0)):=by
  obtain⟨pS,bO⟩:=uW hy pk;have hl:=eM pS;have hle:=Jr hh;simp at hle hl;have hcs:off+n≤cs.length:=by omega
  refine⟨v.cells.toList,pS,by omega,?_,setRow_heap E.w b c _ e _ hb⟩
  have:=L_ (P:=P) (off:=off) hn hb bO (by omega) (ui pS ey)
  rw[this];simp[bO]
theorem GV {t:TypeId} {b off:Nat} {v:Value} {w w' : World} (h:(storeVar t ⟨b,off,none⟩ v).run P w = .ok () w') :
    (Instr.storeAt t (.pointer (some ⟨b,off,none⟩)) v).run P w = .ok () w' := by
  simp[Instr.storeAt,Instr.sureAddr,h]
theorem Y3 (hs:bc E st a) {t:TypeId} {x y:Operand} {n:Nat} {ax ay:V} (gT:0<n) (ho:o.op = .store t x y) (hn:dd P t=some n) (hx:R E ax (a.eval x)) (hy:R E ay (a.eval y))
    {aq : St} (h:cJ st n ay ax=some aq) (hk:K .any aq):o.wp P a E.w (cZ E a o.dst K) Q:=by
  cases ax with
  | ptr p off =>
    cases p with
    | jt b=>simp[cJ] at h
    | loc i =>
      simp only[cJ,gl] at h;obtain⟨cs,h1,U⟩:=h;split at U
      case isFalse=>simp at U
      rename_i hc;obtain⟨hh,pk,ey⟩:=hc;simp only[aH] at U;subst U;simp only[R] at hx;obtain⟨b,hb,hx⟩:=hx;obtain⟨b',h3,cL,c,e,dQ,hlen,mE⟩:=hs.cg.box i cs h1;rw[hb] at h3;simp only[aH] at h3;subst h3;obtain⟨vs,pS,tV,cn,fI⟩:=Ys (P:=P) (t:=t) gT hn dQ hlen hy hh pk ey;have aS:=EP (E:=E) (new:=(c.toList.take off++vs++c.toList.drop (off+vs.length)).toArray) dQ (.inl ⟨i,cL⟩) (by have:=eM pS;simp;omega);have hle:=aS.le fun _ _ h=>h
      have mD:=Em (E' := {E with w:=E.w.setRow b (c.toList.take off++vs++c.toList.drop (off+vs.length)).toArray}) hlen
        (fun j x hj=>let ⟨u,h1,U⟩:=mE j x hj;⟨u,h1,U.mono _ hle⟩) (RL.mono _ hle pS) tV fI
      generalize (c.toList.take off++vs++c.toList.drop (off+vs.length)).toArray=new at cn fI aS hle mD;have iX : ∀b',b' ≠ b→(E.w.setRow b new).heap[b']?=E.w.heap[b']?:=fun b' aI=>setRow_other E.w b b' new aI
      unfold Oper.wp;rw[show (execOp a.eval o).run P E.w = .ok .skip (E.w.setRow b new) from by simp[execOp,ho,hx,GV cn]];refine⟨{E with w:=E.w.setRow b new},.any,undef,⟨st.t,st.loc.set i (setAt cs off ay.cells),st.out⟩,rfl,aS,⟨?_,⟨?_,?_⟩,hs.defers,RL.mono _ hle hs.slot⟩,by simp[R],rfl,hk⟩
      · exact Al hs.ok aS.nl (fun b' hr _=>⟨hr,iX b' (by rintro rfl;rw[cL] at hr;simp at hr)⟩) (fun _ _ h=>h) (fun b' bz => hs.ok.fresh b' (by simpa using bz)) hs.ok.nt
      · intro j ds hj
        by_cases eE:j=i
        · subst eE;have aj:j<st.loc.length:=(dD.1 h1).1;simp only[Nx aj,aH] at hj;subst hj;exact⟨b,hb,cL,mD⟩
        · simp only[A8 (Ne.symm eE)] at hj;obtain⟨b',k1,k2,k3⟩:=hs.cg.box j ds hj;exact⟨b',k1,k2,k3.mono hle (iX b' (by rintro rfl;rw[cL] at k2;simp at k2;exact eE k2.symm))⟩
      · intro j hj;exact hs.cg.none j (by simpa using hj)
    | out b =>
      simp only[cJ,gl] at h;obtain⟨cs,h1,U⟩:=h;split at U
      case isFalse=>simp at U
      rename_i hc;obtain⟨hh,pk,ey,nk⟩:=hc;simp only[aH] at U;subst U;simp only[R] at hx;obtain⟨cL,c,e,dQ,hlen,mE⟩:=hs.ok.box b cs h1;have E_ : E.w.heap[b]?=some (.cells c e (0,0)):=dQ;obtain⟨vs,pS,tV,cn,fI⟩:=Ys (P:=P) (t:=t) gT hn E_ hlen hy hh pk ey;have aS:=EP (E:=E) (new:=(c.toList.take off++vs++c.toList.drop (off+vs.length)).toArray) E_ (.inr cL) (by have:=eM pS;simp;omega);have hle:=aS.le fun _ _ h=>h
      have mD:=Em (E' := Env.nl {E with w:=E.w.setRow b (c.toList.take off++vs++c.toList.drop (off+vs.length)).toArray}) hlen
        (fun j x hj=>let ⟨u,h1,U⟩:=mE j x hj;⟨u,h1,U.mono _ aS.nl⟩) (RL.mono _ aS.nl (RL.nz (E:=E) (E' := E.nl) _ (Env.le.refl E.nl) nk pS)) tV fI
      generalize (c.toList.take off++vs++c.toList.drop (off+vs.length)).toArray=new at cn fI aS hle mD;have iX : ∀b',b' ≠ b→(E.w.setRow b new).heap[b']?=E.w.heap[b']?:=fun b' aI=>setRow_other E.w b b' new aI
      unfold Oper.wp;rw[show (execOp a.eval o).run P E.w = .ok .skip (E.w.setRow b new) from by simp[execOp,ho,hx,GV cn]];refine⟨{E with w:=E.w.setRow b new},.any,undef,⟨st.t,st.loc,st.out.set b (setAt cs off ay.cells)⟩,rfl,aS,⟨⟨?_,hs.ok.aC,fun b' bz => hs.ok.fresh b' (by simpa using bz),hs.ok.nt,fun b cs hc=>c7.mono _ aS.nl (hs.ok.bR b cs hc)⟩,
        nC hs.cg hle (fun b' i hr _=>⟨hr,iX b' (by rintro rfl;rw[cL] at hr;simp at hr)⟩) hs.cg.none,hs.defers,RL.mono _ hle hs.slot⟩,by simp[R],rfl,hk⟩
      intro b' ds jP
      by_cases bU:b' = b
      · subst bU;rw[ae.cX] at jP;simp only[aH] at jP;subst jP;exact⟨cL,mD⟩
      · rw[ae.dc _ _ bU] at jP;obtain⟨k1,k2⟩:=hs.ok.box b' ds jP;exact⟨k1,k2.mono aS.nl (iX b' bU)⟩
  | _=>simp[cJ] at h
end
def dO.kp:dO→dO
  | .gK _=>.kU
  | r=>r
theorem dO.T8 (r:dO) (o:Nat):r.kp.fP o↔r.fP o:=by cases r<;>simp[dO.kp,dO.fP]
def Env.call (E:Env):Env:={w:=E.w,role:=fun b=>(E.role b).kp,loc:=fun _=>none,aC:=E.aC}
def dO.back:dO→dO→dO
  | .gK i,_=>.gK i
  | _,r=>r
def Env.back (E E' : Env):Env:={w:=E'.w,role:=fun b=>(E.role b).back (E'.role b),loc:=E.loc,aC:=E'.aC}
theorem Ie (E:Env):E.nl.le E.call.nl :=
  ⟨fun b o c hc hv=>⟨(dO.T8 _ _).2 hc,hv⟩,fun _ _ h=>by simp at h,fun t n hn=>⟨n,hn,bt _,fun _ b c hb=>⟨by
    show (E.role b).kp=_;have bz : E.role b = .fA t c:=hb;rw[bz];rfl,fun cs _ hc=>⟨cs,hc,rfl⟩⟩⟩⟩
theorem abv {E:Env} {σ:ae} (h:E.ok σ):E.call.ok σ:=by
  refine⟨fun b cs hcs=>?_,h.aC,fun b hb=>?_,h.nt,fun b cs hc=>c7.mono _ (Ie E) (h.bR b cs hc)⟩
  · obtain⟨h1,U⟩:=h.box b cs hcs;exact⟨by show (E.role b).kp=_;rw[h1];rfl,U.mono (Ie E) rfl⟩
  · show (E.role b).kp=_;rw[h.fresh b hb];rfl
section
variable {E E' : Env} (hf:∀b,E.w.heap.size≤b→E.role b = .const) (h:Fr E.call E')
include hf h in
theorem Eh {b i:Nat} (hb:E.role b = .gK i):b<E.w.heap.size∧E'.role b = .kU∧E'.w.heap[b]?=E.w.heap[b]?:=by
  have aj:b<E.w.heap.size:=by
    rcases nS b E.w.heap.size with h | h
    · exact h
    · rw[hf b h] at hb;simp at hb
  have hr:E.call.role b = .kU:=by show (E.role b).kp=_;rw[hb];rfl
  obtain⟨h1,U⟩:=h.same b aj (.inr hr);exact⟨aj,U.trans hr,h1⟩
include hf h in
theorem Rp (b o:Nat):((E.back E').role b).fP o↔(E'.role b).fP o:=by
  show (((E.role b).back (E'.role b)).fP o↔_);cases hb:E.role b with
  | gK i =>
    obtain⟨_,U,_⟩:=Eh hf h hb;simp[dO.back,U,dO.fP]
  | _=>simp[dO.back]
include hf h in
theorem Rq {b t c:Nat} (hb:E'.role b = .fA t c):(E.back E').role b = .fA t c:=by
  show (E.role b).back (E'.role b)=_;cases hr:E.role b with
  | gK i =>
    obtain⟨_,U,_⟩:=Eh hf h hr;rw[hb] at U;simp at U
  | _=>simp[dO.back,hb]
include hf h in
theorem aaD {b:Nat} (hb:E'.role b = .nB):(E.back E').role b = .nB:=by
  show (E.role b).back (E'.role b)=_;cases hr:E.role b with
  | gK i =>
    obtain⟨_,U,_⟩:=Eh hf h hr;rw[hb] at U;simp at U
  | _=>simp[dO.back,hb]
include hf h in
theorem aaC:E'.nl.le (E.back E').nl :=
  ⟨fun b o _ hc hv=>⟨(Rp hf h b o).2 hc,hv⟩,fun _ _ h=>by simp at h,fun _ n hn=>⟨n,hn,bt _,fun _ _ _ hb=>⟨Rq hf h hb,fun cs _ hc=>⟨cs,hc,rfl⟩⟩⟩⟩
include hf h in
theorem aaB:Fr E (E.back E'):=by
  refine⟨h.os,h.output,h.tape,h.size,h.eZ,?_,?_,?_,?_,?_,?_,h.shape⟩
  · intro b o c hc hv;obtain⟨h1,U⟩:=h.cell b o c ((dO.T8 _ _).2 hc) hv;exact⟨(Rp hf h b o).2 h1,U⟩
  · intro t n hn;obtain⟨n',h1,U,h3⟩:=h.tok t n hn;refine⟨n',h1,U,fun he b c hb=>?_⟩;obtain⟨h4,h5⟩:=h3 he b c (by show (E.role b).kp=_;rw[hb];rfl);exact⟨Rq hf h h4,h5⟩
  · intro b hb hr;have aI:(E.role b).kp=E.role b:=by rcases hr with hr | hr<;>rw[hr]<;>rfl
    obtain⟨h1,U⟩:=h.same b hb (by show (E.role b).kp=_∨(E.role b).kp=_;rw[aI];exact hr);refine⟨h1,?_⟩;show (E.role b).back (E'.role b)=_;have tI : E'.role b=(E.role b).kp:=U;rw[tI,aI]
    rcases hr with hr | hr<;>rw[hr]<;>rfl
  · intro b hb hr;have bN : (E.role b).back (E'.role b) = .nB:=hr;cases hq:E.role b with
    | gK i=>rw[hq] at bN;simp[dO.back] at bN
    | nB=>exact .inl rfl
    | _ =>
      rw[hq] at bN;simp only[dO.back] at bN
      rcases h.Bm b hb bN with h' | ⟨j,h'⟩
      · have h' : (E.role b).kp = .nB:=h';rw[hq] at h';simp[dO.kp] at h'
      · have h' : (E.role b).kp = .gK j:=h';rw[hq] at h';simp[dO.kp] at h'
  · intro b t c hb hr;have bN : (E.role b).back (E'.role b) = .fA t c:=hr;cases hq:E.role b with
    | gK i=>rw[hq] at bN;simp[dO.back] at bN
    | _ =>
      rw[hq] at bN;simp only[dO.back] at bN;obtain⟨c0,this⟩:=h.Bn b t c hb bN;have h' : (E.role b).kp = .fA t c0:=this;rw[hq] at h'
      first | (simp[dO.kp] at h';done) | exact⟨c0,h'⟩
  · intro b i hb hr;have bN : (E.role b).back (E'.role b) = .gK i:=hr;cases hq:E.role b with
    | gK j=>exact⟨j,rfl⟩
    | _ =>
      rw[hq] at bN;simp only[dO.back] at bN;obtain⟨c0,this⟩:=h.zc b i hb bN;have h' : (E.role b).kp = .gK c0:=this;rw[hq] at h';simp[dO.kp] at h'
end
section
variable {P:Program} {E:Env} {st:St} {a:Act} {o:Oper} {K:V→St→Prop} {Q:Exit→Act→World→Prop}
theorem abu (hs:bc E st a) {f:FuncId} {xs:List V} {vs:Array Value} (hx:RL E xs vs.toList) (hn:bm xs=true) (hc:al P f xs st.out fun v σ=>K v ⟨st.t,st.loc,σ⟩) :
    Calls P f vs E.w fun e w' => ∃E' v x aq,e = .returned x∧E'.w=w' ∧ Fr E E' ∧ bc E' aq a∧R E' v x∧K v aq := by
  have hf:=hs.ok.fresh;refine(hc.2 E.call vs (fun _=>rfl) (abv hs.ok) (RL.nz _ (Ie E) hn hx)).mono ?_;rintro e w' ⟨v,x,E',σ',rfl,rfl,JY,bM,hr,aS,hk⟩;have vr := aaB hf aS;have hle:E.le (E.back E'):=vr.le fun _ _ h=>h
  have Jv:=aaC hf aS;refine⟨E.back E',v,x,⟨st.t,st.loc,σ'⟩,rfl,rfl,vr,⟨⟨?_,bM.aC,?_,bM.nt,fun b cs hc=>c7.mono _ Jv (bM.bR b cs hc)⟩,?_,hs.defers,RL.mono _ hle hs.slot⟩,?_,hk⟩
  · intro b cs hcs;obtain⟨h1,U⟩:=bM.box b cs hcs;exact⟨aaD hf aS h1,U.mono Jv rfl⟩
  · intro b hb;have bz : E'.w.heap.size≤b:=hb;show (E.role b).back (E'.role b)=_;rw[hf b (uS aS.size bz)];exact bM.fresh b bz
  · refine nC hs.cg hle (fun b i bN aj=>?_) hs.cg.none;obtain⟨_,_,h3⟩:=Eh hf aS bN;exact⟨by show (E.role b).back (E'.role b)=_;rw[bN];rfl,h3⟩
  · have h1:E'.nl.le (E.back E').nl:=Jv;have U:E'.le (E.back E'):=⟨h1.cell,fun i b hb=>by rw[JY i] at hb;simp at hb,h1.tok⟩;exact hr.mono _ U
theorem YX (hs:bc E st a) {f:FuncId} {xs:List V} {vs:Array Value} (hx:RL E xs vs.toList) (hn:bm xs=true) (hc:al P f xs st.out fun v σ=>K v ⟨st.t,st.loc,σ⟩)
    (hr:(execOp a.eval o).run P E.w=(callFunc f vs).run P E.w):o.wp P a E.w (cZ E a o.dst K) Q:=by
  unfold Oper.wp;rw[hr,hc.1];simp only[Oper.upon_enter];refine(abu hs hx hn hc).mono ?_;rintro e w' ⟨E',v,x,aq,rfl,rfl,h1,U,h3,h4⟩;exact⟨E',v,x,aq,rfl,h1,U,h3,rfl,h4⟩
end
theorem uU {E:Env}:∀{xs ys:List V} {b o:Nat},c7 E (xs++ys) b o↔c7 E xs b o∧c7 E ys b (o+xs.length)
  | [],ys,b,o=>by simp[c7]
  | x :: xs, ys, b, o => by
    simp only[fN,c7,uU (xs:=xs),cG,H0];rw[show o+1+xs.length=o+(xs.length+1) from by omega]
theorem oH {E:Env} {k:Nat}:∀{l:List (List V)} {b o:Nat},ek E k l b o↔(∀x∈l,x.length=k)∧c7 E l.flatten b o
  | [],b,o=>by simp[ek,c7]
  | x :: xs, b, o => by
    simp only[ek,iC,uU,oH (l:=xs),du];constructor
    · rintro⟨h1,U,h3,h4⟩;exact⟨⟨h1,h3⟩,U,by rw[h1];exact h4⟩
    · rintro⟨⟨h1,h3⟩,U,h4⟩;exact⟨h1,U,h3,by rw[h1] at h4;exact h4⟩
theorem jr {k:Nat}:∀{l:List (List V)},(∀x∈l,x.length=k)→l.flatten.length=l.length*k
  | [],_=>by simp
  | x :: xs, h => by
    simp only[du] at h;simp only[iC,bw,h.1,jr h.2,cG,gP,uT];omega
theorem DZ {E:Env}:∀{cs:List V} {b o:Nat},c7 E cs b o→∃vs:List Value,RL E cs vs∧(∀(j:Nat) v,vs[j]?=some v→E.w.cell? ⟨b,o+j,none⟩=some v) ∧
    (∀v∈vs,v.oneCell' = true)∧∀j,j<cs.length→(E.role b).fP (o+j)
  | [],_,_,_=>⟨[],by simp[RL],fun j v h=>by simp at h,fun v hv=>by simp at hv,fun j hj=>by simp at hj⟩
  | x :: xs, b, o, h => by
    simp only[c7] at h;obtain⟨⟨c,h1,U,h3,h4⟩,h5⟩:=h;obtain⟨vs,k1,k2,k3,k4⟩:=DZ h5;refine⟨c::vs,?_,fun j v hv=>?_,fun v hv=>?_,fun j hj=>?_⟩
    · simp only[RL];exact⟨h4,k1⟩
    · cases j with
      | zero=>simp at hv;subst hv;exact h1
      | succ j=>simp at hv;rw[show o+(j+1)=o+1+j from by omega];exact k2 j v hv
    · rcases j_.1 hv with rfl | hv
      · exact h3
      · exact k3 v hv
    · cases j with
      | zero=>exact U
      | succ j=>rw[show o+(j+1)=o+1+j from by omega];exact k4 j (by simpa using hj)
theorem y4 {E:Env} {b:Nat}:∀{cs:List V} {vs:List Value} {o:Nat},RL E cs vs→(∀v∈vs,v.oneCell' = true)→(∀(j:Nat) v,vs[j]?=some v→E.w.cell? ⟨b,o+j,none⟩=some v) →
    (∀j,j<cs.length→(E.role b).fP (o+j))→c7 E cs b o
  | [],_,_,_,_,_,_=>by simp[c7]
  | _::_,[],_,h,_,_,_=>by simp[RL] at h
  | x :: xs, v :: vs, o, h, h1, U, h3 => by
    simp only[RL] at h;simp only[c7];refine⟨⟨v,by simpa using U 0 v (by simp),by simpa using h3 0 (by simp),h1 v (by simp),h.1⟩,y4 h.2 (fun u hu=>h1 u (by simp[hu])) (fun j u hu=>?_) (fun j hj=>?_)⟩
    · rw[show o+1+j=o+(j+1) from by omega];exact U (j+1) u (by simpa using hu)
    · rw[show o+1+j=o+(j+1) from by omega];exact h3 (j+1) (by simpa using hj)
structure Src (P:Program) (w:World) (size m:Nat) (ty:TypeId) (x:Value) (news:List Value):Prop where
  ty:∃d,P.underlying ty=some d∧∀k,d≠.int k
  len:∀w',(Builtin.lenOf x).run P w' = .ok m w'
  cells:(Builtin.firstCells size m x).run P w = .ok news.toArray w
  mz : (Builtin.firstCells size m x).run P w.drew = .ok news.toArray w.drew
  size:news.length=m*size
section
variable {P:Program} {w:World} {t u ty e:TypeId} {i:TypeInfo} {z:Value}
theorem Xy (ht:P.underlying t=some (.slice e)) (hi:P.info? e=some i) {base:Option Addr} {n cap:Nat} (hn:n≤cap) {x:Value} (hx:Src P w i.size 0 u x []) :
    (Builtin.append_ #[t,u] ty #[.slice base n cap,x]).run P w = .ok (.slice base n cap) w:=by
  obtain⟨d,hd,hk⟩:=hx.ty;cases base<;>simp[Builtin.append_,run_underlying ht,run_underlying hd,sizeOf,typeInfo,hi,hx.len,hn,hx.cells,storeCells]
theorem L8 (ht:P.underlying t=some (.slice e)) (hi:P.info? e=some i) {g n cap m:Nat} {cur:Array Value} {e' : TypeId} (hg:w.heap[g]?=some (.cells cur e' (0,0)))
    {x:Value} {news:List Value} (hx:Src P w i.size m u x news) (h1:∀v∈news,v.oneCell' = true) (mH:n+m≤cap) (mF:n*i.size+news.length≤cur.size) :
    (Builtin.append_ #[t,u] ty #[.slice (some ⟨g,0,none⟩) n cap,x]).run P w =
      .ok (.slice (some ⟨g,0,none⟩) (n+m) cap) (w.setRow g (cur.toList.take (n*i.size)++news++cur.toList.drop (n*i.size+news.length)).toArray):=by
  obtain⟨d,hd,hk⟩:=hx.ty;have dH:=run_storeCells_at (P:=P) g (n*i.size) e' news 0 cur w hg (by simpa using mF) h1;simp only[rL] at dH;simp[Builtin.append_,run_underlying ht,run_underlying hd,sizeOf,typeInfo,hi,hx.len,mH,hx.cells,kb,dH]
theorem L7 (ht:P.underlying t=some (.slice e)) (hi:P.info? e=some i) (hzv:i.zero=some z) {base:Option Addr} {n cap m:Nat} {fT:List Value}
    (ho:(Builtin.firstCells i.size n (.slice base n cap)).run P w.drew = .ok fT.toArray w.drew)
    {x:Value} {news:List Value} (hx:Src P w i.size m u x news) (hg:cap<n+m) (hb:(n+m)*i.bytes≤140737488355328) (hs:n+m≤9223372036854775807) :
    (Builtin.append_ #[t,u] ty #[.slice base n cap,x]).run P w =
      .ok (.slice (some ⟨w.heap.size,0,none⟩) (n+m) (grownCap w (n+m) cap e))
        (w.drew.alloc (.cells (fT++(news++(Builtin.zeroCells z.cells (grownCap w (n+m) cap e - (n+m))).toList)).toArray e)):=by
  obtain⟨d,hd,hk⟩:=hx.ty;have hn:¬(n+m≤cap):=by omega
  have aiP : ¬(9223372036854775807<((n:Int)+(m:Int))):=by omega
  have mF:=growslice_fits (need:=n+m) (old:=cap) (bytes:=i.bytes) hg hb;have aiO : ¬(281474976710656<Builtin.nextslicecap (n+m) cap*i.bytes):=by omega
  have iK : (Builtin.firstCells i.size m x).run P w.drew = .ok news.toArray w.drew:=hx.mz;simp[Builtin.append_,run_underlying ht,run_underlying hd,sizeOf,typeInfo,zeroValue,hi,hzv,hx.len,hn,aiP,aiO,Question.forced,ho,iK,newRow,grownCap];congr 2;apply A0;simp
end
theorem G2 {P:Program} {E:Env} {u e' : TypeId} (hu:P.underlying u=some (.slice e')) {t' : Tk} {k:Nat} {m:List (List V)} {x:Value} (h:R E (.sl t' k m) x) :
    ∃news,Src P E.w k m.length u x news∧RL E.nl m.flatten news∧(∀v∈news,v.oneCell' = true)∧∀y∈m,y.length=k:=by
  simp only[R] at h;obtain⟨a,cap,rfl,_,h3,_⟩:=h;have UB:∃d,P.underlying u=some d∧∀k,d≠.int k:=⟨_,hu,fun _ h=>by simp at h⟩
  rcases h3 with rfl | ⟨b,o,rfl,hr⟩
  · refine⟨[],⟨UB,fun w' => by simp[Builtin.lenOf],?_,?_,by simp⟩,by simp[RL],fun v hv=>by simp at hv,fun y hy=>by simp at hy⟩ <;>
      cases a<;>simp[Builtin.firstCells,loadCells,loadCellsFrom]
  · obtain⟨h1,U⟩:=oH.1 hr;obtain⟨vs,k1,k2,k3,_⟩:=DZ U;have hl:=eM k1;rw[jr h1] at hl;have hc:∀(j:Nat) v,vs[j]?=some v→E.w.cell? ((⟨b,o,none⟩:Addr).add j)=some v:=fun j v hv=>by rw[kb];exact k2 j v hv
    refine⟨vs,⟨UB,fun w' => by simp[Builtin.lenOf],?_,?_,hl.symm⟩,k1,k3,h1⟩
    · have:=run_loadCells_list (P:=P) E.w ⟨b,o,none⟩ vs hc
      simp only[Builtin.firstCells];rw[hl];exact this
    · have:=run_loadCells_list (P:=P) E.w.drew ⟨b,o,none⟩ vs hc
      simp only[Builtin.firstCells];rw[hl];exact this
theorem V_ {P:Program} {E:Env} {k:Nat} {l:List (List V)} {a:Option Addr} {cap:Nat} (h3:l=[]∨∃b o,a=some ⟨b,o,none⟩∧ek E.nl k l b o) :
    ∃fT,(Builtin.firstCells k l.length (.slice a l.length cap)).run P E.w.drew = .ok fT.toArray E.w.drew∧RL E.nl l.flatten fT∧(∀v∈fT,v.oneCell' = true)∧(∀y∈l,y.length=k)∧fT.length=l.length*k:=by
  rcases h3 with rfl | ⟨b,o,rfl,hr⟩
  · refine⟨[],?_,by simp[RL],fun v hv=>by simp at hv,fun y hy=>by simp at hy,by simp⟩;cases a<;>simp[Builtin.firstCells,loadCells,loadCellsFrom]
  · obtain⟨h1,U⟩:=oH.1 hr;obtain⟨vs,k1,k2,k3,_⟩:=DZ U;have hl:=eM k1;rw[jr h1] at hl;have hc:∀(j:Nat) v,vs[j]?=some v→E.w.cell? ((⟨b,o,none⟩:Addr).add j)=some v:=fun j v hv=>by rw[kb];exact k2 j v hv
    refine⟨vs,?_,k1,k3,h1,hl.symm⟩
    have:=run_loadCells_list (P:=P) E.w.drew ⟨b,o,none⟩ vs hc
    simp only[Builtin.firstCells];rw[hl];exact this
section
variable {P:Program} {E:Env} {st:St} {a:Act} {o:Oper} {K:V→St→Prop} {Q:Exit→Act→World→Prop}
theorem D0 {E' : Env} {k nb:Nat} {l:List (List V)} {vs rest:List Value} {e:TypeId} {fr:Nat × Nat} (hl:∀y∈l,y.length=k) (hr:RL E'.nl l.flatten vs) (h1:∀v∈vs,v.oneCell' = true)
    (hb:E'.w.heap[nb]?=some (.cells (vs++rest).toArray e fr)) (hc:∀j,j<l.length*k→(E'.role nb).fP j):ek E'.nl k l nb 0:=by
  refine oH.2 ⟨hl,y4 hr h1 (fun j v hv=>?_) (fun j hj=>by rw[jr hl] at hj;simpa using hc j hj)⟩;have aj:=(dD.1 hv).1;simp[World.cell?,hb,oC aj,hv]
theorem Ds (hs:bc E st a) {t u ty e:TypeId} {i:TypeInfo} {z:Value} (ht:P.underlying t=some (.slice e)) (hi:P.info? e=some i) (hz:i.zero=some z) (gU:z.cells.size=i.size)
    (lq:i.bytes≤4096) {vs vx:Value} {tk:Tk} {l m:List (List V)}
    (cn:(execOp a.eval o).run P E.w=((Builtin.append_ #[t,u] ty #[vs,vx]).run P E.w).andThen fun v w' => .ok (.value v) w')
    (dh:R E (.sl tk i.size l) vs) {news:List Value} (pg:Src P E.w i.size m.length u vx news) (p9:RL E.nl m.flatten news) (ey:∀v∈news,v.oneCell' = true) (hm:∀y∈m,y.length=i.size)
    (hbig:l.length+m.length≤aF)
    (hk:match (generalizing:=false) tk with
      | .full=>(∀τ,st.out.aC τ=none→K (.sl (.tk τ) i.size (l++m)) ⟨st.t,st.loc,st.out.aL τ (l.length+m.length)⟩)∨K (.sl .no i.size (l++m)) st
      | .tk τ=>st.out.aC τ=some l.length∧K (.sl (.tk τ) i.size (l++m)) ⟨st.t,st.loc,st.out.aL τ (l.length+m.length)⟩
      | .no=>False):o.wp P a E.w (cZ E a o.dst K) Q:=by
  simp only[R] at dh;obtain⟨base,cap,rfl,xD,kl,ph⟩:=dh;obtain⟨fT,hold,Jk,I8,cW,hlen⟩:=V_ (P:=P) (cap:=cap) kl;have B2:(l.length+m.length)*i.bytes≤140737488355328:=by
    have:=NL hbig lq
    simp only[aF] at this;omega
  have Cn:l.length+m.length≤9223372036854775807:=by simp only[aF] at hbig;omega
  have b8:∀y∈l++m,y.length=i.size:=fun y hy=>by
    rcases il.1 hy with h | h
    · exact cW y h
    · exact hm y h
  have Jj:RL E.nl (l++m).flatten (fT++news):=by rw[pH];exact rP Jk p9
  have Tx:∀v∈fT++news,v.oneCell' = true:=fun v hv=>by
    rcases il.1 hv with h | h
    · exact I8 v h
    · exact ey v h
  have p7:=pg.size
  -- the ways on which the row is laid anew
  have grow:cap<l.length+m.length→(execOp a.eval o).run P E.w = .ok (.value (.slice (some ⟨E.w.heap.size,0,none⟩) (l.length+m.length) (grownCap E.w (l.length+m.length) cap e)))
      (E.w.drew.alloc (.cells (fT++(news++(Builtin.zeroCells z.cells (grownCap E.w (l.length+m.length) cap e - (l.length+m.length))).toList)).toArray e)):=fun aj=>by
    rw[cn,L7 (P:=P) ht hi hz hold pg aj B2 Cn];rfl
  have idle:m=[]→(execOp a.eval o).run P E.w = .ok (.value (.slice base l.length cap)) E.w:=fun h0=>by
    subst h0
    have:news=[]:=oB (by simpa using p7)
    subst this;rw[cn,Xy (P:=P) ht hi xD pg];rfl
  have ni:=grownCap_ge E.w (l.length+m.length) cap e;have size:cap<l.length+m.length→(fT++(news++(Builtin.zeroCells z.cells (grownCap E.w (l.length+m.length) cap e - (l.length+m.length))).toList)).toArray.size=grownCap E.w (l.length+m.length) cap e*i.size:=fun _=>by
    simp only[NG,bw,yR,size_zeroCells,gU,hlen,p7];rw[←DS,←gP,←gP];congr 1;omega
  generalize grownCap E.w (l.length+m.length) cap e=nc at grow ni size;generalize tW:(Builtin.zeroCells z.cells (nc - (l.length+m.length))).toList=rest at grow size;have aiZ:fT++(news++rest)=(fT++news)++rest:=by simp
  rw[aiZ] at grow size
  -- the row laid anew,as the last of its line
  have Tv:∀τ,(E.aC τ=none∨E.aC τ=some l.length)→cap<l.length+m.length→0<m.length→K (.sl (.tk τ) i.size (l++m)) ⟨st.t,st.loc,st.out.aL τ (l.length+m.length)⟩ →
      o.wp P a E.w (cZ E a o.dst K) Q:=fun τ bh aj gT hK=>by
    let E' : Env:={w:=E.w.drew.alloc (.cells ((fT++news)++rest).toArray e),
                      role:=fun b=>if b=E.w.heap.size then .fA τ ((l.length+m.length)*i.size) else match E.role b with | .fA t c=>if t=τ then .const else .fA t c | r=>r,
                      loc:=E.loc,aC:=fun t=>if t=τ then some (l.length+m.length) else E.aC t}
    have hx:Ext E.w E'.w:=((Ext.refl _).drew).alloc _ _;have fI:∀b,b<E.w.heap.size→E'.role b=match E.role b with | .fA t c=>if t=τ then .const else .fA t c | r=>r:=fun b hb=>by
      simp only[E'];rw[ah (by omega)]
    have Kf:E'.w.heap.size=E.w.heap.size+1:=by simp[E']
    have JX:∀b,b<E.w.heap.size→∀t c,E'.role b = .fA t c→E.role b = .fA t c:=fun b hb t c h=>by
      rw[fI b hb] at h;cases hq:E.role b<;>rw[hq] at h<;>simp at h;split at h<;>simp at h;obtain⟨rfl,rfl⟩:=h;rfl
    have aS:Fr E E' := by
      refine⟨rfl,rfl,rfl,hx.size,hx.eZ,?_,?_,?_,?_,?_,?_,fun b c e hb=>⟨c,(hx.block b (jC hb)).trans hb,rfl⟩⟩
      · intro b o' c hc hv;have hb:=VF hv;refine⟨?_,by rw[zg (hx.block b hb)];exact hv⟩;rw[fI b hb];cases hq:E.role b<;>rw[hq] at hc<;>simp only[]
        all_goals first | exact hc | (split<;>first | trivial | exact hc)
      · intro t n hn
        by_cases pj:t=τ
        · subst pj;have Uc : n=l.length:=by rcases bh with h | h<;>rw[h] at hn<;>simp at hn;exact hn.symm
          exact⟨l.length+m.length,by simp[E'],by omega,fun h=>by omega⟩
        · refine⟨n,by simp only[E'];rw[ah pj];exact hn,bt _,fun _ b c hb=>?_⟩;have kq : b<E.w.heap.size:=by
            rcases nS b E.w.heap.size with h | h
            · exact h
            · rw[hs.ok.fresh b h] at hb;simp at hb
          refine⟨by rw[fI b kq,hb];simp[pj],fun cs zk hcs=>⟨cs,by rw[hx.block b kq];exact hcs,rfl⟩⟩
      · intro b hb hr;refine⟨hx.block b hb,?_⟩;rw[fI b hb]
        rcases hr with hr | hr<;>rw[hr]
      · intro b hb h;rw[fI b hb] at h;cases hq:E.role b<;>rw[hq] at h<;>first | exact .inl rfl | (simp at h;done) | (simp only[] at h;split at h<;>simp at h)
      · intro b t c hb h;exact⟨c,JX b hb t c h⟩
      · intro b i' hb h;rw[fI b hb] at h;cases hq:E.role b<;>rw[hq] at h<;>try (simp at h;done)
        · exact⟨_,rfl⟩
        · simp only[] at h;split at h<;>simp at h
    have hle:E.le E' := aS.le fun _ _ h=>h
    unfold Oper.wp;rw[grow aj];refine⟨E',_,_,⟨st.t,st.loc,st.out.aL τ (l.length+m.length)⟩,rfl,aS,⟨⟨?_,?_,?_,?_,fun b cs hc=>c7.mono _ aS.nl (hs.ok.bR b cs hc)⟩,?_,hs.defers,RL.mono _ hle hs.slot⟩,?_,rfl,hK⟩
    · intro b cs hcs;obtain⟨k1,k2⟩:=hs.ok.box b cs hcs;have kq : b<E.w.heap.size:=by obtain⟨c,e,h3,_⟩:=k2;exact jC (w:=E.w) h3
      exact⟨by rw[fI b kq,k1],k2.mono aS.nl (hx.block b kq)⟩
    · intro t n jT;simp only[ae.aL] at jT;simp only[E'];split at jT
      · rename_i h;rw[ak h];exact jT
      · rename_i h;rw[ah h];exact hs.ok.aC t n jT
    · intro b hb;rw[Kf] at hb;simp only[E'];rw[ah (by omega),hs.ok.fresh b (by omega)]
    · obtain⟨N,hN⟩:=hs.ok.nt;exact⟨max N (τ+1),fun t zT => by simp only[E'];rw[ah (by omega)];exact hN t (by omega)⟩
    · exact nC hs.cg hle (fun b i' hr kq => ⟨by rw[fI b kq,hr],hx.block b kq⟩) hs.cg.none
    · have p8:E'.w.heap[E.w.heap.size]?=some (.cells ((fT++news)++rest).toArray e (0,0)):=heap_alloc_new E.w.drew _;have dR:E'.role E.w.heap.size = .fA τ ((l.length+m.length)*i.size):=by simp[E']
      simp only[R,bw];refine⟨some ⟨E.w.heap.size,0,none⟩,nc,rfl,ni,.inr ⟨_,_,rfl,D0 b8 (RL.mono _ aS.nl Jj) Tx p8 (fun j hj=>by rw[dR];simpa [dO.fP] using hj)⟩,l.length+m.length,by simp[E'],bt _,fun _=>.inr ⟨_,_,_,rfl,dR,p8,size aj⟩⟩
  -- the state where only a tip is new
  have YB:∀τ,(E.aC τ=none∨E.aC τ=some l.length)→m=[]→cap=l.length∨E.aC τ=some l.length→K (.sl (.tk τ) i.size (l++m)) ⟨st.t,st.loc,st.out.aL τ (l.length+m.length)⟩ →
      rR {E with aC:=fun t=>if t=τ then some l.length else E.aC t} i.size l.length base cap (.tk τ)→o.wp P a E.w (cZ E a o.dst K) Q:=fun τ bh n8 _ hK bM=>by
    let E' : Env:={E with aC:=fun t=>if t=τ then some l.length else E.aC t}
    have aS:Fr E E' := vh (E' := E') hs.ok.fresh (Ext.refl _) (fun _ _=>rfl) (fun t n hn=>by
      simp only[E'];split
      · rename_i h;subst h;rcases bh with h | h<;>rw[h] at hn<;>simp at hn;rw[hn]
      · exact hn)
    have hle:E.le E' := aS.le fun _ _ h=>h
    unfold Oper.wp;rw[idle n8];refine⟨E',_,_,⟨st.t,st.loc,st.out.aL τ (l.length+m.length)⟩,rfl,aS,⟨⟨?_,?_,hs.ok.fresh,?_,fun b cs hc=>c7.mono _ aS.nl (hs.ok.bR b cs hc)⟩,?_,hs.defers,RL.mono _ hle hs.slot⟩,?_,rfl,hK⟩
    · intro b cs hcs;obtain⟨k1,k2⟩:=hs.ok.box b cs hcs;exact⟨k1,k2.mono aS.nl rfl⟩
    · intro t n jT;subst n8;simp only[ae.aL,dv,rL] at jT;simp only[E'];split at jT
      · rename_i h;rw[ak h];exact jT
      · rename_i h;rw[ah h];exact hs.ok.aC t n jT
    · obtain⟨N,hN⟩:=hs.ok.nt;exact⟨max N (τ+1),fun t zT => by simp only[E'];rw[ah (by omega)];exact hN t (by omega)⟩
    · exact nC hs.cg hle (fun b i' hr kq => ⟨hr,rfl⟩) hs.cg.none
    · subst n8;simp only[R,dn];refine⟨base,cap,rfl,xD,?_,bM⟩
      rcases kl with h | ⟨b,o',h,hr⟩
      · exact .inl h
      · exact .inr ⟨b,o',h,ek.mono _ aS.nl hr⟩
  cases tk with
  | no=>exact hk.elim
  | full =>
    simp only[rR] at ph
    rcases hk with hk | hk
    · obtain⟨N,hN⟩:=hs.ok.nt;have JL:st.out.aC N=none:=by
        cases h:st.out.aC N with
        | none=>rfl
        | some n=>have:=hs.ok.aC N n h;rw[hN N (bt _)] at this;simp at this
      have hK:=hk N JL
      rcases HR m.length with h0 | h0
      · have n8:=oB h0;exact YB N (.inl (hN N (bt _))) n8 (.inl ph) hK ⟨l.length,by simp,bt _,fun _=>.inl ph⟩
      · exact Tv N (.inl (hN N (bt _))) (by omega) h0 hK
    · rcases HR m.length with h0 | h0
      · have n8:=oB h0;refine cq hs (idle n8) ?_ hk;subst n8;simp only[R,dn];exact⟨base,cap,rfl,xD,kl,trivial⟩
      · refine YZ hs (((Ext.refl _).drew).alloc _ _) (grow (by omega)) ?_ hk;have p8:(E.w.drew.alloc (.cells ((fT++news)++rest).toArray e)).heap[E.w.heap.size]?=some (.cells ((fT++news)++rest).toArray e (0,0)):=heap_alloc_new E.w.drew _;obtain⟨aS,_,_⟩:=AB hs (((Ext.refl E.w).drew).alloc ((fT++news)++rest).toArray e);simp only[R,bw];exact⟨some ⟨E.w.heap.size,0,none⟩,nc,rfl,ni,.inr ⟨_,_,rfl,D0 b8 (RL.mono _ aS.nl Jj) Tx p8 (fun j _=>by rw[show ({E with w:=E.w.drew.alloc (.cells ((fT++news)++rest).toArray e)}:Env).role E.w.heap.size = .const from hs.ok.fresh _ (bt _)];trivial)⟩,trivial⟩
  | tk τ =>
    obtain⟨bh,hK⟩:=hk;have hE:=hs.ok.aC τ _ bh;obtain⟨n',h1,_,h3⟩:=ph;rw[hE] at h1;simp only[aH] at h1;subst h1
    rcases HR m.length with h0 | h0
    · have n8:=oB h0;exact YB τ (.inr hE) n8 (.inr hE) hK ⟨l.length,by simp,bt _,h3⟩
    · rcases nS cap (l.length+m.length) with aj | mH
      · exact Tv τ (.inr hE) aj h0 hK
      · rcases h3 rfl with hc | ⟨b,cs,e',rfl,cL,dQ,bO⟩
        · omega
        · have mF:l.length*i.size+news.length≤cs.size:=by
            rw[p7,bO,←gP];exact nT _ mH
          have iu:=L8 (P:=P) (ty:=ty) ht hi dQ pg ey mH mF;have si:∀j:Nat,(cs.toList.take (l.length*i.size)++news++cs.toList.drop (l.length*i.size+news.length)).toArray[j]?=if j<l.length*i.size then cs[j]? else if j<l.length*i.size+news.length then news[j - l.length*i.size]? else cs[j]?:=fun j=>by
            have:=C' (c:=cs.toList) (vs:=news) (off:=l.length*i.size) (by simpa using mF) j
            simpa using this
          have qe:(cs.toList.take (l.length*i.size)++news++cs.toList.drop (l.length*i.size+news.length)).toArray.size=cs.size:=by
            simp;omega
          generalize (cs.toList.take (l.length*i.size)++news++cs.toList.drop (l.length*i.size+news.length)).toArray=new at iu si qe;have ai1:l.length*i.size≤(l.length+m.length)*i.size:=nT _ (by omega)
          let E' : Env:={w:=E.w.setRow b new,role:=fun b' => if b' = b then .fA τ ((l.length+m.length)*i.size) else E.role b',loc:=E.loc,aC:=fun t=>if t=τ then some (l.length+m.length) else E.aC t}
          have gI:∀b',b' ≠ b→E'.w.heap[b']?=E.w.heap[b']?:=fun b' aI=>setRow_other E.w b b' new aI
          have kW:∀b',b' ≠ b→E'.role b' = E.role b' := fun b' aI=>by simp only[E'];rw[ah aI]
          have bz : E'.w.heap[b]?=some (.cells new e' (0,0)):=setRow_heap E.w b cs new e' _ dQ;have np:E'.role b = .fA τ ((l.length+m.length)*i.size):=by simp[E']
          have aI:∀b' r,E.role b' = r→(∀c,r≠.fA τ c)→b' ≠ b:=fun b' r h h' => by rintro rfl;rw[cL] at h;exact h' _ h.symm
          have aS:Fr E E' := by
            refine⟨rfl,rfl,rfl,by simp[E'],BK dQ,?_,?_,?_,?_,?_,?_,fun b' c' zk hc=>by
                by_cases bU:b' = b
                · subst bU;rw[dQ] at hc;simp only[aH,Obj.cells.injEq] at hc;obtain⟨rfl,rfl,_⟩:=hc;exact⟨new,bz,qe⟩
                · exact⟨c',(gI b' bU).trans hc,rfl⟩⟩
            · intro b' o' c hc hv
              by_cases bU:b' = b
              · subst bU;rw[cL] at hc;simp only[dO.fP] at hc;refine⟨by rw[np];simp only[dO.fP];omega,?_⟩;simp only[World.cell?,dQ] at hv;simp only[World.cell?,bz,si,ak hc];exact hv
              · exact⟨by rw[kW b' bU];exact hc,by rw[zg (gI b' bU)];exact hv⟩
            · intro t n hn
              by_cases pj:t=τ
              · subst pj;rw[hE] at hn;simp only[aH] at hn;exact⟨l.length+m.length,by simp[E'],by omega,fun h=>by omega⟩
              · refine⟨n,by simp only[E'];rw[ah pj];exact hn,bt _,fun _ b' c xC=>?_⟩;have bU:b' ≠ b:=aI b' _ xC (fun c' h=>by simp at h;exact pj h.1);exact⟨by rw[kW b' bU];exact xC,fun cs' zk hcs=>⟨cs',by rw[gI b' bU];exact hcs,rfl⟩⟩
            · intro b' _ hr;have bU:b' ≠ b:=by rcases hr with hr | hr<;>exact aI b' _ hr (fun c h=>by simp at h)
              exact⟨gI b' bU,kW b' bU⟩
            · intro b' _ h;have bU:b' ≠ b:=by rintro rfl;rw[np] at h;simp at h
              rw[kW b' bU] at h;exact .inl h
            · intro b' t c _ h
              by_cases bU:b' = b
              · subst bU;rw[np] at h;simp at h;obtain⟨rfl,_⟩:=h;exact⟨_,cL⟩
              · rw[kW b' bU] at h;exact⟨c,h⟩
            · intro b' i' _ h;have bU:b' ≠ b:=by rintro rfl;rw[np] at h;simp at h
              rw[kW b' bU] at h;exact⟨_,h⟩
          have hle:E.le E' := aS.le fun _ _ h=>h
          unfold Oper.wp;rw[cn,iu];refine⟨E',_,_,⟨st.t,st.loc,st.out.aL τ (l.length+m.length)⟩,rfl,aS,⟨⟨?_,?_,?_,?_,fun b cs hc=>c7.mono _ aS.nl (hs.ok.bR b cs hc)⟩,?_,hs.defers,RL.mono _ hle hs.slot⟩,?_,rfl,hK⟩
          · intro b' cs' hcs;obtain⟨k1,k2⟩:=hs.ok.box b' cs' hcs;have bU:b' ≠ b:=aI b' _ k1 (fun c h=>by simp at h);exact⟨by rw[kW b' bU];exact k1,k2.mono aS.nl (gI b' bU)⟩
          · intro t n jT;simp only[ae.aL] at jT;simp only[E'];split at jT
            · rename_i h;rw[ak h];exact jT
            · rename_i h;rw[ah h];exact hs.ok.aC t n jT
          · intro b' n6;have bU:b' ≠ b:=by
              rintro rfl
              have:=jC dQ
              simp[E'] at n6;omega
            rw[kW b' bU];exact hs.ok.fresh b' (by simpa [E'] using n6)
          · obtain⟨N,hN⟩:=hs.ok.nt;exact⟨max N (τ+1),fun t zT => by simp only[E'];rw[ah (by omega)];exact hN t (by omega)⟩
          · refine nC hs.cg hle (fun b' i' hr _=>?_) hs.cg.none;have bU:b' ≠ b:=aI b' _ hr (fun c h=>by simp at h);exact⟨by rw[kW b' bU];exact hr,gI b' bU⟩
          · have aud:RL E'.nl (l++m).flatten (fT++news):=RL.mono _ aS.nl Jj
            -- the cells of the row,as they now are
            have Ji:ek E'.nl i.size (l++m) b 0:=by
              have Cd:ek E.nl i.size l b 0:=by
                rcases kl with h | ⟨b2,o2,h,hr⟩
                · subst h;simp[ek]
                · simp only[aH,Addr.mk.injEq] at h;obtain⟨rfl,rfl,_⟩:=h;exact hr
              refine oH.2 ⟨b8,?_⟩;rw[pH];refine uU.2 ⟨(oH.1 (ek.mono _ aS.nl Cd)).2,y4 (RL.mono _ aS.nl p9) ey (fun j v hv=>?_) (fun j hj=>?_)⟩
              · have hj:=(dD.1 hv).1;rw[jr cW];simp only[Env.V0,World.cell?,bz,si];simp only[Be,cI,bP];rw[ah (show ¬(0+l.length*i.size+j<l.length*i.size) by omega),ak (show 0+l.length*i.size+j<l.length*i.size+news.length by omega)];rw[show 0+l.length*i.size+j - l.length*i.size=j from by omega];exact hv
              · rw[jr cW];rw[jr hm] at hj;simp only[Env.VZ,np,dO.fP];rw[gP];omega
            simp only[R,bw];exact⟨some ⟨b,0,none⟩,cap,rfl,mH,.inr ⟨b,0,rfl,Ji⟩,l.length+m.length,by simp[E'],bt _,fun _=>.inr ⟨b,new,e',rfl,np,bz,qe.trans bO⟩⟩
end
section
variable {P:Program} {E:Env} {st:St} {a:Act} {o:Oper} {K:V→St→Prop} {Q:Exit→Act→World→Prop}
theorem Y0 (hs:bc E st a) {x:Operand} {v:V} (ho:o.op = .move x∨o.op = .assign x) (hx:R E v (a.eval x)) (hk:K v st):o.wp P a E.w (cZ E a o.dst K) Q :=
  cq hs (by rcases ho with ho | ho<;>simp[execOp,ho]) hx hk
theorem att (hs:bc E st a) {c x y:Operand} {vc vx vy:V} (ho:o.op = .pick c x y) (hc:R E vc (a.eval c)) (hx:R E vx (a.eval x)) (hy:R E vy (a.eval y))
    (hk:match (generalizing:=false) vc with | .bool true=>K vx st | .bool false=>K vy st | _=>False):o.wp P a E.w (cZ E a o.dst K) Q:=by
  cases vc<;>try exact False.elim hk
  rename_i b;simp only[R] at hc;cases b
  · exact cq hs (by simp[execOp,ho,hc,asBool]) hy hk
  · exact cq hs (by simp[execOp,ho,hc,asBool]) hx hk
theorem as7 (hs:bc E st a) {t:TypeId} {zs:List V} (ho:o.op = .alloc t) (hz:iO P t=some zs) (hk:K (.ptr (.loc st.loc.length) 0) ⟨st.t,st.loc++[zs],st.out⟩) :
    o.wp P a E.w (cZ E a o.dst K) Q:=by
  obtain⟨i,z,h1,U,h3,_⟩:=qw hz;refine Y1 hs (c:=z.cells) (e:=t) ?_ (oS h3) hk;simp[execOp,ho,Instr.alloc,zeroValue,typeInfo,h1,U,newVar,newRow]
theorem ata (hs:bc E st a) {t:TypeId} {x:Operand} {n:Nat} {v:V} (ho:o.op = .box t x) (hx:R E v (a.eval x)) (hw:v.wd=some n) (hk:K (.ptr (.loc st.loc.length) 0) ⟨st.t,st.loc++[v.cells],st.out⟩) :
    o.wp P a E.w (cZ E a o.dst K) Q:=by
  refine Y1 hs (c:=(a.eval x).cells) (e:=t) ?_ (uW hx hw).1 hk;simp[execOp,ho,Instr.box,newVar,newRow]
theorem atr (hs:bc E st a) {x:Operand} {v:V} (ho:o.op = .nilCheck x) (hx:R E v (a.eval x))
    (hk:match (generalizing:=false) v with | .ptr p o=>K (.ptr p o) st | .elt c o=>K (.elt c o) st | .fn (.func f) a b=>K (.fn (.func f) a b) st | _=>False):o.wp P a E.w (cZ E a o.dst K) Q:=by
  cases v<;>try exact False.elim hk
  case ptr p off =>
    refine cq hs (v:=.ptr p off) (x:=a.eval x) ?_ hx hk;cases p<;>simp only[R] at hx
    · obtain⟨b,_,h⟩:=hx;simp[execOp,ho,h]
    · simp[execOp,ho,hx]
    · simp[execOp,ho,hx]
  case elt c off =>
    refine cq hs (v:=.elt c off) (x:=a.eval x) ?_ hx hk;simp only[R] at hx;obtain⟨b,o',h,_⟩:=hx;simp[execOp,ho,h]
  case fn f as bs =>
    cases f<;>try exact False.elim hk
    rename_i f;refine cq hs (v:=.fn (.func f) as bs) (x:=a.eval x) ?_ hx hk;simp only[R] at hx;obtain⟨fs,cs,h,_⟩:=hx;simp[execOp,ho,h]
theorem as9 (hs:bc E st a) {op:BinOp} {t t' : TypeId} {x y:Operand} {vx vy:V} (ho:o.op = .binOp op t x y t') (hx:R E vx (a.eval x)) (hy:R E vy (a.eval y))
    (hk:opt (rV op vx vy) (K2 K st)):o.wp P a E.w (cZ E a o.dst K) Q:=by
  unfold opt K2 at hk;split at hk
  case h_2=>exact hk.elim
  rename_i v hv;unfold rV at hv;split at hv
  case h_2=>simp at hv
  rename_i k n k' m;split at hv
  case isFalse=>simp at hv
  rename_i gH;simp only[R] at hx hy
  by_cases FC:x6 op=true
  · cases op<;>simp only[x6,cI] at FC
    · simp only[gV] at hv;split at hv
      case isTrue=>simp at hv
      rename_i hm;simp only[aH] at hv;subst hv;refine cq hs (x:=.int k (k.wrap (n*2^(Nat.min m.toNat k.bits)))) ?_ (by simp only[R]) hk;simp only[execOp,ho,hx,hy];simp[eqGuard,binOp,Op.shift,hm]
    · simp only[gV] at hv;split at hv
      case isTrue=>simp at hv
      rename_i hm;simp only[aH] at hv;subst hv;refine cq hs (x:=.int k (n.fdiv (2^(Nat.min m.toNat k.bits)))) ?_ (by simp only[R]) hk;simp only[execOp,ho,hx,hy];simp[eqGuard,binOp,Op.shift,hm]
  have gH:=gH.resolve_right FC;obtain rfl:=FL gH;cases op<;>simp only[gV,aH] at hv<;>try (simp at hv;done)
  case shl=>simp[x6] at FC
  case shr=>simp[x6] at FC
  case quo =>
    split at hv
    case isTrue=>simp at hv
    rename_i hm;simp only[aH] at hv;subst hv;refine cq hs (by simp only[execOp,ho,hx,hy];simp only[eqGuard,binOp,Op.intDiv];simp[hm];rfl) (by simp only[R];try rfl) hk
  case rem =>
    split at hv
    case isTrue=>simp at hv
    rename_i hm;simp only[aH] at hv;subst hv;refine cq hs (by simp only[execOp,ho,hx,hy];simp only[eqGuard,binOp,Op.intDiv];simp[hm];rfl) (by simp only[R];try rfl) hk
  case andNot =>
    subst hv;refine cq hs (x:=.int k (k.wrap ((BitVec.ofInt k.bits n&&&~~~BitVec.ofInt k.bits m).toNat:Nat))) ?_ (by simp only[R]) hk;simp only[execOp,ho,hx,hy];simp only[eqGuard,binOp,Op.intBits];simp
  all_goals
    subst hv;refine cq hs (by simp only[execOp,ho,hx,hy];simp only[eqGuard,binOp,Op.intArith,Op.intCmp,Op.intBits];simp;first | rfl | simp) (by simp only[R];try rfl) hk
theorem Vv (x y:List UInt8):(x == y)=decide (x=y):=by
  rw[Dz];simp
theorem as_ (hs:bc E st a) {op:BinOp} {t t' : TypeId} {x y:Operand} {vx vy:V} (ho:o.op = .binOp op t x y t') (hx:R E vx (a.eval x)) (hy:R E vy (a.eval y))
    (hk:opt (wP op vx vy) (K2 K st)):o.wp P a E.w (cZ E a o.dst K) Q:=by
  unfold opt K2 at hk;split at hk
  case h_2=>exact hk.elim
  rename_i v hv;unfold wP at hv;split at hv
  case h_2=>simp at hv
  rename_i n m;simp only[R] at hx hy;cases op<;>simp only[uz,aH] at hv<;>try (simp at hv;done)
  all_goals
    subst hv;refine cq hs (by simp only[execOp,ho,hx,hy];simp only[eqGuard,binOp,Op.stringOp,ByteArray.toList_mk];simp[Vv];rfl) (by simp[R]) hk
theorem ate (hs:bc E st a) {t t' : TypeId} {x y:Operand} {vx vy:V} (ho:o.op = .binOp .add t x y t') (hx:R E vx (a.eval x)) (hy:R E vy (a.eval y))
    (hk:∃m n,vx = .str m∧vy = .str n∧m.length+n.length≤aF∧K (.str (m++n)) st):o.wp P a E.w (cZ E a o.dst K) Q:=by
  obtain⟨m,n,rfl,rfl,hb,hk⟩:=hk;simp only[R] at hx hy;have bO:¬(9223372036854775807<((m.length:Int)+(n.length:Int))):=by simp only[aF] at hb;omega
  have e1:(⟨m.toArray⟩:ByteArray).size=m.length:=by simp[ByteArray.size]
  have e2:(⟨n.toArray⟩:ByteArray).size=n.length:=by simp[ByteArray.size]
  refine cq hs (v:=.str (m++n)) (x:=.string ⟨(m++n).toArray⟩) ?_ (by simp only[R]) hk;simp only[execOp,ho,hx,hy];simp only[eqGuard,binOp,Op.stringOp,e1,e2];have e3:(⟨m.toArray⟩:ByteArray)++(⟨n.toArray⟩:ByteArray)=⟨(m++n).toArray⟩:=by
    apply ByteArray.ext;simp[ByteArray.data_append]
  simp[IntKind.max,IntKind.signed,IntKind.bits,bO,e3]
theorem YV (hs:bc E st a) {neg:Bool} {op:BinOp} (qb:op=if neg then .neq else .eql) {t t' : TypeId} (ht:P.underlying t=some .bool) {x y:Operand} {vx vy:V} (ho:o.op = .binOp op t x y t') (hx:R E vx (a.eval x)) (hy:R E vy (a.eval y))
    (hk:opt (vb neg vx vy) (K2 K st)):o.wp P a E.w (cZ E a o.dst K) Q:=by
  unfold opt K2 at hk;split at hk
  case h_2=>exact hk.elim
  rename_i v hv;unfold vb at hv;split at hv
  case h_2=>simp at hv
  rename_i m n;simp only[R] at hx hy;simp only[aH] at hv;subst hv;subst qb;cases neg
  · refine cq hs (x:=.bool (decide (m=n))) ?_ (by simp[R]) hk;simp only[execOp,ho,hx,hy];simp[eqGuard,run_eql_bool E.w t m n ht];cases m<;>cases n<;>rfl
  · refine cq hs (x:=.bool (!decide (m=n))) ?_ (by simp[R]) hk;simp only[execOp,ho,hx,hy];simp[eqGuard,run_neq_bool E.w t m n ht];cases m<;>cases n<;>rfl
theorem ats (hs:bc E st a) {t:TypeId} {x:Operand} {v:V} (ho:o.op = .unOp .not t x) (hx:R E v (a.eval x)) (hk:match (generalizing:=false) v with | .bool b=>K (.bool (!b)) st | _=>False) :
    o.wp P a E.w (cZ E a o.dst K) Q:=by
  cases v<;>try exact False.elim hk
  simp only[R] at hx;exact cq hs (by simp[execOp,ho,hx,Op.unary];rfl) (by simp only[R]) hk
theorem atn (hs:bc E st a) {t e:TypeId} {x:Operand} {v:V} (ho:o.op = .call {callee:=.builtin .len,args:=#[x],argTypes:=#[t]}) (ht:P.underlying t=some (.slice e)) (hx:R E v (a.eval x))
    (hk:match (generalizing:=false) v with | .sl _ _ l=>K (.int .i64 l.length) st | .raw (.slice _ n _)=>K (.int .i64 n) st | _=>False):o.wp P a E.w (cZ E a o.dst K) Q:=by
  cases v<;>try exact False.elim hk
  case raw u =>
    cases u<;>try exact False.elim hk
    simp only[R] at hx;exact cq hs (by simp[execOp,ho,resolve,invoke,builtin,Builtin.len_,run_underlying ht,hx];rfl) (by simp[R,goInt]) hk
  simp only[R] at hx;obtain⟨b,c,h,_⟩:=hx;exact cq hs (by simp[execOp,ho,resolve,invoke,builtin,Builtin.len_,run_underlying ht,h];rfl) (by simp[R,goInt]) hk
theorem ato (hs:bc E st a) {t:TypeId} {x:Operand} {v:V} (ho:o.op = .call {callee:=.builtin .len,args:=#[x],argTypes:=#[t]}) (ht:P.underlying t=some .string) (hx:R E v (a.eval x))
    (hk:match (generalizing:=false) v with | .str s=>K (.int .i64 s.length) st | _=>False):o.wp P a E.w (cZ E a o.dst K) Q:=by
  cases v<;>try exact False.elim hk
  simp only[R] at hx;exact cq hs (by simp[execOp,ho,resolve,invoke,builtin,Builtin.len_,run_underlying ht,hx];rfl) (by simp[R,goInt,ByteArray.size]) hk
theorem ati (hs:bc E st a) {s:TypeId} {i n:Nat} {fs:Array Field} {f:Field} {x:Operand} {v:V} (ho:o.op = .fieldAddr s x i) (ht:P.underlying s=some (.struct fs)) (hf:fs[i]?=some f)
    (hn:dd P f.type=some n) (zQ:n≠0) (hx:R E v (a.eval x)) (hk:match (generalizing:=false) v with | .ptr p o=>K (.ptr p (o+f.offset)) st | .elt c o=>K (.elt c (o+f.offset)) st | _=>False) :
    o.wp P a E.w (cZ E a o.dst K) Q:=by
  have run:∀b off:Nat,(Instr.fieldAt s (.pointer (some ⟨b,off,none⟩)) i).run P E.w = .ok (.pointer (some ⟨b,off+f.offset,none⟩)) E.w:=fun b off=>by
    simp[Instr.fieldAt,run_underlying ht,hf,Instr.sureAddr,fieldPlace,mh hn,zQ,kb]
  cases v<;>try exact False.elim hk
  case ptr p off =>
    cases p with
    | loc j =>
      simp only[R] at hx;obtain⟨b,hb,h⟩:=hx;exact cq hs (by simp[execOp,ho,h,run];rfl) (by simp only[R];exact⟨b,hb,rfl⟩) hk
    | out b =>
      simp only[R] at hx;exact cq hs (by simp[execOp,ho,hx,run];rfl) (by simp only[R]) hk
    | jt b =>
      simp only[R] at hx;exact cq hs (by simp[execOp,ho,hx,run];rfl) (by simp only[R]) hk
  case elt c off =>
    simp only[R] at hx;obtain⟨b,o',h,hr⟩:=hx;exact cq hs (by simp[execOp,ho,h,run];rfl) (by simp only[R];exact⟨b,o',by rw[DS],hr⟩) hk
theorem ath (hs:bc E st a) {x:Operand} {i:Nat} {v:V} (ho:o.op = .extract x i) (hx:R E v (a.eval x)) (hk:match (generalizing:=false) v with | .aX vs=>opt vs[i]? (K2 K st) | _=>False) :
    o.wp P a E.w (cZ E a o.dst K) Q:=by
  cases v<;>try exact False.elim hk
  rename_i vs;simp only[opt,K2] at hk;cases hu:vs[i]? with
  | none=>rw[hu] at hk;exact False.elim hk
  | some u =>
    rw[hu] at hk;simp only[R] at hx;obtain⟨us,h,hr⟩:=hx;obtain⟨y,h1,U⟩:=oI hr i u hu;have tG : us[i]?=some y:=by simpa using h1
    exact cq hs (by simp[execOp,ho,h,Instr.extract,tG]) U hk
theorem atq (hs:bc E st a) {f:Fn} {first cap:Array Operand} {as bs:List V} (ho:o.op = .makeFunc f first cap) (ha:RL E as (first.toList.map a.eval)) (hb:RL E bs (cap.toList.map a.eval)) (hk:K (.fn f as bs) st) :
    o.wp P a E.w (cZ E a o.dst K) Q:=by
  refine cq hs (x:=.func f (first.map a.eval) (cap.map a.eval)) (by simp[execOp,ho,Instr.makeFunc]) ?_ hk;simp only[R];exact⟨_,_,rfl,by simpa using ha,by simpa using hb⟩
theorem atg (hs:bc E st a) {src dst:TypeId} {k k' : IntKind} {x:Operand} {v:V} (ho:o.op = .convert src dst x) (h1:P.underlying src=some (.int k')) (U:P.underlying dst=some (.int k)) (hx:R E v (a.eval x))
    (hk:match (generalizing:=false) v with | .int _ n=>K (.int k (k.wrap n)) st | _=>False):o.wp P a E.w (cZ E a o.dst K) Q:=by
  cases v<;>try exact False.elim hk
  simp only[R] at hx;exact cq hs (by simp[execOp,ho,hx,convert,run_underlying h1,run_underlying U,Conv.intToInt];rfl) (by simp only[R]) hk
theorem atk (hs:bc E st a) {t e:TypeId} {n:Nat} {x i:Operand} {vx vi:V} (ho:o.op = .indexAddr t x i) (ht:P.underlying t=some (.slice e)) (hn:dd P e=some n) (hx:R E vx (a.eval x)) (hi:R E vi (a.eval i))
    (hk:match (generalizing:=false) vx with
      | .sl _ k' l=>k' = n∧Hx l vi fun c=>K (.elt c 0) st
      | .raw (.slice (some ⟨b,o,none⟩) m _)=>∃ik j,vi = .int ik j∧0≤j∧j<m∧K (.ptr (.out b) (o+j.toNat*n)) st
      | _=>False):o.wp P a E.w (cZ E a o.dst K) Q:=by
  cases vx<;>try exact False.elim hk
  case raw u =>
    split at hk
    · simp_all
    · rename_i b off m cap e;simp only[V.raw.injEq] at e;subst e;obtain⟨ik,j,rfl,g1,g2,hk⟩:=hk;simp only[R] at hx hi;refine cq hs (v:=.ptr (.out b) (off+j.toNat*n)) (x:=.pointer (some ⟨b,off+j.toNat*n,none⟩)) ?_ (by simp only[R]) hk;simp[execOp,ho,hx,hi,Instr.indexAt,asIntOf,run_underlying ht,g1,g2,mh hn,kb]
    · exact hk.elim
  rename_i tk k' l;obtain⟨rfl,ki,m,c,rfl,hm,hc,hk⟩:=hk;simp only[R] at hx hi;obtain⟨base,cap,h,_,h3,_⟩:=hx;have aj:=(dD.1 hc).1
  rcases h3 with h3 | ⟨b,off,rfl,hr⟩
  · subst h3;simp at hc
  · have pU:c7 E.nl c b (off+m.toNat*k'):=by
      obtain⟨h1,U⟩:=oH.1 hr;have Kg:l=l.take m.toNat++c::l.drop (m.toNat+1):=by
        have:=nR m.toNat l
        rw[kN aj] at this;rw[(dD.1 hc).2] at this;exact this.symm
      rw[Kg,pH,iC,uU,uU] at U;have hl:(l.take m.toNat).flatten.length=m.toNat*k' := by
        rw[jr (fun x hx=>h1 x (s8 hx))];rw[gZ,rN (by omega)]
      rw[hl] at U;simpa using U.2.1
    have kq : m<(l.length:Int):=by omega
    refine cq hs (v:=.elt c 0) (x:=.pointer (some ⟨b,off+m.toNat*k',none⟩)) ?_ (by simp only[R];exact⟨b,off+m.toNat*k',rfl,pU⟩) hk;simp[execOp,ho,h,hi,Instr.indexAt,asIntOf,run_underlying ht,hm,kq,mh hn,kb]
theorem atl (hs:bc E st a) {t e:TypeId} {m n:Nat} {x i:Operand} {vx vi:V} (ho:o.op = .indexAddr t x i) (ht:P.underlying t=some (.array m e)) (hn:dd P e=some n) (hx:R E vx (a.eval x)) (hi:R E vi (a.eval i))
    (hk:match (generalizing:=false) vx with
      | .ptr p o=>∃kk j,vi = .int kk j∧0≤j∧j<(m:Nat)∧K (.ptr p (o+j.toNat*n)) st
      | .elt c o=>∃kk j,vi = .int kk j∧0≤j∧j<(m:Nat)∧K (.elt c (o+j.toNat*n)) st
      | _=>False):o.wp P a E.w (cZ E a o.dst K) Q:=by
  have run:∀(b off:Nat) (kk:IntKind) (j:Int),0≤j→j<(m:Nat)→(Instr.indexAt t (.pointer (some ⟨b,off,none⟩)) (.int kk j)).run P E.w = .ok (.pointer (some ⟨b,off+j.toNat*n,none⟩)) E.w:=fun b off kk j h0 h1=>by
    simp[Instr.indexAt,asIntOf,run_underlying ht,Instr.sureAddr,h0,h1,mh hn,kb]
  cases vx<;>try exact False.elim hk
  case ptr p off =>
    obtain⟨kk,j,rfl,h0,h1,hk⟩:=hk;simp only[R] at hi;cases p with
    | loc q =>
      simp only[R] at hx;obtain⟨b,hb,h⟩:=hx;exact cq hs (by simp[execOp,ho,h,hi,run _ _ _ _ h0 h1];rfl) (by simp only[R];exact⟨b,hb,rfl⟩) hk
    | out b =>
      simp only[R] at hx;exact cq hs (by simp[execOp,ho,hx,hi,run _ _ _ _ h0 h1];rfl) (by simp only[R]) hk
    | jt b =>
      simp only[R] at hx;exact cq hs (by simp[execOp,ho,hx,hi,run _ _ _ _ h0 h1];rfl) (by simp only[R]) hk
  case elt c off =>
    obtain⟨kk,j,rfl,h0,h1,hk⟩:=hk;simp only[R] at hi hx;obtain⟨b,o',h,hr⟩:=hx;exact cq hs (by simp[execOp,ho,h,hi,run _ _ _ _ h0 h1];rfl) (by simp only[R];exact⟨b,o',by rw[DS],hr⟩) hk
theorem atm (hs:bc E st a) {t:TypeId} {x i:Operand} {vx vi:V} (ho:o.op = .index t x i) (ht:P.underlying t=some .string) (hx:R E vx (a.eval x)) (hi:R E vi (a.eval i))
    (hk:match (generalizing:=false) vx with | .str s=>∃k n c,vi = .int k n∧0≤n∧s[n.toNat]?=some c∧K (.int .u8 c.toNat) st | _=>False):o.wp P a E.w (cZ E a o.dst K) Q:=by
  cases vx<;>try exact False.elim hk
  rename_i s;obtain⟨k,n,c,rfl,hn,hc,hk⟩:=hk;simp only[R] at hx hi;have aj:=(dD.1 hc).1;have kq : n<((⟨s.toArray⟩:ByteArray).size:Int):=by simp[ByteArray.size];omega
  refine cq hs (v:=.int .u8 c.toNat) (x:=.int .u8 c.toNat) ?_ (by simp only[R]) hk
  have:=run_index_string (P:=P) E.w t ⟨s.toArray⟩ k n ht
  rw[By ⟨hn,kq⟩] at this;simp only[execOp,ho,hx,hi,Sem.run_bind,this,Result.andThen_ok];have hg:(⟨s.toArray⟩:ByteArray)[n.toNat]'(by simp[ByteArray.size];exact aj)=c:=(dD.1 hc).2;simp[hg]
end
def tt:Nat→Value→Value→Option Bool
  | 1,.int k a,.int k' b=>if k=k' then some (decide (a=b)) else none
  | 2,.string a,.string b=>some (a.toList == b.toList)
  | 0,.bool a,.bool b=>some (a == b)
  | _,_,_=>none
section
variable {P:Program} {w:World}
def oV (xs ys:Array Value):List (Nat × Nat)→Option Bool
  | []=>some true
  | (j, k) :: js =>
    match xs[j]?,ys[j]? with
    | some x,some y=>(tt k x y).bind fun b=>(oV xs ys js).map (b&&·)
    | _,_=>none
theorem IG {xs ys:Array Value}:∀{l m:List (Nat × Nat)} {b:Bool},oV xs ys (l++m)=some b→∃b1 b2,oV xs ys l=some b1∧oV xs ys m=some b2∧b=(b1&&b2)
  | [],m,b,h=>⟨true,b,rfl,h,by simp⟩
  | (j, k) :: l, m, b, h => by
    simp only[fN,oV] at h ⊢;split at h
    · simp only[gl,cx] at h;obtain⟨c,h1,d,U,rfl⟩:=h;obtain⟨b1,b2,k1,k2,rfl⟩:=IG U;exact⟨c&&b1,b2,by simp[h1,k1],k2,by simp[Bool.and_assoc]⟩
    · simp at h
def At (P:Program) (t:TypeId) (xs:Array Value) (off:Nat) (x:Value):Prop :=
  match fV P t with
  | some true=>x = .agg (xs.extract off (off+P.cellsOf t))∧off+P.cellsOf t≤xs.size
  | some false=>xs[off]?=some x
  | none=>False
theorem RA {t:TypeId} {i:TypeInfo} (h:P.info? t=some i):P.cellsOf t=i.size:=by simp[Program.cellsOf,h]
theorem GU {t u:TypeId} {i:TypeInfo} (hi:P.info? u=some i) {xs:Array Value} {off o' : Nat} (hle:o' + P.cellsOf u≤P.cellsOf t) (bO:off+P.cellsOf t≤xs.size) {g:Bool} (hg:fV P u=some g) (gT:g=false→P.cellsOf u=1) :
    ∃y,(part u (xs.extract off (off+P.cellsOf t)) o').run P w = .ok y w∧At P u xs (off+o') y:=by
  have hs:(sizeOf u).run P w = .ok (P.cellsOf u) w:=by simp[sizeOf,typeInfo,hi,RA hi]
  unfold At;rw[hg];cases g
  · have h1:=gT rfl;have aj:off+o' < xs.size:=by omega
    refine⟨xs[off+o'],?_,by simp[aj]⟩
    have:(xs.extract off (off+P.cellsOf t))[o']?=some xs[off+o']:=by
      rw[Hp];simp[gi aj];omega
    simp[part,yw hg,this]
  · refine⟨_,by simp[part,yw hg,hs];rfl,?_,by omega⟩;congr 2;omega
theorem WG {n:Nat} {u:TypeId} {off:Nat} {pl:List (Nat × Nat)} (h:uo P n u off=some pl):∃i g,P.info? u=some i∧fV P u=some g∧(g=false→P.cellsOf u=1):=by
  cases n with
  | zero=>simp[uo] at h
  | succ n =>
    simp only[uo] at h;split at h
    · rename_i i hi hu;split at h<;>simp at h;rename_i hc;exact⟨_,false,hi,by simp[fV,hu],fun _=>hc⟩
    · rename_i i hi hu;split at h<;>simp at h;rename_i hc;exact⟨_,false,hi,by simp[fV,hu],fun _=>hc⟩
    · rename_i i hi hu;split at h<;>simp at h;rename_i hc;exact⟨_,false,hi,by simp[fV,hu],fun _=>hc⟩
    · rename_i i hi hu;exact⟨_,true,hi,by simp[fV,hu],fun h=>by simp at h⟩
    · rename_i i hi hu;exact⟨_,true,hi,by simp[fV,hu],fun h=>by simp at h⟩
    · simp at h
theorem aoL:∀(n:Nat) (t:TypeId) (off:Nat) (pl:List (Nat × Nat)),uo P n t off=some pl→∀(d:Nat),n≤d→∀(xs ys:Array Value) (x y:Value),At P t xs off x→At P t ys off y →
    ∀b,oV xs ys pl=some b→(Op.equalIn d t x y).run P w = .ok b w:=by
  intro n;induction n with
  | zero=>intro t off pl h;simp[uo] at h
  | succ n ih =>
    intro t off pl h d hd xs ys x y hx hy b hb;obtain⟨d,rfl⟩:∃d',d=d' + 1:=⟨d - 1,by omega⟩;have one:∀k,fV P t=some false→pl=[(off,k)]→tt k x y=some b:=fun k hg hp=>by
      subst hp;unfold At at hx hy;rw[hg] at hx hy;have iK : xs[off]?=some x:=hx;have xR : ys[off]?=some y:=hy;simp only[oV,iK,xR,gl,s_,aH] at hb;obtain⟨c,h1,U⟩:=hb;rw[h1];simpa using U
    simp only[uo] at h;split at h
    · rename_i i hi hu;split at h
      case isFalse=>simp at h
      simp only[aH] at h;have hc:=one 0 (by simp[fV,hu]) h.symm;unfold tt at hc;split at hc<;>simp at *;subst hc;exact run_equalIn_bool w d t _ _ hu
    · rename_i i k hi hu;split at h
      case isFalse=>simp at h
      simp only[aH] at h;have hc:=one 1 (by simp[fV,hu]) h.symm;unfold tt at hc;split at hc<;>simp at *;obtain⟨rfl,hc⟩:=hc;subst hc;exact run_equalIn_int w d t _ _ _ _ hu
    · rename_i i hi hu;split at h
      case isFalse=>simp at h
      simp only[aH] at h;have hc:=one 2 (by simp[fV,hu]) h.symm;unfold tt at hc;split at hc<;>simp at *;subst hc;exact run_equalIn_string w d t _ _ hu
    · rename_i i fs hi hu;split at h
      · simp at h
      rename_i dH;unfold At at hx hy;have hg:fV P t=some true:=by simp[fV,hu]
      rw[hg] at hx hy;obtain⟨rfl,lA⟩:=hx;obtain⟨rfl,nr⟩:=hy;have sf:P.fieldsOf t=fs:=by simp[Program.fieldsOf,hu]
      rw[run_equalIn_struct w d t _ _ (by rw[sf];exact hu) (by simpa using dH),sf];clear hu sf dH;clear one;generalize fs.toList=l at h;revert b pl;induction l with
      | nil=>intro pl b hb h;simp[GC] at h;subst h;simp[oV] at hb;subst hb;simp[Op.eqFields]
      | cons f l Kt =>
        intro pl b hb h;simp only[GC] at h;split at h
        · simp at h
        rename_i hc;simp only[gl,cx] at h;obtain⟨p1,h1,p2,U,rfl⟩:=h;obtain⟨b1,b2,e1,e2,rfl⟩:=IG hb;obtain⟨i',g,cT,pW,jS⟩:=WG h1;have hn:f.name ≠ "_" := fun e=>hc (.inl e)
        have hle:f.offset+P.cellsOf f.type≤P.cellsOf t:=by omega
        obtain⟨u,r1,a1⟩:=GU (P:=P) (w:=w) cT hle lA pW jS;obtain⟨v,r2,a2⟩:=GU (P:=P) (w:=w) cT hle nr pW jS;have r3:=ih f.type (off+f.offset) p1 h1 d (by omega) xs ys u v a1 a2 b1 e1;have r4:=Kt p2 b2 e2 U;simp only[Op.eqFields,hn,ne_eq,V5,b7,Sem.run_bind,r1,r2,r3,Result.andThen_ok];cases b1
        · simp
        · simpa using r4
    · rename_i i k e hi hu;split at h
      case h_2=>simp at h
      rename_i ie sk;unfold At at hx hy;have hg:fV P t=some true:=by simp[fV,hu]
      rw[hg] at hx hy;obtain⟨rfl,lA⟩:=hx;obtain⟨rfl,nr⟩:=hy;rw[run_equalIn_array w d _ _ hu sk];clear hu;clear one;generalize List.range k=l at h;revert b pl;induction l with
      | nil=>intro pl b hb h;simp[GD] at h;subst h;simp[oV] at hb;subst hb;simp[Op.eqItems]
      | cons j l Kt =>
        intro pl b hb h;simp only[GD] at h;split at h
        · simp at h
        rename_i hc;simp only[gl,cx] at h;obtain⟨p1,h1,p2,U,rfl⟩:=h;obtain⟨b1,b2,e1,e2,rfl⟩:=IG hb;obtain⟨i',g,cT,pW,jS⟩:=WG h1;have hle:j*P.cellsOf e+P.cellsOf e≤P.cellsOf t:=by omega
        obtain⟨u,r1,a1⟩:=GU (P:=P) (w:=w) cT hle lA pW jS;obtain⟨v,r2,a2⟩:=GU (P:=P) (w:=w) cT hle nr pW jS;have r3:=ih e (off+j*P.cellsOf e) p1 h1 d (by omega) xs ys u v a1 a2 b1 e1;have r4:=Kt p2 b2 e2 U;simp only[Op.eqItems,Sem.run_bind,r1,r2,r3,Result.andThen_ok];cases b1
        · simp
        · simpa using r4
    · simp at h
end
section
variable {P:Program} {E:Env} {st:St} {a:Act} {o:Oper} {K:V→St→Prop} {Q:Exit→Act→World→Prop}
theorem bool_beq (x y:Bool):(x == y)=decide (x=y):=by cases x<;>cases y<;>rfl
theorem Sv {xs ys:Array Value}:∀{ks:List Nat} {vx vy:List V} {us ws:List Value} {b:Bool} (pl:List (Nat × Nat)) (off:Nat),eP ks vx vy=some b→RL E vx us→RL E vy ws →
    (∀(j:Nat) u,us[j]?=some u→xs[off+j]?=some u)→(∀(j:Nat) u,ws[j]?=some u→ys[off+j]?=some u)→pl.map (·.2)=ks→pl.map (·.1)=List.range' off pl.length→oV xs ys pl=some b
  | [], vx, vy, us, ws, b, pl, off, h, hx, hy, h1, U, h3, h4 => by
    have:pl=[]:=by simpa using h3
    subst this;cases vx<;>cases vy<;>simp[eP] at h;subst h;simp[oV]
  | k :: ks, vx, vy, us, ws, b, pl, off, h, hx, hy, h1, U, h3, h4 => by
    obtain⟨⟨j,k'⟩,pl,rfl⟩:∃p q,pl=p::q:=by cases pl with | nil=>simp at h3 | cons p q=>exact⟨p,q,rfl⟩
    simp only[bC,fM,cG,yW] at h3 h4;obtain⟨rfl,h3⟩:=h3;obtain⟨rfl,h4⟩:=h4;have step:∀{x y:V} {MN MO : List V} {c d:Bool},vx=x::MN → vy=y::MO → (∀u v,R E x u→R E y v→tt k' u v=some c)→eP ks MN MO = some d→b=(c&&d)→oV xs ys ((j,k')::pl)=some b :=
      fun {x y MN MO c d} e1 e2 hc hd hb=>by
        subst e1;subst e2;cases us with
        | nil=>simp[RL] at hx
        | cons u us =>
          cases ws with
          | nil=>simp[RL] at hy
          | cons v ws =>
            simp only[RL] at hx hy;have hu:=h1 0 u (by simp);have hv:=U 0 v (by simp);simp only[rL] at hu hv;have ih:=Sv (ks:=ks) (us:=us) (ws:=ws) pl (j+1) hd hx.2 hy.2 (fun i u hu=>by rw[show j+1+i=j+(i+1) from by omega];exact h1 (i+1) u (by simpa using hu))
              (fun i u hu=>by rw[show j+1+i=j+(i+1) from by omega];exact U (i+1) u (by simpa using hu)) h3 h4
            simp only[oV,hu,hv,hc u v hx.1 hy.1,ih,s9,s_,hb]
    unfold eP at h;split at h
    · simp at *
    · rename_i hk;simp only[fM] at hk;obtain⟨rfl,rfl⟩:=hk;split at h
      case isFalse=>simp at h
      rename_i gH;obtain rfl:=FL gH;simp only[cx] at h;obtain⟨d,hd,rfl⟩:=h;exact step rfl rfl (fun u v hu hv=>by simp only[R] at hu hv;subst hu;subst hv;simp[tt]) hd rfl
    · rename_i hk;simp only[fM] at hk;obtain⟨rfl,rfl⟩:=hk;simp only[cx] at h;obtain⟨d,hd,rfl⟩:=h;exact step rfl rfl (fun u v hu hv=>by simp only[R] at hu hv;subst hu;subst hv;simp[tt,Vv]) hd rfl
    · rename_i hk;simp only[fM] at hk;obtain⟨rfl,rfl⟩:=hk;simp only[cx] at h;obtain⟨d,hd,rfl⟩:=h;exact step rfl rfl (fun u v hu hv=>by simp only[R] at hu hv;subst hu;subst hv;simp[tt,bool_beq]) hd rfl
    · simp at h
theorem ED:∀{ks:List Nat} {vx vy:List V} {b:Bool},eP ks vx vy=some b→vx.length=ks.length∧vy.length=ks.length
  | [],vx,vy,b,h=>by cases vx<;>cases vy<;>simp[eP] at h;simp
  | k :: ks, vx, vy, b, h => by
    unfold eP at h;split at h
    · simp at *
    · rename_i hk;simp only[fM] at hk;obtain⟨rfl,rfl⟩:=hk;split at h
      case isFalse=>simp at h
      simp only[cx] at h;obtain⟨d,hd,_⟩:=h
      have:=ED hd;simp[this]
    · rename_i hk;simp only[fM] at hk;obtain⟨rfl,rfl⟩:=hk;simp only[cx] at h;obtain⟨d,hd,_⟩:=h
      have:=ED hd;simp[this]
    · rename_i hk;simp only[fM] at hk;obtain⟨rfl,rfl⟩:=hk;simp only[cx] at h;obtain⟨d,hd,_⟩:=h
      have:=ED hd;simp[this]
    · simp at h
theorem Hi (hs:bc E st a) {neg:Bool} {op:BinOp} (qb:op=if neg then .neq else .eql) {t t' : TypeId} {ks:List Nat} (ht:LH P t=some ks) {x y:Operand} {vx vy:V} (ho:o.op = .binOp op t x y t')
    (hg:fV P t=some true) (hx:R E vx (a.eval x)) (hy:R E vy (a.eval y)) (hk:opt (va neg ks vx vy) (K2 K st)):o.wp P a E.w (cZ E a o.dst K) Q:=by
  unfold opt K2 at hk;split at hk
  case h_2=>exact hk.elim
  rename_i v hv;unfold va at hv;split at hv
  case h_2=>simp at hv
  rename_i xs ys;simp only[cx] at hv;obtain⟨b,hb,rfl⟩:=hv;simp only[R] at hx hy;obtain⟨us,sy,UH⟩:=hx;obtain⟨ws,UJ,UK⟩:=hy;unfold LH at ht;split at ht
  case h_2=>simp at ht
  rename_i pl mG;split at ht
  case isFalse=>simp at ht
  rename_i hc;obtain⟨hr,kn⟩:=hc;simp only[aH] at ht;have hlen:pl.length=P.cellsOf t:=by have:=gm List.length hr;simpa using this
  obtain⟨l1,l2⟩:=ED hb;have at5:ks.length=P.cellsOf t:=by rw[←ht];simp[hlen]
  have Kl:us.size=P.cellsOf t:=by have:=eM UH;simp at this;omega
  have xQ:ws.size=P.cellsOf t:=by have:=eM UK;simp at this;omega
  have b8:=Sv (E:=E) (xs:=us) (ys:=ws) pl 0 hb UH UK (fun j u hu=>by simpa using hu) (fun j u hu=>by simpa using hu) ht (by rw[hr,hlen,rJ]);have eQ:∀(zs:Array Value),zs.size=P.cellsOf t→At P t zs 0 (.agg zs):=fun zs hz=>by
    unfold At;rw[hg];exact⟨by rw[gQ,←hz,Array.extract_size],by omega⟩
  have cn:=aoL (P:=P) (w:=E.w) 20 t 0 pl mG 10000 (by omega) us ws _ _ (eQ us Kl) (eQ ws xQ) b b8;subst qb;cases neg
  · refine cq hs (x:=.bool b) ?_ (by simp[R]) hk;simp only[execOp,ho,sy,UJ,cI,bP];simp only[Sem.run_bind,run_eqGuard_agg E.w _ t x y us ws kn,Result.andThen_ok,run_eql_struct,cn,Sem.run_pure]
  · refine cq hs (x:=.bool (!b)) ?_ (by simp[R]) hk;simp only[execOp,ho,sy,UJ,b7];simp only[Sem.run_bind,run_eqGuard_agg E.w _ t x y us ws kn,Result.andThen_ok,run_neq_struct,cn,Sem.run_pure]
theorem atj (hs:bc E st a) {s:TypeId} {i n:Nat} {fs:Array Field} {f:Field} {g:Bool} {x:Operand} {v:V} (ho:o.op = .field s x i) (ht:P.underlying s=some (.struct fs)) (hf:fs[i]?=some f)
    (hg:fV P f.type=some g) (hn:dd P f.type=some n) (hx:R E v (a.eval x)) (hk:match (generalizing:=false) v with | .agg cs=>opt (bf g n (cs.drop f.offset)) (K2 K st) | _=>False) :
    o.wp P a E.w (cZ E a o.dst K) Q:=by
  cases v<;>try exact False.elim hk
  rename_i cs;simp only[opt,K2] at hk;simp only[R] at hx;obtain⟨vs,h,hr⟩:=hx;cases g with
  | false =>
    cases hd:cs.drop f.offset with
    | nil=>rw[hd] at hk;exact False.elim hk
    | cons c rest =>
      rw[hd] at hk;have hc:cs[f.offset]?=some c:=by
        have:=gm (·[0]?) hd
        simpa using this
      obtain⟨u,h1,U⟩:=oI hr f.offset c hc;have tG : vs[f.offset]?=some u:=by simpa using h1
      exact cq hs (v:=c) (x:=u) (by simp[execOp,ho,h,Instr.field,run_underlying ht,hf,asAgg,part,yw hg,tG]) U hk
  | true =>
    cases hd:takeN n (cs.drop f.offset) with
    | none=>simp only[bf,hd,Option.map_none] at hk;
    | some ys =>
      simp only[bf,hd,s_] at hk;obtain⟨rfl,hle⟩:=MB hd;refine cq hs (x:=.agg (vs.extract f.offset (f.offset+n))) (by simp[execOp,ho,h,Instr.field,run_underlying ht,hf,asAgg,part,yw hg,mh hn]) ?_ hk;simp only[R];refine⟨_,rfl,?_⟩;have hl:=eM hr;refine Bf ?_ fun j y u h1 U=>?_
      · simp at hl hle ⊢;omega
      · have hj:j<n:=by have:=(dD.1 h1).1;simp at this;omega
        rw[DM,ak hj,rH] at h1;obtain⟨u',h3,h4⟩:=oI hr _ y h1
        have:(vs.extract f.offset (f.offset+n)).toList[j]?=some u' := by
          have aj:=(dD.1 h3).1;simp at aj;simp only[Nc] at h3 ⊢;rw[Hp];rw[ak (by omega)];exact h3
        rw[this] at U;simp only[aH] at U;subst U;exact h4
theorem S4:∀(l:List Value) (n off:Nat) (cells:Array Value),off+n+l.length≤cells.size →
    ((l.zipIdx n).foldl (fun cs (c,j)=>cs.setIfInBounds (off+j) c) cells).toList=cells.toList.take (off+n)++l++cells.toList.drop (off+n+l.length)
  | [],n,off,cells,h=>by simp
  | v :: l, n, off, cells, h => by
    simp only[cG] at h;have ih:=S4 l (n+1) off (cells.setIfInBounds (off+n) v) (by simp;omega);simp only[List.zipIdx_cons,wD];rw[ih];have e:=list_seg_step cells.toList (off+n) v l (by simp;omega);simpa [Hq,DS,Ba 1] using e
theorem SJ {place:Nat→Option (Nat × Nat)} {cells:Array Value} {i off n:Nat} {v:Value} {rest:List (Nat × Value)} (hp:place i=some (off,n)) (hv:v.cells.size=n) (tV:off+n≤cells.size) :
    Instr.fill place cells ((i,v)::rest)=Instr.fill place (cells.toList.take off++v.cells.toList++cells.toList.drop (off+n)).toArray rest:=by
  have h:=S4 v.cells.toList 0 off cells (by simp;omega);have e:v.cells.zipIdx.foldl (fun cs (c,j)=>cs.setIfInBounds (off+j) c) cells=(cells.toList.take off++v.cells.toList++cells.toList.drop (off+n)).toArray:=by
    apply A0;rw[←Array.foldl_toList,Array.toList_zipIdx,h];simp[hv]
  simp only[Instr.fill,hp,hv,ne_eq,Gl,fh,yT];rw[ah (by simp;omega),e]
theorem IK (hs:RL E st.t a.tmps.toList) {place:Nat→Option (Nat × TypeId)} {place' : Nat→Option (Nat × Nat)} (mG:∀i off t n,place i=some (off,t)→dd P t=some n→place' i=some (off,n)) :
    ∀{parts:List (Nat × Operand)} {ps:List (Nat × Nat × X)} {z cs:List V} {cells:Array Value},yh P place parts=some ps→mw st z ps=some cs→RL E z cells.toList →
    ∃mz,Instr.fill place' cells (parts.map fun (i,x)=>(i,a.eval x))=some mz ∧ RL E cs mz.toList
  | [], ps, z, cs, cells, hp, hb, hz => by
    simp only[yh,aH] at hp;subst hp;simp only[mw,aH] at hb;subst hb;exact⟨cells,by simp[Instr.fill],hz⟩
  | (i, x) :: parts, ps, z, cs, cells, hp, hb, hz => by
    simp only[yh] at hp;split at hp
    case h_2=>simp at hp
    rename_i off t zR;split at hp
    case h_2=>simp at hp
    rename_i n y hn hy;split at hp
    · simp at hp
    rename_i zQ;simp only[cx] at hp;obtain⟨WL,jS,rfl⟩:=hp;simp only[mw] at hb;split at hb
    case isFalse=>simp at hb
    rename_i hc;have hx:=lD (E:=E) (st:=st) (a:=a) hs hy;obtain⟨h1,U⟩:=uW hx hc.2;have hle:=Jr hc.1;have hl:=eM hz;have Cb:=eM h1;simp at hle hl Cb;have tV:off+n≤cells.size:=by omega
    · have ly:RL E (setAt z off (ev st y).cells) (cells.toList.take off++(a.eval x).cells.toList++cells.toList.drop (off+n)):=by
        refine Bf (by simp[Mk];omega) fun j u v h3 h4=>?_
        rw[Mj (by omega)] at h3;have tX:=C' (c:=cells.toList) (vs:=(a.eval x).cells.toList) (off:=off) (by simp;omega) j;simp only[yR,U] at tX;rw[tX] at h4
        by_cases k1:j<off
        · rw[ak k1] at h3 h4;obtain⟨v',k3,k4⟩:=oI hz j u h3;rw[k3] at h4;simp only[aH] at h4;subst h4;exact k4
        · rw[ah k1] at h3 h4
          by_cases k2:j<off+n
          · rw[ak (by omega)] at h3;rw[ak k2] at h4;obtain⟨v',k3,k4⟩:=oI h1 _ u h3;rw[k3] at h4;simp only[aH] at h4;subst h4;exact k4
          · rw[ah (by omega)] at h3;rw[ah k2] at h4;obtain⟨v',k3,k4⟩:=oI hz j u h3;rw[k3] at h4;simp only[aH] at h4;subst h4;exact k4
      obtain⟨mz,k1,k2⟩:=IK hs mG jS hb (cells:=(cells.toList.take off++(a.eval x).cells.toList++cells.toList.drop (off+n)).toArray) (by simpa using ly);refine⟨mz,?_,k2⟩;rw[bC,SJ (mG i off t n zR hn) U tV];exact k1
theorem VI:∀(fs:List Field),fs.all (fun f=>(P.info? f.type).isSome)=true→∃places:List (Nat × Nat),fs.mapM (fun f=>(P.info? f.type).map fun i=>(f.offset,i.size))=some places ∧
    ∀i:Nat,places[i]?=(fs[i]?).bind fun f=>(P.info? f.type).map fun i=>(f.offset,i.size)
  | [],_=>⟨[],by simp,fun i=>by simp⟩
  | f :: fs, h => by
    simp only[rG,a_] at h;obtain⟨i,hi⟩:=NM.1 h.1;obtain⟨places,h1,U⟩:=VI fs h.2;refine⟨(f.offset,i.size)::places,by simp[hi,h1],fun j=>?_⟩;cases j with
    | zero=>simp[hi]
    | succ j=>simp[U]
theorem wp_build (hs:bc E st a) {t:TypeId} {parts:Array (Nat × Operand)} {z:List V} {ps:List (Nat × Nat × X)} (ho:o.op = .build t parts) (hz:iO P t=some z) {place:Nat→Option (Nat × TypeId)}
    (mG:(∃fs,P.underlying t=some (.struct fs)∧fs.toList.all (fun f=>(P.info? f.type).isSome)=true∧place=fun i=>(fs[i]?).map fun f=>(f.offset,f.type)) ∨
      ∃k e,P.underlying t=some (.array k e)∧(P.info? e).isSome=true∧place=fun i=>some (i*P.cellsOf e,e))
    (hp:yh P place parts.toList=some ps) (hk:opt ((mw st z ps).map V.agg) (K2 K st)):o.wp P a E.w (cZ E a o.dst K) Q:=by
  unfold opt K2 at hk;split at hk
  case h_2=>exact hk.elim
  rename_i v hv;simp only[cx] at hv;obtain⟨cs,hb,rfl⟩:=hv;obtain⟨i,zv,h1,U,h3,_⟩:=qw hz;have UM:RL E z zv.cells.toList:=oS h3;have key:∃mz,P.built t (parts.map fun (i,x)=>(i,a.eval x)).toList=some mz ∧ RL E cs mz.toList:=by
    rcases mG with ⟨fs,hu,b8,rfl⟩ | ⟨k,e,hu,ajn,rfl⟩
    · obtain⟨places,hm,hg⟩:=VI (P:=P) fs.toList b8;obtain⟨mz,k1,k2⟩:=IK (P:=P) (st:=st) hs.slot (place' := fun i=>places.toArray[i]?) (fun i off t' n h hn=>by
        simp only[cx] at h;obtain⟨f,hf,h⟩:=h;simp only[mu] at h;obtain⟨rfl,rfl⟩:=h;simp only[Zl,hg];unfold dd at hn;simp only[cx] at hn;obtain⟨i',cT,rfl⟩:=hn;simp[hf,cT]) hp hb UM
      exact⟨mz,by simpa [Program.built,h1,hu,U,hm] using k1,k2⟩
    · obtain⟨ie,sk⟩:=NM.1 ajn;obtain⟨mz,k1,k2⟩:=IK (P:=P) (st:=st) hs.slot (place' := fun i=>some (i*ie.size,ie.size)) (fun i off t' n h hn=>by
        simp only[aH,mu] at h;obtain⟨rfl,rfl⟩:=h;simp only[dd,sk,s_,aH] at hn;simp[RA sk,hn]) hp hb UM
      exact⟨mz,by simpa [Program.built,h1,hu,U,sk] using k1,k2⟩
  obtain⟨mz,k1,k2⟩:=key;refine cq hs (x:=.agg mz) ?_ (by simp only[R];exact⟨mz,rfl,k2⟩) hk
  have:=run_build (P:=P) E.w t _ _ k1
  simp only[execOp,ho,Sem.run_bind,this,Result.andThen_ok,Sem.run_pure]
theorem IL {k:Nat}:∀(ps:List (Nat × Value)) (i0:Nat) (cells:Array Value),ps.map (·.1)=List.range' i0 ps.length→(∀p∈ps,p.2.cells.size=k)→cells.size=(i0+ps.length)*k →
    Instr.fill (fun i=>some (i*k,k)) cells ps=some (cells.toList.take (i0*k)++(ps.map fun p=>p.2.cells.toList).flatten).toArray
  | [], i0, cells, _, _, bO => by
    simp only[Instr.fill,dp,Nw,dn];rw[yX (by simp at bO ⊢;omega)]
  | (i, v) :: ps, i0, cells, hm, b8, bO => by
    simp only[bC,cG,yW,fM] at hm;obtain⟨rfl,hm⟩:=hm;simp only[du] at b8;have pX:(i+(ps.length+1))*k=i*k+k+ps.length*k:=by rw[gP,gP];omega
    simp only[cG,pX] at bO;rw[SJ (n:=k) rfl b8.1 (by omega)];have ih:=IL ps (i+1) (cells.toList.take (i*k)++v.cells.toList++cells.toList.drop (i*k+k)).toArray hm b8.2 (by simp[b8.1,gP];omega);rw[ih];congr 2;simp only[bC,iC,←dt];congr 1;rw[show (i+1)*k=i*k+k from by rw[gP];omega]
    have:(cells.toList.take (i*k)++v.cells.toList).length=i*k+k:=by simp[b8.1];omega
    rw[HP (by omega),yX (by omega)]
theorem Xi (hs:RL E st.t a.tmps.toList) {k:Nat} {e:TypeId}:∀{n:Nat} {xs:List Operand} {ys:List X} {l:List (List V)},hH P (List.replicate n e) xs=some ys→j4 st k ys=some l →
    xs.length=n∧l.length=n∧(∀x∈xs,(a.eval x).cells.size=k)∧(∀y∈l,y.length=k)∧RL E.nl l.flatten (xs.map fun x=>(a.eval x).cells.toList).flatten∧∀v∈(xs.map fun x=>(a.eval x).cells.toList).flatten,v.oneCell' = true
  | 0, [], ys, l, h1, U => by
    simp only[List.replicate_zero,hH,aH] at h1;subst h1;simp only[j4,aH] at U;subst U;simp[RL]
  | 0,_::_,ys,l,h1,U=>by simp[hH] at h1
  | n+1,[],ys,l,h1,U=>by simp[wI,hH] at h1
  | n + 1, x :: xs, ys, l, h1, U => by
    simp only[wI,hH,gl,cx] at h1;obtain⟨y,hy,Za,nr,rfl⟩:=h1;simp only[j4] at U;split at U
    case isFalse=>simp at U
    rename_i hc;simp only[cx] at U;obtain⟨l',fH,rfl⟩:=U;obtain⟨k1,k2,k3,k4,k5,k6⟩:=Xi hs nr fH;have hx:=lD (E:=E) (st:=st) (a:=a) hs hy;obtain⟨r1,r2⟩:=uW hx hc.1;have r3:=RL.nz (E:=E) (E' := E.nl) _ (Env.le.refl E.nl) hc.2.1 r1;have r4:=ui r1 hc.2.2;refine⟨by simp[k1],by simp[k2],?_,?_,?_,?_⟩
    · simp only[du];exact⟨r2,k3⟩
    · simp only[du];exact⟨by have:=eM r1;rw[Sz];simp at this;omega,k4⟩
    · simp only[iC,bC];exact rP (RL.erase _ r3) k5
    · simp only[bC,iC];intro v hv
      rcases il.1 hv with h | h
      · exact r4 v h
      · exact k6 v h
theorem YW (hs:bc E st a) {t e:TypeId} {len k:Nat} {parts:Array (Nat × Operand)} {z:List V} (ho:o.op = .buildSlice t len parts) (ht:P.underlying t=some (.slice e)) (hn:dd P e=some k) (hz:iO P e=some z)
    (hr:parts.toList.map (·.1)=List.range len) (bO:len*k≤16777216) {l:List (List V)}
    (hf:(parts.toList.map (·.2)).length=len∧l.length=len∧(∀x∈parts.toList.map (·.2),(a.eval x).cells.size=k)∧(∀y∈l,y.length=k)∧RL E.nl l.flatten ((parts.toList.map (·.2)).map fun x=>(a.eval x).cells.toList).flatten∧∀v∈((parts.toList.map (·.2)).map fun x=>(a.eval x).cells.toList).flatten,v.oneCell' = true)
    (hk:K (V.sl .full k l) st):o.wp P a E.w (cZ E a o.dst K) Q:=by
  obtain⟨k1,k2,k3,k4,k5,k6⟩:=hf;obtain⟨i,zv,h1,U,h3,h4⟩:=qw hz;have hlen:parts.toList.length=len:=by simpa using k1
  let ps:List (Nat × Value):=parts.toList.map fun (i,x)=>(i,a.eval x)
  have J8:ps.map (·.1)=List.range' 0 ps.length:=by
    have:ps.map (·.1)=parts.toList.map (·.1):=by simp[ps,s5]
    rw[this,hr,rJ];congr 1;simp[ps];simpa using hlen.symm
  have J9:(ps.map fun p=>p.2.cells.toList)=(parts.toList.map (·.2)).map fun x=>(a.eval x).cells.toList:=by simp[ps,s5]
  have b8:∀p∈ps,p.2.cells.size=k:=fun p hp=>by
    simp only[ps,rI] at hp;obtain⟨q,hq,rfl⟩:=hp;exact k3 q.2 (rI.2 ⟨q,hq,rfl⟩)
  have mG:ps.length=len:=by simp[ps];simpa using hlen
  have fill:∀cells:Array Value,cells.size=len*k→Instr.fill (fun i=>some (i*k,k)) cells ps=some ((parts.toList.map (·.2)).map fun x=>(a.eval x).cells.toList).flatten.toArray:=fun cells hc=>by
    have:=IL ps 0 cells J8 b8 (by rw[mG];simpa using hc)
    rw[this,J9];simp
  generalize p9:((parts.toList.map (·.2)).map fun x=>(a.eval x).cells.toList).flatten=news at fill k5 k6;refine YZ hs (w' := E.w.alloc (.cells news.toArray e)) (x:=.slice (some ⟨E.w.heap.size,0,none⟩) len len) ((Ext.refl _).alloc _ _) ?_ ?_ hk
  · have gU:(zeroValue e).run P E.w = .ok zv E.w:=by simp[zeroValue,typeInfo,h1,U]
    have Cj:(parts.map fun (i,x)=>(i,a.eval x)).toList=ps:=by simp[ps]
    have vD : ¬(16777216<len*k):=by omega
    simp only[execOp,ho,Sem.run_bind];have key:(Instr.buildSlice t len (parts.map fun (i,x)=>(i,a.eval x))).run P E.w = .ok (.slice (some ⟨E.w.heap.size,0,none⟩) len len) (E.w.alloc (.cells news.toArray e)):=by
      unfold Instr.buildSlice;simp only[Sem.run_bind,run_underlying ht,Result.andThen_ok,mh hn];rw[ah (by simpa using vD)];rw[Cj]
      by_cases h0:len*k=0
      · rw[ak h0];simp only[Sem.run_bind,Sem.run_pure,Result.andThen_ok];rw[fill _ (by simp)];simp[newRow]
      · rw[ah h0];simp only[Sem.run_bind,gU,Result.andThen_ok,Sem.run_pure];rw[fill _ (by simp)];simp[newRow]
    rw[key];rfl
  · obtain⟨aS,_,_⟩:=AB hs ((Ext.refl E.w).alloc news.toArray e);have p8:(E.w.alloc (.cells news.toArray e)).heap[E.w.heap.size]?=some (.cells (news++[]).toArray e (0,0)):=by simpa using heap_alloc_new E.w (.cells news.toArray e)
    simp only[R,k2];refine⟨some ⟨E.w.heap.size,0,none⟩,len,rfl,bt _,.inr ⟨_,_,rfl,?_⟩,rfl⟩;exact D0 (E' := {E with w:=E.w.alloc (.cells news.toArray e)}) k4 (RL.mono _ aS.nl k5) k6 p8 (fun j _=>by rw[show ({E with w:=E.w.alloc (.cells news.toArray e)}:Env).role E.w.heap.size = .const from hs.ok.fresh _ (bt _)];trivial)
theorem atc (hs:bc E st a) {t e:TypeId} {len k:Nat} {parts:Array (Nat × Operand)} {ys:List X} {z:List V} (ho:o.op = .buildSlice t len parts) (ht:P.underlying t=some (.slice e)) (hn:dd P e=some k) (hz:iO P e=some z)
    (hl:hH P (List.replicate len e) (parts.toList.map (·.2))=some ys) (hr:parts.toList.map (·.1)=List.range len) (bO:len*k≤16777216)
    (hk:opt ((j4 st k ys).map (V.sl .full k)) (K2 K st)):o.wp P a E.w (cZ E a o.dst K) Q:=by
  unfold opt K2 at hk;split at hk
  case h_2=>exact hk.elim
  rename_i v hv;simp only[cx] at hv;obtain⟨l,hb,rfl⟩:=hv;exact YW hs ho ht hn hz hr bO (Xi (E:=E) hs.slot hl hb) hk
theorem KE (hs:RL E st.t a.tmps.toList) {k:Nat} {e:TypeId}:∀{n:Nat} {xs:List Operand} {ys:List X} {l:List (List V)},hH P (List.replicate n e) xs=some ys→vL k (cr st ys)=some l →
    xs.length=n∧l.length=n∧(∀x∈xs,(a.eval x).cells.size=k)∧(∀y∈l,y.length=k)∧RL E.nl l.flatten (xs.map fun x=>(a.eval x).cells.toList).flatten∧∀v∈(xs.map fun x=>(a.eval x).cells.toList).flatten,v.oneCell' = true
  | 0, [], ys, l, h1, U => by
    simp only[List.replicate_zero,hH,aH] at h1;subst h1;simp only[cr,vL,aH] at U;subst U;simp[RL]
  | 0,_::_,ys,l,h1,U=>by simp[hH] at h1
  | n+1,[],ys,l,h1,U=>by simp[wI,hH] at h1
  | n + 1, x :: xs, ys, l, h1, U => by
    simp only[wI,hH,gl,cx] at h1;obtain⟨y,hy,Za,nr,rfl⟩:=h1;simp only[cr,vL] at U;split at U
    case isFalse=>simp at U
    rename_i hc;simp only[cx] at U;obtain⟨l',fH,rfl⟩:=U;obtain⟨k1,k2,k3,k4,k5,k6⟩:=KE hs nr fH;have hx:=lD (E:=E) (st:=st) (a:=a) hs hy;obtain⟨r1,r2⟩:=uW hx hc.1;have r3:=RL.nz (E:=E) (E' := E.nl) _ (Env.le.refl E.nl) hc.2.1 r1;have r4:=ui r1 hc.2.2;refine⟨by simp[k1],by simp[k2],?_,?_,?_,?_⟩
    · simp only[du];exact⟨r2,k3⟩
    · simp only[du];exact⟨by have:=eM r1;simp at this;omega,k4⟩
    · simp only[iC,bC];exact rP r3 k5
    · simp only[bC,iC];intro v hv
      rcases il.1 hv with h | h
      · exact r4 v h
      · exact k6 v h
end
section
variable {P:Program} {E:Env} {st:St} {a:Act} {o:Oper} {K:V→St→Prop} {Q:Exit→Act→World→Prop}
theorem BC (s:List UInt8):(cm s).flatten=s.map fun b=>V.int .u8 b.toNat:=by
  induction s with
  | nil=>rfl
  | cons b s ih=>simp only[cm,bC,iC] at ih ⊢;rw[ih];rfl
theorem NT {E:Env}:∀{s:List UInt8} {vs:List Value},RL E (s.map fun b=>V.int .u8 b.toNat) vs→vs=(s.map fun b=>(b.toNat:Int)).map (Value.int .u8)
  | [],[],_=>rfl
  | [],_::_,h=>by simp[RL] at h
  | _::_,[],h=>by simp[RL] at h
  | b :: s, v :: vs, h => by
    simp only[bC,RL,R] at h;simp only[bC];rw[h.1,NT h.2]
theorem LM:∀(s:List UInt8) (r:List UInt8),(s.map fun b=>(b.toNat:Int)).foldl (fun (r:ByteArray) n=>r.push (UInt8.ofNat n.toNat)) ⟨r.toArray⟩=⟨(r++s).toArray⟩
  | [],r=>by simp
  | b :: s, r => by
    have e:(⟨r.toArray⟩:ByteArray).push (UInt8.ofNat ((b.toNat:Int)).toNat)=⟨(r++[b]).toArray⟩:=by
      apply ByteArray.ext;simp[ByteArray.push]
    simp only[bC,wD,e,LM s (r++[b])];simp
theorem atf (hs:bc E st a) {src dst e:TypeId} {x:Operand} {v:V} (ho:o.op = .convert src dst x) (h1:P.underlying src=some (.slice e)) (U:P.underlying dst=some .string) (h3:P.underlying e=some (.int .u8)) (hx:R E v (a.eval x))
    (hk:∃t s,v = .sl t 1 (cm s)∧K (.str s) st):o.wp P a E.w (cZ E a o.dst K) Q:=by
  obtain⟨t,s,rfl,hk⟩:=hk;simp only[R] at hx;obtain⟨base,cap,hv,_,kl,_⟩:=hx;refine cq hs (v:=.str s) (x:=.string ⟨s.toArray⟩) ?_ (by simp only[R]) hk;have key:(Conv.bytesToString (a.eval x)).run P E.w = .ok (.string ⟨s.toArray⟩) E.w:=by
    rw[hv]
    rcases kl with h | ⟨b,off,rfl,hr⟩
    · have Fz:s=[]:=by simpa [cm] using h
      subst Fz;cases base with
      | none=>simp[Conv.bytesToString];rfl
      | some ad =>
        have:=run_bytesToString (P:=P) E.w ad 0 cap [] (by simp[loadCells,loadCellsFrom])
        simp[cm] at this ⊢;exact this
    · obtain⟨_,h5⟩:=oH.1 hr;obtain⟨vs,k1,k2,_,_⟩:=DZ h5;rw[BC] at k1;have e1:=NT k1;have hl:vs.length=(cm s).length:=by rw[e1];simp[cm]
      have hc:=run_loadCells_list (P:=P) E.w ⟨b,off,none⟩ vs (fun j u hu=>by rw[kb];exact k2 j u hu);rw[hl,e1] at hc
      have:=run_bytesToString (P:=P) E.w ⟨b,off,none⟩ (cm s).length cap _ hc
      rw[this];have hp:=LM s [];simp only[gk] at hp;exact gm (fun z=>Result.ok (Value.string z) E.w) hp
  rw[hv] at key;simp only[execOp,ho,Sem.run_bind,hv,run_convert_bytes_string E.w src dst e base _ cap h1 h3 U,key,Result.andThen_ok,Sem.run_pure]
theorem Zw {E:Env} {k:Nat} {l:List (List V)} {b o m n:Nat} (h:ek E k l b o) (qN:m≤n) (hn:n≤l.length):ek E k ((l.take n).drop m) b (o+m*k):=by
  obtain⟨h1,U⟩:=oH.1 h;refine oH.2 ⟨fun x hx=>h1 x (s8 (DQ hx)),?_⟩;have e:l=(l.take n).take m++((l.take n).drop m++l.drop n):=by
    rw[←dt,nR,nR]
  rw[e,pH,pH,uU,uU] at U;have hl:((l.take n).take m).flatten.length=m*k:=by
    rw[jr (fun x hx=>h1 x (s8 (s8 hx)))];simp only[gZ];congr 1;omega
  rw[hl] at U;exact U.2.1
theorem kA {E:Env} (hs:RL E st.t a.tmps.toList) {t:TypeId} {x:Option Operand} {y:Option X} (h:jB P t x=some y) :
    (x=none∧y=none)∨∃u v,x=some u∧y=some v∧R E (ev st v) (a.eval u):=by
  cases x with
  | none=>simp only[jB,aH] at h;exact .inl ⟨rfl,h.symm⟩
  | some x =>
    simp only[jB,cx] at h;obtain⟨v,hv,rfl⟩:=h;exact .inr ⟨x,v,rfl,rfl,lD hs hv⟩
theorem oq {w:World} {j:IntKind} {n y:Nat} {c:BoundsCode} (h:n≤y):(Instr.sliceBound (.int j n) y c).run P w = .ok n w:=by
  simp[Instr.sliceBound,asIntOf,h]
theorem Tb (hs:bc E st a) {τ k:Nat} {l:List (List V)} {v:Value} (ht:st.out.aC τ=some l.length) (h:R E (.sl .full k l) v):R E (.sl (.tk τ) k l) v:=by
  simp only[R] at h ⊢;obtain⟨ad,cap,h1,U,h3,h4⟩:=h;exact⟨ad,cap,h1,U,h3,l.length,hs.ok.aC τ _ ht,bt _,fun _=>.inl h4⟩
theorem L9 {t:TypeId} {lo hi mx:Option Operand} {lC cT mx' : Option X} (hs:bc E st a) (h1:jB P t lo=some lC) (U:jB P t hi=some cT) (h3:jB P t mx=some mx') (sq:mx'.isSome=true→cT.isSome=true) {len cap m n M:Nat}
    (cW:match (generalizing:=false) lC with | none=>m=0 | some y=>∃j,ev st y = .int j m) (lv:match (generalizing:=false) cT with | none=>n=len | some y=>∃j,ev st y = .int j n) (hM:match (generalizing:=false) mx' with | none=>M=cap | some y=>∃j,ev st y = .int j M)
    (qN:m≤n) (hnM:n≤M) (Jc:M≤cap):(Instr.sliceBounds true len cap (lo.map a.eval) (hi.map a.eval) (mx.map a.eval)).run P E.w = .ok (m,n,M) E.w:=by
  have e1:∀c,(match (lo.map a.eval:Option Value) with | some v=>Instr.sliceBound v n c | none=>pure 0:Sem Nat).run P E.w = .ok m E.w:=fun c=>by
    rcases kA (E:=E) hs.slot h1 with ⟨rfl,rfl⟩ | ⟨u,v,rfl,rfl,hr⟩
    · simp only at cW;subst cW;simp
    · obtain⟨j,hj⟩:=cW;rw[hj] at hr;simp only[R] at hr;simp only[s_,hr];exact oq qN
  rcases kA (E:=E) hs.slot h3 with ⟨rfl,rfl⟩ | ⟨u3,v3,rfl,rfl,xJ⟩
  · simp only at hM;subst hM
    rcases kA (E:=E) hs.slot U with ⟨rfl,rfl⟩ | ⟨u,v,rfl,rfl,hr⟩
    · simp only at lv;subst lv
      have:=e1 .sliceB
      rcases kA (E:=E) hs.slot h1 with ⟨rfl,rfl⟩ | ⟨u',v',rfl,rfl,bN⟩<;>simp[Instr.sliceBounds] at this ⊢
      · exact this
      · simp[this]
    · obtain⟨j,hj⟩:=lv;rw[hj] at hr;simp only[R] at hr
      have:=e1 .sliceB
      have e2:=oq (P:=P) (w:=E.w) (j:=j) (c:=.sliceAcap) (show n≤M by omega)
      rcases kA (E:=E) hs.slot h1 with ⟨rfl,rfl⟩ | ⟨u',v',rfl,rfl,bN⟩<;>simp[Instr.sliceBounds,hr,e2] at this ⊢
      · exact this
      · simp[this]
  · obtain⟨j3,JS⟩:=hM;rw[JS] at xJ;simp only[R] at xJ;have e3:=oq (P:=P) (w:=E.w) (j:=j3) (c:=.slice3Acap) Jc
    rcases kA (E:=E) hs.slot U with ⟨rfl,rfl⟩ | ⟨u,v,rfl,rfl,hr⟩
    · simp at sq
    · obtain⟨j,hj⟩:=lv;rw[hj] at hr;simp only[R] at hr
      have:=e1 .slice3C
      have e2:=oq (P:=P) (w:=E.w) (j:=j) (c:=.slice3B) hnM
      rcases kA (E:=E) hs.slot h1 with ⟨rfl,rfl⟩ | ⟨u',v',rfl,rfl,bN⟩<;>simp[Instr.sliceBounds,hr,xJ,e2,e3] at this ⊢
      · exact this
      · simp[this]
theorem atv (hs:bc E st a) {t e:TypeId} {k:Nat} {x:Operand} {lo hi mx:Option Operand} {vx:V} {lC cT mx' : Option X} (ho:o.op = .slice t x lo hi mx) (ht:P.underlying t=some (.slice e)) (hn:dd P e=some k)
    (hx:R E vx (a.eval x)) (h1:jB P t lo=some lC) (U:jB P t hi=some cT) (h3:jB P t mx=some mx') (sq:mx'.isSome=true→cT.isSome=true)
    (hk:∃t l m n,vx = .sl t k l∧m≤n∧n≤l.length∧(match (generalizing:=false) lC with | none=>m=0 | some y=>∃j,ev st y = .int j m)∧(match (generalizing:=false) cT with | none=>n=l.length | some y=>∃j,ev st y = .int j n) ∧
      match (generalizing:=false) mx' with
      | none=>K (.sl .no k ((l.take n).drop m)) st
      | some y=>(∃j,ev st y = .int j n)∧K (.sl .full k ((l.take n).drop m)) st):o.wp P a E.w (cZ E a o.dst K) Q:=by
  obtain⟨tk,l,m,n,rfl,qN,n9,cW,lv,hk⟩:=hk;simp only[R] at hx;obtain⟨base,cap,hv,xD,kl,_⟩:=hx;have key:∀M:Nat,n≤M→M≤cap→(mx' = none→M=cap)→(mx'.isSome=true→M=n)→(Instr.sliceBounds true l.length cap (lo.map a.eval) (hi.map a.eval) (mx.map a.eval)).run P E.w = .ok (m,n,M) E.w:=fun M hM Jc hM1 hM2=>by
    have e1:∀c,(match (lo.map a.eval:Option Value) with | some v=>Instr.sliceBound v n c | none=>pure 0:Sem Nat).run P E.w = .ok m E.w:=fun c=>by
      rcases kA (E:=E) hs.slot h1 with ⟨rfl,rfl⟩ | ⟨u,v,rfl,rfl,hr⟩
      · simp only at cW;subst cW;simp
      · obtain⟨j,hj⟩:=cW;rw[hj] at hr;simp only[R] at hr;simp only[s_,hr];exact oq qN
    rcases kA (E:=E) hs.slot h3 with ⟨rfl,rfl⟩ | ⟨u3,v3,rfl,rfl,xJ⟩
    · obtain rfl:=hM1 rfl
      rcases kA (E:=E) hs.slot U with ⟨rfl,rfl⟩ | ⟨u,v,rfl,rfl,hr⟩
      · simp only at lv;subst lv
        have:=e1 .sliceB
        rcases kA (E:=E) hs.slot h1 with ⟨rfl,rfl⟩ | ⟨u',v',rfl,rfl,bN⟩<;>simp[Instr.sliceBounds] at this ⊢
        · exact this
        · simp[this]
      · obtain⟨j,hj⟩:=lv;rw[hj] at hr;simp only[R] at hr
        have:=e1 .sliceB
        have e2:=oq (P:=P) (w:=E.w) (j:=j) (c:=.sliceAcap) (show n≤M by omega)
        rcases kA (E:=E) hs.slot h1 with ⟨rfl,rfl⟩ | ⟨u',v',rfl,rfl,bN⟩<;>simp[Instr.sliceBounds,hr,e2] at this ⊢
        · exact this
        · simp[this]
    · obtain rfl:=hM2 rfl;simp only at hk;obtain⟨⟨j3,JS⟩,hk⟩:=hk;rw[JS] at xJ;simp only[R] at xJ;have e3:=oq (P:=P) (w:=E.w) (j:=j3) (c:=.slice3Acap) Jc
      rcases kA (E:=E) hs.slot U with ⟨rfl,rfl⟩ | ⟨u,v,rfl,rfl,hr⟩
      · simp at sq
      · obtain⟨j,hj⟩:=lv;rw[hj] at hr;simp only[R] at hr
        have:=e1 .slice3C
        have e2:=oq (P:=P) (w:=E.w) (j:=j) (c:=.slice3B) (bt M)
        rcases kA (E:=E) hs.slot h1 with ⟨rfl,rfl⟩ | ⟨u',v',rfl,rfl,bN⟩<;>simp[Instr.sliceBounds,hr,xJ,e2,e3] at this ⊢
        · exact this
        · simp[this]
  have run:∀M:Nat,n≤M→M≤cap→(mx' = none→M=cap)→(mx'.isSome=true→M=n)→(execOp a.eval o).run P E.w = .ok (.value (.slice (if M=m then base else base.map (·.add (m*k))) (n - m) (M - m))) E.w:=fun M h1 U h3 h4=>by
    simp only[execOp,ho,Sem.run_bind,hv];simp[Instr.sliceAt,run_underlying ht,Instr.slice,key M h1 U h3 h4,mh hn]
  have val:∀M jI,n≤M→M≤cap→(jI = Tk.no∨(jI = Tk.full∧M=n))→R E (.sl jI k ((l.take n).drop m)) (.slice (if M=m then base else base.map (·.add (m*k))) (n - m) (M - m)):=fun M jI h1 U h3=>by
    have hlen:((l.take n).drop m).length=n - m:=by simp;omega
    simp only[R,hlen];refine⟨_,_,rfl,by omega,?_,?_⟩
    · rcases nS m n with aj | ni
      · right
        rcases kl with h | ⟨b,off,rfl,hr⟩
        · subst h;simp at n9;omega
        · refine⟨b,off+m*k,?_,Zw hr qN n9⟩;rw[ah (by omega)];simp[kb]
      · left;exact oB (by omega)
    · rcases h3 with rfl | ⟨rfl,rfl⟩
      · trivial
      · rfl
  cases mx' with
  | none=>exact cq hs (run cap (by omega) (bt _) (fun _=>rfl) (fun h=>by simp at h)) (val cap .no (by omega) (bt _) (.inl rfl)) hk
  | some y=>exact cq hs (run n (bt _) (by omega) (fun h=>by simp at h) (fun _=>rfl)) (val n .full (bt _) (by omega) (.inr ⟨rfl,rfl⟩)) hk.2
theorem atu (hs:bc E st a) {t:TypeId} {x:Operand} {lo hi:Option Operand} {vx:V} {lC cT : Option X} (ho:o.op = .slice t x lo hi none) (ht:P.underlying t=some .string)
    (hx:R E vx (a.eval x)) (h1:jB P t lo=some lC) (U:jB P t hi=some cT)
    (hk:∃s m n,vx = .str s∧m≤n∧n≤s.length∧(match (generalizing:=false) lC with | none=>m=0 | some y=>∃j,ev st y = .int j m)∧(match (generalizing:=false) cT with | none=>n=s.length | some y=>∃j,ev st y = .int j n)∧K (.str ((s.take n).drop m)) st) :
    o.wp P a E.w (cZ E a o.dst K) Q:=by
  obtain⟨s,m,n,rfl,qN,n9,cW,lv,hk⟩:=hk;simp only[R] at hx;have bO:(⟨s.toArray⟩:ByteArray).size=s.length:=by simp[ByteArray.size]
  have key:(Instr.sliceBounds false s.length s.length (lo.map a.eval) (hi.map a.eval) none).run P E.w = .ok (m,n,s.length) E.w:=by
    rcases kA (E:=E) hs.slot U with ⟨rfl,rfl⟩ | ⟨u,v,rfl,rfl,hr⟩
    · simp only at lv;subst lv
      rcases kA (E:=E) hs.slot h1 with ⟨rfl,rfl⟩ | ⟨u',v',rfl,rfl,bN⟩
      · simp only at cW;subst cW;simp[Instr.sliceBounds]
      · obtain⟨j',fX⟩:=cW;rw[fX] at bN;simp only[R] at bN;have e2:=oq (P:=P) (w:=E.w) (j:=j') (c:=.sliceB) qN;simp[Instr.sliceBounds,bN,e2]
    · obtain⟨j,hj⟩:=lv;rw[hj] at hr;simp only[R] at hr;have e2:=oq (P:=P) (w:=E.w) (j:=j) (c:=.sliceAlen) n9
      rcases kA (E:=E) hs.slot h1 with ⟨rfl,rfl⟩ | ⟨u',v',rfl,rfl,bN⟩
      · simp only at cW;subst cW;simp[Instr.sliceBounds,hr,e2]
      · obtain⟨j',fX⟩:=cW;rw[fX] at bN;simp only[R] at bN;have e3:=oq (P:=P) (w:=E.w) (j:=j') (c:=.sliceB) qN;simp[Instr.sliceBounds,hr,bN,e2,e3]
  refine cq hs (v:=.str ((s.take n).drop m)) (x:=.string ⟨((s.take n).drop m).toArray⟩) ?_ (by simp only[R]) hk;have he:(⟨s.toArray⟩:ByteArray).extract m n=⟨((s.take n).drop m).toArray⟩:=by
    apply ByteArray.ext;rw[ByteArray.data_extract];apply A0;simp[HG]
  simp only[execOp,ho,Sem.run_bind,hx];simp[Instr.sliceAt,run_underlying ht,Instr.slice,bO,key,he]
theorem Yj {w:World} {u:TypeId} (hu:P.underlying u=some .string) (s:List UInt8) :
    ∃news,Src P w 1 (cm s).length u (.string ⟨s.toArray⟩) news∧RL E (cm s).flatten news∧(∀v∈news,v.oneCell' = true)∧∀y∈cm s,y.length=1:=by
  have bO:(⟨s.toArray⟩:ByteArray).size=s.length:=by simp[ByteArray.size]
  have hx:((⟨s.toArray⟩:ByteArray).extract 0 s.length).data.map (fun b:UInt8=>Value.int .u8 (b.toNat:Int))=(s.map fun b:UInt8=>Value.int .u8 (b.toNat:Int)).toArray:=by
    apply A0;rw[ByteArray.data_extract];simp
  refine⟨s.map fun b=>Value.int .u8 b.toNat,⟨⟨_,hu,fun _ h=>by simp at h⟩,fun w' => by simp[Builtin.lenOf,bO,cm],?_,?_,by simp[cm]⟩,?_,?_,?_⟩
  · simp only[Builtin.firstCells,cm,aE,hx,Sem.run_pure]
  · simp only[Builtin.firstCells,cm,aE,hx,Sem.run_pure]
  · rw[BC];induction s with
    | nil=>simp[RL]
    | cons b s ih=>simp only[bC,RL,R];exact⟨trivial,by
        clear bO hx ih;induction s with
        | nil=>simp[RL]
        | cons c s ih=>simp only[bC,RL,R];exact⟨trivial,ih⟩⟩
  · intro v hv;simp only[rI] at hv;obtain⟨b,_,rfl⟩:=hv;rfl
  · intro y hy;simp only[cm,rI] at hy;obtain⟨b,_,rfl⟩:=hy;rfl
theorem CM {ao:ar} (hl:vQ P o=some ao) (hs:bc E st a) (h:ao.aM P st K):o.wp P a E.w (cZ E a o.dst K) Q:=by
  have X:=fun {t:TypeId} {x:Operand} {y:X} (hx:bX P t x=some y)=>lD (E:=E) (st:=st) (a:=a) hs.slot hx
  have XS:=fun {ts:List TypeId} {xs:List Operand} {ys:List Go.Am.X} (hx:hH P ts xs=some ys)=>K5 (E:=E) (st:=st) (a:=a) hs.slot hx
  unfold vQ at hl;split at hl
  · rename_i x ho;simp only[cx] at hl;obtain⟨y,hy,rfl⟩:=hl;exact Y0 hs (.inl ho) (X hy) h
  · rename_i x ho;simp only[cx] at hl;obtain⟨y,hy,rfl⟩:=hl;exact Y0 hs (.inr ho) (X hy) h
  · rename_i c x y ho;split at hl
    case h_2=>simp at hl
    rename_i h1 U h3;simp only[aH] at hl;subst hl;exact att hs ho (X h1) (X U) (X h3) h
  · rename_i t ho;simp only[cx] at hl;obtain⟨z,hz,rfl⟩:=hl;exact as7 hs ho hz h
  · rename_i t x ho;split at hl
    case h_2=>simp at hl
    rename_i h1 U;simp only[aH] at hl;subst hl;exact ata hs ho (X U) h.1 h.2
  · rename_i t ps ho;split at hl
    · rename_i z fs hz hu;split at hl
      case isFalse=>simp at hl
      rename_i b8;simp only[cx] at hl;obtain⟨WL,hp,rfl⟩:=hl;exact wp_build hs ho hz (.inl ⟨fs,hu,b8,rfl⟩) hp h
    · rename_i z k e hz hu;split at hl
      case isFalse=>simp at hl
      rename_i b8;simp only[cx] at hl;obtain⟨WL,hp,rfl⟩:=hl;exact wp_build hs ho hz (.inr ⟨k,e,hu,b8,rfl⟩) hp h
    · simp at hl
  · rename_i t len ps ho;split at hl
    case h_2=>simp at hl
    rename_i e hu;split at hl
    case h_2=>simp at hl
    rename_i k z xs h1 U h3;split at hl
    case isFalse=>simp at hl
    rename_i hc;simp only[aH] at hl;subst hl;exact atc hs ho hu h1 U h3 hc.1 hc.2.1 h
  · rename_i t x ho;split at hl
    case h_2=>simp at hl
    rename_i h1 U h3;simp only[aH] at hl;subst hl;exact atp hs ho h1 U (X h3) h
  · rename_i t x y ho;split at hl
    case h_2=>simp at hl
    rename_i n ax ay h1 U h3;split at hl
    · simp at hl
    rename_i zQ;simp only[aH] at hl;subst hl;simp only[ar.aM] at h;split at h
    case h_2=>exact h.elim
    rename_i aq dH;exact Y3 hs (Nat.pos_of_ne_zero zQ) ho h1 (X U) (X h3) dH h
  · rename_i x ho;simp only[cx] at hl;obtain⟨y,hy,rfl⟩:=hl;exact atr hs ho (X hy) h
  · rename_i op t x y t' ho;split at hl
    case h_2=>simp at hl
    rename_i ax ay h1 U;split at hl
    · simp only[aH] at hl;subst hl;exact as9 hs ho (X h1) (X U) h
    · split at hl
      · simp only[aH] at hl;subst hl;exact ate hs ho (X h1) (X U) h
      · simp only[aH] at hl;subst hl;exact as_ hs ho (X h1) (X U) h
    · rename_i hu;split at hl
      · simp only[aH] at hl;subst hl;exact YV hs (neg:=false) rfl hu ho (X h1) (X U) h
      · simp only[aH] at hl;subst hl;exact YV hs (neg:=true) rfl hu ho (X h1) (X U) h
      · simp at hl
    · rename_i fs hu;split at hl
      case h_2=>simp at hl
      rename_i ks e9;split at hl
      · simp only[aH] at hl;subst hl;exact Hi hs (neg:=false) rfl e9 ho (by simp[fV,hu]) (X h1) (X U) h
      · simp only[aH] at hl;subst hl;exact Hi hs (neg:=true) rfl e9 ho (by simp[fV,hu]) (X h1) (X U) h
      · simp at hl
    · rename_i fs e hu;split at hl
      case h_2=>simp at hl
      rename_i ks e9;split at hl
      · simp only[aH] at hl;subst hl;exact Hi hs (neg:=false) rfl e9 ho (by simp[fV,hu]) (X h1) (X U) h
      · simp only[aH] at hl;subst hl;exact Hi hs (neg:=true) rfl e9 ho (by simp[fV,hu]) (X h1) (X U) h
      · simp at hl
    · simp at hl
  · rename_i t x ho;simp only[cx] at hl;obtain⟨y,hy,rfl⟩:=hl;exact ats hs ho (X hy) h
  · rename_i src dst x ho;split at hl
    · rename_i h1 U h3;simp only[aH] at hl;subst hl;exact atg hs ho h1 U (X h3) h
    · rename_i h1 U h3;split at hl
      case h_2=>simp at hl
      rename_i h4;simp only[aH] at hl;subst hl;exact atf hs ho h1 U h4 (X h3) h
    · simp at hl
  · rename_i f first cap ho
    split at hl
    case h_2=>simp at hl
    rename_i h1 U;simp only[aH] at hl;subst hl;exact atq hs ho (XS h1) (XS U) h
  · rename_i t x lo hi mx ho;split at hl
    case h_2=>simp at hl
    rename_i h1 U h3 h4;split at hl
    · rename_i e hu;split at hl
      case h_2=>simp at hl
      rename_i k hk;split at hl
      case isFalse=>simp at hl
      rename_i sq;simp only[aH] at hl;subst hl;simp only[ar.aM] at h
      rcases h with h | ⟨base,n,cap,m,hh,e1,k1,k2,g1,g2,g3,hK⟩
      · exact atv hs ho hu hk (X h1) U h3 h4 sq h
      · have eT:=X h1;rw[e1] at eT;simp only[R] at eT;rename_i mx' _ _;have g3:mx' = none:=by cases mx' with | none=>rfl | some _=>simp at g3
        subst g3;have hb:=L9 (P:=P) (M:=cap) hs U h3 h4 sq g1 g2 rfl k1 k2 (bt _);refine cq hs (v:=.raw _) (x:=.slice (if cap=m then base else base.map (·.add (m*k))) (hh - m) (cap - m)) ?_ (by simp only[R]) hK;simp only[execOp,ho,Sem.run_bind,eT];simp[Instr.sliceAt,run_underlying hu,Instr.slice,hb,mh hk]
    · rename_i hu;split at hl
      case h_2=>simp at hl
      simp only[aH] at hl;subst hl;have sq:mx=none:=by cases mx with | none=>rfl | some m=>simp[jB] at h4
      subst sq;exact atu hs ho hu (X h1) U h3 h
    · simp at hl
  · rename_i s x i ho;split at hl
    case h_2=>simp at hl
    rename_i fs y h1 U;split at hl
    case h_2=>simp at hl
    rename_i f hf;split at hl
    case h_2=>simp at hl
    rename_i n hn;split at hl
    · simp at hl
    rename_i zQ;simp only[aH] at hl;subst hl;exact ati hs ho h1 hf hn zQ (X U) h
  · rename_i s x i ho;split at hl
    case h_2=>simp at hl
    rename_i fs y h1 U;split at hl
    case h_2=>simp at hl
    rename_i f hf;split at hl
    case h_2=>simp at hl
    rename_i g n hg hn;simp only[aH] at hl;subst hl;exact atj hs ho h1 hf hg hn (X U) h
  · rename_i t x i ho;split at hl
    case h_3=>simp at hl
    case h_1 =>
      rename_i e ax ai h1 U h3;simp only[cx] at hl;obtain⟨k,hk,rfl⟩:=hl;exact atk hs ho h1 hk (X U) (X h3) h
    case h_2 =>
      rename_i m e ax ai h1 U h3;simp only[cx] at hl;obtain⟨k,hk,rfl⟩:=hl;exact atl hs ho h1 hk (X U) (X h3) h
  · rename_i t x i ho;split at hl
    case h_2=>simp at hl
    rename_i ax ai h1 U h3;simp only[aH] at hl;subst hl;exact atm hs ho h1 (X U) (X h3) h
  · rename_i x i ho;simp only[cx] at hl;obtain⟨y,hy,rfl⟩:=hl;exact ath hs ho (X hy) h
  · rename_i c ho;obtain⟨callee,args,argTypes⟩:=c;simp only at hl;split at hl
    · rename_i f;simp only[cx] at hl;obtain⟨ys,nr,rfl⟩:=hl;refine YX hs (vs:=args.map a.eval) (by simpa using XS nr) h.1 h.2 ?_;simp[execOp,ho,resolve,Act.eval,Deferred.ofValue,invoke]
    · rename_i x;split at hl
      case h_2=>simp at hl
      rename_i y ys h1 U;simp only[aH] at hl;subst hl;have hx:=X h1;simp only[ar.aM] at h;split at h
      case h_2=>exact h.elim
      rename_i f as bs JI;rw[JI] at hx;simp only[R] at hx;obtain⟨fs,cs,he,r1,r2⟩:=hx;refine YX hs (vs:=fs++args.map a.eval++cs) (by simpa using rP (rP r1 (XS U)) r2) h.1 h.2 ?_;simp[execOp,ho,resolve,he,Deferred.ofValue,invoke]
    · split at hl
      case h_2=>simp at hl
      rename_i t x ht hx;have e1:argTypes=#[t]:=by cases argTypes;simpa using ht
      have e2:args=#[x]:=by cases args;simpa using hx
      subst e1;subst e2;split at hl
      · rename_i e y hu hy;simp only[aH] at hl;subst hl;exact atn hs ho hu (X hy) h
      · rename_i y hu hy;simp only[aH] at hl;subst hl;exact ato hs ho hu (X hy) h
      · simp at hl
    · split at hl
      case h_2=>simp at hl
      rename_i t u s x ht hx;have e1:argTypes=#[t,u]:=by cases argTypes;simpa using ht
      have e2:args=#[s,x]:=by cases args;simpa using hx
      subst e1;subst e2;have cn:(execOp a.eval o).run P E.w=((Builtin.append_ #[t,u] o.type #[a.eval s,a.eval x]).run P E.w).andThen fun v w' => .ok (.value v) w' := by
        simp[execOp,ho,resolve,invoke,builtin]
      split at hl
      · rename_i e e' ys yx h1 U h3 h4;split at hl
        case h_2=>simp at hl
        rename_i i z hi hz;split at hl
        case isFalse=>simp at hl
        rename_i hc;obtain⟨rfl,lq,gT⟩:=hc;simp only[aH] at hl;subst hl;obtain⟨i',zv,k1,k2,k3,k4⟩:=qw hz;rw[hi] at k1;simp only[aH] at k1;subst k1;have gU:zv.cells.size=i.size:=by have:=eM (oS (E:=E) k3);simp at this;omega
        simp only[ar.aM,nN] at h;obtain⟨tk,l,m,es,⟨t',ex⟩,hbig,hk⟩:=h;have hS:=X h3;have hX:=X h4;rw[es] at hS;rw[ex] at hX;obtain⟨news,q1,q2,q3,q4⟩:=G2 (P:=P) U hX;cases tk with
        | no=>exact hk.elim
        | tk τ=>exact Ds hs h1 hi k2 gU lq cn hS q1 q2 q3 q4 hbig hk
        | full =>
          rcases hk with hk | hk | ⟨τ,h5,h6⟩
          · exact Ds hs h1 hi k2 gU lq cn hS q1 q2 q3 q4 hbig (.inl hk)
          · exact Ds hs h1 hi k2 gU lq cn hS q1 q2 q3 q4 hbig (.inr hk)
          · exact Ds hs h1 hi k2 gU lq cn (tk:=.tk τ) (Tb hs h5 hS) q1 q2 q3 q4 hbig ⟨h5,h6⟩
      · rename_i e ys yx h1 U h3 h4;split at hl
        case h_2=>simp at hl
        rename_i i z hi hz;split at hl
        case h_2=>simp at hl
        split at hl
        case isFalse=>simp at hl
        rename_i hc;simp only[aH] at hl;subst hl;obtain⟨i',zv,k1,k2,k3,k4⟩:=qw hz;rw[hi] at k1;simp only[aH] at k1;subst k1;have gU:zv.cells.size=i.size:=by have:=eM (oS (E:=E) k3);simp at this;omega
        simp only[ar.aM,nN] at h;obtain⟨s',ex,tk,l,m,es,⟨t',em⟩,hbig,hk⟩:=h;simp only[V.sl.injEq,nL] at em;obtain⟨_,rfl⟩:=em;have hS:=X h3;have hX:=X h4;rw[es] at hS;rw[ex] at hX;simp only[R] at hX;obtain⟨news,q1,q2,q3,q4⟩:=Yj (P:=P) (E:=E.nl) (w:=E.w) U s';have EW:i.size=1:=hc.1;have fin:∀tk,R E (.sl tk 1 l) (a.eval s)→(match (generalizing:=false) tk with
            | .full=>(∀τ,st.out.aC τ=none→K (.sl (.tk τ) 1 (l++cm s')) ⟨st.t,st.loc,st.out.aL τ (l.length+(cm s').length)⟩)∨K (.sl .no 1 (l++cm s')) st
            | .tk τ=>st.out.aC τ=some l.length∧K (.sl (.tk τ) 1 (l++cm s')) ⟨st.t,st.loc,st.out.aL τ (l.length+(cm s').length)⟩
            | .no=>False)→o.wp P a E.w (cZ E a o.dst K) Q:=fun tk hS hk=>by
          refine Ds hs h1 hi k2 gU (by omega) cn (tk:=tk) (l:=l) (m:=cm s') (news:=news) (by rw[EW];exact hS) (by rw[EW,hX];exact q1) q2 q3 (by rw[EW];exact q4) hbig ?_;rw[EW];exact hk
        cases tk with
        | no=>exact hk.elim
        | tk τ=>exact fin _ hS hk
        | full =>
          rcases hk with hk | hk | ⟨τ,h5,h6⟩
          · exact fin _ hS (.inl hk)
          · exact fin _ hS (.inr hk)
          · exact fin (.tk τ) (Tb hs h5 hS) ⟨h5,h6⟩
      · simp at hl
    · simp at hl
  · simp at hl
end
def X.slot:X→List Nat
  | .s n=>[n]
  | .c _=>[]
def qp:Option X→List X
  | none=>[]
  | some x=>[x]
def ar.xs:ar→List X
  | .mv x | .box _ x | .kf _ x | .ff _ x | .load _ _ x | .sI x | .not x | .sC x | .sD x | .mB _ x | .pP _ _ _ x | .ext x _ | .nZ _ x | .r6 x=>[x]
  | .pick c a b=>[c,a,b]
  | .alloc _ | .mX _=>[]
  | .build _ ps=>ps.map (·.2.2)
  | .cR _ xs | .call _ xs | .own _ xs=>xs
  | .store _ a x | .dA _ a x | .iG _ a x | .tq _ a x | .cat a x | .kS _ _ a x | .zo _ a x | .kv _ a x | .qP a x | .fk _ _ a x | .app _ a x | .kc a x=>[a,x]
  | .gC x xs=>x::xs
  | .lg _ x lo hi mx=>x::(qp lo++qp hi++qp mx)
  | .sR x lo hi=>x::(qp lo++qp hi)
  | .ix _ first cap=>first++cap
def ar.aT:ar→Bool
  | .alloc _ | .box _ _ | .kf _ _ | .mX _ | .ff _ _ | .store _ _ _ | .call _ _ | .gC _ _ | .app _ _ _ | .kc _ _=>true
  | .own q _=>!q.pure
  | _=>false
def ar.Ac:ar→Bool
  | .load _ _ _=>true
  | _=>false
abbrev cy:=List (List V) × ae
def bB (t:List V) (s:cy):St:=⟨t,s.1,s.2⟩
def Exact (t:List V) (v:V) (s:cy):V→St→Prop:=fun v' aq => v' = v∧aq = bB t s
theorem aex {t t2:List V} {s s2:cy} {x:X} (h:∀n∈x.slot,t2.getD n .any=t.getD n .any):ev (bB t2 s2) x=ev (bB t s) x:=by
  cases x with
  | s n=>exact h n (by simp[X.slot])
  | c v=>rfl
theorem zq {t t2:List V} {s s2:cy}:∀{xs:List X},(∀x∈xs,ev (bB t2 s2) x=ev (bB t s) x)→cr (bB t2 s2) xs=cr (bB t s) xs
  | [],_=>rfl
  | x :: xs, h => by
    simp only[du] at h;simp only[cr,h.1,zq h.2]
theorem Rz {t t2:List V} {s s2:cy}:∀{ps:List (Nat × Nat × X)} {z:List V},(∀x∈ps.map (·.2.2),ev (bB t2 s2) x=ev (bB t s) x)→mw (bB t2 s2) z ps=mw (bB t s) z ps
  | [],_,_=>rfl
  | (off, n, x) :: ps, z, h => by
    simp only[bC,du] at h;simp only[mw,h.1,Rz h.2]
theorem Xj {t t2:List V} {s s2:cy} {k:Nat}:∀{xs:List X},(∀x∈xs,ev (bB t2 s2) x=ev (bB t s) x)→j4 (bB t2 s2) k xs=j4 (bB t s) k xs
  | [],_=>rfl
  | x :: xs, h => by
    simp only[du] at h;simp only[j4,h.1,Xj h.2]
def pr (s:cy) (g:Bool) (n:Nat) (a:V):Option V:=jV (bB [] s) g n a
theorem Va {t:List V} {s:cy} {g:Bool} {n:Nat} {a:V}:jV (bB t s) g n a=pr s g n a:=by
  unfold pr;cases a<;>simp only[jV];rename_i p o;cases p<;>rfl
theorem mk_inj {t:List V} {A:List (List V)} {B:ae} {s:cy} (h:(⟨t,A,B⟩:St)=bB t s):s=(A,B):=by
  have:=gm (fun q:St=>(q.loc,q.out)) h
  exact this.symm
section
variable {P:Program}
theorem aqQ {op:ar} {t t2:List V} {s s2 s' : cy} {v:V} (hx:∀x∈op.xs,ev (bB t2 s2) x=ev (bB t s) x) (qJ:op.aT=true→s2=s)
    (tU:∀g n x,op = .load g n x→pr s2 g n (ev (bB t s) x)=some v) (h:op.aM P (bB t s) (Exact t v s')) :
    op.aM P (bB t2 s2) (Exact t2 v (if op.aT then s' else s2)):=by
  cases op with
  | mv x =>
    simp only[ar.xs,du] at hx;simp only[ar.aM,Exact] at h ⊢;exact⟨by rw[hx.1];exact h.1,rfl⟩
  | pick c a b =>
    simp only[ar.xs,du] at hx;simp only[ar.aM] at h ⊢;rw[hx.1,hx.2.1,hx.2.2.1];split at h
    · exact⟨h.1,rfl⟩
    · exact⟨h.1,rfl⟩
    · exact h.elim
  | alloc z =>
    obtain rfl:=qJ rfl;simp only[ar.aM,Exact] at h ⊢;obtain rfl:=mk_inj h.2;exact⟨h.1,by simp[ar.aT,bB]⟩
  | box n x =>
    obtain rfl:=qJ rfl;simp only[ar.xs,du] at hx;simp only[ar.aM,Exact] at h ⊢;rw[hx.1];obtain rfl:=mk_inj h.2.2;exact⟨h.1,h.2.1,by simp[ar.aT,bB]⟩
  | kf n x =>
    obtain rfl:=qJ rfl;simp only[ar.xs,du] at hx;simp only[ar.aM,Exact] at h ⊢;rw[hx.1];obtain rfl:=mk_inj h.2.2.2;exact⟨h.1,h.2.1,h.2.2.1,by simp[ar.aT,bB]⟩
  | build z ps =>
    simp only[ar.aM] at h ⊢;rw[Rz (ps:=ps) hx];cases hb:(mw (bB t s) z ps).map V.agg with
    | none=>rw[hb] at h;exact h.elim
    | some u=>rw[hb] at h;exact⟨h.1,rfl⟩
  | cR k xs =>
    simp only[ar.aM] at h ⊢;rw[Xj (xs:=xs) hx];cases hb:(j4 (bB t s) k xs).map (V.sl .full k) with
    | none=>rw[hb] at h;exact h.elim
    | some u=>rw[hb] at h;exact⟨h.1,rfl⟩
  | load g n x =>
    simp only[ar.xs,du] at hx;simp only[ar.aM] at h ⊢;rw[hx.1,Va,tU g n x rfl];exact⟨rfl,rfl⟩
  | store n a x =>
    obtain rfl:=qJ rfl;simp only[ar.xs,du] at hx;simp only[ar.aM] at h ⊢;rw[hx.1,hx.2.1];generalize ev (bB t s2) x=xv at h ⊢;generalize ev (bB t s2) a=av at h ⊢;have key:∀aq,cJ (bB t s2) n xv av=some aq → cJ (bB t2 s2) n xv av=some (bB t2 (aq.loc,aq.out)):=fun aq he=>by
      cases av with
      | ptr p off =>
        cases p with
        | jt b=>simp[cJ] at he
        | loc i =>
          simp only[cJ,bB,gl] at he ⊢;obtain⟨cs,h1,U⟩:=he;refine⟨cs,h1,?_⟩
          by_cases hc:bI n (cs.drop off)=true∧xv.wd=some n∧bE xv.cells=true
          · rw[ak hc] at U ⊢;simp only[aH] at U;subst U;rfl
          · rw[ah hc] at U;simp at U
        | out b =>
          simp only[cJ,bB,gl] at he ⊢;obtain⟨cs,h1,U⟩:=he;refine⟨cs,h1,?_⟩
          by_cases hc:bI n (cs.drop off)=true∧xv.wd=some n∧bE xv.cells=true∧bm xv.cells=true
          · rw[ak hc] at U ⊢;simp only[aH] at U;subst U;rfl
          · rw[ah hc] at U;simp at U
      | _=>simp[cJ] at he
    split at h
    case h_2=>exact h.elim
    rename_i aq he;rw[key aq he]
    have:=gm (fun q:St=>(q.loc,q.out)) h.2
    have U:(aq.loc,aq.out)=s' := this;exact⟨h.1,by rw[U];rfl⟩
  | sI x =>
    simp only[ar.xs,du] at hx;simp only[ar.aM] at h ⊢;rw[hx.1];split at h<;>first | exact⟨h.1,rfl⟩ | exact h.elim
  | dA op x y =>
    simp only[ar.xs,du] at hx;simp only[ar.aM] at h ⊢;rw[hx.1,hx.2.1];cases hb:rV op (ev (bB t s) x) (ev (bB t s) y) with
    | none=>rw[hb] at h;exact h.elim
    | some u=>rw[hb] at h;exact⟨h.1,rfl⟩
  | iG op x y =>
    simp only[ar.xs,du] at hx;simp only[ar.aM] at h ⊢;rw[hx.1,hx.2.1];cases hb:wP op (ev (bB t s) x) (ev (bB t s) y) with
    | none=>rw[hb] at h;exact h.elim
    | some u=>rw[hb] at h;exact⟨h.1,rfl⟩
  | tq neg x y =>
    simp only[ar.xs,du] at hx;simp only[ar.aM] at h ⊢;rw[hx.1,hx.2.1];cases hb:vb neg (ev (bB t s) x) (ev (bB t s) y) with
    | none=>rw[hb] at h;exact h.elim
    | some u=>rw[hb] at h;exact⟨h.1,rfl⟩
  | cat x y =>
    simp only[ar.xs,du] at hx;simp only[ar.aM] at h ⊢;rw[hx.1,hx.2.1];obtain⟨a,b,h1,U,h3,h4⟩:=h;exact⟨a,b,h1,U,h3,h4.1,rfl⟩
  | kS neg n x y =>
    simp only[ar.xs,du] at hx;simp only[ar.aM] at h ⊢;rw[hx.1,hx.2.1];cases hb:va neg n (ev (bB t s) x) (ev (bB t s) y) with
    | none=>rw[hb] at h;exact h.elim
    | some u=>rw[hb] at h;exact⟨h.1,rfl⟩
  | zo neg x y =>
    simp only[ar.xs,du] at hx;simp only[ar.aM] at h ⊢;rw[hx.1,hx.2.1];split at h
    · rename_i e1 e2;exact⟨h.1,h.2.1,rfl⟩
    · exact h.elim
  | not x =>
    simp only[ar.xs,du] at hx;simp only[ar.aM] at h ⊢;rw[hx.1];split at h
    · exact⟨h.1,rfl⟩
    · exact h.elim
  | sC x =>
    simp only[ar.xs,du] at hx;simp only[ar.aM] at h ⊢;rw[hx.1];split at h
    · exact⟨h.1,rfl⟩
    · exact⟨h.1,rfl⟩
    · exact h.elim
  | sD x =>
    simp only[ar.xs,du] at hx;simp only[ar.aM] at h ⊢;rw[hx.1];split at h
    · exact⟨h.1,rfl⟩
    · exact h.elim
  | mB off x =>
    simp only[ar.xs,du] at hx;simp only[ar.aM] at h ⊢;rw[hx.1];split at h
    · exact⟨h.1,rfl⟩
    · exact⟨h.1,rfl⟩
    · exact h.elim
  | pP g off n x =>
    simp only[ar.xs,du] at hx;simp only[ar.aM] at h ⊢;rw[hx.1];split at h
    case h_2=>exact h.elim
    rename_i cs e;cases hb:bf g n (cs.drop off) with
    | none=>rw[hb] at h;exact h.elim
    | some u=>rw[hb] at h;exact⟨h.1,rfl⟩
  | kv k x i =>
    simp only[ar.xs,du] at hx;simp only[ar.aM] at h ⊢;rw[hx.1,hx.2.1];split at h
    · obtain⟨h1,k',n,c,U,h3,h4,h5⟩:=h;exact⟨h1,k',n,c,U,h3,h4,h5.1,rfl⟩
    · obtain⟨k',n,U,h3,h4,h5⟩:=h;exact⟨k',n,U,h3,h4,h5.1,rfl⟩
    · exact h.elim
  | fk m k x i =>
    simp only[ar.xs,du] at hx;simp only[ar.aM] at h ⊢;rw[hx.1,hx.2.1];split at h
    · obtain⟨kk,n,h1,U,h3,h4⟩:=h;exact⟨kk,n,h1,U,h3,h4.1,rfl⟩
    · obtain⟨kk,n,h1,U,h3,h4⟩:=h;exact⟨kk,n,h1,U,h3,h4.1,rfl⟩
    · exact h.elim
  | qP x i =>
    simp only[ar.xs,du] at hx;simp only[ar.aM] at h ⊢;rw[hx.1,hx.2.1];split at h
    case h_2=>exact h.elim
    obtain⟨k',n,c,U,h3,h4,h5⟩:=h;exact⟨k',n,c,U,h3,h4,h5.1,rfl⟩
  | call f xs =>
    obtain rfl:=qJ rfl;simp only[ar.aM] at h ⊢;rw[zq (xs:=xs) hx];refine⟨h.1,h.2.mono fun u σ hu=>?_⟩;obtain rfl:=mk_inj hu.2;exact⟨hu.1,rfl⟩
  | gC x xs =>
    obtain rfl:=qJ rfl;simp only[ar.xs,du] at hx;simp only[ar.aM] at h ⊢;rw[hx.1,zq hx.2];split at h
    case h_2=>exact h.elim
    refine⟨h.1,h.2.mono fun u σ hu=>?_⟩;obtain rfl:=mk_inj hu.2;exact⟨hu.1,rfl⟩
  | app k x y =>
    obtain rfl:=qJ rfl;simp only[ar.xs,du] at hx;simp only[ar.aM,nN] at h ⊢;rw[hx.1,hx.2.1];obtain⟨tk,l,m,h1,U,h3,h4⟩:=h;refine⟨tk,l,m,h1,U,h3,?_⟩;have conv:∀{u:V} {σ:ae},Exact t v s' u ⟨t,s2.1,σ⟩→Exact t2 v (if (ar.app k x y).aT then s' else s2) u ⟨t2,s2.1,σ⟩:=fun {u σ} hu=>by
      obtain rfl:=mk_inj hu.2;exact⟨hu.1,rfl⟩
    cases tk with
    | no=>exact h4
    | full =>
      rcases h4 with h4 | h4 | ⟨τ,h4,h5⟩
      · exact .inl fun τ bh=>conv (h4 τ bh)
      · exact .inr (.inl (conv h4))
      · exact .inr (.inr ⟨τ,h4,conv h5⟩)
    | tk τ=>exact⟨h4.1,conv h4.2⟩
  | kc x y =>
    obtain rfl:=qJ rfl;simp only[ar.xs,du] at hx;simp only[ar.aM,nN] at h ⊢;rw[hx.1,hx.2.1];obtain⟨str,h0,tk,l,m,h1,U,h3,h4⟩:=h;refine⟨str,h0,tk,l,m,h1,U,h3,?_⟩;have conv:∀{u:V} {σ:ae},Exact t v s' u ⟨t,s2.1,σ⟩→Exact t2 v (if (ar.kc x y).aT then s' else s2) u ⟨t2,s2.1,σ⟩:=fun {u σ} hu=>by
      obtain rfl:=mk_inj hu.2;exact⟨hu.1,rfl⟩
    cases tk with
    | no=>exact h4
    | full =>
      rcases h4 with h4 | h4 | ⟨τ,h4,h5⟩
      · exact .inl fun τ bh=>conv (h4 τ bh)
      · exact .inr (.inl (conv h4))
      · exact .inr (.inr ⟨τ,h4,conv h5⟩)
    | tk τ=>exact⟨h4.1,conv h4.2⟩
  | lg k x lo hi mx =>
    simp only[ar.xs,du] at hx;simp only[ar.aM] at h ⊢;rw[hx.1]
    rcases h with ⟨tk,l,m,n,h1,U,h3,h4,h5,h6⟩ | ⟨a,n,cap,m,hh,h1,U,h3,h4,h5,h6,h7⟩
    · refine .inl ⟨tk,l,m,n,h1,U,h3,?_,?_,?_⟩
      · cases lo with
        | none=>exact h4
        | some y=>simp only at h4 ⊢;rw[hx.2 y (by simp[qp])];exact h4
      · cases hi with
        | none=>exact h5
        | some y=>simp only at h5 ⊢;rw[hx.2 y (by simp[qp])];exact h5
      · cases mx with
        | none=>exact⟨h6.1,rfl⟩
        | some y=>simp only at h6 ⊢;rw[hx.2 y (by simp[qp])];exact⟨h6.1,h6.2.1,rfl⟩
    · refine .inr ⟨a,n,cap,m,hh,h1,U,h3,?_,?_,h6,h7.1,rfl⟩
      · cases lo with
        | none=>exact h4
        | some y=>simp only at h4 ⊢;rw[hx.2 y (by simp[qp])];exact h4
      · cases hi with
        | none=>exact h5
        | some y=>simp only at h5 ⊢;rw[hx.2 y (by simp[qp])];exact h5
  | sR x lo hi =>
    simp only[ar.xs,du] at hx;simp only[ar.aM] at h ⊢;rw[hx.1];obtain⟨l,m,n,h1,U,h3,h4,h5,h6⟩:=h;refine⟨l,m,n,h1,U,h3,?_,?_,h6.1,rfl⟩
    · cases lo with
      | none=>exact h4
      | some y=>simp only at h4 ⊢;rw[hx.2 y (by simp[qp])];exact h4
    · cases hi with
      | none=>exact h5
      | some y=>simp only at h5 ⊢;rw[hx.2 y (by simp[qp])];exact h5
  | ext x i =>
    simp only[ar.xs,du] at hx;simp only[ar.aM] at h ⊢;rw[hx.1];split at h
    case h_2=>exact h.elim
    rename_i vs e;cases hb:vs[i]? with
    | none=>rw[hb] at h;exact h.elim
    | some u=>rw[hb] at h;exact⟨h.1,rfl⟩
  | ix f first cap =>
    simp only[ar.xs,List.forall_mem_append] at hx;simp only[ar.aM] at h ⊢;rw[zq hx.1,zq hx.2];exact⟨h.1,rfl⟩
  | nZ k x =>
    simp only[ar.xs,du] at hx;simp only[ar.aM] at h ⊢;rw[hx.1];split at h
    · exact⟨h.1,rfl⟩
    · exact h.elim
  | r6 x =>
    simp only[ar.xs,du] at hx;simp only[ar.aM] at h ⊢;rw[hx.1];obtain⟨tk,str,h1,U⟩:=h;exact⟨tk,str,h1,U.1,rfl⟩
  | mX z =>
    obtain rfl:=qJ rfl;simp only[ar.aM,Exact] at h ⊢;refine⟨h.1,fun b hb=>?_⟩;obtain⟨h1,U⟩:=h.2 b hb;obtain rfl:=mk_inj U;exact⟨h1,by simp[ar.aT,bB]⟩
  | ff n x =>
    obtain rfl:=qJ rfl;simp only[ar.xs,du] at hx;simp only[ar.aM,Exact] at h ⊢;rw[hx.1];refine⟨h.1,h.2.1,fun b hb=>?_⟩;obtain⟨h1,U⟩:=h.2.2 b hb;obtain rfl:=mk_inj U;exact⟨h1,by simp[ar.aT,bB]⟩
  | own q xs =>
    simp only[ar.aM,ar.xs] at h hx ⊢;rw[zq hx];cases hp:q.pure
    · have he:(ar.own q xs).aT=true:=by simp[ar.aT,hp]
      obtain rfl:=qJ he;refine OQ.mono (fun u σ' hu=>?_) q _ h;obtain rfl:=mk_inj hu.2;exact⟨hu.1,by rw[ak he];rfl⟩
    · have he:¬((ar.own q xs).aT=true):=by simp[ar.aT,hp]
      obtain⟨u,h1,U⟩:=OQ.Sd hp h;exact U _ _ ⟨h1.1,by rw[ah he]⟩
end
def Dx (σ:ae) (k:Nat) (s x:V) (K:V→ae→Prop):Prop :=
  ∃t l m,s = .sl t k l∧(∃t',x = .sl t' k m)∧l.length+m.length≤aF ∧
    match t with
    | .full=>K (.sl .no k (l++m)) σ∨∃τ,σ.aC τ=some l.length∧K (.sl (.tk τ) k (l++m)) (σ.aL τ (l.length+m.length))
    | .tk τ=>σ.aC τ=some l.length∧K (.sl (.tk τ) k (l++m)) (σ.aL τ (l.length+m.length))
    | .no=>False
def ar.kH (P:Program) (st:St) (K:V→St→Prop):ar→Prop
  | .call f xs=>bm (cr st xs)=true∧∃v σ,al P f (cr st xs) st.out (fun v' σ' => v' = v∧σ' = σ)∧K v ⟨st.t,st.loc,σ⟩
  | .gC x xs => match ev st x with
    | .fn (.func f) a b=>bm (a++cr st xs++b)=true∧∃v σ,al P f (a++cr st xs++b) st.out (fun v' σ' => v' = v∧σ' = σ)∧K v ⟨st.t,st.loc,σ⟩
    | _=>False
  | .app k s x=>Dx st.out k (ev st s) (ev st x) fun v σ=>K v ⟨st.t,st.loc,σ⟩
  | .kc s x=>∃a,ev st x = .str a∧Dx st.out 1 (ev st s) (.sl .no 1 (cm a)) fun v σ=>K v ⟨st.t,st.loc,σ⟩
  | .mX _ | .ff _ _=>False
  | .own q xs=>q.pure=true∧q.aM st.out (fun v σ=>K v ⟨st.t,st.loc,σ⟩) (cr st xs)
  | op=>op.aM P st K
structure TR where
  dst:Option Nat
  val:V
  aT:Bool
  wm:cy
def jd (t:List V) (d:Option Nat) (v:V):List V :=
  match d with
  | some n=>t.set n v
  | none=>t
theorem CZ (t:List V) (s:cy) (d:Option Nat) (v:V):(bB t s).put d v=bB (jd t d v) s:=by cases d<;>rfl
def AD:cy:=([],⟨fun _=>none,fun _=>none,fun _=>none⟩)
def wS (SN:List cy) (g:Bool) (n:Nat) (a v:V):List Nat→Prop
  | []=>True
  | m::ms=>pr (SN.getD m AD) g n a=some v∧wS SN g n a v ms
def nW (SN:List cy):List (V × Bool × Nat × V × List Nat)→Prop
  | []=>True
  | (a,g,n,v,ms)::r=>wS SN g n a v ms∧nW SN r
theorem RC {SN:List cy} {g:Bool} {n:Nat} {a v:V}:∀{ms:List Nat},wS SN g n a v ms→∀m∈ms,pr (SN.getD m AD) g n a=some v
  | [],_,_,h=>by simp at h
  | m :: ms, h, m', h' => by
    rcases j_.1 h' with rfl | h'
    · exact h.1
    · exact RC h.2 m' h'
def KM (st:St) (ms:List Nat) (v:V):ar→List (V × Bool × Nat × V × List Nat)
  | .load g n x=>[(ev st x,g,n,v,ms)]
  | _=>[]
def bL (P:Program):List (AO × List Nat)→List cy→List (V × Bool × Nat × V × List Nat)→(St→Prop)→St→Prop
  | [],SN,L,K,st=>nW SN L∧K st
  | (o, ms) :: r, SN, L, K, st =>
    match o.guard with
    | none=>o.op.kH P st fun v aq => bL P r (if o.op.aT then SN++[(aq.loc,aq.out)] else SN) (KM st ms v o.op++L) K (aq.put o.dst v)
    | some (g, want) =>
      match ev st (.s g) with
      | .bool b =>
        if b=want then o.op.kH P st fun v aq => bL P r (if o.op.aT then SN++[(aq.loc,aq.out)] else SN) (KM st ms v o.op++L) K (aq.put o.dst v)
        else bL P r (if o.op.aT then SN++[(st.loc,st.out)] else SN) L K (st.put o.dst (.aX []))
      | .aX []=>bL P r (if o.op.aT then SN++[(st.loc,st.out)] else SN) L K (st.put o.dst (.aX []))
      | _=>False
def NZ (P:Program) (SN:List cy) (o:AO) (ms:List Nat) (t:List V) (s:cy) (r:TR):Prop :=
  r.dst=o.dst∧r.aT=o.op.aT∧∃run:Bool,
    (match o.guard with | none=>run=true | some (g,want)=>(∃b,t.getD g .any = .bool b∧run=(b == want))∨t.getD g .any = .aX []∧run=false) ∧
    (run=true→o.op.aM P (bB t s) (Exact t r.val (if o.op.aT then r.wm else s))∧∀g n x,o.op = .load g n x→∀m∈ms,pr (SN.getD m AD) g n (ev (bB t s) x)=some r.val) ∧
    (run=false→r.val = .aX []∧(r.aT=true→r.wm=s))
def uY (P:Program) (SN:List cy):List (AO × List Nat)→List TR→List V→cy→Prop
  | [],[],_,_=>True
  | (o,ms)::l,r::tr,t,s=>NZ P SN o ms t s r∧uY P SN l tr (jd t r.dst r.val) (if r.aT then r.wm else s)
  | _,_,_,_=>False
def runT:List TR→List V→List V
  | [],t=>t
  | r::tr,t=>runT tr (jd t r.dst r.val)
def cP:List TR→cy→cy
  | [],s=>s
  | r::tr,s=>cP tr (if r.aT then r.wm else s)
def iH:List TR→List cy
  | []=>[]
  | r::tr=>if r.aT then r.wm::iH tr else iH tr
section
variable {P:Program}
theorem aqP {op:ar} {t:List V} {s:cy} {K:V→St→Prop} (h:op.kH P (bB t s) K):∃v s',op.aM P (bB t s) (Exact t v s')∧K v (bB t s')∧(op.aT=false→s' = s):=by
  have uq:∀{o:Option V},opt o (K2 K (bB t s))→∃v,opt o (K2 (Exact t v s) (bB t s))∧K v (bB t s):=fun {o} h=>by
    cases o with
    | none=>exact h.elim
    | some u=>exact⟨u,⟨rfl,rfl⟩,h⟩
  cases op with
  | mv x=>exact⟨_,s,⟨rfl,rfl⟩,h,fun _=>rfl⟩
  | pick c a b =>
    simp only[ar.kH,ar.aM] at h ⊢;split at h
    · rename_i e;exact⟨_,s,⟨rfl,rfl⟩,h,fun _=>rfl⟩
    · rename_i e;exact⟨_,s,⟨rfl,rfl⟩,h,fun _=>rfl⟩
    · exact h.elim
  | alloc z=>exact⟨_,(s.1++[z],s.2),⟨rfl,rfl⟩,h,fun h=>by simp[ar.aT] at h⟩
  | box n x=>exact⟨_,(s.1++[(ev (bB t s) x).cells],s.2),⟨h.1,rfl,rfl⟩,h.2,fun h=>by simp[ar.aT] at h⟩
  | kf n x=>exact⟨_,(s.1++[(ev (bB t s) x).cells],s.2),⟨h.1,h.2.1,rfl,rfl⟩,h.2.2,fun h=>by simp[ar.aT] at h⟩
  | build z ps=>obtain⟨v,h1,U⟩:=uq h;exact⟨v,s,h1,U,fun _=>rfl⟩
  | cR k xs=>obtain⟨v,h1,U⟩:=uq h;exact⟨v,s,h1,U,fun _=>rfl⟩
  | load g n x=>obtain⟨v,h1,U⟩:=uq h;exact⟨v,s,h1,U,fun _=>rfl⟩
  | store n a x =>
    simp only[ar.kH,ar.aM] at h ⊢;split at h
    case h_2=>exact h.elim
    rename_i aq he;have ht:aq.t=t:=by
      generalize ev (bB t s) a=av at he;generalize ev (bB t s) x=xv at he;cases av with
      | ptr p off =>
        cases p with
        | jt b=>simp[cJ] at he
        | loc i =>
          simp only[cJ,gl] at he;obtain⟨cs,_,U⟩:=he;split at U
          · simp only[aH] at U;subst U;rfl
          · simp at U
        | out b =>
          simp only[cJ,gl] at he;obtain⟨cs,_,U⟩:=he;split at U
          · simp only[aH] at U;subst U;rfl
          · simp at U
      | _=>simp[cJ] at he
    obtain⟨t',l',o'⟩:=aq;simp only at ht;subst ht;exact⟨.any,(l',o'),⟨rfl,rfl⟩,h,fun h=>by simp[ar.aT] at h⟩
  | sI x =>
    simp only[ar.kH,ar.aM] at h ⊢;split at h<;>first | exact⟨_,s,⟨rfl,rfl⟩,h,fun _=>rfl⟩ | exact h.elim
  | dA op x y=>obtain⟨v,h1,U⟩:=uq h;exact⟨v,s,h1,U,fun _=>rfl⟩
  | iG op x y=>obtain⟨v,h1,U⟩:=uq h;exact⟨v,s,h1,U,fun _=>rfl⟩
  | tq neg x y=>obtain⟨v,h1,U⟩:=uq h;exact⟨v,s,h1,U,fun _=>rfl⟩
  | cat x y =>
    obtain⟨a,b,h1,U,h3,h4⟩:=h;exact⟨_,s,⟨a,b,h1,U,h3,rfl,rfl⟩,h4,fun _=>rfl⟩
  | kS neg n x y=>obtain⟨v,h1,U⟩:=uq h;exact⟨v,s,h1,U,fun _=>rfl⟩
  | zo neg x y =>
    simp only[ar.kH,ar.aM] at h ⊢;split at h
    · exact⟨_,s,⟨h.1,rfl,rfl⟩,h.2,fun _=>rfl⟩
    · exact h.elim
  | not x =>
    simp only[ar.kH,ar.aM] at h ⊢;split at h
    · exact⟨_,s,⟨rfl,rfl⟩,h,fun _=>rfl⟩
    · exact h.elim
  | sC x =>
    simp only[ar.kH,ar.aM] at h ⊢;split at h
    · exact⟨_,s,⟨rfl,rfl⟩,h,fun _=>rfl⟩
    · exact⟨_,s,⟨rfl,rfl⟩,h,fun _=>rfl⟩
    · exact h.elim
  | sD x =>
    simp only[ar.kH,ar.aM] at h ⊢;split at h
    · exact⟨_,s,⟨rfl,rfl⟩,h,fun _=>rfl⟩
    · exact h.elim
  | mB off x =>
    simp only[ar.kH,ar.aM] at h ⊢;split at h
    · exact⟨_,s,⟨rfl,rfl⟩,h,fun _=>rfl⟩
    · exact⟨_,s,⟨rfl,rfl⟩,h,fun _=>rfl⟩
    · exact h.elim
  | pP g off n x =>
    simp only[ar.kH,ar.aM] at h ⊢;split at h
    · obtain⟨v,h1,U⟩:=uq h;exact⟨v,s,h1,U,fun _=>rfl⟩
    · exact h.elim
  | kv k x i =>
    simp only[ar.kH,ar.aM] at h ⊢;split at h
    · obtain⟨h1,k',n,c,U,h3,h4,h5⟩:=h;exact⟨_,s,⟨h1,k',n,c,U,h3,h4,rfl,rfl⟩,h5,fun _=>rfl⟩
    · obtain⟨k',n,U,h3,h4,h5⟩:=h;exact⟨_,s,⟨k',n,U,h3,h4,rfl,rfl⟩,h5,fun _=>rfl⟩
    · exact h.elim
  | fk m k x i =>
    simp only[ar.kH,ar.aM] at h ⊢;split at h
    · obtain⟨kk,n,h1,U,h3,h4⟩:=h;exact⟨_,s,⟨kk,n,h1,U,h3,rfl,rfl⟩,h4,fun _=>rfl⟩
    · obtain⟨kk,n,h1,U,h3,h4⟩:=h;exact⟨_,s,⟨kk,n,h1,U,h3,rfl,rfl⟩,h4,fun _=>rfl⟩
    · exact h.elim
  | qP x i =>
    simp only[ar.kH,ar.aM] at h ⊢;split at h
    · obtain⟨k',n,c,U,h3,h4,h5⟩:=h;exact⟨_,s,⟨k',n,c,U,h3,h4,rfl,rfl⟩,h5,fun _=>rfl⟩
    · exact h.elim
  | call f xs =>
    obtain⟨h1,v,σ,U,h3⟩:=h;exact⟨v,(s.1,σ),⟨h1,U.mono fun u σ' hu=>⟨hu.1,by rw[hu.2];rfl⟩⟩,h3,fun h=>by simp[ar.aT] at h⟩
  | gC x xs =>
    simp only[ar.kH,ar.aM] at h ⊢;split at h
    · rename_i e;obtain⟨h1,v,σ,U,h3⟩:=h;refine⟨v,(s.1,σ),?_,h3,fun h=>by simp[ar.aT] at h⟩
      (try rw[e])
      exact⟨h1,U.mono fun u σ' hu=>⟨hu.1,by rw[hu.2];rfl⟩⟩
    · exact h.elim
  | app k x y =>
    obtain⟨tk,l,m,h1,U,h3,h4⟩:=h;cases tk with
    | no=>exact h4.elim
    | full =>
      rcases h4 with h4 | ⟨τ,h4,h5⟩
      · exact⟨_,s,⟨_,l,m,h1,U,h3,.inr (.inl ⟨rfl,rfl⟩)⟩,h4,fun h=>by simp[ar.aT] at h⟩
      · exact⟨_,(s.1,_),⟨_,l,m,h1,U,h3,.inr (.inr ⟨τ,h4,rfl,rfl⟩)⟩,h5,fun h=>by simp[ar.aT] at h⟩
    | tk τ=>exact⟨_,(s.1,_),⟨_,l,m,h1,U,h3,h4.1,rfl,rfl⟩,h4.2,fun h=>by simp[ar.aT] at h⟩
  | kc x y =>
    obtain⟨a,h0,tk,l,m,h1,U,h3,h4⟩:=h;cases tk with
    | no=>exact h4.elim
    | full =>
      rcases h4 with h4 | ⟨τ,h4,h5⟩
      · exact⟨_,s,⟨a,h0,_,l,m,h1,U,h3,.inr (.inl ⟨rfl,rfl⟩)⟩,h4,fun h=>by simp[ar.aT] at h⟩
      · exact⟨_,(s.1,_),⟨a,h0,_,l,m,h1,U,h3,.inr (.inr ⟨τ,h4,rfl,rfl⟩)⟩,h5,fun h=>by simp[ar.aT] at h⟩
    | tk τ=>exact⟨_,(s.1,_),⟨a,h0,_,l,m,h1,U,h3,h4.1,rfl,rfl⟩,h4.2,fun h=>by simp[ar.aT] at h⟩
  | lg k x lo hi mx =>
    simp only[ar.kH,ar.aM] at h ⊢
    rcases h with ⟨tk,l,m,n,h1,U,h3,h4,h5,h6⟩ | ⟨a,n,cap,m,hh,h1,U,h3,h4,h5,h6,h7⟩
    · cases mx with
      | none=>exact⟨_,s,.inl ⟨tk,l,m,n,h1,U,h3,h4,h5,rfl,rfl⟩,h6,fun _=>rfl⟩
      | some y=>exact⟨_,s,.inl ⟨tk,l,m,n,h1,U,h3,h4,h5,h6.1,rfl,rfl⟩,h6.2,fun _=>rfl⟩
    · exact⟨_,s,.inr ⟨a,n,cap,m,hh,h1,U,h3,h4,h5,h6,rfl,rfl⟩,h7,fun _=>rfl⟩
  | sR x lo hi =>
    obtain⟨l,m,n,h1,U,h3,h4,h5,h6⟩:=h;exact⟨_,s,⟨l,m,n,h1,U,h3,h4,h5,rfl,rfl⟩,h6,fun _=>rfl⟩
  | ext x i =>
    simp only[ar.kH,ar.aM] at h ⊢;split at h
    · obtain⟨v,h1,U⟩:=uq h;exact⟨v,s,h1,U,fun _=>rfl⟩
    · exact h.elim
  | ix f first cap=>exact⟨_,s,⟨rfl,rfl⟩,h,fun _=>rfl⟩
  | nZ k x =>
    simp only[ar.kH,ar.aM] at h ⊢;split at h
    · exact⟨_,s,⟨rfl,rfl⟩,h,fun _=>rfl⟩
    · exact h.elim
  | r6 x =>
    obtain⟨tk,str,h1,U⟩:=h;exact⟨_,s,⟨tk,str,h1,rfl,rfl⟩,U,fun _=>rfl⟩
  | mX z=>exact h.elim
  | ff n x=>exact h.elim
  | own q xs =>
    obtain⟨hp,h⟩:=h;obtain⟨v,h1,U⟩:=OQ.Sd hp h;have hE:(ar.own q xs).aM P (bB t s) (Exact t v s):=U s.2 (fun u σ=>Exact t v s u ⟨t,s.1,σ⟩) ⟨rfl,rfl⟩;exact⟨v,s,hE,h1,fun _=>rfl⟩
theorem RD {SN:List cy}:∀{l m:List (V × Bool × Nat × V × List Nat)},nW SN (l++m)↔nW SN l∧nW SN m
  | [],m=>by simp[nW]
  | (a,g,n,v,ms)::l,m=>by simp only[fN,nW,RD,H0]
theorem Dk {K:St→Prop}:∀{l:List (AO × List Nat)} {SN:List cy} {L:List (V × Bool × Nat × V × List Nat)} {t:List V} {s:cy},bL P l SN L K (bB t s) →
    ∃tr,uY P (SN++iH tr) l tr t s∧nW (SN++iH tr) L∧K (bB (runT tr t) (cP tr s))
  | [],SN,L,t,s,h=>⟨[],trivial,by simpa [iH] using h.1,h.2⟩
  | (o, ms) :: l, SN, L, t, s, h => by
    have go:o.op.kH P (bB t s) (fun v aq => bL P l (if o.op.aT then SN++[(aq.loc,aq.out)] else SN) (KM (bB t s) ms v o.op++L) K (aq.put o.dst v)) →
        (match o.guard with | none=>True | some (g,want)=>∃b,t.getD g .any = .bool b∧true=(b == want)) →
        ∃tr,uY P (SN++iH tr) ((o,ms)::l) tr t s∧nW (SN++iH tr) L∧K (bB (runT tr t) (cP tr s)):=fun h hg=>by
      obtain⟨v,s',h1,U,h3⟩:=aqP h;rw[CZ] at U;obtain⟨tr,k1,k2,k3⟩:=Dk U;have ct : (if o.op.aT then s' else s)=s' := by cases he:o.op.aT<;>simp[he] at h3 ⊢;exact h3.symm
      have o6:SN++iH (⟨o.dst,v,o.op.aT,s'⟩::tr)=(if o.op.aT then SN++[s'] else SN)++iH tr:=by
        cases o.op.aT<;>simp[iH]
      have aiQ : (if o.op.aT then SN++[((bB t s').loc,(bB t s').out)] else SN)=(if o.op.aT then SN++[s'] else SN):=rfl;rw[aiQ] at k1 k2;rw[RD] at k2;refine⟨⟨o.dst,v,o.op.aT,s'⟩::tr,?_,by rw[o6];exact k2.2,?_⟩
      · rw[o6];refine⟨⟨rfl,rfl,true,?_,fun _=>⟨by rw[ct];exact h1,fun g n x hx m hm=>?_⟩,fun h=>by simp at h⟩,by simp only[ct];exact k1⟩
        · cases kn:o.guard with
          | none=>rfl
          | some p=>rw[kn] at hg;exact .inl hg
        · rw[hx] at k2
          have:=RC k2.1.1 m hm
          rw[←hx] at this;exact this
      · simp only[runT,cP,ct];exact k3
    simp only[bL] at h;cases kn:o.guard with
    | none=>rw[kn] at h;exact go h (by rw[kn];trivial)
    | some p =>
      obtain⟨g,want⟩:=p;rw[kn] at h;simp only at h;have skip:∀bz : ((∃b,t.getD g .any = .bool b∧false=(b == want))∨t.getD g .any = .aX []∧false=false),bL P l (if o.op.aT then SN++[((bB t s).loc,(bB t s).out)] else SN) L K ((bB t s).put o.dst (.aX [])) →
          ∃tr,uY P (SN++iH tr) ((o,ms)::l) tr t s∧nW (SN++iH tr) L∧K (bB (runT tr t) (cP tr s)):=fun bz h=>by
        rw[CZ] at h;obtain⟨tr,k1,k2,k3⟩:=Dk h;have Uw:(if o.op.aT then s else s)=s:=by simp
        have o6:SN++iH (⟨o.dst,.aX [],o.op.aT,s⟩::tr)=(if o.op.aT then SN++[s] else SN)++iH tr:=by
          cases o.op.aT<;>simp[iH]
        refine⟨⟨o.dst,.aX [],o.op.aT,s⟩::tr,?_,by rw[o6];exact k2,?_⟩
        · rw[o6];refine⟨⟨rfl,rfl,false,by rw[kn];exact bz,fun h=>by simp at h,fun _=>⟨rfl,fun _=>rfl⟩⟩,by simp only[Uw];exact k1⟩
        · simp only[runT,cP,Uw];exact k3
      split at h
      · rename_i b hb;have bz : t.getD g .any = .bool b:=hb;split at h
        · rename_i hw;exact go h (by rw[kn];exact⟨b,bz,by simp[hw]⟩)
        · rename_i hw;exact skip (.inl ⟨b,bz,by simp[hw]⟩) h
      · rename_i hb;exact skip (.inr ⟨hb,rfl⟩) h
      · exact h.elim
end
def bQ (S:Nat→Bool):Nat→List TR→List TR
  | _,[]=>[]
  | i,r::tr=>if S i then r::bQ S (i+1) tr else bQ S (i+1) tr
def bS (S:Nat→Bool):Nat→List TR→Nat
  | _,[]=>0
  | i,r::tr=>(if S i&&r.aT then 1 else 0)+bS S (i+1) tr
theorem GG (t:List V) (d:Option Nat) (v:V):(jd t d v).length=t.length:=by cases d<;>simp[jd]
theorem I0 (t:List V) (d:Option Nat) (v:V) (x:Nat):(jd t d v).getD x .any=if d=some x then (if x<t.length then v else .any) else t.getD x .any:=by
  cases d with
  | none=>simp[jd]
  | some n =>
    simp only[jd,aH]
    by_cases h:n=x
    · subst h;rw[ak rfl]
      by_cases hl:n<t.length
      · rw[ak hl];simp[List.getD,Nx hl]
      · rw[ah hl,List.getD,wF (by simp;omega)];rfl
    · rw[ah h];simp[List.getD,A8 h]
theorem wg {S S' : Nat→Bool} {x:Nat}:∀{tr:List TR} {i:Nat} {t t' : List V},t.length=t'.length→t.getD x .any=t'.getD x .any →
    (∀(j:Nat) r,tr[j]?=some r→r.dst=some x→S (i+j)=S' (i+j))→(runT (bQ S i tr) t).getD x .any=(runT (bQ S' i tr) t').getD x .any
  | [],i,t,t',_,h,_=>h
  | r :: tr, i, t, t', hl, h, hS => by
    have tW:∀(j:Nat) r',tr[j]?=some r' → r'.dst=some x→S (i+1+j)=S' (i+1+j):=fun j r' hr hd=>by
      have:=hS (j+1) r' (by simpa using hr) hd
      rw[show i+(j+1)=i+1+j from by omega] at this;exact this
    have h0:r.dst=some x→S i=S' i:=fun hd=>by simpa using hS 0 r (by simp) hd
    simp only[bQ]
    by_cases hd:r.dst=some x
    · rw[h0 hd];cases S' i
      · exact wg hl h tW
      · simp only[b7,runT];refine wg (by simp[GG,hl]) ?_ tW;rw[I0,I0,ak hd,ak hd,hl]
    · have e:∀t:List V,(jd t r.dst r.val).getD x .any=t.getD x .any:=fun t=>by rw[I0,ah hd]
      cases S i<;>cases S' i<;>simp only[b7,bP,cI,runT]
      · exact wg hl h tW
      · exact wg (by simp[GG,hl]) (by rw[e];exact h) tW
      · exact wg (by simp[GG,hl]) (by rw[e];exact h) tW
      · exact wg (by simp[GG,hl]) (by rw[e,e];exact h) tW
theorem ao9 (t:List V) {d d' : Option Nat} (v v' : V) (h:∀n,d=some n→d' ≠ some n):jd (jd t d v) d' v' = jd (jd t d' v') d v:=by
  cases d with
  | none=>rfl
  | some n =>
    cases d' with
    | none=>rfl
    | some m =>
      simp only[jd];rw[List.set_comm];intro e;exact h n rfl (by rw[e])
theorem Xx:∀{tr:List TR} {t:List V} {d:Option Nat} {v:V},(∀r∈tr,∀n,d=some n→r.dst≠some n)→runT tr (jd t d v)=jd (runT tr t) d v
  | [],_,_,_,_=>rfl
  | r :: tr, t, d, v, h => by
    simp only[du] at h;simp only[runT];rw[ao9 t v r.val h.1,Xx h.2]
theorem Mg {S:Nat→Bool}:∀{tr:List TR} {i:Nat} {r:TR},r∈bQ S i tr→∃j,tr[j]?=some r∧S (i+j)=true
  | [],_,_,h=>by simp[bQ] at h
  | q :: tr, i, r, h => by
    simp only[bQ] at h;split at h
    · rename_i hS
      rcases j_.1 h with rfl | h
      · exact⟨0,by simp,by simpa using hS⟩
      · obtain⟨j,h1,U⟩:=Mg h;exact⟨j+1,by simpa using h1,by rw[show i+(j+1)=i+1+j from by omega];exact U⟩
    · obtain⟨j,h1,U⟩:=Mg h;exact⟨j+1,by simpa using h1,by rw[show i+(j+1)=i+1+j from by omega];exact U⟩
def add (S:Nat→Bool) (k:Nat):Nat→Bool:=fun j=>S j||decide (j=k)
theorem X3 {S:Nat→Bool} {k:Nat}:∀{tr:List TR} {i:Nat},k<i→bQ (add S k) i tr=bQ S i tr
  | [],_,_=>rfl
  | r :: tr, i, h => by
    have:add S k i=S i:=by simp[add];intro e;omega
    simp only[bQ,this,X3 (k:=k) (tr:=tr) (i:=i+1) (by omega)]
theorem Xu {S:Nat→Bool} {k:Nat} {r:TR}:∀{tr:List TR} {i:Nat} {t:List V},i≤k→tr[k - i]?=some r→S k=false→(∀(j:Nat) r',tr[j]?=some r' → i+j≠k→∀n,r.dst=some n→r'.dst≠some n) →
    runT (bQ (add S k) i tr) t=jd (runT (bQ S i tr) t) r.dst r.val
  | [],i,t,_,h,_,_=>by simp at h
  | q :: tr, i, t, Fq, hr, hS, hd => by
    by_cases he:i=k
    · subst he;simp at hr;subst hr;have h1:add S i i=true:=by simp[add]
      simp only[bQ,h1,b7,hS,cI,bP,runT];rw[X3 (by omega)];refine Xx fun r' bN n hn=>?_
      obtain⟨j,h1,_⟩:=Mg bN;exact hd (j+1) r' (by simpa using h1) (by omega) n hn
    · have h1:add S k i=S i:=by simp[add,he]
      have bN : tr[k - (i+1)]?=some r:=by
        rw[show k - i=(k - (i+1))+1 from by omega] at hr;simpa using hr
      have ih:=fun t=>Xu (tr:=tr) (i:=i+1) (t:=t) (by omega) bN hS (fun j r' hj aI n hn=>hd (j+1) r' (by simpa using hj) (by omega) n hn)
      simp only[bQ,h1];cases S i
      · simpa using ih t
      · simpa [runT] using ih _
theorem Xt {S:Nat→Bool}:∀{tr:List TR} {i:Nat} {s:cy},(∀(j:Nat) r,tr[j]?=some r→r.aT=true→S (i+j)=false)→cP (bQ S i tr) s=s∧bS S i tr=0
  | [],_,_,_=>⟨rfl,rfl⟩
  | r :: tr, i, s, h => by
    have ih:=fun s=>Xt (S:=S) (tr:=tr) (i:=i+1) (s:=s) fun j r' hj he=>by
      have:=h (j+1) r' (by simpa using hj) he
      rw[show i+(j+1)=i+1+j from by omega] at this;exact this
    have h0:r.aT=true→S i=false:=fun he=>by simpa using h 0 r (by simp) he
    simp only[bQ,bS];cases he:r.aT
    · cases S i<;>simp[cP,he,(ih s).1,(ih s).2]
    · rw[h0 he];simp[(ih s).1,(ih s).2]
theorem Xs {S:Nat→Bool}:∀{tr:List TR} {i:Nat} {s:cy},(∀(j k:Nat) r r',tr[j]?=some r→tr[k]?=some r' → r.aT=true→r'.aT=true→j<k→S (i+k)=true→S (i+j)=true) →
    cP (bQ S i tr) s=(s::iH tr).getD (bS S i tr) AD
  | [],_,_,_=>by simp[bQ,cP,bS]
  | r :: tr, i, s, h => by
    have tW:∀(j k:Nat) r r',tr[j]?=some r→tr[k]?=some r' → r.aT=true→r'.aT=true→j<k→S (i+1+k)=true→S (i+1+j)=true:=fun j k q q' h1 U h3 h4 h5 h6=>by
      have:=h (j+1) (k+1) q q' (by simpa using h1) (by simpa using U) h3 h4 (by omega) (by rw[show i+(k+1)=i+1+k from by omega];exact h6)
      rw[show i+(j+1)=i+1+j from by omega] at this;exact this
    have ih:=fun s=>Xs (S:=S) (tr:=tr) (i:=i+1) (s:=s) tW
    simp only[bQ,bS,iH];cases he:r.aT
    · cases S i<;>simp[cP,he,ih]
    · cases hS:S i
      · obtain⟨h1,U⟩:=Xt (S:=S) (tr:=tr) (i:=i+1) (s:=s) fun j r' hj Fh => by
          cases hq:S (i+1+j) with
          | false=>rfl
          | true =>
            have:=h 0 (j+1) r r' (by simp) (by simpa using hj) he Fh (by omega) (by rw[show i+(j+1)=i+1+j from by omega];exact hq)
            simp[hS] at this
        simp[h1,U]
      · simp only[b7,cP,he,ih,Hr];rw[Ba 1,List.getD_cons_succ]
theorem Es {S S' : Nat→Bool}:∀{tr:List TR} {i:Nat},(∀(j:Nat) r,tr[j]?=some r→r.aT=true→S (i+j)=S' (i+j))→bS S i tr=bS S' i tr
  | [],_,_=>rfl
  | r :: tr, i, h => by
    have ih:=Es (S:=S) (S' := S') (tr:=tr) (i:=i+1) fun j r' hj he=>by
      have:=h (j+1) r' (by simpa using hj) he
      rw[show i+(j+1)=i+1+j from by omega] at this;exact this
    have h0:r.aT=true→S i=S' i:=fun he=>by simpa using h 0 r (by simp) he
    simp only[bS,ih];cases he:r.aT
    · simp
    · rw[h0 he]
theorem Io {S S' : Nat→Bool}:∀{tr:List TR} {i:Nat},(∀(j:Nat) r,tr[j]?=some r→r.aT=true→S (i+j)=true→S' (i+j)=true)→bS S i tr≤bS S' i tr
  | [],_,_=>bt _
  | r :: tr, i, h => by
    have ih:=Io (S:=S) (S' := S') (tr:=tr) (i:=i+1) fun j r' hj he hS=>by
      have:=h (j+1) r' (by simpa using hj) he (by rw[show i+(j+1)=i+1+j from by omega];exact hS)
      rw[show i+(j+1)=i+1+j from by omega] at this;exact this
    have h0:r.aT=true→S i=true→S' i=true:=fun he hS=>by simpa using h 0 r (by simp) he (by simpa using hS)
    simp only[bS];cases he:r.aT
    · simpa using ih
    · cases hS:S i
      · simp;omega
      · simp[h0 he hS];exact ih
theorem Mf {S:Nat→Bool}:∀{tr:List TR} {i:Nat},(∀j,j<tr.length→S (i+j)=true)→bQ S i tr=tr
  | [],_,_=>rfl
  | r :: tr, i, h => by
    have h0:S i=true:=by simpa using h 0 (by simp)
    simp only[bQ,h0,b7];rw[Mf fun j hj=>by
      have:=h (j+1) (by simp;omega)
      rw[show i+(j+1)=i+1+j from by omega] at this;exact this]
def de (k:Nat):Nat→Bool:=fun j=>decide (j<k)
theorem Bh {P:Program} {SN:List cy}:∀{l:List (AO × List Nat)} {tr:List TR} {t:List V} {s:cy},uY P SN l tr t s→l.length=tr.length
  | [],[],_,_,_=>rfl
  | [],_::_,_,_,h=>h.elim
  | (o,ms)::_,[],_,_,h=>h.elim
  | (o,ms)::l,r::tr,t,s,h=>by simp[Bh h.2]
theorem Mh:∀{tr:List TR} {i k:Nat},k≤i→bQ (de k) i tr=[]
  | [],_,_,_=>rfl
  | r :: tr, i, k, h => by
    have:de k i=false:=by simp[de];omega
    simp only[bQ,this,cI,bP];exact Mh (by omega)
theorem D4 {P:Program} {SN:List cy} {o:AO} {ms:List Nat} {r:TR}:∀{l:List (AO × List Nat)} {tr:List TR} {t:List V} {s:cy} {i k:Nat},uY P SN l tr t s→l[k]?=some (o,ms)→tr[k]?=some r →
    NZ P SN o ms (runT (bQ (de (i+k)) i tr) t) (cP (bQ (de (i+k)) i tr) s) r
  | [],_,_,_,_,_,_,h,_=>by simp at h
  | (_,_)::_,[],_,_,_,_,h,_,_=>h.elim
  | (o', ms') :: l, r' :: tr, t, s, i, k, h, hl, ht => by
    cases k with
    | zero =>
      simp at hl ht;obtain⟨rfl,rfl⟩:=hl;subst ht;rw[Mh (by omega)];exact h.1
    | succ k =>
      have h1:de (i+(k+1)) i=true:=by simp[de]
      simp only[bQ,h1,b7,runT,cP];rw[show i+(k+1)=i+1+k from by omega];exact D4 h.2 (by simpa using hl) (by simpa using ht)
def v5 (o:AO):List Nat:=o.op.xs.flatMap X.slot++(match o.guard with | some (g,_)=>[g] | none=>[])
structure DI where
  dst:Option Nat
  reads:List Nat
  aT:Bool
  ld:Bool
  ms:List Nat
  mask:Nat
def dY (p:AO × List Nat) (m:Nat):DI:=⟨p.1.dst,v5 p.1,p.1.op.aT,p.1.op.Ac,p.2,m⟩
def CU (b:List Nat) (o:Oper):Nat:=o.after.toList.foldl (fun s e=>if Region.binds .any e then s|||2^e.on|||b.getD e.on 0 else s) 0
def Bq (i:Nat) (x:DI) (j:Nat) (y:DI):Bool :=
  (match y.dst with
   | some d=>(!(x.reads.contains d)||(i != j&&(x.mask.testBit j||y.mask.testBit i)))&&(i == j||x.dst != some d)
   | none=>true)&&(!(decide (i<j)&&x.aT&&y.aT)||y.mask.testBit i)
def zh (p:Nat→DI→Bool) (l:List DI):Nat:=(l.zipIdx.filter fun (x,j)=>x.aT&&p j x).length
def mJ (l:List DI) (x:DI):Nat:=zh (fun j _=>x.mask.testBit j) l
def vu (l:List DI) (i:Nat):Nat:=zh (fun _ y=>!(y.mask.testBit i)) l
def ym (l:List DI) (i:Nat):Nat:=zh (fun j _=>decide (j<i)) l
def RE (l:List DI) (i:Nat) (x:DI):Bool :=
  !x.ld||((List.range (vu l i+1 - mJ l x)).all fun q=>x.ms.contains (mJ l x+q)||mJ l x+q == ym l i)
def u_ (ops:Array Oper) (l:List (AO × List Nat)) (b:List Nat):Bool :=
  let d:=List.zipWith dY l b
  decide (l.length=ops.size)&&decide (b.length=ops.size) &&
  ((ops.toList.zip b).zipIdx.all fun ((o,m),i)=>(o.after.toList.all fun e=>!(Region.binds .any e)||decide (e.on<i))&&decide (m=CU b o)) &&
  (d.zipIdx.all fun (x,i)=>(d.zipIdx.all fun (y,j)=>Bq i x j y)&&RE d i x)
def sH:List Oper→List Nat→List Nat
  | [],b=>b
  | o::os,b=>sH os (b++[CU b o])
def pw (P:Program) (ops:Array Oper) (o:Oper):Option AO :=
  match vQ P o with
  | none=>none
  | some op =>
    match o.guard with
    | none=>some ⟨o.dst,op,none⟩
    | some (j, want) =>
      match (ops[j]?).bind (·.dst) with
      | some g=>some ⟨o.dst,op,some (g,want)⟩
      | none=>none
def yg (P:Program) (ops:Array Oper):List Oper→Option (List AO)
  | []=>some []
  | o::os=>(pw P ops o).bind fun x=>(yg P ops os).map (x::·)
def CK (P:Program) (ops:Array Oper):Option (List (AO × List Nat)) :=
  match yg P ops ops.toList with
  | none=>none
  | some l0 =>
    let b:=sH ops.toList []
    let d:=List.zipWith dY (l0.map fun o=>(o,[])) b
    let l:=(l0.zip d).zipIdx.map fun ((o,x),i)=>(o,if o.op.Ac then ((List.range (vu d i+1 - mJ d x)).map (mJ d x+·)).filter (· != ym d i) else [])
    if u_ ops l b=true∧P.follows .mixedOrders=true then some l else none
structure uN (ops:Array Oper) (l:List (AO × List Nat)) (b:List Nat):Prop where
  size:l.length=ops.size
  back:∀(i:Nat) o,ops[i]?=some o→∀e∈o.after,Region.binds .any e=true→e.on<i
  mask:∀(i:Nat) o,ops[i]?=some o→∀j,(b.getD i 0).testBit j=true→∃e∈o.after,Region.binds .any e=true∧(j=e.on∨(b.getD e.on 0).testBit j=true)
  slot:∀(i j:Nat) (x y:AO × List Nat),l[i]?=some x→l[j]?=some y→∀d,y.1.dst=some d→d∈v5 x.1→i≠j∧((b.getD i 0).testBit j=true∨(b.getD j 0).testBit i=true)
  dst:∀(i j:Nat) (x y:AO × List Nat),l[i]?=some x→l[j]?=some y→i≠j→∀d,y.1.dst=some d→x.1.dst≠some d
  aT:∀(i j:Nat) (x y:AO × List Nat),l[i]?=some x→l[j]?=some y→i<j→x.1.op.aT=true→y.1.op.aT=true→(b.getD j 0).testBit i=true
  load:∀(i:Nat) (x:AO × List Nat),l[i]?=some x→x.1.op.Ac=true→∀m,mJ (List.zipWith dY l b) (dY x (b.getD i 0))≤m→m≤vu (List.zipWith dY l b) i→m∈x.2∨m=ym (List.zipWith dY l b) i
theorem Wc {b:List Nat} {o:Oper} {j:Nat} (h:(CU b o).testBit j=true):∃e∈o.after,Region.binds .any e=true∧(j=e.on∨(b.getD e.on 0).testBit j=true):=by
  have key:∀(l:List Edge) (s:Nat),(l.foldl (fun s e=>if Region.binds .any e then s|||2^e.on|||b.getD e.on 0 else s) s).testBit j=true →
      s.testBit j=true∨∃e∈l,Region.binds .any e=true∧(j=e.on∨(b.getD e.on 0).testBit j=true):=by
    intro l;induction l with
    | nil=>intro s h;exact .inl h
    | cons e l ih =>
      intro s h;rw[wD] at h
      rcases ih _ h with h1 | ⟨e',h1,U⟩
      · split at h1
        · rename_i hb;simp only[Nat.testBit_or,kK,Nat.testBit_two_pow,bH] at h1
          rcases h1 with (h1 | h1) | h1
          · exact .inl h1
          · exact .inr ⟨e,by simp,hb,.inl h1.symm⟩
          · exact .inr ⟨e,by simp,hb,.inr h1⟩
        · exact .inl h1
      · exact .inr ⟨e',by simp[h1],U⟩
  rcases key o.after.toList 0 h with h1 | ⟨e,h1,U⟩
  · simp at h1
  · exact⟨e,by simpa using h1,U⟩
theorem atW {l:List (AO × List Nat)} {b:List Nat} (hl:b.length=l.length) {i:Nat} {x:AO × List Nat} (h:l[i]?=some x):(List.zipWith dY l b)[i]?=some (dY x (b.getD i 0)):=by
  have aj:=(dD.1 h).1;rw[List.getElem?_zipWith,h]
  have:b[i]?=some (b.getD i 0):=by
    rw[List.getD,cw (by omega)];rfl
  rw[this]
theorem facts {ops:Array Oper} {l:List (AO × List Nat)} {b:List Nat} (h:u_ ops l b=true):uN ops l b:=by
  unfold u_ at h;simp only[a_,bH,jl] at h;obtain⟨⟨⟨h1,U⟩,h3⟩,h4⟩:=h;have UL:∀(i:Nat) o,ops[i]?=some o→((o,b.getD i 0),i)∈(ops.toList.zip b).zipIdx:=fun i o ho=>by
    have aj:=(gj.1 ho).1;rw[DR];rw[HM];refine⟨by simpa using ho,?_⟩;rw[List.getD,cw (by omega)];rfl
  have hd:∀(i:Nat) x,l[i]?=some x→(dY x (b.getD i 0),i)∈(List.zipWith dY l b).zipIdx:=fun i x hx=>by
    rw[DR];exact atW (by omega) hx
  have pair:∀(i j:Nat) x y,l[i]?=some x→l[j]?=some y→Bq i (dY x (b.getD i 0)) j (dY y (b.getD j 0))=true:=fun i j x y hx hy=>(h4 _ (hd i x hx)).1 _ (hd j y hy)
  refine⟨h1,fun i o ho e he hb=>?_,fun i o ho j hj=>?_,fun i j x y hx hy d xE hr=>?_,fun i j x y hx hy aI d xE=>?_,fun i j x y hx hy aj he1 he2=>?_,fun i x hx tU m cW lv=>?_⟩
  · have:=(h3 _ (UL i o ho)).1 e (by simpa using he)
    simpa [hb] using this
  · have this:b.getD i 0=CU b o:=(h3 _ (UL i o ho)).2;rw[this] at hj;exact Wc hj
  · have:=pair i j x y hx hy
    simp only[Bq,dY,xE,a_,kK,rD,bne_iff_ne,zd] at this;have hc:(v5 x.1).contains d=true:=by simpa using hr
    rcases this.1.1 with h | ⟨h5,h6⟩
    · rw[hc] at h;simp at h
    · exact⟨h5,h6⟩
  · have:=pair i j x y hx hy
    simp only[Bq,dY,xE,a_,kK,rD,bne_iff_ne,zd] at this
    rcases this.1.2 with h | h
    · exact absurd h aI
    · exact h
  · have:=pair i j x y hx hy
    simp only[Bq,dY,a_,kK,rD,he1,he2,aj,bZ,Hr] at this
    rcases this.2 with h | h
    · simp at h
    · exact h
  · have:=(h4 _ (hd i x hx)).2
    simp only[RE,dY,tU,kK,rD,jl,wH,zd] at this
    rcases this with h | h
    · simp at h
    · have:=h (m - mJ (List.zipWith dY l b) (dY x (b.getD i 0))) (by simp only[dY,tU] at cW ⊢;omega)
      simp only[dY,tU] at this cW;rw[show mJ (List.zipWith dY l b) ⟨x.1.dst,v5 x.1,x.1.op.aT,true,x.2,b.getD i 0⟩+(m - mJ (List.zipWith dY l b) ⟨x.1.dst,v5 x.1,x.1.op.aT,true,x.2,b.getD i 0⟩)=m from by omega] at this
      rcases this with h | h
      · left;simpa using h
      · exact .inr h
theorem KX {P:Program} {ops:Array Oper}:∀{os:List Oper} {l:List AO},yg P ops os=some l→l.length=os.length∧∀i:Nat,∀o,os[i]?=some o→∃x,l[i]?=some x∧pw P ops o=some x
  | [],l,h=>by simp only[yg,aH] at h;subst h;exact⟨rfl,fun i o h=>by simp at h⟩
  | o :: os, l, h => by
    simp only[yg,gl,cx] at h;obtain⟨x,h1,l',U,rfl⟩:=h;obtain⟨h3,h4⟩:=KX U;refine⟨by simp[h3],fun i q hq=>?_⟩;cases i with
    | zero=>simp at hq;subst hq;exact⟨x,by simp,h1⟩
    | succ i=>simp at hq;obtain⟨y,k1,k2⟩:=h4 i q hq;exact⟨y,by simpa using k1,k2⟩
theorem VD {P:Program} {ops:Array Oper} {l:List (AO × List Nat)} (h:CK P ops=some l) :
    ∃b,uN ops l b∧b.length=ops.size∧P.follows .mixedOrders=true∧∀(i:Nat) o,ops[i]?=some o→∃x:AO × List Nat,l[i]?=some x∧pw P ops o=some x.1:=by
  unfold CK at h;cases h0:yg P ops ops.toList with
  | none=>rw[h0] at h;simp at h
  | some l0 =>
  rw[h0] at h;simp only at h;split at h
  case isFalse=>simp at h
  rename_i hc;simp only[aH] at h;subst h;refine⟨_,facts hc.1,?_,hc.2,fun i o ho=>?_⟩
  · have:=hc.1
    unfold u_ at this;simp only[a_,bH] at this;exact this.1.1.2
  · have hlen:=(facts hc.1).size;obtain⟨h1,U⟩:=KX h0;obtain⟨x,k1,k2⟩:=U i o (by simpa using ho);have aj:=(gj.1 ho).1;generalize hL:(l0.zip (List.zipWith dY (l0.map fun o=>(o,[])) (sH ops.toList [])))=z at hlen ⊢;have hz:i<z.length:=by simp at hlen;omega
    refine⟨_,by rw[s7,Ny,cw hz];rfl,?_⟩
    have:z[i].1=x:=by
      have e:z[i]?=some z[i]:=cw hz;subst hL;rw[HM] at e;rw[k1] at e;exact(mV e.1).symm
    simpa [this] using k2
end Go.Am
