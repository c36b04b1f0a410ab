/-
  Part 1 of the proof of JudgeRoomUptoCardSaid: a logic over the model, the forms of the functions that the law reaches, and what they compute.
-/
import Derived.WalkKit
import Derived.Orders
import Derived.Below
import Derived.Laws.Append
import Derived.Laws.AppendOwn
import Derived.Laws.Cells
import Derived.Laws.CopyRow
import Derived.Laws.BytesString
import Derived.Laws.Slices
import Derived.Laws.Small
import Derived.Laws.StructEq
import Derived.ChangeKeysEq
set_option linter.unusedVariables false
set_option linter.unusedSimpArgs false
set_option linter.defProp false
set_option linter.unusedSectionVars false

namespace Go.Am
inductive Pl where
  | loc (i:Nat)
  | out (b:Nat)
  | glo (b:Nat)
inductive Tk where
  | no
  | full
  | tk (t:Nat)
inductive V where
  | any
  | bool (b:Bool)
  | int (k:IntKind) (n:Int)
  | str (s:List UInt8)
  | nilp
  | ptr (p:Pl) (off:Nat)
  | elt (cs:List V) (off:Nat)
  | sl (t:Tk) (k:Nat) (l:List (List V))
  | agg (cs:List V)
  | tup (cs:List V)
  | fn (f:Fn) (first cap:List V)
  | raw (v:Value)
inductive Role where
  | const
  | hid
  | lbox (i:Nat)
  | obox
  | lin (t c:Nat)
def Role.com:Role→Nat→Prop
  | .const,_=>True
  | .lin _ c,o=>o<c
  | _,_=>False
structure Env where
  w:World
  role:Nat→Role
  loc:Nat→Option Nat
  tip:Nat→Option Nat
def Env.nl (E:Env):Env:={E with loc:=fun _=>none}
@[simp] theorem Env.nl_w (E:Env):E.nl.w=E.w:=rfl
@[simp] theorem Env.nl_role (E:Env):E.nl.role=E.role:=rfl
@[simp] theorem Env.nl_tip (E:Env):E.nl.tip=E.tip:=rfl
@[simp] theorem Env.nl_loc (E:Env) (i:Nat):E.nl.loc i=none:=rfl
@[simp] theorem Env.nl_nl (E:Env):E.nl.nl=E.nl:=rfl
def TkOk (E:Env) (k n:Nat) (a:Option Addr) (cap:Nat):Tk→Prop
  | .no=>True
  | .full=>cap=n
  | .tk t=>∃m,E.tip t=some m∧n≤m∧(n=m→cap=n∨∃b cs e,a=some ⟨b,0,none⟩∧E.role b = .lin t (n*k)∧E.w.heap[b]?=some (.cells cs e (0,0))∧cs.size=cap*k)
mutual
def R:Env→V→Value→Prop
  | _,.any,_=>True
  | _,.bool b,v=>v = .bool b
  | _,.int k n,v=>v = .int k n
  | _,.str s,v=>v = .string ⟨s.toArray⟩
  | _,.nilp,v=>v = .pointer none
  | E,.ptr (.loc i) off,v=>∃b,E.loc i=some b∧v = .pointer (some ⟨b,off,none⟩)
  | _,.ptr (.out b) off,v=>v = .pointer (some ⟨b,off,none⟩)
  | _,.ptr (.glo b) off,v=>v = .pointer (some ⟨b,off,none⟩)
  | E,.elt cs off,v=>∃b o,v = .pointer (some ⟨b,o+off,none⟩)∧RAs E.nl cs b o
  | E,.sl t k l,v=>∃a cap,v = .slice a l.length cap∧l.length≤cap∧(l=[]∨∃b o,a=some ⟨b,o,none⟩∧REs E.nl k l b o)∧TkOk E k l.length a cap t
  | E,.agg cs,v=>∃vs,v = .agg vs∧RL E cs vs.toList
  | E,.tup cs,v=>∃vs,v = .tuple vs∧RL E cs vs.toList
  | E,.fn f first cap,v=>∃fs cs,v = .func f fs cs∧RL E first fs.toList∧RL E cap cs.toList
  | _,.raw u,v=>v=u
def RAs:Env→List V→Nat→Nat→Prop
  | _,[],_,_=>True
  | E,x::xs,b,o=>(∃c,E.w.cell? ⟨b,o,none⟩=some c∧(E.role b).com o∧c.oneCell' = true∧R E x c)∧RAs E xs b (o+1)
def REs:Env→Nat→List (List V)→Nat→Nat→Prop
  | _,_,[],_,_=>True
  | E,k,x::xs,b,o=>x.length=k∧RAs E x b o∧REs E k xs b (o+k)
def RL:Env→List V→List Value→Prop
  | _,[],[]=>True
  | E,x::xs,v::vs=>R E x v∧RL E xs vs
  | _,_,_=>False
end
structure Env.le (E E' : Env):Prop where
  cell:∀b o c,(E.role b).com o→E.w.cell? ⟨b,o,none⟩=some c→(E'.role b).com o∧E'.w.cell? ⟨b,o,none⟩=some c
  loc:∀i b,E.loc i=some b→E'.loc i=some b
  tok:∀t n,E.tip t=some n→∃n',E'.tip t=some n' ∧ n≤n' ∧ (n' = n→∀b c,E.role b = .lin t c →
    E'.role b = .lin t c∧∀cs e,E.w.heap[b]?=some (.cells cs e (0,0))→∃cs',E'.w.heap[b]?=some (.cells cs' e (0,0))∧cs'.size=cs.size)
theorem Env.le.nl {E E' : Env} (h:E.le E'):E.nl.le E'.nl:=⟨h.cell,fun _ _ h=>by simp at h,h.tok⟩
theorem Env.le.refl (E:Env):E.le E:=⟨fun _ _ _ h h' => ⟨h,h'⟩,fun _ _ h=>h,fun _ n h=>⟨n,h,Nat.le_refl _,fun _ _ _ hr=>⟨hr,fun cs _ hc=>⟨cs,hc,rfl⟩⟩⟩⟩
theorem Env.le.trans {E F G:Env} (h:E.le F) (k:F.le G):E.le G:=by
  refine⟨fun b o c hc hv=>?_,fun i b hb=>k.loc i b (h.loc i b hb),fun t n hn=>?_⟩
  · obtain⟨h1,h2⟩:=h.cell b o c hc hv;exact k.cell b o c h1 h2
  · obtain⟨n',h1,h2,h3⟩:=h.tok t n hn;obtain⟨n'',k1,k2,k3⟩:=k.tok t n' h1;refine⟨n'',k1,Nat.le_trans h2 k2,fun he b c hr=>?_⟩;have e1:n' = n:=by omega
    have e2:n'' = n' := by omega
    obtain⟨r1,r2⟩:=h3 e1 b c hr;obtain⟨s1,s2⟩:=k3 e2 b c r1;refine⟨s1,fun cs e hcs=>?_⟩;obtain⟨cs',q1,q2⟩:=r2 cs e hcs;obtain⟨cs'',q3,q4⟩:=s2 cs' e q1;exact⟨cs'',q3,q4.trans q2⟩
theorem TkOk.mono {E E' : Env} (h:E.le E') {k n:Nat} {a:Option Addr} {cap:Nat} {t:Tk} (ht:TkOk E k n a cap t):TkOk E' k n a cap t:=by
  cases t with
  | no=>trivial
  | full=>exact ht
  | tk t =>
    obtain⟨m,h1,h2,h3⟩:=ht;obtain⟨m',k1,k2,k3⟩:=h.tok t m h1;refine⟨m',k1,Nat.le_trans h2 k2,fun he=>?_⟩;have e1:n=m:=by omega
    have e2:m' = m:=by omega
    rcases h3 e1 with h4 | ⟨b,cs,e,ha,hr,hc,hs⟩
    · exact .inl h4
    · obtain⟨r1,r2⟩:=k3 e2 b _ hr;obtain⟨cs',r3,r4⟩:=r2 cs e hc;exact .inr ⟨b,cs',e,ha,r1,r3,r4.trans hs⟩
mutual
theorem R.mono:∀(x:V) {E E' : Env} (_:E.le E') {v:Value},R E x v→R E' x v
  | .any,_,_,_,_,_=>by simp only[R]
  | .bool _,_,_,_,_,hr=>by simp only[R] at hr ⊢;exact hr
  | .int _ _,_,_,_,_,hr=>by simp only[R] at hr ⊢;exact hr
  | .str _,_,_,_,_,hr=>by simp only[R] at hr ⊢;exact hr
  | .nilp,_,_,_,_,hr=>by simp only[R] at hr ⊢;exact hr
  | .ptr (.loc i) _, _, _, h, _, hr => by
    simp only[R] at hr ⊢;obtain⟨b,h1,h2⟩:=hr;exact⟨b,h.loc i b h1,h2⟩
  | .ptr (.out _) _,_,_,_,_,hr=>by simp only[R] at hr ⊢;exact hr
  | .ptr (.glo _) _,_,_,_,_,hr=>by simp only[R] at hr ⊢;exact hr
  | .elt cs _, _, _, h, _, hr => by
    simp only[R] at hr ⊢;obtain⟨b,o,h1,h2⟩:=hr;exact⟨b,o,h1,RAs.mono cs h.nl h2⟩
  | .sl t k l, _, _, h, _, hr => by
    simp only[R] at hr ⊢;obtain⟨a,cap,h1,h2,h3,h4⟩:=hr;refine⟨a,cap,h1,h2,?_,h4.mono h⟩
    rcases h3 with h3 | ⟨b,o,h3,h5⟩
    · exact .inl h3
    · exact .inr ⟨b,o,h3,REs.mono l h.nl h5⟩
  | .agg cs, _, _, h, _, hr => by
    simp only[R] at hr ⊢;obtain⟨vs,h1,h2⟩:=hr;exact⟨vs,h1,RL.mono cs h h2⟩
  | .tup cs, _, _, h, _, hr => by
    simp only[R] at hr ⊢;obtain⟨vs,h1,h2⟩:=hr;exact⟨vs,h1,RL.mono cs h h2⟩
  | .fn _ first cap, _, _, h, _, hr => by
    simp only[R] at hr ⊢;obtain⟨fs,cs,h1,h2,h3⟩:=hr;exact⟨fs,cs,h1,RL.mono first h h2,RL.mono cap h h3⟩
  | .raw _,_,_,_,_,hr=>by simp only[R] at hr ⊢;exact hr
theorem RAs.mono:∀(l:List V) {E E' : Env} (_:E.le E') {b o:Nat},RAs E l b o→RAs E' l b o
  | [],_,_,_,_,_,_=>by simp only[RAs]
  | x :: xs, _, _, h, b, o, hr => by
    simp only[RAs] at hr ⊢;obtain⟨⟨c,h1,h2,h5,h3⟩,h4⟩:=hr;obtain⟨k1,k2⟩:=h.cell b o c h2 h1;exact⟨⟨c,k2,k1,h5,R.mono x h h3⟩,RAs.mono xs h h4⟩
theorem REs.mono:∀(l:List (List V)) {E E' : Env} (_:E.le E') {k b o:Nat},REs E k l b o→REs E' k l b o
  | [],_,_,_,_,_,_,_=>by simp only[REs]
  | x :: xs, _, _, h, _, _, _, hr => by
    simp only[REs] at hr ⊢;obtain⟨h1,h2,h3⟩:=hr;exact⟨h1,RAs.mono x h h2,REs.mono xs h h3⟩
theorem RL.mono:∀(l:List V) {E E' : Env} (_:E.le E') {vs:List Value},RL E l vs→RL E' l vs
  | [],_,_,_,[],_=>by simp only[RL]
  | [],_,_,_,_::_,hr=>by simp only[RL] at hr
  | _::_,_,_,_,[],hr=>by simp only[RL] at hr
  | x :: xs, _, _, h, v :: vs, hr => by
    simp only[RL] at hr ⊢;exact⟨R.mono x h hr.1,RL.mono xs h hr.2⟩
end
end Go.Am

namespace Go.Am
structure Store where
  box:Nat→Option (List V)
  tip:Nat→Option Nat
  con:Nat→Option (List V)
structure St where
  t:List V
  loc:List (List V)
  out:Store
def BoxAt (E:Env) (b:Nat) (cs:List V):Prop :=
  ∃c e,E.w.heap[b]?=some (.cells c e (0,0))∧cs.length≤c.size∧∀(j:Nat) x,cs[j]?=some x→∃v,c[j]?=some v∧R E x v
structure Env.ok (E:Env) (σ:Store):Prop where
  box:∀b cs,σ.box b=some cs→E.role b = .obox∧BoxAt E.nl b cs
  tip:∀t n,σ.tip t=some n→E.tip t=some n
  fresh:∀b,E.w.heap.size≤b→E.role b = .const
  nt:∃N,∀t,N≤t→E.tip t=none
  con:∀b cs,σ.con b=some cs→RAs E.nl cs b 0
structure Env.okL (E:Env) (ls:List (List V)):Prop where
  box:∀i cs,ls[i]?=some cs→∃b,E.loc i=some b∧E.role b = .lbox i∧BoxAt E b cs
  none:∀i,ls.length≤i→E.loc i=none
theorem frozen_alloc (w:World) (c:Array Value) (t:TypeId) (a:Addr):(w.alloc (.cells c t)).frozen? a=w.frozen? a:=by
  by_cases h:a.block=w.heap.size
  · have e1:(w.alloc (.cells c t)).heap[a.block]?=some (.cells c t):=by rw[h];exact heap_alloc_new w _
    have e2:w.heap[a.block]?=none:=by rw[h];simp
    simp[World.frozen?,e1,e2]
  · by_cases h2:a.block<w.heap.size
    · simp only[World.frozen?,heap_alloc_old w (.cells c t) h2]
    · have e2:w.heap[a.block]?=none:=by simp;omega
      have e1:(w.alloc (.cells c t)).heap[a.block]?=none:=by simp;omega
      simp only[World.frozen?,e1,e2]
theorem frozen_setRow {w:World} {b:Nat} {c new:Array Value} {e:TypeId} (hb:w.heap[b]?=some (.cells c e (0,0))) (a:Addr):(w.setRow b new).frozen? a=w.frozen? a:=by
  by_cases h:a.block=b
  · have e1:=setRow_heap w b c new e _ hb;rw[←h] at hb e1;simp only[World.frozen?,h] at hb e1 ⊢;simp only[e1,hb]
  · simp only[World.frozen?,setRow_other w b a.block new h]
structure Fr (E E' : Env):Prop where
  os:E'.w.os=E.w.os
  output:E'.w.output=E.w.output
  tape:E'.w.tape=E.w.tape
  size:E.w.heap.size≤E'.w.heap.size
  frz:∀a,E'.w.frozen? a=E.w.frozen? a
  cell:∀b o c,(E.role b).com o→E.w.cell? ⟨b,o,none⟩=some c→(E'.role b).com o∧E'.w.cell? ⟨b,o,none⟩=some c
  tok:∀t n,E.tip t=some n→∃n',E'.tip t=some n' ∧ n≤n' ∧ (n' = n→∀b c,E.role b = .lin t c →
    E'.role b = .lin t c∧∀cs e,E.w.heap[b]?=some (.cells cs e (0,0))→∃cs',E'.w.heap[b]?=some (.cells cs' e (0,0))∧cs'.size=cs.size)
  same:∀b,b<E.w.heap.size→E.role b = .const∨E.role b = .hid→E'.w.heap[b]?=E.w.heap[b]?∧E'.role b=E.role b
  backB:∀b,b<E.w.heap.size→E'.role b = .obox→E.role b = .obox∨∃j,E.role b = .lbox j
  backL:∀b t c,b<E.w.heap.size→E'.role b = .lin t c→∃c0,E.role b = .lin t c0
  backI:∀b i,b<E.w.heap.size→E'.role b = .lbox i→∃j,E.role b = .lbox j
  shape:∀(b:Nat) (c:Array Value) (e:TypeId),E.w.heap[b]?=some (.cells c e (0,0))→∃c' : Array Value,E'.w.heap[b]?=some (.cells c' e (0,0))∧c'.size=c.size
theorem Fr.le {E E' : Env} (h:Fr E E') (hl:∀i b,E.loc i=some b→E'.loc i=some b):E.le E' := ⟨h.cell,hl,h.tok⟩
theorem Fr.nl {E E' : Env} (h:Fr E E'):E.nl.le E'.nl:=⟨h.cell,fun _ _ h=>by simp at h,h.tok⟩
theorem Fr.refl (E:Env):Fr E E :=
  ⟨rfl,rfl,rfl,Nat.le_refl _,fun _=>rfl,(Env.le.refl E).cell,(Env.le.refl E).tok,fun _ _ _=>⟨rfl,rfl⟩,fun _ _ h=>.inl h,fun _ _ c _ h=>⟨c,h⟩,fun _ i _ h=>⟨i,h⟩,fun _ c _ h=>⟨c,h,rfl⟩⟩
theorem Fr.trans {E F G:Env} (h:Fr E F) (k:Fr F G):Fr E G:=by
  refine⟨k.os.trans h.os,k.output.trans h.output,k.tape.trans h.tape,Nat.le_trans h.size k.size,fun a=>(k.frz a).trans (h.frz a),?_,?_,?_,?_,?_,?_,?_⟩
  · intro b o c hc hv;obtain⟨h1,h2⟩:=h.cell b o c hc hv;exact k.cell b o c h1 h2
  · have h' : Env.le {E with loc:=fun _=>none} {F with loc:=fun _=>none}:=⟨h.cell,fun _ _ h=>h,h.tok⟩;have k' : Env.le {F with loc:=fun _=>none} {G with loc:=fun _=>none}:=⟨k.cell,fun _ _ h=>h,k.tok⟩;exact(h'.trans k').tok
  · intro b hb hr;obtain⟨h1,h2⟩:=h.same b hb hr;obtain⟨k1,k2⟩:=k.same b (Nat.lt_of_lt_of_le hb h.size) (by rw[h2];exact hr);exact⟨k1.trans h1,k2.trans h2⟩
  · intro b hb hr
    rcases k.backB b (Nat.lt_of_lt_of_le hb h.size) hr with h1 | ⟨j,hj⟩
    · exact h.backB b hb h1
    · exact .inr (h.backI b j hb hj)
  · intro b t c hb hr;obtain⟨c0,h0⟩:=k.backL b t c (Nat.lt_of_lt_of_le hb h.size) hr;exact h.backL b t c0 hb h0
  · intro b i hb hr;obtain⟨j,hj⟩:=k.backI b i (Nat.lt_of_lt_of_le hb h.size) hr;exact h.backI b j hb hj
  · intro b c e hb;obtain⟨c1,h1,h2⟩:=h.shape b c e hb;obtain⟨c2,k1,k2⟩:=k.shape b c1 e h1;exact⟨c2,k1,k2.trans h2⟩
structure SRel (E:Env) (st:St) (a:Act):Prop where
  ok:E.ok st.out
  okL:E.okL st.loc
  defers:a.defers=[]
  slot:RL E st.t a.tmps.toList
def pwp (P:Program) (c:Code) (Q:Exit→St→Prop) (st:St):Prop :=
  ∀E a,SRel E st a→c.wp P (fun e a' w' => ∃E' st',E'.w=w' ∧ SRel E' st' a' ∧ Fr E E' ∧ Q e st') a E.w
def Enters (P:Program) (f:FuncId):Prop:=∀args w,(callFunc f args).run P w = .ok (.enter f args) w
def PCalls (P:Program) (f:FuncId) (args:List V) (σ:Store) (R' : V→Store→Prop):Prop :=
  Enters P f∧∀(E:Env) (vs:Array Value),(∀i,E.loc i=none)→E.ok σ→RL E args vs.toList →
    Calls P f vs E.w fun e w' => ∃v x E' σ',e = .returned x∧E'.w=w' ∧ (∀i,E'.loc i=none)∧E'.ok σ' ∧ R E' v x∧Fr E E' ∧ R' v σ'
theorem PCalls.mono {P:Program} {f:FuncId} {args:List V} {σ:Store} {R₁ R₂:V→Store→Prop} (h:PCalls P f args σ R₁)
    (hr:∀v σ',R₁ v σ' → R₂ v σ'):PCalls P f args σ R₂ :=
  ⟨h.1,fun E vs h1 h2 h3=>(h.2 E vs h1 h2 h3).mono fun _ _ ⟨v,x,E',σ',a,b,c,d,e,f,g⟩=>⟨v,x,E',σ',a,b,c,d,e,f,hr _ _ g⟩⟩
theorem pwp_mono {P:Program} {c:Code} {Q Q' : Exit→St→Prop} {st:St} (h:pwp P c Q st) (hq:∀e st,Q e st→Q' e st):pwp P c Q' st :=
  fun E a hs=>wp_mono (h E a hs) fun _ _ _ ⟨E',st',h1,h2,h3,h4⟩=>⟨E',st',h1,h2,h3,hq _ _ h4⟩
def Then (P:Program) (c:Code) (Q:Exit→St→Prop):Exit→St→Prop
  | .normal,st=>pwp P c Q st
  | e,st=>Q e st
theorem pwp_seq {P:Program} {x y:Code} {Q:Exit→St→Prop} {st:St} (h:pwp P x (Then P y Q) st):pwp P (.seq x y) Q st:=by
  intro E a hs;refine wp_seq (wp_mono (h E a hs) ?_);rintro e a' w' ⟨E',st',rfl,h2,h3,h4⟩;cases e with
  | normal=>exact wp_mono (h4 E' a' h2) fun _ _ _ ⟨E'',st'',k1,k2,k3,k4⟩=>⟨E'',st'',k1,k2,h3.trans k3,k4⟩
  | exit id=>exact⟨E',st',rfl,h2,h3,h4⟩
  | goto l=>exact⟨E',st',rfl,h2,h3,h4⟩
  | ret=>exact⟨E',st',rfl,h2,h3,h4⟩
  | panic c=>exact⟨E',st',rfl,h2,h3,h4⟩
  | outgrown=>exact⟨E',st',rfl,h2,h3,h4⟩
theorem pwp_skip {P:Program} {Q:Exit→St→Prop} {st:St} (h:Q .normal st):pwp P .skip Q st :=
  fun E _ hs=>wp_skip ⟨E,st,rfl,hs,Fr.refl E,h⟩
theorem pwp_exit {P:Program} {Q:Exit→St→Prop} {st:St} {id:Nat} (h:Q (.exit id) st):pwp P (.exit id) Q st :=
  fun E _ hs=>wp_exit ⟨E,st,rfl,hs,Fr.refl E,h⟩
theorem pwp_ret {P:Program} {Q:Exit→St→Prop} {st:St} (h:Q .ret st):pwp P .ret Q st :=
  fun E _ hs=>wp_ret ⟨E,st,rfl,hs,Fr.refl E,h⟩
theorem pwp_label {P:Program} {Q:Exit→St→Prop} {st:St} {l:Nat} (h:Q .normal st):pwp P (.label l) Q st :=
  fun E _ hs=>wp_label ⟨E,st,rfl,hs,Fr.refl E,h⟩
def Blk (id:Nat) (Q:Exit→St→Prop):Exit→St→Prop
  | .exit id',st=>if id' = id then Q .normal st else Q (.exit id') st
  | e,st=>Q e st
theorem pwp_block {P:Program} {c:Code} {id:Nat} {Q:Exit→St→Prop} {st:St} (h:pwp P c (Blk id Q) st):pwp P (.block id c) Q st:=by
  intro E a hs;refine wp_block (wp_mono (h E a hs) ?_);rintro e a' w' ⟨E',st',rfl,h2,h3,h4⟩;cases e with
  | exit id' =>
    simp only[Blk] at h4;simp only[Exit.inBlock];split
    · rename_i h5;rw[if_pos h5] at h4;exact⟨E',st',rfl,h2,h3,h4⟩
    · rename_i h5;rw[if_neg h5] at h4;exact⟨E',st',rfl,h2,h3,h4⟩
  | normal=>exact⟨E',st',rfl,h2,h3,h4⟩
  | goto l=>exact⟨E',st',rfl,h2,h3,h4⟩
  | ret=>exact⟨E',st',rfl,h2,h3,h4⟩
  | panic c=>exact⟨E',st',rfl,h2,h3,h4⟩
  | outgrown=>exact⟨E',st',rfl,h2,h3,h4⟩
theorem RL_getD {E:Env}:∀{l:List V} {vs:List Value},RL E l vs→∀(n:Nat) (u:Value),R E (l.getD n .any) (vs.getD n u)
  | [],[],_,n,u=>by simp[R]
  | [],_::_,h,_,_=>by simp[RL] at h
  | _::_,[],h,_,_=>by simp[RL] at h
  | x :: xs, v :: vs, h, n, u => by
    simp only[RL] at h;cases n with
    | zero=>simpa using h.1
    | succ n=>simpa using RL_getD h.2 n u
theorem RL_length {E:Env}:∀{l:List V} {vs:List Value},RL E l vs→l.length=vs.length
  | [],[],_=>rfl
  | [],_::_,h=>by simp[RL] at h
  | _::_,[],h=>by simp[RL] at h
  | x :: xs, v :: vs, h => by
    simp only[RL] at h;simp[RL_length h.2]
theorem RL_get {E:Env}:∀{l:List V} {vs:List Value},RL E l vs→∀(n:Nat) (x:V),l[n]?=some x→∃v,vs[n]?=some v∧R E x v
  | [],[],_,n,x,hx=>by simp at hx
  | [],_::_,h,_,_,_=>by simp[RL] at h
  | _::_,[],h,_,_,_=>by simp[RL] at h
  | x :: xs, v :: vs, h, n, y, hy => by
    simp only[RL] at h;cases n with
    | zero=>simp at hy;subst hy;exact⟨v,by simp,h.1⟩
    | succ n=>simp at hy;obtain⟨u,h1,h2⟩:=RL_get h.2 n y hy;exact⟨u,by simpa using h1,h2⟩
theorem RL_of_get {E:Env}:∀{l:List V} {vs:List Value},l.length=vs.length→(∀(n:Nat) x v,l[n]?=some x→vs[n]?=some v→R E x v)→RL E l vs
  | [],[],_,_=>by simp[RL]
  | [],_::_,h,_=>by simp at h
  | _::_,[],h,_=>by simp at h
  | x :: xs, v :: vs, h, hx => by
    simp only[RL];exact⟨hx 0 x v (by simp) (by simp),RL_of_get (by simpa using h) fun n y u h1 h2=>hx (n+1) y u (by simpa using h1) (by simpa using h2)⟩
theorem RL_set {E:Env}:∀{l:List V} {vs:List Value},RL E l vs→∀(n:Nat) {x:V} {v:Value},R E x v→RL E (l.set n x) (vs.set n v)
  | [],[],_,_,_,_,_=>by simp[RL]
  | [],_::_,h,_,_,_,_=>by simp[RL] at h
  | _::_,[],h,_,_,_,_=>by simp[RL] at h
  | x :: xs, v :: vs, h, n, y, u, hy => by
    simp only[RL] at h;cases n with
    | zero=>simp only[List.set,RL];exact⟨hy,h.2⟩
    | succ n=>simp only[List.set,RL];exact⟨h.1,RL_set h.2 n hy⟩
theorem RL_append {E:Env}:∀{l:List V} {vs:List Value} {m:List V} {us:List Value},RL E l vs→RL E m us→RL E (l++m) (vs++us)
  | [],[],_,_,_,h=>by simpa using h
  | [],_::_,_,_,h,_=>by simp[RL] at h
  | _::_,[],_,_,h,_=>by simp[RL] at h
  | x :: xs, v :: vs, _, _, h, k => by
    simp only[RL,List.cons_append] at h ⊢;exact⟨h.1,RL_append h.2 k⟩
theorem RL_any {E:Env} (vs:List Value):RL E (List.replicate vs.length V.any) vs:=by
  induction vs with
  | nil=>simp[RL]
  | cons v vs ih=>simp only[List.length_cons,List.replicate_succ,RL];exact⟨by simp[R],ih⟩
def St.put (st:St) (d:Option Nat) (v:V):St :=
  match d with
  | some n=>⟨st.t.set n v,st.loc,st.out⟩
  | none=>st
theorem SRel.put {E:Env} {st:St} {a:Act} (h:SRel E st a) {v:V} {x:Value} (hv:R E v x) (d:Option Nat):SRel E (st.put d v) (a.put d x):=by
  cases d with
  | none=>exact h
  | some n=>exact⟨h.ok,h.okL,h.defers,by simpa [St.put,Act.put] using RL_set h.slot n hv⟩
end Go.Am

namespace Go.Am
def big:Nat:=268435456
inductive X where
  | s (n:Nat)
  | c (v:V)
inductive OQ where
  | nil
  | len
  | idx (k:Nat)
  | slc (k:Nat) (lo hi mx:Bool)
  | app (k:Nat)
  | mk (z:List V)
  | keep (k:Nat)
  | new (k:Nat)
  | min
  | max
  | slcA (m k:Nat) (lo hi:Bool)
  | frz (k:Nat) (lo hi:Bool)
  | cvR
  | appS
  | appR
  | cpy (k:Nat)
  | cntS
  | idxB
  | idxV (m:Nat)
  | bad
inductive AOp where
  | mv (x:X)
  | pick (c a b:X)
  | alloc (z:List V)
  | box (n:Nat) (x:X)
  | boxS (n:Nat) (x:X)
  | build (z:List V) (ps:List (Nat × Nat × X))
  | bslice (k:Nat) (xs:List X)
  | load (agg:Bool) (n:Nat) (x:X)
  | store (n:Nat) (a x:X)
  | nilck (x:X)
  | binI (op:BinOp) (x y:X)
  | binS (op:BinOp) (x y:X)
  | binB (neg:Bool) (x y:X)
  | cat (x y:X)
  | eqA (neg:Bool) (ks:List Nat) (x y:X)
  | eqN (neg:Bool) (x y:X)
  | not (x:X)
  | lenS (x:X)
  | lenT (x:X)
  | fld (off:Nat) (x:X)
  | fldv (agg:Bool) (off n:Nat) (x:X)
  | idxA (k:Nat) (x i:X)
  | idxS (x i:X)
  | idxP (m k:Nat) (x i:X)
  | call (f:FuncId) (xs:List X)
  | callv (x:X) (xs:List X)
  | app (k:Nat) (s x:X)
  | appS (s x:X)
  | slc (k:Nat) (x:X) (lo hi mx:Option X)
  | slS (x:X) (lo hi:Option X)
  | ext (x:X) (i:Nat)
  | mkfn (f:Fn) (first cap:List X)
  | cvI (k:IntKind) (x:X)
  | cvBS (x:X)
  | allocO (z:List V)
  | boxO (n:Nat) (x:X)
  | own (q:OQ) (xs:List X)
structure AO where
  dst:Option Nat
  op:AOp
  guard:Option (Nat × Bool)
def ev (st:St):X→V
  | .s n=>st.t.getD n .any
  | .c v=>v
def evs (st:St):List X→List V
  | []=>[]
  | x::xs=>ev st x::evs st xs
def V.wd:V→Option Nat
  | .agg cs=>some cs.length
  | .any=>none
  | .tup _=>none
  | .raw u=>if u.oneCell' then some 1 else none
  | _=>some 1
def V.cells:V→List V
  | .agg cs=>cs
  | v=>[v]
def V.one:V→Bool
  | .bool _ | .int _ _ | .str _ | .nilp | .ptr _ _ | .elt _ _ | .sl _ _ _ | .fn _ _ _=>true
  | .raw u=>u.oneCell'
  | _=>false
def oneL:List V→Bool
  | []=>true
  | x::xs=>x.one&&oneL xs
mutual
def V.nol:V→Bool
  | .ptr (.loc _) _=>false
  | .agg cs=>nolL cs
  | .tup cs=>nolL cs
  | .fn _ first cap=>nolL first&&nolL cap
  | _=>true
def nolL:List V→Bool
  | []=>true
  | x::xs=>x.nol&&nolL xs
end
mutual
def V.erase:V→V
  | .sl _ k l=>.sl .no k l
  | .agg cs=>.agg (eraseL cs)
  | .tup cs=>.tup (eraseL cs)
  | v=>v
def eraseL:List V→List V
  | []=>[]
  | x::xs=>x.erase::eraseL xs
end
def takeN:Nat→List V→Option (List V)
  | 0,_=>some []
  | n+1,x::xs=>(takeN n xs).map (x::·)
  | _+1,[]=>none
def ldC:Bool→Nat→List V→Option V
  | true,n,cs=>(takeN n cs).map V.agg
  | false,_,c::_=>some c
  | false,_,[]=>none
def over:List V→List V→List V
  | [],_=>[]
  | l,[]=>l
  | _::l,x::xs=>x::over l xs
def setAt:List V→Nat→List V→List V
  | l,0,xs=>over l xs
  | [],_+1,_=>[]
  | a::l,n+1,xs=>a::setAt l n xs
def hasN:Nat→List V→Bool
  | 0,_=>true
  | n+1,_::xs=>hasN n xs
  | _+1,[]=>false
def Store.set (σ:Store) (b:Nat) (cs:List V):Store:={σ with box:=fun x=>if x=b then some cs else σ.box x}
def Store.setTip (σ:Store) (t n:Nat):Store:={σ with tip:=fun x=>if x=t then some n else σ.tip x}
def boxOf (st:St):Pl→Option (List V)
  | .loc i=>st.loc[i]?
  | .out b=>st.out.box b
  | .glo b=>st.out.con b
def ldV (st:St) (agg:Bool) (n:Nat):V→Option V
  | .ptr p off=>(boxOf st p).bind fun cs=>ldC agg n (cs.drop off)
  | .elt cs off=>ldC agg n (cs.drop off)
  | _=>none
def stV (st:St) (n:Nat) (x:V):V→Option St
  | .ptr (.loc i) off=>(st.loc[i]?).bind fun cs=>if hasN n (cs.drop off)=true∧x.wd=some n∧oneL x.cells=true then some ⟨st.t,st.loc.set i (setAt cs off x.cells),st.out⟩ else none
  | .ptr (.out b) off=>(st.out.box b).bind fun cs=>if hasN n (cs.drop off)=true∧x.wd=some n∧oneL x.cells=true∧nolL x.cells=true then some ⟨st.t,st.loc,st.out.set b (setAt cs off x.cells)⟩ else none
  | _=>none
def buildV (st:St):List V→List (Nat × Nat × X)→Option (List V)
  | z,[]=>some z
  | z,(off,n,x)::ps=>if hasN n (z.drop off)=true∧(ev st x).wd=some n then buildV st (setAt z off (ev st x).cells) ps else none
def rowsV (st:St) (k:Nat):List X→Option (List (List V))
  | []=>some []
  | x::xs=>if (ev st x).wd=some k∧nolL (ev st x).cells=true∧oneL (ev st x).cells=true then (rowsV st k xs).map (eraseL (ev st x).cells::·) else none
def ikEq:IntKind→IntKind→Bool
  | .i8,.i8 | .i16,.i16 | .i32,.i32 | .i64,.i64 | .u8,.u8 | .u16,.u16 | .u32,.u32 | .u64,.u64=>true
  | _,_=>false
theorem ikEq_eq {a b:IntKind} (h:ikEq a b=true):a=b:=by cases a<;>cases b<;>first | rfl | (simp[ikEq] at h)
def intV (k:IntKind) (a b:Int):BinOp→Option V
  | .add=>some (.int k (k.wrap (a+b)))
  | .sub=>some (.int k (k.wrap (a - b)))
  | .mul=>some (.int k (k.wrap (a*b)))
  | .eql=>some (.bool (decide (a=b)))
  | .neq=>some (.bool (!decide (a=b)))
  | .lss=>some (.bool (decide (a<b)))
  | .leq=>some (.bool (decide (a≤b)))
  | .gtr=>some (.bool (decide (b<a)))
  | .geq=>some (.bool (decide (b≤a)))
  | .quo=>if b=0 then none else some (.int k (k.wrap (a.tdiv b)))
  | .rem=>if b=0 then none else some (.int k (a.tmod b))
  | .and=>some (.int k (k.wrap ((BitVec.ofInt k.bits a&&&BitVec.ofInt k.bits b).toNat:Nat)))
  | .or=>some (.int k (k.wrap ((BitVec.ofInt k.bits a|||BitVec.ofInt k.bits b).toNat:Nat)))
  | .xor=>some (.int k (k.wrap ((BitVec.ofInt k.bits a ^^^ BitVec.ofInt k.bits b).toNat:Nat)))
  | .andNot=>some (.int k (k.wrap ((BitVec.ofInt k.bits a&&&~~~BitVec.ofInt k.bits b).toNat:Nat)))
  | .shl=>if b<0 then none else some (.int k (k.wrap (a*2^(Nat.min b.toNat k.bits))))
  | .shr=>if b<0 then none else some (.int k (a.fdiv (2^(Nat.min b.toNat k.bits))))
def isSh:BinOp→Bool
  | .shl | .shr=>true
  | _=>false
def binIV (op:BinOp):V→V→Option V
  | .int k a,.int k' b=>if ikEq k k' = true∨isSh op=true then intV k a b op else none
  | _,_=>none
def strV (a b:List UInt8):BinOp→Option V
  | .eql=>some (.bool (decide (a=b)))
  | .neq=>some (.bool (!decide (a=b)))
  | .lss=>some (.bool (Op.bytesLess a b))
  | .leq=>some (.bool (Op.bytesLess a b||decide (a=b)))
  | .gtr=>some (.bool (!(Op.bytesLess a b||decide (a=b))))
  | .geq=>some (.bool (!Op.bytesLess a b))
  | _=>none
def binSV (op:BinOp):V→V→Option V
  | .str a,.str b=>strV a b op
  | _,_=>none
def eqBV (neg:Bool):V→V→Option V
  | .bool a,.bool b=>some (.bool (if neg then !decide (a=b) else decide (a=b)))
  | _,_=>none
def eqC:List Nat→List V→List V→Option Bool
  | [],[],[]=>some true
  | 1::ks,.int k a::xs,.int k' b::ys=>if ikEq k k' = true then (eqC ks xs ys).map (decide (a=b)&&·) else none
  | 2::ks,.str a::xs,.str b::ys=>(eqC ks xs ys).map (decide (a=b)&&·)
  | 0::ks,.bool a::xs,.bool b::ys=>(eqC ks xs ys).map (decide (a=b)&&·)
  | _,_,_=>none
def eqAV (neg:Bool) (ks:List Nat):V→V→Option V
  | .agg xs,.agg ys=>(eqC ks xs ys).map fun b=>.bool (if neg then !b else b)
  | _,_=>none
def isNil:V→Option Bool
  | .nilp | .raw .nilFunc=>some true
  | .ptr _ _ | .elt _ _ | .fn _ _ _=>some false
  | _=>none
def K2 (K:V→St→Prop) (st:St):V→Prop:=fun v=>K v st
def opt (o:Option V) (K:V→Prop):Prop:=match o with | some v=>K v | none=>False
def IdxOk (l:List (List V)) (i:V) (K:List V→Prop):Prop:=∃k n x,i = .int k n∧0≤n∧l[n.toNat]?=some x∧K x
def AppOk (σ:Store) (k:Nat) (s x:V) (K:V→Store→Prop):Prop :=
  ∃t l m,s = .sl t k l∧(∃t',x = .sl t' k m)∧l.length+m.length≤big ∧
    match t with
    | .full=>(∀τ,σ.tip τ=none→K (.sl (.tk τ) k (l++m)) (σ.setTip τ (l.length+m.length)))∨K (.sl .no k (l++m)) σ∨∃τ,σ.tip τ=some l.length∧K (.sl (.tk τ) k (l++m)) (σ.setTip τ (l.length+m.length))
    | .tk τ=>σ.tip τ=some l.length∧K (.sl (.tk τ) k (l++m)) (σ.setTip τ (l.length+m.length))
    | .no=>False
def encB (s:List UInt8):List (List V):=s.map fun b=>[.int .u8 b.toNat]
def bnd (b:Bool) (d:Nat) (vs:List V) (K:Nat→List V→Prop):Prop :=
  match b,vs with
  | false,vs=>K d vs
  | true,.int _ j::vs=>0≤j∧K j.toNat vs
  | true,_=>False
def GrowOk (σ:Store) (k:Nat) (a:Option Addr) (n cap:Nat) (m:List (List V)) (K:V→Store→Prop):Prop :=
  n≤cap∧n+m.length≤big∧nolL m.flatten=true ∧
  (m=[]→K (.raw (.slice a n cap)) σ) ∧
  (m≠[]→n+m.length≤cap→∃b cs,a=some ⟨b,0,none⟩∧σ.box b=some cs∧n*k+m.length*k≤cs.length∧K (.raw (.slice a (n+m.length) cap)) (σ.set b (setAt cs (n*k) m.flatten))) ∧
  (cap<n+m.length→∃cs,(n=0∧cs=[]∨∃b,a=some ⟨b,0,none⟩∧σ.box b=some cs∧n*k≤cs.length) ∧
    ∀b' cap',σ.box b' = none→n+m.length≤cap' → K (.raw (.slice (some ⟨b',0,none⟩) (n+m.length) cap')) (σ.set b' (cs.take (n*k)++m.flatten++List.replicate ((cap' - (n+m.length))*k) .any)))
def keepV (k:Nat):List V→Option (List (List V))
  | []=>some []
  | v::vs=>if v.wd=some k∧nolL v.cells=true∧oneL v.cells=true then (keepV k vs).map (v.cells::·) else none
def findB:List UInt8→UInt8→Int
  | [],_=>-1
  | b::l,c=>if b == c then 0 else if findB l c == -1 then -1 else findB l c+1
def cellRows (cs:List V):List (List V):=cs.map fun x=>[x]
def Store.del (σ:Store) (b:Nat):Store:={σ with box:=fun x=>if x=b then none else σ.box x}
def rawText (σ:Store) (a:Option Addr) (n:Nat) (s:List UInt8):Prop:=s.length=n∧(n=0∨∃b o cs,a=some ⟨b,o,none⟩∧σ.box b=some cs∧(cs.drop o).take n=s.map fun c=>.int .u8 c.toNat)
def keepOk (k:Nat) (vs:List V) (H:List (List V)→Prop):Prop:=∃l,keepV k vs=some l∧H l
def CpyOk (σ:Store) (k:Nat) (a:Option Addr) (m:Nat) (xs:List V) (K:V→Store→Prop):Prop :=
  (m=0→K (.int .i64 0) σ)∧(m≠0→∃b o cs,a=some ⟨b,o,none⟩∧σ.box b=some cs∧o+m*k≤cs.length∧K (.int .i64 m) (σ.set b (setAt cs o xs)))
def CutAt (σ:Store) (a:Option Addr) (n:Nat) (xs:List V):Prop :=
  n=0∧xs=[]∨∃b o cs,a=some ⟨b,o,none⟩∧σ.box b=some cs∧o+n≤cs.length∧xs=(cs.drop o).take n∧oneL xs=true
def optV (o:Option V) (K:V→Prop):Prop:=match o with | some c=>K c | none=>False
def OQ.sem (σ:Store) (K:V→Store→Prop):OQ→List V→Prop
  | .nil,[]=>K (.raw (.slice none 0 0)) σ
  | .len,[.raw (.slice _ n _)]=>K (.int .i64 n) σ
  | .idx k,[.raw (.slice (some ⟨b,o,none⟩) n _),.int _ j]=>0≤j∧j<n∧K (.ptr (.out b) (o+j.toNat*k)) σ
  | .slc k lo hi mx,.raw (.slice a n cap)::vs=>bnd lo 0 vs fun m vs=>bnd hi n vs fun h vs=>bnd mx cap vs fun M vs=>vs=[]∧m≤h∧h≤M∧M≤cap∧K (.raw (.slice (if M=m then a else a.map (·.add (m*k))) (h - m) (M - m))) σ
  | .app k,[.raw (.slice a n cap),.sl _ k' m]=>k' = k∧GrowOk σ k a n cap m K
  | .mk z,[.int _ n]=>0≤n∧n≤big∧nolL z=true∧0<z.length∧∀b',σ.box b' = none→K (.raw (.slice (some ⟨b',0,none⟩) n.toNat n.toNat)) (σ.set b' (List.replicate n.toNat z).flatten)
  | .keep k,vs=>keepOk k vs fun l=>K (.sl .full k l) σ
  | .new k,vs=>keepOk k vs fun l=>nolL l.flatten=true∧∀b',σ.box b' = none→K (.raw (.slice (some ⟨b',0,none⟩) l.length l.length)) (σ.set b' l.flatten)
  | .min,[.int k a,.int k' b]=>ikEq k k' = true∧K (.int k (if b<a then b else a)) σ
  | .max,[.int k a,.int k' b]=>ikEq k k' = true∧K (.int k (if a<b then b else a)) σ
  | .slcA m k lo hi,.ptr (.out b) o::vs=>bnd lo 0 vs fun l vs=>bnd hi m vs fun h vs=>vs=[]∧l≤h∧h≤m∧K (.raw (.slice (some (if m=l then ⟨b,o,none⟩ else ⟨b,o+l*k,none⟩)) (h - l) (m - l))) σ
  | .frz k lo hi,.raw (.slice (some ⟨b,o,none⟩) n cap)::vs=>bnd lo 0 vs fun l vs=>bnd hi n vs fun h vs=>vs=[]∧l≤h∧h≤cap∧k=1 ∧
      ∃cs,σ.box b=some cs∧o+h≤cs.length∧oneL (((cs.drop o).take h).drop l)=true∧nolL (((cs.drop o).take h).drop l)=true∧K (.sl .no 1 (cellRows (((cs.drop o).take h).drop l))) (σ.del b)
  | .cntS,[.str s,.int .u8 c]=>K (.int .i64 (s.count c.toNat.toUInt8:Nat)) σ
  | .idxB,[.str s,.int .u8 c]=>K (.int .i64 (findB s c.toNat.toUInt8)) σ
  | .cvR,[.raw (.slice a n _)]=>∃s,rawText σ a n s∧K (.str s) σ
  | .appS,[.raw (.slice a n cap),.str s]=>GrowOk σ 1 a n cap (encB s) K
  | .appR,[.raw (.slice a n cap),.raw (.slice a' n' _)]=>∃s,rawText σ a' n' s∧GrowOk σ 1 a n cap (encB s) K
  | .idxV m,[.agg cs,.int _ j]=>0≤j∧j<m∧optV cs[j.toNat]? fun c=>c.nol=true∧K c σ
  | .cpy k,[.raw (.slice a n _),.raw (.slice a' n' _)]=>∃xs,CutAt σ a' (Nat.min n' n*k) xs∧CpyOk σ k a (Nat.min n' n) xs K
  | .cpy k,[.raw (.slice a n _),.sl _ k' m]=>k' = k∧m.length≤n∧CpyOk σ k a m.length m.flatten K
  | _,_=>False
def OQ.pure:OQ→Bool
  | .nil | .len | .idx _ | .slc .. | .keep _ | .min | .max | .slcA .. | .cntS | .idxB | .idxV _=>true
  | .app _ | .mk _ | .new _ | .frz .. | .cvR | .appS | .appR | .cpy _ | .bad=>false
def AOp.sem (P:Program) (st:St) (K:V→St→Prop):AOp→Prop
  | .mv x=>K (ev st x) st
  | .pick c a b=>match ev st c with | .bool true=>K (ev st a) st | .bool false=>K (ev st b) st | _=>False
  | .alloc z=>K (.ptr (.loc st.loc.length) 0) ⟨st.t,st.loc++[z],st.out⟩
  | .box n x=>(ev st x).wd=some n∧K (.ptr (.loc st.loc.length) 0) ⟨st.t,st.loc++[(ev st x).cells],st.out⟩
  | .boxS n x=>(ev st x).wd=some n∧oneL (ev st x).cells=true∧K (.ptr (.loc st.loc.length) 0) ⟨st.t,st.loc++[(ev st x).cells],st.out⟩
  | .build z ps=>opt ((buildV st z ps).map V.agg) (K2 K st)
  | .bslice k xs=>opt ((rowsV st k xs).map (V.sl .full k)) (K2 K st)
  | .load agg n x=>opt (ldV st agg n (ev st x)) (K2 K st)
  | .store n a x=>match stV st n (ev st x) (ev st a) with | some st' => K .any st' | none=>False
  | .nilck x=>match ev st x with | .ptr p o=>K (.ptr p o) st | .elt c o=>K (.elt c o) st | .fn (.func f) a b=>K (.fn (.func f) a b) st | _=>False
  | .binI op x y=>opt (binIV op (ev st x) (ev st y)) (K2 K st)
  | .binS op x y=>opt (binSV op (ev st x) (ev st y)) (K2 K st)
  | .binB neg x y=>opt (eqBV neg (ev st x) (ev st y)) (K2 K st)
  | .cat x y=>∃a b,ev st x = .str a∧ev st y = .str b∧a.length+b.length≤big∧K (.str (a++b)) st
  | .eqA neg ks x y=>opt (eqAV neg ks (ev st x) (ev st y)) (K2 K st)
  | .eqN neg x y=>match isNil (ev st x),isNil (ev st y) with | some a,some b=>(a=true∨b=true)∧K (.bool (if neg then !(a&&b) else a&&b)) st | _,_=>False
  | .not x=>match ev st x with | .bool b=>K (.bool (!b)) st | _=>False
  | .lenS x=>match ev st x with | .sl _ _ l=>K (.int .i64 l.length) st | .raw (.slice _ n _)=>K (.int .i64 n) st | _=>False
  | .lenT x=>match ev st x with | .str s=>K (.int .i64 s.length) st | _=>False
  | .fld off x=>match ev st x with | .ptr p o=>K (.ptr p (o+off)) st | .elt c o=>K (.elt c (o+off)) st | _=>False
  | .fldv agg off n x=>match ev st x with | .agg cs=>opt (ldC agg n (cs.drop off)) (K2 K st) | _=>False
  | .idxA k x i => match ev st x with
    | .sl _ k' l=>k' = k∧IdxOk l (ev st i) fun c=>K (.elt c 0) st
    | .raw (.slice (some ⟨b,o,none⟩) n _)=>∃ik j,ev st i = .int ik j∧0≤j∧j<n∧K (.ptr (.out b) (o+j.toNat*k)) st
    | _=>False
  | .idxP m k x i => match ev st x with
    | .ptr p o=>∃kk n,ev st i = .int kk n∧0≤n∧n<(m:Nat)∧K (.ptr p (o+n.toNat*k)) st
    | .elt c o=>∃kk n,ev st i = .int kk n∧0≤n∧n<(m:Nat)∧K (.elt c (o+n.toNat*k)) st
    | _=>False
  | .idxS x i=>match ev st x with | .str s=>∃k n c,ev st i = .int k n∧0≤n∧s[n.toNat]?=some c∧K (.int .u8 c.toNat) st | _=>False
  | .call f xs=>nolL (evs st xs)=true∧PCalls P f (evs st xs) st.out fun v σ=>K v ⟨st.t,st.loc,σ⟩
  | .callv x xs=>match ev st x with | .fn (.func f) a b=>nolL (a++evs st xs++b)=true∧PCalls P f (a++evs st xs++b) st.out fun v σ=>K v ⟨st.t,st.loc,σ⟩ | _=>False
  | .app k s x=>AppOk st.out k (ev st s) (ev st x) fun v σ=>K v ⟨st.t,st.loc,σ⟩
  | .appS s x=>∃a,ev st x = .str a∧AppOk st.out 1 (ev st s) (.sl .no 1 (encB a)) fun v σ=>K v ⟨st.t,st.loc,σ⟩
  | .slc k x lo hi mx=>(∃t l a b,ev st x = .sl t k l∧a≤b∧b≤l.length∧(match lo with | none=>a=0 | some y=>∃j,ev st y = .int j a) ∧
      (match hi with | none=>b=l.length | some y=>∃j,ev st y = .int j b) ∧
      match mx with
      | none=>K (.sl .no k ((l.take b).drop a)) st
      | some y=>(∃j,ev st y = .int j b)∧K (.sl .full k ((l.take b).drop a)) st) ∨
      ∃a n cap m h,ev st x = .raw (.slice a n cap)∧m≤h∧h≤cap∧(match lo with | none=>m=0 | some y=>∃j,ev st y = .int j m)∧(match hi with | none=>h=n | some y=>∃j,ev st y = .int j h)∧mx.isNone=true ∧
        K (.raw (.slice (if cap=m then a else a.map (·.add (m*k))) (h - m) (cap - m))) st
  | .slS x lo hi=>∃s a b,ev st x = .str s∧a≤b∧b≤s.length∧(match lo with | none=>a=0 | some y=>∃j,ev st y = .int j a) ∧
      (match hi with | none=>b=s.length | some y=>∃j,ev st y = .int j b)∧K (.str ((s.take b).drop a)) st
  | .ext x i=>match ev st x with | .tup vs=>opt vs[i]? (K2 K st) | _=>False
  | .mkfn f first cap=>K (.fn f (evs st first) (evs st cap)) st
  | .cvI k x=>match ev st x with | .int _ n=>K (.int k (k.wrap n)) st | _=>False
  | .cvBS x=>∃t s,ev st x = .sl t 1 (encB s)∧K (.str s) st
  | .allocO z=>nolL z=true∧∀b,st.out.box b=none→K (.ptr (.out b) 0) ⟨st.t,st.loc,st.out.set b z⟩
  | .boxO n x=>(ev st x).wd=some n∧nolL (ev st x).cells=true∧∀b,st.out.box b=none→K (.ptr (.out b) 0) ⟨st.t,st.loc,st.out.set b (ev st x).cells⟩
  | .own q xs=>q.sem st.out (fun v σ=>K v ⟨st.t,st.loc,σ⟩) (evs st xs)
def vcOps (P:Program):List AO→(St→Prop)→St→Prop
  | [],K,st=>K st
  | o :: r, K, st =>
    match o.guard with
    | none=>o.op.sem P st fun v st' => vcOps P r K (st'.put o.dst v)
    | some (g, want) =>
      match ev st (.s g) with
      | .bool b=>if b=want then o.op.sem P st (fun v st' => vcOps P r K (st'.put o.dst v)) else vcOps P r K (st.put o.dst (.tup []))
      | .tup []=>vcOps P r K (st.put o.dst (.tup []))
      | _=>False
mutual
theorem R.erase:∀(x:V) {E:Env} {v:Value},R E x v→R E x.erase v
  | .sl t k l, E, v, h => by
    simp only[V.erase,R] at h ⊢;obtain⟨a,cap,h1,h2,h3,_⟩:=h;exact⟨a,cap,h1,h2,h3,trivial⟩
  | .agg cs, E, v, h => by
    simp only[V.erase,R] at h ⊢;obtain⟨vs,h1,h2⟩:=h;exact⟨vs,h1,RL.erase cs h2⟩
  | .tup cs, E, v, h => by
    simp only[V.erase,R] at h ⊢;obtain⟨vs,h1,h2⟩:=h;exact⟨vs,h1,RL.erase cs h2⟩
  | .any,_,_,h=>by simpa [V.erase] using h
  | .bool _,_,_,h=>by simpa [V.erase] using h
  | .int _ _,_,_,h=>by simpa [V.erase] using h
  | .str _,_,_,h=>by simpa [V.erase] using h
  | .nilp,_,_,h=>by simpa [V.erase] using h
  | .ptr _ _,_,_,h=>by simpa [V.erase] using h
  | .elt _ _,_,_,h=>by simpa [V.erase] using h
  | .fn _ _ _,_,_,h=>by simpa [V.erase] using h
  | .raw _,_,_,h=>by simpa [V.erase] using h
theorem RL.erase:∀(l:List V) {E:Env} {vs:List Value},RL E l vs→RL E (eraseL l) vs
  | [],_,[],_=>by simp only[eraseL,RL]
  | [],_,_::_,h=>by simp only[RL] at h
  | _::_,_,[],h=>by simp only[RL] at h
  | x :: xs, _, v :: vs, h => by
    simp only[eraseL,RL] at h ⊢;exact⟨R.erase x h.1,RL.erase xs h.2⟩
end
theorem eraseL_length:∀l:List V,(eraseL l).length=l.length
  | []=>rfl
  | x::xs=>by simp[eraseL,eraseL_length xs]
theorem bnd_mono {b:Bool} {d:Nat} {vs:List V} {K K' : Nat→List V→Prop} (h:bnd b d vs K) (hk:∀n vs,K n vs→K' n vs):bnd b d vs K' := by
  unfold bnd at h ⊢;split at h
  · exact hk _ _ h
  · exact⟨h.1,hk _ _ h.2⟩
  · exact h.elim
theorem GrowOk.mono {σ:Store} {k:Nat} {a:Option Addr} {n cap:Nat} {m:List (List V)} {K K' : V→Store→Prop} (hk:∀v σ',K v σ' → K' v σ') (h:GrowOk σ k a n cap m K):GrowOk σ k a n cap m K' := by
  obtain⟨h1,h2,h3,h4,h5,h6⟩:=h;refine⟨h1,h2,h3,fun e=>hk _ _ (h4 e),fun e e' => ?_,fun e=>?_⟩
  · obtain⟨b,cs,g1,g2,g3,g4⟩:=h5 e e';exact⟨b,cs,g1,g2,g3,hk _ _ g4⟩
  · obtain⟨cs,g1,g2⟩:=h6 e;exact⟨cs,g1,fun b' cap' p1 p2=>hk _ _ (g2 b' cap' p1 p2)⟩
theorem CpyOk.mono {σ:Store} {k:Nat} {a:Option Addr} {m:Nat} {xs:List V} {K K' : V→Store→Prop} (hk:∀v σ',K v σ' → K' v σ') (h:CpyOk σ k a m xs K):CpyOk σ k a m xs K' :=
  ⟨fun e=>hk _ _ (h.1 e),fun e=>let ⟨b,o,cs,h1,h2,h3,h4⟩:=h.2 e;⟨b,o,cs,h1,h2,h3,hk _ _ h4⟩⟩
theorem OQ.mono {σ:Store} {K K' : V→Store→Prop} (hk:∀v σ',K v σ' → K' v σ') (q:OQ) (vs:List V) (h:q.sem σ K vs):q.sem σ K' vs:=by
  unfold OQ.sem at h ⊢;split at h
  · exact hk _ _ h
  · exact hk _ _ h
  · exact⟨h.1,h.2.1,hk _ _ h.2.2⟩
  · exact bnd_mono h fun _ _ h=>bnd_mono h fun _ _ h=>bnd_mono h fun _ _ h=>⟨h.1,h.2.1,h.2.2.1,h.2.2.2.1,hk _ _ h.2.2.2.2⟩
  · obtain⟨h0,h1,h2,h3,h4,h5,h6⟩:=h;refine⟨h0,h1,h2,h3,fun e=>hk _ _ (h4 e),fun e e' => ?_,fun e=>?_⟩
    · obtain⟨b,cs,g1,g2,g3,g4⟩:=h5 e e';exact⟨b,cs,g1,g2,g3,hk _ _ g4⟩
    · obtain⟨cs,g1,g2⟩:=h6 e;exact⟨cs,g1,fun b' cap' p1 p2=>hk _ _ (g2 b' cap' p1 p2)⟩
  · exact⟨h.1,h.2.1,h.2.2.1,h.2.2.2.1,fun b' hb=>hk _ _ (h.2.2.2.2 b' hb)⟩
  · obtain⟨l,h1,h2⟩:=h;exact⟨l,h1,hk _ _ h2⟩
  · obtain⟨l,h1,h2,h3⟩:=h;exact⟨l,h1,h2,fun b' hb=>hk _ _ (h3 b' hb)⟩
  · exact⟨h.1,hk _ _ h.2⟩
  · exact⟨h.1,hk _ _ h.2⟩
  · exact bnd_mono h fun _ _ h=>bnd_mono h fun _ _ h=>⟨h.1,h.2.1,h.2.2.1,hk _ _ h.2.2.2⟩
  · exact bnd_mono h fun _ _ h=>bnd_mono h fun _ _ h=>by
      obtain⟨g1,g2,g3,g4,cs,g5,g6,g7,g8,g9⟩:=h;exact⟨g1,g2,g3,g4,cs,g5,g6,g7,g8,hk _ _ g9⟩
  · exact hk _ _ h
  · exact hk _ _ h
  · obtain⟨s,h1,h2⟩:=h;exact⟨s,h1,hk _ _ h2⟩
  · exact h.mono hk
  · obtain⟨s,h1,h2⟩:=h;exact⟨s,h1,h2.mono hk⟩
  · obtain⟨h1,h2,h3⟩:=h;refine⟨h1,h2,?_⟩;unfold optV at h3 ⊢;split at h3
    · exact⟨h3.1,hk _ _ h3.2⟩
    · exact h3.elim
  · obtain⟨s,h1,h2⟩:=h;exact⟨s,h1,h2.mono hk⟩
  · exact⟨h.1,h.2.1,h.2.2.mono hk⟩
  · exact h.elim
theorem bnd_det {b:Bool} {d:Nat} {vs:List V} {K:Nat→List V→Prop} (h:bnd b d vs K):∃n vs',K n vs' ∧ ∀K' : Nat→List V→Prop,K' n vs' → bnd b d vs K' := by
  unfold bnd at h;split at h
  · exact⟨_,_,h,fun _ h=>by unfold bnd;exact h⟩
  · exact⟨_,_,h.2,fun _ h' => by unfold bnd;exact⟨h.1,h'⟩⟩
  · exact h.elim
theorem OQ.det {σ:Store} {K:V→Store→Prop} {q:OQ} (hp:q.pure=true) {vs:List V} (h:q.sem σ K vs):∃v,K v σ∧∀(σ2:Store) (K' : V→Store→Prop),K' v σ2→q.sem σ2 K' vs:=by
  unfold OQ.sem at h;split at h
  · exact⟨_,h,fun _ _ h=>by unfold OQ.sem;exact h⟩
  · exact⟨_,h,fun _ _ h=>by unfold OQ.sem;exact h⟩
  · exact⟨_,h.2.2,fun _ _ h' => by unfold OQ.sem;exact⟨h.1,h.2.1,h'⟩⟩
  · obtain⟨m,v1,h1,g1⟩:=bnd_det h;obtain⟨hh,v2,h2,g2⟩:=bnd_det h1;obtain⟨M,v3,h3,g3⟩:=bnd_det h2;obtain⟨e1,e2,e3,e4,h4⟩:=h3;exact⟨_,h4,fun _ _ h' => by unfold OQ.sem;exact g1 _ (g2 _ (g3 _ ⟨e1,e2,e3,e4,h'⟩))⟩
  · simp[OQ.pure] at hp
  · simp[OQ.pure] at hp
  · obtain⟨l,h1,h2⟩:=h;exact⟨_,h2,fun _ _ h' => by unfold OQ.sem;exact⟨l,h1,h'⟩⟩
  · simp[OQ.pure] at hp
  · exact⟨_,h.2,fun _ _ h' => by unfold OQ.sem;exact⟨h.1,h'⟩⟩
  · exact⟨_,h.2,fun _ _ h' => by unfold OQ.sem;exact⟨h.1,h'⟩⟩
  · obtain⟨m,v1,h1,g1⟩:=bnd_det h;obtain⟨hh,v2,h2,g2⟩:=bnd_det h1;obtain⟨e1,e2,e3,h4⟩:=h2;exact⟨_,h4,fun _ _ h' => by unfold OQ.sem;exact g1 _ (g2 _ ⟨e1,e2,e3,h'⟩)⟩
  · simp[OQ.pure] at hp
  · exact⟨_,h,fun _ _ h=>by unfold OQ.sem;exact h⟩
  · exact⟨_,h,fun _ _ h=>by unfold OQ.sem;exact h⟩
  · simp[OQ.pure] at hp
  · simp[OQ.pure] at hp
  · simp[OQ.pure] at hp
  · obtain⟨h1,h2,h3⟩:=h;unfold optV at h3;split at h3
    · rename_i c hc;exact⟨c,h3.2,fun _ _ h' => by unfold OQ.sem;refine⟨h1,h2,?_⟩;unfold optV;rw[hc];exact⟨h3.1,h'⟩⟩
    · exact h3.elim
  · simp[OQ.pure] at hp
  · simp[OQ.pure] at hp
  · exact h.elim
theorem R_undef {E:Env}:R E (.tup []) undef:=by simp only[R];exact⟨#[],rfl,by simp[RL]⟩
theorem R_und {E:Env} {v:Value} (h:R E (.tup []) v):v=undef:=by
  simp only[R] at h;obtain⟨vs,rfl,h⟩:=h;cases hv:vs.toList with
  | nil => have : vs = #[] := by cases vs; simpa using hv
           subst this;rfl
  | cons x xs=>rw[hv] at h;simp[RL] at h
end Go.Am

namespace Go.Am
def cv:V→Value→Bool
  | .bool b,.bool c=>b == c
  | .int k n,.int j m=>decide (k=j)&&decide (n=m)
  | .str s,.string t=>decide (s=t.data.toList)
  | .nilp,.pointer none=>true
  | .sl .full _ [],.slice none 0 0=>true
  | .raw .nilFunc,.nilFunc=>true
  | .raw .nilIface,.nilIface=>true
  | .raw (.map none),.map none=>true
  | _,_=>false
def cvL:List V→List Value→Bool
  | [],[]=>true
  | x::xs,v::vs=>cv x v&&cvL xs vs
  | _,_=>false
def catOpt (f:Nat→Option (List V)):List Nat→Option (List V)
  | []=>some []
  | t::ts=>(f t).bind fun a=>(catOpt f ts).map (a++·)
def zeroV (P:Program):Nat→TypeId→Option (List V)
  | 0,_=>none
  | n + 1, t =>
    match P.underlying t with
    | some .bool=>some [.bool false]
    | some (.int k)=>some [.int k 0]
    | some .string=>some [.str []]
    | some (.pointer _)=>some [.nilp]
    | some (.slice e)=>some [.sl .full (P.cellsOf e) []]
    | some (.func _ _ _)=>some [.raw .nilFunc]
    | some (.interface _)=>some [.raw .nilIface]
    | some (.map _ _)=>some [.raw (.map none)]
    | some (.struct fs)=>catOpt (zeroV P n) (fs.toList.map (·.type))
    | some (.array k e)=>catOpt (zeroV P n) (List.replicate k e)
    | _=>none
def zeroC (P:Program) (t:TypeId):Option (List V) :=
  match P.info? t,zeroV P 30 t with
  | some i, some zs =>
    match i.zero with
    | some z=>if cvL zs z.cells.toList=true∧zs.length=i.size then some zs else none
    | none=>none
  | _,_=>none
def constV (P:Program) (t:TypeId):Value→Option V
  | .slice none 0 0 =>
    match P.underlying t with
    | some (.slice e)=>some (.sl .full (P.cellsOf e) [])
    | _=>none
  | .agg vs =>
    match zeroC P t with
    | some zs=>if cvL zs vs.toList=true then some (.agg zs) else none
    | none=>none
  | .bool b=>some (.bool b)
  | .int k n=>some (.int k n)
  | .string s=>some (.str s.data.toList)
  | .pointer none=>some .nilp
  | .nilFunc=>some (.raw .nilFunc)
  | .nilIface=>some (.raw .nilIface)
  | _=>none
def lowX (P:Program) (t:TypeId):Operand→Option X
  | .tmp n=>some (.s n)
  | .const v=>(constV P t v).map .c
  | .func f=>some (.c (.fn (.func f) [] []))
  | .global g=>some (.c (.ptr (.glo g) 0))
def lowXs (P:Program):List TypeId→List Operand→Option (List X)
  | [],[]=>some []
  | t::ts,x::xs=>(lowX P t x).bind fun y=>(lowXs P ts xs).map (y::·)
  | _,_=>none
def lowO (P:Program) (t:TypeId):Option Operand→Option (Option X)
  | none=>some none
  | some x=>(lowX P t x).map some
def aggOf (P:Program) (t:TypeId):Option Bool :=
  match P.underlying t with
  | some (.struct _) | some (.array _ _)=>some true
  | some _=>some false
  | none=>none
def sizeV (P:Program) (t:TypeId):Option Nat:=(P.info? t).map (·.size)
def lowParts (P:Program) (place:Nat→Option (Nat × TypeId)):List (Nat × Operand)→Option (List (Nat × Nat × X))
  | []=>some []
  | (i, x) :: ps =>
    match place i with
    | some (off, t) =>
      match sizeV P t,lowX P t x with
      | some n,some y=>if n=0 then none else (lowParts P place ps).map ((off,n,y)::·)
      | _,_=>none
    | none=>none
def planFs (f:TypeId→Nat→Option (List (Nat × Nat))) (size:TypeId→Nat) (all:Nat):List Field→Nat→Option (List (Nat × Nat))
  | [],_=>some []
  | x::xs,off=>if x.name = "_" ∨ all<x.offset+size x.type then none else (f x.type (off+x.offset)).bind fun a=>(planFs f size all xs off).map (a++·)
def planIs (f:Nat→Option (List (Nat × Nat))) (size all:Nat):List Nat→Nat→Option (List (Nat × Nat))
  | [],_=>some []
  | i::is,off=>if all<i*size+size then none else (f (off+i*size)).bind fun a=>(planIs f size all is off).map (a++·)
def planT (P:Program):Nat→TypeId→Nat→Option (List (Nat × Nat))
  | 0,_,_=>none
  | n + 1, t, off =>
    match P.info? t,P.underlying t with
    | some _,some .bool=>if P.cellsOf t=1 then some [(off,0)] else none
    | some _,some (.int _)=>if P.cellsOf t=1 then some [(off,1)] else none
    | some _,some .string=>if P.cellsOf t=1 then some [(off,2)] else none
    | some _,some (.struct fs)=>if P.stoodInHeld t=true then none else planFs (planT P n) P.cellsOf (P.cellsOf t) fs.toList off
    | some _,some (.array k e)=>match P.info? e with | some _=>planIs (planT P n e) (P.cellsOf e) (P.cellsOf t) (List.range k) off | none=>none
    | _,_=>none
def planOk (P:Program) (t:TypeId):Option (List Nat) :=
  match planT P 20 t 0 with
  | some pl=>if pl.map (·.1)=List.range (P.cellsOf t)∧P.eqGuardType P.depth t=false then some (pl.map (·.2)) else none
  | none=>none
def lowOp (P:Program) (o:Oper):Option AOp :=
  match o.op with
  | .move x | .assign x=>(lowX P o.type x).map .mv
  | .pick c a b =>
    match lowX P o.type c,lowX P o.type a,lowX P o.type b with
    | some c,some a,some b=>some (.pick c a b)
    | _,_,_=>none
  | .alloc t=>(zeroC P t).map .alloc
  | .box t x =>
    match sizeV P t,lowX P t x with
    | some n,some y=>some (.box n y)
    | _,_=>none
  | .build t ps =>
    match zeroC P t,P.underlying t with
    | some z,some (.struct fs)=>if fs.toList.all (fun f=>(P.info? f.type).isSome)=true then (lowParts P (fun i=>(fs[i]?).map fun f=>(f.offset,f.type)) ps.toList).map (.build z) else none
    | some z,some (.array _ e)=>if (P.info? e).isSome=true then (lowParts P (fun i=>some (i*P.cellsOf e,e)) ps.toList).map (.build z) else none
    | _,_=>none
  | .buildSlice t len ps =>
    match P.underlying t with
    | some (.slice e) =>
      match sizeV P e,zeroC P e,lowXs P (List.replicate len e) (ps.toList.map (·.2)) with
      | some k,some _,some xs=>if ps.toList.map (·.1)=List.range len∧len*k≤16777216∧0<k then some (.bslice k xs) else none
      | _,_,_=>none
    | _=>none
  | .load t x =>
    match aggOf P t,sizeV P t,lowX P t x with
    | some g,some n,some y=>some (.load g n y)
    | _,_,_=>none
  | .store t x y =>
    match sizeV P t,lowX P t x,lowX P t y with
    | some n,some x,some y=>if n=0 then none else some (.store n x y)
    | _,_,_=>none
  | .nilCheck x=>(lowX P o.type x).map .nilck
  | .binOp op t x y _ =>
    match lowX P t x,lowX P t y with
    | some x, some y =>
      match P.underlying t with
      | some (.int _)=>some (.binI op x y)
      | some .string=>match op with | .add=>some (.cat x y) | _=>some (.binS op x y)
      | some .bool=>match op with | .eql=>some (.binB false x y) | .neq=>some (.binB true x y) | _=>none
      | some (.struct _) | some (.array _ _) =>
        match planOk P t with
        | some ks=>match op with | .eql=>some (.eqA false ks x y) | .neq=>some (.eqA true ks x y) | _=>none
        | none=>none
      | _=>none
    | _,_=>none
  | .unOp .not _ x=>(lowX P o.type x).map .not
  | .convert src dst x =>
    match P.underlying src,P.underlying dst,lowX P src x with
    | some (.int _),some (.int k),some y=>some (.cvI k y)
    | some (.slice e),some .string,some y=>match P.underlying e with | some (.int .u8)=>some (.cvBS y) | _=>none
    | _,_,_=>none
  | .makeFunc f first cap =>
    match lowXs P (List.replicate first.size 0) first.toList,lowXs P (List.replicate cap.size 0) cap.toList with
    | some a,some b=>some (.mkfn f a b)
    | _,_=>none
  | .slice t x lo hi mx =>
    match lowX P t x,lowO P t lo,lowO P t hi,lowO P t mx with
    | some x, some lo, some hi, some mx =>
      match P.underlying t with
      | some (.slice e)=>match sizeV P e with | some k=>if mx.isSome=true→hi.isSome=true then some (.slc k x lo hi mx) else none | none=>none
      | some .string=>match mx with | none=>some (.slS x lo hi) | some _=>none
      | _=>none
    | _,_,_,_=>none
  | .fieldAddr s x i =>
    match P.underlying s,lowX P s x with
    | some (.struct fs), some y =>
      match fs[i]? with
      | some f=>match sizeV P f.type with | some n=>if n=0 then none else some (.fld f.offset y) | none=>none
      | none=>none
    | _,_=>none
  | .field s x i =>
    match P.underlying s,lowX P s x with
    | some (.struct fs), some y =>
      match fs[i]? with
      | some f=>match aggOf P f.type,sizeV P f.type with | some g,some n=>some (.fldv g f.offset n y) | _,_=>none
      | none=>none
    | _,_=>none
  | .indexAddr t x i =>
    match P.underlying t,lowX P t x,lowX P t i with
    | some (.slice e),some x,some i=>(sizeV P e).map fun k=>.idxA k x i
    | some (.array m e),some x,some i=>(sizeV P e).map fun k=>.idxP m k x i
    | _,_,_=>none
  | .index t x i =>
    match P.underlying t,lowX P t x,lowX P t i with
    | some .string,some x,some i=>some (.idxS x i)
    | _,_,_=>none
  | .extract x i=>(lowX P o.type x).map fun y=>.ext y i
  | .call c =>
    match c.callee with
    | .value (.func f)=>(lowXs P c.argTypes.toList c.args.toList).map (.call f)
    | .value x =>
      match lowX P 0 x,lowXs P c.argTypes.toList c.args.toList with
      | some y,some xs=>some (.callv y xs)
      | _,_=>none
    | .builtin .len =>
      match c.argTypes.toList,c.args.toList with
      | [t], [x] =>
        match P.underlying t,lowX P t x with
        | some (.slice _),some y=>some (.lenS y)
        | some .string,some y=>some (.lenT y)
        | _,_=>none
      | _,_=>none
    | .builtin .append =>
      match c.argTypes.toList,c.args.toList with
      | [t, u], [s, x] =>
        match P.underlying t,P.underlying u,lowX P t s,lowX P u x with
        | some (.slice e), some (.slice e'), some s, some x =>
          match P.info? e,zeroC P e with
          | some i,some _=>if e=e' ∧ i.bytes≤4096∧0<i.size then some (.app i.size s x) else none
          | _,_=>none
        | some (.slice e), some .string, some s, some x =>
          match P.info? e,zeroC P e with
          | some i,some _=>match P.underlying e with | some (.int .u8)=>if i.size=1∧i.bytes=1 then some (.appS s x) else none | _=>none
          | _,_=>none
        | _,_,_,_=>none
      | _,_=>none
    | _=>none
  | _=>none
end Go.Am

namespace Go.Am
theorem cv_R {E:Env}:∀{x:V} {v:Value},cv x v=true→R E x v:=by
  intro x v h;unfold cv at h;split at h<;>simp_all [R,TkOk]
theorem cvL_RL {E:Env}:∀{xs:List V} {vs:List Value},cvL xs vs=true→RL E xs vs
  | [],[],_=>by simp[RL]
  | [],_::_,h=>by simp[cvL] at h
  | _::_,[],h=>by simp[cvL] at h
  | x :: xs, v :: vs, h => by
    simp only[cvL,Bool.and_eq_true] at h;simp only[RL];exact⟨cv_R h.1,cvL_RL h.2⟩
theorem zeroC_spec {P:Program} {t:TypeId} {zs:List V} (h:zeroC P t=some zs) :
    ∃i z,P.info? t=some i∧i.zero=some z∧cvL zs z.cells.toList=true∧zs.length=i.size:=by
  unfold zeroC at h;split at h
  · rename_i i ys h1 h2;split at h
    · rename_i z hz;split at h
      · rename_i hc;simp only[Option.some.injEq] at h;subst h;exact⟨i,z,h1,hz,hc.1,hc.2⟩
      · simp at h
    · simp at h
  · simp at h
theorem constV_R {P:Program} {E:Env} {t:TypeId} {v:Value} {x:V} (h:constV P t v=some x):R E x v:=by
  unfold constV at h;split at h
  · split at h
    · simp only[Option.some.injEq] at h;subst h;simp[R,TkOk]
    · simp at h
  · rename_i vs;split at h
    · rename_i zs hz;split at h
      · rename_i hc;simp only[Option.some.injEq] at h;subst h;simp only[R];exact⟨vs,rfl,cvL_RL hc⟩
      · simp at h
    · simp at h
  all_goals first | (simp only[Option.some.injEq] at h;subst h;simp[R];done) | (simp at h)
theorem eval_R {E:Env} {st:St} {a:Act} (h:RL E st.t a.tmps.toList) (n:Nat):R E (ev st (.s n)) (a.eval (.tmp n)):=by
  have:=RL_getD h n undef
  simpa [ev,Act.eval,Array.getD_eq_getD_getElem?,List.getD] using this
theorem lowX_R {P:Program} {E:Env} {st:St} {a:Act} {t:TypeId} {x:Operand} {y:X} (h:RL E st.t a.tmps.toList) (hx:lowX P t x=some y) :
    R E (ev st y) (a.eval x):=by
  cases x with
  | tmp n=>simp only[lowX,Option.some.injEq] at hx;subst hx;exact eval_R h n
  | const v =>
    simp only[lowX,Option.map_eq_some_iff] at hx;obtain⟨u,hu,rfl⟩:=hx;exact constV_R hu
  | func f=>simp only[lowX,Option.some.injEq] at hx;subst hx;simp only[ev,R,Act.eval];exact⟨#[],#[],rfl,by simp[RL],by simp[RL]⟩
  | global g=>simp only[lowX,Option.some.injEq] at hx;subst hx;simp only[ev,R,Act.eval]
theorem lowXs_RL {P:Program} {E:Env} {st:St} {a:Act} (h:RL E st.t a.tmps.toList):∀{ts:List TypeId} {xs:List Operand} {ys:List X},lowXs P ts xs=some ys →
    RL E (evs st ys) (xs.map a.eval)
  | [],[],ys,hx=>by simp only[lowXs,Option.some.injEq] at hx;subst hx;simp[evs,RL]
  | [],_::_,_,hx=>by simp[lowXs] at hx
  | _::_,[],_,hx=>by simp[lowXs] at hx
  | t :: ts, x :: xs, ys, hx => by
    simp only[lowXs,Option.bind_eq_some_iff,Option.map_eq_some_iff] at hx;obtain⟨y,h1,zs,h2,rfl⟩:=hx;simp only[evs,List.map_cons,RL];exact⟨lowX_R h h1,lowXs_RL h h2⟩
def Post (E:Env) (a:Act) (d:Option Tmp) (K:V→St→Prop):Act→World→Prop :=
  fun a' w' => ∃E' v x st',E'.w=w' ∧ Fr E E' ∧ SRel E' st' a∧R E' v x∧a' = a.put d x∧K v st'
section
variable {P:Program} {E:Env} {st:St} {a:Act} {o:Oper} {K:V→St→Prop} {Q:Exit→Act→World→Prop}
theorem wp_val (hs:SRel E st a) {v:V} {x:Value} (hr:(execOp a.eval o).run P E.w = .ok (.value x) E.w) (hv:R E v x) (hk:K v st):o.wp P a E.w (Post E a o.dst K) Q:=by
  unfold Oper.wp;rw[hr];exact⟨E,v,x,st,rfl,Fr.refl E,hs,hv,rfl,hk⟩
def Rd (E:Env) (cs:List V) (b o:Nat):Prop:=∀(j:Nat) x,cs[j]?=some x→∃v,E.w.cell? ⟨b,o+j,none⟩=some v∧R E x v
theorem Env.nl_le (E:Env):E.nl.le E:=⟨fun _ _ _ h h' => ⟨h,h'⟩,fun _ _ h=>by simp at h,(Env.le.refl E).tok⟩
theorem Rd.mono {E E' : Env} (h:E.le E') (hw:E'.w=E.w) {cs:List V} {b o:Nat} (hr:Rd E cs b o):Rd E' cs b o:=fun j x hx=>by
  obtain⟨v,h1,h2⟩:=hr j x hx;exact⟨v,by rw[hw];exact h1,h2.mono _ h⟩
theorem Rd.of_box {E:Env} {cs:List V} {b:Nat} (h:BoxAt E b cs):Rd E cs b 0:=by
  obtain⟨c,e,h1,h2,h3⟩:=h;intro j x hx;obtain⟨v,hv,hr⟩:=h3 j x hx;exact⟨v,by simp[World.cell?,h1,hv],hr⟩
theorem Rd.of_RAs {E:Env}:∀{cs:List V} {b o:Nat},RAs E cs b o→Rd E cs b o
  | [],_,_,_=>fun j x hx=>by simp at hx
  | y :: ys, b, o, h => fun j x hx => by
    simp only[RAs] at h;obtain⟨⟨c,h1,_,_,h3⟩,h4⟩:=h;cases j with
    | zero=>simp at hx;subst hx;exact⟨c,h1,h3⟩
    | succ j =>
      simp at hx;obtain⟨v,hv,hr⟩:=Rd.of_RAs h4 j x hx;exact⟨v,by rw[show o+(j+1)=o+1+j from by omega];exact hv,hr⟩
theorem Rd.drop {E:Env} {cs:List V} {b o:Nat} (h:Rd E cs b o) (n:Nat):Rd E (cs.drop n) b (o+n):=fun j x hx=>by
  rw[List.getElem?_drop] at hx;obtain⟨v,hv,hr⟩:=h _ x hx;exact⟨v,by rw[show o+n+j=o+(n+j) from by omega];exact hv,hr⟩
theorem takeN_eq:∀{n:Nat} {cs xs:List V},takeN n cs=some xs→xs=cs.take n∧n≤cs.length
  | 0,cs,xs,h=>by simp[takeN] at h;subst h;simp
  | n+1,[],xs,h=>by simp[takeN] at h
  | n + 1, c :: cs, xs, h => by
    simp only[takeN,Option.map_eq_some_iff] at h;obtain⟨ys,h1,rfl⟩:=h;obtain⟨rfl,h2⟩:=takeN_eq h1;simp;omega
theorem Rd.cells {E:Env}:∀{cs:List V} {b o:Nat},Rd E cs b o→∃vs,RL E cs vs∧∀(j:Nat) v,vs[j]?=some v→E.w.cell? ⟨b,o+j,none⟩=some v
  | [],_,_,_=>⟨[],by simp[RL],fun j v h=>by simp at h⟩
  | c :: cs, b, o, h => by
    obtain⟨v,h1,h2⟩:=h 0 c (by simp);obtain⟨vs,h3,h4⟩:=Rd.cells (cs:=cs) (b:=b) (o:=o+1) fun j x hx=>by
      obtain⟨v,hv,hr⟩:=h (j+1) x (by simpa using hx);exact⟨v,by rw[show o+1+j=o+(j+1) from by omega];exact hv,hr⟩
    refine⟨v::vs,?_,fun j u hu=>?_⟩
    · simp only[RL];exact⟨h2,h3⟩
    · cases j with
      | zero=>simp at hu;subst hu;simpa using h1
      | succ j=>simp at hu;rw[show o+(j+1)=o+1+j from by omega];exact h4 j u hu
theorem addr_add (b o j:Nat):(⟨b,o,none⟩:Addr).add j=⟨b,o+j,none⟩:=by
  unfold Addr.add;split<;>simp_all
theorem run_isAgg {t:TypeId} {g:Bool} (h:aggOf P t=some g) (w:World):(isAgg t).run P w = .ok g w:=by
  unfold aggOf at h;cases hu:P.underlying t with
  | none=>simp[hu] at h
  | some d =>
    simp only[hu] at h;simp only[isAgg,Sem.run_bind,run_underlying hu,Result.andThen_ok];cases d<;>simp_all
theorem run_sizeV {t:TypeId} {n:Nat} (h:sizeV P t=some n) (w:World):(sizeOf t).run P w = .ok n w:=by
  unfold sizeV at h;simp only[Option.map_eq_some_iff] at h;obtain⟨i,hi,rfl⟩:=h;simp[sizeOf,typeInfo,hi]
theorem run_load {t:TypeId} {g:Bool} {n:Nat} (ht:aggOf P t=some g) (hn:sizeV P t=some n) {cs:List V} {b o:Nat} (h:Rd E cs b o) {v:V} (hv:ldC g n cs=some v) :
    ∃x,(loadVar t ⟨b,o,none⟩).run P E.w = .ok x E.w∧R E v x:=by
  cases g with
  | false =>
    cases cs with
    | nil=>simp[ldC] at hv
    | cons c cs =>
      simp only[ldC,Option.some.injEq] at hv;subst hv;obtain⟨x,h1,h2⟩:=h 0 c (by simp);exact⟨x,by simp only[Nat.add_zero] at h1;simp[loadVar,run_isAgg ht,h1],h2⟩
  | true =>
    simp only[ldC,Option.map_eq_some_iff] at hv;obtain⟨xs,h1,rfl⟩:=hv;obtain⟨rfl,h2⟩:=takeN_eq h1;have h' : Rd E (cs.take n) b o:=fun j x hx=>by
      rw[List.getElem?_take] at hx;split at hx
      · exact h j x hx
      · simp at hx
    obtain⟨vs,h3,h4⟩:=h'.cells;have hl:=RL_length h3;have hl' : vs.length=n:=by rw[←hl];simp;omega
    refine⟨.agg vs.toArray,?_,by simp only[R];exact⟨vs.toArray,rfl,by simpa using h3⟩⟩;have hc:=run_loadCells_list (P:=P) E.w ⟨b,o,none⟩ vs (fun j u hu=>by rw[addr_add];exact h4 j u hu);rw[hl'] at hc;simp[loadVar,run_isAgg ht,run_sizeV hn,hc]
theorem ldV_Rd (hs:SRel E st a) {g:Bool} {n:Nat} {p:V} {v:V} {x:Value} (h:ldV st g n p=some v) (hp:R E p x) :
    ∃b o cs,x = .pointer (some ⟨b,o,none⟩)∧Rd E cs b o∧ldC g n cs=some v:=by
  cases p with
  | ptr p off =>
    cases p with
    | loc i =>
      simp only[ldV,boxOf,Option.bind_eq_some_iff] at h;obtain⟨cs,h1,h2⟩:=h;simp only[R] at hp;obtain⟨b,hb,rfl⟩:=hp;obtain⟨b',h3,_,h5⟩:=hs.okL.box i cs h1;rw[hb] at h3;simp only[Option.some.injEq] at h3;subst h3;exact⟨b,off,cs.drop off,rfl,by simpa using (Rd.of_box h5).drop off,h2⟩
    | out b =>
      simp only[ldV,boxOf,Option.bind_eq_some_iff] at h;obtain⟨cs,h1,h2⟩:=h;simp only[R] at hp;subst hp;obtain⟨_,h5⟩:=hs.ok.box b cs h1;exact⟨b,off,cs.drop off,rfl,by simpa using ((Rd.of_box h5).mono E.nl_le rfl).drop off,h2⟩
    | glo b =>
      simp only[ldV,boxOf,Option.bind_eq_some_iff] at h;obtain⟨cs,h1,h2⟩:=h;simp only[R] at hp;subst hp;exact⟨b,off,cs.drop off,rfl,by simpa using ((Rd.of_RAs (hs.ok.con b cs h1)).mono E.nl_le rfl).drop off,h2⟩
  | elt cs off =>
    simp only[ldV] at h;simp only[R] at hp;obtain⟨b,o,rfl,h2⟩:=hp;exact⟨b,o+off,cs.drop off,rfl,((Rd.of_RAs h2).mono E.nl_le rfl).drop off,h⟩
  | _=>simp[ldV] at h
theorem wp_load (hs:SRel E st a) {t:TypeId} {x:Operand} {g:Bool} {n:Nat} {y:X} (ho:o.op = .load t x) (ht:aggOf P t=some g) (hn:sizeV P t=some n) (hy:R E (ev st y) (a.eval x))
    (h:opt (ldV st g n (ev st y)) (K2 K st)):o.wp P a E.w (Post E a o.dst K) Q:=by
  unfold opt K2 at h;split at h
  · rename_i v hv;obtain⟨b,off,cs,h1,h2,h3⟩:=ldV_Rd hs hv hy;obtain⟨u,h4,h5⟩:=run_load ht hn h2 h3;exact wp_val hs (by simp[execOp,ho,Instr.loadAt,Instr.sureAddr,h1,h4]) h5 h
  · exact h.elim
end
end Go.Am

namespace Go.Am
structure Ext (w w' : World):Prop where
  os:w'.os=w.os
  output:w'.output=w.output
  tape:w'.tape=w.tape
  size:w.heap.size≤w'.heap.size
  block:∀b,b<w.heap.size→w'.heap[b]?=w.heap[b]?
  frz:∀a,w'.frozen? a=w.frozen? a
theorem Ext.refl (w:World):Ext w w:=⟨rfl,rfl,rfl,Nat.le_refl _,fun _ _=>rfl,fun _=>rfl⟩
theorem Ext.drew {w w' : World} (h:Ext w w'):Ext w w'.drew:=⟨h.os,h.output,h.tape,h.size,h.block,h.frz⟩
theorem Ext.alloc {w w' : World} (h:Ext w w') (c:Array Value) (t:TypeId):Ext w (w'.alloc (.cells c t)) :=
  ⟨h.os,h.output,h.tape,by simp;have:=h.size;omega,fun b hb=>(heap_alloc_old w' _ (Nat.lt_of_lt_of_le hb h.size)).trans (h.block b hb),fun a=>(frozen_alloc w' c t a).trans (h.frz a)⟩
theorem cell_same {w w' : World} {b o:Nat} (h:w'.heap[b]?=w.heap[b]?):w'.cell? ⟨b,o,none⟩=w.cell? ⟨b,o,none⟩:=by simp[World.cell?,h]
theorem lt_of_cell {w:World} {b o:Nat} {c:Value} (h:w.cell? ⟨b,o,none⟩=some c):b<w.heap.size:=World.block_lt_of_cell? (a:=⟨b,o,none⟩) w h
theorem lt_of_heap {w:World} {b:Nat} {x:Obj} (h:w.heap[b]?=some x):b<w.heap.size:=(Array.getElem?_eq_some_iff.1 h).1
theorem fr_ext {E E' : Env} (hf:∀b,E.w.heap.size≤b→E.role b = .const) (hx:Ext E.w E'.w) (hr:∀b,b<E.w.heap.size→E'.role b=E.role b)
    (ht:∀t n,E.tip t=some n→E'.tip t=some n):Fr E E' := by
  refine⟨hx.os,hx.output,hx.tape,hx.size,hx.frz,?_,?_,?_,?_,?_,?_,fun b c e hb=>⟨c,(hx.block b (lt_of_heap hb)).trans hb,rfl⟩⟩
  · intro b o c hc hv;have hb:=lt_of_cell hv;exact⟨by rw[hr b hb];exact hc,by rw[cell_same (hx.block b hb)];exact hv⟩
  · intro t n hn;refine⟨n,ht t n hn,Nat.le_refl _,fun _ b c hb=>?_⟩;have hlt:b<E.w.heap.size:=by
      rcases Nat.lt_or_ge b E.w.heap.size with h | h
      · exact h
      · rw[hf b h] at hb;simp at hb
    exact⟨by rw[hr b hlt];exact hb,fun cs e hcs=>⟨cs,by rw[hx.block b hlt];exact hcs,rfl⟩⟩
  · intro b hb _;exact⟨hx.block b hb,hr b hb⟩
  · intro b hb h;rw[hr b hb] at h;exact .inl h
  · intro b t c hb h;rw[hr b hb] at h;exact⟨c,h⟩
  · intro b i hb h;rw[hr b hb] at h;exact⟨i,h⟩
theorem BoxAt.mono {E E' : Env} {b:Nat} {cs:List V} (h:E.le E') (hb:E'.w.heap[b]?=E.w.heap[b]?) (k:BoxAt E b cs):BoxAt E' b cs:=by
  obtain⟨c,e,h1,h2,h3⟩:=k;exact⟨c,e,by rw[hb];exact h1,h2,fun j x hx=>let ⟨v,hv,hr⟩:=h3 j x hx;⟨v,hv,hr.mono _ h⟩⟩
theorem ok_keep {E E' : Env} {σ:Store} (h:E.ok σ) (hle:E.nl.le E'.nl) (hb:∀b,E.role b = .obox→b<E.w.heap.size→E'.role b = .obox∧E'.w.heap[b]?=E.w.heap[b]?)
    (ht:∀t n,E.tip t=some n→E'.tip t=some n) (hf:∀b,E'.w.heap.size≤b→E'.role b = .const) (hn:∃N,∀t,N≤t→E'.tip t=none):E'.ok σ:=by
  refine⟨fun b cs hcs=>?_,fun t n htn=>ht t n (h.tip t n htn),hf,hn,fun b cs hc=>RAs.mono _ hle (h.con b cs hc)⟩;obtain⟨h1,h2⟩:=h.box b cs hcs;have hlt:b<E.w.heap.size:=by obtain⟨c,e,h3,_⟩:=h2;exact lt_of_heap (w:=E.w) h3
  obtain⟨h3,h4⟩:=hb b h1 hlt;exact⟨h3,h2.mono hle h4⟩
theorem okL_keep {E E' : Env} {ls:List (List V)} (h:E.okL ls) (hle:E.le E') (hb:∀b i,E.role b = .lbox i→b<E.w.heap.size→E'.role b = .lbox i∧E'.w.heap[b]?=E.w.heap[b]?)
    (hl:∀i,ls.length≤i→E'.loc i=none):E'.okL ls:=by
  refine⟨fun i cs hcs=>?_,hl⟩;obtain⟨b,h1,h2,h3⟩:=h.box i cs hcs;have hlt:b<E.w.heap.size:=by obtain⟨c,e,h3,_⟩:=h3;exact lt_of_heap (w:=E.w) h3
  obtain⟨h4,h5⟩:=hb b i h2 hlt;exact⟨b,hle.loc i b h1,h4,h3.mono hle h5⟩
section
variable {P:Program} {E:Env} {st:St} {a:Act} {o:Oper} {K:V→St→Prop} {Q:Exit→Act→World→Prop}
theorem srel_ext (hs:SRel E st a) {w' : World} (hx:Ext E.w w'):Fr E {E with w:=w'}∧E.le {E with w:=w'}∧SRel {E with w:=w'} st a:=by
  have hfr:Fr E {E with w:=w'}:=fr_ext hs.ok.fresh hx (fun _ _=>rfl) (fun _ _ h=>h);have hle:E.le {E with w:=w'}:=hfr.le fun _ _ h=>h
  refine⟨hfr,hle,ok_keep hs.ok hfr.nl (fun b h hb=>⟨h,hx.block b hb⟩) (fun _ _ h=>h) (fun b hb=>hs.ok.fresh b (Nat.le_trans hx.size hb)) hs.ok.nt,
    okL_keep hs.okL hle (fun b i h hb=>⟨h,hx.block b hb⟩) hs.okL.none,hs.defers,RL.mono _ hle hs.slot⟩
theorem wp_ext (hs:SRel E st a) {w' : World} (hx:Ext E.w w') {v:V} {x:Value} (hr:(execOp a.eval o).run P E.w = .ok (.value x) w') (hv:R {E with w:=w'} v x) (hk:K v st) :
    o.wp P a E.w (Post E a o.dst K) Q:=by
  unfold Oper.wp;rw[hr];obtain⟨h1,_,h3⟩:=srel_ext hs hx;exact⟨_,v,x,st,rfl,h1,h3,hv,rfl,hk⟩
theorem wp_new (hs:SRel E st a) {zs:List V} {c:Array Value} {e:TypeId} (hr:(execOp a.eval o).run P E.w = .ok (.value (.pointer (some ⟨E.w.heap.size,0,none⟩))) (E.w.alloc (.cells c e)))
    (hz:RL E zs c.toList) (hk:K (.ptr (.loc st.loc.length) 0) ⟨st.t,st.loc++[zs],st.out⟩):o.wp P a E.w (Post E a o.dst K) Q:=by
  unfold Oper.wp;rw[hr]
  let E' : Env:={w:=E.w.alloc (.cells c e),role:=fun b=>if b=E.w.heap.size then .lbox st.loc.length else E.role b,
                    loc:=fun i=>if i=st.loc.length then some E.w.heap.size else E.loc i,tip:=E.tip}
  have hx:Ext E.w E'.w:=(Ext.refl _).alloc _ _;have hfr:Fr E E' := fr_ext hs.ok.fresh hx (fun b hb=>by simp only[E'];rw[if_neg (by omega)]) (fun _ _ h=>h);have hle:E.le E' := hfr.le fun i b h=>by
    simp only[E'];split
    · rename_i hi;rw[hs.okL.none i (by omega)] at h;simp at h
    · exact h
  refine⟨E',_,_,⟨st.t,st.loc++[zs],st.out⟩,rfl,hfr,⟨?_,⟨?_,?_⟩,hs.defers,RL.mono _ hle hs.slot⟩,?_,rfl,hk⟩
  · refine ok_keep hs.ok hfr.nl (fun b h hb=>⟨by simp only[E'];rw[if_neg (by omega)];exact h,hx.block b hb⟩) (fun _ _ h=>h) (fun b hb=>?_) hs.ok.nt;simp only[E',World.size_alloc] at hb ⊢;rw[if_neg (by omega)];exact hs.ok.fresh b (by omega)
  · intro i cs hcs
    rcases Nat.lt_trichotomy i st.loc.length with hi | hi | hi
    · rw[List.getElem?_append_left hi] at hcs;obtain⟨b,h1,h2,h3⟩:=hs.okL.box i cs hcs;have hlt:b<E.w.heap.size:=by obtain⟨c,e,h3,_⟩:=h3;exact lt_of_heap (w:=E.w) h3
      exact⟨b,hle.loc i b h1,by simp only[E'];rw[if_neg (by omega)];exact h2,h3.mono hle (hx.block b hlt)⟩
    · subst hi;rw[List.getElem?_append_right (Nat.le_refl _)] at hcs;simp at hcs;subst hcs;have hl:=RL_length hz;refine⟨E.w.heap.size,by simp[E'],by simp[E'],c,e,heap_alloc_new _ _,by simp at hl;omega,fun j x hx=>?_⟩;obtain⟨v,hv,hr'⟩:=RL_get hz j x hx;exact⟨v,by simpa using hv,hr'.mono _ hle⟩
    · rw[List.getElem?_eq_none (by simp;omega)] at hcs;simp at hcs
  · intro i hi;simp at hi;simp only[E'];rw[if_neg (by omega)];exact hs.okL.none i (by omega)
  · simp only[R];exact⟨E.w.heap.size,by simp[E'],rfl⟩
theorem R_cells {x:V} {v:Value} {n:Nat} (h:R E x v) (hw:x.wd=some n):RL E x.cells v.cells.toList∧v.cells.size=n:=by
  cases x<;>simp only[V.wd,Option.some.injEq] at hw<;>try simp at hw
  case agg cs =>
    simp only[R] at h;obtain⟨vs,rfl,h2⟩:=h
    have:=RL_length h2
    exact⟨by simpa [V.cells,Value.cells] using h2,by simp[Value.cells];simp at this;omega⟩
  case raw u =>
    simp only[R] at h;subst h;obtain⟨ho,rfl⟩:=hw;cases v<;>simp_all [Value.oneCell',Value.cells,V.cells,RL,R]
  case ptr p off =>
    subst hw;have h' := h;cases p
    · simp only[R] at h;obtain⟨b,_,rfl⟩:=h;simp[Value.cells,V.cells,RL];exact h'
    · simp only[R] at h;subst h;simp[Value.cells,V.cells,RL];exact h'
    · simp only[R] at h;subst h;simp[Value.cells,V.cells,RL];exact h'
  all_goals
    subst hw;have h' := h;simp only[R] at h
    first
      | (subst h;simp[Value.cells,V.cells,RL];exact h')
      | (obtain⟨b,o,rfl,_⟩:=h;simp[Value.cells,V.cells,RL];exact h')
theorem one_ok:∀{xs:List V} {vs:List Value},RL E xs vs→oneL xs=true→∀v∈vs,v.oneCell' = true
  | [],[],_,_=>fun v hv=>by simp at hv
  | [],_::_,h,_=>by simp[RL] at h
  | _::_,[],h,_=>by simp[RL] at h
  | x :: xs, v :: vs, h, ho => by
    simp only[RL] at h;simp only[oneL,Bool.and_eq_true] at ho;intro u hu
    rcases List.mem_cons.1 hu with rfl | hu
    · obtain⟨hr,_⟩:=h;have h1:=ho.1;cases x<;>simp only[V.one] at h1<;>try (simp at h1;done)
      case ptr p off=>cases p<;>simp only[R] at hr<;>first | (subst hr;rfl) | (obtain⟨b,_,rfl⟩:=hr;rfl)
      all_goals
        simp only[R] at hr
        first
          | (subst hr;first | rfl | exact h1)
          | (obtain⟨b,o,rfl,_⟩:=hr;rfl)
    · exact one_ok h.2 ho.2 u hu
theorem hasN_le:∀{n:Nat} {xs:List V},hasN n xs=true→n≤xs.length
  | 0,_,_=>Nat.zero_le _
  | n+1,[],h=>by simp[hasN] at h
  | n+1,x::xs,h=>by simp only[hasN] at h;have:=hasN_le h;simp;omega
theorem over_get:∀{l xs:List V},xs.length≤l.length→∀j:Nat,(over l xs)[j]?=if j<xs.length then xs[j]? else l[j]?
  | [],[],_,j=>by simp[over]
  | [],_::_,h,_=>by simp at h
  | a::l,[],_,j=>by simp[over]
  | a :: l, x :: xs, h, j => by
    cases j with
    | zero=>simp[over]
    | succ j=>simp[over,over_get (l:=l) (xs:=xs) (by simpa using h)]
theorem over_length:∀{l xs:List V},(over l xs).length=l.length
  | [],_=>by simp[over]
  | a::l,[]=>by simp[over]
  | a::l,x::xs=>by simp[over,over_length]
theorem setAt_length:∀{l:List V} {n:Nat} {xs:List V},(setAt l n xs).length=l.length
  | l,0,xs=>by cases l<;>simp[setAt,over_length]
  | [],n+1,xs=>by simp[setAt]
  | a::l,n+1,xs=>by simp[setAt,setAt_length]
theorem setAt_get:∀{l:List V} {n:Nat} {xs:List V},n+xs.length≤l.length→∀j:Nat,
    (setAt l n xs)[j]?=if j<n then l[j]? else if j<n+xs.length then xs[j - n]? else l[j]?
  | l, 0, xs, h, j => by
    have h' : setAt l 0 xs=over l xs:=by cases l<;>simp[setAt]
    rw[h',over_get (by omega)];simp
  | [],n+1,xs,h,j=>by simp at h
  | a :: l, n + 1, xs, h, j => by
    cases j with
    | zero=>simp[setAt]
    | succ j =>
      have:=setAt_get (l:=l) (n:=n) (xs:=xs) (by simp at h;omega) j
      simp only[setAt,List.getElem?_cons_succ,this]
      by_cases h1:j<n
      · rw[if_pos h1,if_pos (show j+1<n+1 by omega)]
      · rw[if_neg h1,if_neg (show ¬j+1<n+1 by omega)]
        by_cases h2:j<n+xs.length
        · rw[if_pos h2,if_pos (show j+1<n+1+xs.length by omega),show j+1 - (n+1)=j - n from by omega]
        · rw[if_neg h2,if_neg (show ¬j+1<n+1+xs.length by omega)]
theorem run_storeV {t:TypeId} {n:Nat} (hn:sizeV P t=some n) {w:World} {b off:Nat} {c:Array Value} {e:TypeId} (hb:w.heap[b]?=some (.cells c e (0,0))) {v:Value} (hv:v.cells.size=n)
    (hoff:off+n≤c.size) (h1:∀u∈v.cells.toList,u.oneCell' = true) :
    (storeVar t ⟨b,off,none⟩ v).run P w = .ok () (w.setRow b (c.toList.take off++v.cells.toList++c.toList.drop (off+n)).toArray):=by
  have h:=run_storeCells_at (P:=P) b off e v.cells.toList 0 c w hb (by simp;omega) h1;simp only[Nat.add_zero,Array.length_toList,hv] at h;simp[storeVar,run_sizeV hn,hv,h]
theorem splice_get {c vs:List Value} {off:Nat} (h:off+vs.length≤c.length) (j:Nat) :
    (c.take off++vs++c.drop (off+vs.length))[j]?=if j<off then c[j]? else if j<off+vs.length then vs[j - off]? else c[j]?:=by
  have hl:(c.take off).length=off:=by simp;omega
  by_cases h1:j<off
  · rw[if_pos h1,List.append_assoc,List.getElem?_append_left (by omega),List.getElem?_take,if_pos h1]
  · rw[if_neg h1]
    by_cases h2:j<off+vs.length
    · rw[if_pos h2,List.append_assoc,List.getElem?_append_right (by omega),List.getElem?_append_left (by omega),hl]
    · rw[if_neg h2,List.getElem?_append_right (by simp;omega),List.getElem?_drop];congr 1;simp;omega
theorem box_store {E' : Env} {b:Nat} {cs:List V} {c:Array Value} {e:TypeId} (hc:cs.length≤c.size) (hb:∀(j:Nat) x,cs[j]?=some x→∃v,c[j]?=some v∧R E' x v)
    {xs:List V} {vs:List Value} (hx:RL E' xs vs) {off:Nat} (hoff:off+xs.length≤cs.length)
    (hn:E'.w.heap[b]?=some (.cells (c.toList.take off++vs++c.toList.drop (off+vs.length)).toArray e (0,0))):BoxAt E' b (setAt cs off xs):=by
  have hl:=RL_length hx;refine⟨_,e,hn,?_,fun j x hj=>?_⟩
  · simp[setAt_length];omega
  · rw[setAt_get hoff] at hj;have hs:=splice_get (c:=c.toList) (vs:=vs) (off:=off) (by simp;omega) j;simp only[List.getElem?_toArray];rw[hs]
    by_cases h1:j<off
    · rw[if_pos h1] at hj ⊢;simpa using hb j x hj
    · rw[if_neg h1] at hj ⊢
      by_cases h2:j<off+xs.length
      · rw[if_pos h2] at hj;rw[if_pos (by omega)];exact RL_get hx _ x hj
      · rw[if_neg h2] at hj;rw[if_neg (by omega)];simpa using hb j x hj
end
end Go.Am

namespace Go.Am
mutual
theorem R.nolm:∀(x:V) {E E' : Env} (_:E.nl.le E'.nl) (_:x.nol=true) {v:Value},R E x v→R E' x v
  | .any,_,_,_,_,_,_=>by simp only[R]
  | .bool _,_,_,_,_,_,hr=>by simp only[R] at hr ⊢;exact hr
  | .int _ _,_,_,_,_,_,hr=>by simp only[R] at hr ⊢;exact hr
  | .str _,_,_,_,_,_,hr=>by simp only[R] at hr ⊢;exact hr
  | .nilp,_,_,_,_,_,hr=>by simp only[R] at hr ⊢;exact hr
  | .ptr (.loc i) _,_,_,_,hn,_,_=>by simp[V.nol] at hn
  | .ptr (.out _) _,_,_,_,_,_,hr=>by simp only[R] at hr ⊢;exact hr
  | .ptr (.glo _) _,_,_,_,_,_,hr=>by simp only[R] at hr ⊢;exact hr
  | .elt cs _, _, _, h, _, _, hr => by
    simp only[R] at hr ⊢;obtain⟨b,o,h1,h2⟩:=hr;exact⟨b,o,h1,RAs.mono cs h h2⟩
  | .sl t k l, E, E', h, _, _, hr => by
    simp only[R] at hr ⊢;obtain⟨a,cap,h1,h2,h3,h4⟩:=hr;have h4' : TkOk E.nl k l.length a cap t:=h4;refine⟨a,cap,h1,h2,?_,(h4'.mono h:TkOk E'.nl k l.length a cap t)⟩
    rcases h3 with h3 | ⟨b,o,h3,h5⟩
    · exact .inl h3
    · exact .inr ⟨b,o,h3,REs.mono l h h5⟩
  | .agg cs, _, _, h, hn, _, hr => by
    simp only[R] at hr ⊢;simp only[V.nol] at hn;obtain⟨vs,h1,h2⟩:=hr;exact⟨vs,h1,RL.nolm cs h hn h2⟩
  | .tup cs, _, _, h, hn, _, hr => by
    simp only[R] at hr ⊢;simp only[V.nol] at hn;obtain⟨vs,h1,h2⟩:=hr;exact⟨vs,h1,RL.nolm cs h hn h2⟩
  | .fn _ first cap, _, _, h, hn, _, hr => by
    simp only[R] at hr ⊢;simp only[V.nol,Bool.and_eq_true] at hn;obtain⟨fs,cs,h1,h2,h3⟩:=hr;exact⟨fs,cs,h1,RL.nolm first h hn.1 h2,RL.nolm cap h hn.2 h3⟩
  | .raw _,_,_,_,_,_,hr=>by simp only[R] at hr ⊢;exact hr
theorem RL.nolm:∀(l:List V) {E E' : Env} (_:E.nl.le E'.nl) (_:nolL l=true) {vs:List Value},RL E l vs→RL E' l vs
  | [],_,_,_,_,[],_=>by simp only[RL]
  | [],_,_,_,_,_::_,hr=>by simp only[RL] at hr
  | _::_,_,_,_,_,[],hr=>by simp only[RL] at hr
  | x :: xs, _, _, h, hn, v :: vs, hr => by
    simp only[RL] at hr ⊢;simp only[nolL,Bool.and_eq_true] at hn;exact⟨R.nolm x h hn.1 hr.1,RL.nolm xs h hn.2 hr.2⟩
end
theorem fr_row {E:Env} {b:Nat} {c new:Array Value} {e:TypeId} (hb:E.w.heap[b]?=some (.cells c e (0,0))) (hr:(∃i,E.role b = .lbox i)∨E.role b = .obox) (hsz:new.size=c.size) :
    Fr E {E with w:=E.w.setRow b new}:=by
  refine⟨rfl,rfl,rfl,by simp,frozen_setRow hb,?_,?_,?_,fun _ _ h=>.inl h,fun _ _ c _ h=>⟨c,h⟩,fun _ i _ h=>⟨i,h⟩,fun b' c' e' hc=>?_⟩
  · intro b' o v hc hv;have hne:b' ≠ b:=by
      rintro rfl
      rcases hr with ⟨i,hi⟩ | hi<;>rw[hi] at hc<;>exact hc.elim
    exact⟨hc,by rw[cell_setRow_other E.w b new ⟨b',o,none⟩ hne];exact hv⟩
  · intro t n hn;refine⟨n,hn,Nat.le_refl _,fun _ b' k hk=>⟨hk,fun cs e' hcs=>?_⟩⟩;have hne:b' ≠ b:=by
      rintro rfl
      rcases hr with ⟨i,hi⟩ | hi<;>rw[hi] at hk<;>simp at hk
    exact⟨cs,by simp only[setRow_other E.w b b' new hne];exact hcs,rfl⟩
  · intro b' _ hk;have hne:b' ≠ b:=by
      rintro rfl
      rcases hr with ⟨i,hi⟩ | hi<;>rw[hi] at hk<;>simp at hk
    exact⟨setRow_other E.w b b' new hne,rfl⟩
  · by_cases hbb:b' = b
    · subst hbb;rw[hb] at hc;simp only[Option.some.injEq,Obj.cells.injEq] at hc;obtain⟨rfl,rfl,_⟩:=hc;exact⟨new,setRow_heap E.w b' c new e _ hb,hsz⟩
    · exact⟨c',(setRow_other E.w b b' new hbb).trans hc,rfl⟩
theorem Store.set_same (σ:Store) (b:Nat) (cs:List V):(σ.set b cs).box b=some cs:=by simp[Store.set]
theorem Store.set_other (σ:Store) {b x:Nat} (cs:List V) (h:x≠b):(σ.set b cs).box x=σ.box x:=by simp[Store.set,h]
section
variable {P:Program} {E:Env} {st:St} {a:Act} {o:Oper} {K:V→St→Prop} {Q:Exit→Act→World→Prop}
theorem store_step {t:TypeId} {n:Nat} (hpos:0<n) (hn:sizeV P t=some n) {b off:Nat} {cs:List V} {c:Array Value} {e:TypeId} (hb:E.w.heap[b]?=some (.cells c e (0,0))) (hlen:cs.length≤c.size)
    {ay:V} {v:Value} (hy:R E ay v) (hh:hasN n (cs.drop off)=true) (hwd:ay.wd=some n) (hone:oneL ay.cells=true) :
    ∃vs:List Value,RL E ay.cells vs∧off+ay.cells.length≤cs.length ∧
      (storeVar t ⟨b,off,none⟩ v).run P E.w = .ok () (E.w.setRow b (c.toList.take off++vs++c.toList.drop (off+vs.length)).toArray) ∧
      (E.w.setRow b (c.toList.take off++vs++c.toList.drop (off+vs.length)).toArray).heap[b]?=some (.cells (c.toList.take off++vs++c.toList.drop (off+vs.length)).toArray e (0,0)):=by
  obtain⟨hRL,hsz⟩:=R_cells hy hwd;have hl:=RL_length hRL;have hle:=hasN_le hh;simp at hle hl;have hcs:off+n≤cs.length:=by omega
  refine⟨v.cells.toList,hRL,by omega,?_,setRow_heap E.w b c _ e _ hb⟩
  have:=run_storeV (P:=P) (off:=off) hn hb hsz (by omega) (one_ok hRL hone)
  rw[this];simp[hsz]
theorem run_storeAt {t:TypeId} {b off:Nat} {v:Value} {w w' : World} (h:(storeVar t ⟨b,off,none⟩ v).run P w = .ok () w') :
    (Instr.storeAt t (.pointer (some ⟨b,off,none⟩)) v).run P w = .ok () w' := by
  simp[Instr.storeAt,Instr.sureAddr,h]
theorem wp_store (hs:SRel E st a) {t:TypeId} {x y:Operand} {n:Nat} {ax ay:V} (hpos:0<n) (ho:o.op = .store t x y) (hn:sizeV P t=some n) (hx:R E ax (a.eval x)) (hy:R E ay (a.eval y))
    {st' : St} (h:stV st n ay ax=some st') (hk:K .any st'):o.wp P a E.w (Post E a o.dst K) Q:=by
  cases ax with
  | ptr p off =>
    cases p with
    | glo b=>simp[stV] at h
    | loc i =>
      simp only[stV,Option.bind_eq_some_iff] at h;obtain⟨cs,h1,h2⟩:=h;split at h2
      case isFalse=>simp at h2
      rename_i hc;obtain⟨hh,hwd,hone⟩:=hc;simp only[Option.some.injEq] at h2;subst h2;simp only[R] at hx;obtain⟨b,hb,hx⟩:=hx;obtain⟨b',h3,hrole,c,e,hbk,hlen,hcells⟩:=hs.okL.box i cs h1;rw[hb] at h3;simp only[Option.some.injEq] at h3;subst h3;obtain⟨vs,hRL,hoff,hrun,hnew⟩:=store_step (P:=P) (t:=t) hpos hn hbk hlen hy hh hwd hone;have hfr:=fr_row (E:=E) (new:=(c.toList.take off++vs++c.toList.drop (off+vs.length)).toArray) hbk (.inl ⟨i,hrole⟩) (by have:=RL_length hRL;simp;omega);have hle:=hfr.le fun _ _ h=>h
      have hbox:=box_store (E' := {E with w:=E.w.setRow b (c.toList.take off++vs++c.toList.drop (off+vs.length)).toArray}) hlen
        (fun j x hj=>let ⟨u,h1,h2⟩:=hcells j x hj;⟨u,h1,h2.mono _ hle⟩) (RL.mono _ hle hRL) hoff hnew
      generalize (c.toList.take off++vs++c.toList.drop (off+vs.length)).toArray=new at hrun hnew hfr hle hbox;have hk' : ∀b',b' ≠ b→(E.w.setRow b new).heap[b']?=E.w.heap[b']?:=fun b' hne=>setRow_other E.w b b' new hne
      unfold Oper.wp;rw[show (execOp a.eval o).run P E.w = .ok .skip (E.w.setRow b new) from by simp[execOp,ho,hx,run_storeAt hrun]];refine⟨{E with w:=E.w.setRow b new},.any,undef,⟨st.t,st.loc.set i (setAt cs off ay.cells),st.out⟩,rfl,hfr,⟨?_,⟨?_,?_⟩,hs.defers,RL.mono _ hle hs.slot⟩,by simp[R],rfl,hk⟩
      · exact ok_keep hs.ok hfr.nl (fun b' hr _=>⟨hr,hk' b' (by rintro rfl;rw[hrole] at hr;simp at hr)⟩) (fun _ _ h=>h) (fun b' hb' => hs.ok.fresh b' (by simpa using hb')) hs.ok.nt
      · intro j ds hj
        by_cases hji:j=i
        · subst hji;have hlt:j<st.loc.length:=(List.getElem?_eq_some_iff.1 h1).1;simp only[List.getElem?_set_self hlt,Option.some.injEq] at hj;subst hj;exact⟨b,hb,hrole,hbox⟩
        · simp only[List.getElem?_set_ne (Ne.symm hji)] at hj;obtain⟨b',k1,k2,k3⟩:=hs.okL.box j ds hj;exact⟨b',k1,k2,k3.mono hle (hk' b' (by rintro rfl;rw[hrole] at k2;simp at k2;exact hji k2.symm))⟩
      · intro j hj;exact hs.okL.none j (by simpa using hj)
    | out b =>
      simp only[stV,Option.bind_eq_some_iff] at h;obtain⟨cs,h1,h2⟩:=h;split at h2
      case isFalse=>simp at h2
      rename_i hc;obtain⟨hh,hwd,hone,hnol⟩:=hc;simp only[Option.some.injEq] at h2;subst h2;simp only[R] at hx;obtain⟨hrole,c,e,hbk,hlen,hcells⟩:=hs.ok.box b cs h1;have hbk' : E.w.heap[b]?=some (.cells c e (0,0)):=hbk;obtain⟨vs,hRL,hoff,hrun,hnew⟩:=store_step (P:=P) (t:=t) hpos hn hbk' hlen hy hh hwd hone;have hfr:=fr_row (E:=E) (new:=(c.toList.take off++vs++c.toList.drop (off+vs.length)).toArray) hbk' (.inr hrole) (by have:=RL_length hRL;simp;omega);have hle:=hfr.le fun _ _ h=>h
      have hbox:=box_store (E' := Env.nl {E with w:=E.w.setRow b (c.toList.take off++vs++c.toList.drop (off+vs.length)).toArray}) hlen
        (fun j x hj=>let ⟨u,h1,h2⟩:=hcells j x hj;⟨u,h1,h2.mono _ hfr.nl⟩) (RL.mono _ hfr.nl (RL.nolm (E:=E) (E' := E.nl) _ (Env.le.refl E.nl) hnol hRL)) hoff hnew
      generalize (c.toList.take off++vs++c.toList.drop (off+vs.length)).toArray=new at hrun hnew hfr hle hbox;have hk' : ∀b',b' ≠ b→(E.w.setRow b new).heap[b']?=E.w.heap[b']?:=fun b' hne=>setRow_other E.w b b' new hne
      unfold Oper.wp;rw[show (execOp a.eval o).run P E.w = .ok .skip (E.w.setRow b new) from by simp[execOp,ho,hx,run_storeAt hrun]];refine⟨{E with w:=E.w.setRow b new},.any,undef,⟨st.t,st.loc,st.out.set b (setAt cs off ay.cells)⟩,rfl,hfr,⟨⟨?_,hs.ok.tip,fun b' hb' => hs.ok.fresh b' (by simpa using hb'),hs.ok.nt,fun b cs hc=>RAs.mono _ hfr.nl (hs.ok.con b cs hc)⟩,
        okL_keep hs.okL hle (fun b' i hr _=>⟨hr,hk' b' (by rintro rfl;rw[hrole] at hr;simp at hr)⟩) hs.okL.none,hs.defers,RL.mono _ hle hs.slot⟩,by simp[R],rfl,hk⟩
      intro b' ds hds
      by_cases hbb:b' = b
      · subst hbb;rw[Store.set_same] at hds;simp only[Option.some.injEq] at hds;subst hds;exact⟨hrole,hbox⟩
      · rw[Store.set_other _ _ hbb] at hds;obtain⟨k1,k2⟩:=hs.ok.box b' ds hds;exact⟨k1,k2.mono hfr.nl (hk' b' hbb)⟩
  | _=>simp[stV] at h
end
end Go.Am

namespace Go.Am
def Role.hide:Role→Role
  | .lbox _=>.hid
  | r=>r
theorem Role.hide_com (r:Role) (o:Nat):r.hide.com o↔r.com o:=by cases r<;>simp[Role.hide,Role.com]
def Env.call (E:Env):Env:={w:=E.w,role:=fun b=>(E.role b).hide,loc:=fun _=>none,tip:=E.tip}
def Role.back:Role→Role→Role
  | .lbox i,_=>.lbox i
  | _,r=>r
def Env.back (E E' : Env):Env:={w:=E'.w,role:=fun b=>(E.role b).back (E'.role b),loc:=E.loc,tip:=E'.tip}
theorem call_le (E:Env):E.nl.le E.call.nl :=
  ⟨fun b o c hc hv=>⟨(Role.hide_com _ _).2 hc,hv⟩,fun _ _ h=>by simp at h,fun t n hn=>⟨n,hn,Nat.le_refl _,fun _ b c hb=>⟨by
    show (E.role b).hide=_;have hb' : E.role b = .lin t c:=hb;rw[hb'];rfl,fun cs _ hc=>⟨cs,hc,rfl⟩⟩⟩⟩
theorem call_ok {E:Env} {σ:Store} (h:E.ok σ):E.call.ok σ:=by
  refine⟨fun b cs hcs=>?_,h.tip,fun b hb=>?_,h.nt,fun b cs hc=>RAs.mono _ (call_le E) (h.con b cs hc)⟩
  · obtain⟨h1,h2⟩:=h.box b cs hcs;exact⟨by show (E.role b).hide=_;rw[h1];rfl,h2.mono (call_le E) rfl⟩
  · show (E.role b).hide=_;rw[h.fresh b hb];rfl
section
variable {E E' : Env} (hf:∀b,E.w.heap.size≤b→E.role b = .const) (h:Fr E.call E')
include hf h in
theorem back_lbox {b i:Nat} (hb:E.role b = .lbox i):b<E.w.heap.size∧E'.role b = .hid∧E'.w.heap[b]?=E.w.heap[b]?:=by
  have hlt:b<E.w.heap.size:=by
    rcases Nat.lt_or_ge b E.w.heap.size with h | h
    · exact h
    · rw[hf b h] at hb;simp at hb
  have hr:E.call.role b = .hid:=by show (E.role b).hide=_;rw[hb];rfl
  obtain⟨h1,h2⟩:=h.same b hlt (.inr hr);exact⟨hlt,h2.trans hr,h1⟩
include hf h in
theorem back_com (b o:Nat):((E.back E').role b).com o↔(E'.role b).com o:=by
  show (((E.role b).back (E'.role b)).com o↔_);cases hb:E.role b with
  | lbox i =>
    obtain⟨_,h2,_⟩:=back_lbox hf h hb;simp[Role.back,h2,Role.com]
  | _=>simp[Role.back]
include hf h in
theorem back_lin {b t c:Nat} (hb:E'.role b = .lin t c):(E.back E').role b = .lin t c:=by
  show (E.role b).back (E'.role b)=_;cases hr:E.role b with
  | lbox i =>
    obtain⟨_,h2,_⟩:=back_lbox hf h hr;rw[hb] at h2;simp at h2
  | _=>simp[Role.back,hb]
include hf h in
theorem back_obox {b:Nat} (hb:E'.role b = .obox):(E.back E').role b = .obox:=by
  show (E.role b).back (E'.role b)=_;cases hr:E.role b with
  | lbox i =>
    obtain⟨_,h2,_⟩:=back_lbox hf h hr;rw[hb] at h2;simp at h2
  | _=>simp[Role.back,hb]
include hf h in
theorem back_le:E'.nl.le (E.back E').nl :=
  ⟨fun b o _ hc hv=>⟨(back_com hf h b o).2 hc,hv⟩,fun _ _ h=>by simp at h,fun _ n hn=>⟨n,hn,Nat.le_refl _,fun _ _ _ hb=>⟨back_lin hf h hb,fun cs _ hc=>⟨cs,hc,rfl⟩⟩⟩⟩
include hf h in
theorem back_fr:Fr E (E.back E'):=by
  refine⟨h.os,h.output,h.tape,h.size,h.frz,?_,?_,?_,?_,?_,?_,h.shape⟩
  · intro b o c hc hv;obtain⟨h1,h2⟩:=h.cell b o c ((Role.hide_com _ _).2 hc) hv;exact⟨(back_com hf h b o).2 h1,h2⟩
  · intro t n hn;obtain⟨n',h1,h2,h3⟩:=h.tok t n hn;refine⟨n',h1,h2,fun he b c hb=>?_⟩;obtain⟨h4,h5⟩:=h3 he b c (by show (E.role b).hide=_;rw[hb];rfl);exact⟨back_lin hf h h4,h5⟩
  · intro b hb hr;have hne:(E.role b).hide=E.role b:=by rcases hr with hr | hr<;>rw[hr]<;>rfl
    obtain⟨h1,h2⟩:=h.same b hb (by show (E.role b).hide=_∨(E.role b).hide=_;rw[hne];exact hr);refine⟨h1,?_⟩;show (E.role b).back (E'.role b)=_;have h2' : E'.role b=(E.role b).hide:=h2;rw[h2',hne]
    rcases hr with hr | hr<;>rw[hr]<;>rfl
  · intro b hb hr;have hr' : (E.role b).back (E'.role b) = .obox:=hr;cases hq:E.role b with
    | lbox i=>rw[hq] at hr';simp[Role.back] at hr'
    | obox=>exact .inl rfl
    | _ =>
      rw[hq] at hr';simp only[Role.back] at hr'
      rcases h.backB b hb hr' with h' | ⟨j,h'⟩
      · have h' : (E.role b).hide = .obox:=h';rw[hq] at h';simp[Role.hide] at h'
      · have h' : (E.role b).hide = .lbox j:=h';rw[hq] at h';simp[Role.hide] at h'
  · intro b t c hb hr;have hr' : (E.role b).back (E'.role b) = .lin t c:=hr;cases hq:E.role b with
    | lbox i=>rw[hq] at hr';simp[Role.back] at hr'
    | _ =>
      rw[hq] at hr';simp only[Role.back] at hr';obtain⟨c0,this⟩:=h.backL b t c hb hr';have h' : (E.role b).hide = .lin t c0:=this;rw[hq] at h'
      first | (simp[Role.hide] at h';done) | exact⟨c0,h'⟩
  · intro b i hb hr;have hr' : (E.role b).back (E'.role b) = .lbox i:=hr;cases hq:E.role b with
    | lbox j=>exact⟨j,rfl⟩
    | _ =>
      rw[hq] at hr';simp only[Role.back] at hr';obtain⟨c0,this⟩:=h.backI b i hb hr';have h' : (E.role b).hide = .lbox c0:=this;rw[hq] at h';simp[Role.hide] at h'
end
section
variable {P:Program} {E:Env} {st:St} {a:Act} {o:Oper} {K:V→St→Prop} {Q:Exit→Act→World→Prop}
theorem call_frame (hs:SRel E st a) {f:FuncId} {xs:List V} {vs:Array Value} (hx:RL E xs vs.toList) (hn:nolL xs=true) (hc:PCalls P f xs st.out fun v σ=>K v ⟨st.t,st.loc,σ⟩) :
    Calls P f vs E.w fun e w' => ∃E' v x st',e = .returned x∧E'.w=w' ∧ Fr E E' ∧ SRel E' st' a∧R E' v x∧K v st' := by
  have hf:=hs.ok.fresh;refine(hc.2 E.call vs (fun _=>rfl) (call_ok hs.ok) (RL.nolm _ (call_le E) hn hx)).mono ?_;rintro e w' ⟨v,x,E',σ',rfl,rfl,hloc,hok,hr,hfr,hk⟩;have hfr' := back_fr hf hfr;have hle:E.le (E.back E'):=hfr'.le fun _ _ h=>h
  have hback:=back_le hf hfr;refine⟨E.back E',v,x,⟨st.t,st.loc,σ'⟩,rfl,rfl,hfr',⟨⟨?_,hok.tip,?_,hok.nt,fun b cs hc=>RAs.mono _ hback (hok.con b cs hc)⟩,?_,hs.defers,RL.mono _ hle hs.slot⟩,?_,hk⟩
  · intro b cs hcs;obtain⟨h1,h2⟩:=hok.box b cs hcs;exact⟨back_obox hf hfr h1,h2.mono hback rfl⟩
  · intro b hb;have hb' : E'.w.heap.size≤b:=hb;show (E.role b).back (E'.role b)=_;rw[hf b (Nat.le_trans hfr.size hb')];exact hok.fresh b hb'
  · refine okL_keep hs.okL hle (fun b i hr' hlt=>?_) hs.okL.none;obtain⟨_,_,h3⟩:=back_lbox hf hfr hr';exact⟨by show (E.role b).back (E'.role b)=_;rw[hr'];rfl,h3⟩
  · have h1:E'.nl.le (E.back E').nl:=hback;have h2:E'.le (E.back E'):=⟨h1.cell,fun i b hb=>by rw[hloc i] at hb;simp at hb,h1.tok⟩;exact hr.mono _ h2
theorem wp_call (hs:SRel E st a) {f:FuncId} {xs:List V} {vs:Array Value} (hx:RL E xs vs.toList) (hn:nolL xs=true) (hc:PCalls P f xs st.out fun v σ=>K v ⟨st.t,st.loc,σ⟩)
    (hr:(execOp a.eval o).run P E.w=(callFunc f vs).run P E.w):o.wp P a E.w (Post E a o.dst K) Q:=by
  unfold Oper.wp;rw[hr,hc.1];simp only[Oper.upon_enter];refine(call_frame hs hx hn hc).mono ?_;rintro e w' ⟨E',v,x,st',rfl,rfl,h1,h2,h3,h4⟩;exact⟨E',v,x,st',rfl,h1,h2,h3,rfl,h4⟩
end
end Go.Am

namespace Go.Am
theorem RAs_append {E:Env}:∀{xs ys:List V} {b o:Nat},RAs E (xs++ys) b o↔RAs E xs b o∧RAs E ys b (o+xs.length)
  | [],ys,b,o=>by simp[RAs]
  | x :: xs, ys, b, o => by
    simp only[List.cons_append,RAs,RAs_append (xs:=xs),List.length_cons,and_assoc];rw[show o+1+xs.length=o+(xs.length+1) from by omega]
theorem REs_iff {E:Env} {k:Nat}:∀{l:List (List V)} {b o:Nat},REs E k l b o↔(∀x∈l,x.length=k)∧RAs E l.flatten b o
  | [],b,o=>by simp[REs,RAs]
  | x :: xs, b, o => by
    simp only[REs,List.flatten_cons,RAs_append,REs_iff (l:=xs),List.forall_mem_cons];constructor
    · rintro⟨h1,h2,h3,h4⟩;exact⟨⟨h1,h3⟩,h2,by rw[h1];exact h4⟩
    · rintro⟨⟨h1,h3⟩,h2,h4⟩;exact⟨h1,h2,h3,by rw[h1] at h4;exact h4⟩
theorem flat_length {k:Nat}:∀{l:List (List V)},(∀x∈l,x.length=k)→l.flatten.length=l.length*k
  | [],_=>by simp
  | x :: xs, h => by
    simp only[List.forall_mem_cons] at h;simp only[List.flatten_cons,List.length_append,h.1,flat_length h.2,List.length_cons,Nat.add_mul,Nat.one_mul];omega
theorem RAs_cells {E:Env}:∀{cs:List V} {b o:Nat},RAs E cs b o→∃vs:List Value,RL E cs vs∧(∀(j:Nat) v,vs[j]?=some v→E.w.cell? ⟨b,o+j,none⟩=some v) ∧
    (∀v∈vs,v.oneCell' = true)∧∀j,j<cs.length→(E.role b).com (o+j)
  | [],_,_,_=>⟨[],by simp[RL],fun j v h=>by simp at h,fun v hv=>by simp at hv,fun j hj=>by simp at hj⟩
  | x :: xs, b, o, h => by
    simp only[RAs] at h;obtain⟨⟨c,h1,h2,h3,h4⟩,h5⟩:=h;obtain⟨vs,k1,k2,k3,k4⟩:=RAs_cells h5;refine⟨c::vs,?_,fun j v hv=>?_,fun v hv=>?_,fun j hj=>?_⟩
    · simp only[RL];exact⟨h4,k1⟩
    · cases j with
      | zero=>simp at hv;subst hv;exact h1
      | succ j=>simp at hv;rw[show o+(j+1)=o+1+j from by omega];exact k2 j v hv
    · rcases List.mem_cons.1 hv with rfl | hv
      · exact h3
      · exact k3 v hv
    · cases j with
      | zero=>exact h2
      | succ j=>rw[show o+(j+1)=o+1+j from by omega];exact k4 j (by simpa using hj)
theorem RAs_mk {E:Env} {b:Nat}:∀{cs:List V} {vs:List Value} {o:Nat},RL E cs vs→(∀v∈vs,v.oneCell' = true)→(∀(j:Nat) v,vs[j]?=some v→E.w.cell? ⟨b,o+j,none⟩=some v) →
    (∀j,j<cs.length→(E.role b).com (o+j))→RAs E cs b o
  | [],_,_,_,_,_,_=>by simp[RAs]
  | _::_,[],_,h,_,_,_=>by simp[RL] at h
  | x :: xs, v :: vs, o, h, h1, h2, h3 => by
    simp only[RL] at h;simp only[RAs];refine⟨⟨v,by simpa using h2 0 v (by simp),by simpa using h3 0 (by simp),h1 v (by simp),h.1⟩,RAs_mk h.2 (fun u hu=>h1 u (by simp[hu])) (fun j u hu=>?_) (fun j hj=>?_)⟩
    · rw[show o+1+j=o+(j+1) from by omega];exact h2 (j+1) u (by simpa using hu)
    · rw[show o+1+j=o+(j+1) from by omega];exact h3 (j+1) (by simpa using hj)
structure Src (P:Program) (w:World) (size m:Nat) (ty:TypeId) (x:Value) (news:List Value):Prop where
  ty:∃d,P.underlying ty=some d∧∀k,d≠.int k
  len:∀w',(Builtin.lenOf x).run P w' = .ok m w'
  cells:(Builtin.firstCells size m x).run P w = .ok news.toArray w
  cells' : (Builtin.firstCells size m x).run P w.drew = .ok news.toArray w.drew
  size:news.length=m*size
section
variable {P:Program} {w:World} {t u ty e:TypeId} {i:TypeInfo} {z:Value}
theorem run_app_idle (ht:P.underlying t=some (.slice e)) (hi:P.info? e=some i) {base:Option Addr} {n cap:Nat} (hn:n≤cap) {x:Value} (hx:Src P w i.size 0 u x []) :
    (Builtin.append_ #[t,u] ty #[.slice base n cap,x]).run P w = .ok (.slice base n cap) w:=by
  obtain⟨d,hd,hk⟩:=hx.ty;cases base<;>simp[Builtin.append_,run_underlying ht,run_underlying hd,sizeOf,typeInfo,hi,hx.len,hn,hx.cells,storeCells]
theorem run_app_room (ht:P.underlying t=some (.slice e)) (hi:P.info? e=some i) {g n cap m:Nat} {cur:Array Value} {e' : TypeId} (hg:w.heap[g]?=some (.cells cur e' (0,0)))
    {x:Value} {news:List Value} (hx:Src P w i.size m u x news) (h1:∀v∈news,v.oneCell' = true) (hroom:n+m≤cap) (hfit:n*i.size+news.length≤cur.size) :
    (Builtin.append_ #[t,u] ty #[.slice (some ⟨g,0,none⟩) n cap,x]).run P w =
      .ok (.slice (some ⟨g,0,none⟩) (n+m) cap) (w.setRow g (cur.toList.take (n*i.size)++news++cur.toList.drop (n*i.size+news.length)).toArray):=by
  obtain⟨d,hd,hk⟩:=hx.ty;have hst:=run_storeCells_at (P:=P) g (n*i.size) e' news 0 cur w hg (by simpa using hfit) h1;simp only[Nat.add_zero] at hst;simp[Builtin.append_,run_underlying ht,run_underlying hd,sizeOf,typeInfo,hi,hx.len,hroom,hx.cells,addr_add,hst]
theorem run_app_grow (ht:P.underlying t=some (.slice e)) (hi:P.info? e=some i) (hzv:i.zero=some z) {base:Option Addr} {n cap m:Nat} {olds:List Value}
    (ho:(Builtin.firstCells i.size n (.slice base n cap)).run P w.drew = .ok olds.toArray w.drew)
    {x:Value} {news:List Value} (hx:Src P w i.size m u x news) (hg:cap<n+m) (hb:(n+m)*i.bytes≤140737488355328) (hs:n+m≤9223372036854775807) :
    (Builtin.append_ #[t,u] ty #[.slice base n cap,x]).run P w =
      .ok (.slice (some ⟨w.heap.size,0,none⟩) (n+m) (grownCap w (n+m) cap e))
        (w.drew.alloc (.cells (olds++(news++(Builtin.zeroCells z.cells (grownCap w (n+m) cap e - (n+m))).toList)).toArray e)):=by
  obtain⟨d,hd,hk⟩:=hx.ty;have hn:¬(n+m≤cap):=by omega
  have h63' : ¬(9223372036854775807<((n:Int)+(m:Int))):=by omega
  have hfit:=growslice_fits (need:=n+m) (old:=cap) (bytes:=i.bytes) hg hb;have h48' : ¬(281474976710656<Builtin.nextslicecap (n+m) cap*i.bytes):=by omega
  have hx' : (Builtin.firstCells i.size m x).run P w.drew = .ok news.toArray w.drew:=hx.cells';simp[Builtin.append_,run_underlying ht,run_underlying hd,sizeOf,typeInfo,zeroValue,hi,hzv,hx.len,hn,h63',h48',Question.forced,ho,hx',newRow,grownCap];congr 2;apply Array.ext';simp
end
theorem src_slice {P:Program} {E:Env} {u e' : TypeId} (hu:P.underlying u=some (.slice e')) {t' : Tk} {k:Nat} {m:List (List V)} {x:Value} (h:R E (.sl t' k m) x) :
    ∃news,Src P E.w k m.length u x news∧RL E.nl m.flatten news∧(∀v∈news,v.oneCell' = true)∧∀y∈m,y.length=k:=by
  simp only[R] at h;obtain⟨a,cap,rfl,_,h3,_⟩:=h;have hty:∃d,P.underlying u=some d∧∀k,d≠.int k:=⟨_,hu,fun _ h=>by simp at h⟩
  rcases h3 with rfl | ⟨b,o,rfl,hr⟩
  · refine⟨[],⟨hty,fun w' => by simp[Builtin.lenOf],?_,?_,by simp⟩,by simp[RL],fun v hv=>by simp at hv,fun y hy=>by simp at hy⟩ <;>
      cases a<;>simp[Builtin.firstCells,loadCells,loadCellsFrom]
  · obtain⟨h1,h2⟩:=REs_iff.1 hr;obtain⟨vs,k1,k2,k3,_⟩:=RAs_cells h2;have hl:=RL_length k1;rw[flat_length h1] at hl;have hc:∀(j:Nat) v,vs[j]?=some v→E.w.cell? ((⟨b,o,none⟩:Addr).add j)=some v:=fun j v hv=>by rw[addr_add];exact k2 j v hv
    refine⟨vs,⟨hty,fun w' => by simp[Builtin.lenOf],?_,?_,hl.symm⟩,k1,k3,h1⟩
    · have:=run_loadCells_list (P:=P) E.w ⟨b,o,none⟩ vs hc
      simp only[Builtin.firstCells];rw[hl];exact this
    · have:=run_loadCells_list (P:=P) E.w.drew ⟨b,o,none⟩ vs hc
      simp only[Builtin.firstCells];rw[hl];exact this
theorem olds_slice {P:Program} {E:Env} {k:Nat} {l:List (List V)} {a:Option Addr} {cap:Nat} (h3:l=[]∨∃b o,a=some ⟨b,o,none⟩∧REs E.nl k l b o) :
    ∃olds,(Builtin.firstCells k l.length (.slice a l.length cap)).run P E.w.drew = .ok olds.toArray E.w.drew∧RL E.nl l.flatten olds∧(∀v∈olds,v.oneCell' = true)∧(∀y∈l,y.length=k)∧olds.length=l.length*k:=by
  rcases h3 with rfl | ⟨b,o,rfl,hr⟩
  · refine⟨[],?_,by simp[RL],fun v hv=>by simp at hv,fun y hy=>by simp at hy,by simp⟩;cases a<;>simp[Builtin.firstCells,loadCells,loadCellsFrom]
  · obtain⟨h1,h2⟩:=REs_iff.1 hr;obtain⟨vs,k1,k2,k3,_⟩:=RAs_cells h2;have hl:=RL_length k1;rw[flat_length h1] at hl;have hc:∀(j:Nat) v,vs[j]?=some v→E.w.cell? ((⟨b,o,none⟩:Addr).add j)=some v:=fun j v hv=>by rw[addr_add];exact k2 j v hv
    refine⟨vs,?_,k1,k3,h1,hl.symm⟩
    have:=run_loadCells_list (P:=P) E.w.drew ⟨b,o,none⟩ vs hc
    simp only[Builtin.firstCells];rw[hl];exact this
section
variable {P:Program} {E:Env} {st:St} {a:Act} {o:Oper} {K:V→St→Prop} {Q:Exit→Act→World→Prop}
theorem REs_new {E' : Env} {k nb:Nat} {l:List (List V)} {vs rest:List Value} {e:TypeId} {fr:Nat × Nat} (hl:∀y∈l,y.length=k) (hr:RL E'.nl l.flatten vs) (h1:∀v∈vs,v.oneCell' = true)
    (hb:E'.w.heap[nb]?=some (.cells (vs++rest).toArray e fr)) (hc:∀j,j<l.length*k→(E'.role nb).com j):REs E'.nl k l nb 0:=by
  refine REs_iff.2 ⟨hl,RAs_mk hr h1 (fun j v hv=>?_) (fun j hj=>by rw[flat_length hl] at hj;simpa using hc j hj)⟩;have hlt:=(List.getElem?_eq_some_iff.1 hv).1;simp[World.cell?,hb,List.getElem?_append_left hlt,hv]
theorem wp_app (hs:SRel E st a) {t u ty e:TypeId} {i:TypeInfo} {z:Value} (ht:P.underlying t=some (.slice e)) (hi:P.info? e=some i) (hz:i.zero=some z) (hzs:z.cells.size=i.size)
    (hby:i.bytes≤4096) {vs vx:Value} {tk:Tk} {l m:List (List V)}
    (hrun:(execOp a.eval o).run P E.w=((Builtin.append_ #[t,u] ty #[vs,vx]).run P E.w).andThen fun v w' => .ok (.value v) w')
    (hsR:R E (.sl tk i.size l) vs) {news:List Value} (hsrc:Src P E.w i.size m.length u vx news) (hnews:RL E.nl m.flatten news) (hone:∀v∈news,v.oneCell' = true) (hm:∀y∈m,y.length=i.size)
    (hbig:l.length+m.length≤big)
    (hk:match (generalizing:=false) tk with
      | .full=>(∀τ,st.out.tip τ=none→K (.sl (.tk τ) i.size (l++m)) ⟨st.t,st.loc,st.out.setTip τ (l.length+m.length)⟩)∨K (.sl .no i.size (l++m)) st
      | .tk τ=>st.out.tip τ=some l.length∧K (.sl (.tk τ) i.size (l++m)) ⟨st.t,st.loc,st.out.setTip τ (l.length+m.length)⟩
      | .no=>False):o.wp P a E.w (Post E a o.dst K) Q:=by
  simp only[R] at hsR;obtain⟨base,cap,rfl,hcap,hel,htk⟩:=hsR;obtain⟨olds,hold,hRo,h1o,hlo,hlen⟩:=olds_slice (P:=P) (cap:=cap) hel;have hbytes:(l.length+m.length)*i.bytes≤140737488355328:=by
    have:=Nat.mul_le_mul hbig hby
    simp only[big] at this;omega
  have hsmall:l.length+m.length≤9223372036854775807:=by simp only[big] at hbig;omega
  have hall:∀y∈l++m,y.length=i.size:=fun y hy=>by
    rcases List.mem_append.1 hy with h | h
    · exact hlo y h
    · exact hm y h
  have hRall:RL E.nl (l++m).flatten (olds++news):=by rw[List.flatten_append];exact RL_append hRo hnews
  have h1all:∀v∈olds++news,v.oneCell' = true:=fun v hv=>by
    rcases List.mem_append.1 hv with h | h
    · exact h1o v h
    · exact hone v h
  have hlnews:=hsrc.size
  -- the ways on which the row is laid anew
  have grow:cap<l.length+m.length→(execOp a.eval o).run P E.w = .ok (.value (.slice (some ⟨E.w.heap.size,0,none⟩) (l.length+m.length) (grownCap E.w (l.length+m.length) cap e)))
      (E.w.drew.alloc (.cells (olds++(news++(Builtin.zeroCells z.cells (grownCap E.w (l.length+m.length) cap e - (l.length+m.length))).toList)).toArray e)):=fun hlt=>by
    rw[hrun,run_app_grow (P:=P) ht hi hz hold hsrc hlt hbytes hsmall];rfl
  have idle:m=[]→(execOp a.eval o).run P E.w = .ok (.value (.slice base l.length cap)) E.w:=fun h0=>by
    subst h0
    have:news=[]:=List.eq_nil_of_length_eq_zero (by simpa using hlnews)
    subst this;rw[hrun,run_app_idle (P:=P) ht hi hcap hsrc];rfl
  have hge:=grownCap_ge E.w (l.length+m.length) cap e;have size:cap<l.length+m.length→(olds++(news++(Builtin.zeroCells z.cells (grownCap E.w (l.length+m.length) cap e - (l.length+m.length))).toList)).toArray.size=grownCap E.w (l.length+m.length) cap e*i.size:=fun _=>by
    simp only[List.size_toArray,List.length_append,Array.length_toList,size_zeroCells,hzs,hlen,hlnews];rw[←Nat.add_assoc,←Nat.add_mul,←Nat.add_mul];congr 1;omega
  generalize grownCap E.w (l.length+m.length) cap e=nc at grow hge size;generalize hrest:(Builtin.zeroCells z.cells (nc - (l.length+m.length))).toList=rest at grow size;have hassoc:olds++(news++rest)=(olds++news)++rest:=by simp
  rw[hassoc] at grow size
  -- the row laid anew,as the last of its line
  have growT:∀τ,(E.tip τ=none∨E.tip τ=some l.length)→cap<l.length+m.length→0<m.length→K (.sl (.tk τ) i.size (l++m)) ⟨st.t,st.loc,st.out.setTip τ (l.length+m.length)⟩ →
      o.wp P a E.w (Post E a o.dst K) Q:=fun τ hτ hlt hpos hK=>by
    let E' : Env:={w:=E.w.drew.alloc (.cells ((olds++news)++rest).toArray e),
                      role:=fun b=>if b=E.w.heap.size then .lin τ ((l.length+m.length)*i.size) else match E.role b with | .lin t c=>if t=τ then .const else .lin t c | r=>r,
                      loc:=E.loc,tip:=fun t=>if t=τ then some (l.length+m.length) else E.tip t}
    have hx:Ext E.w E'.w:=((Ext.refl _).drew).alloc _ _;have hnew:∀b,b<E.w.heap.size→E'.role b=match E.role b with | .lin t c=>if t=τ then .const else .lin t c | r=>r:=fun b hb=>by
      simp only[E'];rw[if_neg (by omega)]
    have hsizeE:E'.w.heap.size=E.w.heap.size+1:=by simp[E']
    have hlin:∀b,b<E.w.heap.size→∀t c,E'.role b = .lin t c→E.role b = .lin t c:=fun b hb t c h=>by
      rw[hnew b hb] at h;cases hq:E.role b<;>rw[hq] at h<;>simp at h;split at h<;>simp at h;obtain⟨rfl,rfl⟩:=h;rfl
    have hfr:Fr E E' := by
      refine⟨rfl,rfl,rfl,hx.size,hx.frz,?_,?_,?_,?_,?_,?_,fun b c e hb=>⟨c,(hx.block b (lt_of_heap hb)).trans hb,rfl⟩⟩
      · intro b o' c hc hv;have hb:=lt_of_cell hv;refine⟨?_,by rw[cell_same (hx.block b hb)];exact hv⟩;rw[hnew b hb];cases hq:E.role b<;>rw[hq] at hc<;>simp only[]
        all_goals first | exact hc | (split<;>first | trivial | exact hc)
      · intro t n hn
        by_cases htt:t=τ
        · subst htt;have hn' : n=l.length:=by rcases hτ with h | h<;>rw[h] at hn<;>simp at hn;exact hn.symm
          exact⟨l.length+m.length,by simp[E'],by omega,fun h=>by omega⟩
        · refine⟨n,by simp only[E'];rw[if_neg htt];exact hn,Nat.le_refl _,fun _ b c hb=>?_⟩;have hlt' : b<E.w.heap.size:=by
            rcases Nat.lt_or_ge b E.w.heap.size with h | h
            · exact h
            · rw[hs.ok.fresh b h] at hb;simp at hb
          refine⟨by rw[hnew b hlt',hb];simp[htt],fun cs e'' hcs=>⟨cs,by rw[hx.block b hlt'];exact hcs,rfl⟩⟩
      · intro b hb hr;refine⟨hx.block b hb,?_⟩;rw[hnew b hb]
        rcases hr with hr | hr<;>rw[hr]
      · intro b hb h;rw[hnew b hb] at h;cases hq:E.role b<;>rw[hq] at h<;>first | exact .inl rfl | (simp at h;done) | (simp only[] at h;split at h<;>simp at h)
      · intro b t c hb h;exact⟨c,hlin b hb t c h⟩
      · intro b i' hb h;rw[hnew b hb] at h;cases hq:E.role b<;>rw[hq] at h<;>try (simp at h;done)
        · exact⟨_,rfl⟩
        · simp only[] at h;split at h<;>simp at h
    have hle:E.le E' := hfr.le fun _ _ h=>h
    unfold Oper.wp;rw[grow hlt];refine⟨E',_,_,⟨st.t,st.loc,st.out.setTip τ (l.length+m.length)⟩,rfl,hfr,⟨⟨?_,?_,?_,?_,fun b cs hc=>RAs.mono _ hfr.nl (hs.ok.con b cs hc)⟩,?_,hs.defers,RL.mono _ hle hs.slot⟩,?_,rfl,hK⟩
    · intro b cs hcs;obtain⟨k1,k2⟩:=hs.ok.box b cs hcs;have hlt' : b<E.w.heap.size:=by obtain⟨c,e,h3,_⟩:=k2;exact lt_of_heap (w:=E.w) h3
      exact⟨by rw[hnew b hlt',k1],k2.mono hfr.nl (hx.block b hlt')⟩
    · intro t n htn;simp only[Store.setTip] at htn;simp only[E'];split at htn
      · rename_i h;rw[if_pos h];exact htn
      · rename_i h;rw[if_neg h];exact hs.ok.tip t n htn
    · intro b hb;rw[hsizeE] at hb;simp only[E'];rw[if_neg (by omega),hs.ok.fresh b (by omega)]
    · obtain⟨N,hN⟩:=hs.ok.nt;exact⟨max N (τ+1),fun t ht' => by simp only[E'];rw[if_neg (by omega)];exact hN t (by omega)⟩
    · exact okL_keep hs.okL hle (fun b i' hr hlt' => ⟨by rw[hnew b hlt',hr],hx.block b hlt'⟩) hs.okL.none
    · have hnb:E'.w.heap[E.w.heap.size]?=some (.cells ((olds++news)++rest).toArray e (0,0)):=heap_alloc_new E.w.drew _;have hrl:E'.role E.w.heap.size = .lin τ ((l.length+m.length)*i.size):=by simp[E']
      simp only[R,List.length_append];refine⟨some ⟨E.w.heap.size,0,none⟩,nc,rfl,hge,.inr ⟨_,_,rfl,REs_new hall (RL.mono _ hfr.nl hRall) h1all hnb (fun j hj=>by rw[hrl];simpa [Role.com] using hj)⟩,l.length+m.length,by simp[E'],Nat.le_refl _,fun _=>.inr ⟨_,_,_,rfl,hrl,hnb,size hlt⟩⟩
  -- the state where only a tip is new
  have tipT:∀τ,(E.tip τ=none∨E.tip τ=some l.length)→m=[]→cap=l.length∨E.tip τ=some l.length→K (.sl (.tk τ) i.size (l++m)) ⟨st.t,st.loc,st.out.setTip τ (l.length+m.length)⟩ →
      TkOk {E with tip:=fun t=>if t=τ then some l.length else E.tip t} i.size l.length base cap (.tk τ)→o.wp P a E.w (Post E a o.dst K) Q:=fun τ hτ hm0 _ hK hok=>by
    let E' : Env:={E with tip:=fun t=>if t=τ then some l.length else E.tip t}
    have hfr:Fr E E' := fr_ext (E' := E') hs.ok.fresh (Ext.refl _) (fun _ _=>rfl) (fun t n hn=>by
      simp only[E'];split
      · rename_i h;subst h;rcases hτ with h | h<;>rw[h] at hn<;>simp at hn;rw[hn]
      · exact hn)
    have hle:E.le E' := hfr.le fun _ _ h=>h
    unfold Oper.wp;rw[idle hm0];refine⟨E',_,_,⟨st.t,st.loc,st.out.setTip τ (l.length+m.length)⟩,rfl,hfr,⟨⟨?_,?_,hs.ok.fresh,?_,fun b cs hc=>RAs.mono _ hfr.nl (hs.ok.con b cs hc)⟩,?_,hs.defers,RL.mono _ hle hs.slot⟩,?_,rfl,hK⟩
    · intro b cs hcs;obtain⟨k1,k2⟩:=hs.ok.box b cs hcs;exact⟨k1,k2.mono hfr.nl rfl⟩
    · intro t n htn;subst hm0;simp only[Store.setTip,List.length_nil,Nat.add_zero] at htn;simp only[E'];split at htn
      · rename_i h;rw[if_pos h];exact htn
      · rename_i h;rw[if_neg h];exact hs.ok.tip t n htn
    · obtain⟨N,hN⟩:=hs.ok.nt;exact⟨max N (τ+1),fun t ht' => by simp only[E'];rw[if_neg (by omega)];exact hN t (by omega)⟩
    · exact okL_keep hs.okL hle (fun b i' hr hlt' => ⟨hr,rfl⟩) hs.okL.none
    · subst hm0;simp only[R,List.append_nil];refine⟨base,cap,rfl,hcap,?_,hok⟩
      rcases hel with h | ⟨b,o',h,hr⟩
      · exact .inl h
      · exact .inr ⟨b,o',h,REs.mono _ hfr.nl hr⟩
  cases tk with
  | no=>exact hk.elim
  | full =>
    simp only[TkOk] at htk
    rcases hk with hk | hk
    · obtain⟨N,hN⟩:=hs.ok.nt;have hfresh:st.out.tip N=none:=by
        cases h:st.out.tip N with
        | none=>rfl
        | some n=>have:=hs.ok.tip N n h;rw[hN N (Nat.le_refl _)] at this;simp at this
      have hK:=hk N hfresh
      rcases Nat.eq_zero_or_pos m.length with h0 | h0
      · have hm0:=List.eq_nil_of_length_eq_zero h0;exact tipT N (.inl (hN N (Nat.le_refl _))) hm0 (.inl htk) hK ⟨l.length,by simp,Nat.le_refl _,fun _=>.inl htk⟩
      · exact growT N (.inl (hN N (Nat.le_refl _))) (by omega) h0 hK
    · rcases Nat.eq_zero_or_pos m.length with h0 | h0
      · have hm0:=List.eq_nil_of_length_eq_zero h0;refine wp_val hs (idle hm0) ?_ hk;subst hm0;simp only[R,List.append_nil];exact⟨base,cap,rfl,hcap,hel,trivial⟩
      · refine wp_ext hs (((Ext.refl _).drew).alloc _ _) (grow (by omega)) ?_ hk;have hnb:(E.w.drew.alloc (.cells ((olds++news)++rest).toArray e)).heap[E.w.heap.size]?=some (.cells ((olds++news)++rest).toArray e (0,0)):=heap_alloc_new E.w.drew _;obtain⟨hfr,_,_⟩:=srel_ext hs (((Ext.refl E.w).drew).alloc ((olds++news)++rest).toArray e);simp only[R,List.length_append];exact⟨some ⟨E.w.heap.size,0,none⟩,nc,rfl,hge,.inr ⟨_,_,rfl,REs_new hall (RL.mono _ hfr.nl hRall) h1all hnb (fun j _=>by rw[show ({E with w:=E.w.drew.alloc (.cells ((olds++news)++rest).toArray e)}:Env).role E.w.heap.size = .const from hs.ok.fresh _ (Nat.le_refl _)];trivial)⟩,trivial⟩
  | tk τ =>
    obtain⟨hτ,hK⟩:=hk;have hE:=hs.ok.tip τ _ hτ;obtain⟨n',h1,_,h3⟩:=htk;rw[hE] at h1;simp only[Option.some.injEq] at h1;subst h1
    rcases Nat.eq_zero_or_pos m.length with h0 | h0
    · have hm0:=List.eq_nil_of_length_eq_zero h0;exact tipT τ (.inr hE) hm0 (.inr hE) hK ⟨l.length,by simp,Nat.le_refl _,h3⟩
    · rcases Nat.lt_or_ge cap (l.length+m.length) with hlt | hroom
      · exact growT τ (.inr hE) hlt h0 hK
      · rcases h3 rfl with hc | ⟨b,cs,e',rfl,hrole,hbk,hsz⟩
        · omega
        · have hfit:l.length*i.size+news.length≤cs.size:=by
            rw[hlnews,hsz,←Nat.add_mul];exact Nat.mul_le_mul_right _ hroom
          have hrr:=run_app_room (P:=P) (ty:=ty) ht hi hbk hsrc hone hroom hfit;have hgetn:∀j:Nat,(cs.toList.take (l.length*i.size)++news++cs.toList.drop (l.length*i.size+news.length)).toArray[j]?=if j<l.length*i.size then cs[j]? else if j<l.length*i.size+news.length then news[j - l.length*i.size]? else cs[j]?:=fun j=>by
            have:=splice_get (c:=cs.toList) (vs:=news) (off:=l.length*i.size) (by simpa using hfit) j
            simpa using this
          have hszn:(cs.toList.take (l.length*i.size)++news++cs.toList.drop (l.length*i.size+news.length)).toArray.size=cs.size:=by
            simp;omega
          generalize (cs.toList.take (l.length*i.size)++news++cs.toList.drop (l.length*i.size+news.length)).toArray=new at hrr hgetn hszn;have hcaps:l.length*i.size≤(l.length+m.length)*i.size:=Nat.mul_le_mul_right _ (by omega)
          let E' : Env:={w:=E.w.setRow b new,role:=fun b' => if b' = b then .lin τ ((l.length+m.length)*i.size) else E.role b',loc:=E.loc,tip:=fun t=>if t=τ then some (l.length+m.length) else E.tip t}
          have hother:∀b',b' ≠ b→E'.w.heap[b']?=E.w.heap[b']?:=fun b' hne=>setRow_other E.w b b' new hne
          have hrother:∀b',b' ≠ b→E'.role b' = E.role b' := fun b' hne=>by simp only[E'];rw[if_neg hne]
          have hb' : E'.w.heap[b]?=some (.cells new e' (0,0)):=setRow_heap E.w b cs new e' _ hbk;have hrb:E'.role b = .lin τ ((l.length+m.length)*i.size):=by simp[E']
          have hne:∀b' r,E.role b' = r→(∀c,r≠.lin τ c)→b' ≠ b:=fun b' r h h' => by rintro rfl;rw[hrole] at h;exact h' _ h.symm
          have hfr:Fr E E' := by
            refine⟨rfl,rfl,rfl,by simp[E'],frozen_setRow hbk,?_,?_,?_,?_,?_,?_,fun b' c' e'' hc=>by
                by_cases hbb:b' = b
                · subst hbb;rw[hbk] at hc;simp only[Option.some.injEq,Obj.cells.injEq] at hc;obtain⟨rfl,rfl,_⟩:=hc;exact⟨new,hb',hszn⟩
                · exact⟨c',(hother b' hbb).trans hc,rfl⟩⟩
            · intro b' o' c hc hv
              by_cases hbb:b' = b
              · subst hbb;rw[hrole] at hc;simp only[Role.com] at hc;refine⟨by rw[hrb];simp only[Role.com];omega,?_⟩;simp only[World.cell?,hbk] at hv;simp only[World.cell?,hb',hgetn,if_pos hc];exact hv
              · exact⟨by rw[hrother b' hbb];exact hc,by rw[cell_same (hother b' hbb)];exact hv⟩
            · intro t n hn
              by_cases htt:t=τ
              · subst htt;rw[hE] at hn;simp only[Option.some.injEq] at hn;exact⟨l.length+m.length,by simp[E'],by omega,fun h=>by omega⟩
              · refine⟨n,by simp only[E'];rw[if_neg htt];exact hn,Nat.le_refl _,fun _ b' c hbc=>?_⟩;have hbb:b' ≠ b:=hne b' _ hbc (fun c' h=>by simp at h;exact htt h.1);exact⟨by rw[hrother b' hbb];exact hbc,fun cs' e'' hcs=>⟨cs',by rw[hother b' hbb];exact hcs,rfl⟩⟩
            · intro b' _ hr;have hbb:b' ≠ b:=by rcases hr with hr | hr<;>exact hne b' _ hr (fun c h=>by simp at h)
              exact⟨hother b' hbb,hrother b' hbb⟩
            · intro b' _ h;have hbb:b' ≠ b:=by rintro rfl;rw[hrb] at h;simp at h
              rw[hrother b' hbb] at h;exact .inl h
            · intro b' t c _ h
              by_cases hbb:b' = b
              · subst hbb;rw[hrb] at h;simp at h;obtain⟨rfl,_⟩:=h;exact⟨_,hrole⟩
              · rw[hrother b' hbb] at h;exact⟨c,h⟩
            · intro b' i' _ h;have hbb:b' ≠ b:=by rintro rfl;rw[hrb] at h;simp at h
              rw[hrother b' hbb] at h;exact⟨_,h⟩
          have hle:E.le E' := hfr.le fun _ _ h=>h
          unfold Oper.wp;rw[hrun,hrr];refine⟨E',_,_,⟨st.t,st.loc,st.out.setTip τ (l.length+m.length)⟩,rfl,hfr,⟨⟨?_,?_,?_,?_,fun b cs hc=>RAs.mono _ hfr.nl (hs.ok.con b cs hc)⟩,?_,hs.defers,RL.mono _ hle hs.slot⟩,?_,rfl,hK⟩
          · intro b' cs' hcs;obtain⟨k1,k2⟩:=hs.ok.box b' cs' hcs;have hbb:b' ≠ b:=hne b' _ k1 (fun c h=>by simp at h);exact⟨by rw[hrother b' hbb];exact k1,k2.mono hfr.nl (hother b' hbb)⟩
          · intro t n htn;simp only[Store.setTip] at htn;simp only[E'];split at htn
            · rename_i h;rw[if_pos h];exact htn
            · rename_i h;rw[if_neg h];exact hs.ok.tip t n htn
          · intro b' hb'';have hbb:b' ≠ b:=by
              rintro rfl
              have:=lt_of_heap hbk
              simp[E'] at hb'';omega
            rw[hrother b' hbb];exact hs.ok.fresh b' (by simpa [E'] using hb'')
          · obtain⟨N,hN⟩:=hs.ok.nt;exact⟨max N (τ+1),fun t ht' => by simp only[E'];rw[if_neg (by omega)];exact hN t (by omega)⟩
          · refine okL_keep hs.okL hle (fun b' i' hr _=>?_) hs.okL.none;have hbb:b' ≠ b:=hne b' _ hr (fun c h=>by simp at h);exact⟨by rw[hrother b' hbb];exact hr,hother b' hbb⟩
          · have hpart:RL E'.nl (l++m).flatten (olds++news):=RL.mono _ hfr.nl hRall
            -- the cells of the row,as they now are
            have hREs:REs E'.nl i.size (l++m) b 0:=by
              have hlold:REs E.nl i.size l b 0:=by
                rcases hel with h | ⟨b2,o2,h,hr⟩
                · subst h;simp[REs]
                · simp only[Option.some.injEq,Addr.mk.injEq] at h;obtain⟨rfl,rfl,_⟩:=h;exact hr
              refine REs_iff.2 ⟨hall,?_⟩;rw[List.flatten_append];refine RAs_append.2 ⟨(REs_iff.1 (REs.mono _ hfr.nl hlold)).2,RAs_mk (RL.mono _ hfr.nl hnews) hone (fun j v hv=>?_) (fun j hj=>?_)⟩
              · have hj:=(List.getElem?_eq_some_iff.1 hv).1;rw[flat_length hlo];simp only[Env.nl_w,World.cell?,hb',hgetn];simp only[Option.isSome_none,Bool.false_eq_true,if_false];rw[if_neg (show ¬(0+l.length*i.size+j<l.length*i.size) by omega),if_pos (show 0+l.length*i.size+j<l.length*i.size+news.length by omega)];rw[show 0+l.length*i.size+j - l.length*i.size=j from by omega];exact hv
              · rw[flat_length hlo];rw[flat_length hm] at hj;simp only[Env.nl_role,hrb,Role.com];rw[Nat.add_mul];omega
            simp only[R,List.length_append];exact⟨some ⟨b,0,none⟩,cap,rfl,hroom,.inr ⟨b,0,rfl,hREs⟩,l.length+m.length,by simp[E'],Nat.le_refl _,fun _=>.inr ⟨b,new,e',rfl,hrb,hb',hszn.trans hsz⟩⟩
end
end Go.Am

namespace Go.Am
section
variable {P:Program} {E:Env} {st:St} {a:Act} {o:Oper} {K:V→St→Prop} {Q:Exit→Act→World→Prop}
theorem wp_mv (hs:SRel E st a) {x:Operand} {v:V} (ho:o.op = .move x∨o.op = .assign x) (hx:R E v (a.eval x)) (hk:K v st):o.wp P a E.w (Post E a o.dst K) Q :=
  wp_val hs (by rcases ho with ho | ho<;>simp[execOp,ho]) hx hk
theorem wp_pick (hs:SRel E st a) {c x y:Operand} {vc vx vy:V} (ho:o.op = .pick c x y) (hc:R E vc (a.eval c)) (hx:R E vx (a.eval x)) (hy:R E vy (a.eval y))
    (hk:match (generalizing:=false) vc with | .bool true=>K vx st | .bool false=>K vy st | _=>False):o.wp P a E.w (Post E a o.dst K) Q:=by
  cases vc<;>try exact False.elim hk
  rename_i b;simp only[R] at hc;cases b
  · exact wp_val hs (by simp[execOp,ho,hc,asBool]) hy hk
  · exact wp_val hs (by simp[execOp,ho,hc,asBool]) hx hk
theorem wp_alloc (hs:SRel E st a) {t:TypeId} {zs:List V} (ho:o.op = .alloc t) (hz:zeroC P t=some zs) (hk:K (.ptr (.loc st.loc.length) 0) ⟨st.t,st.loc++[zs],st.out⟩) :
    o.wp P a E.w (Post E a o.dst K) Q:=by
  obtain⟨i,z,h1,h2,h3,_⟩:=zeroC_spec hz;refine wp_new hs (c:=z.cells) (e:=t) ?_ (cvL_RL h3) hk;simp[execOp,ho,Instr.alloc,zeroValue,typeInfo,h1,h2,newVar,newRow]
theorem wp_box (hs:SRel E st a) {t:TypeId} {x:Operand} {n:Nat} {v:V} (ho:o.op = .box t x) (hx:R E v (a.eval x)) (hw:v.wd=some n) (hk:K (.ptr (.loc st.loc.length) 0) ⟨st.t,st.loc++[v.cells],st.out⟩) :
    o.wp P a E.w (Post E a o.dst K) Q:=by
  refine wp_new hs (c:=(a.eval x).cells) (e:=t) ?_ (R_cells hx hw).1 hk;simp[execOp,ho,Instr.box,newVar,newRow]
theorem wp_nilck (hs:SRel E st a) {x:Operand} {v:V} (ho:o.op = .nilCheck x) (hx:R E v (a.eval x))
    (hk:match (generalizing:=false) v with | .ptr p o=>K (.ptr p o) st | .elt c o=>K (.elt c o) st | .fn (.func f) a b=>K (.fn (.func f) a b) st | _=>False):o.wp P a E.w (Post E a o.dst K) Q:=by
  cases v<;>try exact False.elim hk
  case ptr p off =>
    refine wp_val hs (v:=.ptr p off) (x:=a.eval x) ?_ hx hk;cases p<;>simp only[R] at hx
    · obtain⟨b,_,h⟩:=hx;simp[execOp,ho,h]
    · simp[execOp,ho,hx]
    · simp[execOp,ho,hx]
  case elt c off =>
    refine wp_val hs (v:=.elt c off) (x:=a.eval x) ?_ hx hk;simp only[R] at hx;obtain⟨b,o',h,_⟩:=hx;simp[execOp,ho,h]
  case fn f as bs =>
    cases f<;>try exact False.elim hk
    rename_i f;refine wp_val hs (v:=.fn (.func f) as bs) (x:=a.eval x) ?_ hx hk;simp only[R] at hx;obtain⟨fs,cs,h,_⟩:=hx;simp[execOp,ho,h]
theorem wp_binI (hs:SRel E st a) {op:BinOp} {t t' : TypeId} {x y:Operand} {vx vy:V} (ho:o.op = .binOp op t x y t') (hx:R E vx (a.eval x)) (hy:R E vy (a.eval y))
    (hk:opt (binIV op vx vy) (K2 K st)):o.wp P a E.w (Post E a o.dst K) Q:=by
  unfold opt K2 at hk;split at hk
  case h_2=>exact hk.elim
  rename_i v hv;unfold binIV at hv;split at hv
  case h_2=>simp at hv
  rename_i k n k' m;split at hv
  case isFalse=>simp at hv
  rename_i hkk;simp only[R] at hx hy
  by_cases hsh:isSh op=true
  · cases op<;>simp only[isSh,Bool.false_eq_true] at hsh
    · simp only[intV] at hv;split at hv
      case isTrue=>simp at hv
      rename_i hm;simp only[Option.some.injEq] at hv;subst hv;refine wp_val hs (x:=.int k (k.wrap (n*2^(Nat.min m.toNat k.bits)))) ?_ (by simp only[R]) hk;simp only[execOp,ho,hx,hy];simp[eqGuard,binOp,Op.shift,hm]
    · simp only[intV] at hv;split at hv
      case isTrue=>simp at hv
      rename_i hm;simp only[Option.some.injEq] at hv;subst hv;refine wp_val hs (x:=.int k (n.fdiv (2^(Nat.min m.toNat k.bits)))) ?_ (by simp only[R]) hk;simp only[execOp,ho,hx,hy];simp[eqGuard,binOp,Op.shift,hm]
  have hkk:=hkk.resolve_right hsh;obtain rfl:=ikEq_eq hkk;cases op<;>simp only[intV,Option.some.injEq] at hv<;>try (simp at hv;done)
  case shl=>simp[isSh] at hsh
  case shr=>simp[isSh] at hsh
  case quo =>
    split at hv
    case isTrue=>simp at hv
    rename_i hm;simp only[Option.some.injEq] at hv;subst hv;refine wp_val hs (by simp only[execOp,ho,hx,hy];simp only[eqGuard,binOp,Op.intDiv];simp[hm];rfl) (by simp only[R];try rfl) hk
  case rem =>
    split at hv
    case isTrue=>simp at hv
    rename_i hm;simp only[Option.some.injEq] at hv;subst hv;refine wp_val hs (by simp only[execOp,ho,hx,hy];simp only[eqGuard,binOp,Op.intDiv];simp[hm];rfl) (by simp only[R];try rfl) hk
  case andNot =>
    subst hv;refine wp_val hs (x:=.int k (k.wrap ((BitVec.ofInt k.bits n&&&~~~BitVec.ofInt k.bits m).toNat:Nat))) ?_ (by simp only[R]) hk;simp only[execOp,ho,hx,hy];simp only[eqGuard,binOp,Op.intBits];simp
  all_goals
    subst hv;refine wp_val hs (by simp only[execOp,ho,hx,hy];simp only[eqGuard,binOp,Op.intArith,Op.intCmp,Op.intBits];simp;first | rfl | simp) (by simp only[R];try rfl) hk
theorem list_beq (x y:List UInt8):(x == y)=decide (x=y):=by
  rw[Bool.eq_iff_iff];simp
theorem wp_binS (hs:SRel E st a) {op:BinOp} {t t' : TypeId} {x y:Operand} {vx vy:V} (ho:o.op = .binOp op t x y t') (hx:R E vx (a.eval x)) (hy:R E vy (a.eval y))
    (hk:opt (binSV op vx vy) (K2 K st)):o.wp P a E.w (Post E a o.dst K) Q:=by
  unfold opt K2 at hk;split at hk
  case h_2=>exact hk.elim
  rename_i v hv;unfold binSV at hv;split at hv
  case h_2=>simp at hv
  rename_i n m;simp only[R] at hx hy;cases op<;>simp only[strV,Option.some.injEq] at hv<;>try (simp at hv;done)
  all_goals
    subst hv;refine wp_val hs (by simp only[execOp,ho,hx,hy];simp only[eqGuard,binOp,Op.stringOp,ByteArray.toList_mk];simp[list_beq];rfl) (by simp[R]) hk
theorem wp_cat (hs:SRel E st a) {t t' : TypeId} {x y:Operand} {vx vy:V} (ho:o.op = .binOp .add t x y t') (hx:R E vx (a.eval x)) (hy:R E vy (a.eval y))
    (hk:∃m n,vx = .str m∧vy = .str n∧m.length+n.length≤big∧K (.str (m++n)) st):o.wp P a E.w (Post E a o.dst K) Q:=by
  obtain⟨m,n,rfl,rfl,hb,hk⟩:=hk;simp only[R] at hx hy;have hsz:¬(9223372036854775807<((m.length:Int)+(n.length:Int))):=by simp only[big] at hb;omega
  have e1:(⟨m.toArray⟩:ByteArray).size=m.length:=by simp[ByteArray.size]
  have e2:(⟨n.toArray⟩:ByteArray).size=n.length:=by simp[ByteArray.size]
  refine wp_val hs (v:=.str (m++n)) (x:=.string ⟨(m++n).toArray⟩) ?_ (by simp only[R]) hk;simp only[execOp,ho,hx,hy];simp only[eqGuard,binOp,Op.stringOp,e1,e2];have e3:(⟨m.toArray⟩:ByteArray)++(⟨n.toArray⟩:ByteArray)=⟨(m++n).toArray⟩:=by
    apply ByteArray.ext;simp[ByteArray.data_append]
  simp[IntKind.max,IntKind.signed,IntKind.bits,hsz,e3]
theorem wp_binB (hs:SRel E st a) {neg:Bool} {op:BinOp} (hop:op=if neg then .neq else .eql) {t t' : TypeId} (ht:P.underlying t=some .bool) {x y:Operand} {vx vy:V} (ho:o.op = .binOp op t x y t') (hx:R E vx (a.eval x)) (hy:R E vy (a.eval y))
    (hk:opt (eqBV neg vx vy) (K2 K st)):o.wp P a E.w (Post E a o.dst K) Q:=by
  unfold opt K2 at hk;split at hk
  case h_2=>exact hk.elim
  rename_i v hv;unfold eqBV at hv;split at hv
  case h_2=>simp at hv
  rename_i m n;simp only[R] at hx hy;simp only[Option.some.injEq] at hv;subst hv;subst hop;cases neg
  · refine wp_val hs (x:=.bool (decide (m=n))) ?_ (by simp[R]) hk;simp only[execOp,ho,hx,hy];simp[eqGuard,run_eql_bool E.w t m n ht];cases m<;>cases n<;>rfl
  · refine wp_val hs (x:=.bool (!decide (m=n))) ?_ (by simp[R]) hk;simp only[execOp,ho,hx,hy];simp[eqGuard,run_neq_bool E.w t m n ht];cases m<;>cases n<;>rfl
theorem wp_not (hs:SRel E st a) {t:TypeId} {x:Operand} {v:V} (ho:o.op = .unOp .not t x) (hx:R E v (a.eval x)) (hk:match (generalizing:=false) v with | .bool b=>K (.bool (!b)) st | _=>False) :
    o.wp P a E.w (Post E a o.dst K) Q:=by
  cases v<;>try exact False.elim hk
  simp only[R] at hx;exact wp_val hs (by simp[execOp,ho,hx,Op.unary];rfl) (by simp only[R]) hk
theorem wp_len (hs:SRel E st a) {t e:TypeId} {x:Operand} {v:V} (ho:o.op = .call {callee:=.builtin .len,args:=#[x],argTypes:=#[t]}) (ht:P.underlying t=some (.slice e)) (hx:R E v (a.eval x))
    (hk:match (generalizing:=false) v with | .sl _ _ l=>K (.int .i64 l.length) st | .raw (.slice _ n _)=>K (.int .i64 n) st | _=>False):o.wp P a E.w (Post E a o.dst K) Q:=by
  cases v<;>try exact False.elim hk
  case raw u =>
    cases u<;>try exact False.elim hk
    simp only[R] at hx;exact wp_val hs (by simp[execOp,ho,resolve,invoke,builtin,Builtin.len_,run_underlying ht,hx];rfl) (by simp[R,goInt]) hk
  simp only[R] at hx;obtain⟨b,c,h,_⟩:=hx;exact wp_val hs (by simp[execOp,ho,resolve,invoke,builtin,Builtin.len_,run_underlying ht,h];rfl) (by simp[R,goInt]) hk
theorem wp_lenT (hs:SRel E st a) {t:TypeId} {x:Operand} {v:V} (ho:o.op = .call {callee:=.builtin .len,args:=#[x],argTypes:=#[t]}) (ht:P.underlying t=some .string) (hx:R E v (a.eval x))
    (hk:match (generalizing:=false) v with | .str s=>K (.int .i64 s.length) st | _=>False):o.wp P a E.w (Post E a o.dst K) Q:=by
  cases v<;>try exact False.elim hk
  simp only[R] at hx;exact wp_val hs (by simp[execOp,ho,resolve,invoke,builtin,Builtin.len_,run_underlying ht,hx];rfl) (by simp[R,goInt,ByteArray.size]) hk
theorem wp_fld (hs:SRel E st a) {s:TypeId} {i n:Nat} {fs:Array Field} {f:Field} {x:Operand} {v:V} (ho:o.op = .fieldAddr s x i) (ht:P.underlying s=some (.struct fs)) (hf:fs[i]?=some f)
    (hn:sizeV P f.type=some n) (hn0:n≠0) (hx:R E v (a.eval x)) (hk:match (generalizing:=false) v with | .ptr p o=>K (.ptr p (o+f.offset)) st | .elt c o=>K (.elt c (o+f.offset)) st | _=>False) :
    o.wp P a E.w (Post E a o.dst K) Q:=by
  have run:∀b off:Nat,(Instr.fieldAt s (.pointer (some ⟨b,off,none⟩)) i).run P E.w = .ok (.pointer (some ⟨b,off+f.offset,none⟩)) E.w:=fun b off=>by
    simp[Instr.fieldAt,run_underlying ht,hf,Instr.sureAddr,fieldPlace,run_sizeV hn,hn0,addr_add]
  cases v<;>try exact False.elim hk
  case ptr p off =>
    cases p with
    | loc j =>
      simp only[R] at hx;obtain⟨b,hb,h⟩:=hx;exact wp_val hs (by simp[execOp,ho,h,run];rfl) (by simp only[R];exact⟨b,hb,rfl⟩) hk
    | out b =>
      simp only[R] at hx;exact wp_val hs (by simp[execOp,ho,hx,run];rfl) (by simp only[R]) hk
    | glo b =>
      simp only[R] at hx;exact wp_val hs (by simp[execOp,ho,hx,run];rfl) (by simp only[R]) hk
  case elt c off =>
    simp only[R] at hx;obtain⟨b,o',h,hr⟩:=hx;exact wp_val hs (by simp[execOp,ho,h,run];rfl) (by simp only[R];exact⟨b,o',by rw[Nat.add_assoc],hr⟩) hk
theorem wp_ext_tup (hs:SRel E st a) {x:Operand} {i:Nat} {v:V} (ho:o.op = .extract x i) (hx:R E v (a.eval x)) (hk:match (generalizing:=false) v with | .tup vs=>opt vs[i]? (K2 K st) | _=>False) :
    o.wp P a E.w (Post E a o.dst K) Q:=by
  cases v<;>try exact False.elim hk
  rename_i vs;simp only[opt,K2] at hk;cases hu:vs[i]? with
  | none=>rw[hu] at hk;exact False.elim hk
  | some u =>
    rw[hu] at hk;simp only[R] at hx;obtain⟨us,h,hr⟩:=hx;obtain⟨y,h1,h2⟩:=RL_get hr i u hu;have h1' : us[i]?=some y:=by simpa using h1
    exact wp_val hs (by simp[execOp,ho,h,Instr.extract,h1']) h2 hk
theorem wp_mkfn (hs:SRel E st a) {f:Fn} {first cap:Array Operand} {as bs:List V} (ho:o.op = .makeFunc f first cap) (ha:RL E as (first.toList.map a.eval)) (hb:RL E bs (cap.toList.map a.eval)) (hk:K (.fn f as bs) st) :
    o.wp P a E.w (Post E a o.dst K) Q:=by
  refine wp_val hs (x:=.func f (first.map a.eval) (cap.map a.eval)) (by simp[execOp,ho,Instr.makeFunc]) ?_ hk;simp only[R];exact⟨_,_,rfl,by simpa using ha,by simpa using hb⟩
theorem wp_cvI (hs:SRel E st a) {src dst:TypeId} {k k' : IntKind} {x:Operand} {v:V} (ho:o.op = .convert src dst x) (h1:P.underlying src=some (.int k')) (h2:P.underlying dst=some (.int k)) (hx:R E v (a.eval x))
    (hk:match (generalizing:=false) v with | .int _ n=>K (.int k (k.wrap n)) st | _=>False):o.wp P a E.w (Post E a o.dst K) Q:=by
  cases v<;>try exact False.elim hk
  simp only[R] at hx;exact wp_val hs (by simp[execOp,ho,hx,convert,run_underlying h1,run_underlying h2,Conv.intToInt];rfl) (by simp only[R]) hk
theorem wp_idxA (hs:SRel E st a) {t e:TypeId} {n:Nat} {x i:Operand} {vx vi:V} (ho:o.op = .indexAddr t x i) (ht:P.underlying t=some (.slice e)) (hn:sizeV P e=some n) (hx:R E vx (a.eval x)) (hi:R E vi (a.eval i))
    (hk:match (generalizing:=false) vx with
      | .sl _ k' l=>k' = n∧IdxOk l vi fun c=>K (.elt c 0) st
      | .raw (.slice (some ⟨b,o,none⟩) m _)=>∃ik j,vi = .int ik j∧0≤j∧j<m∧K (.ptr (.out b) (o+j.toNat*n)) st
      | _=>False):o.wp P a E.w (Post E a o.dst K) Q:=by
  cases vx<;>try exact False.elim hk
  case raw u =>
    split at hk
    · simp_all
    · rename_i b off m cap e;simp only[V.raw.injEq] at e;subst e;obtain⟨ik,j,rfl,g1,g2,hk⟩:=hk;simp only[R] at hx hi;refine wp_val hs (v:=.ptr (.out b) (off+j.toNat*n)) (x:=.pointer (some ⟨b,off+j.toNat*n,none⟩)) ?_ (by simp only[R]) hk;simp[execOp,ho,hx,hi,Instr.indexAt,asIntOf,run_underlying ht,g1,g2,run_sizeV hn,addr_add]
    · exact hk.elim
  rename_i tk k' l;obtain⟨rfl,ki,m,c,rfl,hm,hc,hk⟩:=hk;simp only[R] at hx hi;obtain⟨base,cap,h,_,h3,_⟩:=hx;have hlt:=(List.getElem?_eq_some_iff.1 hc).1
  rcases h3 with h3 | ⟨b,off,rfl,hr⟩
  · subst h3;simp at hc
  · have hcell:RAs E.nl c b (off+m.toNat*k'):=by
      obtain⟨h1,h2⟩:=REs_iff.1 hr;have hsplit:l=l.take m.toNat++c::l.drop (m.toNat+1):=by
        have:=List.take_append_drop m.toNat l
        rw[List.drop_eq_getElem_cons hlt] at this;rw[(List.getElem?_eq_some_iff.1 hc).2] at this;exact this.symm
      rw[hsplit,List.flatten_append,List.flatten_cons,RAs_append,RAs_append] at h2;have hl:(l.take m.toNat).flatten.length=m.toNat*k' := by
        rw[flat_length (fun x hx=>h1 x (List.mem_of_mem_take hx))];rw[List.length_take,Nat.min_eq_left (by omega)]
      rw[hl] at h2;simpa using h2.2.1
    have hlt' : m<(l.length:Int):=by omega
    refine wp_val hs (v:=.elt c 0) (x:=.pointer (some ⟨b,off+m.toNat*k',none⟩)) ?_ (by simp only[R];exact⟨b,off+m.toNat*k',rfl,hcell⟩) hk;simp[execOp,ho,h,hi,Instr.indexAt,asIntOf,run_underlying ht,hm,hlt',run_sizeV hn,addr_add]
theorem wp_idxP (hs:SRel E st a) {t e:TypeId} {m n:Nat} {x i:Operand} {vx vi:V} (ho:o.op = .indexAddr t x i) (ht:P.underlying t=some (.array m e)) (hn:sizeV P e=some n) (hx:R E vx (a.eval x)) (hi:R E vi (a.eval i))
    (hk:match (generalizing:=false) vx with
      | .ptr p o=>∃kk j,vi = .int kk j∧0≤j∧j<(m:Nat)∧K (.ptr p (o+j.toNat*n)) st
      | .elt c o=>∃kk j,vi = .int kk j∧0≤j∧j<(m:Nat)∧K (.elt c (o+j.toNat*n)) st
      | _=>False):o.wp P a E.w (Post E a o.dst K) Q:=by
  have run:∀(b off:Nat) (kk:IntKind) (j:Int),0≤j→j<(m:Nat)→(Instr.indexAt t (.pointer (some ⟨b,off,none⟩)) (.int kk j)).run P E.w = .ok (.pointer (some ⟨b,off+j.toNat*n,none⟩)) E.w:=fun b off kk j h0 h1=>by
    simp[Instr.indexAt,asIntOf,run_underlying ht,Instr.sureAddr,h0,h1,run_sizeV hn,addr_add]
  cases vx<;>try exact False.elim hk
  case ptr p off =>
    obtain⟨kk,j,rfl,h0,h1,hk⟩:=hk;simp only[R] at hi;cases p with
    | loc q =>
      simp only[R] at hx;obtain⟨b,hb,h⟩:=hx;exact wp_val hs (by simp[execOp,ho,h,hi,run _ _ _ _ h0 h1];rfl) (by simp only[R];exact⟨b,hb,rfl⟩) hk
    | out b =>
      simp only[R] at hx;exact wp_val hs (by simp[execOp,ho,hx,hi,run _ _ _ _ h0 h1];rfl) (by simp only[R]) hk
    | glo b =>
      simp only[R] at hx;exact wp_val hs (by simp[execOp,ho,hx,hi,run _ _ _ _ h0 h1];rfl) (by simp only[R]) hk
  case elt c off =>
    obtain⟨kk,j,rfl,h0,h1,hk⟩:=hk;simp only[R] at hi hx;obtain⟨b,o',h,hr⟩:=hx;exact wp_val hs (by simp[execOp,ho,h,hi,run _ _ _ _ h0 h1];rfl) (by simp only[R];exact⟨b,o',by rw[Nat.add_assoc],hr⟩) hk
theorem wp_idxS (hs:SRel E st a) {t:TypeId} {x i:Operand} {vx vi:V} (ho:o.op = .index t x i) (ht:P.underlying t=some .string) (hx:R E vx (a.eval x)) (hi:R E vi (a.eval i))
    (hk:match (generalizing:=false) vx with | .str s=>∃k n c,vi = .int k n∧0≤n∧s[n.toNat]?=some c∧K (.int .u8 c.toNat) st | _=>False):o.wp P a E.w (Post E a o.dst K) Q:=by
  cases vx<;>try exact False.elim hk
  rename_i s;obtain⟨k,n,c,rfl,hn,hc,hk⟩:=hk;simp only[R] at hx hi;have hlt:=(List.getElem?_eq_some_iff.1 hc).1;have hlt' : n<((⟨s.toArray⟩:ByteArray).size:Int):=by simp[ByteArray.size];omega
  refine wp_val hs (v:=.int .u8 c.toNat) (x:=.int .u8 c.toNat) ?_ (by simp only[R]) hk
  have:=run_index_string (P:=P) E.w t ⟨s.toArray⟩ k n ht
  rw[dif_pos ⟨hn,hlt'⟩] at this;simp only[execOp,ho,hx,hi,Sem.run_bind,this,Result.andThen_ok];have hg:(⟨s.toArray⟩:ByteArray)[n.toNat]'(by simp[ByteArray.size];exact hlt)=c:=(List.getElem?_eq_some_iff.1 hc).2;simp[hg]
end
end Go.Am

namespace Go.Am
def cellEq:Nat→Value→Value→Option Bool
  | 1,.int k a,.int k' b=>if k=k' then some (decide (a=b)) else none
  | 2,.string a,.string b=>some (a.toList == b.toList)
  | 0,.bool a,.bool b=>some (a == b)
  | _,_,_=>none
section
variable {P:Program} {w:World}
def eqAll (xs ys:Array Value):List (Nat × Nat)→Option Bool
  | []=>some true
  | (j, k) :: js =>
    match xs[j]?,ys[j]? with
    | some x,some y=>(cellEq k x y).bind fun b=>(eqAll xs ys js).map (b&&·)
    | _,_=>none
theorem eqAll_append {xs ys:Array Value}:∀{l m:List (Nat × Nat)} {b:Bool},eqAll xs ys (l++m)=some b→∃b1 b2,eqAll xs ys l=some b1∧eqAll xs ys m=some b2∧b=(b1&&b2)
  | [],m,b,h=>⟨true,b,rfl,h,by simp⟩
  | (j, k) :: l, m, b, h => by
    simp only[List.cons_append,eqAll] at h ⊢;split at h
    · simp only[Option.bind_eq_some_iff,Option.map_eq_some_iff] at h;obtain⟨c,h1,d,h2,rfl⟩:=h;obtain⟨b1,b2,k1,k2,rfl⟩:=eqAll_append h2;exact⟨c&&b1,b2,by simp[h1,k1],k2,by simp[Bool.and_assoc]⟩
    · simp at h
def At (P:Program) (t:TypeId) (xs:Array Value) (off:Nat) (x:Value):Prop :=
  match aggOf P t with
  | some true=>x = .agg (xs.extract off (off+P.cellsOf t))∧off+P.cellsOf t≤xs.size
  | some false=>xs[off]?=some x
  | none=>False
theorem cellsOf_info {t:TypeId} {i:TypeInfo} (h:P.info? t=some i):P.cellsOf t=i.size:=by simp[Program.cellsOf,h]
theorem run_part {t u:TypeId} {i:TypeInfo} (hi:P.info? u=some i) {xs:Array Value} {off o' : Nat} (hle:o' + P.cellsOf u≤P.cellsOf t) (hsz:off+P.cellsOf t≤xs.size) {g:Bool} (hg:aggOf P u=some g) (hpos:g=false→P.cellsOf u=1) :
    ∃y,(part u (xs.extract off (off+P.cellsOf t)) o').run P w = .ok y w∧At P u xs (off+o') y:=by
  have hs:(sizeOf u).run P w = .ok (P.cellsOf u) w:=by simp[sizeOf,typeInfo,hi,cellsOf_info hi]
  unfold At;rw[hg];cases g
  · have h1:=hpos rfl;have hlt:off+o' < xs.size:=by omega
    refine⟨xs[off+o'],?_,by simp[hlt]⟩
    have:(xs.extract off (off+P.cellsOf t))[o']?=some xs[off+o']:=by
      rw[Array.getElem?_extract];simp[Array.getElem?_eq_getElem hlt];omega
    simp[part,run_isAgg hg,this]
  · refine⟨_,by simp[part,run_isAgg hg,hs];rfl,?_,by omega⟩;congr 2;omega
theorem plan_type {n:Nat} {u:TypeId} {off:Nat} {pl:List (Nat × Nat)} (h:planT P n u off=some pl):∃i g,P.info? u=some i∧aggOf P u=some g∧(g=false→P.cellsOf u=1):=by
  cases n with
  | zero=>simp[planT] at h
  | succ n =>
    simp only[planT] at h;split at h
    · rename_i i hi hu;split at h<;>simp at h;rename_i hc;exact⟨_,false,hi,by simp[aggOf,hu],fun _=>hc⟩
    · rename_i i hi hu;split at h<;>simp at h;rename_i hc;exact⟨_,false,hi,by simp[aggOf,hu],fun _=>hc⟩
    · rename_i i hi hu;split at h<;>simp at h;rename_i hc;exact⟨_,false,hi,by simp[aggOf,hu],fun _=>hc⟩
    · rename_i i hi hu;exact⟨_,true,hi,by simp[aggOf,hu],fun h=>by simp at h⟩
    · rename_i i hi hu;exact⟨_,true,hi,by simp[aggOf,hu],fun h=>by simp at h⟩
    · simp at h
theorem plan_eq:∀(n:Nat) (t:TypeId) (off:Nat) (pl:List (Nat × Nat)),planT P n t off=some pl→∀(d:Nat),n≤d→∀(xs ys:Array Value) (x y:Value),At P t xs off x→At P t ys off y →
    ∀b,eqAll xs ys pl=some b→(Op.equalIn d t x y).run P w = .ok b w:=by
  intro n;induction n with
  | zero=>intro t off pl h;simp[planT] at h
  | succ n ih =>
    intro t off pl h d hd xs ys x y hx hy b hb;obtain⟨d,rfl⟩:∃d',d=d' + 1:=⟨d - 1,by omega⟩;have one:∀k,aggOf P t=some false→pl=[(off,k)]→cellEq k x y=some b:=fun k hg hp=>by
      subst hp;unfold At at hx hy;rw[hg] at hx hy;have hx' : xs[off]?=some x:=hx;have hy' : ys[off]?=some y:=hy;simp only[eqAll,hx',hy',Option.bind_eq_some_iff,Option.map_some,Option.some.injEq] at hb;obtain⟨c,h1,h2⟩:=hb;rw[h1];simpa using h2
    simp only[planT] at h;split at h
    · rename_i i hi hu;split at h
      case isFalse=>simp at h
      simp only[Option.some.injEq] at h;have hc:=one 0 (by simp[aggOf,hu]) h.symm;unfold cellEq at hc;split at hc<;>simp at *;subst hc;exact run_equalIn_bool w d t _ _ hu
    · rename_i i k hi hu;split at h
      case isFalse=>simp at h
      simp only[Option.some.injEq] at h;have hc:=one 1 (by simp[aggOf,hu]) h.symm;unfold cellEq at hc;split at hc<;>simp at *;obtain⟨rfl,hc⟩:=hc;subst hc;exact run_equalIn_int w d t _ _ _ _ hu
    · rename_i i hi hu;split at h
      case isFalse=>simp at h
      simp only[Option.some.injEq] at h;have hc:=one 2 (by simp[aggOf,hu]) h.symm;unfold cellEq at hc;split at hc<;>simp at *;subst hc;exact run_equalIn_string w d t _ _ hu
    · rename_i i fs hi hu;split at h
      · simp at h
      rename_i hst;unfold At at hx hy;have hg:aggOf P t=some true:=by simp[aggOf,hu]
      rw[hg] at hx hy;obtain⟨rfl,hxs⟩:=hx;obtain⟨rfl,hys⟩:=hy;have hfo:P.fieldsOf t=fs:=by simp[Program.fieldsOf,hu]
      rw[run_equalIn_struct w d t _ _ (by rw[hfo];exact hu) (by simpa using hst),hfo];clear hu hfo hst;clear one;generalize fs.toList=l at h;revert b pl;induction l with
      | nil=>intro pl b hb h;simp[planFs] at h;subst h;simp[eqAll] at hb;subst hb;simp[Op.eqFields]
      | cons f l ihl =>
        intro pl b hb h;simp only[planFs] at h;split at h
        · simp at h
        rename_i hc;simp only[Option.bind_eq_some_iff,Option.map_eq_some_iff] at h;obtain⟨p1,h1,p2,h2,rfl⟩:=h;obtain⟨b1,b2,e1,e2,rfl⟩:=eqAll_append hb;obtain⟨i',g,hi',hg',hp'⟩:=plan_type h1;have hn:f.name ≠ "_" := fun e=>hc (.inl e)
        have hle:f.offset+P.cellsOf f.type≤P.cellsOf t:=by omega
        obtain⟨u,r1,a1⟩:=run_part (P:=P) (w:=w) hi' hle hxs hg' hp';obtain⟨v,r2,a2⟩:=run_part (P:=P) (w:=w) hi' hle hys hg' hp';have r3:=ih f.type (off+f.offset) p1 h1 d (by omega) xs ys u v a1 a2 b1 e1;have r4:=ihl p2 b2 e2 h2;simp only[Op.eqFields,hn,ne_eq,not_false_eq_true,if_true,Sem.run_bind,r1,r2,r3,Result.andThen_ok];cases b1
        · simp
        · simpa using r4
    · rename_i i k e hi hu;split at h
      case h_2=>simp at h
      rename_i ie hie;unfold At at hx hy;have hg:aggOf P t=some true:=by simp[aggOf,hu]
      rw[hg] at hx hy;obtain⟨rfl,hxs⟩:=hx;obtain⟨rfl,hys⟩:=hy;rw[run_equalIn_array w d _ _ hu hie];clear hu;clear one;generalize List.range k=l at h;revert b pl;induction l with
      | nil=>intro pl b hb h;simp[planIs] at h;subst h;simp[eqAll] at hb;subst hb;simp[Op.eqItems]
      | cons j l ihl =>
        intro pl b hb h;simp only[planIs] at h;split at h
        · simp at h
        rename_i hc;simp only[Option.bind_eq_some_iff,Option.map_eq_some_iff] at h;obtain⟨p1,h1,p2,h2,rfl⟩:=h;obtain⟨b1,b2,e1,e2,rfl⟩:=eqAll_append hb;obtain⟨i',g,hi',hg',hp'⟩:=plan_type h1;have hle:j*P.cellsOf e+P.cellsOf e≤P.cellsOf t:=by omega
        obtain⟨u,r1,a1⟩:=run_part (P:=P) (w:=w) hi' hle hxs hg' hp';obtain⟨v,r2,a2⟩:=run_part (P:=P) (w:=w) hi' hle hys hg' hp';have r3:=ih e (off+j*P.cellsOf e) p1 h1 d (by omega) xs ys u v a1 a2 b1 e1;have r4:=ihl p2 b2 e2 h2;simp only[Op.eqItems,Sem.run_bind,r1,r2,r3,Result.andThen_ok];cases b1
        · simp
        · simpa using r4
    · simp at h
end
end Go.Am

namespace Go.Am
section
variable {P:Program} {E:Env} {st:St} {a:Act} {o:Oper} {K:V→St→Prop} {Q:Exit→Act→World→Prop}
theorem bool_beq (x y:Bool):(x == y)=decide (x=y):=by cases x<;>cases y<;>rfl
theorem eqC_all {xs ys:Array Value}:∀{ks:List Nat} {vx vy:List V} {us ws:List Value} {b:Bool} (pl:List (Nat × Nat)) (off:Nat),eqC ks vx vy=some b→RL E vx us→RL E vy ws →
    (∀(j:Nat) u,us[j]?=some u→xs[off+j]?=some u)→(∀(j:Nat) u,ws[j]?=some u→ys[off+j]?=some u)→pl.map (·.2)=ks→pl.map (·.1)=List.range' off pl.length→eqAll xs ys pl=some b
  | [], vx, vy, us, ws, b, pl, off, h, hx, hy, h1, h2, h3, h4 => by
    have:pl=[]:=by simpa using h3
    subst this;cases vx<;>cases vy<;>simp[eqC] at h;subst h;simp[eqAll]
  | k :: ks, vx, vy, us, ws, b, pl, off, h, hx, hy, h1, h2, h3, h4 => by
    obtain⟨⟨j,k'⟩,pl,rfl⟩:∃p q,pl=p::q:=by cases pl with | nil=>simp at h3 | cons p q=>exact⟨p,q,rfl⟩
    simp only[List.map_cons,List.cons.injEq,List.length_cons,List.range'_succ] at h3 h4;obtain⟨rfl,h3⟩:=h3;obtain⟨rfl,h4⟩:=h4;have step:∀{x y:V} {vx' vy' : List V} {c d:Bool},vx=x::vx' → vy=y::vy' → (∀u v,R E x u→R E y v→cellEq k' u v=some c)→eqC ks vx' vy' = some d→b=(c&&d)→eqAll xs ys ((j,k')::pl)=some b :=
      fun {x y vx' vy' c d} e1 e2 hc hd hb=>by
        subst e1;subst e2;cases us with
        | nil=>simp[RL] at hx
        | cons u us =>
          cases ws with
          | nil=>simp[RL] at hy
          | cons v ws =>
            simp only[RL] at hx hy;have hu:=h1 0 u (by simp);have hv:=h2 0 v (by simp);simp only[Nat.add_zero] at hu hv;have ih:=eqC_all (ks:=ks) (us:=us) (ws:=ws) pl (j+1) hd hx.2 hy.2 (fun i u hu=>by rw[show j+1+i=j+(i+1) from by omega];exact h1 (i+1) u (by simpa using hu))
              (fun i u hu=>by rw[show j+1+i=j+(i+1) from by omega];exact h2 (i+1) u (by simpa using hu)) h3 h4
            simp only[eqAll,hu,hv,hc u v hx.1 hy.1,ih,Option.bind_some,Option.map_some,hb]
    unfold eqC at h;split at h
    · simp at *
    · rename_i hk;simp only[List.cons.injEq] at hk;obtain⟨rfl,rfl⟩:=hk;split at h
      case isFalse=>simp at h
      rename_i hkk;obtain rfl:=ikEq_eq hkk;simp only[Option.map_eq_some_iff] at h;obtain⟨d,hd,rfl⟩:=h;exact step rfl rfl (fun u v hu hv=>by simp only[R] at hu hv;subst hu;subst hv;simp[cellEq]) hd rfl
    · rename_i hk;simp only[List.cons.injEq] at hk;obtain⟨rfl,rfl⟩:=hk;simp only[Option.map_eq_some_iff] at h;obtain⟨d,hd,rfl⟩:=h;exact step rfl rfl (fun u v hu hv=>by simp only[R] at hu hv;subst hu;subst hv;simp[cellEq,list_beq]) hd rfl
    · rename_i hk;simp only[List.cons.injEq] at hk;obtain⟨rfl,rfl⟩:=hk;simp only[Option.map_eq_some_iff] at h;obtain⟨d,hd,rfl⟩:=h;exact step rfl rfl (fun u v hu hv=>by simp only[R] at hu hv;subst hu;subst hv;simp[cellEq,bool_beq]) hd rfl
    · simp at h
theorem eqC_length:∀{ks:List Nat} {vx vy:List V} {b:Bool},eqC ks vx vy=some b→vx.length=ks.length∧vy.length=ks.length
  | [],vx,vy,b,h=>by cases vx<;>cases vy<;>simp[eqC] at h;simp
  | k :: ks, vx, vy, b, h => by
    unfold eqC at h;split at h
    · simp at *
    · rename_i hk;simp only[List.cons.injEq] at hk;obtain⟨rfl,rfl⟩:=hk;split at h
      case isFalse=>simp at h
      simp only[Option.map_eq_some_iff] at h;obtain⟨d,hd,_⟩:=h
      have:=eqC_length hd;simp[this]
    · rename_i hk;simp only[List.cons.injEq] at hk;obtain⟨rfl,rfl⟩:=hk;simp only[Option.map_eq_some_iff] at h;obtain⟨d,hd,_⟩:=h
      have:=eqC_length hd;simp[this]
    · rename_i hk;simp only[List.cons.injEq] at hk;obtain⟨rfl,rfl⟩:=hk;simp only[Option.map_eq_some_iff] at h;obtain⟨d,hd,_⟩:=h
      have:=eqC_length hd;simp[this]
    · simp at h
theorem wp_eqA (hs:SRel E st a) {neg:Bool} {op:BinOp} (hop:op=if neg then .neq else .eql) {t t' : TypeId} {ks:List Nat} (ht:planOk P t=some ks) {x y:Operand} {vx vy:V} (ho:o.op = .binOp op t x y t')
    (hg:aggOf P t=some true) (hx:R E vx (a.eval x)) (hy:R E vy (a.eval y)) (hk:opt (eqAV neg ks vx vy) (K2 K st)):o.wp P a E.w (Post E a o.dst K) Q:=by
  unfold opt K2 at hk;split at hk
  case h_2=>exact hk.elim
  rename_i v hv;unfold eqAV at hv;split at hv
  case h_2=>simp at hv
  rename_i xs ys;simp only[Option.map_eq_some_iff] at hv;obtain⟨b,hb,rfl⟩:=hv;simp only[R] at hx hy;obtain⟨us,hxe,hxr⟩:=hx;obtain⟨ws,hye,hyr⟩:=hy;unfold planOk at ht;split at ht
  case h_2=>simp at ht
  rename_i pl hpl;split at ht
  case isFalse=>simp at ht
  rename_i hc;obtain⟨hr,hgd⟩:=hc;simp only[Option.some.injEq] at ht;have hlen:pl.length=P.cellsOf t:=by have:=congrArg List.length hr;simpa using this
  obtain⟨l1,l2⟩:=eqC_length hb;have hksl:ks.length=P.cellsOf t:=by rw[←ht];simp[hlen]
  have hus:us.size=P.cellsOf t:=by have:=RL_length hxr;simp at this;omega
  have hws:ws.size=P.cellsOf t:=by have:=RL_length hyr;simp at this;omega
  have hall:=eqC_all (E:=E) (xs:=us) (ys:=ws) pl 0 hb hxr hyr (fun j u hu=>by simpa using hu) (fun j u hu=>by simpa using hu) ht (by rw[hr,hlen,List.range_eq_range']);have hat:∀(zs:Array Value),zs.size=P.cellsOf t→At P t zs 0 (.agg zs):=fun zs hz=>by
    unfold At;rw[hg];exact⟨by rw[Nat.zero_add,←hz,Array.extract_size],by omega⟩
  have hrun:=plan_eq (P:=P) (w:=E.w) 20 t 0 pl hpl 10000 (by omega) us ws _ _ (hat us hus) (hat ws hws) b hall;subst hop;cases neg
  · refine wp_val hs (x:=.bool b) ?_ (by simp[R]) hk;simp only[execOp,ho,hxe,hye,Bool.false_eq_true,if_false];simp only[Sem.run_bind,run_eqGuard_agg E.w _ t x y us ws hgd,Result.andThen_ok,run_eql_struct,hrun,Sem.run_pure]
  · refine wp_val hs (x:=.bool (!b)) ?_ (by simp[R]) hk;simp only[execOp,ho,hxe,hye,if_true];simp only[Sem.run_bind,run_eqGuard_agg E.w _ t x y us ws hgd,Result.andThen_ok,run_neq_struct,hrun,Sem.run_pure]
theorem wp_fldv (hs:SRel E st a) {s:TypeId} {i n:Nat} {fs:Array Field} {f:Field} {g:Bool} {x:Operand} {v:V} (ho:o.op = .field s x i) (ht:P.underlying s=some (.struct fs)) (hf:fs[i]?=some f)
    (hg:aggOf P f.type=some g) (hn:sizeV P f.type=some n) (hx:R E v (a.eval x)) (hk:match (generalizing:=false) v with | .agg cs=>opt (ldC g n (cs.drop f.offset)) (K2 K st) | _=>False) :
    o.wp P a E.w (Post E a o.dst K) Q:=by
  cases v<;>try exact False.elim hk
  rename_i cs;simp only[opt,K2] at hk;simp only[R] at hx;obtain⟨vs,h,hr⟩:=hx;cases g with
  | false =>
    cases hd:cs.drop f.offset with
    | nil=>rw[hd] at hk;exact False.elim hk
    | cons c rest =>
      rw[hd] at hk;have hc:cs[f.offset]?=some c:=by
        have:=congrArg (·[0]?) hd
        simpa using this
      obtain⟨u,h1,h2⟩:=RL_get hr f.offset c hc;have h1' : vs[f.offset]?=some u:=by simpa using h1
      exact wp_val hs (v:=c) (x:=u) (by simp[execOp,ho,h,Instr.field,run_underlying ht,hf,asAgg,part,run_isAgg hg,h1']) h2 hk
  | true =>
    cases hd:takeN n (cs.drop f.offset) with
    | none=>simp only[ldC,hd,Option.map_none] at hk;
    | some ys =>
      simp only[ldC,hd,Option.map_some] at hk;obtain⟨rfl,hle⟩:=takeN_eq hd;refine wp_val hs (x:=.agg (vs.extract f.offset (f.offset+n))) (by simp[execOp,ho,h,Instr.field,run_underlying ht,hf,asAgg,part,run_isAgg hg,run_sizeV hn]) ?_ hk;simp only[R];refine⟨_,rfl,?_⟩;have hl:=RL_length hr;refine RL_of_get ?_ fun j y u h1 h2=>?_
      · simp at hl hle ⊢;omega
      · have hj:j<n:=by have:=(List.getElem?_eq_some_iff.1 h1).1;simp at this;omega
        rw[List.getElem?_take,if_pos hj,List.getElem?_drop] at h1;obtain⟨u',h3,h4⟩:=RL_get hr _ y h1
        have:(vs.extract f.offset (f.offset+n)).toList[j]?=some u' := by
          have hlt:=(List.getElem?_eq_some_iff.1 h3).1;simp at hlt;simp only[Array.getElem?_toList] at h3 ⊢;rw[Array.getElem?_extract];rw[if_pos (by omega)];exact h3
        rw[this] at h2;simp only[Option.some.injEq] at h2;subst h2;exact h4
theorem fold_set:∀(l:List Value) (n off:Nat) (cells:Array Value),off+n+l.length≤cells.size →
    ((l.zipIdx n).foldl (fun cs (c,j)=>cs.setIfInBounds (off+j) c) cells).toList=cells.toList.take (off+n)++l++cells.toList.drop (off+n+l.length)
  | [],n,off,cells,h=>by simp
  | v :: l, n, off, cells, h => by
    simp only[List.length_cons] at h;have ih:=fold_set l (n+1) off (cells.setIfInBounds (off+n) v) (by simp;omega);simp only[List.zipIdx_cons,List.foldl_cons];rw[ih];have e:=list_seg_step cells.toList (off+n) v l (by simp;omega);simpa [Array.toList_setIfInBounds,Nat.add_assoc,Nat.add_comm 1] using e
theorem fill_step {place:Nat→Option (Nat × Nat)} {cells:Array Value} {i off n:Nat} {v:Value} {rest:List (Nat × Value)} (hp:place i=some (off,n)) (hv:v.cells.size=n) (hoff:off+n≤cells.size) :
    Instr.fill place cells ((i,v)::rest)=Instr.fill place (cells.toList.take off++v.cells.toList++cells.toList.drop (off+n)).toArray rest:=by
  have h:=fold_set v.cells.toList 0 off cells (by simp;omega);have e:v.cells.zipIdx.foldl (fun cs (c,j)=>cs.setIfInBounds (off+j) c) cells=(cells.toList.take off++v.cells.toList++cells.toList.drop (off+n)).toArray:=by
    apply Array.ext';rw[←Array.foldl_toList,Array.toList_zipIdx,h];simp[hv]
  simp only[Instr.fill,hp,hv,ne_eq,not_true_eq_false,decide_false,Bool.false_or];rw[if_neg (by simp;omega),e]
theorem fill_R (hs:RL E st.t a.tmps.toList) {place:Nat→Option (Nat × TypeId)} {place' : Nat→Option (Nat × Nat)} (hpl:∀i off t n,place i=some (off,t)→sizeV P t=some n→place' i=some (off,n)) :
    ∀{parts:List (Nat × Operand)} {ps:List (Nat × Nat × X)} {z cs:List V} {cells:Array Value},lowParts P place parts=some ps→buildV st z ps=some cs→RL E z cells.toList →
    ∃cells',Instr.fill place' cells (parts.map fun (i,x)=>(i,a.eval x))=some cells' ∧ RL E cs cells'.toList
  | [], ps, z, cs, cells, hp, hb, hz => by
    simp only[lowParts,Option.some.injEq] at hp;subst hp;simp only[buildV,Option.some.injEq] at hb;subst hb;exact⟨cells,by simp[Instr.fill],hz⟩
  | (i, x) :: parts, ps, z, cs, cells, hp, hb, hz => by
    simp only[lowParts] at hp;split at hp
    case h_2=>simp at hp
    rename_i off t hpi;split at hp
    case h_2=>simp at hp
    rename_i n y hn hy;split at hp
    · simp at hp
    rename_i hn0;simp only[Option.map_eq_some_iff] at hp;obtain⟨ps',hp',rfl⟩:=hp;simp only[buildV] at hb;split at hb
    case isFalse=>simp at hb
    rename_i hc;have hx:=lowX_R (E:=E) (st:=st) (a:=a) hs hy;obtain⟨h1,h2⟩:=R_cells hx hc.2;have hle:=hasN_le hc.1;have hl:=RL_length hz;have hlc:=RL_length h1;simp at hle hl hlc;have hoff:off+n≤cells.size:=by omega
    · have hset:RL E (setAt z off (ev st y).cells) (cells.toList.take off++(a.eval x).cells.toList++cells.toList.drop (off+n)):=by
        refine RL_of_get (by simp[setAt_length];omega) fun j u v h3 h4=>?_
        rw[setAt_get (by omega)] at h3;have hsp:=splice_get (c:=cells.toList) (vs:=(a.eval x).cells.toList) (off:=off) (by simp;omega) j;simp only[Array.length_toList,h2] at hsp;rw[hsp] at h4
        by_cases k1:j<off
        · rw[if_pos k1] at h3 h4;obtain⟨v',k3,k4⟩:=RL_get hz j u h3;rw[k3] at h4;simp only[Option.some.injEq] at h4;subst h4;exact k4
        · rw[if_neg k1] at h3 h4
          by_cases k2:j<off+n
          · rw[if_pos (by omega)] at h3;rw[if_pos k2] at h4;obtain⟨v',k3,k4⟩:=RL_get h1 _ u h3;rw[k3] at h4;simp only[Option.some.injEq] at h4;subst h4;exact k4
          · rw[if_neg (by omega)] at h3;rw[if_neg k2] at h4;obtain⟨v',k3,k4⟩:=RL_get hz j u h3;rw[k3] at h4;simp only[Option.some.injEq] at h4;subst h4;exact k4
      obtain⟨cells',k1,k2⟩:=fill_R hs hpl hp' hb (cells:=(cells.toList.take off++(a.eval x).cells.toList++cells.toList.drop (off+n)).toArray) (by simpa using hset);refine⟨cells',?_,k2⟩;rw[List.map_cons,fill_step (hpl i off t n hpi hn) h2 hoff];exact k1
theorem mapM_places:∀(fs:List Field),fs.all (fun f=>(P.info? f.type).isSome)=true→∃places:List (Nat × Nat),fs.mapM (fun f=>(P.info? f.type).map fun i=>(f.offset,i.size))=some places ∧
    ∀i:Nat,places[i]?=(fs[i]?).bind fun f=>(P.info? f.type).map fun i=>(f.offset,i.size)
  | [],_=>⟨[],by simp,fun i=>by simp⟩
  | f :: fs, h => by
    simp only[List.all_cons,Bool.and_eq_true] at h;obtain⟨i,hi⟩:=Option.isSome_iff_exists.1 h.1;obtain⟨places,h1,h2⟩:=mapM_places fs h.2;refine⟨(f.offset,i.size)::places,by simp[hi,h1],fun j=>?_⟩;cases j with
    | zero=>simp[hi]
    | succ j=>simp[h2]
theorem wp_build (hs:SRel E st a) {t:TypeId} {parts:Array (Nat × Operand)} {z:List V} {ps:List (Nat × Nat × X)} (ho:o.op = .build t parts) (hz:zeroC P t=some z) {place:Nat→Option (Nat × TypeId)}
    (hpl:(∃fs,P.underlying t=some (.struct fs)∧fs.toList.all (fun f=>(P.info? f.type).isSome)=true∧place=fun i=>(fs[i]?).map fun f=>(f.offset,f.type)) ∨
      ∃k e,P.underlying t=some (.array k e)∧(P.info? e).isSome=true∧place=fun i=>some (i*P.cellsOf e,e))
    (hp:lowParts P place parts.toList=some ps) (hk:opt ((buildV st z ps).map V.agg) (K2 K st)):o.wp P a E.w (Post E a o.dst K) Q:=by
  unfold opt K2 at hk;split at hk
  case h_2=>exact hk.elim
  rename_i v hv;simp only[Option.map_eq_some_iff] at hv;obtain⟨cs,hb,rfl⟩:=hv;obtain⟨i,zv,h1,h2,h3,_⟩:=zeroC_spec hz;have hzr:RL E z zv.cells.toList:=cvL_RL h3;have key:∃cells',P.built t (parts.map fun (i,x)=>(i,a.eval x)).toList=some cells' ∧ RL E cs cells'.toList:=by
    rcases hpl with ⟨fs,hu,hall,rfl⟩ | ⟨k,e,hu,hinfo,rfl⟩
    · obtain⟨places,hm,hg⟩:=mapM_places (P:=P) fs.toList hall;obtain⟨cells',k1,k2⟩:=fill_R (P:=P) (st:=st) hs.slot (place' := fun i=>places.toArray[i]?) (fun i off t' n h hn=>by
        simp only[Option.map_eq_some_iff] at h;obtain⟨f,hf,h⟩:=h;simp only[Prod.mk.injEq] at h;obtain⟨rfl,rfl⟩:=h;simp only[List.getElem?_toArray,hg];unfold sizeV at hn;simp only[Option.map_eq_some_iff] at hn;obtain⟨i',hi',rfl⟩:=hn;simp[hf,hi']) hp hb hzr
      exact⟨cells',by simpa [Program.built,h1,hu,h2,hm] using k1,k2⟩
    · obtain⟨ie,hie⟩:=Option.isSome_iff_exists.1 hinfo;obtain⟨cells',k1,k2⟩:=fill_R (P:=P) (st:=st) hs.slot (place' := fun i=>some (i*ie.size,ie.size)) (fun i off t' n h hn=>by
        simp only[Option.some.injEq,Prod.mk.injEq] at h;obtain⟨rfl,rfl⟩:=h;simp only[sizeV,hie,Option.map_some,Option.some.injEq] at hn;simp[cellsOf_info hie,hn]) hp hb hzr
      exact⟨cells',by simpa [Program.built,h1,hu,h2,hie] using k1,k2⟩
  obtain⟨cells',k1,k2⟩:=key;refine wp_val hs (x:=.agg cells') ?_ (by simp only[R];exact⟨cells',rfl,k2⟩) hk
  have:=run_build (P:=P) E.w t _ _ k1
  simp only[execOp,ho,Sem.run_bind,this,Result.andThen_ok,Sem.run_pure]
theorem fill_seq {k:Nat}:∀(ps:List (Nat × Value)) (i0:Nat) (cells:Array Value),ps.map (·.1)=List.range' i0 ps.length→(∀p∈ps,p.2.cells.size=k)→cells.size=(i0+ps.length)*k →
    Instr.fill (fun i=>some (i*k,k)) cells ps=some (cells.toList.take (i0*k)++(ps.map fun p=>p.2.cells.toList).flatten).toArray
  | [], i0, cells, _, _, hsz => by
    simp only[Instr.fill,List.map_nil,List.flatten_nil,List.append_nil];rw[List.take_of_length_le (by simp at hsz ⊢;omega)]
  | (i, v) :: ps, i0, cells, hm, hall, hsz => by
    simp only[List.map_cons,List.length_cons,List.range'_succ,List.cons.injEq] at hm;obtain⟨rfl,hm⟩:=hm;simp only[List.forall_mem_cons] at hall;have hk1:(i+(ps.length+1))*k=i*k+k+ps.length*k:=by rw[Nat.add_mul,Nat.add_mul];omega
    simp only[List.length_cons,hk1] at hsz;rw[fill_step (n:=k) rfl hall.1 (by omega)];have ih:=fill_seq ps (i+1) (cells.toList.take (i*k)++v.cells.toList++cells.toList.drop (i*k+k)).toArray hm hall.2 (by simp[hall.1,Nat.add_mul];omega);rw[ih];congr 2;simp only[List.map_cons,List.flatten_cons,←List.append_assoc];congr 1;rw[show (i+1)*k=i*k+k from by rw[Nat.add_mul];omega]
    have:(cells.toList.take (i*k)++v.cells.toList).length=i*k+k:=by simp[hall.1];omega
    rw[List.take_append_of_le_length (by omega),List.take_of_length_le (by omega)]
theorem rowsV_R (hs:RL E st.t a.tmps.toList) {k:Nat} {e:TypeId}:∀{n:Nat} {xs:List Operand} {ys:List X} {l:List (List V)},lowXs P (List.replicate n e) xs=some ys→rowsV st k ys=some l →
    xs.length=n∧l.length=n∧(∀x∈xs,(a.eval x).cells.size=k)∧(∀y∈l,y.length=k)∧RL E.nl l.flatten (xs.map fun x=>(a.eval x).cells.toList).flatten∧∀v∈(xs.map fun x=>(a.eval x).cells.toList).flatten,v.oneCell' = true
  | 0, [], ys, l, h1, h2 => by
    simp only[List.replicate_zero,lowXs,Option.some.injEq] at h1;subst h1;simp only[rowsV,Option.some.injEq] at h2;subst h2;simp[RL]
  | 0,_::_,ys,l,h1,h2=>by simp[lowXs] at h1
  | n+1,[],ys,l,h1,h2=>by simp[List.replicate_succ,lowXs] at h1
  | n + 1, x :: xs, ys, l, h1, h2 => by
    simp only[List.replicate_succ,lowXs,Option.bind_eq_some_iff,Option.map_eq_some_iff] at h1;obtain⟨y,hy,ys',hys,rfl⟩:=h1;simp only[rowsV] at h2;split at h2
    case isFalse=>simp at h2
    rename_i hc;simp only[Option.map_eq_some_iff] at h2;obtain⟨l',hl',rfl⟩:=h2;obtain⟨k1,k2,k3,k4,k5,k6⟩:=rowsV_R hs hys hl';have hx:=lowX_R (E:=E) (st:=st) (a:=a) hs hy;obtain⟨r1,r2⟩:=R_cells hx hc.1;have r3:=RL.nolm (E:=E) (E' := E.nl) _ (Env.le.refl E.nl) hc.2.1 r1;have r4:=one_ok r1 hc.2.2;refine⟨by simp[k1],by simp[k2],?_,?_,?_,?_⟩
    · simp only[List.forall_mem_cons];exact⟨r2,k3⟩
    · simp only[List.forall_mem_cons];exact⟨by have:=RL_length r1;rw[eraseL_length];simp at this;omega,k4⟩
    · simp only[List.flatten_cons,List.map_cons];exact RL_append (RL.erase _ r3) k5
    · simp only[List.map_cons,List.flatten_cons];intro v hv
      rcases List.mem_append.1 hv with h | h
      · exact r4 v h
      · exact k6 v h
theorem wp_bsliceG (hs:SRel E st a) {t e:TypeId} {len k:Nat} {parts:Array (Nat × Operand)} {z:List V} (ho:o.op = .buildSlice t len parts) (ht:P.underlying t=some (.slice e)) (hn:sizeV P e=some k) (hz:zeroC P e=some z)
    (hr:parts.toList.map (·.1)=List.range len) (hsz:len*k≤16777216) {l:List (List V)}
    (hf:(parts.toList.map (·.2)).length=len∧l.length=len∧(∀x∈parts.toList.map (·.2),(a.eval x).cells.size=k)∧(∀y∈l,y.length=k)∧RL E.nl l.flatten ((parts.toList.map (·.2)).map fun x=>(a.eval x).cells.toList).flatten∧∀v∈((parts.toList.map (·.2)).map fun x=>(a.eval x).cells.toList).flatten,v.oneCell' = true)
    (hk:K (V.sl .full k l) st):o.wp P a E.w (Post E a o.dst K) Q:=by
  obtain⟨k1,k2,k3,k4,k5,k6⟩:=hf;obtain⟨i,zv,h1,h2,h3,h4⟩:=zeroC_spec hz;have hlen:parts.toList.length=len:=by simpa using k1
  let ps:List (Nat × Value):=parts.toList.map fun (i,x)=>(i,a.eval x)
  have hps1:ps.map (·.1)=List.range' 0 ps.length:=by
    have:ps.map (·.1)=parts.toList.map (·.1):=by simp[ps,Function.comp_def]
    rw[this,hr,List.range_eq_range'];congr 1;simp[ps];simpa using hlen.symm
  have hps2:(ps.map fun p=>p.2.cells.toList)=(parts.toList.map (·.2)).map fun x=>(a.eval x).cells.toList:=by simp[ps,Function.comp_def]
  have hall:∀p∈ps,p.2.cells.size=k:=fun p hp=>by
    simp only[ps,List.mem_map] at hp;obtain⟨q,hq,rfl⟩:=hp;exact k3 q.2 (List.mem_map.2 ⟨q,hq,rfl⟩)
  have hpl:ps.length=len:=by simp[ps];simpa using hlen
  have fill:∀cells:Array Value,cells.size=len*k→Instr.fill (fun i=>some (i*k,k)) cells ps=some ((parts.toList.map (·.2)).map fun x=>(a.eval x).cells.toList).flatten.toArray:=fun cells hc=>by
    have:=fill_seq ps 0 cells hps1 hall (by rw[hpl];simpa using hc)
    rw[this,hps2];simp
  generalize hnews:((parts.toList.map (·.2)).map fun x=>(a.eval x).cells.toList).flatten=news at fill k5 k6;refine wp_ext hs (w' := E.w.alloc (.cells news.toArray e)) (x:=.slice (some ⟨E.w.heap.size,0,none⟩) len len) ((Ext.refl _).alloc _ _) ?_ ?_ hk
  · have hzs:(zeroValue e).run P E.w = .ok zv E.w:=by simp[zeroValue,typeInfo,h1,h2]
    have hps:(parts.map fun (i,x)=>(i,a.eval x)).toList=ps:=by simp[ps]
    have hsz' : ¬(16777216<len*k):=by omega
    simp only[execOp,ho,Sem.run_bind];have key:(Instr.buildSlice t len (parts.map fun (i,x)=>(i,a.eval x))).run P E.w = .ok (.slice (some ⟨E.w.heap.size,0,none⟩) len len) (E.w.alloc (.cells news.toArray e)):=by
      unfold Instr.buildSlice;simp only[Sem.run_bind,run_underlying ht,Result.andThen_ok,run_sizeV hn];rw[if_neg (by simpa using hsz')];rw[hps]
      by_cases h0:len*k=0
      · rw[if_pos h0];simp only[Sem.run_bind,Sem.run_pure,Result.andThen_ok];rw[fill _ (by simp)];simp[newRow]
      · rw[if_neg h0];simp only[Sem.run_bind,hzs,Result.andThen_ok,Sem.run_pure];rw[fill _ (by simp)];simp[newRow]
    rw[key];rfl
  · obtain⟨hfr,_,_⟩:=srel_ext hs ((Ext.refl E.w).alloc news.toArray e);have hnb:(E.w.alloc (.cells news.toArray e)).heap[E.w.heap.size]?=some (.cells (news++[]).toArray e (0,0)):=by simpa using heap_alloc_new E.w (.cells news.toArray e)
    simp only[R,k2];refine⟨some ⟨E.w.heap.size,0,none⟩,len,rfl,Nat.le_refl _,.inr ⟨_,_,rfl,?_⟩,rfl⟩;exact REs_new (E' := {E with w:=E.w.alloc (.cells news.toArray e)}) k4 (RL.mono _ hfr.nl k5) k6 hnb (fun j _=>by rw[show ({E with w:=E.w.alloc (.cells news.toArray e)}:Env).role E.w.heap.size = .const from hs.ok.fresh _ (Nat.le_refl _)];trivial)
theorem wp_bslice (hs:SRel E st a) {t e:TypeId} {len k:Nat} {parts:Array (Nat × Operand)} {ys:List X} {z:List V} (ho:o.op = .buildSlice t len parts) (ht:P.underlying t=some (.slice e)) (hn:sizeV P e=some k) (hz:zeroC P e=some z)
    (hl:lowXs P (List.replicate len e) (parts.toList.map (·.2))=some ys) (hr:parts.toList.map (·.1)=List.range len) (hsz:len*k≤16777216)
    (hk:opt ((rowsV st k ys).map (V.sl .full k)) (K2 K st)):o.wp P a E.w (Post E a o.dst K) Q:=by
  unfold opt K2 at hk;split at hk
  case h_2=>exact hk.elim
  rename_i v hv;simp only[Option.map_eq_some_iff] at hv;obtain⟨l,hb,rfl⟩:=hv;exact wp_bsliceG hs ho ht hn hz hr hsz (rowsV_R (E:=E) hs.slot hl hb) hk
theorem keepV_R (hs:RL E st.t a.tmps.toList) {k:Nat} {e:TypeId}:∀{n:Nat} {xs:List Operand} {ys:List X} {l:List (List V)},lowXs P (List.replicate n e) xs=some ys→keepV k (evs st ys)=some l →
    xs.length=n∧l.length=n∧(∀x∈xs,(a.eval x).cells.size=k)∧(∀y∈l,y.length=k)∧RL E.nl l.flatten (xs.map fun x=>(a.eval x).cells.toList).flatten∧∀v∈(xs.map fun x=>(a.eval x).cells.toList).flatten,v.oneCell' = true
  | 0, [], ys, l, h1, h2 => by
    simp only[List.replicate_zero,lowXs,Option.some.injEq] at h1;subst h1;simp only[evs,keepV,Option.some.injEq] at h2;subst h2;simp[RL]
  | 0,_::_,ys,l,h1,h2=>by simp[lowXs] at h1
  | n+1,[],ys,l,h1,h2=>by simp[List.replicate_succ,lowXs] at h1
  | n + 1, x :: xs, ys, l, h1, h2 => by
    simp only[List.replicate_succ,lowXs,Option.bind_eq_some_iff,Option.map_eq_some_iff] at h1;obtain⟨y,hy,ys',hys,rfl⟩:=h1;simp only[evs,keepV] at h2;split at h2
    case isFalse=>simp at h2
    rename_i hc;simp only[Option.map_eq_some_iff] at h2;obtain⟨l',hl',rfl⟩:=h2;obtain⟨k1,k2,k3,k4,k5,k6⟩:=keepV_R hs hys hl';have hx:=lowX_R (E:=E) (st:=st) (a:=a) hs hy;obtain⟨r1,r2⟩:=R_cells hx hc.1;have r3:=RL.nolm (E:=E) (E' := E.nl) _ (Env.le.refl E.nl) hc.2.1 r1;have r4:=one_ok r1 hc.2.2;refine⟨by simp[k1],by simp[k2],?_,?_,?_,?_⟩
    · simp only[List.forall_mem_cons];exact⟨r2,k3⟩
    · simp only[List.forall_mem_cons];exact⟨by have:=RL_length r1;simp at this;omega,k4⟩
    · simp only[List.flatten_cons,List.map_cons];exact RL_append r3 k5
    · simp only[List.map_cons,List.flatten_cons];intro v hv
      rcases List.mem_append.1 hv with h | h
      · exact r4 v h
      · exact k6 v h
end
end Go.Am

namespace Go.Am
section
variable {P:Program} {E:Env} {st:St} {a:Act} {o:Oper} {K:V→St→Prop} {Q:Exit→Act→World→Prop}
theorem encB_flat (s:List UInt8):(encB s).flatten=s.map fun b=>V.int .u8 b.toNat:=by
  induction s with
  | nil=>rfl
  | cons b s ih=>simp only[encB,List.map_cons,List.flatten_cons] at ih ⊢;rw[ih];rfl
theorem RL_bytes {E:Env}:∀{s:List UInt8} {vs:List Value},RL E (s.map fun b=>V.int .u8 b.toNat) vs→vs=(s.map fun b=>(b.toNat:Int)).map (Value.int .u8)
  | [],[],_=>rfl
  | [],_::_,h=>by simp[RL] at h
  | _::_,[],h=>by simp[RL] at h
  | b :: s, v :: vs, h => by
    simp only[List.map_cons,RL,R] at h;simp only[List.map_cons];rw[h.1,RL_bytes h.2]
theorem push_bytes:∀(s:List UInt8) (r:List UInt8),(s.map fun b=>(b.toNat:Int)).foldl (fun (r:ByteArray) n=>r.push (UInt8.ofNat n.toNat)) ⟨r.toArray⟩=⟨(r++s).toArray⟩
  | [],r=>by simp
  | b :: s, r => by
    have e:(⟨r.toArray⟩:ByteArray).push (UInt8.ofNat ((b.toNat:Int)).toNat)=⟨(r++[b]).toArray⟩:=by
      apply ByteArray.ext;simp[ByteArray.push]
    simp only[List.map_cons,List.foldl_cons,e,push_bytes s (r++[b])];simp
theorem wp_cvBS (hs:SRel E st a) {src dst e:TypeId} {x:Operand} {v:V} (ho:o.op = .convert src dst x) (h1:P.underlying src=some (.slice e)) (h2:P.underlying dst=some .string) (h3:P.underlying e=some (.int .u8)) (hx:R E v (a.eval x))
    (hk:∃t s,v = .sl t 1 (encB s)∧K (.str s) st):o.wp P a E.w (Post E a o.dst K) Q:=by
  obtain⟨t,s,rfl,hk⟩:=hk;simp only[R] at hx;obtain⟨base,cap,hv,_,hel,_⟩:=hx;refine wp_val hs (v:=.str s) (x:=.string ⟨s.toArray⟩) ?_ (by simp only[R]) hk;have key:(Conv.bytesToString (a.eval x)).run P E.w = .ok (.string ⟨s.toArray⟩) E.w:=by
    rw[hv]
    rcases hel with h | ⟨b,off,rfl,hr⟩
    · have hs0:s=[]:=by simpa [encB] using h
      subst hs0;cases base with
      | none=>simp[Conv.bytesToString];rfl
      | some ad =>
        have:=run_bytesToString (P:=P) E.w ad 0 cap [] (by simp[loadCells,loadCellsFrom])
        simp[encB] at this ⊢;exact this
    · obtain⟨_,h5⟩:=REs_iff.1 hr;obtain⟨vs,k1,k2,_,_⟩:=RAs_cells h5;rw[encB_flat] at k1;have e1:=RL_bytes k1;have hl:vs.length=(encB s).length:=by rw[e1];simp[encB]
      have hc:=run_loadCells_list (P:=P) E.w ⟨b,off,none⟩ vs (fun j u hu=>by rw[addr_add];exact k2 j u hu);rw[hl,e1] at hc
      have:=run_bytesToString (P:=P) E.w ⟨b,off,none⟩ (encB s).length cap _ hc
      rw[this];have hp:=push_bytes s [];simp only[List.nil_append] at hp;exact congrArg (fun z=>Result.ok (Value.string z) E.w) hp
  rw[hv] at key;simp only[execOp,ho,Sem.run_bind,hv,run_convert_bytes_string E.w src dst e base _ cap h1 h3 h2,key,Result.andThen_ok,Sem.run_pure]
theorem RAs_sub {E:Env} {k:Nat} {l:List (List V)} {b o m n:Nat} (h:REs E k l b o) (hmn:m≤n) (hn:n≤l.length):REs E k ((l.take n).drop m) b (o+m*k):=by
  obtain⟨h1,h2⟩:=REs_iff.1 h;refine REs_iff.2 ⟨fun x hx=>h1 x (List.mem_of_mem_take (List.mem_of_mem_drop hx)),?_⟩;have e:l=(l.take n).take m++((l.take n).drop m++l.drop n):=by
    rw[←List.append_assoc,List.take_append_drop,List.take_append_drop]
  rw[e,List.flatten_append,List.flatten_append,RAs_append,RAs_append] at h2;have hl:((l.take n).take m).flatten.length=m*k:=by
    rw[flat_length (fun x hx=>h1 x (List.mem_of_mem_take (List.mem_of_mem_take hx)))];simp only[List.length_take];congr 1;omega
  rw[hl] at h2;exact h2.2.1
theorem lowO_R {E:Env} (hs:RL E st.t a.tmps.toList) {t:TypeId} {x:Option Operand} {y:Option X} (h:lowO P t x=some y) :
    (x=none∧y=none)∨∃u v,x=some u∧y=some v∧R E (ev st v) (a.eval u):=by
  cases x with
  | none=>simp only[lowO,Option.some.injEq] at h;exact .inl ⟨rfl,h.symm⟩
  | some x =>
    simp only[lowO,Option.map_eq_some_iff] at h;obtain⟨v,hv,rfl⟩:=h;exact .inr ⟨x,v,rfl,rfl,lowX_R hs hv⟩
theorem run_bound {w:World} {j:IntKind} {n y:Nat} {c:BoundsCode} (h:n≤y):(Instr.sliceBound (.int j n) y c).run P w = .ok n w:=by
  simp[Instr.sliceBound,asIntOf,h]
theorem full_tok (hs:SRel E st a) {τ k:Nat} {l:List (List V)} {v:Value} (ht:st.out.tip τ=some l.length) (h:R E (.sl .full k l) v):R E (.sl (.tk τ) k l) v:=by
  simp only[R] at h ⊢;obtain⟨ad,cap,h1,h2,h3,h4⟩:=h;exact⟨ad,cap,h1,h2,h3,l.length,hs.ok.tip τ _ ht,Nat.le_refl _,fun _=>.inl h4⟩
theorem run_bounds {t:TypeId} {lo hi mx:Option Operand} {lo' hi' mx' : Option X} (hs:SRel E st a) (h1:lowO P t lo=some lo') (h2:lowO P t hi=some hi') (h3:lowO P t mx=some mx') (hmx:mx'.isSome=true→hi'.isSome=true) {len cap m n M:Nat}
    (hlo:match (generalizing:=false) lo' with | none=>m=0 | some y=>∃j,ev st y = .int j m) (hhi:match (generalizing:=false) hi' with | none=>n=len | some y=>∃j,ev st y = .int j n) (hM:match (generalizing:=false) mx' with | none=>M=cap | some y=>∃j,ev st y = .int j M)
    (hmn:m≤n) (hnM:n≤M) (hMc:M≤cap):(Instr.sliceBounds true len cap (lo.map a.eval) (hi.map a.eval) (mx.map a.eval)).run P E.w = .ok (m,n,M) E.w:=by
  have e1:∀c,(match (lo.map a.eval:Option Value) with | some v=>Instr.sliceBound v n c | none=>pure 0:Sem Nat).run P E.w = .ok m E.w:=fun c=>by
    rcases lowO_R (E:=E) hs.slot h1 with ⟨rfl,rfl⟩ | ⟨u,v,rfl,rfl,hr⟩
    · simp only at hlo;subst hlo;simp
    · obtain⟨j,hj⟩:=hlo;rw[hj] at hr;simp only[R] at hr;simp only[Option.map_some,hr];exact run_bound hmn
  rcases lowO_R (E:=E) hs.slot h3 with ⟨rfl,rfl⟩ | ⟨u3,v3,rfl,rfl,hr3⟩
  · simp only at hM;subst hM
    rcases lowO_R (E:=E) hs.slot h2 with ⟨rfl,rfl⟩ | ⟨u,v,rfl,rfl,hr⟩
    · simp only at hhi;subst hhi
      have:=e1 .sliceB
      rcases lowO_R (E:=E) hs.slot h1 with ⟨rfl,rfl⟩ | ⟨u',v',rfl,rfl,hr'⟩<;>simp[Instr.sliceBounds] at this ⊢
      · exact this
      · simp[this]
    · obtain⟨j,hj⟩:=hhi;rw[hj] at hr;simp only[R] at hr
      have:=e1 .sliceB
      have e2:=run_bound (P:=P) (w:=E.w) (j:=j) (c:=.sliceAcap) (show n≤M by omega)
      rcases lowO_R (E:=E) hs.slot h1 with ⟨rfl,rfl⟩ | ⟨u',v',rfl,rfl,hr'⟩<;>simp[Instr.sliceBounds,hr,e2] at this ⊢
      · exact this
      · simp[this]
  · obtain⟨j3,hj3⟩:=hM;rw[hj3] at hr3;simp only[R] at hr3;have e3:=run_bound (P:=P) (w:=E.w) (j:=j3) (c:=.slice3Acap) hMc
    rcases lowO_R (E:=E) hs.slot h2 with ⟨rfl,rfl⟩ | ⟨u,v,rfl,rfl,hr⟩
    · simp at hmx
    · obtain⟨j,hj⟩:=hhi;rw[hj] at hr;simp only[R] at hr
      have:=e1 .slice3C
      have e2:=run_bound (P:=P) (w:=E.w) (j:=j) (c:=.slice3B) hnM
      rcases lowO_R (E:=E) hs.slot h1 with ⟨rfl,rfl⟩ | ⟨u',v',rfl,rfl,hr'⟩<;>simp[Instr.sliceBounds,hr,hr3,e2,e3] at this ⊢
      · exact this
      · simp[this]
theorem wp_slc (hs:SRel E st a) {t e:TypeId} {k:Nat} {x:Operand} {lo hi mx:Option Operand} {vx:V} {lo' hi' mx' : Option X} (ho:o.op = .slice t x lo hi mx) (ht:P.underlying t=some (.slice e)) (hn:sizeV P e=some k)
    (hx:R E vx (a.eval x)) (h1:lowO P t lo=some lo') (h2:lowO P t hi=some hi') (h3:lowO P t mx=some mx') (hmx:mx'.isSome=true→hi'.isSome=true)
    (hk:∃t l m n,vx = .sl t k l∧m≤n∧n≤l.length∧(match (generalizing:=false) lo' with | none=>m=0 | some y=>∃j,ev st y = .int j m)∧(match (generalizing:=false) hi' with | none=>n=l.length | some y=>∃j,ev st y = .int j n) ∧
      match (generalizing:=false) mx' with
      | none=>K (.sl .no k ((l.take n).drop m)) st
      | some y=>(∃j,ev st y = .int j n)∧K (.sl .full k ((l.take n).drop m)) st):o.wp P a E.w (Post E a o.dst K) Q:=by
  obtain⟨tk,l,m,n,rfl,hmn,hnl,hlo,hhi,hk⟩:=hk;simp only[R] at hx;obtain⟨base,cap,hv,hcap,hel,_⟩:=hx;have key:∀M:Nat,n≤M→M≤cap→(mx' = none→M=cap)→(mx'.isSome=true→M=n)→(Instr.sliceBounds true l.length cap (lo.map a.eval) (hi.map a.eval) (mx.map a.eval)).run P E.w = .ok (m,n,M) E.w:=fun M hM hMc hM1 hM2=>by
    have e1:∀c,(match (lo.map a.eval:Option Value) with | some v=>Instr.sliceBound v n c | none=>pure 0:Sem Nat).run P E.w = .ok m E.w:=fun c=>by
      rcases lowO_R (E:=E) hs.slot h1 with ⟨rfl,rfl⟩ | ⟨u,v,rfl,rfl,hr⟩
      · simp only at hlo;subst hlo;simp
      · obtain⟨j,hj⟩:=hlo;rw[hj] at hr;simp only[R] at hr;simp only[Option.map_some,hr];exact run_bound hmn
    rcases lowO_R (E:=E) hs.slot h3 with ⟨rfl,rfl⟩ | ⟨u3,v3,rfl,rfl,hr3⟩
    · obtain rfl:=hM1 rfl
      rcases lowO_R (E:=E) hs.slot h2 with ⟨rfl,rfl⟩ | ⟨u,v,rfl,rfl,hr⟩
      · simp only at hhi;subst hhi
        have:=e1 .sliceB
        rcases lowO_R (E:=E) hs.slot h1 with ⟨rfl,rfl⟩ | ⟨u',v',rfl,rfl,hr'⟩<;>simp[Instr.sliceBounds] at this ⊢
        · exact this
        · simp[this]
      · obtain⟨j,hj⟩:=hhi;rw[hj] at hr;simp only[R] at hr
        have:=e1 .sliceB
        have e2:=run_bound (P:=P) (w:=E.w) (j:=j) (c:=.sliceAcap) (show n≤M by omega)
        rcases lowO_R (E:=E) hs.slot h1 with ⟨rfl,rfl⟩ | ⟨u',v',rfl,rfl,hr'⟩<;>simp[Instr.sliceBounds,hr,e2] at this ⊢
        · exact this
        · simp[this]
    · obtain rfl:=hM2 rfl;simp only at hk;obtain⟨⟨j3,hj3⟩,hk⟩:=hk;rw[hj3] at hr3;simp only[R] at hr3;have e3:=run_bound (P:=P) (w:=E.w) (j:=j3) (c:=.slice3Acap) hMc
      rcases lowO_R (E:=E) hs.slot h2 with ⟨rfl,rfl⟩ | ⟨u,v,rfl,rfl,hr⟩
      · simp at hmx
      · obtain⟨j,hj⟩:=hhi;rw[hj] at hr;simp only[R] at hr
        have:=e1 .slice3C
        have e2:=run_bound (P:=P) (w:=E.w) (j:=j) (c:=.slice3B) (Nat.le_refl M)
        rcases lowO_R (E:=E) hs.slot h1 with ⟨rfl,rfl⟩ | ⟨u',v',rfl,rfl,hr'⟩<;>simp[Instr.sliceBounds,hr,hr3,e2,e3] at this ⊢
        · exact this
        · simp[this]
  have run:∀M:Nat,n≤M→M≤cap→(mx' = none→M=cap)→(mx'.isSome=true→M=n)→(execOp a.eval o).run P E.w = .ok (.value (.slice (if M=m then base else base.map (·.add (m*k))) (n - m) (M - m))) E.w:=fun M h1 h2 h3 h4=>by
    simp only[execOp,ho,Sem.run_bind,hv];simp[Instr.sliceAt,run_underlying ht,Instr.slice,key M h1 h2 h3 h4,run_sizeV hn]
  have val:∀M tk',n≤M→M≤cap→(tk' = Tk.no∨(tk' = Tk.full∧M=n))→R E (.sl tk' k ((l.take n).drop m)) (.slice (if M=m then base else base.map (·.add (m*k))) (n - m) (M - m)):=fun M tk' h1 h2 h3=>by
    have hlen:((l.take n).drop m).length=n - m:=by simp;omega
    simp only[R,hlen];refine⟨_,_,rfl,by omega,?_,?_⟩
    · rcases Nat.lt_or_ge m n with hlt | hge
      · right
        rcases hel with h | ⟨b,off,rfl,hr⟩
        · subst h;simp at hnl;omega
        · refine⟨b,off+m*k,?_,RAs_sub hr hmn hnl⟩;rw[if_neg (by omega)];simp[addr_add]
      · left;exact List.eq_nil_of_length_eq_zero (by omega)
    · rcases h3 with rfl | ⟨rfl,rfl⟩
      · trivial
      · rfl
  cases mx' with
  | none=>exact wp_val hs (run cap (by omega) (Nat.le_refl _) (fun _=>rfl) (fun h=>by simp at h)) (val cap .no (by omega) (Nat.le_refl _) (.inl rfl)) hk
  | some y=>exact wp_val hs (run n (Nat.le_refl _) (by omega) (fun h=>by simp at h) (fun _=>rfl)) (val n .full (Nat.le_refl _) (by omega) (.inr ⟨rfl,rfl⟩)) hk.2
theorem wp_slS (hs:SRel E st a) {t:TypeId} {x:Operand} {lo hi:Option Operand} {vx:V} {lo' hi' : Option X} (ho:o.op = .slice t x lo hi none) (ht:P.underlying t=some .string)
    (hx:R E vx (a.eval x)) (h1:lowO P t lo=some lo') (h2:lowO P t hi=some hi')
    (hk:∃s m n,vx = .str s∧m≤n∧n≤s.length∧(match (generalizing:=false) lo' with | none=>m=0 | some y=>∃j,ev st y = .int j m)∧(match (generalizing:=false) hi' with | none=>n=s.length | some y=>∃j,ev st y = .int j n)∧K (.str ((s.take n).drop m)) st) :
    o.wp P a E.w (Post E a o.dst K) Q:=by
  obtain⟨s,m,n,rfl,hmn,hnl,hlo,hhi,hk⟩:=hk;simp only[R] at hx;have hsz:(⟨s.toArray⟩:ByteArray).size=s.length:=by simp[ByteArray.size]
  have key:(Instr.sliceBounds false s.length s.length (lo.map a.eval) (hi.map a.eval) none).run P E.w = .ok (m,n,s.length) E.w:=by
    rcases lowO_R (E:=E) hs.slot h2 with ⟨rfl,rfl⟩ | ⟨u,v,rfl,rfl,hr⟩
    · simp only at hhi;subst hhi
      rcases lowO_R (E:=E) hs.slot h1 with ⟨rfl,rfl⟩ | ⟨u',v',rfl,rfl,hr'⟩
      · simp only at hlo;subst hlo;simp[Instr.sliceBounds]
      · obtain⟨j',hj'⟩:=hlo;rw[hj'] at hr';simp only[R] at hr';have e2:=run_bound (P:=P) (w:=E.w) (j:=j') (c:=.sliceB) hmn;simp[Instr.sliceBounds,hr',e2]
    · obtain⟨j,hj⟩:=hhi;rw[hj] at hr;simp only[R] at hr;have e2:=run_bound (P:=P) (w:=E.w) (j:=j) (c:=.sliceAlen) hnl
      rcases lowO_R (E:=E) hs.slot h1 with ⟨rfl,rfl⟩ | ⟨u',v',rfl,rfl,hr'⟩
      · simp only at hlo;subst hlo;simp[Instr.sliceBounds,hr,e2]
      · obtain⟨j',hj'⟩:=hlo;rw[hj'] at hr';simp only[R] at hr';have e3:=run_bound (P:=P) (w:=E.w) (j:=j') (c:=.sliceB) hmn;simp[Instr.sliceBounds,hr,hr',e2,e3]
  refine wp_val hs (v:=.str ((s.take n).drop m)) (x:=.string ⟨((s.take n).drop m).toArray⟩) ?_ (by simp only[R]) hk;have he:(⟨s.toArray⟩:ByteArray).extract m n=⟨((s.take n).drop m).toArray⟩:=by
    apply ByteArray.ext;rw[ByteArray.data_extract];apply Array.ext';simp[List.drop_take]
  simp only[execOp,ho,Sem.run_bind,hx];simp[Instr.sliceAt,run_underlying ht,Instr.slice,hsz,key,he]
theorem src_string {w:World} {u:TypeId} (hu:P.underlying u=some .string) (s:List UInt8) :
    ∃news,Src P w 1 (encB s).length u (.string ⟨s.toArray⟩) news∧RL E (encB s).flatten news∧(∀v∈news,v.oneCell' = true)∧∀y∈encB s,y.length=1:=by
  have hsz:(⟨s.toArray⟩:ByteArray).size=s.length:=by simp[ByteArray.size]
  have hx:((⟨s.toArray⟩:ByteArray).extract 0 s.length).data.map (fun b:UInt8=>Value.int .u8 (b.toNat:Int))=(s.map fun b:UInt8=>Value.int .u8 (b.toNat:Int)).toArray:=by
    apply Array.ext';rw[ByteArray.data_extract];simp
  refine⟨s.map fun b=>Value.int .u8 b.toNat,⟨⟨_,hu,fun _ h=>by simp at h⟩,fun w' => by simp[Builtin.lenOf,hsz,encB],?_,?_,by simp[encB]⟩,?_,?_,?_⟩
  · simp only[Builtin.firstCells,encB,List.length_map,hx,Sem.run_pure]
  · simp only[Builtin.firstCells,encB,List.length_map,hx,Sem.run_pure]
  · rw[encB_flat];induction s with
    | nil=>simp[RL]
    | cons b s ih=>simp only[List.map_cons,RL,R];exact⟨trivial,by
        clear hsz hx ih;induction s with
        | nil=>simp[RL]
        | cons c s ih=>simp only[List.map_cons,RL,R];exact⟨trivial,ih⟩⟩
  · intro v hv;simp only[List.mem_map] at hv;obtain⟨b,_,rfl⟩:=hv;rfl
  · intro y hy;simp only[encB,List.mem_map] at hy;obtain⟨b,_,rfl⟩:=hy;rfl
theorem low_sound {ao:AOp} (hl:lowOp P o=some ao) (hs:SRel E st a) (h:ao.sem P st K):o.wp P a E.w (Post E a o.dst K) Q:=by
  have X:=fun {t:TypeId} {x:Operand} {y:X} (hx:lowX P t x=some y)=>lowX_R (E:=E) (st:=st) (a:=a) hs.slot hx
  have XS:=fun {ts:List TypeId} {xs:List Operand} {ys:List Go.Am.X} (hx:lowXs P ts xs=some ys)=>lowXs_RL (E:=E) (st:=st) (a:=a) hs.slot hx
  unfold lowOp at hl;split at hl
  · rename_i x ho;simp only[Option.map_eq_some_iff] at hl;obtain⟨y,hy,rfl⟩:=hl;exact wp_mv hs (.inl ho) (X hy) h
  · rename_i x ho;simp only[Option.map_eq_some_iff] at hl;obtain⟨y,hy,rfl⟩:=hl;exact wp_mv hs (.inr ho) (X hy) h
  · rename_i c x y ho;split at hl
    case h_2=>simp at hl
    rename_i h1 h2 h3;simp only[Option.some.injEq] at hl;subst hl;exact wp_pick hs ho (X h1) (X h2) (X h3) h
  · rename_i t ho;simp only[Option.map_eq_some_iff] at hl;obtain⟨z,hz,rfl⟩:=hl;exact wp_alloc hs ho hz h
  · rename_i t x ho;split at hl
    case h_2=>simp at hl
    rename_i h1 h2;simp only[Option.some.injEq] at hl;subst hl;exact wp_box hs ho (X h2) h.1 h.2
  · rename_i t ps ho;split at hl
    · rename_i z fs hz hu;split at hl
      case isFalse=>simp at hl
      rename_i hall;simp only[Option.map_eq_some_iff] at hl;obtain⟨ps',hp,rfl⟩:=hl;exact wp_build hs ho hz (.inl ⟨fs,hu,hall,rfl⟩) hp h
    · rename_i z k e hz hu;split at hl
      case isFalse=>simp at hl
      rename_i hall;simp only[Option.map_eq_some_iff] at hl;obtain⟨ps',hp,rfl⟩:=hl;exact wp_build hs ho hz (.inr ⟨k,e,hu,hall,rfl⟩) hp h
    · simp at hl
  · rename_i t len ps ho;split at hl
    case h_2=>simp at hl
    rename_i e hu;split at hl
    case h_2=>simp at hl
    rename_i k z xs h1 h2 h3;split at hl
    case isFalse=>simp at hl
    rename_i hc;simp only[Option.some.injEq] at hl;subst hl;exact wp_bslice hs ho hu h1 h2 h3 hc.1 hc.2.1 h
  · rename_i t x ho;split at hl
    case h_2=>simp at hl
    rename_i h1 h2 h3;simp only[Option.some.injEq] at hl;subst hl;exact wp_load hs ho h1 h2 (X h3) h
  · rename_i t x y ho;split at hl
    case h_2=>simp at hl
    rename_i n ax ay h1 h2 h3;split at hl
    · simp at hl
    rename_i hn0;simp only[Option.some.injEq] at hl;subst hl;simp only[AOp.sem] at h;split at h
    case h_2=>exact h.elim
    rename_i st' hst;exact wp_store hs (Nat.pos_of_ne_zero hn0) ho h1 (X h2) (X h3) hst h
  · rename_i x ho;simp only[Option.map_eq_some_iff] at hl;obtain⟨y,hy,rfl⟩:=hl;exact wp_nilck hs ho (X hy) h
  · rename_i op t x y t' ho;split at hl
    case h_2=>simp at hl
    rename_i ax ay h1 h2;split at hl
    · simp only[Option.some.injEq] at hl;subst hl;exact wp_binI hs ho (X h1) (X h2) h
    · split at hl
      · simp only[Option.some.injEq] at hl;subst hl;exact wp_cat hs ho (X h1) (X h2) h
      · simp only[Option.some.injEq] at hl;subst hl;exact wp_binS hs ho (X h1) (X h2) h
    · rename_i hu;split at hl
      · simp only[Option.some.injEq] at hl;subst hl;exact wp_binB hs (neg:=false) rfl hu ho (X h1) (X h2) h
      · simp only[Option.some.injEq] at hl;subst hl;exact wp_binB hs (neg:=true) rfl hu ho (X h1) (X h2) h
      · simp at hl
    · rename_i fs hu;split at hl
      case h_2=>simp at hl
      rename_i ks hks;split at hl
      · simp only[Option.some.injEq] at hl;subst hl;exact wp_eqA hs (neg:=false) rfl hks ho (by simp[aggOf,hu]) (X h1) (X h2) h
      · simp only[Option.some.injEq] at hl;subst hl;exact wp_eqA hs (neg:=true) rfl hks ho (by simp[aggOf,hu]) (X h1) (X h2) h
      · simp at hl
    · rename_i fs e hu;split at hl
      case h_2=>simp at hl
      rename_i ks hks;split at hl
      · simp only[Option.some.injEq] at hl;subst hl;exact wp_eqA hs (neg:=false) rfl hks ho (by simp[aggOf,hu]) (X h1) (X h2) h
      · simp only[Option.some.injEq] at hl;subst hl;exact wp_eqA hs (neg:=true) rfl hks ho (by simp[aggOf,hu]) (X h1) (X h2) h
      · simp at hl
    · simp at hl
  · rename_i t x ho;simp only[Option.map_eq_some_iff] at hl;obtain⟨y,hy,rfl⟩:=hl;exact wp_not hs ho (X hy) h
  · rename_i src dst x ho;split at hl
    · rename_i h1 h2 h3;simp only[Option.some.injEq] at hl;subst hl;exact wp_cvI hs ho h1 h2 (X h3) h
    · rename_i h1 h2 h3;split at hl
      case h_2=>simp at hl
      rename_i h4;simp only[Option.some.injEq] at hl;subst hl;exact wp_cvBS hs ho h1 h2 h4 (X h3) h
    · simp at hl
  · rename_i f first cap ho
    split at hl
    case h_2=>simp at hl
    rename_i h1 h2;simp only[Option.some.injEq] at hl;subst hl;exact wp_mkfn hs ho (XS h1) (XS h2) h
  · rename_i t x lo hi mx ho;split at hl
    case h_2=>simp at hl
    rename_i h1 h2 h3 h4;split at hl
    · rename_i e hu;split at hl
      case h_2=>simp at hl
      rename_i k hk;split at hl
      case isFalse=>simp at hl
      rename_i hmx;simp only[Option.some.injEq] at hl;subst hl;simp only[AOp.sem] at h
      rcases h with h | ⟨base,n,cap,m,hh,e1,k1,k2,g1,g2,g3,hK⟩
      · exact wp_slc hs ho hu hk (X h1) h2 h3 h4 hmx h
      · have hxv:=X h1;rw[e1] at hxv;simp only[R] at hxv;rename_i mx' _ _;have g3:mx' = none:=by cases mx' with | none=>rfl | some _=>simp at g3
        subst g3;have hb:=run_bounds (P:=P) (M:=cap) hs h2 h3 h4 hmx g1 g2 rfl k1 k2 (Nat.le_refl _);refine wp_val hs (v:=.raw _) (x:=.slice (if cap=m then base else base.map (·.add (m*k))) (hh - m) (cap - m)) ?_ (by simp only[R]) hK;simp only[execOp,ho,Sem.run_bind,hxv];simp[Instr.sliceAt,run_underlying hu,Instr.slice,hb,run_sizeV hk]
    · rename_i hu;split at hl
      case h_2=>simp at hl
      simp only[Option.some.injEq] at hl;subst hl;have hmx:mx=none:=by cases mx with | none=>rfl | some m=>simp[lowO] at h4
      subst hmx;exact wp_slS hs ho hu (X h1) h2 h3 h
    · simp at hl
  · rename_i s x i ho;split at hl
    case h_2=>simp at hl
    rename_i fs y h1 h2;split at hl
    case h_2=>simp at hl
    rename_i f hf;split at hl
    case h_2=>simp at hl
    rename_i n hn;split at hl
    · simp at hl
    rename_i hn0;simp only[Option.some.injEq] at hl;subst hl;exact wp_fld hs ho h1 hf hn hn0 (X h2) h
  · rename_i s x i ho;split at hl
    case h_2=>simp at hl
    rename_i fs y h1 h2;split at hl
    case h_2=>simp at hl
    rename_i f hf;split at hl
    case h_2=>simp at hl
    rename_i g n hg hn;simp only[Option.some.injEq] at hl;subst hl;exact wp_fldv hs ho h1 hf hg hn (X h2) h
  · rename_i t x i ho;split at hl
    case h_3=>simp at hl
    case h_1 =>
      rename_i e ax ai h1 h2 h3;simp only[Option.map_eq_some_iff] at hl;obtain⟨k,hk,rfl⟩:=hl;exact wp_idxA hs ho h1 hk (X h2) (X h3) h
    case h_2 =>
      rename_i m e ax ai h1 h2 h3;simp only[Option.map_eq_some_iff] at hl;obtain⟨k,hk,rfl⟩:=hl;exact wp_idxP hs ho h1 hk (X h2) (X h3) h
  · rename_i t x i ho;split at hl
    case h_2=>simp at hl
    rename_i ax ai h1 h2 h3;simp only[Option.some.injEq] at hl;subst hl;exact wp_idxS hs ho h1 (X h2) (X h3) h
  · rename_i x i ho;simp only[Option.map_eq_some_iff] at hl;obtain⟨y,hy,rfl⟩:=hl;exact wp_ext_tup hs ho (X hy) h
  · rename_i c ho;obtain⟨callee,args,argTypes⟩:=c;simp only at hl;split at hl
    · rename_i f;simp only[Option.map_eq_some_iff] at hl;obtain⟨ys,hys,rfl⟩:=hl;refine wp_call hs (vs:=args.map a.eval) (by simpa using XS hys) h.1 h.2 ?_;simp[execOp,ho,resolve,Act.eval,Deferred.ofValue,invoke]
    · rename_i x;split at hl
      case h_2=>simp at hl
      rename_i y ys h1 h2;simp only[Option.some.injEq] at hl;subst hl;have hx:=X h1;simp only[AOp.sem] at h;split at h
      case h_2=>exact h.elim
      rename_i f as bs hev;rw[hev] at hx;simp only[R] at hx;obtain⟨fs,cs,he,r1,r2⟩:=hx;refine wp_call hs (vs:=fs++args.map a.eval++cs) (by simpa using RL_append (RL_append r1 (XS h2)) r2) h.1 h.2 ?_;simp[execOp,ho,resolve,he,Deferred.ofValue,invoke]
    · split at hl
      case h_2=>simp at hl
      rename_i t x ht hx;have e1:argTypes=#[t]:=by cases argTypes;simpa using ht
      have e2:args=#[x]:=by cases args;simpa using hx
      subst e1;subst e2;split at hl
      · rename_i e y hu hy;simp only[Option.some.injEq] at hl;subst hl;exact wp_len hs ho hu (X hy) h
      · rename_i y hu hy;simp only[Option.some.injEq] at hl;subst hl;exact wp_lenT hs ho hu (X hy) h
      · simp at hl
    · split at hl
      case h_2=>simp at hl
      rename_i t u s x ht hx;have e1:argTypes=#[t,u]:=by cases argTypes;simpa using ht
      have e2:args=#[s,x]:=by cases args;simpa using hx
      subst e1;subst e2;have hrun:(execOp a.eval o).run P E.w=((Builtin.append_ #[t,u] o.type #[a.eval s,a.eval x]).run P E.w).andThen fun v w' => .ok (.value v) w' := by
        simp[execOp,ho,resolve,invoke,builtin]
      split at hl
      · rename_i e e' ys yx h1 h2 h3 h4;split at hl
        case h_2=>simp at hl
        rename_i i z hi hz;split at hl
        case isFalse=>simp at hl
        rename_i hc;obtain⟨rfl,hby,hpos⟩:=hc;simp only[Option.some.injEq] at hl;subst hl;obtain⟨i',zv,k1,k2,k3,k4⟩:=zeroC_spec hz;rw[hi] at k1;simp only[Option.some.injEq] at k1;subst k1;have hzs:zv.cells.size=i.size:=by have:=RL_length (cvL_RL (E:=E) k3);simp at this;omega
        simp only[AOp.sem,AppOk] at h;obtain⟨tk,l,m,es,⟨t',ex⟩,hbig,hk⟩:=h;have hS:=X h3;have hX:=X h4;rw[es] at hS;rw[ex] at hX;obtain⟨news,q1,q2,q3,q4⟩:=src_slice (P:=P) h2 hX;cases tk with
        | no=>exact hk.elim
        | tk τ=>exact wp_app hs h1 hi k2 hzs hby hrun hS q1 q2 q3 q4 hbig hk
        | full =>
          rcases hk with hk | hk | ⟨τ,h5,h6⟩
          · exact wp_app hs h1 hi k2 hzs hby hrun hS q1 q2 q3 q4 hbig (.inl hk)
          · exact wp_app hs h1 hi k2 hzs hby hrun hS q1 q2 q3 q4 hbig (.inr hk)
          · exact wp_app hs h1 hi k2 hzs hby hrun (tk:=.tk τ) (full_tok hs h5 hS) q1 q2 q3 q4 hbig ⟨h5,h6⟩
      · rename_i e ys yx h1 h2 h3 h4;split at hl
        case h_2=>simp at hl
        rename_i i z hi hz;split at hl
        case h_2=>simp at hl
        split at hl
        case isFalse=>simp at hl
        rename_i hc;simp only[Option.some.injEq] at hl;subst hl;obtain⟨i',zv,k1,k2,k3,k4⟩:=zeroC_spec hz;rw[hi] at k1;simp only[Option.some.injEq] at k1;subst k1;have hzs:zv.cells.size=i.size:=by have:=RL_length (cvL_RL (E:=E) k3);simp at this;omega
        simp only[AOp.sem,AppOk] at h;obtain⟨s',ex,tk,l,m,es,⟨t',em⟩,hbig,hk⟩:=h;simp only[V.sl.injEq,true_and] at em;obtain⟨_,rfl⟩:=em;have hS:=X h3;have hX:=X h4;rw[es] at hS;rw[ex] at hX;simp only[R] at hX;obtain⟨news,q1,q2,q3,q4⟩:=src_string (P:=P) (E:=E.nl) (w:=E.w) h2 s';have h1s:i.size=1:=hc.1;have fin:∀tk,R E (.sl tk 1 l) (a.eval s)→(match (generalizing:=false) tk with
            | .full=>(∀τ,st.out.tip τ=none→K (.sl (.tk τ) 1 (l++encB s')) ⟨st.t,st.loc,st.out.setTip τ (l.length+(encB s').length)⟩)∨K (.sl .no 1 (l++encB s')) st
            | .tk τ=>st.out.tip τ=some l.length∧K (.sl (.tk τ) 1 (l++encB s')) ⟨st.t,st.loc,st.out.setTip τ (l.length+(encB s').length)⟩
            | .no=>False)→o.wp P a E.w (Post E a o.dst K) Q:=fun tk hS hk=>by
          refine wp_app hs h1 hi k2 hzs (by omega) hrun (tk:=tk) (l:=l) (m:=encB s') (news:=news) (by rw[h1s];exact hS) (by rw[h1s,hX];exact q1) q2 q3 (by rw[h1s];exact q4) hbig ?_;rw[h1s];exact hk
        cases tk with
        | no=>exact hk.elim
        | tk τ=>exact fin _ hS hk
        | full =>
          rcases hk with hk | hk | ⟨τ,h5,h6⟩
          · exact fin _ hS (.inl hk)
          · exact fin _ hS (.inr hk)
          · exact fin (.tk τ) (full_tok hs h5 hS) ⟨h5,h6⟩
      · simp at hl
    · simp at hl
  · simp at hl
end
end Go.Am

namespace Go.Am
def X.slot:X→List Nat
  | .s n=>[n]
  | .c _=>[]
def optX:Option X→List X
  | none=>[]
  | some x=>[x]
def AOp.xs:AOp→List X
  | .mv x | .box _ x | .boxS _ x | .boxO _ x | .load _ _ x | .nilck x | .not x | .lenS x | .lenT x | .fld _ x | .fldv _ _ _ x | .ext x _ | .cvI _ x | .cvBS x=>[x]
  | .pick c a b=>[c,a,b]
  | .alloc _ | .allocO _=>[]
  | .build _ ps=>ps.map (·.2.2)
  | .bslice _ xs | .call _ xs | .own _ xs=>xs
  | .store _ a x | .binI _ a x | .binS _ a x | .binB _ a x | .cat a x | .eqA _ _ a x | .eqN _ a x | .idxA _ a x | .idxS a x | .idxP _ _ a x | .app _ a x | .appS a x=>[a,x]
  | .callv x xs=>x::xs
  | .slc _ x lo hi mx=>x::(optX lo++optX hi++optX mx)
  | .slS x lo hi=>x::(optX lo++optX hi)
  | .mkfn _ first cap=>first++cap
def AOp.eff:AOp→Bool
  | .alloc _ | .box _ _ | .boxS _ _ | .allocO _ | .boxO _ _ | .store _ _ _ | .call _ _ | .callv _ _ | .app _ _ _ | .appS _ _=>true
  | .own q _=>!q.pure
  | _=>false
def AOp.isLoad:AOp→Bool
  | .load _ _ _=>true
  | _=>false
abbrev Sto:=List (List V) × Store
def mkSt (t:List V) (s:Sto):St:=⟨t,s.1,s.2⟩
def Exact (t:List V) (v:V) (s:Sto):V→St→Prop:=fun v' st' => v' = v∧st' = mkSt t s
theorem ev_eq {t t2:List V} {s s2:Sto} {x:X} (h:∀n∈x.slot,t2.getD n .any=t.getD n .any):ev (mkSt t2 s2) x=ev (mkSt t s) x:=by
  cases x with
  | s n=>exact h n (by simp[X.slot])
  | c v=>rfl
theorem evs_eq {t t2:List V} {s s2:Sto}:∀{xs:List X},(∀x∈xs,ev (mkSt t2 s2) x=ev (mkSt t s) x)→evs (mkSt t2 s2) xs=evs (mkSt t s) xs
  | [],_=>rfl
  | x :: xs, h => by
    simp only[List.forall_mem_cons] at h;simp only[evs,h.1,evs_eq h.2]
theorem buildV_eq {t t2:List V} {s s2:Sto}:∀{ps:List (Nat × Nat × X)} {z:List V},(∀x∈ps.map (·.2.2),ev (mkSt t2 s2) x=ev (mkSt t s) x)→buildV (mkSt t2 s2) z ps=buildV (mkSt t s) z ps
  | [],_,_=>rfl
  | (off, n, x) :: ps, z, h => by
    simp only[List.map_cons,List.forall_mem_cons] at h;simp only[buildV,h.1,buildV_eq h.2]
theorem rowsV_eq {t t2:List V} {s s2:Sto} {k:Nat}:∀{xs:List X},(∀x∈xs,ev (mkSt t2 s2) x=ev (mkSt t s) x)→rowsV (mkSt t2 s2) k xs=rowsV (mkSt t s) k xs
  | [],_=>rfl
  | x :: xs, h => by
    simp only[List.forall_mem_cons] at h;simp only[rowsV,h.1,rowsV_eq h.2]
def ldS (s:Sto) (g:Bool) (n:Nat) (a:V):Option V:=ldV (mkSt [] s) g n a
theorem ldV_ldS {t:List V} {s:Sto} {g:Bool} {n:Nat} {a:V}:ldV (mkSt t s) g n a=ldS s g n a:=by
  unfold ldS;cases a<;>simp only[ldV];rename_i p o;cases p<;>rfl
theorem mk_inj {t:List V} {A:List (List V)} {B:Store} {s:Sto} (h:(⟨t,A,B⟩:St)=mkSt t s):s=(A,B):=by
  have:=congrArg (fun q:St=>(q.loc,q.out)) h
  exact this.symm
section
variable {P:Program}
theorem sem_cong {op:AOp} {t t2:List V} {s s2 s' : Sto} {v:V} (hx:∀x∈op.xs,ev (mkSt t2 s2) x=ev (mkSt t s) x) (heff:op.eff=true→s2=s)
    (hld:∀g n x,op = .load g n x→ldS s2 g n (ev (mkSt t s) x)=some v) (h:op.sem P (mkSt t s) (Exact t v s')) :
    op.sem P (mkSt t2 s2) (Exact t2 v (if op.eff then s' else s2)):=by
  cases op with
  | mv x =>
    simp only[AOp.xs,List.forall_mem_cons] at hx;simp only[AOp.sem,Exact] at h ⊢;exact⟨by rw[hx.1];exact h.1,rfl⟩
  | pick c a b =>
    simp only[AOp.xs,List.forall_mem_cons] at hx;simp only[AOp.sem] at h ⊢;rw[hx.1,hx.2.1,hx.2.2.1];split at h
    · exact⟨h.1,rfl⟩
    · exact⟨h.1,rfl⟩
    · exact h.elim
  | alloc z =>
    obtain rfl:=heff rfl;simp only[AOp.sem,Exact] at h ⊢;obtain rfl:=mk_inj h.2;exact⟨h.1,by simp[AOp.eff,mkSt]⟩
  | box n x =>
    obtain rfl:=heff rfl;simp only[AOp.xs,List.forall_mem_cons] at hx;simp only[AOp.sem,Exact] at h ⊢;rw[hx.1];obtain rfl:=mk_inj h.2.2;exact⟨h.1,h.2.1,by simp[AOp.eff,mkSt]⟩
  | boxS n x =>
    obtain rfl:=heff rfl;simp only[AOp.xs,List.forall_mem_cons] at hx;simp only[AOp.sem,Exact] at h ⊢;rw[hx.1];obtain rfl:=mk_inj h.2.2.2;exact⟨h.1,h.2.1,h.2.2.1,by simp[AOp.eff,mkSt]⟩
  | build z ps =>
    simp only[AOp.sem] at h ⊢;rw[buildV_eq (ps:=ps) hx];cases hb:(buildV (mkSt t s) z ps).map V.agg with
    | none=>rw[hb] at h;exact h.elim
    | some u=>rw[hb] at h;exact⟨h.1,rfl⟩
  | bslice k xs =>
    simp only[AOp.sem] at h ⊢;rw[rowsV_eq (xs:=xs) hx];cases hb:(rowsV (mkSt t s) k xs).map (V.sl .full k) with
    | none=>rw[hb] at h;exact h.elim
    | some u=>rw[hb] at h;exact⟨h.1,rfl⟩
  | load g n x =>
    simp only[AOp.xs,List.forall_mem_cons] at hx;simp only[AOp.sem] at h ⊢;rw[hx.1,ldV_ldS,hld g n x rfl];exact⟨rfl,rfl⟩
  | store n a x =>
    obtain rfl:=heff rfl;simp only[AOp.xs,List.forall_mem_cons] at hx;simp only[AOp.sem] at h ⊢;rw[hx.1,hx.2.1];generalize ev (mkSt t s2) x=xv at h ⊢;generalize ev (mkSt t s2) a=av at h ⊢;have key:∀st',stV (mkSt t s2) n xv av=some st' → stV (mkSt t2 s2) n xv av=some (mkSt t2 (st'.loc,st'.out)):=fun st' he=>by
      cases av with
      | ptr p off =>
        cases p with
        | glo b=>simp[stV] at he
        | loc i =>
          simp only[stV,mkSt,Option.bind_eq_some_iff] at he ⊢;obtain⟨cs,h1,h2⟩:=he;refine⟨cs,h1,?_⟩
          by_cases hc:hasN n (cs.drop off)=true∧xv.wd=some n∧oneL xv.cells=true
          · rw[if_pos hc] at h2 ⊢;simp only[Option.some.injEq] at h2;subst h2;rfl
          · rw[if_neg hc] at h2;simp at h2
        | out b =>
          simp only[stV,mkSt,Option.bind_eq_some_iff] at he ⊢;obtain⟨cs,h1,h2⟩:=he;refine⟨cs,h1,?_⟩
          by_cases hc:hasN n (cs.drop off)=true∧xv.wd=some n∧oneL xv.cells=true∧nolL xv.cells=true
          · rw[if_pos hc] at h2 ⊢;simp only[Option.some.injEq] at h2;subst h2;rfl
          · rw[if_neg hc] at h2;simp at h2
      | _=>simp[stV] at he
    split at h
    case h_2=>exact h.elim
    rename_i st' he;rw[key st' he]
    have:=congrArg (fun q:St=>(q.loc,q.out)) h.2
    have h2:(st'.loc,st'.out)=s' := this;exact⟨h.1,by rw[h2];rfl⟩
  | nilck x =>
    simp only[AOp.xs,List.forall_mem_cons] at hx;simp only[AOp.sem] at h ⊢;rw[hx.1];split at h<;>first | exact⟨h.1,rfl⟩ | exact h.elim
  | binI op x y =>
    simp only[AOp.xs,List.forall_mem_cons] at hx;simp only[AOp.sem] at h ⊢;rw[hx.1,hx.2.1];cases hb:binIV op (ev (mkSt t s) x) (ev (mkSt t s) y) with
    | none=>rw[hb] at h;exact h.elim
    | some u=>rw[hb] at h;exact⟨h.1,rfl⟩
  | binS op x y =>
    simp only[AOp.xs,List.forall_mem_cons] at hx;simp only[AOp.sem] at h ⊢;rw[hx.1,hx.2.1];cases hb:binSV op (ev (mkSt t s) x) (ev (mkSt t s) y) with
    | none=>rw[hb] at h;exact h.elim
    | some u=>rw[hb] at h;exact⟨h.1,rfl⟩
  | binB neg x y =>
    simp only[AOp.xs,List.forall_mem_cons] at hx;simp only[AOp.sem] at h ⊢;rw[hx.1,hx.2.1];cases hb:eqBV neg (ev (mkSt t s) x) (ev (mkSt t s) y) with
    | none=>rw[hb] at h;exact h.elim
    | some u=>rw[hb] at h;exact⟨h.1,rfl⟩
  | cat x y =>
    simp only[AOp.xs,List.forall_mem_cons] at hx;simp only[AOp.sem] at h ⊢;rw[hx.1,hx.2.1];obtain⟨a,b,h1,h2,h3,h4⟩:=h;exact⟨a,b,h1,h2,h3,h4.1,rfl⟩
  | eqA neg n x y =>
    simp only[AOp.xs,List.forall_mem_cons] at hx;simp only[AOp.sem] at h ⊢;rw[hx.1,hx.2.1];cases hb:eqAV neg n (ev (mkSt t s) x) (ev (mkSt t s) y) with
    | none=>rw[hb] at h;exact h.elim
    | some u=>rw[hb] at h;exact⟨h.1,rfl⟩
  | eqN neg x y =>
    simp only[AOp.xs,List.forall_mem_cons] at hx;simp only[AOp.sem] at h ⊢;rw[hx.1,hx.2.1];split at h
    · rename_i e1 e2;exact⟨h.1,h.2.1,rfl⟩
    · exact h.elim
  | not x =>
    simp only[AOp.xs,List.forall_mem_cons] at hx;simp only[AOp.sem] at h ⊢;rw[hx.1];split at h
    · exact⟨h.1,rfl⟩
    · exact h.elim
  | lenS x =>
    simp only[AOp.xs,List.forall_mem_cons] at hx;simp only[AOp.sem] at h ⊢;rw[hx.1];split at h
    · exact⟨h.1,rfl⟩
    · exact⟨h.1,rfl⟩
    · exact h.elim
  | lenT x =>
    simp only[AOp.xs,List.forall_mem_cons] at hx;simp only[AOp.sem] at h ⊢;rw[hx.1];split at h
    · exact⟨h.1,rfl⟩
    · exact h.elim
  | fld off x =>
    simp only[AOp.xs,List.forall_mem_cons] at hx;simp only[AOp.sem] at h ⊢;rw[hx.1];split at h
    · exact⟨h.1,rfl⟩
    · exact⟨h.1,rfl⟩
    · exact h.elim
  | fldv g off n x =>
    simp only[AOp.xs,List.forall_mem_cons] at hx;simp only[AOp.sem] at h ⊢;rw[hx.1];split at h
    case h_2=>exact h.elim
    rename_i cs e;cases hb:ldC g n (cs.drop off) with
    | none=>rw[hb] at h;exact h.elim
    | some u=>rw[hb] at h;exact⟨h.1,rfl⟩
  | idxA k x i =>
    simp only[AOp.xs,List.forall_mem_cons] at hx;simp only[AOp.sem] at h ⊢;rw[hx.1,hx.2.1];split at h
    · obtain⟨h1,k',n,c,h2,h3,h4,h5⟩:=h;exact⟨h1,k',n,c,h2,h3,h4,h5.1,rfl⟩
    · obtain⟨k',n,h2,h3,h4,h5⟩:=h;exact⟨k',n,h2,h3,h4,h5.1,rfl⟩
    · exact h.elim
  | idxP m k x i =>
    simp only[AOp.xs,List.forall_mem_cons] at hx;simp only[AOp.sem] at h ⊢;rw[hx.1,hx.2.1];split at h
    · obtain⟨kk,n,h1,h2,h3,h4⟩:=h;exact⟨kk,n,h1,h2,h3,h4.1,rfl⟩
    · obtain⟨kk,n,h1,h2,h3,h4⟩:=h;exact⟨kk,n,h1,h2,h3,h4.1,rfl⟩
    · exact h.elim
  | idxS x i =>
    simp only[AOp.xs,List.forall_mem_cons] at hx;simp only[AOp.sem] at h ⊢;rw[hx.1,hx.2.1];split at h
    case h_2=>exact h.elim
    obtain⟨k',n,c,h2,h3,h4,h5⟩:=h;exact⟨k',n,c,h2,h3,h4,h5.1,rfl⟩
  | call f xs =>
    obtain rfl:=heff rfl;simp only[AOp.sem] at h ⊢;rw[evs_eq (xs:=xs) hx];refine⟨h.1,h.2.mono fun u σ hu=>?_⟩;obtain rfl:=mk_inj hu.2;exact⟨hu.1,rfl⟩
  | callv x xs =>
    obtain rfl:=heff rfl;simp only[AOp.xs,List.forall_mem_cons] at hx;simp only[AOp.sem] at h ⊢;rw[hx.1,evs_eq hx.2];split at h
    case h_2=>exact h.elim
    refine⟨h.1,h.2.mono fun u σ hu=>?_⟩;obtain rfl:=mk_inj hu.2;exact⟨hu.1,rfl⟩
  | app k x y =>
    obtain rfl:=heff rfl;simp only[AOp.xs,List.forall_mem_cons] at hx;simp only[AOp.sem,AppOk] at h ⊢;rw[hx.1,hx.2.1];obtain⟨tk,l,m,h1,h2,h3,h4⟩:=h;refine⟨tk,l,m,h1,h2,h3,?_⟩;have conv:∀{u:V} {σ:Store},Exact t v s' u ⟨t,s2.1,σ⟩→Exact t2 v (if (AOp.app k x y).eff then s' else s2) u ⟨t2,s2.1,σ⟩:=fun {u σ} hu=>by
      obtain rfl:=mk_inj hu.2;exact⟨hu.1,rfl⟩
    cases tk with
    | no=>exact h4
    | full =>
      rcases h4 with h4 | h4 | ⟨τ,h4,h5⟩
      · exact .inl fun τ hτ=>conv (h4 τ hτ)
      · exact .inr (.inl (conv h4))
      · exact .inr (.inr ⟨τ,h4,conv h5⟩)
    | tk τ=>exact⟨h4.1,conv h4.2⟩
  | appS x y =>
    obtain rfl:=heff rfl;simp only[AOp.xs,List.forall_mem_cons] at hx;simp only[AOp.sem,AppOk] at h ⊢;rw[hx.1,hx.2.1];obtain⟨str,h0,tk,l,m,h1,h2,h3,h4⟩:=h;refine⟨str,h0,tk,l,m,h1,h2,h3,?_⟩;have conv:∀{u:V} {σ:Store},Exact t v s' u ⟨t,s2.1,σ⟩→Exact t2 v (if (AOp.appS x y).eff then s' else s2) u ⟨t2,s2.1,σ⟩:=fun {u σ} hu=>by
      obtain rfl:=mk_inj hu.2;exact⟨hu.1,rfl⟩
    cases tk with
    | no=>exact h4
    | full =>
      rcases h4 with h4 | h4 | ⟨τ,h4,h5⟩
      · exact .inl fun τ hτ=>conv (h4 τ hτ)
      · exact .inr (.inl (conv h4))
      · exact .inr (.inr ⟨τ,h4,conv h5⟩)
    | tk τ=>exact⟨h4.1,conv h4.2⟩
  | slc k x lo hi mx =>
    simp only[AOp.xs,List.forall_mem_cons] at hx;simp only[AOp.sem] at h ⊢;rw[hx.1]
    rcases h with ⟨tk,l,m,n,h1,h2,h3,h4,h5,h6⟩ | ⟨a,n,cap,m,hh,h1,h2,h3,h4,h5,h6,h7⟩
    · refine .inl ⟨tk,l,m,n,h1,h2,h3,?_,?_,?_⟩
      · cases lo with
        | none=>exact h4
        | some y=>simp only at h4 ⊢;rw[hx.2 y (by simp[optX])];exact h4
      · cases hi with
        | none=>exact h5
        | some y=>simp only at h5 ⊢;rw[hx.2 y (by simp[optX])];exact h5
      · cases mx with
        | none=>exact⟨h6.1,rfl⟩
        | some y=>simp only at h6 ⊢;rw[hx.2 y (by simp[optX])];exact⟨h6.1,h6.2.1,rfl⟩
    · refine .inr ⟨a,n,cap,m,hh,h1,h2,h3,?_,?_,h6,h7.1,rfl⟩
      · cases lo with
        | none=>exact h4
        | some y=>simp only at h4 ⊢;rw[hx.2 y (by simp[optX])];exact h4
      · cases hi with
        | none=>exact h5
        | some y=>simp only at h5 ⊢;rw[hx.2 y (by simp[optX])];exact h5
  | slS x lo hi =>
    simp only[AOp.xs,List.forall_mem_cons] at hx;simp only[AOp.sem] at h ⊢;rw[hx.1];obtain⟨l,m,n,h1,h2,h3,h4,h5,h6⟩:=h;refine⟨l,m,n,h1,h2,h3,?_,?_,h6.1,rfl⟩
    · cases lo with
      | none=>exact h4
      | some y=>simp only at h4 ⊢;rw[hx.2 y (by simp[optX])];exact h4
    · cases hi with
      | none=>exact h5
      | some y=>simp only at h5 ⊢;rw[hx.2 y (by simp[optX])];exact h5
  | ext x i =>
    simp only[AOp.xs,List.forall_mem_cons] at hx;simp only[AOp.sem] at h ⊢;rw[hx.1];split at h
    case h_2=>exact h.elim
    rename_i vs e;cases hb:vs[i]? with
    | none=>rw[hb] at h;exact h.elim
    | some u=>rw[hb] at h;exact⟨h.1,rfl⟩
  | mkfn f first cap =>
    simp only[AOp.xs,List.forall_mem_append] at hx;simp only[AOp.sem] at h ⊢;rw[evs_eq hx.1,evs_eq hx.2];exact⟨h.1,rfl⟩
  | cvI k x =>
    simp only[AOp.xs,List.forall_mem_cons] at hx;simp only[AOp.sem] at h ⊢;rw[hx.1];split at h
    · exact⟨h.1,rfl⟩
    · exact h.elim
  | cvBS x =>
    simp only[AOp.xs,List.forall_mem_cons] at hx;simp only[AOp.sem] at h ⊢;rw[hx.1];obtain⟨tk,str,h1,h2⟩:=h;exact⟨tk,str,h1,h2.1,rfl⟩
  | allocO z =>
    obtain rfl:=heff rfl;simp only[AOp.sem,Exact] at h ⊢;refine⟨h.1,fun b hb=>?_⟩;obtain⟨h1,h2⟩:=h.2 b hb;obtain rfl:=mk_inj h2;exact⟨h1,by simp[AOp.eff,mkSt]⟩
  | boxO n x =>
    obtain rfl:=heff rfl;simp only[AOp.xs,List.forall_mem_cons] at hx;simp only[AOp.sem,Exact] at h ⊢;rw[hx.1];refine⟨h.1,h.2.1,fun b hb=>?_⟩;obtain⟨h1,h2⟩:=h.2.2 b hb;obtain rfl:=mk_inj h2;exact⟨h1,by simp[AOp.eff,mkSt]⟩
  | own q xs =>
    simp only[AOp.sem,AOp.xs] at h hx ⊢;rw[evs_eq hx];cases hp:q.pure
    · have he:(AOp.own q xs).eff=true:=by simp[AOp.eff,hp]
      obtain rfl:=heff he;refine OQ.mono (fun u σ' hu=>?_) q _ h;obtain rfl:=mk_inj hu.2;exact⟨hu.1,by rw[if_pos he];rfl⟩
    · have he:¬((AOp.own q xs).eff=true):=by simp[AOp.eff,hp]
      obtain⟨u,h1,h2⟩:=OQ.det hp h;exact h2 _ _ ⟨h1.1,by rw[if_neg he]⟩
end
end Go.Am

namespace Go.Am
def AppD (σ:Store) (k:Nat) (s x:V) (K:V→Store→Prop):Prop :=
  ∃t l m,s = .sl t k l∧(∃t',x = .sl t' k m)∧l.length+m.length≤big ∧
    match t with
    | .full=>K (.sl .no k (l++m)) σ∨∃τ,σ.tip τ=some l.length∧K (.sl (.tk τ) k (l++m)) (σ.setTip τ (l.length+m.length))
    | .tk τ=>σ.tip τ=some l.length∧K (.sl (.tk τ) k (l++m)) (σ.setTip τ (l.length+m.length))
    | .no=>False
def AOp.semD (P:Program) (st:St) (K:V→St→Prop):AOp→Prop
  | .call f xs=>nolL (evs st xs)=true∧∃v σ,PCalls P f (evs st xs) st.out (fun v' σ' => v' = v∧σ' = σ)∧K v ⟨st.t,st.loc,σ⟩
  | .callv x xs => match ev st x with
    | .fn (.func f) a b=>nolL (a++evs st xs++b)=true∧∃v σ,PCalls P f (a++evs st xs++b) st.out (fun v' σ' => v' = v∧σ' = σ)∧K v ⟨st.t,st.loc,σ⟩
    | _=>False
  | .app k s x=>AppD st.out k (ev st s) (ev st x) fun v σ=>K v ⟨st.t,st.loc,σ⟩
  | .appS s x=>∃a,ev st x = .str a∧AppD st.out 1 (ev st s) (.sl .no 1 (encB a)) fun v σ=>K v ⟨st.t,st.loc,σ⟩
  | .allocO _ | .boxO _ _=>False
  | .own q xs=>q.pure=true∧q.sem st.out (fun v σ=>K v ⟨st.t,st.loc,σ⟩) (evs st xs)
  | op=>op.sem P st K
structure TR where
  dst:Option Nat
  val:V
  eff:Bool
  sto:Sto
def putT (t:List V) (d:Option Nat) (v:V):List V :=
  match d with
  | some n=>t.set n v
  | none=>t
theorem put_putT (t:List V) (s:Sto) (d:Option Nat) (v:V):(mkSt t s).put d v=mkSt (putT t d v) s:=by cases d<;>rfl
def stoD:Sto:=([],⟨fun _=>none,fun _=>none,fun _=>none⟩)
def chk1 (SN:List Sto) (g:Bool) (n:Nat) (a v:V):List Nat→Prop
  | []=>True
  | m::ms=>ldS (SN.getD m stoD) g n a=some v∧chk1 SN g n a v ms
def chkL (SN:List Sto):List (V × Bool × Nat × V × List Nat)→Prop
  | []=>True
  | (a,g,n,v,ms)::r=>chk1 SN g n a v ms∧chkL SN r
theorem chk1_mem {SN:List Sto} {g:Bool} {n:Nat} {a v:V}:∀{ms:List Nat},chk1 SN g n a v ms→∀m∈ms,ldS (SN.getD m stoD) g n a=some v
  | [],_,_,h=>by simp at h
  | m :: ms, h, m', h' => by
    rcases List.mem_cons.1 h' with rfl | h'
    · exact h.1
    · exact chk1_mem h.2 m' h'
def ldOf (st:St) (ms:List Nat) (v:V):AOp→List (V × Bool × Nat × V × List Nat)
  | .load g n x=>[(ev st x,g,n,v,ms)]
  | _=>[]
def vcD (P:Program):List (AO × List Nat)→List Sto→List (V × Bool × Nat × V × List Nat)→(St→Prop)→St→Prop
  | [],SN,L,K,st=>chkL SN L∧K st
  | (o, ms) :: r, SN, L, K, st =>
    match o.guard with
    | none=>o.op.semD P st fun v st' => vcD P r (if o.op.eff then SN++[(st'.loc,st'.out)] else SN) (ldOf st ms v o.op++L) K (st'.put o.dst v)
    | some (g, want) =>
      match ev st (.s g) with
      | .bool b =>
        if b=want then o.op.semD P st fun v st' => vcD P r (if o.op.eff then SN++[(st'.loc,st'.out)] else SN) (ldOf st ms v o.op++L) K (st'.put o.dst v)
        else vcD P r (if o.op.eff then SN++[(st.loc,st.out)] else SN) L K (st.put o.dst (.tup []))
      | .tup []=>vcD P r (if o.op.eff then SN++[(st.loc,st.out)] else SN) L K (st.put o.dst (.tup []))
      | _=>False
def StepOk (P:Program) (SN:List Sto) (o:AO) (ms:List Nat) (t:List V) (s:Sto) (r:TR):Prop :=
  r.dst=o.dst∧r.eff=o.op.eff∧∃run:Bool,
    (match o.guard with | none=>run=true | some (g,want)=>(∃b,t.getD g .any = .bool b∧run=(b == want))∨t.getD g .any = .tup []∧run=false) ∧
    (run=true→o.op.sem P (mkSt t s) (Exact t r.val (if o.op.eff then r.sto else s))∧∀g n x,o.op = .load g n x→∀m∈ms,ldS (SN.getD m stoD) g n (ev (mkSt t s) x)=some r.val) ∧
    (run=false→r.val = .tup []∧(r.eff=true→r.sto=s))
def TrOk (P:Program) (SN:List Sto):List (AO × List Nat)→List TR→List V→Sto→Prop
  | [],[],_,_=>True
  | (o,ms)::l,r::tr,t,s=>StepOk P SN o ms t s r∧TrOk P SN l tr (putT t r.dst r.val) (if r.eff then r.sto else s)
  | _,_,_,_=>False
def runT:List TR→List V→List V
  | [],t=>t
  | r::tr,t=>runT tr (putT t r.dst r.val)
def runS:List TR→Sto→Sto
  | [],s=>s
  | r::tr,s=>runS tr (if r.eff then r.sto else s)
def effS:List TR→List Sto
  | []=>[]
  | r::tr=>if r.eff then r.sto::effS tr else effS tr
section
variable {P:Program}
theorem semD_exact {op:AOp} {t:List V} {s:Sto} {K:V→St→Prop} (h:op.semD P (mkSt t s) K):∃v s',op.sem P (mkSt t s) (Exact t v s')∧K v (mkSt t s')∧(op.eff=false→s' = s):=by
  have pureOpt:∀{o:Option V},opt o (K2 K (mkSt t s))→∃v,opt o (K2 (Exact t v s) (mkSt t s))∧K v (mkSt t s):=fun {o} h=>by
    cases o with
    | none=>exact h.elim
    | some u=>exact⟨u,⟨rfl,rfl⟩,h⟩
  cases op with
  | mv x=>exact⟨_,s,⟨rfl,rfl⟩,h,fun _=>rfl⟩
  | pick c a b =>
    simp only[AOp.semD,AOp.sem] at h ⊢;split at h
    · rename_i e;exact⟨_,s,⟨rfl,rfl⟩,h,fun _=>rfl⟩
    · rename_i e;exact⟨_,s,⟨rfl,rfl⟩,h,fun _=>rfl⟩
    · exact h.elim
  | alloc z=>exact⟨_,(s.1++[z],s.2),⟨rfl,rfl⟩,h,fun h=>by simp[AOp.eff] at h⟩
  | box n x=>exact⟨_,(s.1++[(ev (mkSt t s) x).cells],s.2),⟨h.1,rfl,rfl⟩,h.2,fun h=>by simp[AOp.eff] at h⟩
  | boxS n x=>exact⟨_,(s.1++[(ev (mkSt t s) x).cells],s.2),⟨h.1,h.2.1,rfl,rfl⟩,h.2.2,fun h=>by simp[AOp.eff] at h⟩
  | build z ps=>obtain⟨v,h1,h2⟩:=pureOpt h;exact⟨v,s,h1,h2,fun _=>rfl⟩
  | bslice k xs=>obtain⟨v,h1,h2⟩:=pureOpt h;exact⟨v,s,h1,h2,fun _=>rfl⟩
  | load g n x=>obtain⟨v,h1,h2⟩:=pureOpt h;exact⟨v,s,h1,h2,fun _=>rfl⟩
  | store n a x =>
    simp only[AOp.semD,AOp.sem] at h ⊢;split at h
    case h_2=>exact h.elim
    rename_i st' he;have ht:st'.t=t:=by
      generalize ev (mkSt t s) a=av at he;generalize ev (mkSt t s) x=xv at he;cases av with
      | ptr p off =>
        cases p with
        | glo b=>simp[stV] at he
        | loc i =>
          simp only[stV,Option.bind_eq_some_iff] at he;obtain⟨cs,_,h2⟩:=he;split at h2
          · simp only[Option.some.injEq] at h2;subst h2;rfl
          · simp at h2
        | out b =>
          simp only[stV,Option.bind_eq_some_iff] at he;obtain⟨cs,_,h2⟩:=he;split at h2
          · simp only[Option.some.injEq] at h2;subst h2;rfl
          · simp at h2
      | _=>simp[stV] at he
    obtain⟨t',l',o'⟩:=st';simp only at ht;subst ht;exact⟨.any,(l',o'),⟨rfl,rfl⟩,h,fun h=>by simp[AOp.eff] at h⟩
  | nilck x =>
    simp only[AOp.semD,AOp.sem] at h ⊢;split at h<;>first | exact⟨_,s,⟨rfl,rfl⟩,h,fun _=>rfl⟩ | exact h.elim
  | binI op x y=>obtain⟨v,h1,h2⟩:=pureOpt h;exact⟨v,s,h1,h2,fun _=>rfl⟩
  | binS op x y=>obtain⟨v,h1,h2⟩:=pureOpt h;exact⟨v,s,h1,h2,fun _=>rfl⟩
  | binB neg x y=>obtain⟨v,h1,h2⟩:=pureOpt h;exact⟨v,s,h1,h2,fun _=>rfl⟩
  | cat x y =>
    obtain⟨a,b,h1,h2,h3,h4⟩:=h;exact⟨_,s,⟨a,b,h1,h2,h3,rfl,rfl⟩,h4,fun _=>rfl⟩
  | eqA neg n x y=>obtain⟨v,h1,h2⟩:=pureOpt h;exact⟨v,s,h1,h2,fun _=>rfl⟩
  | eqN neg x y =>
    simp only[AOp.semD,AOp.sem] at h ⊢;split at h
    · exact⟨_,s,⟨h.1,rfl,rfl⟩,h.2,fun _=>rfl⟩
    · exact h.elim
  | not x =>
    simp only[AOp.semD,AOp.sem] at h ⊢;split at h
    · exact⟨_,s,⟨rfl,rfl⟩,h,fun _=>rfl⟩
    · exact h.elim
  | lenS x =>
    simp only[AOp.semD,AOp.sem] at h ⊢;split at h
    · exact⟨_,s,⟨rfl,rfl⟩,h,fun _=>rfl⟩
    · exact⟨_,s,⟨rfl,rfl⟩,h,fun _=>rfl⟩
    · exact h.elim
  | lenT x =>
    simp only[AOp.semD,AOp.sem] at h ⊢;split at h
    · exact⟨_,s,⟨rfl,rfl⟩,h,fun _=>rfl⟩
    · exact h.elim
  | fld off x =>
    simp only[AOp.semD,AOp.sem] at h ⊢;split at h
    · exact⟨_,s,⟨rfl,rfl⟩,h,fun _=>rfl⟩
    · exact⟨_,s,⟨rfl,rfl⟩,h,fun _=>rfl⟩
    · exact h.elim
  | fldv g off n x =>
    simp only[AOp.semD,AOp.sem] at h ⊢;split at h
    · obtain⟨v,h1,h2⟩:=pureOpt h;exact⟨v,s,h1,h2,fun _=>rfl⟩
    · exact h.elim
  | idxA k x i =>
    simp only[AOp.semD,AOp.sem] at h ⊢;split at h
    · obtain⟨h1,k',n,c,h2,h3,h4,h5⟩:=h;exact⟨_,s,⟨h1,k',n,c,h2,h3,h4,rfl,rfl⟩,h5,fun _=>rfl⟩
    · obtain⟨k',n,h2,h3,h4,h5⟩:=h;exact⟨_,s,⟨k',n,h2,h3,h4,rfl,rfl⟩,h5,fun _=>rfl⟩
    · exact h.elim
  | idxP m k x i =>
    simp only[AOp.semD,AOp.sem] at h ⊢;split at h
    · obtain⟨kk,n,h1,h2,h3,h4⟩:=h;exact⟨_,s,⟨kk,n,h1,h2,h3,rfl,rfl⟩,h4,fun _=>rfl⟩
    · obtain⟨kk,n,h1,h2,h3,h4⟩:=h;exact⟨_,s,⟨kk,n,h1,h2,h3,rfl,rfl⟩,h4,fun _=>rfl⟩
    · exact h.elim
  | idxS x i =>
    simp only[AOp.semD,AOp.sem] at h ⊢;split at h
    · obtain⟨k',n,c,h2,h3,h4,h5⟩:=h;exact⟨_,s,⟨k',n,c,h2,h3,h4,rfl,rfl⟩,h5,fun _=>rfl⟩
    · exact h.elim
  | call f xs =>
    obtain⟨h1,v,σ,h2,h3⟩:=h;exact⟨v,(s.1,σ),⟨h1,h2.mono fun u σ' hu=>⟨hu.1,by rw[hu.2];rfl⟩⟩,h3,fun h=>by simp[AOp.eff] at h⟩
  | callv x xs =>
    simp only[AOp.semD,AOp.sem] at h ⊢;split at h
    · rename_i e;obtain⟨h1,v,σ,h2,h3⟩:=h;refine⟨v,(s.1,σ),?_,h3,fun h=>by simp[AOp.eff] at h⟩
      (try rw[e])
      exact⟨h1,h2.mono fun u σ' hu=>⟨hu.1,by rw[hu.2];rfl⟩⟩
    · exact h.elim
  | app k x y =>
    obtain⟨tk,l,m,h1,h2,h3,h4⟩:=h;cases tk with
    | no=>exact h4.elim
    | full =>
      rcases h4 with h4 | ⟨τ,h4,h5⟩
      · exact⟨_,s,⟨_,l,m,h1,h2,h3,.inr (.inl ⟨rfl,rfl⟩)⟩,h4,fun h=>by simp[AOp.eff] at h⟩
      · exact⟨_,(s.1,_),⟨_,l,m,h1,h2,h3,.inr (.inr ⟨τ,h4,rfl,rfl⟩)⟩,h5,fun h=>by simp[AOp.eff] at h⟩
    | tk τ=>exact⟨_,(s.1,_),⟨_,l,m,h1,h2,h3,h4.1,rfl,rfl⟩,h4.2,fun h=>by simp[AOp.eff] at h⟩
  | appS x y =>
    obtain⟨a,h0,tk,l,m,h1,h2,h3,h4⟩:=h;cases tk with
    | no=>exact h4.elim
    | full =>
      rcases h4 with h4 | ⟨τ,h4,h5⟩
      · exact⟨_,s,⟨a,h0,_,l,m,h1,h2,h3,.inr (.inl ⟨rfl,rfl⟩)⟩,h4,fun h=>by simp[AOp.eff] at h⟩
      · exact⟨_,(s.1,_),⟨a,h0,_,l,m,h1,h2,h3,.inr (.inr ⟨τ,h4,rfl,rfl⟩)⟩,h5,fun h=>by simp[AOp.eff] at h⟩
    | tk τ=>exact⟨_,(s.1,_),⟨a,h0,_,l,m,h1,h2,h3,h4.1,rfl,rfl⟩,h4.2,fun h=>by simp[AOp.eff] at h⟩
  | slc k x lo hi mx =>
    simp only[AOp.semD,AOp.sem] at h ⊢
    rcases h with ⟨tk,l,m,n,h1,h2,h3,h4,h5,h6⟩ | ⟨a,n,cap,m,hh,h1,h2,h3,h4,h5,h6,h7⟩
    · cases mx with
      | none=>exact⟨_,s,.inl ⟨tk,l,m,n,h1,h2,h3,h4,h5,rfl,rfl⟩,h6,fun _=>rfl⟩
      | some y=>exact⟨_,s,.inl ⟨tk,l,m,n,h1,h2,h3,h4,h5,h6.1,rfl,rfl⟩,h6.2,fun _=>rfl⟩
    · exact⟨_,s,.inr ⟨a,n,cap,m,hh,h1,h2,h3,h4,h5,h6,rfl,rfl⟩,h7,fun _=>rfl⟩
  | slS x lo hi =>
    obtain⟨l,m,n,h1,h2,h3,h4,h5,h6⟩:=h;exact⟨_,s,⟨l,m,n,h1,h2,h3,h4,h5,rfl,rfl⟩,h6,fun _=>rfl⟩
  | ext x i =>
    simp only[AOp.semD,AOp.sem] at h ⊢;split at h
    · obtain⟨v,h1,h2⟩:=pureOpt h;exact⟨v,s,h1,h2,fun _=>rfl⟩
    · exact h.elim
  | mkfn f first cap=>exact⟨_,s,⟨rfl,rfl⟩,h,fun _=>rfl⟩
  | cvI k x =>
    simp only[AOp.semD,AOp.sem] at h ⊢;split at h
    · exact⟨_,s,⟨rfl,rfl⟩,h,fun _=>rfl⟩
    · exact h.elim
  | cvBS x =>
    obtain⟨tk,str,h1,h2⟩:=h;exact⟨_,s,⟨tk,str,h1,rfl,rfl⟩,h2,fun _=>rfl⟩
  | allocO z=>exact h.elim
  | boxO n x=>exact h.elim
  | own q xs =>
    obtain⟨hp,h⟩:=h;obtain⟨v,h1,h2⟩:=OQ.det hp h;have hE:(AOp.own q xs).sem P (mkSt t s) (Exact t v s):=h2 s.2 (fun u σ=>Exact t v s u ⟨t,s.1,σ⟩) ⟨rfl,rfl⟩;exact⟨v,s,hE,h1,fun _=>rfl⟩
theorem chkL_append {SN:List Sto}:∀{l m:List (V × Bool × Nat × V × List Nat)},chkL SN (l++m)↔chkL SN l∧chkL SN m
  | [],m=>by simp[chkL]
  | (a,g,n,v,ms)::l,m=>by simp only[List.cons_append,chkL,chkL_append,and_assoc]
theorem vcD_trace {K:St→Prop}:∀{l:List (AO × List Nat)} {SN:List Sto} {L:List (V × Bool × Nat × V × List Nat)} {t:List V} {s:Sto},vcD P l SN L K (mkSt t s) →
    ∃tr,TrOk P (SN++effS tr) l tr t s∧chkL (SN++effS tr) L∧K (mkSt (runT tr t) (runS tr s))
  | [],SN,L,t,s,h=>⟨[],trivial,by simpa [effS] using h.1,h.2⟩
  | (o, ms) :: l, SN, L, t, s, h => by
    have go:o.op.semD P (mkSt t s) (fun v st' => vcD P l (if o.op.eff then SN++[(st'.loc,st'.out)] else SN) (ldOf (mkSt t s) ms v o.op++L) K (st'.put o.dst v)) →
        (match o.guard with | none=>True | some (g,want)=>∃b,t.getD g .any = .bool b∧true=(b == want)) →
        ∃tr,TrOk P (SN++effS tr) ((o,ms)::l) tr t s∧chkL (SN++effS tr) L∧K (mkSt (runT tr t) (runS tr s)):=fun h hg=>by
      obtain⟨v,s',h1,h2,h3⟩:=semD_exact h;rw[put_putT] at h2;obtain⟨tr,k1,k2,k3⟩:=vcD_trace h2;have hs' : (if o.op.eff then s' else s)=s' := by cases he:o.op.eff<;>simp[he] at h3 ⊢;exact h3.symm
      have hSN:SN++effS (⟨o.dst,v,o.op.eff,s'⟩::tr)=(if o.op.eff then SN++[s'] else SN)++effS tr:=by
        cases o.op.eff<;>simp[effS]
      have hSN' : (if o.op.eff then SN++[((mkSt t s').loc,(mkSt t s').out)] else SN)=(if o.op.eff then SN++[s'] else SN):=rfl;rw[hSN'] at k1 k2;rw[chkL_append] at k2;refine⟨⟨o.dst,v,o.op.eff,s'⟩::tr,?_,by rw[hSN];exact k2.2,?_⟩
      · rw[hSN];refine⟨⟨rfl,rfl,true,?_,fun _=>⟨by rw[hs'];exact h1,fun g n x hx m hm=>?_⟩,fun h=>by simp at h⟩,by simp only[hs'];exact k1⟩
        · cases hgd:o.guard with
          | none=>rfl
          | some p=>rw[hgd] at hg;exact .inl hg
        · rw[hx] at k2
          have:=chk1_mem k2.1.1 m hm
          rw[←hx] at this;exact this
      · simp only[runT,runS,hs'];exact k3
    simp only[vcD] at h;cases hgd:o.guard with
    | none=>rw[hgd] at h;exact go h (by rw[hgd];trivial)
    | some p =>
      obtain⟨g,want⟩:=p;rw[hgd] at h;simp only at h;have skip:∀hb' : ((∃b,t.getD g .any = .bool b∧false=(b == want))∨t.getD g .any = .tup []∧false=false),vcD P l (if o.op.eff then SN++[((mkSt t s).loc,(mkSt t s).out)] else SN) L K ((mkSt t s).put o.dst (.tup [])) →
          ∃tr,TrOk P (SN++effS tr) ((o,ms)::l) tr t s∧chkL (SN++effS tr) L∧K (mkSt (runT tr t) (runS tr s)):=fun hb' h=>by
        rw[put_putT] at h;obtain⟨tr,k1,k2,k3⟩:=vcD_trace h;have hss:(if o.op.eff then s else s)=s:=by simp
        have hSN:SN++effS (⟨o.dst,.tup [],o.op.eff,s⟩::tr)=(if o.op.eff then SN++[s] else SN)++effS tr:=by
          cases o.op.eff<;>simp[effS]
        refine⟨⟨o.dst,.tup [],o.op.eff,s⟩::tr,?_,by rw[hSN];exact k2,?_⟩
        · rw[hSN];refine⟨⟨rfl,rfl,false,by rw[hgd];exact hb',fun h=>by simp at h,fun _=>⟨rfl,fun _=>rfl⟩⟩,by simp only[hss];exact k1⟩
        · simp only[runT,runS,hss];exact k3
      split at h
      · rename_i b hb;have hb' : t.getD g .any = .bool b:=hb;split at h
        · rename_i hw;exact go h (by rw[hgd];exact⟨b,hb',by simp[hw]⟩)
        · rename_i hw;exact skip (.inl ⟨b,hb',by simp[hw]⟩) h
      · rename_i hb;exact skip (.inr ⟨hb,rfl⟩) h
      · exact h.elim
end
end Go.Am

namespace Go.Am
def sel (S:Nat→Bool):Nat→List TR→List TR
  | _,[]=>[]
  | i,r::tr=>if S i then r::sel S (i+1) tr else sel S (i+1) tr
def cnt (S:Nat→Bool):Nat→List TR→Nat
  | _,[]=>0
  | i,r::tr=>(if S i&&r.eff then 1 else 0)+cnt S (i+1) tr
theorem putT_length (t:List V) (d:Option Nat) (v:V):(putT t d v).length=t.length:=by cases d<;>simp[putT]
theorem getD_put (t:List V) (d:Option Nat) (v:V) (x:Nat):(putT t d v).getD x .any=if d=some x then (if x<t.length then v else .any) else t.getD x .any:=by
  cases d with
  | none=>simp[putT]
  | some n =>
    simp only[putT,Option.some.injEq]
    by_cases h:n=x
    · subst h;rw[if_pos rfl]
      by_cases hl:n<t.length
      · rw[if_pos hl];simp[List.getD,List.getElem?_set_self hl]
      · rw[if_neg hl,List.getD,List.getElem?_eq_none (by simp;omega)];rfl
    · rw[if_neg h];simp[List.getD,List.getElem?_set_ne h]
theorem slot_congr {S S' : Nat→Bool} {x:Nat}:∀{tr:List TR} {i:Nat} {t t' : List V},t.length=t'.length→t.getD x .any=t'.getD x .any →
    (∀(j:Nat) r,tr[j]?=some r→r.dst=some x→S (i+j)=S' (i+j))→(runT (sel S i tr) t).getD x .any=(runT (sel S' i tr) t').getD x .any
  | [],i,t,t',_,h,_=>h
  | r :: tr, i, t, t', hl, h, hS => by
    have hrest:∀(j:Nat) r',tr[j]?=some r' → r'.dst=some x→S (i+1+j)=S' (i+1+j):=fun j r' hr hd=>by
      have:=hS (j+1) r' (by simpa using hr) hd
      rw[show i+(j+1)=i+1+j from by omega] at this;exact this
    have h0:r.dst=some x→S i=S' i:=fun hd=>by simpa using hS 0 r (by simp) hd
    simp only[sel]
    by_cases hd:r.dst=some x
    · rw[h0 hd];cases S' i
      · exact slot_congr hl h hrest
      · simp only[if_true,runT];refine slot_congr (by simp[putT_length,hl]) ?_ hrest;rw[getD_put,getD_put,if_pos hd,if_pos hd,hl]
    · have e:∀t:List V,(putT t r.dst r.val).getD x .any=t.getD x .any:=fun t=>by rw[getD_put,if_neg hd]
      cases S i<;>cases S' i<;>simp only[if_true,if_false,Bool.false_eq_true,runT]
      · exact slot_congr hl h hrest
      · exact slot_congr (by simp[putT_length,hl]) (by rw[e];exact h) hrest
      · exact slot_congr (by simp[putT_length,hl]) (by rw[e];exact h) hrest
      · exact slot_congr (by simp[putT_length,hl]) (by rw[e,e];exact h) hrest
theorem putT_comm (t:List V) {d d' : Option Nat} (v v' : V) (h:∀n,d=some n→d' ≠ some n):putT (putT t d v) d' v' = putT (putT t d' v') d v:=by
  cases d with
  | none=>rfl
  | some n =>
    cases d' with
    | none=>rfl
    | some m =>
      simp only[putT];rw[List.set_comm];intro e;exact h n rfl (by rw[e])
theorem runT_put:∀{tr:List TR} {t:List V} {d:Option Nat} {v:V},(∀r∈tr,∀n,d=some n→r.dst≠some n)→runT tr (putT t d v)=putT (runT tr t) d v
  | [],_,_,_,_=>rfl
  | r :: tr, t, d, v, h => by
    simp only[List.forall_mem_cons] at h;simp only[runT];rw[putT_comm t v r.val h.1,runT_put h.2]
theorem sel_mem {S:Nat→Bool}:∀{tr:List TR} {i:Nat} {r:TR},r∈sel S i tr→∃j,tr[j]?=some r∧S (i+j)=true
  | [],_,_,h=>by simp[sel] at h
  | q :: tr, i, r, h => by
    simp only[sel] at h;split at h
    · rename_i hS
      rcases List.mem_cons.1 h with rfl | h
      · exact⟨0,by simp,by simpa using hS⟩
      · obtain⟨j,h1,h2⟩:=sel_mem h;exact⟨j+1,by simpa using h1,by rw[show i+(j+1)=i+1+j from by omega];exact h2⟩
    · obtain⟨j,h1,h2⟩:=sel_mem h;exact⟨j+1,by simpa using h1,by rw[show i+(j+1)=i+1+j from by omega];exact h2⟩
def add (S:Nat→Bool) (k:Nat):Nat→Bool:=fun j=>S j||decide (j=k)
theorem sel_add_ge {S:Nat→Bool} {k:Nat}:∀{tr:List TR} {i:Nat},k<i→sel (add S k) i tr=sel S i tr
  | [],_,_=>rfl
  | r :: tr, i, h => by
    have:add S k i=S i:=by simp[add];intro e;omega
    simp only[sel,this,sel_add_ge (k:=k) (tr:=tr) (i:=i+1) (by omega)]
theorem runT_add {S:Nat→Bool} {k:Nat} {r:TR}:∀{tr:List TR} {i:Nat} {t:List V},i≤k→tr[k - i]?=some r→S k=false→(∀(j:Nat) r',tr[j]?=some r' → i+j≠k→∀n,r.dst=some n→r'.dst≠some n) →
    runT (sel (add S k) i tr) t=putT (runT (sel S i tr) t) r.dst r.val
  | [],i,t,_,h,_,_=>by simp at h
  | q :: tr, i, t, hik, hr, hS, hd => by
    by_cases he:i=k
    · subst he;simp at hr;subst hr;have h1:add S i i=true:=by simp[add]
      simp only[sel,h1,if_true,hS,Bool.false_eq_true,if_false,runT];rw[sel_add_ge (by omega)];refine runT_put fun r' hr' n hn=>?_
      obtain⟨j,h1,_⟩:=sel_mem hr';exact hd (j+1) r' (by simpa using h1) (by omega) n hn
    · have h1:add S k i=S i:=by simp[add,he]
      have hr' : tr[k - (i+1)]?=some r:=by
        rw[show k - i=(k - (i+1))+1 from by omega] at hr;simpa using hr
      have ih:=fun t=>runT_add (tr:=tr) (i:=i+1) (t:=t) (by omega) hr' hS (fun j r' hj hne n hn=>hd (j+1) r' (by simpa using hj) (by omega) n hn)
      simp only[sel,h1];cases S i
      · simpa using ih t
      · simpa [runT] using ih _
theorem runS_none {S:Nat→Bool}:∀{tr:List TR} {i:Nat} {s:Sto},(∀(j:Nat) r,tr[j]?=some r→r.eff=true→S (i+j)=false)→runS (sel S i tr) s=s∧cnt S i tr=0
  | [],_,_,_=>⟨rfl,rfl⟩
  | r :: tr, i, s, h => by
    have ih:=fun s=>runS_none (S:=S) (tr:=tr) (i:=i+1) (s:=s) fun j r' hj he=>by
      have:=h (j+1) r' (by simpa using hj) he
      rw[show i+(j+1)=i+1+j from by omega] at this;exact this
    have h0:r.eff=true→S i=false:=fun he=>by simpa using h 0 r (by simp) he
    simp only[sel,cnt];cases he:r.eff
    · cases S i<;>simp[runS,he,(ih s).1,(ih s).2]
    · rw[h0 he];simp[(ih s).1,(ih s).2]
theorem runS_cnt {S:Nat→Bool}:∀{tr:List TR} {i:Nat} {s:Sto},(∀(j k:Nat) r r',tr[j]?=some r→tr[k]?=some r' → r.eff=true→r'.eff=true→j<k→S (i+k)=true→S (i+j)=true) →
    runS (sel S i tr) s=(s::effS tr).getD (cnt S i tr) stoD
  | [],_,_,_=>by simp[sel,runS,cnt]
  | r :: tr, i, s, h => by
    have hrest:∀(j k:Nat) r r',tr[j]?=some r→tr[k]?=some r' → r.eff=true→r'.eff=true→j<k→S (i+1+k)=true→S (i+1+j)=true:=fun j k q q' h1 h2 h3 h4 h5 h6=>by
      have:=h (j+1) (k+1) q q' (by simpa using h1) (by simpa using h2) h3 h4 (by omega) (by rw[show i+(k+1)=i+1+k from by omega];exact h6)
      rw[show i+(j+1)=i+1+j from by omega] at this;exact this
    have ih:=fun s=>runS_cnt (S:=S) (tr:=tr) (i:=i+1) (s:=s) hrest
    simp only[sel,cnt,effS];cases he:r.eff
    · cases S i<;>simp[runS,he,ih]
    · cases hS:S i
      · obtain⟨h1,h2⟩:=runS_none (S:=S) (tr:=tr) (i:=i+1) (s:=s) fun j r' hj he' => by
          cases hq:S (i+1+j) with
          | false=>rfl
          | true =>
            have:=h 0 (j+1) r r' (by simp) (by simpa using hj) he he' (by omega) (by rw[show i+(j+1)=i+1+j from by omega];exact hq)
            simp[hS] at this
        simp[h1,h2]
      · simp only[if_true,runS,he,ih,Bool.and_self];rw[Nat.add_comm 1,List.getD_cons_succ]
theorem cnt_congr {S S' : Nat→Bool}:∀{tr:List TR} {i:Nat},(∀(j:Nat) r,tr[j]?=some r→r.eff=true→S (i+j)=S' (i+j))→cnt S i tr=cnt S' i tr
  | [],_,_=>rfl
  | r :: tr, i, h => by
    have ih:=cnt_congr (S:=S) (S' := S') (tr:=tr) (i:=i+1) fun j r' hj he=>by
      have:=h (j+1) r' (by simpa using hj) he
      rw[show i+(j+1)=i+1+j from by omega] at this;exact this
    have h0:r.eff=true→S i=S' i:=fun he=>by simpa using h 0 r (by simp) he
    simp only[cnt,ih];cases he:r.eff
    · simp
    · rw[h0 he]
theorem cnt_le {S S' : Nat→Bool}:∀{tr:List TR} {i:Nat},(∀(j:Nat) r,tr[j]?=some r→r.eff=true→S (i+j)=true→S' (i+j)=true)→cnt S i tr≤cnt S' i tr
  | [],_,_=>Nat.le_refl _
  | r :: tr, i, h => by
    have ih:=cnt_le (S:=S) (S' := S') (tr:=tr) (i:=i+1) fun j r' hj he hS=>by
      have:=h (j+1) r' (by simpa using hj) he (by rw[show i+(j+1)=i+1+j from by omega];exact hS)
      rw[show i+(j+1)=i+1+j from by omega] at this;exact this
    have h0:r.eff=true→S i=true→S' i=true:=fun he hS=>by simpa using h 0 r (by simp) he (by simpa using hS)
    simp only[cnt];cases he:r.eff
    · simpa using ih
    · cases hS:S i
      · simp;omega
      · simp[h0 he hS];exact ih
theorem sel_all {S:Nat→Bool}:∀{tr:List TR} {i:Nat},(∀j,j<tr.length→S (i+j)=true)→sel S i tr=tr
  | [],_,_=>rfl
  | r :: tr, i, h => by
    have h0:S i=true:=by simpa using h 0 (by simp)
    simp only[sel,h0,if_true];rw[sel_all fun j hj=>by
      have:=h (j+1) (by simp;omega)
      rw[show i+(j+1)=i+1+j from by omega] at this;exact this]
def upTo (k:Nat):Nat→Bool:=fun j=>decide (j<k)
theorem TrOk_length {P:Program} {SN:List Sto}:∀{l:List (AO × List Nat)} {tr:List TR} {t:List V} {s:Sto},TrOk P SN l tr t s→l.length=tr.length
  | [],[],_,_,_=>rfl
  | [],_::_,_,_,h=>h.elim
  | (o,ms)::_,[],_,_,h=>h.elim
  | (o,ms)::l,r::tr,t,s,h=>by simp[TrOk_length h.2]
theorem sel_upTo_zero:∀{tr:List TR} {i k:Nat},k≤i→sel (upTo k) i tr=[]
  | [],_,_,_=>rfl
  | r :: tr, i, k, h => by
    have:upTo k i=false:=by simp[upTo];omega
    simp only[sel,this,Bool.false_eq_true,if_false];exact sel_upTo_zero (by omega)
theorem TrOk_step {P:Program} {SN:List Sto} {o:AO} {ms:List Nat} {r:TR}:∀{l:List (AO × List Nat)} {tr:List TR} {t:List V} {s:Sto} {i k:Nat},TrOk P SN l tr t s→l[k]?=some (o,ms)→tr[k]?=some r →
    StepOk P SN o ms (runT (sel (upTo (i+k)) i tr) t) (runS (sel (upTo (i+k)) i tr) s) r
  | [],_,_,_,_,_,_,h,_=>by simp at h
  | (_,_)::_,[],_,_,_,_,h,_,_=>h.elim
  | (o', ms') :: l, r' :: tr, t, s, i, k, h, hl, ht => by
    cases k with
    | zero =>
      simp at hl ht;obtain⟨rfl,rfl⟩:=hl;subst ht;rw[sel_upTo_zero (by omega)];exact h.1
    | succ k =>
      have h1:upTo (i+(k+1)) i=true:=by simp[upTo]
      simp only[sel,h1,if_true,runT,runS];rw[show i+(k+1)=i+1+k from by omega];exact TrOk_step h.2 (by simpa using hl) (by simpa using ht)
end Go.Am

namespace Go.Am
def readsOf (o:AO):List Nat:=o.op.xs.flatMap X.slot++(match o.guard with | some (g,_)=>[g] | none=>[])
structure DI where
  dst:Option Nat
  reads:List Nat
  eff:Bool
  ld:Bool
  ms:List Nat
  mask:Nat
def diOf (p:AO × List Nat) (m:Nat):DI:=⟨p.1.dst,readsOf p.1,p.1.op.eff,p.1.op.isLoad,p.2,m⟩
def orE (b:List Nat) (o:Oper):Nat:=o.after.toList.foldl (fun s e=>if Region.binds .any e then s|||2^e.on|||b.getD e.on 0 else s) 0
def chkPair (i:Nat) (x:DI) (j:Nat) (y:DI):Bool :=
  (match y.dst with
   | some d=>(!(x.reads.contains d)||(i != j&&(x.mask.testBit j||y.mask.testBit i)))&&(i == j||x.dst != some d)
   | none=>true)&&(!(decide (i<j)&&x.eff&&y.eff)||y.mask.testBit i)
def cntD (p:Nat→DI→Bool) (l:List DI):Nat:=(l.zipIdx.filter fun (x,j)=>x.eff&&p j x).length
def loOf (l:List DI) (x:DI):Nat:=cntD (fun j _=>x.mask.testBit j) l
def hiOf (l:List DI) (i:Nat):Nat:=cntD (fun _ y=>!(y.mask.testBit i)) l
def nowOf (l:List DI) (i:Nat):Nat:=cntD (fun j _=>decide (j<i)) l
def chkLoad (l:List DI) (i:Nat) (x:DI):Bool :=
  !x.ld||((List.range (hiOf l i+1 - loOf l x)).all fun q=>x.ms.contains (loOf l x+q)||loOf l x+q == nowOf l i)
def drawChk (ops:Array Oper) (l:List (AO × List Nat)) (b:List Nat):Bool :=
  let d:=List.zipWith diOf l b
  decide (l.length=ops.size)&&decide (b.length=ops.size) &&
  ((ops.toList.zip b).zipIdx.all fun ((o,m),i)=>(o.after.toList.all fun e=>!(Region.binds .any e)||decide (e.on<i))&&decide (m=orE b o)) &&
  (d.zipIdx.all fun (x,i)=>(d.zipIdx.all fun (y,j)=>chkPair i x j y)&&chkLoad d i x)
def masks:List Oper→List Nat→List Nat
  | [],b=>b
  | o::os,b=>masks os (b++[orE b o])
def lowAO (P:Program) (ops:Array Oper) (o:Oper):Option AO :=
  match lowOp P o with
  | none=>none
  | some op =>
    match o.guard with
    | none=>some ⟨o.dst,op,none⟩
    | some (j, want) =>
      match (ops[j]?).bind (·.dst) with
      | some g=>some ⟨o.dst,op,some (g,want)⟩
      | none=>none
def lowList (P:Program) (ops:Array Oper):List Oper→Option (List AO)
  | []=>some []
  | o::os=>(lowAO P ops o).bind fun x=>(lowList P ops os).map (x::·)
def lowDraw (P:Program) (ops:Array Oper):Option (List (AO × List Nat)) :=
  match lowList P ops ops.toList with
  | none=>none
  | some l0 =>
    let b:=masks ops.toList []
    let d:=List.zipWith diOf (l0.map fun o=>(o,[])) b
    let l:=(l0.zip d).zipIdx.map fun ((o,x),i)=>(o,if o.op.isLoad then ((List.range (hiOf d i+1 - loOf d x)).map (loOf d x+·)).filter (· != nowOf d i) else [])
    if drawChk ops l b=true∧P.follows .mixedOrders=true then some l else none
structure Facts (ops:Array Oper) (l:List (AO × List Nat)) (b:List Nat):Prop where
  size:l.length=ops.size
  back:∀(i:Nat) o,ops[i]?=some o→∀e∈o.after,Region.binds .any e=true→e.on<i
  mask:∀(i:Nat) o,ops[i]?=some o→∀j,(b.getD i 0).testBit j=true→∃e∈o.after,Region.binds .any e=true∧(j=e.on∨(b.getD e.on 0).testBit j=true)
  slot:∀(i j:Nat) (x y:AO × List Nat),l[i]?=some x→l[j]?=some y→∀d,y.1.dst=some d→d∈readsOf x.1→i≠j∧((b.getD i 0).testBit j=true∨(b.getD j 0).testBit i=true)
  dst:∀(i j:Nat) (x y:AO × List Nat),l[i]?=some x→l[j]?=some y→i≠j→∀d,y.1.dst=some d→x.1.dst≠some d
  eff:∀(i j:Nat) (x y:AO × List Nat),l[i]?=some x→l[j]?=some y→i<j→x.1.op.eff=true→y.1.op.eff=true→(b.getD j 0).testBit i=true
  load:∀(i:Nat) (x:AO × List Nat),l[i]?=some x→x.1.op.isLoad=true→∀m,loOf (List.zipWith diOf l b) (diOf x (b.getD i 0))≤m→m≤hiOf (List.zipWith diOf l b) i→m∈x.2∨m=nowOf (List.zipWith diOf l b) i
theorem orE_bit {b:List Nat} {o:Oper} {j:Nat} (h:(orE b o).testBit j=true):∃e∈o.after,Region.binds .any e=true∧(j=e.on∨(b.getD e.on 0).testBit j=true):=by
  have key:∀(l:List Edge) (s:Nat),(l.foldl (fun s e=>if Region.binds .any e then s|||2^e.on|||b.getD e.on 0 else s) s).testBit j=true →
      s.testBit j=true∨∃e∈l,Region.binds .any e=true∧(j=e.on∨(b.getD e.on 0).testBit j=true):=by
    intro l;induction l with
    | nil=>intro s h;exact .inl h
    | cons e l ih =>
      intro s h;rw[List.foldl_cons] at h
      rcases ih _ h with h1 | ⟨e',h1,h2⟩
      · split at h1
        · rename_i hb;simp only[Nat.testBit_or,Bool.or_eq_true,Nat.testBit_two_pow,decide_eq_true_eq] at h1
          rcases h1 with (h1 | h1) | h1
          · exact .inl h1
          · exact .inr ⟨e,by simp,hb,.inl h1.symm⟩
          · exact .inr ⟨e,by simp,hb,.inr h1⟩
        · exact .inl h1
      · exact .inr ⟨e',by simp[h1],h2⟩
  rcases key o.after.toList 0 h with h1 | ⟨e,h1,h2⟩
  · simp at h1
  · exact⟨e,by simpa using h1,h2⟩
theorem zip_get {l:List (AO × List Nat)} {b:List Nat} (hl:b.length=l.length) {i:Nat} {x:AO × List Nat} (h:l[i]?=some x):(List.zipWith diOf l b)[i]?=some (diOf x (b.getD i 0)):=by
  have hlt:=(List.getElem?_eq_some_iff.1 h).1;rw[List.getElem?_zipWith,h]
  have:b[i]?=some (b.getD i 0):=by
    rw[List.getD,List.getElem?_eq_getElem (by omega)];rfl
  rw[this]
theorem facts {ops:Array Oper} {l:List (AO × List Nat)} {b:List Nat} (h:drawChk ops l b=true):Facts ops l b:=by
  unfold drawChk at h;simp only[Bool.and_eq_true,decide_eq_true_eq,List.all_eq_true] at h;obtain⟨⟨⟨h1,h2⟩,h3⟩,h4⟩:=h;have hzip:∀(i:Nat) o,ops[i]?=some o→((o,b.getD i 0),i)∈(ops.toList.zip b).zipIdx:=fun i o ho=>by
    have hlt:=(Array.getElem?_eq_some_iff.1 ho).1;rw[List.mem_zipIdx_iff_getElem?];rw[List.getElem?_zip_eq_some];refine⟨by simpa using ho,?_⟩;rw[List.getD,List.getElem?_eq_getElem (by omega)];rfl
  have hd:∀(i:Nat) x,l[i]?=some x→(diOf x (b.getD i 0),i)∈(List.zipWith diOf l b).zipIdx:=fun i x hx=>by
    rw[List.mem_zipIdx_iff_getElem?];exact zip_get (by omega) hx
  have pair:∀(i j:Nat) x y,l[i]?=some x→l[j]?=some y→chkPair i (diOf x (b.getD i 0)) j (diOf y (b.getD j 0))=true:=fun i j x y hx hy=>(h4 _ (hd i x hx)).1 _ (hd j y hy)
  refine⟨h1,fun i o ho e he hb=>?_,fun i o ho j hj=>?_,fun i j x y hx hy d hdd hr=>?_,fun i j x y hx hy hne d hdd=>?_,fun i j x y hx hy hlt he1 he2=>?_,fun i x hx hld m hlo hhi=>?_⟩
  · have:=(h3 _ (hzip i o ho)).1 e (by simpa using he)
    simpa [hb] using this
  · have this:b.getD i 0=orE b o:=(h3 _ (hzip i o ho)).2;rw[this] at hj;exact orE_bit hj
  · have:=pair i j x y hx hy
    simp only[chkPair,diOf,hdd,Bool.and_eq_true,Bool.or_eq_true,Bool.not_eq_true',bne_iff_ne,beq_iff_eq] at this;have hc:(readsOf x.1).contains d=true:=by simpa using hr
    rcases this.1.1 with h | ⟨h5,h6⟩
    · rw[hc] at h;simp at h
    · exact⟨h5,h6⟩
  · have:=pair i j x y hx hy
    simp only[chkPair,diOf,hdd,Bool.and_eq_true,Bool.or_eq_true,Bool.not_eq_true',bne_iff_ne,beq_iff_eq] at this
    rcases this.1.2 with h | h
    · exact absurd h hne
    · exact h
  · have:=pair i j x y hx hy
    simp only[chkPair,diOf,Bool.and_eq_true,Bool.or_eq_true,Bool.not_eq_true',he1,he2,hlt,decide_true,Bool.and_self] at this
    rcases this.2 with h | h
    · simp at h
    · exact h
  · have:=(h4 _ (hd i x hx)).2
    simp only[chkLoad,diOf,hld,Bool.or_eq_true,Bool.not_eq_true',List.all_eq_true,List.mem_range,beq_iff_eq] at this
    rcases this with h | h
    · simp at h
    · have:=h (m - loOf (List.zipWith diOf l b) (diOf x (b.getD i 0))) (by simp only[diOf,hld] at hlo ⊢;omega)
      simp only[diOf,hld] at this hlo;rw[show loOf (List.zipWith diOf l b) ⟨x.1.dst,readsOf x.1,x.1.op.eff,true,x.2,b.getD i 0⟩+(m - loOf (List.zipWith diOf l b) ⟨x.1.dst,readsOf x.1,x.1.op.eff,true,x.2,b.getD i 0⟩)=m from by omega] at this
      rcases this with h | h
      · left;simpa using h
      · exact .inr h
theorem lowList_get {P:Program} {ops:Array Oper}:∀{os:List Oper} {l:List AO},lowList P ops os=some l→l.length=os.length∧∀i:Nat,∀o,os[i]?=some o→∃x,l[i]?=some x∧lowAO P ops o=some x
  | [],l,h=>by simp only[lowList,Option.some.injEq] at h;subst h;exact⟨rfl,fun i o h=>by simp at h⟩
  | o :: os, l, h => by
    simp only[lowList,Option.bind_eq_some_iff,Option.map_eq_some_iff] at h;obtain⟨x,h1,l',h2,rfl⟩:=h;obtain⟨h3,h4⟩:=lowList_get h2;refine⟨by simp[h3],fun i q hq=>?_⟩;cases i with
    | zero=>simp at hq;subst hq;exact⟨x,by simp,h1⟩
    | succ i=>simp at hq;obtain⟨y,k1,k2⟩:=h4 i q hq;exact⟨y,by simpa using k1,k2⟩
theorem lowDraw_spec {P:Program} {ops:Array Oper} {l:List (AO × List Nat)} (h:lowDraw P ops=some l) :
    ∃b,Facts ops l b∧b.length=ops.size∧P.follows .mixedOrders=true∧∀(i:Nat) o,ops[i]?=some o→∃x:AO × List Nat,l[i]?=some x∧lowAO P ops o=some x.1:=by
  unfold lowDraw at h;cases h0:lowList P ops ops.toList with
  | none=>rw[h0] at h;simp at h
  | some l0 =>
  rw[h0] at h;simp only at h;split at h
  case isFalse=>simp at h
  rename_i hc;simp only[Option.some.injEq] at h;subst h;refine⟨_,facts hc.1,?_,hc.2,fun i o ho=>?_⟩
  · have:=hc.1
    unfold drawChk at this;simp only[Bool.and_eq_true,decide_eq_true_eq] at this;exact this.1.1.2
  · have hlen:=(facts hc.1).size;obtain⟨h1,h2⟩:=lowList_get h0;obtain⟨x,k1,k2⟩:=h2 i o (by simpa using ho);have hlt:=(Array.getElem?_eq_some_iff.1 ho).1;generalize hL:(l0.zip (List.zipWith diOf (l0.map fun o=>(o,[])) (masks ops.toList [])))=z at hlen ⊢;have hz:i<z.length:=by simp at hlen;omega
    refine⟨_,by rw[List.getElem?_map,List.getElem?_zipIdx,List.getElem?_eq_getElem hz];rfl,?_⟩
    have:z[i].1=x:=by
      have e:z[i]?=some z[i]:=List.getElem?_eq_getElem hz;subst hL;rw[List.getElem?_zip_eq_some] at e;rw[k1] at e;exact(Option.some.inj e.1).symm
    simpa [this] using k2
end Go.Am
