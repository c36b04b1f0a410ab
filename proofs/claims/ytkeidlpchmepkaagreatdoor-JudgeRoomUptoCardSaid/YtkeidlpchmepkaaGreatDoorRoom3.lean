/-
  Part 3 of the proof of JudgeRoomUptoCardSaid: a logic over the model, the forms of the functions that the law reaches, and what they compute.
-/
import Derived.IntWalk
import Derived.Test.YtkeidlpchmepkaaGreatDoorRoom2
set_option linter.unusedVariables false
set_option linter.unusedSimpArgs false
set_option linter.defProp false
set_option linter.unusedSectionVars false

namespace Go.Am
section
variable {P:Program} {d:Option Nat} {r:List AO} {K:St→Prop} {t:List V} {l:List (List V)} {σ:Store} {x y z:X} {Q:Exit→St→Prop} {st:St} {a b:AC}
theorem vc_skip:vc P .skip Q st=Q .normal st:=rfl
theorem vc_reg {o:List AO}:vc P (.reg o) Q st=vcOps P o (Q .normal) st:=rfl
theorem vc_upd:vc P (.upd a) Q st=Upd st (vc P a Q):=rfl
theorem vc_draw {o:List (AO × List Nat)}:vc P (.draw o) Q ⟨t,l,σ⟩=vcD P o [(l,σ)] [] (Q .normal) ⟨t,l,σ⟩:=rfl
theorem vc_seq:vc P (.seq a b) Q st=vc P a (AThen (vc P b Q) Q) st:=rfl
def vcIf (P:Program) (v:V) (a b:AC) (Q:Exit→St→Prop) (st:St):Prop:=match v with | .bool c=>(c=true→vc P a Q st)∧(c=false→vc P b Q st) | _=>False
theorem vc_cond:vc P (.cond x a b) Q st=vcIf P (ev st x) a b Q st:=rfl
theorem vcIf_true:vcIf P (.bool true) a b Q st=vc P a Q st:=by simp[vcIf]
theorem vcIf_false:vcIf P (.bool false) a b Q st=vc P b Q st:=by simp[vcIf]
theorem vcIf_split {c:Bool} (h1:c=true→vc P a Q st) (h2:c=false→vc P b Q st):vcIf P (.bool c) a b Q st:=⟨h1,h2⟩
theorem vc_rangeS {l:List AO} {x:X} {dI dN dM out nxt:Nat} {y:AC} (h:vcOps P l (fun st1=>∃s:List UInt8,ev st1 x = .str s∧(∀c∈s,c.toNat<128)∧∃I:Nat→Nat→St→Prop,
      (∀b,Upd (st1.put (some dI) (.raw (.pointer (some ⟨b,0,none⟩)))) (I b 0)) ∧
      (∀b i st',I b i st' → st'.t.getD dI .any = .raw (.pointer (some ⟨b,0,none⟩))∧dN<st'.t.length∧dM<st'.t.length) ∧
      (∀b i c st',s[i]?=some c→I b i st' → vc P y (Blk nxt (RPost out (I b (i+1)) Q)) ((st'.put (some dN) (.tup [.bool true,.int .i64 (i:Nat),.int .i32 (c.toNat:Nat)])).put (some dM) (.bool true))) ∧
      (∀b st',I b s.length st' → Q .normal ((st'.put (some dN) (.tup [.bool false])).put (some dM) (.bool false)))) st):vc P (.rangeS l x dI dN dM out nxt y) Q st:=h
theorem rPost_normal {out:Nat} {J:St→Prop}:RPost out J Q .normal st=Upd st J:=rfl
theorem rPost_exit {out id:Nat} {J:St→Prop}:RPost out J Q (.exit id) st=if id=out then Q .normal st else Q (.exit id) st:=rfl
theorem rPost_ret {out:Nat} {J:St→Prop}:RPost out J Q .ret st=Q .ret st:=rfl
theorem vc_scope:vc P (.scope a) Q st=vc P a (NoGo Q) st:=rfl
theorem noGo_normal:NoGo Q .normal st=Q .normal st:=rfl
theorem noGo_exit {id:Nat}:NoGo Q (.exit id) st=Q (.exit id) st:=rfl
theorem noGo_ret:NoGo Q .ret st=Q .ret st:=rfl
theorem vc_block {id:Nat}:vc P (.block id a) Q st=vc P a (Blk id Q) st:=rfl
theorem vc_exit {id:Nat}:vc P (.exit id) Q st=Q (.exit id) st:=rfl
theorem vc_ret:vc P .ret Q st=Q .ret st:=rfl
theorem athen_normal:AThen K Q .normal st=K st:=rfl
theorem athen_exit {id:Nat}:AThen K Q (.exit id) st=Q (.exit id) st:=rfl
theorem athen_ret:AThen K Q .ret st=Q .ret st:=rfl
theorem blk_normal {id:Nat}:Blk id Q .normal st=Q .normal st:=rfl
theorem blk_ret {id:Nat}:Blk id Q .ret st=Q .ret st:=rfl
theorem blk_exit {id id' : Nat}:Blk id Q (.exit id') st=if id' = id then Q .normal st else Q (.exit id') st:=rfl
theorem lpost_exit {ι:Type} {I:ι→St} {μ:ι→Nat} {n id:Nat}:LPost I μ Q n (.exit id) st=Q (.exit id) st:=rfl
theorem lpost_ret {ι:Type} {I:ι→St} {μ:ι→Nat} {n:Nat}:LPost I μ Q n .ret st=Q .ret st:=rfl
theorem lpost_normal {ι:Type} {I:ι→St} {μ:ι→Nat} {n:Nat}:LPost I μ Q n .normal st=Upd st fun st' => ∃j,st' = I j∧μ j<n:=rfl
theorem vc_loop {ι:Type} (I:ι→St) (μ:ι→Nat) (h0:Upd st fun st' => ∃i,st' = I i) (h:∀i,vc P a (LPost I μ Q (μ i)) (I i)):vc P (.loop a) Q st:=⟨ι,I,μ,h0,h⟩
theorem retQ_ret {rs:List RV} {R' : V→Store→Prop}:RetQ rs R' .ret st=opt ((rvs st rs).map one1) (RetK R' st):=rfl
theorem retQ_normal {rs:List RV} {R' : V→Store→Prop}:RetQ rs R' .normal st=opt ((rvs st rs).map one1) (RetK R' st):=rfl
theorem opt_some {v:V} {K:V→Prop}:opt (some v) K=K v:=rfl
theorem rvs_nil:rvs st []=some []:=rfl
def consO (v:Option V) (l:Option (List V)):Option (List V):=v.bind fun x=>l.map (x::·)
theorem consO_some {v:V} {l:List V}:consO (some v) (some l)=some (v::l):=rfl
theorem rvs_cons {y:RV} {rs:List RV}:rvs st (y::rs)=consO (rv st y) (rvs st rs):=rfl
theorem rv_tmp {n:Nat}:rv ⟨t,l,σ⟩ (.tmp n)=some (t.getD n .any):=rfl
theorem rv_cell {n m:Nat} {g:Bool}:rv ⟨t,l,σ⟩ (.cell n g m)=ldV ⟨t,l,σ⟩ g m (t.getD n .any):=rfl
theorem one1_one {v:V}:one1 [v]=v:=rfl
theorem one1_nil:one1 [] = .tup []:=rfl
theorem one1_more {u v:V} {l:List V}:one1 (u::v::l) = .tup (u::v::l):=rfl
theorem map_some' {v:List V} {f:List V→V}:Option.map f (some v)=some (f v):=rfl
theorem retK_intro {R' : V→Store→Prop} {v:V} (h1:v.nol=true) {σ' : Store} (h2:σ'.sub σ) (h3:R' v.erase σ'):RetK R' ⟨t,l,σ⟩ v:=⟨h1,σ',h2,h3⟩
theorem retS {w v:V} (h:v.erase=w) (h1:v.nol=true:=by rfl):RetK (fun v σ' => v=w∧σ' = σ) ⟨t,l,σ⟩ v:=retK_intro h1 (Store.sub_refl _) ⟨h,rfl⟩
theorem ev_s {n:Nat}:ev ⟨t,l,σ⟩ (.s n)=t.getD n .any:=rfl
theorem ev_c {v:V}:ev st (.c v)=v:=rfl
theorem evs_nil:evs st []=[]:=rfl
theorem evs_cons {xs:List X}:evs st (x::xs)=ev st x::evs st xs:=rfl
theorem getD_zero {v w:V}:(v::t).getD 0 w=v:=rfl
theorem getD_succ {v w:V} {n:Nat}:(v::t).getD (n+1) w=t.getD n w:=rfl
theorem set_zero {v w:V}:(v::t).set 0 w=w::t:=rfl
theorem set_succ {v w:V} {n:Nat}:(v::t).set (n+1) w=v::t.set n w:=rfl
theorem put_some {n:Nat} {v:V}:St.put ⟨t,l,σ⟩ (some n) v=⟨t.set n v,l,σ⟩:=rfl
theorem put_none {v:V}:St.put st none v=st:=rfl
theorem o_nil:vcOps P [] K st=K st:=rfl
def kL (P:Program) (d:Option Nat) (r:List AO) (K:St→Prop) (st:St) (v:V):Prop:=vcOps P r K (st.put d v)
theorem kL_eq {v:V}:kL P d r K ⟨t,l,σ⟩ v=vcOps P r K (St.put ⟨t,l,σ⟩ d v):=rfl
def optL (o:Option V) (K:V→Prop):Prop:=match o with | some v=>K v | none=>False
theorem optL_some {v:V} {K:V→Prop}:optL (some v) K=K v:=rfl
theorem o_mv:vcOps P (⟨d,.mv x,none⟩::r) K st=vcOps P r K (st.put d (ev st x)):=rfl
def pickL (P:Program) (v a b:V) (d:Option Nat) (r:List AO) (K:St→Prop) (st:St):Prop:=match v with | .bool true=>vcOps P r K (st.put d a) | .bool false=>vcOps P r K (st.put d b) | _=>False
theorem o_pick:vcOps P (⟨d,.pick x y z,none⟩::r) K st=pickL P (ev st x) (ev st y) (ev st z) d r K st:=by
  simp only[vcOps,AOp.sem,pickL];cases ev st x<;>first | rfl | (rename_i b;cases b<;>rfl)
theorem pickL_true {u v:V}:pickL P (.bool true) u v d r K st=vcOps P r K (st.put d u):=rfl
theorem pickL_false {u v:V}:pickL P (.bool false) u v d r K st=vcOps P r K (st.put d v):=rfl
theorem pickL_ff {b c:Bool}:pickL P (.bool b) (.bool c) (.bool false) d r K st=vcOps P r K (st.put d (.bool (b&&c))):=by cases b<;>simp[pickL]
theorem pickL_tt {b c:Bool}:pickL P (.bool b) (.bool true) (.bool c) d r K st=vcOps P r K (st.put d (.bool (b||c))):=by cases b<;>simp[pickL]
theorem o_alloc {c:List V}:vcOps P (⟨d,.alloc c,none⟩::r) K ⟨t,l,σ⟩=vcOps P r K (St.put ⟨t,l++[c],σ⟩ d (.ptr (.loc l.length) 0)):=rfl
theorem o_box {n:Nat}:vcOps P (⟨d,.box n x,none⟩::r) K ⟨t,l,σ⟩=((ev ⟨t,l,σ⟩ x).wd=some n∧vcOps P r K (St.put ⟨t,l++[(ev ⟨t,l,σ⟩ x).cells],σ⟩ d (.ptr (.loc l.length) 0))):=rfl
def kO (P:Program) (d:Option Nat) (r:List AO) (K:St→Prop) (st:St) (cs:List V):Prop:=∀b,st.out.box b=none→vcOps P r K (St.put ⟨st.t,st.loc,st.out.set b cs⟩ d (.ptr (.out b) 0))
theorem o_allocO {c:List V}:vcOps P (⟨d,.allocO c,none⟩::r) K st=(nolL c=true∧kO P d r K st c):=rfl
theorem o_boxO {n:Nat}:vcOps P (⟨d,.boxO n x,none⟩::r) K st=((ev st x).wd=some n∧nolL (ev st x).cells=true∧kO P d r K st (ev st x).cells):=rfl
theorem kO_intro {c:List V} (h:∀b,σ.box b=none→vcOps P r K (St.put ⟨t,l,σ.set b c⟩ d (.ptr (.out b) 0))):kO P d r K ⟨t,l,σ⟩ c:=h
theorem o_build {c:List V} {ps:List (Nat × Nat × X)}:vcOps P (⟨d,.build c ps,none⟩::r) K st=optL ((buildV st c ps).map V.agg) (kL P d r K st):=rfl
def optR (o:Option (List (List V))) (k:Nat) (K:V→Prop):Prop:=match o with | some v=>K (.sl .full k v) | none=>False
theorem optR_some {v:List (List V)} {k:Nat} {K:V→Prop}:optR (some v) k K=K (.sl .full k v):=rfl
theorem o_bslice {k:Nat} {xs:List X}:vcOps P (⟨d,.bslice k xs,none⟩::r) K st=optR (rowsV st k xs) k (kL P d r K st):=by
  simp only[vcOps,AOp.sem];cases rowsV st k xs<;>rfl
theorem o_load {g:Bool} {n:Nat}:vcOps P (⟨d,.load g n x,none⟩::r) K st=optL (ldV st g n (ev st x)) (kL P d r K st):=rfl
def optS (P:Program) (o:Option St) (d:Option Nat) (r:List AO) (K:St→Prop):Prop:=match o with | some st=>vcOps P r K (st.put d .any) | none=>False
theorem optS_some:optS P (some st) d r K=vcOps P r K (st.put d .any):=rfl
theorem o_store {n:Nat}:vcOps P (⟨d,.store n x y,none⟩::r) K st=optS P (stV st n (ev st y) (ev st x)) d r K:=by
  simp only[vcOps,AOp.sem,optS];cases stV st n (ev st y) (ev st x)<;>rfl
def nilckL (v:V) (K:V→Prop):Prop:=match v with | .ptr p o=>K (.ptr p o) | .elt c o=>K (.elt c o) | .fn (.func f) a b=>K (.fn (.func f) a b) | _=>False
theorem o_nilck:vcOps P (⟨d,.nilck x,none⟩::r) K st=nilckL (ev st x) (kL P d r K st):=by
  simp only[vcOps,AOp.sem,nilckL];cases ev st x<;>first | rfl | (rename_i f _ _;cases f<;>rfl)
theorem nilckL_ptr {p:Pl} {o:Nat} {K:V→Prop}:nilckL (.ptr p o) K=K (.ptr p o):=rfl
theorem nilckL_elt {c:List V} {o:Nat} {K:V→Prop}:nilckL (.elt c o) K=K (.elt c o):=rfl
theorem nilckL_fn {f:FuncId} {c e:List V} {K:V→Prop}:nilckL (.fn (.func f) c e) K=K (.fn (.func f) c e):=rfl
theorem o_binI {op:BinOp}:vcOps P (⟨d,.binI op x y,none⟩::r) K st=optL (binIV op (ev st x) (ev st y)) (kL P d r K st):=rfl
theorem o_binS {op:BinOp}:vcOps P (⟨d,.binS op x y,none⟩::r) K st=optL (binSV op (ev st x) (ev st y)) (kL P d r K st):=rfl
theorem o_binB {n:Bool}:vcOps P (⟨d,.binB n x y,none⟩::r) K st=optL (eqBV n (ev st x) (ev st y)) (kL P d r K st):=rfl
def catL (u v:V) (K:V→Prop):Prop:=∃a b,u = .str a∧v = .str b∧a.length+b.length≤big∧K (.str (a++b))
theorem o_cat:vcOps P (⟨d,.cat x y,none⟩::r) K st=catL (ev st x) (ev st y) (kL P d r K st):=rfl
theorem catL_str {a b:List UInt8} {K:V→Prop}:catL (.str a) (.str b) K=(a.length+b.length≤big∧K (.str (a++b))):=by
  simp only[catL,V.str.injEq,eq_iff_iff];constructor
  · rintro⟨a',b',rfl,rfl,h1,h2⟩;exact⟨h1,h2⟩
  · rintro⟨h1,h2⟩;exact⟨a,b,rfl,rfl,h1,h2⟩
theorem o_eqA {n:Bool} {ks:List Nat}:vcOps P (⟨d,.eqA n ks x y,none⟩::r) K st=optL (eqAV n ks (ev st x) (ev st y)) (kL P d r K st):=rfl
def notL (v:V) (K:V→Prop):Prop:=match v with | .bool b=>K (.bool (!b)) | _=>False
theorem o_not:vcOps P (⟨d,.not x,none⟩::r) K st=notL (ev st x) (kL P d r K st):=by
  simp only[vcOps,AOp.sem,notL];cases ev st x<;>rfl
theorem notL_bool {b:Bool} {K:V→Prop}:notL (.bool b) K=K (.bool (!b)):=rfl
def lenL (v:V) (K:V→Prop):Prop:=match v with | .sl _ _ l=>K (.int .i64 l.length) | .raw (.slice _ n _)=>K (.int .i64 n) | _=>False
theorem o_lenS:vcOps P (⟨d,.lenS x,none⟩::r) K st=lenL (ev st x) (kL P d r K st):=by
  simp only[vcOps,AOp.sem,lenL];cases ev st x<;>rfl
theorem lenL_sl {τ:Tk} {k:Nat} {m:List (List V)} {K:V→Prop}:lenL (.sl τ k m) K=K (.int .i64 m.length):=rfl
def lenTL (v:V) (K:V→Prop):Prop:=match v with | .str s=>K (.int .i64 s.length) | _=>False
theorem o_lenT:vcOps P (⟨d,.lenT x,none⟩::r) K st=lenTL (ev st x) (kL P d r K st):=by
  simp only[vcOps,AOp.sem,lenTL];cases ev st x<;>rfl
theorem lenTL_str {s:List UInt8} {K:V→Prop}:lenTL (.str s) K=K (.int .i64 s.length):=rfl
def fldL (off:Nat) (v:V) (K:V→Prop):Prop:=match v with | .ptr p o=>K (.ptr p (o+off)) | .elt c o=>K (.elt c (o+off)) | _=>False
theorem o_fld {n:Nat}:vcOps P (⟨d,.fld n x,none⟩::r) K st=fldL n (ev st x) (kL P d r K st):=by
  simp only[vcOps,AOp.sem,fldL];cases ev st x<;>rfl
theorem fldL_ptr {p:Pl} {o n:Nat} {K:V→Prop}:fldL n (.ptr p o) K=K (.ptr p (o+n)):=rfl
theorem fldL_elt {c:List V} {o n:Nat} {K:V→Prop}:fldL n (.elt c o) K=K (.elt c (o+n)):=rfl
def fldvL (g:Bool) (off n:Nat) (v:V) (K:V→Prop):Prop:=match v with | .agg cs=>optL (ldC g n (cs.drop off)) K | _=>False
theorem o_fldv {g:Bool} {n m:Nat}:vcOps P (⟨d,.fldv g m n x,none⟩::r) K st=fldvL g m n (ev st x) (kL P d r K st):=by
  simp only[vcOps,AOp.sem,fldvL];cases ev st x<;>rfl
theorem fldvL_agg {g:Bool} {n m:Nat} {cs:List V} {K:V→Prop}:fldvL g m n (.agg cs) K=optL (ldC g n (cs.drop m)) K:=rfl
def idxL (k:Nat) (v i:V) (K:V→Prop):Prop:=match v with
  | .sl _ k' l=>k' = k∧IdxOk l i fun c=>K (.elt c 0)
  | .raw (.slice (some ⟨b,o,none⟩) n _)=>∃ik j,i = .int ik j∧0≤j∧j<n∧K (.ptr (.out b) (o+j.toNat*k))
  | _=>False
theorem o_idxA {k:Nat}:vcOps P (⟨d,.idxA k x y,none⟩::r) K st=idxL k (ev st x) (ev st y) (kL P d r K st):=by
  simp only[vcOps,AOp.sem,idxL];cases ev st x<;>rfl
theorem idxL_intro {k:Nat} {τ:Tk} {m:List (List V)} {ik:IntKind} {n:Int} {c:List V} {K:V→Prop} (h0:0≤n) (h:m[n.toNat]?=some c) (hk:K (.elt c 0)):idxL k (.sl τ k m) (.int ik n) K:=⟨rfl,ik,n,c,rfl,h0,h,hk⟩
def idxPL (m k:Nat) (v i:V) (K:V→Prop):Prop:=match v with
  | .ptr p o=>∃kk n,i = .int kk n∧0≤n∧n<(m:Nat)∧K (.ptr p (o+n.toNat*k))
  | .elt c o=>∃kk n,i = .int kk n∧0≤n∧n<(m:Nat)∧K (.elt c (o+n.toNat*k))
  | _=>False
theorem o_idxP {m k:Nat}:vcOps P (⟨d,.idxP m k x y,none⟩::r) K st=idxPL m k (ev st x) (ev st y) (kL P d r K st):=by
  simp only[vcOps,AOp.sem,idxPL];cases ev st x<;>rfl
theorem idxPL_ptr {m k o:Nat} {p:Pl} {ik:IntKind} {n:Int} {K:V→Prop} (h0:0≤n) (h:n<(m:Nat)) (hk:K (.ptr p (o+n.toNat*k))):idxPL m k (.ptr p o) (.int ik n) K:=⟨ik,n,rfl,h0,h,hk⟩
theorem idxPL_elt {m k o:Nat} {c:List V} {ik:IntKind} {n:Int} {K:V→Prop} (h0:0≤n) (h:n<(m:Nat)) (hk:K (.elt c (o+n.toNat*k))):idxPL m k (.elt c o) (.int ik n) K:=⟨ik,n,rfl,h0,h,hk⟩
def idxSL (v i:V) (K:V→Prop):Prop:=match v with | .str s=>∃k n c,i = .int k n∧0≤n∧s[n.toNat]?=some c∧K (.int .u8 c.toNat) | _=>False
theorem o_idxS:vcOps P (⟨d,.idxS x y,none⟩::r) K st=idxSL (ev st x) (ev st y) (kL P d r K st):=by
  simp only[vcOps,AOp.sem,idxSL];cases ev st x<;>rfl
theorem idxSL_intro {s:List UInt8} {ik:IntKind} {n:Int} {c:UInt8} {K:V→Prop} (h0:0≤n) (h:s[n.toNat]?=some c) (hk:K (.int .u8 c.toNat)):idxSL (.str s) (.int ik n) K:=⟨ik,n,c,rfl,h0,h,hk⟩
def kC (P:Program) (d:Option Nat) (r:List AO) (K:St→Prop) (t:List V) (l:List (List V)) (v:V) (σ:Store):Prop:=vcOps P r K (St.put ⟨t,l,σ⟩ d v)
theorem kC_eq {v:V}:kC P d r K t l v σ=vcOps P r K (St.put ⟨t,l,σ⟩ d v):=rfl
theorem o_call {f:FuncId} {xs:List X}:vcOps P (⟨d,.call f xs,none⟩::r) K ⟨t,l,σ⟩=(nolL (evs ⟨t,l,σ⟩ xs)=true∧PCalls P f (evs ⟨t,l,σ⟩ xs) σ (kC P d r K t l)):=rfl
def callL (P:Program) (v:V) (args:List V) (σ:Store) (K:V→Store→Prop):Prop:=match v with | .fn (.func f) a b=>nolL (a++args++b)=true∧PCalls P f (a++args++b) σ K | _=>False
theorem o_callv {xs:List X}:vcOps P (⟨d,.callv x xs,none⟩::r) K ⟨t,l,σ⟩=callL P (ev ⟨t,l,σ⟩ x) (evs ⟨t,l,σ⟩ xs) σ (kC P d r K t l):=by
  simp only[vcOps,AOp.sem,callL];cases ev ⟨t,l,σ⟩ x<;>first | rfl | (rename_i f _ _;cases f<;>rfl)
theorem callL_fn {f:FuncId} {u args v:List V} {K:V→Store→Prop}:callL P (.fn (.func f) u v) args σ K=(nolL (u++args++v)=true∧PCalls P f (u++args++v) σ K):=rfl
theorem o_app {k:Nat}:vcOps P (⟨d,.app k x y,none⟩::r) K ⟨t,l,σ⟩=AppOk σ k (ev ⟨t,l,σ⟩ x) (ev ⟨t,l,σ⟩ y) (kC P d r K t l):=rfl
theorem o_appS:vcOps P (⟨d,.appS x y,none⟩::r) K ⟨t,l,σ⟩=(∃a,ev ⟨t,l,σ⟩ y = .str a∧AppOk σ 1 (ev ⟨t,l,σ⟩ x) (.sl .no 1 (encB a)) (kC P d r K t l)):=rfl
theorem app_tk {k:Nat} {τ:Nat} {u:Tk} {m n:List (List V)} {K:V→Store→Prop} (hb:m.length+n.length≤big) (ht:σ.tip τ=some m.length) (hk:K (.sl (.tk τ) k (m++n)) (σ.setTip τ (m.length+n.length))) :
    AppOk σ k (.sl (.tk τ) k m) (.sl u k n) K:=⟨_,m,n,rfl,⟨u,rfl⟩,hb,ht,hk⟩
theorem app_full {k:Nat} {u:Tk} {m n:List (List V)} {K:V→Store→Prop} (hb:m.length+n.length≤big) (hk:∀τ,σ.tip τ=none→K (.sl (.tk τ) k (m++n)) (σ.setTip τ (m.length+n.length))) :
    AppOk σ k (.sl .full k m) (.sl u k n) K:=⟨_,m,n,rfl,⟨u,rfl⟩,hb,.inl hk⟩
theorem app_full_no {k:Nat} {u:Tk} {m n:List (List V)} {K:V→Store→Prop} (hb:m.length+n.length≤big) (hk:K (.sl .no k (m++n)) σ) :
    AppOk σ k (.sl .full k m) (.sl u k n) K:=⟨_,m,n,rfl,⟨u,rfl⟩,hb,.inr (.inl hk)⟩
def extL (i:Nat) (v:V) (K:V→Prop):Prop:=match v with | .tup vs=>optL vs[i]? K | _=>False
theorem o_ext {i:Nat}:vcOps P (⟨d,.ext x i,none⟩::r) K st=extL i (ev st x) (kL P d r K st):=by
  simp only[vcOps,AOp.sem,extL];cases ev st x<;>rfl
theorem extL_zero {u:V} {us:List V} {K:V→Prop}:extL 0 (.tup (u::us)) K=K u:=rfl
theorem extL_succ {i:Nat} {u:V} {us:List V} {K:V→Prop}:extL (i+1) (.tup (u::us)) K=extL i (.tup us) K:=rfl
theorem o_mkfn {f:Fn} {as bs:List X}:vcOps P (⟨d,.mkfn f as bs,none⟩::r) K st=vcOps P r K (st.put d (.fn f (evs st as) (evs st bs))):=rfl
def cvL' (k:IntKind) (v:V) (K:V→Prop):Prop:=match v with | .int _ n=>K (.int k (k.wrap n)) | _=>False
theorem o_cvI {k:IntKind}:vcOps P (⟨d,.cvI k x,none⟩::r) K st=cvL' k (ev st x) (kL P d r K st):=by
  simp only[vcOps,AOp.sem,cvL'];cases ev st x<;>rfl
theorem cvL_int {k j:IntKind} {n:Int} {K:V→Prop}:cvL' k (.int j n) K=K (.int k (k.wrap n)):=rfl
theorem o_cvBS:vcOps P (⟨d,.cvBS x,none⟩::r) K st=(∃t s,ev st x = .sl t 1 (encB s)∧kL P d r K st (.str s)):=rfl
def gL (P:Program) (v:V) (w:Bool) (d:Option Nat) (op:AOp) (r:List AO) (K:St→Prop) (st:St):Prop :=
  match v with
  | .bool b=>if b=w then vcOps P (⟨d,op,none⟩::r) K st else vcOps P r K (st.put d (.tup []))
  | .tup []=>vcOps P r K (st.put d (.tup []))
  | _=>False
theorem o_guard {g:Nat} {w:Bool} {op:AOp}:vcOps P (⟨d,op,some (g,w)⟩::r) K ⟨t,l,σ⟩=gL P (t.getD g .any) w d op r K ⟨t,l,σ⟩:=by
  simp only[vcOps,gL,ev];generalize t.getD g .any=v;cases v<;>first | rfl | (rename_i m;cases m<;>rfl)
theorem gL_und {w:Bool} {op:AOp}:gL P (.tup []) w d op r K st=vcOps P r K (st.put d (.tup [])):=rfl
theorem gL_tt {op:AOp}:gL P (.bool true) true d op r K st=vcOps P (⟨d,op,none⟩::r) K st:=rfl
theorem gL_ff {op:AOp}:gL P (.bool false) false d op r K st=vcOps P (⟨d,op,none⟩::r) K st:=rfl
theorem gL_tf {op:AOp}:gL P (.bool true) false d op r K st=vcOps P r K (st.put d (.tup [])):=rfl
theorem gL_ft {op:AOp}:gL P (.bool false) true d op r K st=vcOps P r K (st.put d (.tup [])):=rfl
def ldB (c:Option (List V)) (g:Bool) (n o:Nat):Option V:=c.bind fun cs=>ldC g n (cs.drop o)
theorem ldB_some {c:List V} {g:Bool} {n o:Nat}:ldB (some c) g n o=ldC g n (c.drop o):=rfl
theorem ldV_loc' {g:Bool} {n i o:Nat}:ldV ⟨t,l,σ⟩ g n (.ptr (.loc i) o)=ldB l[i]? g n o:=rfl
theorem ldV_out {g:Bool} {n i o:Nat}:ldV ⟨t,l,σ⟩ g n (.ptr (.out i) o)=ldB (σ.box i) g n o:=rfl
theorem ldV_glo {g:Bool} {n i o:Nat}:ldV ⟨t,l,σ⟩ g n (.ptr (.glo i) o)=ldB (σ.con i) g n o:=rfl
theorem ldV_elt {g:Bool} {n o:Nat} {cs:List V}:ldV st g n (.elt cs o)=ldC g n (cs.drop o):=rfl
theorem ldC_agg {n:Nat} {cs:List V}:ldC true n cs=(takeN n cs).map V.agg:=rfl
theorem ldC_one {n:Nat} {c:V} {cs:List V}:ldC false n (c::cs)=some c:=rfl
theorem takeN_zero {cs:List V}:takeN 0 cs=some []:=rfl
def mapC (c:V):Option (List V)→Option (List V) | some l=>some (c::l) | none=>none
theorem takeN_succ' {n:Nat} {c:V} {cs:List V}:takeN (n+1) (c::cs)=mapC c (takeN n cs):=by
  simp only[takeN];cases takeN n cs<;>rfl
theorem mapC_some {c:V} {cs:List V}:mapC c (some cs)=some (c::cs):=rfl
theorem drop_zero' {cs:List V}:cs.drop 0=cs:=rfl
theorem drop_succ {n:Nat} {c:V} {cs:List V}:(c::cs).drop (n+1)=cs.drop n:=rfl
def stL (t:List V) (l:List (List V)) (σ:Store) (i o n:Nat) (x:V):Option (List V)→Option St
  | some cs=>if hasN n (cs.drop o)=true∧x.wd=some n∧oneL x.cells=true then some ⟨t,l.set i (setAt cs o x.cells),σ⟩ else none
  | none=>none
theorem stV_loc {n i o:Nat} {v:V}:stV ⟨t,l,σ⟩ n v (.ptr (.loc i) o)=stL t l σ i o n v l[i]?:=by
  simp only[stV];cases l[i]?<;>rfl
theorem stL_some {n i o:Nat} {v:V} {cs:List V}:stL t l σ i o n v (some cs)=if hasN n (cs.drop o)=true∧v.wd=some n∧oneL v.cells=true then some ⟨t,l.set i (setAt cs o v.cells),σ⟩ else none:=rfl
def stO (t:List V) (l:List (List V)) (σ:Store) (i o n:Nat) (x:V):Option (List V)→Option St
  | some cs=>if hasN n (cs.drop o)=true∧x.wd=some n∧oneL x.cells=true∧nolL x.cells=true then some ⟨t,l,σ.set i (setAt cs o x.cells)⟩ else none
  | none=>none
theorem stV_out {n i o:Nat} {v:V}:stV ⟨t,l,σ⟩ n v (.ptr (.out i) o)=stO t l σ i o n v (σ.box i):=by
  simp only[stV];cases σ.box i<;>rfl
theorem stO_some {n i o:Nat} {v:V} {cs:List V}:stO t l σ i o n v (some cs)=if hasN n (cs.drop o)=true∧v.wd=some n∧oneL v.cells=true∧nolL v.cells=true then some ⟨t,l,σ.set i (setAt cs o v.cells)⟩ else none:=rfl
theorem set_box {b:Nat} {cs:List V}:(σ.set b cs).box b=some cs:=by simp[Store.set]
theorem set_box_ne {b c:Nat} {cs:List V} (h:c≠b):(σ.set b cs).box c=σ.box c:=by simp[Store.set,h]
theorem setTip_box {b τ n:Nat}:(σ.setTip τ n).box b=σ.box b:=rfl
theorem set_con {b g:Nat} {cs:List V}:(σ.set b cs).con g=σ.con g:=rfl
theorem setTip_con {g τ n:Nat}:(σ.setTip τ n).con g=σ.con g:=rfl
theorem set_tip {b τ:Nat} {cs:List V}:(σ.set b cs).tip τ=σ.tip τ:=rfl
theorem setTip_tip {τ n:Nat}:(σ.setTip τ n).tip τ=some n:=by simp[Store.setTip]
theorem setTip_tip_ne {τ υ n:Nat} (h:υ≠τ):(σ.setTip τ n).tip υ=σ.tip υ:=by simp[Store.setTip,h]
theorem buildV_nil {c:List V}:buildV st c []=some c:=rfl
def bldL (st:St) (c:List V) (off n:Nat) (v:V) (ps:List (Nat × Nat × X)):Option (List V):=if hasN n (c.drop off)=true∧v.wd=some n then buildV st (setAt c off v.cells) ps else none
theorem buildV_cons {c:List V} {off n:Nat} {ps:List (Nat × Nat × X)}:buildV st c ((off,n,x)::ps)=bldL st c off n (ev st x) ps:=rfl
theorem bldL_ok {c:List V} {off n:Nat} {v:V} {ps:List (Nat × Nat × X)}:bldL st c off n v ps=if hasN n (c.drop off)=true∧v.wd=some n then buildV st (setAt c off v.cells) ps else none:=rfl
theorem rowsV_nil {k:Nat}:rowsV st k []=some []:=rfl
def rowL (c:List V):Option (List (List V))→Option (List (List V)) | some l=>some (c::l) | none=>none
theorem rowL_some {c:List V} {m:List (List V)}:rowL c (some m)=some (c::m):=rfl
def rowC (st:St) (k:Nat) (v:V) (xs:List X):Option (List (List V)):=if v.wd=some k∧nolL v.cells=true∧oneL v.cells=true then rowL (eraseL v.cells) (rowsV st k xs) else none
theorem rowsV_cons {k:Nat} {xs:List X}:rowsV st k (x::xs)=rowC st k (ev st x) xs:=by
  simp only[rowsV,rowC];cases rowsV st k xs<;>rfl
theorem rowC_ok {k:Nat} {v:V} {xs:List X}:rowC st k v xs=if v.wd=some k∧nolL v.cells=true∧oneL v.cells=true then rowL (eraseL v.cells) (rowsV st k xs) else none:=rfl
def VLe (v v' : V):Prop:=∀E u,R E v u→R E v' u
theorem VLe.rfl {v:V}:VLe v v:=fun _ _ h=>h
theorem VLe.any {v:V}:VLe v .any:=fun _ _ _=>by simp only[R]
theorem VLe.erase {v:V}:VLe v v.erase:=fun _ _ h=>R.erase v h
theorem VLe.no {τ:Tk} {k:Nat} {m:List (List V)}:VLe (.sl τ k m) (.sl .no k m):=fun _ _ h=>R.erase (.sl τ k m) h
theorem VLe.full {k:Nat}:VLe (.sl .full k []) (.sl .no k []):=VLe.no
def LLe:List V→List V→Prop
  | [],[]=>True
  | v::l,v' :: l' => VLe v v' ∧ LLe l l'
  | _,_=>False
theorem LLe.rfl:∀{l:List V},LLe l l
  | []=>trivial
  | _::_=>⟨VLe.rfl,LLe.rfl⟩
theorem LLe.mono:∀{l l' : List V} {E:Env} {us:List Value},LLe l l' → RL E l us→RL E l' us
  | [],[],_,_,_,h=>h
  | [],_::_,_,_,h,_=>h.elim
  | _::_,[],_,_,h,_=>h.elim
  | v::l,v' :: l',_,[],_,h=>by simp[RL] at h
  | v :: l, v' :: l', _, u :: us, h, hr => by
    simp only[RL] at hr ⊢;exact⟨h.1 _ _ hr.1,LLe.mono h.2 hr.2⟩
theorem LLe.length:∀{l l' : List V},LLe l l' → l.length=l'.length
  | [],[],_=>Eq.refl _
  | [],_::_,h=>h.elim
  | _::_,[],h=>h.elim
  | v::l,v' :: l',h=>by simp[LLe.length h.2]
theorem LLe.get:∀{l l' : List V},LLe l l' → ∀(j:Nat) v',l'[j]?=some v' → ∃v,l[j]?=some v∧VLe v v'
  | [],[],_,j,v',h=>by simp at h
  | [],_::_,h,_,_,_=>h.elim
  | _::_,[],h,_,_,_=>h.elim
  | v :: l, w :: l', h, j, v', hj => by
    cases j with
    | zero=>simp at hj;subst hj;exact⟨v,by simp,h.1⟩
    | succ j=>simp at hj;obtain⟨u,h1,h2⟩:=LLe.get h.2 j v' hj;exact⟨u,by simpa using h1,h2⟩
def LLLe:List (List V)→List (List V)→Prop
  | [],[]=>True
  | v::l,v' :: l' => LLe v v' ∧ LLLe l l'
  | _,_=>False
theorem LLLe.rfl:∀{l:List (List V)},LLLe l l
  | []=>trivial
  | _::_=>⟨LLe.rfl,LLLe.rfl⟩
theorem LLLe.length:∀{l l' : List (List V)},LLLe l l' → l.length=l'.length
  | [],[],_=>Eq.refl _
  | [],_::_,h=>h.elim
  | _::_,[],h=>h.elim
  | v::l,v' :: l',h=>by simp[LLLe.length h.2]
theorem LLLe.get:∀{l l' : List (List V)},LLLe l l' → ∀(j:Nat) v',l'[j]?=some v' → ∃v,l[j]?=some v∧LLe v v'
  | [],[],_,j,v',h=>by simp at h
  | [],_::_,h,_,_,_=>h.elim
  | _::_,[],h,_,_,_=>h.elim
  | v :: l, w :: l', h, j, v', hj => by
    cases j with
    | zero=>simp at hj;subst hj;exact⟨v,by simp,h.1⟩
    | succ j=>simp at hj;obtain⟨u,h1,h2⟩:=LLLe.get h.2 j v' hj;exact⟨u,by simpa using h1,h2⟩
theorem BoxAt.weak {E:Env} {b:Nat} {cs cs' : List V} (h:LLe cs cs') (k:BoxAt E b cs):BoxAt E b cs' := by
  obtain⟨c,e,h1,h2,h3⟩:=k;refine⟨c,e,h1,by rw[←h.length];exact h2,fun j x hx=>?_⟩;obtain⟨v,hv,hle⟩:=h.get j x hx;obtain⟨u,k1,k2⟩:=h3 j v hv;exact⟨u,k1,hle _ _ k2⟩
structure OLe (σ σ' : Store):Prop where
  box:∀b cs',σ'.box b=some cs' → ∃cs,σ.box b=some cs∧LLe cs cs'
  tip:∀τ n,σ'.tip τ=some n→σ.tip τ=some n
  con:∀b cs,σ'.con b=some cs→σ.con b=some cs
theorem OLe.rfl {σ:Store}:OLe σ σ:=⟨fun _ cs h=>⟨cs,h,LLe.rfl⟩,fun _ _ h=>h,fun _ _ h=>h⟩
theorem Upd.weak {t t' : List V} {l l' : List (List V)} {σ σ' : Store} (h:LLe t t') (hl:LLLe l l') (ho:OLe σ σ') (hk:K ⟨t',l',σ'⟩):Upd ⟨t,l,σ⟩ K:=by
  intro E a hs;refine⟨E,_,rfl,Fr.refl E,⟨⟨fun b cs hcs=>?_,fun τ n hn=>hs.ok.tip τ n (ho.tip τ n hn),hs.ok.fresh,hs.ok.nt,fun b cs hc=>hs.ok.con b cs (ho.con b cs hc)⟩,⟨fun i cs hcs=>?_,fun i hi=>hs.okL.none i (by rw[hl.length];exact hi)⟩,hs.defers,h.mono hs.slot⟩,hk⟩
  · obtain⟨cs0,h1,h2⟩:=ho.box b cs hcs;obtain⟨k1,k2⟩:=hs.ok.box b cs0 h1;exact⟨k1,k2.weak h2⟩
  · obtain⟨cs0,h1,h2⟩:=hl.get i cs hcs;obtain⟨b,k1,k2,k3⟩:=hs.okL.box i cs0 h1;exact⟨b,k1,k2,k3.weak h2⟩
theorem Upd.slots {t t' : List V} {l:List (List V)} {σ:Store} (h:LLe t t') (hk:K ⟨t',l,σ⟩):Upd ⟨t,l,σ⟩ K:=Upd.weak h LLLe.rfl OLe.rfl hk
theorem PCalls.weak {f:FuncId} {as as' : List V} {σ σ' : Store} {R' : V→Store→Prop} (h:PCalls P f as' σ' R') (ha:LLe as as') (ho:OLe σ σ'):PCalls P f as σ R' := by
  refine⟨h.1,fun E vs h1 h2 h3=>h.2 E vs h1 ?_ (ha.mono h3)⟩;refine⟨fun b cs hcs=>?_,fun τ n hn=>h2.tip τ n (ho.tip τ n hn),h2.fresh,h2.nt,fun b cs hc=>h2.con b cs (ho.con b cs hc)⟩;obtain⟨cs0,k1,k2⟩:=ho.box b cs hcs;obtain⟨k3,k4⟩:=h2.box b cs0 k1;exact⟨k3,k4.weak k2⟩
end
end Go.Am

namespace Go.Am
section
variable {P:Program} {d:Option Nat} {r:List (AO × List Nat)} {K:St→Prop} {t:List V} {l:List (List V)} {σ:Store} {x y z:X} {st:St} {SN:List Sto} {L:List (V × Bool × Nat × V × List Nat)} {ms:List Nat}
theorem d_nil:vcD P [] SN L K st=(chkL SN L∧K st):=rfl
def kD (P:Program) (d:Option Nat) (r:List (AO × List Nat)) (SN:List Sto) (L:List (V × Bool × Nat × V × List Nat)) (K:St→Prop) (st:St) (v:V):Prop:=vcD P r SN L K (st.put d v)
theorem kD_eq {v:V}:kD P d r SN L K ⟨t,l,σ⟩ v=vcD P r SN L K (St.put ⟨t,l,σ⟩ d v):=rfl
theorem d_mv:vcD P ((⟨d,.mv x,none⟩,ms)::r) SN L K st=vcD P r SN L K (st.put d (ev st x)):=rfl
def pickD (P:Program) (v a b:V) (d:Option Nat) (r:List (AO × List Nat)) (SN:List Sto) (L:List (V × Bool × Nat × V × List Nat)) (K:St→Prop) (st:St):Prop:=match v with | .bool true=>vcD P r SN L K (st.put d a) | .bool false=>vcD P r SN L K (st.put d b) | _=>False
theorem d_pick:vcD P ((⟨d,.pick x y z,none⟩,ms)::r) SN L K st=pickD P (ev st x) (ev st y) (ev st z) d r SN L K st:=by
  show (match ev st x with | .bool true=>_ | .bool false=>_ | _=>False)=_;unfold pickD;cases ev st x<;>first | rfl | (rename_i b;cases b<;>rfl)
theorem pickD_true {u v:V}:pickD P (.bool true) u v d r SN L K st=vcD P r SN L K (st.put d u):=rfl
theorem pickD_false {u v:V}:pickD P (.bool false) u v d r SN L K st=vcD P r SN L K (st.put d v):=rfl
theorem pickD_ff {b c:Bool}:pickD P (.bool b) (.bool c) (.bool false) d r SN L K st=vcD P r SN L K (st.put d (.bool (b&&c))):=by cases b<;>simp[pickD]
theorem pickD_tt {b c:Bool}:pickD P (.bool b) (.bool true) (.bool c) d r SN L K st=vcD P r SN L K (st.put d (.bool (b||c))):=by cases b<;>simp[pickD]
theorem d_alloc {c:List V}:vcD P ((⟨d,.alloc c,none⟩,ms)::r) SN L K ⟨t,l,σ⟩=vcD P r (SN++[(l++[c],σ)]) L K (St.put ⟨t,l++[c],σ⟩ d (.ptr (.loc l.length) 0)):=rfl
theorem d_box {n:Nat}:vcD P ((⟨d,.box n x,none⟩,ms)::r) SN L K ⟨t,l,σ⟩=((ev ⟨t,l,σ⟩ x).wd=some n∧vcD P r (SN++[(l++[(ev ⟨t,l,σ⟩ x).cells],σ)]) L K (St.put ⟨t,l++[(ev ⟨t,l,σ⟩ x).cells],σ⟩ d (.ptr (.loc l.length) 0))):=rfl
theorem d_boxS {n:Nat}:vcD P ((⟨d,.boxS n x,none⟩,ms)::r) SN L K ⟨t,l,σ⟩=((ev ⟨t,l,σ⟩ x).wd=some n∧oneL (ev ⟨t,l,σ⟩ x).cells=true∧vcD P r (SN++[(l++[(ev ⟨t,l,σ⟩ x).cells],σ)]) L K (St.put ⟨t,l++[(ev ⟨t,l,σ⟩ x).cells],σ⟩ d (.ptr (.loc l.length) 0))):=rfl
theorem d_build {c:List V} {ps:List (Nat × Nat × X)}:vcD P ((⟨d,.build c ps,none⟩,ms)::r) SN L K st=optL ((buildV st c ps).map V.agg) (kD P d r SN L K st):=rfl
theorem d_bslice {k:Nat} {xs:List X}:vcD P ((⟨d,.bslice k xs,none⟩,ms)::r) SN L K st=optR (rowsV st k xs) k (kD P d r SN L K st):=by
  show opt ((rowsV st k xs).map (V.sl .full k)) _=_;cases rowsV st k xs<;>rfl
def ldD (P:Program) (a:V) (g:Bool) (n:Nat) (ms:List Nat) (d:Option Nat) (r:List (AO × List Nat)) (SN:List Sto) (L:List (V × Bool × Nat × V × List Nat)) (K:St→Prop) (st:St):Option V→Prop
  | some v=>vcD P r SN ((a,g,n,v,ms)::L) K (st.put d v)
  | none=>False
theorem ldD_some {a v:V} {g:Bool} {n:Nat}:ldD P a g n ms d r SN L K st (some v)=vcD P r SN ((a,g,n,v,ms)::L) K (st.put d v):=rfl
theorem d_load {g:Bool} {n:Nat}:vcD P ((⟨d,.load g n x,none⟩,ms)::r) SN L K st=ldD P (ev st x) g n ms d r SN L K st (ldV st g n (ev st x)):=by
  show opt (ldV st g n (ev st x)) _=_;cases ldV st g n (ev st x)<;>rfl
def stD (P:Program) (d:Option Nat) (r:List (AO × List Nat)) (SN:List Sto) (L:List (V × Bool × Nat × V × List Nat)) (K:St→Prop):Option St→Prop
  | some st=>vcD P r (SN++[(st.loc,st.out)]) L K (st.put d .any)
  | none=>False
theorem stD_some:stD P d r SN L K (some ⟨t,l,σ⟩)=vcD P r (SN++[(l,σ)]) L K (St.put ⟨t,l,σ⟩ d .any):=rfl
theorem d_store {n:Nat}:vcD P ((⟨d,.store n x y,none⟩,ms)::r) SN L K st=stD P d r SN L K (stV st n (ev st y) (ev st x)):=by
  show (match stV st n (ev st y) (ev st x) with | some st' => _ | none=>False)=_;cases stV st n (ev st y) (ev st x)<;>rfl
theorem d_nilck:vcD P ((⟨d,.nilck x,none⟩,ms)::r) SN L K st=nilckL (ev st x) (kD P d r SN L K st):=by
  show (match ev st x with | .ptr p o=>_ | .elt c o=>_ | .fn (.func f) a b=>_ | _=>False)=_;unfold nilckL;cases ev st x<;>first | rfl | (rename_i f _ _;cases f<;>rfl)
theorem d_binI {op:BinOp}:vcD P ((⟨d,.binI op x y,none⟩,ms)::r) SN L K st=optL (binIV op (ev st x) (ev st y)) (kD P d r SN L K st):=rfl
theorem d_binS {op:BinOp}:vcD P ((⟨d,.binS op x y,none⟩,ms)::r) SN L K st=optL (binSV op (ev st x) (ev st y)) (kD P d r SN L K st):=rfl
theorem d_binB {n:Bool}:vcD P ((⟨d,.binB n x y,none⟩,ms)::r) SN L K st=optL (eqBV n (ev st x) (ev st y)) (kD P d r SN L K st):=rfl
theorem d_cat:vcD P ((⟨d,.cat x y,none⟩,ms)::r) SN L K st=catL (ev st x) (ev st y) (kD P d r SN L K st):=rfl
theorem d_eqA {n:Bool} {ks:List Nat}:vcD P ((⟨d,.eqA n ks x y,none⟩,ms)::r) SN L K st=optL (eqAV n ks (ev st x) (ev st y)) (kD P d r SN L K st):=rfl
theorem d_not:vcD P ((⟨d,.not x,none⟩,ms)::r) SN L K st=notL (ev st x) (kD P d r SN L K st):=by
  show (match ev st x with | .bool b=>_ | _=>False)=_;unfold notL;cases ev st x<;>rfl
theorem d_lenS:vcD P ((⟨d,.lenS x,none⟩,ms)::r) SN L K st=lenL (ev st x) (kD P d r SN L K st):=by
  show (match ev st x with | .sl _ _ l=>_ | .raw (.slice _ n _)=>_ | _=>False)=_;unfold lenL;cases ev st x<;>rfl
theorem d_lenT:vcD P ((⟨d,.lenT x,none⟩,ms)::r) SN L K st=lenTL (ev st x) (kD P d r SN L K st):=by
  show (match ev st x with | .str s=>_ | _=>False)=_;unfold lenTL;cases ev st x<;>rfl
theorem d_fld {n:Nat}:vcD P ((⟨d,.fld n x,none⟩,ms)::r) SN L K st=fldL n (ev st x) (kD P d r SN L K st):=by
  show (match ev st x with | .ptr p o=>_ | .elt c o=>_ | _=>False)=_;unfold fldL;cases ev st x<;>rfl
theorem d_fldv {g:Bool} {n m:Nat}:vcD P ((⟨d,.fldv g m n x,none⟩,ms)::r) SN L K st=fldvL g m n (ev st x) (kD P d r SN L K st):=by
  show (match ev st x with | .agg cs=>_ | _=>False)=_;unfold fldvL;cases ev st x<;>rfl
theorem d_idxA {k:Nat}:vcD P ((⟨d,.idxA k x y,none⟩,ms)::r) SN L K st=idxL k (ev st x) (ev st y) (kD P d r SN L K st):=by
  show (match ev st x with | .sl _ k' l=>_ | .raw (.slice (some ⟨b,o,none⟩) n _)=>_ | _=>False)=_;unfold idxL;cases ev st x<;>rfl
theorem d_idxP {m k:Nat}:vcD P ((⟨d,.idxP m k x y,none⟩,ms)::r) SN L K st=idxPL m k (ev st x) (ev st y) (kD P d r SN L K st):=by
  show (match ev st x with | .ptr p o=>_ | .elt c o=>_ | _=>False)=_;unfold idxPL;cases ev st x<;>rfl
theorem d_idxS:vcD P ((⟨d,.idxS x y,none⟩,ms)::r) SN L K st=idxSL (ev st x) (ev st y) (kD P d r SN L K st):=by
  show (match ev st x with | .str s=>_ | _=>False)=_;unfold idxSL;cases ev st x<;>rfl
def kCD (P:Program) (d:Option Nat) (r:List (AO × List Nat)) (SN:List Sto) (L:List (V × Bool × Nat × V × List Nat)) (K:St→Prop) (t:List V) (l:List (List V)) (v:V) (σ:Store):Prop:=vcD P r (SN++[(l,σ)]) L K (St.put ⟨t,l,σ⟩ d v)
theorem kCD_eq {v:V}:kCD P d r SN L K t l v σ=vcD P r (SN++[(l,σ)]) L K (St.put ⟨t,l,σ⟩ d v):=rfl
def CallD (P:Program) (f:FuncId) (as:List V) (σ:Store) (K:V→Store→Prop):Prop:=∃v σ',PCalls P f as σ (fun v' σ'' => v' = v∧σ'' = σ')∧K v σ'
theorem CallD.intro {f:FuncId} {as:List V} {K:V→Store→Prop} {v:V} {σ' : Store} (h:PCalls P f as σ fun v' σ'' => v' = v∧σ'' = σ') (k:K v σ'):CallD P f as σ K:=⟨v,σ',h,k⟩
theorem cl {f:FuncId} {as:List V} {K:V→Store→Prop} {v:V} {σ' : Store} (h:PCalls P f as σ fun v' σ'' => v' = v∧σ'' = σ') (k:K v σ'):PCalls P f as σ K:=h.mono fun _ _ e=>e.1▸e.2▸k
theorem d_call {f:FuncId} {xs:List X}:vcD P ((⟨d,.call f xs,none⟩,ms)::r) SN L K ⟨t,l,σ⟩=(nolL (evs ⟨t,l,σ⟩ xs)=true∧CallD P f (evs ⟨t,l,σ⟩ xs) σ (kCD P d r SN L K t l)):=rfl
def callD (P:Program) (v:V) (args:List V) (σ:Store) (K:V→Store→Prop):Prop:=match v with | .fn (.func f) a b=>nolL (a++args++b)=true∧CallD P f (a++args++b) σ K | _=>False
theorem d_callv {xs:List X}:vcD P ((⟨d,.callv x xs,none⟩,ms)::r) SN L K ⟨t,l,σ⟩=callD P (ev ⟨t,l,σ⟩ x) (evs ⟨t,l,σ⟩ xs) σ (kCD P d r SN L K t l):=by
  show (match ev ⟨t,l,σ⟩ x with | .fn (.func f) a b=>_ | _=>False)=_;unfold callD;cases ev ⟨t,l,σ⟩ x<;>first | rfl | (rename_i f _ _;cases f<;>rfl)
theorem callD_fn {f:FuncId} {u args v:List V} {K:V→Store→Prop}:callD P (.fn (.func f) u v) args σ K=(nolL (u++args++v)=true∧CallD P f (u++args++v) σ K):=rfl
theorem d_app {k:Nat}:vcD P ((⟨d,.app k x y,none⟩,ms)::r) SN L K ⟨t,l,σ⟩=AppD σ k (ev ⟨t,l,σ⟩ x) (ev ⟨t,l,σ⟩ y) (kCD P d r SN L K t l):=rfl
theorem appD_tk {k:Nat} {τ:Nat} {u:Tk} {m n:List (List V)} {K:V→Store→Prop} (hb:m.length+n.length≤big) (ht:σ.tip τ=some m.length) (hk:K (.sl (.tk τ) k (m++n)) (σ.setTip τ (m.length+n.length))) :
    AppD σ k (.sl (.tk τ) k m) (.sl u k n) K:=⟨_,m,n,rfl,⟨u,rfl⟩,hb,ht,hk⟩
theorem d_ext {i:Nat}:vcD P ((⟨d,.ext x i,none⟩,ms)::r) SN L K st=extL i (ev st x) (kD P d r SN L K st):=by
  show (match ev st x with | .tup vs=>_ | _=>False)=_;unfold extL;cases ev st x<;>rfl
theorem d_mkfn {f:Fn} {as bs:List X}:vcD P ((⟨d,.mkfn f as bs,none⟩,ms)::r) SN L K st=vcD P r SN L K (st.put d (.fn f (evs st as) (evs st bs))):=rfl
theorem d_cvI {k:IntKind}:vcD P ((⟨d,.cvI k x,none⟩,ms)::r) SN L K st=cvL' k (ev st x) (kD P d r SN L K st):=by
  show (match ev st x with | .int _ n=>_ | _=>False)=_;unfold cvL';cases ev st x<;>rfl
theorem d_cvBS:vcD P ((⟨d,.cvBS x,none⟩,ms)::r) SN L K st=(∃t s,ev st x = .sl t 1 (encB s)∧kD P d r SN L K st (.str s)):=rfl
def gD (P:Program) (v:V) (w:Bool) (d:Option Nat) (op:AOp) (ms:List Nat) (r:List (AO × List Nat)) (SN:List Sto) (L:List (V × Bool × Nat × V × List Nat)) (K:St→Prop) (st:St):Prop :=
  match v with
  | .bool b=>if b=w then vcD P ((⟨d,op,none⟩,ms)::r) SN L K st else vcD P r (if op.eff then SN++[(st.loc,st.out)] else SN) L K (st.put d (.tup []))
  | .tup []=>vcD P r (if op.eff then SN++[(st.loc,st.out)] else SN) L K (st.put d (.tup []))
  | _=>False
theorem d_guard {g:Nat} {w:Bool} {op:AOp}:vcD P ((⟨d,op,some (g,w)⟩,ms)::r) SN L K ⟨t,l,σ⟩=gD P (t.getD g .any) w d op ms r SN L K ⟨t,l,σ⟩:=by
  simp only[vcD,gD,ev];generalize t.getD g .any=v;cases v<;>first | rfl | (rename_i m;cases m<;>rfl)
theorem gD_und {w:Bool} {op:AOp}:gD P (.tup []) w d op ms r SN L K ⟨t,l,σ⟩=vcD P r (if op.eff=true then SN++[(l,σ)] else SN) L K (St.put ⟨t,l,σ⟩ d (.tup [])):=rfl
theorem gD_tt {op:AOp}:gD P (.bool true) true d op ms r SN L K st=vcD P ((⟨d,op,none⟩,ms)::r) SN L K st:=rfl
theorem gD_ff {op:AOp}:gD P (.bool false) false d op ms r SN L K st=vcD P ((⟨d,op,none⟩,ms)::r) SN L K st:=rfl
theorem gD_tf {op:AOp}:gD P (.bool true) false d op ms r SN L K ⟨t,l,σ⟩=vcD P r (if op.eff=true then SN++[(l,σ)] else SN) L K (St.put ⟨t,l,σ⟩ d (.tup [])):=rfl
theorem gD_ft {op:AOp}:gD P (.bool false) true d op ms r SN L K ⟨t,l,σ⟩=vcD P r (if op.eff=true then SN++[(l,σ)] else SN) L K (St.put ⟨t,l,σ⟩ d (.tup [])):=rfl
theorem chkL_nil:chkL SN []=True:=rfl
theorem chkL_cons {g:Bool} {n:Nat} {a v:V}:chkL SN ((a,g,n,v,ms)::L)=(chk1 SN g n a v ms∧chkL SN L):=rfl
theorem chk1_nil {g:Bool} {n:Nat} {a v:V}:chk1 SN g n a v []=True:=rfl
theorem chk1_cons {g:Bool} {n m:Nat} {a v:V}:chk1 SN g n a v (m::ms)=(ldS (SN.getD m stoD) g n a=some v∧chk1 SN g n a v ms):=rfl
theorem sget0 {s u:Sto}:(s::SN).getD 0 u=s:=rfl
theorem sgetS {s u:Sto} {n:Nat}:(s::SN).getD (n+1) u=SN.getD n u:=rfl
theorem sapp0 {s:Sto}:([]:List Sto)++[s]=[s]:=rfl
theorem sappS {s u:Sto}:(s::SN)++[u]=s::(SN++[u]):=rfl
theorem ldS_loc {g:Bool} {n i o:Nat}:ldS (l,σ) g n (.ptr (.loc i) o)=ldB l[i]? g n o:=rfl
theorem ldS_out {g:Bool} {n i o:Nat}:ldS (l,σ) g n (.ptr (.out i) o)=ldB (σ.box i) g n o:=rfl
theorem ldS_glo {g:Bool} {n i o:Nat}:ldS (l,σ) g n (.ptr (.glo i) o)=ldB (σ.con i) g n o:=rfl
theorem ldS_elt {g:Bool} {n o:Nat} {cs:List V} {s:Sto}:ldS s g n (.elt cs o)=ldC g n (cs.drop o):=rfl
def drawT (P:Program) (l:List (List V)) (σ:Store) (o:List (AO × List Nat)) (K:St→Prop):Option (List V)→Prop
  | some t=>vcD P o [(l,σ)] [] K ⟨t,l,σ⟩
  | none=>False
theorem vc_drawA {Q:Exit→St→Prop} {o:List (AO × List Nat)} {nv:List Nat}:vc P (.drawA nv o) Q ⟨t,l,σ⟩=drawT P l σ o (Q .normal) (anyAt nv t):=by
  simp only[vc];cases anyAt nv t with
  | none=>simp[drawT]
  | some t' => simp[drawT]
theorem drawT_some {K:St→Prop} {o:List (AO × List Nat)}:drawT P l σ o K (some t)=vcD P o [(l,σ)] [] K ⟨t,l,σ⟩:=rfl
theorem anyAt_nil:anyAt [] t=some t:=rfl
def anyB (b:Bool) (x:Option (List V)):Option (List V):=if b then x else none
theorem anyAt_cons {d:Nat} {ds:List Nat}:anyAt (d::ds) t=anyB (decide (d<t.length)) (anyAt ds (t.set d .any)):=by
  simp only[anyAt,anyB,decide_eq_true_eq]
theorem anyB_t {y:Option (List V)}:anyB true y=y:=rfl
theorem vc_hole {Q:Exit→St→Prop} {o:List (AO × List Nat)} {h:HI}:vc P (.hole o h) Q ⟨t,l,σ⟩=vcD P o [(l,σ)] [] (HoleW h (Q .normal)) ⟨t,l,σ⟩:=rfl
theorem hole_eq {h:HI}:HoleW h K ⟨t,l,σ⟩=HoleK h K ⟨weakT h t,l,σ⟩:=rfl
theorem weakT_none {k:Nat} {a b c e f:X} {d9 d10 dF:Nat}:weakT ⟨k,a,b,c,e,f,none,d9,d10,dF⟩ t=(t.set d9 .any).set d10 .any:=rfl
theorem weakT_some {k off:Nat} {a b c e f:X} {d9 d10 dF:Nat}:weakT ⟨k,a,b,c,e,f,some off,d9,d10,dF⟩ t=((t.set d9 .any).set d10 .any).set dF .any:=rfl
theorem hole_intro {h:HI} {τ:Nat} {m:List (List V)} {c:List V} {t' : Tk} {j:IntKind} {p:V} {st' : St} {cs:List V} (es:ev ⟨t,l,σ⟩ h.s = .sl (.tk τ) h.k m) (ez:ev ⟨t,l,σ⟩ h.z = .sl t' h.k [c])
    (el:ev ⟨t,l,σ⟩ h.len = .int j m.length) (hb:m.length+1≤big) (ht:σ.tip τ=some m.length) (hx:(ev ⟨t,l,σ⟩ h.x).wd=some h.k∧oneL (ev ⟨t,l,σ⟩ h.x).cells=true∧nolL (ev ⟨t,l,σ⟩ h.x).cells=true)
    (hcs:eraseL (ev ⟨t,l,σ⟩ h.x).cells=cs) (hd:h.d9<t.length∧h.d10<t.length∧(h.fo.isSome=true→h.dF<t.length)) (hp:fldO h.fo (ev ⟨t,l,σ⟩ h.addr)=some p)
    (hst:stV ⟨t,l,σ⟩ 1 (.sl (.tk τ) h.k (m++[cs])) p=some st') (hk:K ⟨st'.t,st'.loc,st'.out.setTip τ (m.length+1)⟩):HoleK h K ⟨t,l,σ⟩ :=
  ⟨τ,m,c,t',j,es,ez,el,hb,ht,hx.1,hx.2.1,hx.2.2,hd.1,hd.2.1,hd.2.2,p,hp,st',by rw[hcs];exact hst,hk⟩
end
section
variable {x y z:X} {n m:Nat} {c:List V} {g:Bool} {bo:BinOp} {ks:List Nat} {xs ys:List X} {ps:List (Nat × Nat × X)} {fn:Fn} {ik:IntKind}
theorem eff_pick:(AOp.pick x y z).eff=false:=rfl
theorem eff_alloc:(AOp.alloc c).eff=true:=rfl
theorem eff_boxS:(AOp.boxS n x).eff=true:=rfl
theorem eff_box:(AOp.box n x).eff=true:=rfl
theorem eff_build:(AOp.build c ps).eff=false:=rfl
theorem eff_bslice:(AOp.bslice n xs).eff=false:=rfl
theorem eff_load:(AOp.load g n x).eff=false:=rfl
theorem eff_store:(AOp.store n x y).eff=true:=rfl
theorem eff_nilck:(AOp.nilck x).eff=false:=rfl
theorem eff_binI:(AOp.binI bo x y).eff=false:=rfl
theorem eff_binS:(AOp.binS bo x y).eff=false:=rfl
theorem eff_binB:(AOp.binB g x y).eff=false:=rfl
theorem eff_cat:(AOp.cat x y).eff=false:=rfl
theorem eff_eqA:(AOp.eqA g ks x y).eff=false:=rfl
theorem eff_not:(AOp.not x).eff=false:=rfl
theorem eff_lenS:(AOp.lenS x).eff=false:=rfl
theorem eff_lenT:(AOp.lenT x).eff=false:=rfl
theorem eff_fld:(AOp.fld n x).eff=false:=rfl
theorem eff_fldv:(AOp.fldv g n m x).eff=false:=rfl
theorem eff_idxA:(AOp.idxA n x y).eff=false:=rfl
theorem eff_idxP {m k:Nat}:(AOp.idxP m k x y).eff=false:=rfl
theorem eff_idxS:(AOp.idxS x y).eff=false:=rfl
theorem eff_call:(AOp.call n xs).eff=true:=rfl
theorem eff_callv:(AOp.callv x xs).eff=true:=rfl
theorem eff_app:(AOp.app n x y).eff=true:=rfl
theorem eff_appS:(AOp.appS x y).eff=true:=rfl
theorem eff_ext:(AOp.ext x n).eff=false:=rfl
theorem eff_mkfn:(AOp.mkfn fn xs ys).eff=false:=rfl
theorem eff_cvI:(AOp.cvI ik x).eff=false:=rfl
theorem eff_cvBS:(AOp.cvBS x).eff=false:=rfl
theorem eff_mv:(AOp.mv x).eff=false:=rfl
end
end Go.Am

namespace Go.Am
section
variable {k:IntKind} {a b:Int} {c e:List V} {n m:Nat} {x y:V} {u v:List UInt8} {p q:Bool} {l:List (List V)} {τ:Tk}
theorem ikEq_same:ikEq k k=true:=by cases k<;>rfl
theorem binIV_int {op:BinOp}:binIV op (.int k a) (.int k b)=intV k a b op:=by simp[binIV,ikEq_same]
theorem intV_add:intV k a b .add=some (.int k (k.wrap (a+b))):=rfl
theorem intV_sub:intV k a b .sub=some (.int k (k.wrap (a - b))):=rfl
theorem intV_mul:intV k a b .mul=some (.int k (k.wrap (a*b))):=rfl
theorem intV_eql:intV k a b .eql=some (.bool (decide (a=b))):=rfl
theorem intV_neq:intV k a b .neq=some (.bool (!decide (a=b))):=rfl
theorem intV_lss:intV k a b .lss=some (.bool (decide (a<b))):=rfl
theorem intV_leq:intV k a b .leq=some (.bool (decide (a≤b))):=rfl
theorem intV_gtr:intV k a b .gtr=some (.bool (decide (b<a))):=rfl
theorem intV_geq:intV k a b .geq=some (.bool (decide (b≤a))):=rfl
theorem binSV_str {op:BinOp}:binSV op (.str u) (.str v)=strV u v op:=rfl
theorem strV_eql:strV u v .eql=some (.bool (decide (u=v))):=rfl
theorem strV_neq:strV u v .neq=some (.bool (!decide (u=v))):=rfl
theorem strV_lss:strV u v .lss=some (.bool (Op.bytesLess u v)):=rfl
theorem strV_leq:strV u v .leq=some (.bool (Op.bytesLess u v||decide (u=v))):=rfl
theorem strV_gtr:strV u v .gtr=some (.bool (!(Op.bytesLess u v||decide (u=v)))):=rfl
theorem strV_geq:strV u v .geq=some (.bool (!Op.bytesLess u v)):=rfl
theorem eqBV_f:eqBV false (.bool p) (.bool q)=some (.bool (decide (p=q))):=rfl
theorem eqBV_t:eqBV true (.bool p) (.bool q)=some (.bool (!decide (p=q))):=rfl
def eqM (neg:Bool):Option Bool→Option V | some b=>some (.bool (if neg then !b else b)) | none=>none
theorem eqM_f:eqM false (some p)=some (.bool p):=rfl
theorem eqM_t:eqM true (some p)=some (.bool (!p)):=rfl
theorem eqAV_agg {neg:Bool} {ks:List Nat}:eqAV neg ks (.agg c) (.agg e)=eqM neg (eqC ks c e):=by
  simp only[eqAV];cases eqC ks c e<;>rfl
def andM (b:Bool):Option Bool→Option Bool | some c=>some (b&&c) | none=>none
theorem andM_some:andM p (some q)=some (p&&q):=rfl
theorem eqC_nil:eqC [] [] []=some true:=rfl
theorem eqC_int {ks:List Nat}:eqC (1::ks) (.int k a::c) (.int k b::e)=andM (decide (a=b)) (eqC ks c e):=by
  simp only[eqC,ikEq_same,if_true];cases eqC ks c e<;>rfl
theorem eqC_str {ks:List Nat}:eqC (2::ks) (.str u::c) (.str v::e)=andM (decide (u=v)) (eqC ks c e):=by
  simp only[eqC];cases eqC ks c e<;>rfl
theorem eqC_bool {ks:List Nat}:eqC (0::ks) (.bool p::c) (.bool q::e)=andM (decide (p=q)) (eqC ks c e):=by
  simp only[eqC];cases eqC ks c e<;>rfl
theorem wd_agg:(V.agg c).wd=some c.length:=rfl
theorem wd_int:(V.int k a).wd=some 1:=rfl
theorem wd_bool:(V.bool p).wd=some 1:=rfl
theorem wd_str:(V.str u).wd=some 1:=rfl
theorem wd_sl:(V.sl τ n l).wd=some 1:=rfl
theorem wd_ptr {o:Pl}:(V.ptr o n).wd=some 1:=rfl
theorem wd_elt:(V.elt c n).wd=some 1:=rfl
theorem wd_fn {f:Fn}:(V.fn f c e).wd=some 1:=rfl
theorem wd_nilp:V.nilp.wd=some 1:=rfl
theorem cells_agg:(V.agg c).cells=c:=rfl
theorem cells_int:(V.int k a).cells=[.int k a]:=rfl
theorem cells_bool:(V.bool p).cells=[.bool p]:=rfl
theorem cells_str:(V.str u).cells=[.str u]:=rfl
theorem cells_sl:(V.sl τ n l).cells=[.sl τ n l]:=rfl
theorem cells_ptr {o:Pl}:(V.ptr o n).cells=[.ptr o n]:=rfl
theorem cells_elt:(V.elt c n).cells=[.elt c n]:=rfl
theorem cells_fn {f:Fn}:(V.fn f c e).cells=[.fn f c e]:=rfl
theorem cells_nilp:V.nilp.cells=[.nilp]:=rfl
theorem oneL_nil:oneL []=true:=rfl
theorem oneL_cons:oneL (x::c)=(x.one&&oneL c):=rfl
theorem one_int:(V.int k a).one=true:=rfl
theorem one_bool:(V.bool p).one=true:=rfl
theorem one_str:(V.str u).one=true:=rfl
theorem one_sl:(V.sl τ n l).one=true:=rfl
theorem one_ptr {o:Pl}:(V.ptr o n).one=true:=rfl
theorem one_elt:(V.elt c n).one=true:=rfl
theorem one_fn {f:Fn}:(V.fn f c e).one=true:=rfl
theorem one_nilp:V.nilp.one=true:=rfl
theorem nolL_nil:nolL []=true:=rfl
theorem nolL_cons:nolL (x::c)=(x.nol&&nolL c):=rfl
theorem nol_int:(V.int k a).nol=true:=rfl
theorem nol_bool:(V.bool p).nol=true:=rfl
theorem nol_str:(V.str u).nol=true:=rfl
theorem nol_sl:(V.sl τ n l).nol=true:=rfl
theorem nol_any:V.any.nol=true:=rfl
theorem nol_out:(V.ptr (.out m) n).nol=true:=rfl
theorem nol_glo:(V.ptr (.glo m) n).nol=true:=rfl
theorem nol_elt:(V.elt c n).nol=true:=rfl
theorem nol_nilp:V.nilp.nol=true:=rfl
theorem nol_agg:(V.agg c).nol=nolL c:=rfl
theorem nol_tup:(V.tup c).nol=nolL c:=rfl
theorem nol_fn {f:Fn}:(V.fn f c e).nol=(nolL c&&nolL e):=rfl
theorem nol_raw {w:Value}:(V.raw w).nol=true:=rfl
theorem er_int:(V.int k a).erase = .int k a:=rfl
theorem er_bool:(V.bool p).erase = .bool p:=rfl
theorem er_str:(V.str u).erase = .str u:=rfl
theorem er_sl:(V.sl τ n l).erase = .sl .no n l:=rfl
theorem er_any:V.any.erase = .any:=rfl
theorem er_ptr {o:Pl}:(V.ptr o n).erase = .ptr o n:=rfl
theorem er_elt:(V.elt c n).erase = .elt c n:=rfl
theorem er_nilp:V.nilp.erase = .nilp:=rfl
theorem er_agg:(V.agg c).erase = .agg (eraseL c):=rfl
theorem er_tup:(V.tup c).erase = .tup (eraseL c):=rfl
theorem er_fn {f:Fn}:(V.fn f c e).erase = .fn f c e:=rfl
theorem erL_nil:eraseL []=[]:=rfl
theorem erL_cons:eraseL (x::c)=x.erase::eraseL c:=rfl
theorem hasN_zero:hasN 0 c=true:=by cases c<;>rfl
theorem hasN_succ:hasN (n+1) (x::c)=hasN n c:=rfl
theorem over_nil:over c []=c:=by cases c<;>rfl
theorem over_cons:over (x::c) (y::e)=y::over c e:=rfl
theorem setAt_zero:setAt c 0 e=over c e:=by cases c<;>rfl
theorem setAt_succ:setAt (x::c) (n+1) e=x::setAt c n e:=rfl
theorem len_nil:([]:List V).length=0:=rfl
theorem len_cons:(x::c).length=c.length+1:=rfl
theorem get0:(c::l)[0]?=some c:=rfl
theorem getS:(c::l)[n+1]?=l[n]?:=by simp
theorem lset0:(c::l).set 0 e=e::l:=rfl
theorem lsetS:(c::l).set (n+1) e=c::l.set n e:=rfl
theorem app_nil' : ([]:List (List V))++l=l:=rfl
theorem app_cons' : (c::l)++[e]=c::(l++[e]):=rfl
theorem vapp_nil:([]:List V)++c=c:=rfl
theorem vapp_cons:(x::c)++e=x::(c++e):=rfl
theorem llen_nil:([]:List (List V)).length=0:=rfl
theorem llen_cons:(c::l).length=l.length+1:=rfl
theorem eqN {a:Nat}:(a=a)=True:=by simp
theorem eqI {a:Int}:(a=a)=True:=by simp
theorem some_eq {α:Type} {x y:α}:(some x=some y)=(x=y):=by simp
theorem one_eq_one:(1=1)=True:=by simp
theorem true_eq:(true=true)=True:=by simp
theorem false_eq' : (false=true)=False:=by simp
theorem tt_and:(true&&p)=p:=rfl
theorem ff_and:(false&&p)=false:=rfl
theorem and_tt:(p&&true)=p:=by simp
theorem and_ff:(p&&false)=false:=by simp
theorem tt_or:(true||p)=true:=rfl
theorem ff_or:(false||p)=p:=rfl
theorem or_ff:(p||false)=p:=by simp
theorem not_tt:(!true)=false:=rfl
theorem not_ff:(!false)=true:=rfl
theorem ite_t {α:Type} {x y:α}:(if True then x else y)=x:=if_pos trivial
theorem ite_f {α:Type} {x y:α}:(if False then x else y)=y:=if_neg fun h=>h
theorem itp_t {x y:Prop}:(if True then x else y)=x:=if_pos trivial
theorem itp_f {x y:Prop}:(if False then x else y)=y:=if_neg fun h=>h
theorem tand {q:Prop}:(True∧q)=q:=by simp
theorem andt {q:Prop}:(q∧True)=q:=by simp
theorem rlZ {x:V}:List.replicate 0 x=[]:=rfl
theorem rlS {x:V}:List.replicate (n+1) x=x::List.replicate n x:=rfl
theorem lle_any {v:V}:LLe (v::c) (.any::e)=LLe c e:=by simp[LLe,VLe.any]
theorem lle_same {v:V}:LLe (v::c) (v::e)=LLe c e:=by simp[LLe,VLe.rfl]
def E0:Env:=⟨default,fun _=>.const,fun _=>none,fun _=>none⟩
theorem vle_int:VLe (.int k a) (.int k b)=(a=b):=by
  refine propext ⟨fun h=>?_,fun h=>h▸VLe.rfl⟩
  have:=h E0 (.int k a) (by simp[R])
  simpa [R] using this
theorem vle_bool:VLe (.bool p) (.bool q)=(p=q):=by
  refine propext ⟨fun h=>?_,fun h=>h▸VLe.rfl⟩
  have:=h E0 (.bool p) (by simp[R])
  simpa [R] using this
theorem vle_str:VLe (.str u) (.str v)=(u=v):=by
  refine propext ⟨fun h=>?_,fun h=>h▸VLe.rfl⟩
  have:=h E0 (.string ⟨u.toArray⟩) (by simp[R])
  simpa [R] using this
theorem lle_int:LLe (.int k a::c) (.int k b::e)=(a=b∧LLe c e):=by simp[LLe,vle_int]
theorem lle_bool:LLe (.bool p::c) (.bool q::e)=(p=q∧LLe c e):=by simp[LLe,vle_bool]
theorem lle_str:LLe (.str u::c) (.str v::e)=(u=v∧LLe c e):=by simp[LLe,vle_str]
theorem lle_no:LLe (.sl τ n l::c) (.sl .no n l::e)=LLe c e:=by simp[LLe,VLe.no]
theorem llle_nil:LLLe [] []=True:=rfl
theorem llle_cons {c e:List V} {l m:List (List V)}:LLLe (c::l) (e::m)=(LLe c e∧LLLe l m):=rfl
theorem llle_same {l:List (List V)}:LLLe l l=True:=by simp[LLLe.rfl]
theorem ole_same {σ:Store}:OLe σ σ=True:=by simp[OLe.rfl]
theorem lle_nil:LLe [] []=True:=rfl
end
theorem Upd.enter {ι:Type} {I:ι→St} {t:List V} {l:List (List V)} {σ:Store} (j:ι) (h:LLe t (I j).t) (hl:LLLe l (I j).loc) (ho:OLe σ (I j).out):Upd ⟨t,l,σ⟩ fun st' => ∃i,st' = I i :=
  Upd.weak h hl ho ⟨j,rfl⟩
theorem Upd.again {ι:Type} {I:ι→St} {μ:ι→Nat} {n:Nat} {t:List V} {l:List (List V)} {σ:Store} (j:ι) (hm:μ j<n) (h:LLe t (I j).t) (hl:LLLe l (I j).loc) (ho:OLe σ (I j).out) :
    Upd ⟨t,l,σ⟩ fun st' => ∃i,st' = I i∧μ i<n:=Upd.weak h hl ho ⟨j,rfl,hm⟩
theorem wrap_i64 {x:Int} (h1 : -9223372036854775808≤x) (h2:x≤9223372036854775807):IntKind.i64.wrap x=x:=IntWalk.i64_in x ⟨h1,h2⟩
theorem Store.set_id {σ:Store} {b:Nat} {cs:List V} (h:σ.box b=some cs):σ.set b cs=σ:=by
  cases σ;simp only[Store.set,Store.mk.injEq,and_true];funext x;split
  · rename_i hx;rw[hx];exact h.symm
  · rfl
theorem Store.set_set {σ:Store} {b:Nat} {cs ds:List V}:(σ.set b cs).set b ds=σ.set b ds:=by
  simp only[Store.set,Store.mk.injEq,and_true];funext x;split<;>rfl
theorem Store.set_comm {σ:Store} {b c:Nat} {cs ds:List V} (h:b≠c):(σ.set b cs).set c ds=(σ.set c ds).set b cs:=by
  simp only[Store.set,Store.mk.injEq,and_true];funext x
  by_cases h1:x=c
  · subst h1;rw[if_pos rfl,if_neg (fun h2=>h h2.symm),if_pos rfl]
  · rw[if_neg h1,if_neg h1]
def VTo (τ n:Nat) (v v' : V):Prop:=∀E E',E.le E' → E'.tip τ=some n→∀u,R E v u→R E' v' u
theorem VTo.same {τ n:Nat} {v:V}:VTo τ n v v:=fun _ _ h _ _ hr=>hr.mono _ h
theorem VTo.le {τ n:Nat} {v v' : V} (h:VLe v v'):VTo τ n v v' := fun _ _ hl _ _ hr=>(h _ _ hr).mono _ hl
theorem VTo.tok {τ n k:Nat} {m:List (List V)} (h:m.length=n):VTo τ n (.sl .full k m) (.sl (.tk τ) k m):=fun E E' hl ht u hr=>by
  have hr' := hr.mono _ hl;simp only[R] at hr' ⊢;obtain⟨a,cap,h1,h2,h3,h4⟩:=hr';exact⟨a,cap,h1,h2,h3,n,ht,by omega,fun _=>.inl h4⟩
def LTo (τ n:Nat):List V→List V→Prop
  | [],[]=>True
  | v::l,v' :: l' => VTo τ n v v' ∧ LTo τ n l l'
  | _,_=>False
theorem LTo.rfl {τ n:Nat}:∀{l:List V},LTo τ n l l
  | []=>trivial
  | _::_=>⟨VTo.same,LTo.rfl⟩
theorem LTo.mono {τ n:Nat} {E E' : Env} (hl:E.le E') (ht:E'.tip τ=some n):∀{l l' : List V} {us:List Value},LTo τ n l l' → RL E l us→RL E' l' us
  | [],[],[],_,_=>by simp[RL]
  | [],[],_::_,_,h=>by simp[RL] at h
  | [],_::_,_,h,_=>h.elim
  | _::_,[],_,h,_=>h.elim
  | v::l,v' :: l',[],_,h=>by simp[RL] at h
  | v :: l, v' :: l', u :: us, h, hr => by
    simp only[RL] at hr ⊢;exact⟨h.1 _ _ hl ht _ hr.1,LTo.mono hl ht h.2 hr.2⟩
theorem LTo.length {τ n:Nat}:∀{l l' : List V},LTo τ n l l' → l.length=l'.length
  | [],[],_=>Eq.refl _
  | [],_::_,h=>h.elim
  | _::_,[],h=>h.elim
  | v::l,v' :: l',h=>by simp[LTo.length h.2]
theorem LTo.get {τ n:Nat}:∀{l l' : List V},LTo τ n l l' → ∀(j:Nat) v',l'[j]?=some v' → ∃v,l[j]?=some v∧VTo τ n v v'
  | [],[],_,j,v',h=>by simp at h
  | [],_::_,h,_,_,_=>h.elim
  | _::_,[],h,_,_,_=>h.elim
  | v :: l, w :: l', h, j, v', hj => by
    cases j with
    | zero=>simp at hj;subst hj;exact⟨v,by simp,h.1⟩
    | succ j=>simp at hj;obtain⟨u,h1,h2⟩:=LTo.get h.2 j v' hj;exact⟨u,by simpa using h1,h2⟩
theorem BoxAt.tok {τ n:Nat} {E E' : Env} (hl:E.le E') (ht:E'.tip τ=some n) {b:Nat} {cs cs' : List V} (hw:E'.w=E.w) (h:LTo τ n cs cs') (k:BoxAt E b cs):BoxAt E' b cs' := by
  obtain⟨c,e,h1,h2,h3⟩:=k;refine⟨c,e,by rw[hw];exact h1,by rw[←h.length];exact h2,fun j x hx=>?_⟩;obtain⟨v,hv,hle⟩:=h.get j x hx;obtain⟨u,k1,k2⟩:=h3 j v hv;exact⟨u,k1,hle _ _ hl ht _ k2⟩
structure OTo (τ n:Nat) (σ σ' : Store):Prop where
  box:∀b cs',σ'.box b=some cs' → ∃cs,σ.box b=some cs∧LTo τ n cs cs'
  tip:∀υ m,σ'.tip υ=some m→σ.tip υ=some m
  con:∀b cs,σ'.con b=some cs→σ.con b=some cs
theorem OTo.rfl {τ n:Nat} {σ:Store}:OTo τ n σ σ:=⟨fun _ cs h=>⟨cs,h,LTo.rfl⟩,fun _ _ h=>h,fun _ _ h=>h⟩
theorem OTo.set {τ n b:Nat} {σ:Store} {cs cs' : List V} (h:σ.box b=some cs) (k:LTo τ n cs cs'):OTo τ n σ (σ.set b cs'):=by
  refine⟨fun c ds hds=>?_,fun _ _ h=>h,fun _ _ h=>h⟩;simp only[Store.set] at hds;split at hds
  · rename_i hc;subst hc;simp only[Option.some.injEq] at hds;subst hds;exact⟨cs,h,k⟩
  · exact⟨ds,hds,LTo.rfl⟩
theorem Upd.tok {t:List V} {l:List (List V)} {σ:Store} {K:St→Prop} (n:Nat) (h:∀τ,σ.tip τ=none→∃t' l' σ',LTo τ n t t' ∧ l.length=l'.length∧(∀(i:Nat) c',l'[i]?=some c' → ∃c,l[i]?=some c∧LTo τ n c c')∧OTo τ n σ σ' ∧ K ⟨t',l',σ'.setTip τ n⟩) :
    Upd ⟨t,l,σ⟩ K:=by
  intro E a hs;obtain⟨N,hN⟩:=hs.ok.nt;have hfresh:σ.tip N=none:=by
    cases hq:σ.tip N with
    | none=>rfl
    | some m=>have:=hs.ok.tip N m hq;rw[hN N (Nat.le_refl _)] at this;simp at this
  obtain⟨t',l',σ',h1,h2,h3,h4,h5⟩:=h N hfresh
  let E' : Env:={E with tip:=fun t=>if t=N then some n else E.tip t}
  have ht:E'.tip N=some n:=by simp[E']
  have hfr:Fr E E' := fr_ext (E' := E') hs.ok.fresh (Ext.refl _) (fun _ _=>rfl) (fun t m hm=>by
    simp only[E'];split
    · rename_i hq;subst hq;rw[hN t (Nat.le_refl _)] at hm;simp at hm
    · exact hm)
  have hle:E.le E' := hfr.le fun _ _ h=>h
  refine⟨E',_,rfl,hfr,⟨⟨fun b cs hcs=>?_,fun τ m hm=>?_,hs.ok.fresh,?_,fun b cs hc=>RAs.mono _ hfr.nl (hs.ok.con b cs (h4.con b cs hc))⟩,⟨fun i cs hcs=>?_,fun i hi=>hs.okL.none i (by rw[h2];exact hi)⟩,hs.defers,h1.mono hle ht hs.slot⟩,h5⟩
  · obtain⟨cs0,q1,q2⟩:=h4.box b cs hcs;obtain⟨k1,k2⟩:=hs.ok.box b cs0 q1;exact⟨k1,k2.tok hfr.nl ht rfl q2⟩
  · simp only[Store.setTip] at hm;simp only[E'];split at hm
    · rename_i hq;rw[if_pos hq];exact hm
    · rename_i hq;rw[if_neg hq];exact hs.ok.tip τ m (h4.tip τ m hm)
  · exact⟨N+1,fun t ht' => by simp only[E'];rw[if_neg (by omega)];exact hN t (by omega)⟩
  · obtain⟨c,q1,q2⟩:=h3 i cs hcs;obtain⟨b,k1,k2,k3⟩:=hs.okL.box i c q1;exact⟨b,k1,k2,k3.tok hle ht rfl q2⟩
def am:=And.intro @Store.set_set <| And.intro @vc_drawA <| And.intro @drawT_some <| And.intro @anyAt_nil <| And.intro @anyAt_cons <| And.intro @anyB_t <| And.intro @d_boxS <| And.intro @eff_boxS <| And.intro (And.intro (And.intro (And.intro (And.intro (And.intro (And.intro @d_nil @kD_eq) (And.intro @d_mv (And.intro @d_pick @pickD_true))) (And.intro (And.intro @pickD_false @pickD_ff) (And.intro @pickD_tt (And.intro @d_alloc @d_box)))) (And.intro (And.intro (And.intro @d_build @d_bslice) (And.intro @ldD_some (And.intro @d_load @stD_some))) (And.intro (And.intro @d_store (And.intro @d_nilck @d_binI)) (And.intro @d_binS (And.intro @d_binB @d_cat))))) (And.intro (And.intro (And.intro (And.intro @d_eqA @d_not) (And.intro @d_lenS (And.intro @d_lenT @d_fld))) (And.intro (And.intro @d_fldv (And.intro @d_idxA @d_idxS)) (And.intro @kCD_eq (And.intro @d_call @d_callv)))) (And.intro (And.intro (And.intro @callD_fn @d_app) (And.intro @d_ext (And.intro @d_mkfn @d_cvI))) (And.intro (And.intro @d_guard (And.intro (And.intro @gD_und @gD_tt) @gD_ff)) (And.intro @gD_tf (And.intro @gD_ft @chkL_nil)))))) (And.intro (And.intro (And.intro (And.intro (And.intro @chkL_cons @chk1_nil) (And.intro @chk1_cons (And.intro @sget0 @sgetS))) (And.intro (And.intro @sapp0 @sappS) (And.intro @ldS_loc (And.intro @ldS_out (And.intro @ldS_glo @ldS_elt))))) (And.intro (And.intro (And.intro @vc_hole @hole_eq) (And.intro @weakT_none (And.intro @weakT_some @eff_pick))) (And.intro (And.intro @eff_alloc (And.intro @eff_box @eff_build)) (And.intro @eff_bslice (And.intro @eff_load @eff_store))))) (And.intro (And.intro (And.intro (And.intro @eff_nilck @eff_binI) (And.intro @eff_binS (And.intro @eff_binB @eff_cat))) (And.intro (And.intro @eff_eqA (And.intro @eff_not @eff_lenS)) (And.intro @eff_lenT (And.intro @eff_fld @eff_fldv)))) (And.intro (And.intro (And.intro @eff_idxA @eff_idxS) (And.intro @eff_call (And.intro @eff_callv @eff_app))) (And.intro (And.intro @eff_appS (And.intro @eff_ext @eff_mkfn)) (And.intro @eff_cvI (And.intro @eff_cvBS @eff_mv))))))) <| And.intro @lle_int <| And.intro @lle_bool <| And.intro @lle_str <| And.intro @lle_no <| And.intro @llle_nil <| And.intro @llle_cons <| And.intro @llle_same <| And.intro @ole_same <| And.intro @lle_any <| And.intro @lle_same <| And.intro @lle_nil <| And.intro @Nat.zero_add <| And.intro @Nat.add_zero <| And.intro @eqN <| And.intro @eqI <| And.intro @itp_t <| And.intro @itp_f <| (And.intro (And.intro (And.intro (And.intro (And.intro (And.intro (And.intro @vc_skip (And.intro @vc_reg @vc_upd)) (And.intro (And.intro @vc_draw @vc_seq) (And.intro @vc_cond @vcIf_true))) (And.intro (And.intro (And.intro @vcIf_false @vc_block) (And.intro @vc_exit @vc_ret)) (And.intro (And.intro @athen_normal @athen_exit) (And.intro @athen_ret @blk_normal)))) (And.intro (And.intro (And.intro @blk_ret (And.intro @blk_exit @lpost_exit)) (And.intro (And.intro @lpost_ret @lpost_normal) (And.intro @retQ_ret @retQ_normal))) (And.intro (And.intro (And.intro @opt_some @rvs_nil) (And.intro @consO_some @rvs_cons)) (And.intro (And.intro @rv_tmp @rv_cell) (And.intro @one1_one @one1_nil))))) (And.intro (And.intro (And.intro (And.intro @one1_more (And.intro @map_some' @ev_s)) (And.intro (And.intro @ev_c @evs_nil) (And.intro @evs_cons @getD_zero))) (And.intro (And.intro (And.intro @getD_succ @set_zero) (And.intro @set_succ @put_some)) (And.intro (And.intro @put_none @o_nil) (And.intro @kL_eq @optL_some)))) (And.intro (And.intro (And.intro (And.intro @o_mv @o_pick) (And.intro @pickL_true @pickL_false)) (And.intro (And.intro @pickL_ff @pickL_tt) (And.intro @o_alloc @o_box))) (And.intro (And.intro (And.intro @o_allocO @o_boxO) (And.intro @o_build @optR_some)) (And.intro (And.intro @o_bslice @o_load) (And.intro @optS_some @o_store)))))) (And.intro (And.intro (And.intro (And.intro (And.intro @o_nilck (And.intro @nilckL_ptr @nilckL_elt)) (And.intro (And.intro @nilckL_fn @o_binI) (And.intro @o_binS @o_binB))) (And.intro (And.intro (And.intro @o_cat @catL_str) (And.intro @o_eqA @o_not)) (And.intro (And.intro @notL_bool @o_lenS) (And.intro @lenL_sl @o_lenT)))) (And.intro (And.intro (And.intro @lenTL_str (And.intro @o_fld @fldL_ptr)) (And.intro (And.intro @fldL_elt @o_fldv) (And.intro @fldvL_agg @o_idxA))) (And.intro (And.intro (And.intro @o_idxS @o_call) (And.intro @kC_eq @o_callv)) (And.intro (And.intro @callL_fn @o_app) (And.intro @o_ext @extL_zero))))) (And.intro (And.intro (And.intro (And.intro @extL_succ (And.intro @o_mkfn @o_cvI)) (And.intro (And.intro @cvL_int @o_guard) (And.intro (And.intro @gL_und @gL_tt) @gL_ff))) (And.intro (And.intro (And.intro @gL_tf @gL_ft) (And.intro @ldV_loc' (And.intro @ldV_out @ldV_glo))) (And.intro (And.intro @ldV_elt @ldB_some) (And.intro @ldC_agg @ldC_one)))) (And.intro (And.intro (And.intro (And.intro @takeN_zero @takeN_succ') (And.intro @mapC_some @drop_zero')) (And.intro (And.intro @drop_succ @stV_loc) (And.intro @stL_some @stV_out))) (And.intro (And.intro (And.intro @stO_some @set_box) (And.intro (And.intro (And.intro @set_con @setTip_con) @setTip_box) @set_tip)) (And.intro (And.intro @setTip_tip @buildV_nil) (And.intro @buildV_cons @bldL_ok))))))) (And.intro (And.intro (And.intro (And.intro (And.intro (And.intro @rowsV_nil (And.intro @rowsV_cons @rowL_some)) (And.intro (And.intro @rowC_ok @binIV_int) (And.intro @intV_add @intV_sub))) (And.intro (And.intro (And.intro @intV_mul @intV_eql) (And.intro @intV_neq @intV_lss)) (And.intro (And.intro @intV_leq @intV_gtr) (And.intro @intV_geq @binSV_str)))) (And.intro (And.intro (And.intro @strV_eql (And.intro @strV_neq @strV_lss)) (And.intro (And.intro @strV_leq @strV_gtr) (And.intro @strV_geq @eqBV_f))) (And.intro (And.intro (And.intro @eqBV_t @eqM_f) (And.intro @eqM_t @eqAV_agg)) (And.intro (And.intro @andM_some @eqC_nil) (And.intro @eqC_int @eqC_str))))) (And.intro (And.intro (And.intro (And.intro @eqC_bool (And.intro @wd_agg @wd_int)) (And.intro (And.intro @wd_bool @wd_str) (And.intro @wd_sl @wd_ptr))) (And.intro (And.intro (And.intro @wd_elt @wd_fn) (And.intro @wd_nilp @cells_agg)) (And.intro (And.intro @cells_int @cells_bool) (And.intro @cells_str @cells_sl)))) (And.intro (And.intro (And.intro (And.intro @cells_ptr @cells_elt) (And.intro @cells_fn @cells_nilp)) (And.intro (And.intro @oneL_nil @oneL_cons) (And.intro @one_int @one_bool))) (And.intro (And.intro (And.intro @one_str @one_sl) (And.intro @one_ptr @one_elt)) (And.intro (And.intro @one_fn @one_nilp) (And.intro @nolL_nil @nolL_cons)))))) (And.intro (And.intro (And.intro (And.intro (And.intro @nol_int (And.intro @nol_bool @nol_str)) (And.intro (And.intro @nol_sl @nol_any) (And.intro (And.intro @nol_out @nol_glo) @nol_elt))) (And.intro (And.intro (And.intro @nol_nilp @nol_agg) (And.intro @nol_tup @nol_fn)) (And.intro (And.intro @nol_raw @er_int) (And.intro @er_bool @er_str)))) (And.intro (And.intro (And.intro (And.intro @er_sl @er_any) (And.intro @er_ptr @er_elt)) (And.intro (And.intro @er_nilp @er_agg) (And.intro @er_tup @er_fn))) (And.intro (And.intro (And.intro @erL_nil @erL_cons) (And.intro @hasN_zero @hasN_succ)) (And.intro (And.intro @over_nil @over_cons) (And.intro @setAt_zero @setAt_succ))))) (And.intro (And.intro (And.intro (And.intro @len_nil (And.intro @len_cons @get0)) (And.intro (And.intro @getS @lset0) (And.intro @lsetS @app_nil'))) (And.intro (And.intro (And.intro @app_cons' @vapp_nil) (And.intro @vapp_cons @llen_nil)) (And.intro (And.intro @llen_cons @some_eq) (And.intro @one_eq_one @true_eq)))) (And.intro (And.intro (And.intro (And.intro @false_eq' @tt_and) (And.intro @ff_and @and_tt)) (And.intro (And.intro @and_ff @tt_or) (And.intro @ff_or @or_ff))) (And.intro (And.intro (And.intro @not_tt @not_ff) (And.intro @ite_t @ite_f)) (And.intro (And.intro @tand @andt) (And.intro @rlZ @rlS))))))))
end Go.Am

namespace Go.Am
section
variable {τ n k:Nat} {v v' : V} {c e t:List V} {l l' : List (List V)} {σ:Store}
theorem vto_any:VTo τ n v .any=True:=by simp[VTo.le VLe.any]
theorem vto_same:VTo τ n v v=True:=by simp[VTo.same]
theorem vto_tok:VTo τ 0 (.sl .full k []) (.sl (.tk τ) k [])=True:=by simp[VTo.tok]
theorem lto_cons:LTo τ n (v::c) (v' :: e)=(VTo τ n v v' ∧ LTo τ n c e):=rfl
theorem lto_nil:LTo τ n [] []=True:=rfl
theorem lto_same:LTo τ n c c=True:=by simp[LTo.rfl]
def lto:=And.intro @vto_any <| And.intro @vto_same <| And.intro @vto_tok <| And.intro @lto_cons <| And.intro @lto_nil @lto_same
theorem Upd.tokEnter {ι:Type} {I:ι→St} (n:Nat) (h:∀τ,σ.tip τ=none→∃i,LTo τ n t (I i).t∧l=(I i).loc∧(I i).out=σ.setTip τ n):Upd ⟨t,l,σ⟩ fun st' => ∃i,st' = I i :=
  Upd.tok n fun τ hτ=>by
    obtain⟨i,h1,h2,h3⟩:=h τ hτ;refine⟨(I i).t,(I i).loc,σ,h1,by rw[h2],fun j c' hc=>⟨c',by rw[h2];exact hc,LTo.rfl⟩,OTo.rfl,i,?_⟩;rw[←h3]
theorem setTip_setTip {τ m n:Nat}:(σ.setTip τ m).setTip τ n=σ.setTip τ n:=by
  simp only[Store.setTip,Store.mk.injEq,true_and,and_true];funext x;split<;>rfl
theorem sub_tip {τ n:Nat} (h:σ.tip τ=none):σ.sub (σ.setTip τ n):=by
  refine⟨fun _ _ h=>h,fun υ m hm=>?_,fun _ _ h=>h⟩
  have:υ≠τ:=by rintro rfl;rw[h] at hm;simp at hm
  simp only[Store.setTip];rw[if_neg this];exact hm
theorem setTip_tip_same {τ n:Nat}:(σ.setTip τ n).tip τ=some n:=by simp[Store.setTip]
end
theorem take_succ_of {α:Type} {l:List α} {i:Nat} {x:α} (h:l[i]?=some x):l.take (i+1)=l.take i++[x]:=by rw[List.take_add_one,h];simp
mutual
def V.lo (n:Nat):V→Bool
  | .ptr (.loc i) _=>decide (i<n)
  | .agg cs=>loL n cs
  | .tup cs=>loL n cs
  | .fn _ a b=>loL n a&&loL n b
  | _=>true
def loL (n:Nat):List V→Bool
  | []=>true
  | x::xs=>x.lo n&&loL n xs
end
def loLL (n:Nat):List (List V)→Bool
  | []=>true
  | x::xs=>loL n x&&loLL n xs
def Env.cut (E:Env) (n:Nat):Env:={E with loc:=fun i=>if i<n then E.loc i else none}
mutual
theorem R.cut {n:Nat}:∀(x:V) {E:Env} {v:Value},x.lo n=true→R E x v→R (E.cut n) x v
  | .any,_,_,_,_=>by simp only[R]
  | .bool _,_,_,_,h=>by simp only[R] at h ⊢;exact h
  | .int _ _,_,_,_,h=>by simp only[R] at h ⊢;exact h
  | .str _,_,_,_,h=>by simp only[R] at h ⊢;exact h
  | .nilp,_,_,_,h=>by simp only[R] at h ⊢;exact h
  | .ptr (.loc i) off, E, _, hl, h => by
    simp only[V.lo,decide_eq_true_eq] at hl;simp only[R] at h ⊢;obtain⟨b,h1,h2⟩:=h;exact⟨b,by simp[Env.cut,hl,h1],h2⟩
  | .ptr (.out _) _,_,_,_,h=>by simp only[R] at h ⊢;exact h
  | .ptr (.glo _) _,_,_,_,h=>by simp only[R] at h ⊢;exact h
  | .elt _ _,_,_,_,h=>by simp only[R] at h ⊢;exact h
  | .sl _ _ _,_,_,_,h=>by simp only[R] at h ⊢;exact h
  | .agg cs, _, _, hl, h => by
    simp only[V.lo] at hl;simp only[R] at h ⊢;obtain⟨vs,h1,h2⟩:=h;exact⟨vs,h1,RL.cut cs hl h2⟩
  | .tup cs, _, _, hl, h => by
    simp only[V.lo] at hl;simp only[R] at h ⊢;obtain⟨vs,h1,h2⟩:=h;exact⟨vs,h1,RL.cut cs hl h2⟩
  | .fn _ a b, _, _, hl, h => by
    simp only[V.lo,Bool.and_eq_true] at hl;simp only[R] at h ⊢;obtain⟨fs,cs,h1,h2,h3⟩:=h;exact⟨fs,cs,h1,RL.cut a hl.1 h2,RL.cut b hl.2 h3⟩
  | .raw _,_,_,_,h=>by simp only[R] at h ⊢;exact h
theorem RL.cut {n:Nat}:∀(l:List V) {E:Env} {vs:List Value},loL n l=true→RL E l vs→RL (E.cut n) l vs
  | [],_,[],_,_=>by simp only[RL]
  | [],_,_::_,_,h=>by simp only[RL] at h
  | _::_,_,[],_,h=>by simp only[RL] at h
  | x :: xs, _, v :: vs, hl, h => by
    simp only[loL,Bool.and_eq_true] at hl;simp only[RL] at h ⊢;exact⟨R.cut x hl.1 h.1,RL.cut xs hl.2 h.2⟩
end
theorem loL_get {n:Nat}:∀{l:List V} {j:Nat} {x:V},loL n l=true→l[j]?=some x→x.lo n=true
  | [],j,x,_,h=>by simp at h
  | y::ys,0,x,hl,h=>by simp only[loL,Bool.and_eq_true] at hl;simp at h;rw[←h];exact hl.1
  | y::ys,j+1,x,hl,h=>by simp only[loL,Bool.and_eq_true] at hl;exact loL_get hl.2 (by simpa using h)
theorem loLL_get {n:Nat}:∀{l:List (List V)} {j:Nat} {x:List V},loLL n l=true→l[j]?=some x→loL n x=true
  | [],j,x,_,h=>by simp at h
  | y::ys,0,x,hl,h=>by simp only[loLL,Bool.and_eq_true] at hl;simp at h;rw[←h];exact hl.1
  | y::ys,j+1,x,hl,h=>by simp only[loLL,Bool.and_eq_true] at hl;exact loLL_get hl.2 (by simpa using h)
theorem BoxAt.cut {E:Env} {n b:Nat} {cs:List V} (h:loL n cs=true) (k:BoxAt E b cs):BoxAt (E.cut n) b cs:=by
  obtain⟨c,e,h1,h2,h3⟩:=k;exact⟨c,e,h1,h2,fun j x hx=>by
    obtain⟨u,k1,k2⟩:=h3 j x hx;exact⟨u,k1,R.cut x (loL_get h hx) k2⟩⟩
theorem Fr.cut (E:Env) (n:Nat):Fr E (E.cut n) :=
  ⟨rfl,rfl,rfl,Nat.le_refl _,fun _=>rfl,(Env.le.refl E).cell,(Env.le.refl E).tok,fun _ _ _=>⟨rfl,rfl⟩,fun _ _ h=>.inl h,fun _ _ c _ h=>⟨c,h⟩,fun _ i _ h=>⟨i,h⟩,fun _ c _ h=>⟨c,h,rfl⟩⟩
theorem Upd.drop {t:List V} {l l2:List (List V)} {σ:Store} {K:St→Prop} (ht:loL l.length t=true) (hl:loLL l.length l=true) (hk:K ⟨t,l,σ⟩):Upd ⟨t,l++l2,σ⟩ K:=by
  intro E a hs;refine⟨E.cut l.length,⟨t,l,σ⟩,rfl,Fr.cut E _,⟨⟨hs.ok.box,hs.ok.tip,hs.ok.fresh,hs.ok.nt,hs.ok.con⟩,⟨fun i cs hcs=>?_,fun i hi=>?_⟩,hs.defers,RL.cut _ ht hs.slot⟩,hk⟩
  · have hi:i<l.length:=(List.getElem?_eq_some_iff.1 hcs).1;obtain⟨b,k1,k2,k3⟩:=hs.okL.box i cs (by rw[List.getElem?_append_left hi];exact hcs);exact⟨b,by simp[Env.cut,hi,k1],k2,k3.cut (loLL_get hl hcs)⟩
  · simp only[Env.cut];rw[if_neg (by simp only at hi;omega)]
theorem LLLe.app:∀{l l' m:List (List V)},LLLe (l.take l'.length) l' → LLLe l (l' ++ l.drop l'.length)
  | [],[],_,_=>trivial
  | [],_::_,_,h=>h.elim
  | v::l,[],m,_=>by simp[LLLe.rfl]
  | v :: l, w :: l', m, h => by
    simp only[List.length_cons,List.take_succ_cons,LLLe] at h;simp only[List.length_cons,List.cons_append,List.drop_succ_cons,LLLe];exact⟨h.1,LLLe.app (m:=m) h.2⟩
theorem Upd.drops {t t' : List V} {l l' : List (List V)} {σ σ' : Store} {K:St→Prop} (h:LLe t t') (hl:LLLe (l.take l'.length) l') (ho:OLe σ σ') (h1:loL l'.length t' = true) (h2:loLL l'.length l' = true) (hk:K ⟨t',l',σ'⟩):Upd ⟨t,l,σ⟩ K :=
  (Upd.weak (K:=fun st=>st=⟨t',l' ++ l.drop l'.length,σ'⟩) h (LLLe.app (m:=[]) hl) ho rfl).bind fun _ e=>e▸Upd.drop h1 h2 hk
theorem Upd.againD {ι:Type} {I:ι→St} {μ:ι→Nat} {n:Nat} {t:List V} {l:List (List V)} {σ:Store} (j:ι) (hm:μ j<n) (h:LLe t (I j).t) (hl:LLLe (l.take (I j).loc.length) (I j).loc) (ho:OLe σ (I j).out) (h1:loL (I j).loc.length (I j).t=true) (h2:loLL (I j).loc.length (I j).loc=true) :
    Upd ⟨t,l,σ⟩ fun st' => ∃i,st' = I i∧μ i<n:=Upd.drops h hl ho h1 h2 ⟨j,rfl,hm⟩
section
variable {P:Program} {d:Option Nat} {q:OQ} {xs:List X} {r:List AO} {K:St→Prop} {t:List V} {l:List (List V)} {σ:Store}
theorem o_own:vcOps P (⟨d,.own q xs,none⟩::r) K ⟨t,l,σ⟩=q.sem σ (kC P d r K t l) (evs ⟨t,l,σ⟩ xs):=rfl
theorem own_nil {H:V→Store→Prop}:OQ.sem σ H .nil []=H (.raw (.slice none 0 0)) σ:=rfl
theorem lle_raw {u:Value} {c e:List V}:LLe (.raw u::c) (.raw u::e)=LLe c e:=by simp[LLe,VLe.rfl]
def amo:=And.intro @o_own <| And.intro @own_nil @lle_raw
def Own (σ:Store) (k:Nat) (v:V) (rows:List (List V)):Prop :=
  ∃a cap,v = .raw (.slice a rows.length cap)∧rows.length≤cap∧(∀r∈rows,r.length=k)∧(cap=0∨∃b cs,a=some ⟨b,0,none⟩∧σ.box b=some cs∧cs.length=cap*k∧cs.take (rows.length*k)=rows.flatten)
def ownB:V→Option Nat
  | .raw (.slice (some ⟨b,_,_⟩) _ _)=>some b
  | _=>none
theorem Own.none {k:Nat}:Own σ k (.raw (.slice none 0 0)) []:=⟨_,0,rfl,by simp,by simp,.inl rfl⟩
theorem Own.len {k:Nat} {v:V} {rows:List (List V)} {H:V→Store→Prop} (h:Own σ k v rows) (hk:H (.int .i64 rows.length) σ):OQ.sem σ H .len [v]:=by
  obtain⟨a,cap,rfl,_⟩:=h;exact hk
theorem Own.frame {σ' : Store} {k:Nat} {v:V} {rows:List (List V)} (h:Own σ k v rows) (hb:∀b cs,ownB v=some b→σ.box b=some cs→σ'.box b=some cs):Own σ' k v rows:=by
  obtain⟨a,cap,rfl,h1,h2,h3⟩:=h;refine⟨a,cap,rfl,h1,h2,?_⟩
  rcases h3 with h3 | ⟨b,cs,rfl,h4,h5⟩
  · exact .inl h3
  · exact .inr ⟨b,cs,rfl,hb b cs rfl h4,h5⟩
theorem flatten_take {k:Nat}:∀{rows:List (List V)} {m:Nat},(∀r∈rows,r.length=k)→rows.flatten.take (m*k)=(rows.take m).flatten
  | [],m,_=>by simp
  | r::rows,0,_=>by simp
  | r :: rows, m + 1, h => by
    simp only[List.forall_mem_cons] at h;rw[List.flatten_cons,List.take_succ_cons,List.flatten_cons,Nat.add_mul,Nat.one_mul,List.take_append,h.1,List.take_of_length_le (by omega),show m*k+k - k=m*k by omega,flatten_take h.2]
theorem flatten_drop {k:Nat}:∀{rows:List (List V)} {m:Nat},(∀r∈rows,r.length=k)→rows.flatten.drop (m*k)=(rows.drop m).flatten
  | [],m,_=>by simp
  | r::rows,0,_=>by simp
  | r :: rows, m + 1, h => by
    simp only[List.forall_mem_cons] at h;rw[List.flatten_cons,List.drop_succ_cons,Nat.add_mul,Nat.one_mul,List.drop_append,h.1,List.drop_of_length_le (by omega),show m*k+k - k=m*k by omega,List.nil_append,flatten_drop h.2]
theorem Own.idx {k:Nat} {v:V} {rows:List (List V)} {H:V→Store→Prop} {j:Int} {i:IntKind} {c:List V} (h:Own σ k v rows) (h0:0≤j) (hj:rows[j.toNat]?=some c)
    (hk:∀b cs rest,ownB v=some b→σ.box b=some cs→cs.drop (j.toNat*k)=c++rest→H (.ptr (.out b) (j.toNat*k)) σ):OQ.sem σ H (.idx k) [v,.int i j]:=by
  obtain⟨a,cap,rfl,h1,h2,h3⟩:=h;have hlt:=(List.getElem?_eq_some_iff.1 hj).1
  rcases h3 with h3 | ⟨b,cs,rfl,h4,h5,h6⟩
  · omega
  · have e1:cs=rows.flatten++cs.drop (rows.length*k):=by rw[←h6];simp
    have e2:rows.drop j.toNat=c::rows.drop (j.toNat+1):=by
      rw[List.drop_eq_getElem_cons hlt,(List.getElem?_eq_some_iff.1 hj).2]
    have hfl:=flat_length h2;have e3:cs.drop (j.toNat*k)=c++((rows.drop (j.toNat+1)).flatten++cs.drop (rows.length*k)):=by
      have hle:j.toNat*k≤rows.length*k:=Nat.mul_le_mul_right _ (by omega);rw[e1,List.drop_append_of_le_length (by rw[hfl];exact hle),flatten_drop h2,e2,List.flatten_cons,List.append_assoc];congr 2;rw[List.drop_append,hfl];simp[List.drop_of_length_le,hfl]
    show 0≤j∧j<(rows.length:Nat)∧H (.ptr (.out b) (0+j.toNat*k)) σ;rw[Nat.zero_add];exact⟨h0,by omega,hk b cs _ rfl h4 e3⟩
theorem Own.take {k m:Nat} {v:V} {rows:List (List V)} {H:V→Store→Prop} {i:IntKind} {j:Int} (h:Own σ k v rows) (h0:0≤j) (hj:j.toNat=m) (hm:m≤rows.length) (hk:∀v',Own σ k v' (rows.take m)→ownB v' = ownB v→H v' σ):OQ.sem σ H (.slc k false true false) [v,.int i j]:=by
  obtain⟨a,cap,rfl,h1,h2,h3⟩:=h;show bnd false 0 [.int i j] fun m vs=>bnd true rows.length vs fun h vs=>bnd false cap vs fun M vs=>vs=[]∧m≤h∧h≤M∧M≤cap∧H (.raw (.slice (if M=m then a else a.map (·.add (m*k))) (h - m) (M - m))) σ
  refine⟨h0,rfl,by omega,by omega,Nat.le_refl _,?_⟩;have ea:(if cap=0 then a else a.map (·.add (0*k)))=a:=by
    split
    · rfl
    · rcases h3 with h3 | ⟨b,cs,rfl,_⟩
      · omega
      · simp[addr_add]
  rw[ea,hj];refine hk _ ⟨a,cap,?_,?_,fun r hr=>h2 r (List.mem_of_mem_take hr),?_⟩ (by cases a with
    | none=>rfl
    | some ad=>cases ad;rfl)
  · rw[List.length_take,Nat.min_eq_left hm];rfl
  · rw[List.length_take];omega
  · rcases h3 with h3 | ⟨b,cs,rfl,h4,h5,h6⟩
    · exact .inl h3
    · refine .inr ⟨b,cs,rfl,h4,h5,?_⟩;rw[List.length_take,Nat.min_eq_left hm,←flatten_take h2,←h6,List.take_take,Nat.min_eq_left (Nat.mul_le_mul_right _ hm)]
structure OwnF (σ:Store) (v:V) (σ' : Store) (v' : V):Prop where
  keep:∀b cs,σ.box b=some cs→ownB v≠some b→σ'.box b=some cs
  tip:σ'.tip=σ.tip
  new:∀b,ownB v' = some b→ownB v=some b∨σ.box b=none
  con:σ'.con=σ.con
theorem setAt_end {k n:Nat}:∀{cs xs ys:List V},cs.take n=ys→n+xs.length≤cs.length→ys.length=n→(setAt cs n xs).take (n+xs.length)=ys++xs∧(setAt cs n xs).length=cs.length:=by
  intro cs xs ys h1 h2 h3;have ov:∀{cs xs:List V},xs.length≤cs.length→(over cs xs).take xs.length=xs∧(over cs xs).length=cs.length:=by
    intro cs;induction cs with
    | nil=>intro xs h;cases xs with | nil=>simp[over] | cons x xs=>simp at h
    | cons c cs ih =>
      intro xs h;cases xs with
      | nil=>simp[over]
      | cons x xs =>
        obtain⟨k1,k2⟩:=ih (xs:=xs) (by simpa using h);simp[over,k1,k2]
  induction n generalizing cs ys with
  | zero =>
    simp at h3;subst h3;obtain⟨k1,k2⟩:=ov (cs:=cs) (xs:=xs) (by omega);have e:setAt cs 0 xs=over cs xs:=by cases cs<;>rfl
    rw[e];simpa using ⟨k1,k2⟩
  | succ n ih =>
    cases cs with
    | nil=>simp at h2
    | cons c cs =>
      cases ys with
      | nil=>simp at h3
      | cons y ys =>
        simp only[List.take_succ_cons,List.cons.injEq] at h1;obtain⟨k1,k2⟩:=ih (cs:=cs) (ys:=ys) h1.2 (by simp at h2;omega) (by simpa using h3);simp only[setAt];rw[show n+1+xs.length=(n+xs.length)+1 by omega];simp[k1,k2,h1.1]
theorem Own.app {k:Nat} {v:V} {rows m:List (List V)} {tk:Tk} {H:V→Store→Prop} (h:Own σ k v rows) (hm:∀r∈m,r.length=k) (hn:nolL m.flatten=true) (hb:rows.length+m.length≤big)
    (hk:∀v' σ',Own σ' k v' (rows++m)→OwnF σ v σ' v' → H v' σ'):OQ.sem σ H (.app k) [v,.sl tk k m]:=by
  obtain⟨a,cap,rfl,h1,h2,h3⟩:=h;have hfm:=flat_length hm;have hfr:=flat_length h2;refine⟨rfl,h1,hb,hn,fun e=>?_,fun e hle=>?_,fun hlt=>?_⟩
  · subst e;refine hk _ _ ⟨a,cap,by simp,by simpa using h1,by simpa using h2,by simpa using h3⟩ ⟨fun _ _ h _=>h,rfl,fun b hb=>.inl hb,rfl⟩
  · rcases h3 with h3 | ⟨b,cs,rfl,h4,h5,h6⟩
    · have:m.length=0:=by omega
      exact absurd (List.eq_nil_of_length_eq_zero this) e
    · have hfit:rows.length*k+m.length*k≤cs.length:=by rw[h5,←Nat.add_mul];exact Nat.mul_le_mul_right _ hle
      refine⟨b,cs,rfl,h4,hfit,hk _ _ ⟨some ⟨b,0,Option.none⟩,cap,by simp,by simpa using hle,fun r hr=>?_,.inr ⟨b,_,rfl,Store.set_same _ _ _,?_,?_⟩⟩ ⟨fun b' cs' hb' hne=>?_,rfl,fun b' hb' => .inl hb',rfl⟩⟩
      · rcases List.mem_append.1 hr with hr | hr
        · exact h2 r hr
        · exact hm r hr
      · rw[(setAt_end (k:=k) h6 (by rw[hfm];exact hfit) hfr).2];exact h5
      · have:=(setAt_end (k:=k) h6 (by rw[hfm];exact hfit) hfr).1
        rw[hfm] at this;rw[List.length_append,Nat.add_mul,this,List.flatten_append]
      · have:b' ≠ b:=by rintro rfl;exact hne rfl
        rw[Store.set_other _ _ this];exact hb'
  · have base:∀cs:List V,cs.take (rows.length*k)=rows.flatten→∀b' cap',σ.box b' = Option.none→rows.length+m.length≤cap' → H (.raw (.slice (some ⟨b',0,Option.none⟩) (rows.length+m.length) cap')) (σ.set b' (cs.take (rows.length*k)++m.flatten++List.replicate ((cap' - (rows.length+m.length))*k) .any)):=by
      intro cs h6 b' cap' hb' hc;refine hk _ _ ⟨some ⟨b',0,Option.none⟩,cap',by simp,by simpa using hc,fun r hr=>?_,.inr ⟨b',_,rfl,Store.set_same _ _ _,?_,?_⟩⟩ ⟨fun b'' cs' hb'' hne=>?_,rfl,fun b'' hb'' => ?_,rfl⟩
      · rcases List.mem_append.1 hr with hr | hr
        · exact h2 r hr
        · exact hm r hr
      · rw[h6];simp only[List.length_append,hfr,hfm,List.length_replicate];rw[←Nat.add_mul,←Nat.add_mul];congr 1;omega
      · rw[h6,List.length_append,List.flatten_append,List.take_append_of_le_length (by simp only[List.length_append,hfr,hfm];rw[Nat.add_mul];omega),List.take_of_length_le (by simp only[List.length_append,hfr,hfm];rw[Nat.add_mul];omega)]
      · have:b'' ≠ b' := by rintro rfl;rw[hb'] at hb'';simp at hb''
        rw[Store.set_other _ _ this];exact hb''
      · simp only[ownB,Option.some.injEq] at hb'';subst hb'';exact .inr hb'
    rcases h3 with h3 | ⟨b,cs,rfl,h4,h5,h6⟩
    · have h0:rows=[]:=List.eq_nil_of_length_eq_zero (by omega);subst h0;exact⟨[],.inl ⟨rfl,rfl⟩,base [] (by simp)⟩
    · refine⟨cs,.inr ⟨b,rfl,h4,?_⟩,base cs h6⟩;rw[h5];exact Nat.mul_le_mul_right _ h1
theorem OwnF.refl {v:V}:OwnF σ v σ v:=⟨fun _ _ h _=>h,rfl,fun _ h=>.inl h,rfl⟩
structure OwnS (σ0 σ:Store) (v:V):Prop where
  sub:σ0.sub σ
  new:∀b,ownB v=some b→σ0.box b=none
theorem OwnS.step {σ0 σ' : Store} {v v' : V} (h:OwnS σ0 σ v) (f:OwnF σ v σ' v'):OwnS σ0 σ' v' := by
  refine⟨⟨fun b cs hb=>?_,fun t n hn=>by rw[f.tip];exact h.sub.2.1 t n hn,fun b cs hc=>by rw[f.con];exact h.sub.2.2 b cs hc⟩,fun b hb=>?_⟩
  · exact f.keep b cs (h.sub.1 b cs hb) (fun e=>by rw[h.new b e] at hb;simp at hb)
  · rcases f.new b hb with e | e
    · exact h.new b e
    · cases hq:σ0.box b with
      | none=>rfl
      | some cs=>rw[h.sub.1 b cs hq] at e;simp at e
end
section
variable {P:Program} {d:Option Nat} {K:St→Prop} {st:St} {b w:Bool}
theorem gL_split {op:AOp} {r:List AO} (h1:b=true→gL P (.bool true) w d op r K st) (h2:b=false→gL P (.bool false) w d op r K st):gL P (.bool b) w d op r K st:=by cases b with
  | true=>exact h1 rfl
  | false=>exact h2 rfl
theorem pickL_split {x y:V} {r:List AO} (h1:b=true→pickL P (.bool true) x y d r K st) (h2:b=false→pickL P (.bool false) x y d r K st):pickL P (.bool b) x y d r K st:=by cases b with
  | true=>exact h1 rfl
  | false=>exact h2 rfl
end
section
variable {P:Program} {d:Option Nat} {K:St→Prop} {t:List V} {l:List (List V)} {σ:Store} {r:List AO}
def evO (st:St):Option X→Option V
  | none=>none
  | some x=>some (ev st x)
def inB (n:Nat) (dflt:Nat):Option V→Prop
  | none=>n=dflt
  | some v=>∃j,v = .int j n
def slSL (v:V) (lo hi:Option V) (H:V→Prop):Prop:=∃s a b,v = .str s∧a≤b∧b≤s.length∧inB a 0 lo∧inB b s.length hi∧H (.str ((s.take b).drop a))
def slcL (k:Nat) (v:V) (lo hi mx:Option V) (H:V→Prop):Prop:=(∃τ l a b,v = .sl τ k l∧a≤b∧b≤l.length∧inB a 0 lo∧inB b l.length hi ∧
  match mx with
  | none=>H (.sl .no k ((l.take b).drop a))
  | some y=>(∃j,y = .int j b)∧H (.sl .full k ((l.take b).drop a))) ∨
  ∃a n cap m h,v = .raw (.slice a n cap)∧m≤h∧h≤cap∧inB m 0 lo∧inB h n hi∧mx.isNone=true∧H (.raw (.slice (if cap=m then a else a.map (·.add (m*k))) (h - m) (cap - m)))
theorem o_slS' {x:X} {lo hi:Option X}:vcOps P (⟨d,.slS x lo hi,none⟩::r) K ⟨t,l,σ⟩=slSL (ev ⟨t,l,σ⟩ x) (evO ⟨t,l,σ⟩ lo) (evO ⟨t,l,σ⟩ hi) (kL P d r K ⟨t,l,σ⟩):=by
  cases lo<;>cases hi<;>rfl
theorem o_slc' {k:Nat} {x:X} {lo hi mx:Option X}:vcOps P (⟨d,.slc k x lo hi mx,none⟩::r) K ⟨t,l,σ⟩=slcL k (ev ⟨t,l,σ⟩ x) (evO ⟨t,l,σ⟩ lo) (evO ⟨t,l,σ⟩ hi) (evO ⟨t,l,σ⟩ mx) (kL P d r K ⟨t,l,σ⟩):=by
  cases lo<;>cases hi<;>cases mx<;>rfl
theorem d_slS' {x:X} {lo hi:Option X} {ms:List Nat} {r:List (AO × List Nat)} {SN:List Sto} {L:List (V × Bool × Nat × V × List Nat)}:vcD P ((⟨d,.slS x lo hi,none⟩,ms)::r) SN L K ⟨t,l,σ⟩=slSL (ev ⟨t,l,σ⟩ x) (evO ⟨t,l,σ⟩ lo) (evO ⟨t,l,σ⟩ hi) (kD P d r SN L K ⟨t,l,σ⟩):=by
  cases lo<;>cases hi<;>rfl
theorem d_slc' {k:Nat} {x:X} {lo hi mx:Option X} {ms:List Nat} {r:List (AO × List Nat)} {SN:List Sto} {L:List (V × Bool × Nat × V × List Nat)}:vcD P ((⟨d,.slc k x lo hi mx,none⟩,ms)::r) SN L K ⟨t,l,σ⟩=slcL k (ev ⟨t,l,σ⟩ x) (evO ⟨t,l,σ⟩ lo) (evO ⟨t,l,σ⟩ hi) (evO ⟨t,l,σ⟩ mx) (kD P d r SN L K ⟨t,l,σ⟩):=by
  cases lo<;>cases hi<;>cases mx<;>rfl
theorem evO_none {st:St}:evO st none=none:=rfl
theorem evO_some {st:St} {x:X}:evO st (some x)=some (ev st x):=rfl
theorem slSL_intro {s:List UInt8} {j j' : IntKind} {a b:Nat} {H:V→Prop} (h1:a≤b) (h2:b≤s.length) (h:H (.str ((s.take b).drop a))):slSL (.str s) (some (.int j a)) (some (.int j' b)) H:=⟨s,a,b,rfl,h1,h2,⟨j,rfl⟩,⟨j',rfl⟩,h⟩
theorem slcL_from {k:Nat} {τ:Tk} {m:List (List V)} {j:IntKind} {a:Nat} {H:V→Prop} (h2:a≤m.length) (h:H (.sl .no k (m.drop a))):slcL k (.sl τ k m) (some (.int j a)) none none H:=.inl ⟨τ,m,a,m.length,rfl,h2,Nat.le_refl _,⟨j,rfl⟩,rfl,by rw[List.take_length];exact h⟩
theorem slcL_to {k:Nat} {τ:Tk} {m:List (List V)} {j:IntKind} {b:Nat} {H:V→Prop} (h2:b≤m.length) (h:H (.sl .no k (m.take b))):slcL k (.sl τ k m) none (some (.int j b)) none H:=.inl ⟨τ,m,0,b,rfl,Nat.zero_le _,h2,rfl,⟨j,rfl⟩,h⟩
def amc:=And.intro @o_cvBS <| And.intro @o_appS <| And.intro @o_slS' <| And.intro @o_slc' <| And.intro @d_slS' <| And.intro @d_slc' <| And.intro @evO_none <| And.intro @evO_some <| And.intro @o_idxP <| And.intro @d_idxP <| And.intro @d_cvBS <| And.intro @vc_scope <| And.intro @noGo_normal <| And.intro @noGo_exit <| And.intro @noGo_ret <| And.intro @rPost_normal <| And.intro @rPost_exit <| And.intro @rPost_ret @eff_idxP
end
theorem encB_append (a b:List UInt8):encB (a++b)=encB a++encB b:=by simp[encB]
theorem encB_length (a:List UInt8):(encB a).length=a.length:=by simp[encB]
end Go.Am

namespace Go.Am
abbrev B64:=BitVec 64
section
variable {a b c:B64} {n:Int} {m:Nat}
theorem wrap_u64 {x:Int} (h1:0≤x) (h2:x<18446744073709551616):IntKind.u64.wrap x=x:=IntWalk.u64_in x (by omega)
theorem w_lt (a:B64):(a.toNat:Int)<18446744073709551616:=by have:=a.isLt;omega
theorem w_of:BitVec.ofInt 64 (a.toNat:Nat)=a:=by simp
theorem w_wrap:IntKind.u64.wrap (a.toNat:Nat)=(a.toNat:Nat):=wrap_u64 (by omega) (w_lt a)
theorem w_sub:IntKind.u64.wrap ((a.toNat:Nat) - (b.toNat:Nat))=((a - b).toNat:Nat):=by
  have:=a.isLt;have:=b.isLt
  rw[IntKind.wrap_u64,BitVec.toNat_sub];omega
theorem w_mul:IntKind.u64.wrap ((a.toNat:Nat)*(b.toNat:Nat))=((a*b).toNat:Nat):=by
  rw[IntKind.wrap_u64,BitVec.toNat_mul,←Int.natCast_mul];generalize a.toNat*b.toNat=x;omega
theorem w_and:intV .u64 (a.toNat:Nat) (b.toNat:Nat) .and=some (.int .u64 ((a&&&b).toNat:Nat)):=by
  (simp only[intV,IntKind.bits,w_of,w_wrap];rfl)
theorem w_or:intV .u64 (a.toNat:Nat) (b.toNat:Nat) .or=some (.int .u64 ((a|||b).toNat:Nat)):=by
  (simp only[intV,IntKind.bits,w_of,w_wrap];rfl)
theorem w_andNot:intV .u64 (a.toNat:Nat) (b.toNat:Nat) .andNot=some (.int .u64 ((a&&&~~~b).toNat:Nat)):=by
  (simp only[intV,IntKind.bits,w_of,w_wrap];rfl)
theorem w_shl:intV .u64 (a.toNat:Nat) (m:Nat) .shl=some (.int .u64 ((a<<<m).toNat:Nat)):=by
  simp only[intV,IntKind.bits];rw[if_neg (by omega),IntKind.wrap_u64,BitVec.toNat_shiftLeft,Nat.shiftLeft_eq];simp only[Int.toNat_natCast,Option.some.injEq,V.int.injEq,true_and]
  by_cases h:m≤64
  · rw[show m.min 64=m from Nat.min_eq_left h,show (2:Int)^m=((2^m:Nat):Int) by simp,←Int.natCast_mul];generalize a.toNat*2^m=x;omega
  · rw[show m.min 64=64 from Nat.min_eq_right (by omega)];obtain⟨k,rfl⟩:∃k,m=64+k:=⟨m - 64,by omega⟩;rw[Nat.pow_add,←Nat.mul_assoc,Nat.mul_comm _ (2^64),Nat.mul_assoc,Nat.mul_mod_right];omega
theorem w_shr:intV .u64 (a.toNat:Nat) (m:Nat) .shr=some (.int .u64 ((a>>>m).toNat:Nat)):=by
  simp only[intV,IntKind.bits];rw[if_neg (by omega),BitVec.toNat_ushiftRight,Nat.shiftRight_eq_div_pow];simp only[Int.toNat_natCast,Option.some.injEq,V.int.injEq,true_and];rw[Int.fdiv_eq_ediv_of_nonneg _ (Int.le_of_lt (Int.pow_pos (by decide)))]
  by_cases h:m≤64
  · rw[show m.min 64=m from Nat.min_eq_left h];norm_cast
  · rw[show m.min 64=64 from Nat.min_eq_right (by omega)];have h1:a.toNat / 2^m=0:=Nat.div_eq_of_lt (Nat.lt_of_lt_of_le a.isLt (Nat.pow_le_pow_right (by decide) (by omega)));rw[h1]
    have:=a.isLt
    omega
theorem w_eq:decide ((a.toNat:Int)=(b.toNat:Nat))=decide (a=b):=by
  apply decide_eq_decide.2;rw[←BitVec.toNat_inj];omega
theorem w_zero:V.int .u64 0 = .int .u64 ((0#64:B64).toNat:Nat):=rfl
theorem w_one:V.int .u64 1 = .int .u64 ((1#64:B64).toNat:Nat):=rfl
theorem w_ones:V.int .u64 18446744073709551615 = .int .u64 ((BitVec.allOnes 64:B64).toNat:Nat):=rfl
end
def hasB (s:B64) (i:Int):Bool:=decide (0≤i)&&s.getLsbD i.toNat
def bitB (i:Nat):B64:=1#64<<<i
def withB (s:B64) (i:Int):B64:=if 0≤i∧i<64 then s|||bitB i.toNat else s
def ofB (l:List Int):B64:=l.foldl withB 0#64
def subB (a b:B64):Bool:=decide (a&&&~~~b=0#64)
def belowB (n:Int):B64:=if n≤0 then 0#64 else if 64≤n then BitVec.allOnes 64 else bitB n.toNat - 1#64
def listB (s:B64):List Nat:=(List.range 64).filter s.getLsbD
theorem eqB {a b:B64} (h:∀k,k<64→a.getLsbD k=b.getLsbD k):a=b:=BitVec.eq_of_getLsbD_eq fun k hk=>h k hk
theorem bitB_get (i k:Nat):(bitB i).getLsbD k=(decide (k<64)&&decide (k=i)):=by
  simp only[bitB,BitVec.getLsbD_shiftLeft,BitVec.getLsbD_one]
  by_cases h:k<64<;>by_cases h2:k=i<;>simp[h,h2]<;>omega
theorem withB_get (s:B64) (i:Int) (k:Nat):(withB s i).getLsbD k=(s.getLsbD k||(decide (k<64)&&decide ((k:Int)=i))):=by
  unfold withB
  split
  · rename_i h;rw[BitVec.getLsbD_or,bitB_get];congr 2;apply decide_eq_decide.2;omega
  · rename_i h
    have:(decide (k<64)&&decide ((k:Int)=i))=false:=by
      simp only[Bool.and_eq_false_iff,decide_eq_false_iff_not];omega
    rw[this,Bool.or_false]
theorem foldB_get:∀(l:List Int) (s:B64) (k:Nat),(l.foldl withB s).getLsbD k=(s.getLsbD k||(decide (k<64)&&decide ((k:Int)∈l)))
  | [],s,k=>by simp
  | i :: l, s, k => by
    rw[List.foldl_cons,foldB_get l,withB_get,Bool.or_assoc,←Bool.and_or_distrib_left,←Bool.decide_or];simp only[List.mem_cons]
theorem ofB_get (l:List Int) (k:Nat):(ofB l).getLsbD k=(decide (k<64)&&decide ((k:Int)∈l)):=by
  rw[ofB,foldB_get];simp
theorem ones_get (k:Nat):(BitVec.allOnes 64).getLsbD k=decide (k<64):=BitVec.getLsbD_allOnes
theorem below_get (n:Nat) (h:n≤64) (k:Nat):(bitB n - 1#64).getLsbD k=(decide (k<64)&&decide (k<n)):=by
  by_cases hk:k<64
  · rw[BitVec.getLsbD,BitVec.toNat_sub,bitB,BitVec.toNat_shiftLeft,Nat.shiftLeft_eq];have e1:(1#64).toNat=1:=rfl;rw[e1,Nat.one_mul]
    by_cases h2:n=64
    · subst h2
      have:(2^64 - 1+2^64 % 2^64) % 2^64=2^64 - 1:=by decide
      rw[this,Nat.testBit_two_pow_sub_one];simp[hk]
    · have hp:2^n<2^64:=Nat.pow_lt_pow_right (by decide) (by omega);have hp0:0<2^n:=Nat.two_pow_pos n;rw[Nat.mod_eq_of_lt hp,show 2^64 - 1+2^n=(2^n - 1)+2^64 by omega,Nat.add_mod_right,Nat.mod_eq_of_lt (by omega),Nat.testBit_two_pow_sub_one];simp[hk]
  · rw[BitVec.getLsbD_of_ge _ _ (by omega)];simp[hk]
theorem belowB_get (n:Int) (k:Nat):(belowB n).getLsbD k=(decide (k<64)&&decide ((k:Int)<n)):=by
  unfold belowB;split
  · rw[decide_eq_false (p:=(k:Int)<n) (by omega)];simp
  · split
    · rw[ones_get]
      by_cases h:k<64
      · rw[decide_eq_true (p:=(k:Int)<n) (by omega)];simp
      · simp[h]
    · rw[below_get _ (by omega)];congr 1;apply decide_eq_decide.2;omega
theorem mem_listB {s:B64} {k:Nat}:k∈listB s↔s.getLsbD k=true:=by
  simp only[listB,List.mem_filter,List.mem_range,and_iff_right_iff_imp];intro h;exact Nat.lt_of_not_le fun hc=>by rw[BitVec.getLsbD_of_ge _ _ hc] at h;simp at h
theorem listB_lt {s:B64} {k:Nat} (h:k∈listB s):k<64:=by
  simp only[listB,List.mem_filter,List.mem_range] at h;exact h.1
theorem listB_len (s:B64):(listB s).length≤64:=by
  have:=List.length_filter_le s.getLsbD (List.range 64);simpa [listB] using this
def lowB (s:B64):Nat:=((List.range 64).find? s.getLsbD).getD 64
theorem lowB_spec {s:B64} (h:s≠0#64):lowB s<64∧s.getLsbD (lowB s)=true∧∀k,k<lowB s→s.getLsbD k=false:=by
  unfold lowB;cases hf:(List.range 64).find? s.getLsbD with
  | none =>
    exfalso;apply h;apply eqB;intro k hk
    have:=List.find?_eq_none.1 hf k (by simpa using hk)
    simpa using this
  | some i =>
    obtain⟨h1,as,bs,h2,h3⟩:=List.find?_eq_some_iff_append.1 hf;have hi:i<64:=by
      have:i∈List.range 64:=by rw[h2];simp
      simpa using this
    refine⟨hi,h1,fun k hk=>?_⟩;simp only[Option.getD_some] at hk;have hl:as.length=i:=by
      have:=congrArg (fun l:List Nat=>l[as.length]?) h2
      simp only[List.getElem?_append_right (Nat.le_refl _),Nat.sub_self,List.getElem?_cons_zero] at this;rw[List.getElem?_range] at this
      · simpa using this
      · have:=congrArg List.length h2;simp at this;omega
    have hk' : k∈as:=by
      have:=congrArg (fun l:List Nat=>l[k]?) h2
      rw[List.getElem?_append_left (by omega),List.getElem?_range (by omega)] at this;exact List.mem_of_getElem? this.symm
    have:=h3 k hk'
    simpa using this
theorem neg_low {s:B64} (h:s≠0#64):s&&&-s=bitB (lowB s):=by
  obtain⟨h1,h2,h3⟩:=lowB_spec h;apply eqB;intro i hi;rw[BitVec.getLsbD_and,BitVec.getLsbD_neg,bitB_get]
  rcases Nat.lt_trichotomy i (lowB s) with hc | hc | hc
  · rw[h3 i hc,decide_eq_false (p:=i=lowB s) (by omega)];simp
  · subst hc;rw[h2,decide_eq_false (p:=∃j,j<lowB s∧s.getLsbD j=true) (by rintro⟨j,hj,hs⟩;rw[h3 j hj] at hs;simp at hs)];simp[hi]
  · rw[decide_eq_true (p:=∃j,j<i∧s.getLsbD j=true) ⟨_,hc,h2⟩,decide_eq_false (p:=i=lowB s) (by omega)];cases s.getLsbD i<;>simp[hi]
theorem drop_low (s:B64) (i:Nat):(s&&&(s - 1#64)).getLsbD i=(s.getLsbD i&&decide (∃j,j<i∧s.getLsbD j=true)):=by
  by_cases hi:i<64
  · rw[BitVec.getLsbD_and,←BitVec.not_neg,BitVec.getLsbD_not,BitVec.getLsbD_neg];cases s.getLsbD i<;>simp[hi]
  · rw[BitVec.getLsbD_of_ge _ _ (by omega),BitVec.getLsbD_of_ge _ _ (by omega)];simp
theorem listB_cons {s:B64} (h:s≠0#64):listB s=lowB s::listB (s&&&(s - 1#64)):=by
  obtain⟨h1,h2,h3⟩:=lowB_spec h;generalize lowB s=k at h1 h2 h3;have hr:List.range 64=List.range k++k::List.range' (k+1) (64 - (k+1)):=by
    rw[List.range_eq_range',List.range_eq_range',←List.range'_succ,show (64:Nat) - (k+1)+1=64 - k by omega]
    have:=List.range'_append (s:=0) (m:=k) (n:=64 - k) (step:=1)
    simp only[Nat.one_mul,Nat.zero_add] at this;rw[this];congr 1;omega
  unfold listB;rw[hr,List.filter_append,List.filter_append,List.filter_cons,List.filter_cons,h2,drop_low s k];have e1:List.filter s.getLsbD (List.range k)=[]:=List.filter_eq_nil_iff.2 fun x hx=>by rw[h3 x (by simpa using hx)];simp
  have e2:List.filter (s&&&(s - 1#64)).getLsbD (List.range k)=[]:=List.filter_eq_nil_iff.2 fun x hx=>by rw[drop_low,h3 x (by simpa using hx)];simp
  rw[e1,e2,
    decide_eq_false (by rintro⟨j,hj,hs⟩;rw[h3 j hj] at hs;simp at hs)]
  simp only[Bool.and_false,Bool.false_eq_true,if_false,if_true,List.nil_append,List.cons.injEq,true_and];refine List.filter_congr fun x hx=>?_
  have hx:k<x:=by simp only[List.mem_range'_1] at hx;omega
  rw[drop_low,decide_eq_true ⟨k,hx,h2⟩,Bool.and_true]
theorem listB_nil:listB 0#64=[]:=by simp[listB]
theorem listB_ne {s:B64} (h:listB s≠[]):s≠0#64:=by rintro rfl;exact h listB_nil
theorem listB_zero {s:B64} (h:listB s=[]):s=0#64:=by
  apply Classical.byContradiction;intro hc;rw[listB_cons hc] at h;simp at h
def tzTab:List Int:=[0,1,56,2,57,49,28,3,61,58,42,50,38,29,17,4,62,47,59,36,45,43,51,22,53,39,33,30,24,18,12,5,63,55,48,27,60,41,37,16,46,35,44,21,52,32,23,11,54,26,40,15,34,20,31,10,25,14,19,9,13,8,7,6]
def tzCells:List V:=tzTab.map fun n=>.int .u8 n
theorem tz_at (k:Nat) (h:k<64):((bitB k*285870213051353865#64)>>>58).toNat<64∧tzTab[((bitB k*285870213051353865#64)>>>58).toNat]?=some (k:Int):=by
  revert k;decide +kernel
end Go.Am

namespace Go.Am
structure Tok where
  kind:Int
  text:List UInt8
  pos:Int
inductive Tree where
  | mk (tok:Tok) (kids:List Tree) (fin:Int)
def Tree.tok:Tree→Tok | .mk t _ _=>t
def Tree.kids:Tree→List Tree | .mk _ k _=>k
def Tree.fin:Tree→Int | .mk _ _ e=>e
mutual
def Tree.enc:Tree→List V
  | .mk t ks e=>[.int .u8 t.kind,.str t.text,.int .i64 t.pos,.sl .no 5 (encs ks),.int .i64 e]
def encs:List Tree→List (List V)
  | []=>[]
  | t::ts=>t.enc::encs ts
end
theorem encs_map:∀l,encs l=l.map Tree.enc
  | []=>rfl
  | t::ts=>by simp[encs,encs_map ts]
theorem encs_length (l:List Tree):(encs l).length=l.length:=by simp[encs_map]
theorem enc_eq (t:Tree):t.enc=[.int .u8 t.tok.kind,.str t.tok.text,.int .i64 t.tok.pos,.sl .no 5 (encs t.kids),.int .i64 t.fin]:=by
  cases t;simp only[Tree.enc,Tree.tok,Tree.kids,Tree.fin]
mutual
def Tree.many:Tree→Nat
  | .mk _ ks _=>manys ks
def manys:List Tree→Nat
  | []=>0
  | t::ts=>1+t.many+manys ts
end
theorem many_eq (t:Tree):t.many=manys t.kids:=by cases t;simp[Tree.many,Tree.kids]
theorem manys_append:∀a b,manys (a++b)=manys a+manys b
  | [],b=>by simp[manys]
  | t::ts,b=>by simp[manys,manys_append ts b];omega
theorem manys_ge:∀l,l.length≤manys l
  | []=>by simp[manys]
  | t::ts=>by simp[manys];have:=manys_ge ts;omega
theorem manys_get {l:List Tree} {i:Nat} (h:i<l.length):manys l=manys (l.take i)+(1+manys l[i].kids)+manys (l.drop (i+1)):=by
  have:l=l.take i++l[i]::l.drop (i+1):=by simp
  have e:=congrArg manys this;rw[e,manys_append];simp only[manys,many_eq];omega
theorem manys_kids {l:List Tree} {i:Nat} (h:i<l.length):manys l[i].kids+1≤manys l:=by
  have:=manys_get h;omega
structure Word where
  text:List UInt8
  pos:Int
def Word.enc (w:Word):List V:=[.str w.text,.int .i64 w.pos]
inductive Nd where
  | mk (kind pos:Int) (text:List UInt8) (names:List Word) (kids:List Nd)
namespace Nd
def kind:Nd→Int | .mk k _ _ _ _=>k
def pos:Nd→Int | .mk _ p _ _ _=>p
def text:Nd→List UInt8 | .mk _ _ t _ _=>t
def names:Nd→List Word | .mk _ _ _ w _=>w
def kids:Nd→List Nd | .mk _ _ _ _ k=>k
end Nd
mutual
def Nd.enc:Nd→List V
  | .mk k p t ws ks=>[.int .i64 k,.int .i64 p,.str t,.sl .no 2 (ws.map Word.enc),.sl .no 5 (nencs ks)]
def nencs:List Nd→List (List V)
  | []=>[]
  | n::ns=>n.enc::nencs ns
end
theorem nencs_map:∀l,nencs l=l.map Nd.enc
  | []=>rfl
  | t::ts=>by simp[nencs,nencs_map ts]
theorem Nd.enc_eq (n:Nd):n.enc=[.int .i64 n.kind,.int .i64 n.pos,.str n.text,.sl .no 2 (n.names.map Word.enc),.sl .no 5 (n.kids.map Nd.enc)]:=by
  cases n;simp only[Nd.enc,Nd.kind,Nd.pos,Nd.text,Nd.names,Nd.kids,nencs_map]
structure Rdr where
  l:List Tree
  at_:Int
  fin:Int
  bad:Option Int
def badC (b:Option Int):Int:=match b with | some _=>2 | none=>0
def badA (b:Option Int):Int:=match b with | some a=>a | none=>0
def Rdr.enc (r:Rdr):List V:=[.sl .no 5 (encs r.l),.int .i64 r.at_,.int .i64 r.fin,.int .i64 (badC r.bad),.int .i64 (badA r.bad)]
def isK (l:List Tree) (at_:Int) (k:Int):Bool:=decide (0≤at_)&&match l[at_.toNat]? with | some t=>decide (t.tok.kind=k) | none=>false
def Rdr.ok (r:Rdr):Bool:=r.bad.isNone
def Rdr.spot (r:Rdr):Int:=if 0≤r.at_ then (match r.l[r.at_.toNat]? with | some t=>t.tok.pos | none=>r.fin) else r.fin
def Rdr.fail (r:Rdr):Rdr:=match r.bad with | some _=>r | none=>{r with bad:=some r.spot}
def Rdr.sees (r:Rdr) (k:Int):Bool:=r.ok&&isK r.l r.at_ k
def Tree.zero:Tree:=.mk ⟨0,[],0⟩ [] 0
def Rdr.take (r:Rdr) (k:Int):Tree × Rdr:=if r.sees k then (r.l.getD r.at_.toNat .zero,{r with at_:=r.at_+1}) else (.zero,r.fail)
def Rdr.word (r:Rdr):Word × Rdr:=(⟨(r.take 97).1.tok.text,(r.take 97).1.tok.pos⟩,(r.take 97).2)
theorem Rdr.ex1 {r:Rdr} {n:Nat}:r.enc.drop n=[V.sl .no 5 (encs r.l),.int .i64 r.at_,.int .i64 r.fin,.int .i64 (badC r.bad),.int .i64 (badA r.bad)].drop n:=rfl
theorem Rdr.ex2 {r:Rdr} {n:Nat} {x:List V}:setAt r.enc n x=setAt [V.sl .no 5 (encs r.l),.int .i64 r.at_,.int .i64 r.fin,.int .i64 (badC r.bad),.int .i64 (badA r.bad)] n x:=rfl
theorem Rdr.ex3 {r:Rdr} {n:Nat} {g:Bool}:ldC g n r.enc=ldC g n [V.sl .no 5 (encs r.l),.int .i64 r.at_,.int .i64 r.fin,.int .i64 (badC r.bad),.int .i64 (badA r.bad)]:=rfl
theorem Rdr.ex4 {r:Rdr} {n:Nat}:hasN n r.enc=hasN n [V.sl .no 5 (encs r.l),.int .i64 r.at_,.int .i64 r.fin,.int .i64 (badC r.bad),.int .i64 (badA r.bad)]:=rfl
theorem Rdr.ex:(∀{r:Rdr} {n:Nat},r.enc.drop n=[V.sl .no 5 (encs r.l),.int .i64 r.at_,.int .i64 r.fin,.int .i64 (badC r.bad),.int .i64 (badA r.bad)].drop n) ∧
    (∀{r:Rdr} {n:Nat} {x:List V},setAt r.enc n x=setAt [V.sl .no 5 (encs r.l),.int .i64 r.at_,.int .i64 r.fin,.int .i64 (badC r.bad),.int .i64 (badA r.bad)] n x) ∧
    (∀{r:Rdr} {n:Nat} {g:Bool},ldC g n r.enc=ldC g n [V.sl .no 5 (encs r.l),.int .i64 r.at_,.int .i64 r.fin,.int .i64 (badC r.bad),.int .i64 (badA r.bad)]) ∧
    (∀{r:Rdr} {n:Nat},hasN n r.enc=hasN n [V.sl .no 5 (encs r.l),.int .i64 r.at_,.int .i64 r.fin,.int .i64 (badC r.bad),.int .i64 (badA r.bad)]):=⟨Rdr.ex1,Rdr.ex2,Rdr.ex3,Rdr.ex4⟩
def goG {β:Type} (step:Rdr × List β→Rdr × List β):Nat→Rdr × List β→Rdr × List β
  | 0,a=>a
  | n+1,a=>if a.1.sees 44 then goG step n (step ((a.1.take 44).2,a.2)) else a
def someG {β:Type} (step:Rdr × List β→Rdr × List β) (r:Rdr):Rdr × List β:=goG step r.l.length (step (r,[]))
def wStep (a:Rdr × List Word):Rdr × List Word:=(a.1.word.2,a.2++[a.1.word.1])
theorem Rdr.take_l (r:Rdr) (k:Int):(r.take k).2.l=r.l:=by
  unfold Rdr.take;split
  · rfl
  · unfold Rdr.fail;split<;>rfl
theorem Rdr.fail_at (r:Rdr):r.fail.at_=r.at_:=by unfold Rdr.fail;split<;>rfl
theorem Rdr.fail_ok (r:Rdr):r.fail.bad≠none:=by
  unfold Rdr.fail;split
  · rename_i h;rw[h];simp
  · simp
theorem Rdr.take_at (r:Rdr) (k:Int):(r.sees k=true∧(r.take k).2.at_=r.at_+1∧(r.take k).2.bad=none∧0≤r.at_∧r.at_<r.l.length)∨(r.sees k=false∧(r.take k).2.at_=r.at_∧(r.take k).2.bad≠none):=by
  cases h:r.sees k
  · right;simp only[Rdr.take,h,Bool.false_eq_true,if_false,true_and];exact⟨r.fail_at,r.fail_ok⟩
  · left;have h' := h;simp only[Rdr.sees,Rdr.ok,isK,Bool.and_eq_true,decide_eq_true_eq,Option.isNone_iff_eq_none] at h';obtain⟨h1,h0,hk⟩:=h';simp only[Rdr.take,h,if_true,true_and];refine⟨h1,h0,?_⟩;cases hq:r.l[r.at_.toNat]? with
    | none=>rw[hq] at hk;simp at hk
    | some t=>have:=(List.getElem?_eq_some_iff.1 hq).1;omega
theorem Rdr.take_many (r:Rdr) (k:Int):manys (r.take k).1.kids≤manys r.l∧((r.take k).2.bad=none→manys (r.take k).1.kids+1≤manys r.l):=by
  rcases r.take_at k with ⟨h,_,_,h1,h2⟩ | ⟨h,_,h1⟩
  · have hlt:r.at_.toNat<r.l.length:=by omega
    have:=manys_kids hlt
    simp only[Rdr.take,h,if_true,List.getD,List.getElem?_eq_getElem hlt,Option.getD_some];exact⟨by omega,fun _=>this⟩
  · refine⟨?_,fun hb=>absurd hb h1⟩;simp[Rdr.take,h,Tree.zero,Tree.kids,manys]
def Tree.inner (t:Tree):Rdr:=⟨t.kids,0,t.fin,none⟩
def Rdr.close (r:Rdr):Rdr:=if r.ok=true∧r.at_<r.l.length then r.fail else r
def Rdr.under (r i:Rdr):Rdr:={r with bad:=i.close.bad}
structure Reads {β:Type} (one:Rdr→β × Rdr):Prop where
  l:∀r,(one r).2.l=r.l
  go:∀r,0≤r.at_→r.at_≤r.l.length→r.at_≤(one r).2.at_∧(one r).2.at_≤r.l.length∧((one r).2.bad=none→r.at_+1≤(one r).2.at_)
def oStep {β:Type} (one:Rdr→β × Rdr) (a:Rdr × List β):Rdr × List β:=((one a.1).2,a.2++[(one a.1).1])
def Rdr.inside {β:Type} (step:Rdr × List β→Rdr × List β) (empty:Bool) (t:Tree):Rdr × List β:=if empty=true∧t.kids.length=0 then (t.inner,[]) else someG step t.inner
def Rdr.bracket {β:Type} (step:Rdr × List β→Rdr × List β) (kind:Int) (empty:Bool) (r:Rdr):(List β × Int) × Rdr :=
  if (r.take kind).2.ok=true then (((Rdr.inside step empty (r.take kind).1).2,(r.take kind).1.tok.pos),(r.take kind).2.under (Rdr.inside step empty (r.take kind).1).1) else (([],0),(r.take kind).2)
def Rdr.nodes (one:Rdr→Nd × Rdr) (kind:Int) (empty:Bool) (r:Rdr):(List Nd × Int) × Rdr:=r.bracket (oStep one) kind empty
def Rdr.words (empty:Bool) (r:Rdr):(List Word × Int) × Rdr:=r.bracket wStep 123 empty
end Go.Am

namespace Go.Am
def relZ:List V:=.int .i64 0::List.replicate 64 (.int .u64 0)
def facZ:List V:=.int .i64 0::.sl .full 1 []::relZ
def rel1:List Nat:=List.replicate 65 1
def encW (l:List B64):List V:=l.map fun w=>.int .u64 (w.toNat:Nat)
section
variable {l m:List B64} {i n:Nat} {w:B64}
theorem encW_len:(encW l).length=l.length:=by simp[encW]
theorem encW_one:oneL (encW l)=true:=by induction l with | nil=>rfl | cons a l ih=>simpa [encW,oneL,V.one] using ih
theorem encW_nol:nolL (encW l)=true:=by induction l with | nil=>rfl | cons a l ih=>simpa [encW,nolL,V.nol] using ih
theorem encW_er:eraseL (encW l)=encW l:=by induction l with | nil=>rfl | cons a l ih=>simp only[encW,List.map_cons,eraseL,V.erase] at ih ⊢;rw[ih]
theorem encW_lo:loL n (encW l)=true:=by induction l with | nil=>rfl | cons a l ih=>simpa [encW,loL,V.lo] using ih
theorem encW_ld (h:i<l.length):ldC false 1 ((encW l).drop i)=some (.int .u64 ((l.getD i 0#64).toNat:Nat)):=by
  have h' : i<(encW l).length:=by rwa [encW_len]
  rw[List.drop_eq_getElem_cons h'];simp only[ldC];simp[encW,List.getD,h]
theorem encW_st (h:i<l.length):setAt (encW l) i [.int .u64 (w.toNat:Nat)]=encW (l.set i w):=by
  induction l generalizing i with
  | nil=>simp at h
  | cons a l ih =>
    cases i with
    | zero=>simp only[encW,List.map_cons,List.set_cons_zero,setAt_zero,over_cons,over_nil]
    | succ i=>simp only[List.length_cons,Nat.add_lt_add_iff_right] at h;simp only[encW,List.map_cons,setAt,List.set_cons_succ] at ih ⊢;rw[ih h]
theorem encW_has (h:i<l.length):hasN 1 ((encW l).drop i)=true:=by
  have h' : i<(encW l).length:=by rwa [encW_len]
  rw[List.drop_eq_getElem_cons h'];rfl
theorem encW_eqC (h:l.length=n) (h' : m.length=n):eqC (List.replicate n 1) (encW l) (encW m)=some (decide (l=m)):=by
  induction n generalizing l m with
  | zero=>obtain rfl:=List.length_eq_zero_iff.1 h;obtain rfl:=List.length_eq_zero_iff.1 h';rfl
  | succ n ih =>
    cases l with
    | nil=>simp at h
    | cons a l =>
      cases m with
      | nil=>simp at h'
      | cons b m =>
        simp only[encW,List.map_cons,List.replicate_succ] at ih ⊢;rw[eqC_int,ih (by simpa using h) (by simpa using h'),andM_some,w_eq,←Bool.decide_and];simp only[List.cons.injEq]
theorem takeN_all:∀{c:List V},takeN c.length c=some c
  | []=>rfl
  | x::c=>by rw[List.length_cons,takeN_succ',takeN_all];rfl
theorem takeN_app {c e:List V} (h:c.length=n):takeN n (c++e)=some c:=by
  subst h;induction c with
  | nil=>rfl
  | cons x c ih=>rw[List.length_cons,List.cons_append,takeN_succ',ih];rfl
theorem hasN_all:∀{c:List V},hasN c.length c=true
  | []=>rfl
  | x::c=>by rw[List.length_cons,hasN,hasN_all]
theorem over_all:∀{c e:List V},c.length=e.length→over c e=e
  | [],[],_=>rfl
  | x::c,y::e,h=>by rw[over,over_all (by simpa using h)]
  | [],_::_,h=>by simp at h
  | _::_,[],h=>by simp at h
end
structure Rl where
  n:Int
  up:List B64
  len:up.length=64
theorem Rl.ext' {a b:Rl} (h:a.n=b.n) (k:a.up=b.up):a=b:=by cases a;cases b;simp only at h k;subst h;subst k;rfl
instance:DecidableEq Rl:=fun a b=>if h:a.n=b.n∧a.up=b.up then isTrue (Rl.ext' h.1 h.2) else isFalse fun e=>h ⟨e▸rfl,e▸rfl⟩
def Rl.zero:Rl:=⟨0,List.replicate 64 0#64,by simp⟩
def Rl.enc (r:Rl):List V:=.int .i64 r.n::encW r.up
def Rl.get (r:Rl) (i:Nat):B64:=r.up.getD i 0#64
def Rl.put (r:Rl) (i:Nat) (w:B64):Rl:=⟨r.n,r.up.set i w,by simp[r.len]⟩
def Rl.setn (r:Rl) (n:Int):Rl:=⟨n,r.up,r.len⟩
def Rl.of (n:Int) (f:Nat→B64):Rl:=⟨n,(List.range 64).map f,by simp⟩
section
variable {r s:Rl} {i n m:Nat} {w:B64} {z:Int}
theorem Rl.get_put {j:Nat}:(r.put i w).get j=if i=j∧i<64 then w else r.get j:=by
  simp only[Rl.get,Rl.put,List.getD,List.getElem?_set,r.len]
  by_cases h:i=j
  · subst h
    by_cases h2:i<64
    · simp[h2]
    · simp[h2,r.len]
  · simp[h]
theorem Rl.get_of {f:Nat→B64} (h:i<64):(Rl.of z f).get i=f i:=by simp[Rl.get,Rl.of,List.getD,h]
theorem Rl.ext (h:r.n=s.n) (k:∀i,i<64→r.get i=s.get i):r=s:=by
  refine Rl.ext' h (List.ext_getElem (by rw[r.len,s.len]) fun i h1 h2=>?_)
  have:=k i (by rw[r.len] at h1;exact h1)
  simpa [Rl.get,List.getD,h1,h2] using this
theorem Rl.r_len:r.enc.length=65:=by simp[Rl.enc,encW_len,r.len]
theorem Rl.r_one:oneL r.enc=true:=by simp[Rl.enc,oneL,V.one,encW_one]
theorem Rl.r_nol:nolL r.enc=true:=by simp[Rl.enc,nolL,V.nol,encW_nol]
theorem Rl.r_er:eraseL r.enc=r.enc:=by simp[Rl.enc,eraseL,V.erase,encW_er]
theorem Rl.r_lo:loL m r.enc=true:=by simp[Rl.enc,loL,V.lo,encW_lo]
theorem Rl.r_tk:takeN 65 r.enc=some r.enc:=by have:=takeN_all (c:=r.enc);rwa [Rl.r_len] at this
theorem Rl.r_ld:ldC true 65 r.enc=some (.agg r.enc):=by rw[ldC_agg,Rl.r_tk];rfl
theorem Rl.r_has:hasN 65 r.enc=true:=by have:=hasN_all (c:=r.enc);rwa [Rl.r_len] at this
theorem Rl.r_ov:over s.enc r.enc=r.enc:=over_all (by rw[Rl.r_len,Rl.r_len])
theorem Rl.r_set:setAt s.enc 0 r.enc=r.enc:=by rw[setAt_zero,Rl.r_ov]
theorem Rl.r_n:ldC false 1 r.enc=some (.int .i64 r.n):=rfl
theorem Rl.r_has1:hasN 1 r.enc=true:=rfl
theorem Rl.r_sn:setAt r.enc 0 [.int .i64 z]=(r.setn z).enc:=by rw[Rl.enc,setAt_zero,over_cons,over_nil];rfl
theorem Rl.r_on:over r.enc [.int .i64 z]=(r.setn z).enc:=by rw[←setAt_zero,Rl.r_sn]
theorem Rl.r_zero:relZ=Rl.zero.enc:=by rw[Rl.enc,encW,Rl.zero,List.map_replicate];rfl
theorem Rl.r_eq:eqC rel1 r.enc s.enc=some (decide (r=s)):=by
  show eqC (1::List.replicate 64 1) (.int .i64 r.n::encW r.up) (.int .i64 s.n::encW s.up)=_;rw[eqC_int,encW_eqC r.len s.len,andM_some,←Bool.decide_and];congr 1;exact decide_eq_decide.2 ⟨fun h=>Rl.ext' h.1 h.2,fun h=>h▸⟨rfl,rfl⟩⟩
theorem Rl.of_n {f:Nat→B64}:(Rl.of z f).n=z:=rfl
theorem Rl.zero_setn:Rl.zero.setn z=Rl.of z fun _=>0#64:=by
  refine Rl.ext rfl fun i hi=>?_
  rw[Rl.get_of hi];simp only[Rl.get,Rl.setn,Rl.zero,List.getD,List.getElem?_replicate,hi,if_true,Option.getD_some]
theorem Rl.fill {f:Nat→B64}:(Rl.of z fun j=>if j<i then f j else 0#64).put i (f i)=Rl.of z fun j=>if j<i+1 then f j else 0#64:=by
  refine Rl.ext rfl fun k hk=>?_
  rw[Rl.get_put,Rl.get_of hk,Rl.get_of hk]
  by_cases h:i=k
  · subst h;simp[hk]
  · rw[if_neg (by omega)]
    by_cases h2:k<i
    · rw[if_pos h2,if_pos (by omega)]
    · rw[if_neg h2,if_neg (by omega)]
theorem Rl.u_ld (h:i<64):ldC false 1 (r.enc.drop (1+i))=some (.int .u64 ((r.get i).toNat:Nat)):=by
  rw[Nat.add_comm,Rl.enc,List.drop_succ_cons,encW_ld (by rw[r.len];exact h)];rfl
theorem Rl.u_has (h:i<64):hasN 1 (r.enc.drop (1+i))=true:=by
  rw[Nat.add_comm,Rl.enc,List.drop_succ_cons,encW_has (by rw[r.len];exact h)]
theorem Rl.u_st (h:i<64):setAt r.enc (1+i) [.int .u64 (w.toNat:Nat)]=(r.put i w).enc:=by
  rw[Nat.add_comm,Rl.enc,setAt_succ,encW_st (by rw[r.len];exact h)];rfl
def Rl.rec_:=And.intro @Rl.r_len <| And.intro @Rl.r_one <| And.intro @Rl.r_nol <| And.intro @Rl.r_er <| And.intro @Rl.r_lo <| And.intro @Rl.r_tk <| And.intro @Rl.r_ld <| And.intro @Rl.r_has <| And.intro @Rl.r_ov <| And.intro @Rl.r_n <| And.intro @Rl.r_has1 <| And.intro @Rl.r_set <| And.intro @Rl.r_sn <| And.intro @Rl.r_on <| And.intro @Rl.r_zero @Rl.r_eq
end
end Go.Am

namespace Go.Am
def xm (d a:Nat):AO:=⟨some d,.mv (.s a),none⟩
def xi (d:Nat) (n:Int):AO:=⟨some d,.mv (.c (.int .i64 n)),none⟩
def xb (p:BinOp) (d a b:Nat):AO:=⟨some d,.binI p (.s a) (.s b),none⟩
def xB (p:BinOp) (d a:Nat) (n:Int):AO:=⟨some d,.binI p (.s a) (.c (.int .i64 n)),none⟩
def xu (p:BinOp) (d a:Nat) (n:Int):AO:=⟨some d,.binI p (.s a) (.c (.int .u8 n)),none⟩
def xl (n d a:Nat):AO:=⟨some d,.load true n (.s a),none⟩
def xo (d a:Nat):AO:=⟨some d,.load false 1 (.s a),none⟩
def xk (d a:Nat):AO:=⟨some d,.nilck (.s a),none⟩
def xf (o d a:Nat):AO:=⟨some d,.fld o (.s a),none⟩
def xv (n o d a:Nat):AO:=⟨some d,.fldv true o n (.s a),none⟩
def xw (o d a:Nat):AO:=⟨some d,.fldv false o 1 (.s a),none⟩
def xL (d a:Nat):AO:=⟨some d,.lenS (.s a),none⟩
def xT (d a:Nat):AO:=⟨some d,.lenT (.s a),none⟩
def xA (k d a b:Nat):AO:=⟨some d,.idxA k (.s a) (.s b),none⟩
def xS (d a b:Nat):AO:=⟨some d,.idxS (.s a) (.s b),none⟩
def xs (n a b:Nat):AO:=⟨none,.store n (.s a) (.s b),none⟩
def xe (d a i:Nat):AO:=⟨some d,.ext (.s a) i,none⟩
def xc (f:FuncId) (d:Nat) (l:List X):AO:=⟨some d,.call f l,none⟩
def xp (d a b c:Nat):AO:=⟨some d,.pick (.s a) (.s b) (.s c),none⟩
def xa (k d a b:Nat):AO:=⟨some d,.app k (.s a) (.s b),none⟩
def xg (n:Nat) (o:AO):AO:=⟨o.dst,o.op,some (n,true)⟩
def xh (n:Nat) (o:AO):AO:=⟨o.dst,o.op,some (n,false)⟩
section
variable {d a b c n k i o:Nat} {z:Int} {p:BinOp} {f:FuncId} {l:List X} {g:Option Nat} {q:AOp}
theorem xm_:xm d a=⟨some d,.mv (.s a),none⟩:=rfl
theorem xi_:xi d z=⟨some d,.mv (.c (.int .i64 z)),none⟩:=rfl
theorem xb_:xb p d a b=⟨some d,.binI p (.s a) (.s b),none⟩:=rfl
theorem xB_:xB p d a z=⟨some d,.binI p (.s a) (.c (.int .i64 z)),none⟩:=rfl
theorem xu_:xu p d a z=⟨some d,.binI p (.s a) (.c (.int .u8 z)),none⟩:=rfl
theorem xl_:xl n d a=⟨some d,.load true n (.s a),none⟩:=rfl
theorem xo_:xo d a=⟨some d,.load false 1 (.s a),none⟩:=rfl
theorem xk_:xk d a=⟨some d,.nilck (.s a),none⟩:=rfl
theorem xf_:xf o d a=⟨some d,.fld o (.s a),none⟩:=rfl
theorem xv_:xv n o d a=⟨some d,.fldv true o n (.s a),none⟩:=rfl
theorem xw_:xw o d a=⟨some d,.fldv false o 1 (.s a),none⟩:=rfl
theorem xL_:xL d a=⟨some d,.lenS (.s a),none⟩:=rfl
theorem xT_:xT d a=⟨some d,.lenT (.s a),none⟩:=rfl
theorem xA_:xA k d a b=⟨some d,.idxA k (.s a) (.s b),none⟩:=rfl
theorem xS_:xS d a b=⟨some d,.idxS (.s a) (.s b),none⟩:=rfl
theorem xs_:xs n a b=⟨none,.store n (.s a) (.s b),none⟩:=rfl
theorem xe_:xe d a i=⟨some d,.ext (.s a) i,none⟩:=rfl
theorem xc_:xc f d l=⟨some d,.call f l,none⟩:=rfl
theorem xp_:xp d a b c=⟨some d,.pick (.s a) (.s b) (.s c),none⟩:=rfl
theorem xa_:xa k d a b=⟨some d,.app k (.s a) (.s b),none⟩:=rfl
theorem xg_:xg n ⟨g,q,none⟩=⟨g,q,some (n,true)⟩:=rfl
theorem xh_:xh n ⟨g,q,none⟩=⟨g,q,some (n,false)⟩:=rfl
end
def ams:=And.intro @xm_ <| And.intro @xi_ <| And.intro @xb_ <| And.intro @xB_ <| And.intro @xu_ <| And.intro @xl_ <| And.intro @xo_ <| And.intro @xk_ <| And.intro @xf_ <| And.intro @xv_ <| And.intro @xw_ <| And.intro @xL_ <| And.intro @xT_ <| And.intro @xA_ <| And.intro @xS_ <| And.intro @xs_ <| And.intro @xe_ <| And.intro @xc_ <| And.intro @xp_ <| And.intro @xa_ <| And.intro @xg_ @xh_
theorem Store.subT {a b c:Store} (h:a.sub b) (k:b.sub c):a.sub c:=⟨fun x cs hx=>k.1 x cs (h.1 x cs hx),fun x n hx=>k.2.1 x n (h.2.1 x n hx),fun x n hx=>k.2.2 x n (h.2.2 x n hx)⟩
end Go.Am

namespace Go.Am
theorem Env.ok.weak {E:Env} {σ σ' : Store} (h:E.ok σ) (ho:OLe σ σ'):E.ok σ' := by
  refine⟨fun b cs hb=>?_,fun t n ht=>h.tip t n (ho.tip t n ht),h.fresh,h.nt,fun b cs hc=>h.con b cs (ho.con b cs hc)⟩;obtain⟨ds,h1,h2⟩:=ho.box b cs hb;obtain⟨k1,k2⟩:=h.box b ds h1;exact⟨k1,k2.weak h2⟩
theorem PCalls.le {P:Program} {f:FuncId} {as:List V} {σ:Store} {v:V} {S S' : Store} (h:PCalls P f as σ fun v' σ' => v' = v∧σ' = S) (ho:OLe S S'):PCalls P f as σ fun v' σ' => v' = v∧σ' = S' :=
  ⟨h.1,fun E vs h1 h2 h3=>(h.2 E vs h1 h2 h3).mono fun _ _ ⟨v',x,E',σ',a,b,c,d,e,f,g⟩=>⟨v',x,E',S',a,b,c,(g.2▸d).weak ho,e,f,g.1,rfl⟩⟩
theorem OLe.set {σ:Store} {b:Nat} {A B:List V} (h:LLe A B):OLe (σ.set b A) (σ.set b B):=by
  refine⟨fun x cs' hx=>?_,fun _ _ h=>h,fun _ _ h=>h⟩;simp only[Store.set] at hx ⊢
  by_cases e:x=b
  · rw[if_pos e] at hx ⊢;simp only[Option.some.injEq] at hx;subst hx;exact⟨A,Eq.refl _,h⟩
  · rw[if_neg e] at hx ⊢;exact⟨cs',hx,LLe.rfl⟩
end Go.Am

namespace Go.Am
section
variable {σ:Store}
theorem Own.appS {v:V} {rows:List (List V)} {s:List UInt8} {H:V→Store→Prop} (h:Own σ 1 v rows) (hb:rows.length+s.length≤big)
    (hk:∀v' σ',Own σ' 1 v' (rows++encB s)→OwnF σ v σ' v' → H v' σ'):OQ.sem σ H .appS [v,.str s]:=by
  have h' := h;obtain⟨a,cap,rfl,_⟩:=h;have hn:nolL (encB s).flatten=true:=by
    rw[encB_flat];clear hb hk h';induction s with
    | nil=>rfl
    | cons b s ih=>simp only[List.map_cons,nolL,V.nol,Bool.true_and];exact ih
  exact(Own.app (tk:=.no) (m:=encB s) h' (by intro r hr;simp only[encB,List.mem_map] at hr;obtain⟨_,_,rfl⟩:=hr;rfl) hn (by simpa [encB] using hb) hk).2
theorem Own.appR {v:V} {rows:List (List V)} {a' : Option Addr} {n' c' : Nat} {s:List UInt8} {H:V→Store→Prop} (h:Own σ 1 v rows) (hr:rawText σ a' n' s) (hb:rows.length+s.length≤big)
    (hk:∀v' σ',Own σ' 1 v' (rows++encB s)→OwnF σ v σ' v' → H v' σ'):OQ.sem σ H .appR [v,.raw (.slice a' n' c')]:=by
  have h' := h;obtain⟨a,cap,rfl,_⟩:=h;exact⟨s,hr,Own.appS h' hb hk⟩
theorem Own.cvR {v:V} {s:List UInt8} {H:V→Store→Prop} (h:Own σ 1 v (encB s)) (hk:H (.str s) σ):OQ.sem σ H .cvR [v]:=by
  obtain⟨a,cap,rfl,h1,_,h3⟩:=h;have hl:(encB s).length=s.length:=by simp[encB]
  rw[hl] at h1 h3;refine⟨s,⟨by rw[hl],?_⟩,hk⟩
  rcases h3 with h3 | ⟨b,cs,rfl,h4,_,h6⟩
  · left;rw[hl];omega
  · right;refine⟨b,0,cs,rfl,h4,?_⟩;rw[hl,List.drop_zero];rw[Nat.mul_one,encB_flat] at h6;exact h6
theorem min_intro {a b:Int} {k:IntKind} {H:V→Store→Prop} (hk:H (.int k (if b<a then b else a)) σ):OQ.sem σ H .min [.int k a,.int k b]:=⟨ikEq_same,hk⟩
theorem max_intro {a b:Int} {k:IntKind} {H:V→Store→Prop} (hk:H (.int k (if a<b then b else a)) σ):OQ.sem σ H .max [.int k a,.int k b]:=⟨ikEq_same,hk⟩
theorem set_new {b g:Nat} {cs ds:List V} (h:σ.box b=none) (hg:σ.box g=some ds):(σ.set b cs).box g=some ds:=by
  rw[Store.set_other _ _ (by rintro rfl;rw[h] at hg;simp at hg)];exact hg
theorem sub_set {b:Nat} {cs:List V} (h:σ.box b=none):σ.sub (σ.set b cs) :=
  ⟨fun g ds hg=>set_new h hg,fun _ _ h=>h,fun _ _ h=>h⟩
end
end Go.Am

namespace Go.Am
section
variable {P:Program} {a:AC} {Q:Exit→St→Prop} {st:St} {α:Type} {F:Nat→α→St} {J:Nat→α→Prop} {n:Nat}
def CI (n:Nat) (J:Nat→α→Prop):={p:Nat × α // p.1≤n∧J p.1 p.2}
def CPost (F:Nat→α→St) (J:Nat→α→Prop) (n:Nat) (Q:Exit→St→Prop) (i:Nat):Exit→St→Prop :=
  LPost (ι:=CI n J) (fun p=>F p.1.1 p.1.2) (fun p=>n - p.1.1) Q (n - i)
def CEnt (F:Nat→α→St) (J:Nat→α→Prop) (st:St):Prop:=Upd st fun st' => ∃x,J 0 x∧st' = F 0 x
theorem vc_count (n:Nat) (F:Nat→α→St) (J J' : Nat→α→Prop) (hJ:∀i x,J i x=J' i x) (h0:CEnt F J st)
    (hs:∀i x,i<n→J' i x→vc P a (CPost F J n Q i) (F i x)) (he:∀x,J' n x→vc P a (CPost F J n Q n) (F n x)):vc P (.loop a) Q st:=by
  refine vc_loop (ι:=CI n J) (fun p=>F p.1.1 p.1.2) (fun p=>n - p.1.1) (Upd.mono h0 ?_) ?_
  · rintro st' ⟨x,hx,rfl⟩;exact⟨⟨(0,x),Nat.zero_le _,hx⟩,rfl⟩
  · rintro⟨⟨i,x⟩,hle,hx⟩
    rcases Nat.lt_or_ge i n with h | h
    · exact hs i x h ((hJ i x)▸hx)
    · have e:i=n:=Nat.le_antisymm hle h;subst e;exact he x ((hJ i x)▸hx)
theorem cpost_exit {i id:Nat}:CPost F J n Q i (.exit id) st=Q (.exit id) st:=rfl
theorem cpost_ret {i:Nat}:CPost F J n Q i .ret st=Q .ret st:=rfl
def CUpd (F:Nat→α→St) (J:Nat→α→Prop) (n i:Nat) (st:St):Prop:=Upd st fun st' => ∃j:CI n J,st' = F j.1.1 j.1.2∧n - j.1.1<n - i
theorem cpost_normal {i:Nat}:CPost F J n Q i .normal st=CUpd F J n i st:=rfl
def aml:=And.intro @cpost_exit <| And.intro @cpost_ret @cpost_normal
variable {t:List V} {l:List (List V)} {σ:Store}
theorem ent (x:α) (hx:J 0 x) (h:LLe t (F 0 x).t) (hl:LLLe l (F 0 x).loc) (ho:OLe σ (F 0 x).out):CEnt F J ⟨t,l,σ⟩ :=
  Upd.weak h hl ho ⟨x,hx,rfl⟩
theorem nxt {i:Nat} (x:α) (hi:i<n) (hx:J (i+1) x) (h:LLe t (F (i+1) x).t) (hl:LLLe l (F (i+1) x).loc) (ho:OLe σ (F (i+1) x).out):CUpd F J n i ⟨t,l,σ⟩ :=
  Upd.weak h hl ho ⟨⟨(i+1,x),hi,hx⟩,rfl,by simp only;omega⟩
theorem nxtD {i:Nat} (x:α) (hi:i<n) (hx:J (i+1) x) (h:LLe t (F (i+1) x).t) (hl:LLLe (l.take (F (i+1) x).loc.length) (F (i+1) x).loc) (ho:OLe σ (F (i+1) x).out) (h1:loL (F (i+1) x).loc.length (F (i+1) x).t=true) (h2:loLL (F (i+1) x).loc.length (F (i+1) x).loc=true):CUpd F J n i ⟨t,l,σ⟩ :=
  Upd.drops h hl ho h1 h2 ⟨⟨(i+1,x),hi,hx⟩,rfl,by simp only;omega⟩
structure Gr (σ0 σ:Store) (tk:Tk) (n:Nat):Prop where
  sub:σ0.sub σ
  tk:tk = .full∨∃τ,tk = .tk τ∧σ.tip τ=some n∧σ0.tip τ=none
theorem Gr.nil {σ:Store}:Gr σ σ .full 0:=⟨Store.sub_refl _,.inl rfl⟩
theorem Gr.app {σ0 σ:Store} {tk u:Tk} {k:Nat} {m e:List (List V)} {K:V→Store→Prop} (h:Gr σ0 σ tk m.length) (hb:m.length+e.length≤big)
    (hk:∀tk' σ',Gr σ0 σ' tk' (m++e).length→σ'.box=σ.box→(∀τ n,σ.tip τ=some n→tk≠.tk τ→σ'.tip τ=some n)→K (.sl tk' k (m++e)) σ'):AppOk σ k (.sl tk k m) (.sl u k e) K:=by
  have hl:(m++e).length=m.length+e.length:=List.length_append
  rcases h.tk with rfl | ⟨τ,rfl,ht,h0⟩
  · refine app_full hb fun τ hn=>hk _ _ ⟨⟨fun b cs hc=>h.sub.1 b cs hc,fun υ n hu=>?_,h.sub.2.2⟩,.inr ⟨τ,rfl,by rw[hl];exact setTip_tip,?_⟩⟩ rfl fun υ n hu _=>?_
    · have:=h.sub.2.1 υ n hu
      rw[setTip_tip_ne];exact this;rintro rfl;rw[hn] at this;simp at this
    · cases hq:σ0.tip τ with
      | none=>rfl
      | some n=>have:=h.sub.2.1 τ n hq;rw[hn] at this;simp at this
    · rw[setTip_tip_ne];exact hu;rintro rfl;rw[hn] at hu;simp at hu
  · refine app_tk hb ht (hk _ _ ⟨⟨fun b cs hc=>h.sub.1 b cs hc,fun υ n hu=>?_,h.sub.2.2⟩,.inr ⟨τ,rfl,by rw[hl];exact setTip_tip,h0⟩⟩ rfl fun υ n hu hne=>?_)
    · rw[setTip_tip_ne];exact h.sub.2.1 υ n hu;rintro rfl;rw[h0] at hu;simp at hu
    · rw[setTip_tip_ne];exact hu;rintro rfl;exact hne rfl
theorem lle_self {l:List V}:LLe l l=True:=eq_true LLe.rfl
theorem take_all {α:Type} {l:List α} {i:Nat} {p:α→Prop} (h:∀k∈l.take i,p k) (hi:i<l.length) (hk:p l[i]):∀k∈l.take (i+1),p k:=by
  rw[List.take_succ_eq_append_getElem hi];intro k hm
  rcases List.mem_append.1 hm with hm | hm
  · exact h k hm
  · rw[List.mem_singleton.1 hm];exact hk
theorem foldl_take {α β:Type} {f:β→α→β} {a:β} {l:List α} {i:Nat} (hi:i<l.length):(l.take (i+1)).foldl f a=f ((l.take i).foldl f a) l[i]:=by
  rw[List.take_succ_eq_append_getElem hi,List.foldl_append];rfl
theorem allS {p:Nat→Prop} {j:Nat} (h:∀k,k<j→p k) (hj:p j):∀k,k<j+1→p k:=fun k hk=>by
  rcases Nat.lt_succ_iff_lt_or_eq.1 hk with e | rfl
  · exact h k e
  · exact hj
theorem dlt {i n:Nat} (h:i<n):decide ((i:Int)<(n:Nat))=true:=decide_eq_true (by omega)
theorem dnl {n:Nat}:decide ((n:Int)<(n:Nat))=false:=decide_eq_false (by omega)
theorem winc {i n:Nat} (h:i<n) (hn:n≤9223372036854775807):IntKind.i64.wrap ((i:Int)+1)=((i+1:Nat):Int):=by
  rw[wrap_i64 (by omega) (by omega)];rfl
end
def pubV (n b:Nat):V→V
  | .ptr (.loc i) o=>if i=n then .ptr (.out b) o else if i<n then .ptr (.loc i) o else .any
  | v=>if v.lo n=true then v else .any
def Env.pub (E:Env) (n b:Nat):Env:={w:=E.w,role:=fun x=>if x=b then .obox else E.role x,loc:=fun i=>if i<n then E.loc i else none,tip:=E.tip}
section
variable {E:Env} {n b:Nat}
theorem pub_fr (h2:E.role b = .lbox n):Fr E (E.pub n b):=by
  have hro:∀x,x≠b→(E.pub n b).role x=E.role x:=fun x hx=>by simp[Env.pub,hx]
  refine⟨rfl,rfl,rfl,Nat.le_refl _,fun _=>rfl,fun b' o c hc hv=>?_,fun t m h=>⟨m,h,Nat.le_refl _,fun _ b' c hr=>⟨?_,fun cs e hcs=>⟨cs,hcs,rfl⟩⟩⟩,fun b' _ hr=>⟨rfl,?_⟩,fun b' _ h=>?_,fun b' t c _ h=>?_,fun b' i _ h=>?_,fun _ c _ h=>⟨c,h,rfl⟩⟩
  · have hne:b' ≠ b:=fun e=>by rw[e,h2] at hc;exact hc
    exact⟨by rw[hro _ hne];exact hc,hv⟩
  · have hne:b' ≠ b:=fun e=>by rw[e,h2] at hr;simp at hr
    rw[hro _ hne];exact hr
  · have hne:b' ≠ b:=fun e=>by rw[e,h2] at hr;simp at hr
    rw[hro _ hne]
  · by_cases e:b' = b
    · rw[e];exact .inr ⟨_,h2⟩
    · rw[hro _ e] at h;exact .inl h
  · by_cases e:b' = b
    · rw[e] at h;simp[Env.pub] at h
    · rw[hro _ e] at h;exact⟨c,h⟩
  · by_cases e:b' = b
    · rw[e] at h;simp[Env.pub] at h
    · rw[hro _ e] at h;exact⟨i,h⟩
theorem pub_R (h1:E.loc n=some b) (h2:E.role b = .lbox n) {x:V} {v:Value} (h:R E x v):R (E.pub n b) (pubV n b x) v:=by
  have hcut:∀{x:V},R E x v→R (E.pub n b) (if x.lo n=true then x else .any) v:=fun {x} h=>by
    split
    · rename_i hl;have hc:=R.cut x hl h;refine R.mono x (E:=E.cut n) ⟨(pub_fr h2).cell,fun i c hc=>?_,(pub_fr h2).tok⟩ hc;simp only[Env.cut] at hc;simp only[Env.pub];exact hc
    · simp only[R]
  unfold pubV;split
  · rename_i i o;simp only[R] at h;obtain⟨c,k1,k2⟩:=h;split
    · rename_i e;subst e;rw[h1] at k1;simp only[R];rw[k2];cases k1;rfl
    · split
      · rename_i hlt;simp only[R,Env.pub];exact⟨c,by rw[if_pos hlt];exact k1,k2⟩
      · simp only[R]
  · exact hcut h
theorem pub_RL (h1:E.loc n=some b) (h2:E.role b = .lbox n):∀{l:List V} {vs:List Value},RL E l vs→RL (E.pub n b) (l.map (pubV n b)) vs
  | [],[],_=>by simp[RL]
  | [],_::_,h=>by simp[RL] at h
  | _::_,[],h=>by simp[RL] at h
  | x :: l, v :: vs, h => by
    simp only[RL,List.map_cons] at h ⊢;exact⟨pub_R h1 h2 h.1,pub_RL h1 h2 h.2⟩
end
theorem Upd.publish {t:List V} {l:List (List V)} {cs:List V} {σ:Store} {K:St→Prop} (hn:nolL cs=true)
    (hk:∀b,σ.box b=none→K ⟨t.map (pubV l.length b),l.map (List.map (pubV l.length b)),σ.set b cs⟩):Upd ⟨t,l++[cs],σ⟩ K:=by
  intro E a hs;obtain⟨b,h1,h2,h3⟩:=hs.okL.box l.length cs (by simp);have hfr:=pub_fr h2;have hro:∀x,x≠b→(E.pub l.length b).role x=E.role x:=fun x hx=>by simp[Env.pub,hx]
  have hb0:σ.box b=none:=by
    cases hq:σ.box b with
    | none=>rfl
    | some ds=>have:=(hs.ok.box b ds hq).1;rw[h2] at this;simp at this
  have hlt:b<E.w.heap.size:=by obtain⟨c,e,k,_⟩:=h3;exact lt_of_heap (w:=E.w) k
  refine⟨E.pub l.length b,⟨t.map (pubV l.length b),l.map (List.map (pubV l.length b)),σ.set b cs⟩,rfl,hfr,⟨⟨fun b' ds hd=>?_,hs.ok.tip,fun b' hb' => ?_,hs.ok.nt,fun b cs hc=>RAs.mono _ hfr.nl (hs.ok.con b cs hc)⟩,⟨fun i ds hd=>?_,fun i hi=>?_⟩,hs.defers,pub_RL h1 h2 hs.slot⟩,hk b hb0⟩
  · by_cases e:b' = b
    · subst e;have hd:(σ.set b' cs).box b' = some ds:=hd;rw[set_box] at hd;cases hd;refine⟨by simp[Env.pub],?_⟩;obtain⟨c,e,k1,k2,k3⟩:=h3;refine⟨c,e,k1,k2,fun j x hx=>?_⟩;obtain⟨v,q1,q2⟩:=k3 j x hx;refine⟨v,q1,R.nolm (E:=E) x (by rw[Env.nl_nl];exact hfr.nl) ?_ q2⟩
      have:∀{l:List V} {j:Nat} {x:V},nolL l=true→l[j]?=some x→x.nol=true:=by
        intro l;induction l with
        | nil=>intro j x _ h;simp at h
        | cons y ys ih =>
          intro j x hl h;simp only[nolL,Bool.and_eq_true] at hl;cases j with
          | zero=>simp at h;rw[←h];exact hl.1
          | succ j=>exact ih hl.2 (by simpa using h)
      exact this hn hx
    · have hd:(σ.set b cs).box b' = some ds:=hd;rw[set_box_ne e] at hd;obtain⟨k1,k2⟩:=hs.ok.box b' ds hd;exact⟨by rw[hro _ e];exact k1,k2.mono hfr.nl rfl⟩
  · have hb' : E.w.heap.size≤b' := hb';rw[hro b' (by omega)];exact hs.ok.fresh b' hb'
  · have hd:(l.map (List.map (pubV l.length b)))[i]?=some ds:=hd;simp only[List.getElem?_map,Option.map_eq_some_iff] at hd;obtain⟨ds0,hd0,rfl⟩:=hd;have hi:i<l.length:=(List.getElem?_eq_some_iff.1 hd0).1;obtain⟨bi,k1,k2,c,e,k3,k4,k5⟩:=hs.okL.box i ds0 (by rw[List.getElem?_append_left hi];exact hd0);have hne:bi≠b:=fun e=>by rw[e,h2] at k2;simp at k2;omega
    refine⟨bi,by simp[Env.pub,hi,k1],by rw[hro _ hne];exact k2,c,e,k3,by simpa using k4,fun j x hx=>?_⟩;simp only[List.getElem?_map,Option.map_eq_some_iff] at hx;obtain⟨x0,hx0,rfl⟩:=hx;obtain⟨v,q1,q2⟩:=k5 j x0 hx0;exact⟨v,q1,pub_R h1 h2 q2⟩
  · have hi:l.length≤i:=by simpa using hi
    simp only[Env.pub];rw[if_neg (by omega)]
section
variable {n b i o:Nat} {k:IntKind} {z:Int} {q:Bool} {s:List UInt8} {τ:Tk} {m:List (List V)} {c:List V}
theorem pub_any:pubV n b .any = .any:=by simp[pubV]
theorem pub_int:pubV n b (.int k z) = .int k z:=by simp[pubV,V.lo]
theorem pub_bool:pubV n b (.bool q) = .bool q:=by simp[pubV,V.lo]
theorem pub_str:pubV n b (.str s) = .str s:=by simp[pubV,V.lo]
theorem pub_sl:pubV n b (.sl τ i m) = .sl τ i m:=by simp[pubV,V.lo]
theorem pub_out:pubV n b (.ptr (.out i) o) = .ptr (.out i) o:=by simp[pubV,V.lo]
theorem pub_elt:pubV n b (.elt c o) = .elt c o:=by simp[pubV,V.lo]
theorem pub_loc:pubV n b (.ptr (.loc i) o)=if i=n then .ptr (.out b) o else if i<n then .ptr (.loc i) o else .any:=rfl
theorem pub_agg:pubV n b (.agg c)=if loL n c=true then .agg c else .any:=rfl
theorem pub_map:∀{l:List V},loL n l=true→nolL l=true→l.map (pubV n b)=l
  | [],_,_=>rfl
  | x :: l, h1, h2 => by
    simp only[loL,nolL,Bool.and_eq_true] at h1 h2;rw[List.map_cons,pub_map h1.2 h2.2];congr 1;unfold pubV;split
    · simp[V.nol] at h2
    · rw[if_pos h1.1]
def amp:=And.intro @pub_any <| And.intro @pub_int <| And.intro @pub_bool <| And.intro @pub_str <| And.intro @pub_sl <| And.intro @pub_out <| And.intro @pub_elt <| And.intro @pub_loc @pub_agg
end
theorem Own.mk1 {σ:Store} {k:Nat} {c:List V} {H:V→Store→Prop} {v:V} (hv:keepV k [v]=some [c]) (hl:c.length=k) (hn:nolL c=true)
    (hk:∀v' σ',Own σ' k v' [c]→OwnS σ σ' v' → H v' σ'):OQ.sem σ H (.new k) [v]:=by
  refine⟨[c],hv,by simpa using hn,fun b hb=>hk _ _ ⟨_,1,rfl,Nat.le_refl _,by simpa using hl,.inr ⟨b,c,rfl,by simp[set_box],by simpa using hl,by simp[List.take_of_length_le,hl]⟩⟩ ⟨?_,?_⟩⟩
  · simpa using sub_set (cs:=c) hb
  · intro b' hb';simp only[ownB,Option.some.injEq] at hb';subst hb';exact hb
theorem setAt_app {xs ys:List V} {n:Nat} {c:List V} (h:n+c.length≤ys.length):setAt (xs++ys) (xs.length+n) c=xs++setAt ys n c:=by
  induction xs with
  | nil=>simp
  | cons x xs ih=>rw[List.cons_append,List.length_cons,show xs.length+1+n=(xs.length+n)+1 by omega,setAt_succ,ih];rfl
theorem over_app {xs ys c:List V} (h:c.length≤xs.length):over (xs++ys) c=over xs c++ys:=by
  induction xs generalizing c with
  | nil=>have:c=[]:=List.eq_nil_of_length_eq_zero (by simpa using h);subst this;simp[over_nil]
  | cons x xs ih =>
    cases c with
    | nil=>rw[over_nil,over_nil]
    | cons d c=>rw[List.cons_append,over_cons,over_cons,ih (by simpa using h)];rfl
theorem setAt_appl {xs ys c:List V} {n:Nat} (h:n+c.length≤xs.length):setAt (xs++ys) n c=setAt xs n c++ys:=by
  induction xs generalizing n with
  | nil =>
    have h' : n+c.length≤0:=h;obtain rfl:c=[]:=List.eq_nil_of_length_eq_zero (by omega);obtain rfl:n=0:=by omega
    rw[setAt_zero,setAt_zero,over_nil,over_nil]
  | cons x xs ih =>
    cases n with
    | zero=>rw[setAt_zero,setAt_zero,over_app (by simpa using h)]
    | succ n=>rw[List.cons_append,setAt_succ,setAt_succ,ih (by simp at h;omega)];rfl
theorem setAt_len {xs c:List V} {n:Nat} (h:n+c.length≤xs.length):(setAt xs n c).length=xs.length:=by
  induction xs generalizing n with
  | nil=>cases n<;>rfl
  | cons x xs ih =>
    cases n with
    | zero =>
      rw[setAt_zero];clear ih
      have:∀{xs c:List V},c.length≤xs.length→(over xs c).length=xs.length:=by
        intro xs;induction xs with
        | nil=>intro c h;cases c with | nil=>rfl | cons d c=>simp at h
        | cons x xs ih=>intro c h;cases c with | nil=>rw[over_nil] | cons d c=>rw[over_cons,List.length_cons,List.length_cons,ih (by simpa using h)]
      exact this (by simpa using h)
    | succ n=>rw[setAt_succ,List.length_cons,List.length_cons,ih (by simp at h;omega)]
theorem Own.put {σ:Store} {k:Nat} {v:V} {rows:List (List V)} {j off b:Nat} {c cs:List V} {x:List V} (h:Own σ k v rows) (hj:rows[j]?=some c) (hb:ownB v=some b) (hc:σ.box b=some cs) (ho:off+x.length≤k) :
    Own (σ.set b (setAt cs (j*k+off) x)) k v (rows.set j (setAt c off x))∧OwnF σ v (σ.set b (setAt cs (j*k+off) x)) v:=by
  obtain⟨a,cap,rfl,h1,h2,h3⟩:=h;have hlt:=(List.getElem?_eq_some_iff.1 hj).1;have hcl:c.length=k:=h2 c (List.mem_of_getElem? hj)
  rcases h3 with h3 | ⟨b',cs',rfl,h4,h5,h6⟩
  · omega
  · simp only[ownB,Option.some.injEq] at hb;subst hb;rw[h4] at hc;cases hc;have hfl:=flat_length h2;have e1:cs=rows.flatten++cs.drop (rows.length*k):=by rw[←h6];simp
    have e2:rows=rows.take j++c::rows.drop (j+1):=by
      rw[←(List.getElem?_eq_some_iff.1 hj).2,←List.drop_eq_getElem_cons hlt,List.take_append_drop]
    have hft:(rows.take j).flatten.length=j*k:=by
      have:=flat_length (l:=rows.take j) (k:=k) fun r hr=>h2 r (List.mem_of_mem_take hr)
      rw[this,List.length_take,Nat.min_eq_left (by omega)]
    have e3:rows.flatten=(rows.take j).flatten++(c++(rows.drop (j+1)).flatten):=by
      conv=>lhs;rw[e2]
      rw[List.flatten_append,List.flatten_cons]
    have e4:setAt cs (j*k+off) x=(rows.set j (setAt c off x)).flatten++cs.drop (rows.length*k):=by
      have hs:rows.set j (setAt c off x)=rows.take j++setAt c off x::rows.drop (j+1):=by
        rw[List.set_eq_take_append_cons_drop,if_pos hlt]
      conv=>lhs;rw[e1,e3]
      rw[List.append_assoc,←hft,setAt_app (by simp[hcl];omega),List.append_assoc,setAt_appl (by omega),hs,List.flatten_append,List.flatten_cons];simp only[List.append_assoc]
    have hrl:∀r∈rows.set j (setAt c off x),r.length=k:=fun r hr=>by
      rcases List.mem_or_eq_of_mem_set hr with hr | rfl
      · exact h2 r hr
      · rw[setAt_len (by omega),hcl]
    have hfl2:=flat_length hrl;refine⟨⟨_,cap,by rw[List.length_set],by rw[List.length_set];exact h1,hrl,.inr ⟨b',_,rfl,set_box,?_,?_⟩⟩,fun c' ds hd hne=>?_,rfl,fun _ h=>.inl h,rfl⟩
    · have:(setAt cs (j*k+off) x).length=cs.length:=setAt_len (by
        rw[h5]
        have:(j+1)*k≤cap*k:=Nat.mul_le_mul_right _ (by omega)
        rw[Nat.add_mul] at this;omega)
      rw[this,h5]
    · rw[e4,←hfl2,List.take_left]
    · have:c' ≠ b' := fun e=>hne (by rw[e];rfl)
      rw[set_box_ne this];exact hd
end Go.Am

namespace Go.Am
def pts (r:Rl):Nat:=min r.n.toNat 64
def rowR (r:Rl) (i:Nat):B64:=r.get i&&&belowB (pts r:Nat)
def hsR (r:Rl) (i j:Nat):Bool:=decide (i<pts r)&&(rowR r i).getLsbD j
def plainR (r:Rl):Rl:=Rl.of (pts r:Nat) fun i=>if i<pts r then rowR r i else 0#64
section
variable {r s:Rl} {i j k:Nat}
theorem pts_le:pts r≤64:=Nat.min_le_right _ _
theorem rowR_get:(rowR r i).getLsbD j=((r.get i).getLsbD j&&decide (j<pts r)):=by
  rw[rowR,BitVec.getLsbD_and,belowB_get]
  by_cases h:j<64
  · simp only[h,decide_true,Bool.true_and];congr 1;apply decide_eq_decide.2;omega
  · rw[BitVec.getLsbD_of_ge _ _ (by omega)];simp
theorem hsR_def:hsR r i j=(decide (i<pts r)&&(decide (j<pts r)&&(r.get i).getLsbD j)):=by rw[hsR,rowR_get,Bool.and_comm (BitVec.getLsbD _ _)]
theorem hsR_lt (h:hsR r i j=true):i<pts r∧j<pts r:=by
  rw[hsR_def] at h;simp only[Bool.and_eq_true,decide_eq_true_eq] at h;exact⟨h.1,h.2.1⟩
theorem of_pts {n:Nat} {f:Nat→B64} (h:n≤64):pts (Rl.of (n:Nat) f)=n:=by simp only[pts,Rl.of];omega
theorem plain_pts:pts (plainR r)=pts r:=of_pts pts_le
theorem plain_get (h:i<64):(plainR r).get i=if i<pts r then rowR r i else 0#64:=Rl.get_of h
theorem plain_row (h:i<pts r):(plainR r).get i=rowR r i:=by rw[plain_get (Nat.lt_of_lt_of_le h pts_le),if_pos h]
theorem plain_hs:hsR (plainR r) i j=hsR r i j:=by
  by_cases h:i<pts r
  · rw[hsR_def,plain_pts,plain_row h,rowR_get,hsR_def];cases decide (i<pts r)<;>cases decide (j<pts r)<;>simp
  · rw[hsR,hsR,plain_pts];simp[h]
theorem plain_iff:plainR r=plainR s↔pts r=pts s∧∀i j,hsR r i j=hsR s i j:=by
  constructor
  · intro h;exact⟨by rw[←plain_pts (r:=r),h,plain_pts],fun i j=>by rw[←plain_hs (r:=r),h,plain_hs]⟩
  · rintro⟨h1,h2⟩;refine Rl.ext (by simp only[plainR,Rl.of,h1]) fun i hi=>?_
    rw[plain_get hi,plain_get hi,h1];split
    · rename_i h;apply eqB;intro j _
      have:=h2 i j
      rwa [hsR,hsR,h1,decide_eq_true h,Bool.true_and,Bool.true_and] at this
    · rfl
theorem empty_row (h:pts r=0):plainR r=Rl.of 0 fun _=>0#64:=by
  refine Rl.ext (by simp[plainR,Rl.of,h]) fun i hi=>?_
  rw[plain_get hi,h,if_neg (by omega),Rl.get_of hi]
inductive Rch (r:Rl) (i:Nat):Nat→Prop
  | refl (h:i<pts r):Rch r i i
  | tail {j k:Nat} (h:Rch r i j) (hs:hsR r j k=true):Rch r i k
theorem Rch.lt (h:Rch r i j):i<pts r∧j<pts r:=by
  induction h with
  | refl h=>exact⟨h,h⟩
  | tail _ hs ih=>exact⟨ih.1,(hsR_lt hs).2⟩
theorem Rch.trans (h:Rch r i j) (h' : Rch r j k):Rch r i k:=by
  induction h' with
  | refl _=>exact h
  | tail _ hs ih=>exact ih.tail hs
theorem Rch.one (h:hsR r i j=true):Rch r i j:=(Rch.refl (hsR_lt h).1).tail h
def clos0 (r:Rl):Rl:=Rl.of (pts r:Nat) fun i=>if i<pts r then withB (rowR r i) (i:Nat) else 0#64
def stepR (k:Nat) (o:Rl) (i:Nat):Rl:=if hasB (o.get i) (k:Nat) then o.put i (o.get i|||o.get k) else o
def innerR (n k:Nat) (o:Rl):Rl:=(List.range n).foldl (stepR k) o
def closR (r:Rl):Rl:=(List.range (pts r)).foldl (fun o k=>innerR (pts r) k o) (clos0 r)
theorem hasB_nat {w:B64}:hasB w (k:Nat)=w.getLsbD k:=by simp[hasB]
theorem foldl_range_succ {α:Type} {f:α→Nat→α} {a:α} {n:Nat}:(List.range (n+1)).foldl f a=f ((List.range n).foldl f a) n:=by rw[List.range_succ,List.foldl_append];rfl
theorem put_n {w:B64}:(r.put i w).n=r.n:=rfl
theorem inner_n {n:Nat} {o:Rl}:(innerR n k o).n=o.n:=by
  unfold innerR;induction n with
  | zero=>rfl
  | succ n ih=>rw[foldl_range_succ,stepR];split<;>simp[put_n,ih]
theorem inner_get {o:Rl} {n:Nat} (h:n≤64):(innerR n k o).get i=if i<n∧(o.get i).getLsbD k=true then o.get i|||o.get k else o.get i:=by
  induction n generalizing i with
  | zero=>simp[innerR]
  | succ n ih0 =>
    have ih:=fun i=>@ih0 i (by omega)
    have hk:(innerR n k o).get k=o.get k:=by rw[ih k];split<;>simp
    have e:innerR (n+1) k o=stepR k (innerR n k o) n:=foldl_range_succ;rw[e,stepR,hasB_nat]
    by_cases hi:i=n
    · subst hi;have hii:(innerR i k o).get i=o.get i:=by rw[ih i,if_neg (by omega)]
      rw[hii,hk];split
      · rename_i hb;rw[Rl.get_put,if_pos ⟨rfl,by omega⟩,if_pos ⟨by omega,hb⟩]
      · rename_i hb;rw[hii,if_neg (fun hc=>hb hc.2)]
    · have hne:(if ((innerR n k o).get n).getLsbD k=true then (innerR n k o).put n ((innerR n k o).get n|||(innerR n k o).get k) else innerR n k o).get i=(innerR n k o).get i:=by
        split
        · rw[Rl.get_put,if_neg (by omega)]
        · rfl
      rw[hne,ih i]
      by_cases hlt:i<n
      · simp[hlt,show i<n+1 by omega]
      · simp[hlt,show ¬i<n+1 by omega]
def outerR (r:Rl) (m:Nat):Rl:=(List.range m).foldl (fun o k=>innerR (pts r) k o) (clos0 r)
theorem outer_succ {m:Nat}:outerR r (m+1)=innerR (pts r) m (outerR r m):=foldl_range_succ
theorem outer_n {m:Nat}:(outerR r m).n=(pts r:Nat):=by
  induction m with
  | zero=>rfl
  | succ m ih=>rw[outer_succ,inner_n,ih]
theorem outer_bit {m:Nat} (hi:i<pts r):((outerR r (m+1)).get i).getLsbD j=(((outerR r m).get i).getLsbD j||(((outerR r m).get i).getLsbD m&&((outerR r m).get m).getLsbD j)):=by
  rw[outer_succ,inner_get pts_le];cases hq:((outerR r m).get i).getLsbD m with
  | false=>simp
  | true=>simp[hi]
theorem clos0_bit (hi:i<pts r):((clos0 r).get i).getLsbD j=(hsR r i j||decide (j=i)):=by
  have hi' : i<64:=Nat.lt_of_lt_of_le hi pts_le;rw[clos0,Rl.get_of hi',if_pos hi,withB_get,hsR,decide_eq_true hi,Bool.true_and];congr 1
  by_cases h:j=i
  · subst h;simp[hi']
  · simp[h];omega
theorem outer_ge {m:Nat} (h:pts r≤i) (hi:i<64):(outerR r m).get i=0#64:=by
  induction m with
  | zero=>rw[outerR];simp only[List.range_zero,List.foldl_nil,clos0];rw[Rl.get_of hi,if_neg (by omega)]
  | succ m ih=>rw[outer_succ,inner_get pts_le,if_neg (by omega),ih]
theorem outer_sound {m:Nat} (hm:m≤pts r) (hi:i<pts r):∀{j:Nat},((outerR r m).get i).getLsbD j=true→Rch r i j:=by
  induction m generalizing i with
  | zero =>
    intro j h;have h:((clos0 r).get i).getLsbD j=true:=h;rw[clos0_bit hi,Bool.or_eq_true,decide_eq_true_eq] at h
    rcases h with h | rfl
    · exact Rch.one h
    · exact Rch.refl hi
  | succ m ih =>
    intro j h;rw[outer_bit hi,Bool.or_eq_true,Bool.and_eq_true] at h
    rcases h with h | ⟨h1,h2⟩
    · exact ih (by omega) hi h
    · exact(ih (by omega) hi h1).trans (ih (by omega) (by omega) h2)
theorem outer_mono {m:Nat} (hi:i<pts r) (h:hsR r i j=true∨j=i):((outerR r m).get i).getLsbD j=true:=by
  induction m with
  | zero=>show ((clos0 r).get i).getLsbD j=true;rw[clos0_bit hi];simpa using h
  | succ m ih=>rw[outer_bit hi,ih];rfl
theorem outer_trans {m:Nat} (hm:m≤pts r):∀{i k j:Nat},i<pts r→k<m→((outerR r m).get i).getLsbD k=true→((outerR r m).get k).getLsbD j=true→((outerR r m).get i).getLsbD j=true:=by
  induction m with
  | zero=>intro i k j _ h;omega
  | succ m ih =>
    intro i k j hi hk h1 h2;have ih:=@ih (by omega);have hmm:((outerR r m).get m).getLsbD m=true:=outer_mono (by omega) (.inr rfl);rw[outer_bit hi] at h1;rw[outer_bit (by omega)] at h2;rw[outer_bit hi];simp only[Bool.or_eq_true,Bool.and_eq_true] at h1 h2 ⊢
    by_cases hkm:k=m
    · subst hkm;have a:((outerR r k).get i).getLsbD k=true:=h1.elim id (·.1);have b:((outerR r k).get k).getLsbD j=true:=h2.elim id (·.2);exact .inr ⟨a,b⟩
    · have hk' : k<m:=by omega
      rcases h1 with h1 | ⟨h1,h1'⟩
      · rcases h2 with h2 | ⟨h2,h2'⟩
        · exact .inl (ih hi hk' h1 h2)
        · exact .inr ⟨ih hi hk' h1 h2,h2'⟩
      · rcases h2 with h2 | ⟨_,h2'⟩
        · exact .inr ⟨h1,ih (by omega) hk' h1' h2⟩
        · exact .inr ⟨h1,h2'⟩
theorem clos_bit (hi:i<pts r):((closR r).get i).getLsbD j=true↔Rch r i j:=by
  show ((outerR r (pts r)).get i).getLsbD j=true↔_;constructor
  · exact outer_sound (Nat.le_refl _) hi
  · intro h;induction h with
    | refl h=>exact outer_mono h (.inr rfl)
    | tail h hs ih=>exact outer_trans (Nat.le_refl _) hi h.lt.2 ih (outer_mono h.lt.2 (.inl hs))
theorem clos_pts:pts (closR r)=pts r:=by
  have:(closR r).n=(pts r:Nat):=outer_n
  rw[pts,this];have:=@pts_le r;omega
theorem clos_hs:hsR (closR r) i j=true↔Rch r i j:=by
  rw[hsR_def,clos_pts];constructor
  · intro h;simp only[Bool.and_eq_true,decide_eq_true_eq] at h;exact(clos_bit h.1).1 h.2.2
  · intro h
    have:=h.lt
    rw[decide_eq_true this.1,decide_eq_true this.2,(clos_bit this.1).2 h];rfl
theorem clos_plain:plainR (closR r)=closR r:=by
  refine Rl.ext ?_ fun i hi=>?_
  · show ((pts (closR r):Nat):Int)=_;rw[clos_pts];exact outer_n.symm
  · rw[plain_get hi,clos_pts];split
    · rename_i hlt;apply eqB;intro j _;rw[rowR_get,clos_pts];cases hq:((closR r).get i).getLsbD j with
      | false=>rfl
      | true=>rw[decide_eq_true ((clos_bit hlt).1 hq).lt.2];rfl
    · exact(outer_ge (by omega) hi).symm
def closedR (r:Rl):Bool:=decide (plainR r=closR r)
theorem closedR_iff:closedR r=true↔(∀i,i<pts r→hsR r i i=true)∧∀i j k,hsR r i j=true→hsR r j k=true→hsR r i k=true:=by
  rw[closedR,decide_eq_true_iff,←clos_plain,plain_iff];constructor
  · rintro⟨_,h⟩;refine⟨fun i hi=>?_,fun i j k h1 h2=>?_⟩
    · rw[h,clos_hs];exact Rch.refl hi
    · rw[h,clos_hs] at h1 h2 ⊢;exact h1.trans h2
  · rintro⟨h1,h2⟩;refine⟨clos_pts.symm,fun i j=>?_⟩;rw[Bool.eq_iff_iff,clos_hs];refine⟨Rch.one,fun h=>?_⟩;induction h with
    | refl h=>exact h1 _ h
    | tail _ hs ih=>exact h2 _ _ _ ih hs
def upR (r:Rl) (w:B64):B64:=(listB (w&&&belowB (pts r:Nat))).foldl (fun o i=>o|||rowR r i) 0#64
theorem foldor_get {f:Nat→B64}:∀{l:List Nat} {o:B64},(l.foldl (fun o i=>o|||f i) o).getLsbD j=(o.getLsbD j||l.any fun i=>(f i).getLsbD j)
  | [],o=>by simp
  | a::l,o=>by rw[List.foldl_cons,foldor_get,BitVec.getLsbD_or,List.any_cons,Bool.or_assoc]
theorem upR_get {w:B64}:(upR r w).getLsbD j=true↔∃i,w.getLsbD i=true∧hsR r i j=true:=by
  rw[upR,foldor_get];simp only[BitVec.getLsbD_zero,Bool.false_or,List.any_eq_true,mem_listB,BitVec.getLsbD_and,Bool.and_eq_true,belowB_get,decide_eq_true_eq];constructor
  · rintro⟨i,⟨h1,_,h2⟩,h3⟩;exact⟨i,h1,by rw[hsR,h3,decide_eq_true (by omega)];rfl⟩
  · rintro⟨i,h1,h2⟩
    have:=(hsR_lt h2).1;have:=@pts_le r
    rw[hsR,Bool.and_eq_true] at h2;exact⟨i,⟨h1,by omega,by omega⟩,h2.2⟩
def downR (r:Rl) (w:B64):B64:=(List.range (pts r)).foldl (fun o i=>if rowR r i&&&w=0#64 then o else withB o (i:Nat)) 0#64
theorem ne_zero {w:B64}:w≠0#64↔∃j,w.getLsbD j=true:=by
  constructor
  · intro h;exact⟨_,(lowB_spec h).2.1⟩
  · rintro⟨j,h⟩ rfl;simp at h
theorem downR_aux {w:B64} {n:Nat} (h:n≤64):((List.range n).foldl (fun o i=>if rowR r i&&&w=0#64 then o else withB o (i:Nat)) 0#64).getLsbD i=true↔i<n∧rowR r i&&&w≠0#64:=by
  induction n with
  | zero=>simp
  | succ n ih0 =>
    have ih:=ih0 (by omega);rw[foldl_range_succ]
    by_cases hi:i=n
    · subst hi;split
      · rename_i h0;rw[ih];constructor
        · intro hc;omega
        · intro hc;exact absurd h0 hc.2
      · rename_i h0;rw[withB_get,decide_eq_true (show i<64 by omega)];simp[h0]
    · split
      · rw[ih];constructor<;>rintro⟨a,b⟩<;>exact⟨by omega,b⟩
      · rw[withB_get,decide_eq_false (p:=(i:Int)=(n:Nat)) (by omega),Bool.and_false,Bool.or_false,ih];constructor<;>rintro⟨a,b⟩<;>exact⟨by omega,b⟩
theorem downR_get {w:B64}:(downR r w).getLsbD i=true↔∃j,w.getLsbD j=true∧hsR r i j=true:=by
  rw[downR,downR_aux pts_le,ne_zero];simp only[BitVec.getLsbD_and,Bool.and_eq_true,hsR,decide_eq_true_eq];constructor
  · rintro⟨a,j,b,c⟩;exact⟨j,c,a,b⟩
  · rintro⟨j,c,a,b⟩;exact⟨a,j,b,c⟩
theorem ofB_one_get {i j:Nat} (h:i<64):(ofB [(i:Int)]).getLsbD j=decide (j=i):=by
  rw[ofB_get]
  by_cases e:j=i
  · subst e;simp[h]
  · simp[e];omega
theorem nodup_le:∀{n:Nat} {l:List Nat},l.Nodup→(∀x∈l,x<n)→l.length≤n
  | 0, l, _, h => by
    cases l with
    | nil=>simp
    | cons a l=>have:=h a (by simp);omega
  | n + 1, l, hd, h => by
    by_cases hn:n∈l
    · have:=nodup_le (n:=n) (hd.erase n) fun x hx=>by
        have:=h x (List.mem_of_mem_erase hx)
        have hne:x≠n:=fun e=>by subst e;exact(hd.not_mem_erase) hx
        omega
      rw[List.length_erase_of_mem hn] at this;omega
    · have:=nodup_le (n:=n) hd fun x hx=>by
        have:=h x hx
        have hne:x≠n:=fun e=>hn (e▸hx)
        omega
      omega
def mutR (r:Rl) (i:Nat):B64:=upR r (ofB [(i:Int)])&&&downR r (ofB [(i:Int)])
def antiR (r:Rl):Bool:=(List.range (pts r)).all fun i=>(List.range i).all fun j=>!(hsR r i j&&hsR r j i)
def orderR (r:Rl):Bool:=closedR r&&antiR r
theorem antiR_iff:antiR r=true↔∀i j,hsR r i j=true→hsR r j i=true→i=j:=by
  simp only[antiR,List.all_eq_true,List.mem_range,Bool.not_eq_true',Bool.and_eq_false_iff];constructor
  · intro h i j h1 h2
    have:=hsR_lt h1
    rcases Nat.lt_trichotomy i j with hc | hc | hc
    · rcases h j this.2 i hc with e | e
      · rw[e] at h2;simp at h2
      · rw[e] at h1;simp at h1
    · exact hc
    · rcases h i this.1 j hc with e | e
      · rw[e] at h1;simp at h1
      · rw[e] at h2;simp at h2
  · intro h i hi j hj;cases h1:hsR r i j with
    | false=>exact .inl rfl
    | true =>
      cases h2:hsR r j i with
      | false=>exact .inr rfl
      | true=>have:=h i j h1 h2;omega
theorem mutR_get (hi:i<64):(mutR r i).getLsbD j=(hsR r i j&&hsR r j i):=by
  rw[mutR,BitVec.getLsbD_and,Bool.eq_iff_iff,Bool.and_eq_true,Bool.and_eq_true,upR_get,downR_get];simp only[ofB_one_get hi,decide_eq_true_eq];constructor
  · rintro⟨⟨a,rfl,h1⟩,⟨b,rfl,h2⟩⟩;exact⟨h1,h2⟩
  · rintro⟨h1,h2⟩;exact⟨⟨_,rfl,h1⟩,⟨_,rfl,h2⟩⟩
theorem mutR_iff (hc:closedR r=true) (hi:i<pts r):mutR r i=ofB [(i:Int)]↔∀j,hsR r i j=true→hsR r j i=true→j=i:=by
  have hi' : i<64:=Nat.lt_of_lt_of_le hi pts_le;have hr:=(closedR_iff.1 hc).1 i hi;constructor
  · intro h j h1 h2
    have:=congrArg (fun w:B64=>w.getLsbD j) h
    simp only[mutR_get hi',h1,h2,ofB_one_get hi',Bool.and_self] at this;simpa using this.symm
  · intro h;apply eqB;intro j _;rw[mutR_get hi',ofB_one_get hi']
    by_cases e:j=i
    · subst e;simp[hr]
    · rw[decide_eq_false e];cases h1:hsR r i j with
      | false=>rfl
      | true =>
        cases h2:hsR r j i with
        | false=>rfl
        | true=>exact absurd (h j h1 h2) e
theorem anti_mut (hc:closedR r=true):antiR r=true↔∀i,i<pts r→mutR r i=ofB [(i:Int)]:=by
  rw[antiR_iff];constructor
  · intro h i hi;exact(mutR_iff hc hi).2 fun j h1 h2=>(h i j h1 h2).symm
  · intro h i j h1 h2;exact((mutR_iff hc (hsR_lt h1).1).1 (h i (hsR_lt h1).1) j h1 h2).symm
end
end Go.Am

namespace Go.Am
section
variable {r:Rl} {w a b:B64} {i j k n o p x y:Nat}
def aboveH (r:Rl) (i:Nat):B64:=upR r (ofB [(i:Int)])
def belowH (r:Rl) (i:Nat):B64:=if i<pts r then downR r (ofB [(i:Int)]) else 0#64
theorem aboveH_get:(aboveH r i).getLsbD j=hsR r i j:=by
  rw[Bool.eq_iff_iff,aboveH,upR_get];constructor
  · rintro⟨k,h1,h2⟩;rw[ofB_get] at h1;simp only[List.mem_singleton,Bool.and_eq_true,decide_eq_true_eq] at h1;obtain rfl:k=i:=by omega
    exact h2
  · intro h
    have:=(hsR_lt h).1;have:=@pts_le r
    exact⟨i,by rw[ofB_one_get (by omega)];simp,h⟩
def nearH (f:Nat→B64) (i j:Nat):Option Nat:=(listB (f i&&&f j)).find? fun u=>subB (f i&&&f j) (f u)
def joinH (r:Rl) (i j:Nat):Option Nat:=nearH (aboveH r) i j
def meetH (r:Rl) (i j:Nat):Option Nat:=nearH (belowH r) i j
def latH (r:Rl):Bool:=decide (1≤r.n)&&decide (r.n≤64)&&orderR r&&(List.range r.n.toNat).all fun i=>(List.range i).all fun j=>(joinH r i j).isSome&&(meetH r i j).isSome
def pointH (r:Rl) (w:B64):Option Nat:=(List.range (pts r)).find? fun i=>decide (belowH r i=w)
def raiseH (r:Rl) (a b:B64):B64 :=
  match pointH r a,pointH r b with
  | some i,some j=>(match joinH r i j with | some k=>belowH r k | none=>a|||b)
  | _,_=>a|||b
def gridR (r:Rl):Bool:=decide (1≤r.n)&&decide (r.n≤8)&&closedR r
theorem gridR_n (h:gridR r=true):∃n:Nat,r.n=n∧pts r=n∧1≤n∧n≤8:=by
  simp only[gridR,Bool.and_eq_true,decide_eq_true_eq] at h;exact⟨r.n.toNat,by omega,by rw[pts];omega,by omega,by omega⟩
def outG (r:Rl) (w:B64) (o:Nat):B64:=(w>>>(8*o))&&&belowB r.n
def rowsG (n:Nat) (f:Nat→B64):B64:=(List.range n).foldl (fun w o=>w|||(f o<<<(8*o))) 0#64
def clG (r:Rl) (w:B64) (o:Nat):B64:=(listB (aboveH r o)).foldl (fun s p=>s|||downR r (outG r w p)) 0#64
def closeG (r:Rl) (w:B64):B64:=if gridR r then rowsG r.n.toNat (clG r w) else 0#64
def keptG (r:Rl) (d:B64):B64:=belowB r.n&&&~~~upR r d
def ruleG (r:Rl) (o:Nat) (d:B64):B64:=if gridR r&&decide ((o:Int)<r.n) then closeG r (rowsG r.n.toNat fun k=>if k=o then keptG r d else 0#64) else 0#64
def rungW (n k:Int):B64 × Bool:=if 1≤n∧n≤64∧0≤k∧k<n then (belowB k,true) else (0#64,false)
end
end Go.Am

namespace Go.Am
def Rdr.leaf (kind:Int) (r:Rdr):Nd × Rdr:=(.mk kind r.word.1.pos r.word.1.text [] [],r.word.2)
def Rdr.rule (r:Rdr):Nd × Rdr :=
  (.mk 6 r.word.1.pos r.word.1.text ((r.word.2.take 58).2.words true).1.1 [],((r.word.2.take 58).2.words true).2)
def Rdr.constant:Nat→Rdr→Nd × Rdr
  | 0,r=>r.leaf 2
  | n + 1, r =>
    if r.sees 123=true then (.mk 3 (r.words true).1.2 [] (r.words true).1.1 [],(r.words true).2)
    else if r.sees 40=true then (.mk 4 (r.nodes (Rdr.constant n) 40 false).1.2 [] [] (r.nodes (Rdr.constant n) 40 false).1.1,(r.nodes (Rdr.constant n) 40 false).2)
    else if r.sees 91=true then (.mk 5 (r.nodes Rdr.rule 91 true).1.2 [] [] (r.nodes Rdr.rule 91 true).1.1,(r.nodes Rdr.rule 91 true).2)
    else r.leaf 2
def Rdr.atom (n:Nat) (r:Rdr):Nd × Rdr :=
  if r.sees 35=true then (.mk 7 (r.take 35).1.tok.pos [] [] [(Rdr.constant n (r.take 35).2).1],(Rdr.constant n (r.take 35).2).2) else r.leaf 1
def Rdr.label:Nat→Rdr→Nd × Rdr
  | 0,r=>r.leaf 1
  | n + 1, r =>
    if r.sees 43=true then (.mk 8 (r.take 43).1.tok.pos [] [] ((r.take 43).2.nodes (Rdr.label n) 40 false).1.1,((r.take 43).2.nodes (Rdr.label n) 40 false).2)
    else if r.sees 38=true then (.mk 9 (r.take 38).1.tok.pos [] [] ((r.take 38).2.nodes (Rdr.label n) 40 false).1.1,((r.take 38).2.nodes (Rdr.label n) 40 false).2)
    else r.atom (n+1)
def Rdr.field (n:Nat) (r:Rdr):Nd × Rdr :=
  (.mk 11 r.word.1.pos r.word.1.text [] [((r.word.2.take 61).2.atom n).1],((r.word.2.take 61).2.atom n).2)
end Go.Am

namespace Go.Am
def Goes (r r' : Rdr):Prop:=r'.l=r.l∧(0≤r.at_→r.at_≤r.l.length→r.at_≤r'.at_∧r'.at_≤r.l.length∧(r'.bad=none→r.at_+1≤r'.at_))
theorem Goes.trans {a b c:Rdr} (h:Goes a b) (k:Goes b c):Goes a c:=by
  refine⟨k.1.trans h.1,fun h1 h2=>?_⟩;obtain⟨p1,p2,p3⟩:=h.2 h1 h2;obtain⟨q1,q2,q3⟩:=k.2 (by omega) (by rw[h.1];exact p2);rw[h.1] at q2;exact⟨by omega,q2,fun hq=>by have:=q3 hq;omega⟩
theorem goes_take (r:Rdr) (k:Int):Goes r (r.take k).2:=by
  refine⟨r.take_l k,fun h1 h2=>?_⟩
  rcases r.take_at k with ⟨_,e,_,h3,h4⟩ | ⟨_,e,hb⟩
  · rw[e];exact⟨by omega,by omega,fun _=>by omega⟩
  · rw[e];exact⟨by omega,h2,fun hq=>absurd hq hb⟩
theorem goes_word (r:Rdr):Goes r r.word.2:=goes_take r 97
theorem goes_leaf (r:Rdr) (k:Int):Goes r (r.leaf k).2:=goes_word r
theorem goes_bracket {β:Type} (step:Rdr × List β→Rdr × List β) (k:Int) (e:Bool) (r:Rdr):Goes r (r.bracket step k e).2:=by
  have h:=goes_take r k;unfold Rdr.bracket;split
  · rename_i hok;have hb:(r.take k).2.bad=none:=by simpa [Rdr.ok] using hok
    exact⟨h.1,fun h1 h2=>by
      obtain⟨p1,p2,p3⟩:=h.2 h1 h2;exact⟨p1,p2,fun _=>p3 hb⟩⟩
  · exact h
theorem goes_words (r:Rdr) (e:Bool):Goes r (r.words e).2:=goes_bracket _ _ _ _
theorem goes_nodes (r:Rdr) (one:Rdr→Nd × Rdr) (k:Int) (e:Bool):Goes r (r.nodes one k e).2:=goes_bracket _ _ _ _
theorem reads_of {one:Rdr→Nd × Rdr} (h:∀r,Goes r (one r).2):Reads one:=⟨fun r=>(h r).1,fun r=>(h r).2⟩
theorem goes_rule (r:Rdr):Goes r r.rule.2:=((goes_word r).trans (goes_take _ _)).trans (goes_words _ _)
theorem goes_constant:∀(n:Nat) (r:Rdr),Goes r (Rdr.constant n r).2
  | 0,r=>goes_leaf r 2
  | n + 1, r => by
    simp only[Rdr.constant];split
    · exact goes_words r true
    · split
      · exact goes_nodes r _ 40 false
      · split
        · exact goes_nodes r _ 91 true
        · exact goes_leaf r 2
theorem goes_atom (n:Nat) (r:Rdr):Goes r (r.atom n).2:=by
  simp only[Rdr.atom];split
  · exact(goes_take r 35).trans (goes_constant n _)
  · exact goes_leaf r 1
theorem goes_label:∀(n:Nat) (r:Rdr),Goes r (Rdr.label n r).2
  | 0,r=>goes_leaf r 1
  | n + 1, r => by
    simp only[Rdr.label];split
    · exact(goes_take r 43).trans (goes_nodes _ _ 40 false)
    · split
      · exact(goes_take r 38).trans (goes_nodes _ _ 40 false)
      · exact goes_atom (n+1) r
theorem goes_field (n:Nat) (r:Rdr):Goes r (r.field n).2:=((goes_word r).trans (goes_take _ _)).trans (goes_atom n _)
end Go.Am

namespace Go.Am
def Rdr.rowIn (n:Nat) (i:Rdr):(Rdr × List Nd) × List Word :=
  let a:=if i.sees 124=true then (i,[]) else someG (oStep (Rdr.field n)) i
  if a.1.sees 124=true then (((a.1.take 124).2.word.2,a.2),[(a.1.take 124).2.word.1]) else (a,[])
def Rdr.rowOf (n:Nat) (t:Tree):(Rdr × List Nd) × List Word:=if t.kids.length=0 then ((t.inner,[]),[]) else t.inner.rowIn n
def Rdr.row (n:Nat) (r:Rdr):Nd × Rdr :=
  if r.sees 91=true then (.mk 10 (r.take 91).1.tok.pos [] (Rdr.rowOf n (r.take 91).1).2 (Rdr.rowOf n (r.take 91).1).1.2,(r.take 91).2.under (Rdr.rowOf n (r.take 91).1).1.1) else r.leaf 1
def Nd.zero:Nd:=.mk 0 0 [] [] []
def readAt (one:Rdr→Nd × Rdr) (l:List Tree) (at_ fin:Int):Nd × Int × Option Int :=
  match (one ⟨l,at_,fin,none⟩).2.bad with
  | some b=>(.zero,0,some b)
  | none=>((one ⟨l,at_,fin,none⟩).1,(one ⟨l,at_,fin,none⟩).2.at_,none)
def wordsAt (l:List Tree) (at_ fin:Int):List Word × Option Int :=
  match ((⟨l,at_,fin,none⟩:Rdr).words false).2.bad with
  | some b=>([],some b)
  | none=>(((⟨l,at_,fin,none⟩:Rdr).words false).1.1,none)
end Go.Am

namespace Go.Am
structure Got where
  node:Nd
  next:Int
  bad:Bool
  pos:Int
def Got.enc (g:Got):List V:=[.int .i64 g.node.kind,.int .i64 g.node.pos,.str g.node.text,.sl .no 2 (g.node.names.map Word.enc),.sl .no 5 (g.node.kids.map Nd.enc),.int .i64 g.next,.bool g.bad,.int .i64 g.pos]
theorem nencs_at {l:List Nd} {j:Nat} {t:Nd} (h:l[j]?=some t):(l.map Nd.enc)[((j:Nat):Int).toNat]?=some t.enc:=by simp[h]
theorem wencs_at {l:List Word} {j:Nat} {t:Word} (h:l[j]?=some t):(l.map Word.enc)[((j:Nat):Int).toNat]?=some t.enc:=by simp[h]
end Go.Am

namespace Go.Am
theorem Tree.r_len {x:Tree}:x.enc.length=5:=by rw[enc_eq];rfl
theorem Tree.r_one {x:Tree}:oneL x.enc=true:=by rw[enc_eq];rfl
theorem Tree.r_nol {x:Tree}:nolL x.enc=true:=by rw[enc_eq];rfl
theorem Tree.r_er {x:Tree}:eraseL x.enc=x.enc:=by rw[enc_eq];rfl
theorem Tree.r_tk {x:Tree}:takeN 5 x.enc=some x.enc:=by rw[enc_eq];rfl
theorem Tree.r_ld {x:Tree}:ldC true 5 x.enc=some (.agg x.enc):=by rw[enc_eq];rfl
theorem Tree.r_has {x:Tree}:hasN 5 x.enc=true:=by rw[enc_eq];rfl
theorem Tree.r_ov {x:Tree} {z0 z1 z2 z3 z4:V}:over [z0,z1,z2,z3,z4] x.enc=x.enc:=by rw[enc_eq];rfl
theorem Tree.r_lo {x:Tree} {n:Nat}:loL n x.enc=true:=by rw[enc_eq];rfl
def Tree.rec_:=And.intro @Tree.r_len <| And.intro @Tree.r_one <| And.intro @Tree.r_nol <| And.intro @Tree.r_er <| And.intro @Tree.r_tk <| And.intro @Tree.r_ld <| And.intro @Tree.r_has <| And.intro @Tree.r_ov @Tree.r_lo
theorem Nd.r_len {x:Nd}:x.enc.length=5:=by rw[Nd.enc_eq];rfl
theorem Nd.r_one {x:Nd}:oneL x.enc=true:=by rw[Nd.enc_eq];rfl
theorem Nd.r_nol {x:Nd}:nolL x.enc=true:=by rw[Nd.enc_eq];rfl
theorem Nd.r_er {x:Nd}:eraseL x.enc=x.enc:=by rw[Nd.enc_eq];rfl
theorem Nd.r_tk {x:Nd}:takeN 5 x.enc=some x.enc:=by rw[Nd.enc_eq];rfl
theorem Nd.r_ld {x:Nd}:ldC true 5 x.enc=some (.agg x.enc):=by rw[Nd.enc_eq];rfl
theorem Nd.r_has {x:Nd}:hasN 5 x.enc=true:=by rw[Nd.enc_eq];rfl
theorem Nd.r_ov {x:Nd} {z0 z1 z2 z3 z4:V}:over [z0,z1,z2,z3,z4] x.enc=x.enc:=by rw[Nd.enc_eq];rfl
theorem Nd.r_lo {x:Nd} {n:Nat}:loL n x.enc=true:=by rw[Nd.enc_eq];rfl
def Nd.rec_:=And.intro @Nd.r_len <| And.intro @Nd.r_one <| And.intro @Nd.r_nol <| And.intro @Nd.r_er <| And.intro @Nd.r_tk <| And.intro @Nd.r_ld <| And.intro @Nd.r_has <| And.intro @Nd.r_ov @Nd.r_lo
theorem Word.r_len {x:Word}:x.enc.length=2:=by rw[Word.enc];rfl
theorem Word.r_one {x:Word}:oneL x.enc=true:=by rw[Word.enc];rfl
theorem Word.r_nol {x:Word}:nolL x.enc=true:=by rw[Word.enc];rfl
theorem Word.r_er {x:Word}:eraseL x.enc=x.enc:=by rw[Word.enc];rfl
theorem Word.r_tk {x:Word}:takeN 2 x.enc=some x.enc:=by rw[Word.enc];rfl
theorem Word.r_ld {x:Word}:ldC true 2 x.enc=some (.agg x.enc):=by rw[Word.enc];rfl
theorem Word.r_has {x:Word}:hasN 2 x.enc=true:=by rw[Word.enc];rfl
theorem Word.r_ov {x:Word} {z0 z1:V}:over [z0,z1] x.enc=x.enc:=by rw[Word.enc];rfl
theorem Word.r_lo {x:Word} {n:Nat}:loL n x.enc=true:=by rw[Word.enc];rfl
def Word.rec_:=And.intro @Word.r_len <| And.intro @Word.r_one <| And.intro @Word.r_nol <| And.intro @Word.r_er <| And.intro @Word.r_tk <| And.intro @Word.r_ld <| And.intro @Word.r_has <| And.intro @Word.r_ov @Word.r_lo
theorem Got.r_len {x:Got}:x.enc.length=8:=by rw[Got.enc];rfl
theorem Got.r_one {x:Got}:oneL x.enc=true:=by rw[Got.enc];rfl
theorem Got.r_nol {x:Got}:nolL x.enc=true:=by rw[Got.enc];rfl
theorem Got.r_er {x:Got}:eraseL x.enc=x.enc:=by rw[Got.enc];rfl
theorem Got.r_tk {x:Got}:takeN 8 x.enc=some x.enc:=by rw[Got.enc];rfl
theorem Got.r_ld {x:Got}:ldC true 8 x.enc=some (.agg x.enc):=by rw[Got.enc];rfl
theorem Got.r_has {x:Got}:hasN 8 x.enc=true:=by rw[Got.enc];rfl
theorem Got.r_ov {x:Got} {z0 z1 z2 z3 z4 z5 z6 z7:V}:over [z0,z1,z2,z3,z4,z5,z6,z7] x.enc=x.enc:=by rw[Got.enc];rfl
theorem Got.r_lo {x:Got} {n:Nat}:loL n x.enc=true:=by rw[Got.enc];rfl
def Got.rec_:=And.intro @Got.r_len <| And.intro @Got.r_one <| And.intro @Got.r_nol <| And.intro @Got.r_er <| And.intro @Got.r_tk <| And.intro @Got.r_ld <| And.intro @Got.r_has <| And.intro @Got.r_ov @Got.r_lo
theorem Nd.x1 {r:Nd}:r.enc.drop 1=[V.int .i64 r.pos,.str r.text,.sl .no 2 (r.names.map Word.enc),.sl .no 5 (r.kids.map Nd.enc)]:=by rw[Nd.enc_eq];rfl
theorem Nd.x2 {r:Nd}:r.enc.drop 2=[V.str r.text,.sl .no 2 (r.names.map Word.enc),.sl .no 5 (r.kids.map Nd.enc)]:=by rw[Nd.enc_eq];rfl
theorem Nd.x3 {r:Nd}:r.enc.drop 3=[V.sl .no 2 (r.names.map Word.enc),.sl .no 5 (r.kids.map Nd.enc)]:=by rw[Nd.enc_eq];rfl
theorem Nd.x4 {r:Nd}:r.enc.drop 4=[V.sl .no 5 (r.kids.map Nd.enc)]:=by rw[Nd.enc_eq];rfl
theorem Nd.x0 {r:Nd}:ldC false 1 r.enc=some (.int .i64 r.kind):=by rw[Nd.enc_eq];rfl
def Nd.fl:=And.intro @Nd.x0 <| And.intro @Nd.x1 <| And.intro @Nd.x2 <| And.intro @Nd.x3 @Nd.x4
theorem Tree.x1 {r:Tree}:r.enc.drop 1=[V.str r.tok.text,.int .i64 r.tok.pos,.sl .no 5 (encs r.kids),.int .i64 r.fin]:=by rw[enc_eq];rfl
theorem Tree.x2 {r:Tree}:r.enc.drop 2=[V.int .i64 r.tok.pos,.sl .no 5 (encs r.kids),.int .i64 r.fin]:=by rw[enc_eq];rfl
theorem Tree.x3 {r:Tree}:r.enc.drop 3=[V.sl .no 5 (encs r.kids),.int .i64 r.fin]:=by rw[enc_eq];rfl
theorem Tree.x4 {r:Tree}:r.enc.drop 4=[V.int .i64 r.fin]:=by rw[enc_eq];rfl
theorem Tree.x0 {r:Tree}:ldC false 1 r.enc=some (.int .u8 r.tok.kind):=by rw[enc_eq];rfl
theorem Tree.xt {r:Tree}:ldC true 3 r.enc=some (.agg [.int .u8 r.tok.kind,.str r.tok.text,.int .i64 r.tok.pos]):=by rw[enc_eq];rfl
def Tree.fl:=And.intro @Tree.x0 <| And.intro @Tree.xt <| And.intro @Tree.x1 <| And.intro @Tree.x2 <| And.intro @Tree.x3 @Tree.x4
end Go.Am

namespace Go.Am
def letZ (c:Int):Bool:=decide (97≤c)&&decide (c≤122)
def goesZ (c:Int):Bool:=letZ c||(decide (48≤c)&&decide (c≤57))||decide (c=95)
def signs:List Int:=[35,43,38,40,41,123,125,91,93,44,58,61,124,60]
def signZ (c:Int):Bool:=signs.any fun s=>decide (s=c)
def closing (c:Int):Int:=if c=40 then 41 else if c=123∨c=91 then c+2 else 0
def closesZ (c:Int):Bool:=decide (c=41)||decide (c=125)||decide (c=93)
def goesB (c:UInt8):Bool:=goesZ c.toNat
def letB (c:UInt8):Bool:=letZ c.toNat
def nameR (s:List UInt8):Bool:=decide (s.length≤16)&&(match s with | []=>false | c::r=>letB c&&r.all goesB)
end Go.Am

namespace Go.Am
def Tok.enc (t:Tok):List V:=[.int .u8 t.kind,.str t.text,.int .i64 t.pos]
def runR (r:List UInt8):List UInt8:=r.takeWhile goesB
def lexF:Nat→Nat→List UInt8→List Tok→List Tok × Option Int
  | 0,_,_,acc=>(acc,none)
  | _,_,[],acc=>(acc,none)
  | n + 1, p, c :: r, acc =>
    if c.toNat=45∧(r.head?.map UInt8.toNat)=some 45 then (acc,none)
    else if 0<(runR (c::r)).length∧nameR (runR (c::r))=true then lexF n (p+(runR (c::r)).length) ((c::r).drop (runR (c::r)).length) (acc++[⟨97,runR (c::r),p⟩])
    else if signZ (c.toNat:Nat)=true then lexF n (p+1) r (acc++[⟨(c.toNat:Nat),[c],p⟩])
    else if c.toNat=32∨c.toNat=9 then lexF n (p+1) r acc
    else ([],some p)
def lexR (s:List UInt8):List Tok × Option Int:=lexF s.length 0 s []
def badL (b:Option Int):V:=.agg [.int .i64 (match b with | some _=>1 | none=>0),.int .i64 (badA b)]
def kindAt (l:List Tok) (i:Nat):Int:=match l[i]? with | some t=>t.kind | none=>0
def faultF (l:List Tok):Nat→Nat→List Nat→Int
  | 0,_,open_=>match open_.getLast? with | some j=>(j:Nat) | none=>-1
  | n + 1, i, open_ =>
    if closing (kindAt l i)≠0∧24≤open_.length then (i:Nat)
    else
      let o:=if closing (kindAt l i)≠0 then open_++[i] else open_
      if closesZ (kindAt l i)=true then
        match o.getLast? with
        | none=>(i:Nat)
        | some j=>if closing (kindAt l j)=kindAt l i then faultF l n (i+1) o.dropLast else (i:Nat)
      else faultF l n (i+1) o
def partnerF (l:List Tok) (at_:Nat):Nat→Nat→Int→Nat
  | 0,_,_=>at_
  | n + 1, i, deep =>
    let d:=(deep+(if closing (kindAt l i)≠0 then 1 else 0)) - (if closesZ (kindAt l i)=true then 1 else 0)
    if d=0 then i else partnerF l at_ n (i+1) d
def partner (l:List Tok) (at_:Nat):Nat:=partnerF l at_ (l.length - at_) at_ 0
def posAt (l:List Tok) (i:Nat):Int:=match l[i]? with | some t=>t.pos | none=>0
def tokN (l:List Tok) (i:Nat):Tok:=match l[i]? with | some t=>t | none=>⟨0,[],0⟩
def treesF (l:List Tok):Nat→Nat→Nat→List Tree
  | 0,_,_=>[]
  | n + 1, i, to =>
    if i<to then
      if closing (kindAt l i)≠0 then .mk (tokN l i) (treesF l n (i+1) (partner l i)) (posAt l (partner l i))::treesF l n (partner l i+1) to
      else .mk (tokN l i) [] (posAt l i)::treesF l n (i+1) to
    else []
def treeR (l:List Tok):List Tree × Option Int :=
  if 0≤faultF l l.length 0 [] then ([],some (posAt l (faultF l l.length 0 []).toNat)) else (treesF l l.length 0 l.length,none)
def textF:Option Int→List Tok→List UInt8
  | _,[]=>[]
  | k,t::ts=>(if k=some 97∧t.kind=97 then [32] else [])++t.text++textF (some t.kind) ts
def textR (l:List Tok):List UInt8:=textF none l
mutual
def Tree.flat:Tree→List Tok
  | .mk t ks e=>t::(if closing t.kind≠0 then flats ks++[⟨closing t.kind,[UInt8.ofNat (closing t.kind).toNat],e⟩] else [])
def flats:List Tree→List Tok
  | []=>[]
  | t::ts=>t.flat++flats ts
end
theorem runR_len (r:List UInt8):(runR r).length≤r.length:=by
  unfold runR;exact List.Sublist.length_le (List.takeWhile_sublist _)
theorem runR_le {s:List UInt8} {a:Nat}:(runR (s.drop a)).length≤s.length - a:=by
  have:=runR_len (s.drop a)
  rwa [List.length_drop] at this
theorem takeWhile_take {α:Type} {f:α→Bool}:∀(r:List α),r.take (r.takeWhile f).length=r.takeWhile f
  | []=>rfl
  | c :: r => by
    simp only[List.takeWhile_cons];split
    · simp[takeWhile_take r]
    · simp
theorem cut_run {s:List UInt8} {a:Nat}:(s.take (a+(runR (s.drop a)).length)).drop a=runR (s.drop a):=by
  rw[List.drop_take,Nat.add_sub_cancel_left];exact takeWhile_take _
theorem cut_one {s:List UInt8} {a:Nat} (h:a<s.length):(s.take (a+1)).drop a=[s[a]]:=by
  rw[List.drop_take,Nat.add_sub_cancel_left,List.drop_eq_getElem_cons h];rfl
theorem partnerF_ge {l:List Tok} {at_:Nat}:∀(n i:Nat) (d:Int),at_≤i→i+n≤l.length→at_<l.length→at_≤partnerF l at_ n i d∧partnerF l at_ n i d<l.length
  | 0,i,d,_,_,h=>⟨Nat.le_refl _,h⟩
  | n + 1, i, d, h1, h2, h3 => by
    simp only[partnerF];generalize (d+(if closing (kindAt l i)≠0 then 1 else 0)) - (if closesZ (kindAt l i)=true then 1 else 0)=e;split
    · exact⟨h1,by omega⟩
    · exact partnerF_ge n (i+1) _ (by omega) (by omega) h3
theorem partner_ge {l:List Tok} {i:Nat} (h:i<l.length):i≤partner l i∧partner l i<l.length:=partnerF_ge _ _ _ (Nat.le_refl _) (by omega) h
theorem lexF_len:∀(n p:Nat) (r:List UInt8) (acc:List Tok),r.length≤n→(lexF n p r acc).1.length≤acc.length+r.length
  | 0,_,r,acc,_=>by cases r<;>simp[lexF]
  | n+1,p,[],acc,_=>by simp[lexF]
  | n + 1, p, c :: r, acc, h => by
    simp only[lexF];have hr:=runR_len (c::r);simp only[List.length_cons] at h hr ⊢;split
    · simp only;omega
    · split
      · rename_i h1
        have:=lexF_len n (p+(runR (c::r)).length) ((c::r).drop (runR (c::r)).length) (acc++[⟨97,runR (c::r),p⟩]) (by simp;omega)
        simp at this;omega
      · split
        · have:=lexF_len n (p+1) r (acc++[⟨(c.toNat:Nat),[c],p⟩]) (by omega)
          simp at this;omega
        · split
          · have:=lexF_len n (p+1) r acc (by omega);omega
          · simp
theorem lexR_len (s:List UInt8):(lexR s).1.length≤s.length:=by
  have:=lexF_len s.length 0 s [] (Nat.le_refl _)
  simpa [lexR] using this
end Go.Am

namespace Go.Am
def joinC:List (List UInt8)→List UInt8
  | []=>[]
  | x::xs=>x++xs.flatMap fun y=>44::y
theorem joinC_snoc (l:List (List UInt8)) (y:List UInt8):joinC (l++[y])=joinC l++(if 0<l.length then [44] else [])++y:=by
  cases l with
  | nil=>simp[joinC]
  | cons x xs=>simp[joinC]
theorem joinC_len:∀l:List (List UInt8),(joinC l).length≤(l.map fun x=>x.length+1).sum
  | []=>by simp[joinC]
  | x :: xs => by
    simp only[joinC,List.length_append,List.length_flatMap,List.map_cons,List.sum_cons]
    have:(xs.map fun y=>(44::y).length)=xs.map fun x=>x.length+1:=by simp
    rw[this];omega
def wtext (ws:List Word):List UInt8:=joinC (ws.map Word.text)
def headT:List (List UInt8)→List UInt8
  | []=>[]
  | x::_=>x
mutual
def Nd.txt:Nd→List UInt8
  | .mk k _ t ws ks =>
    if k=1∨k=2 then t
    else if k=3 then [123]++wtext ws++[125]
    else if k=4 then [40]++joinC (txts ks)++[41]
    else if k=5 then [91]++joinC (txts ks)++[93]
    else if k=6 then t++[58,123]++wtext ws++[125]
    else if k=7 then [35]++headT (txts ks)
    else if k=8 then [43,40]++joinC (txts ks)++[41]
    else if k=9 then [38,40]++joinC (txts ks)++[41]
    else if k=10 then ([91]++joinC (txts ks))++(if 0<ws.length then [124]++wtext ws else [])++[93]
    else if k=11 then t++[61]++headT (txts ks)
    else []
def txts:List Nd→List (List UInt8)
  | []=>[]
  | n::ns=>n.txt::txts ns
end
theorem txts_map:∀l,txts l=l.map Nd.txt
  | []=>rfl
  | n::ns=>by simp[txts,txts_map ns]
def wsum (ws:List Word):Nat:=(ws.map fun w=>w.text.length+1).sum
mutual
def Nd.wt:Nd→Nat
  | .mk _ _ t ws ks=>t.length+wsum ws+wts ks+4
def wts:List Nd→Nat
  | []=>0
  | n::ns=>n.wt+1+wts ns
end
theorem wts_map:∀l,wts l=(l.map fun n=>n.wt+1).sum
  | []=>rfl
  | n::ns=>by simp[wts,wts_map ns]
theorem wtext_len (ws:List Word):(wtext ws).length≤wsum ws:=by
  have:=joinC_len (ws.map Word.text)
  simpa [wtext,wsum,List.map_map,Function.comp_def] using this
theorem wt_mem {l:List Nd} {n:Nd} (h:n∈l):n.wt+1≤wts l:=by
  induction l with
  | nil=>simp at h
  | cons m ms ih =>
    rcases List.mem_cons.1 h with rfl | h
    · simp only[wts];omega
    · have:=ih h;simp only[wts];omega
theorem ktext_len:∀(l:List Nd),(∀n∈l,n.txt.length≤n.wt)→(joinC (txts l)).length≤wts l:=fun l h=>by
  refine Nat.le_trans (joinC_len _) ?_;rw[txts_map,wts_map,List.map_map];induction l with
  | nil=>simp
  | cons n ns ih =>
    simp only[List.map_cons,List.sum_cons,Function.comp];have h1:=h n (by simp);have h2:=ih fun m hm=>h m (by simp[hm])
    omega
theorem head_len (l:List Nd) (h:∀n∈l,n.txt.length≤n.wt):(headT (txts l)).length≤wts l:=by
  cases l with
  | nil=>simp[txts,headT]
  | cons n ns=>have:=h n (by simp);simp only[txts,headT,wts];omega
mutual
theorem txt_len:∀(n:Nd),n.txt.length≤n.wt
  | .mk k p t ws ks => by
    have h1:=wtext_len ws;have h2:=ktext_len ks (txt_lens ks);have h3:=head_len ks (txt_lens ks);simp only[Nd.txt,Nd.wt]
    repeat' split
    all_goals (try simp only[List.length_append,List.length_cons,List.length_nil])
    all_goals omega
theorem txt_lens:∀(l:List Nd),∀n∈l,n.txt.length≤n.wt
  | [],n,h=>by simp at h
  | m :: ms, n, h => by
    rcases List.mem_cons.1 h with h | h
    · rw[h];exact txt_len m
    · exact txt_lens ms n h
end
end Go.Am

namespace Go.Am
def elmZ:List V:=List.replicate 8 (.int .u64 0)
def insZ:List V:=.int .i64 0::.int .i64 0::elmZ
def sCells (l:List (List UInt8)):List (List V):=l.map fun s=>[.str s]
theorem getD_at {α:Type} {l:List α} {i:Nat} {d:α} (h:i<l.length):l.getD i d=l[i]:=by simp[h]
theorem sCells_len (l:List (List UInt8)):(sCells l).length=l.length:=by simp[sCells]
theorem sCells_at {l:List (List UInt8)} {j:Nat} (h:j<l.length):(sCells l)[((j:Nat):Int).toNat]?=some [.str (l.getD j [])]:=by simp[sCells,h]
theorem sCells_take {l:List (List UInt8)} {j:Nat}:(sCells l).take j=sCells (l.take j):=by simp[sCells,List.map_take]
def optI:Option Nat→Int
  | some k=>k
  | none=>-1
def findS (l:List (List UInt8)) (s:List UInt8):Option Nat:=(List.range l.length).find? fun i=>decide (l.getD i []=s)
def twiceS (l:List (List UInt8)):Option Nat:=(List.range l.length).find? fun i=>(findS (l.take i) (l.getD i [])).isSome
section
variable {l:List (List UInt8)} {s:List UInt8} {i:Nat}
theorem optI_nn {o:Option Nat}:decide (0≤optI o)=o.isSome:=by
  cases o with
  | none=>rfl
  | some k=>exact decide_eq_true (by simp only[optI];omega)
theorem optI_neg {o:Option Nat}:decide (optI o<0)=o.isNone:=by
  cases o with
  | none=>rfl
  | some k=>exact decide_eq_false (by simp only[optI];omega)
theorem find_lt {p:Nat→Bool} {n k:Nat} (h:(List.range n).find? p=some k):k<n∧p k=true∧∀j,j<k→p j=false:=by
  refine⟨by simpa using List.mem_of_find?_eq_some h,by simpa using List.find?_some h,fun j hj=>?_⟩;obtain⟨_,as,bs,h2,h3⟩:=List.find?_eq_some_iff_append.1 h;have hl:as.length=k:=by
    have:=congrArg (fun l:List Nat=>l[as.length]?) h2
    simp only[List.getElem?_append_right (Nat.le_refl _),Nat.sub_self,List.getElem?_cons_zero] at this;rw[List.getElem?_range] at this
    · simpa using this
    · have:=congrArg List.length h2;simp at this;omega
  have hj' : j∈as:=by
    have:=congrArg (fun l:List Nat=>l[j]?) h2
    rw[List.getElem?_append_left (by omega),List.getElem?_range (by have:=congrArg List.length h2;simp at this;omega)] at this;exact List.mem_of_getElem? this.symm
  have:=h3 j hj'
  simpa using this
end
def namedS (l:List (List UInt8)):Bool:=decide (1≤l.length)&&decide (l.length≤64)&&(twiceS l).isNone&&l.all nameR
structure Fct where
  kind:Int
  names:List (List UInt8)
  rel:Rl
def Fct.enc (f:Fct):List V:=.int .i64 f.kind::.sl .no 1 (sCells f.names)::f.rel.enc
def Fct.zero:Fct:=⟨0,[],.zero⟩
section
variable {f g:Fct} {m:Nat}
theorem Fct.r_len:f.enc.length=67:=by simp[Fct.enc,Rl.r_len]
theorem Fct.r_one:oneL f.enc=true:=by simp[Fct.enc,oneL,V.one,Rl.r_one]
theorem Fct.r_nol:nolL f.enc=true:=by simp[Fct.enc,nolL,V.nol,Rl.r_nol]
theorem Fct.r_er:eraseL f.enc=f.enc:=by simp[Fct.enc,eraseL,V.erase,Rl.r_er]
theorem Fct.r_lo:loL m f.enc=true:=by simp[Fct.enc,loL,V.lo,Rl.r_lo]
theorem Fct.r_tk:takeN 67 f.enc=some f.enc:=by have:=takeN_all (c:=f.enc);rwa [Fct.r_len] at this
theorem Fct.r_ld:ldC true 67 f.enc=some (.agg f.enc):=by rw[ldC_agg,Fct.r_tk];rfl
theorem Fct.r_has:hasN 67 f.enc=true:=by have:=hasN_all (c:=f.enc);rwa [Fct.r_len] at this
theorem Fct.r_ov:over g.enc f.enc=f.enc:=over_all (by rw[Fct.r_len,Fct.r_len])
theorem Fct.r_k:ldC false 1 f.enc=some (.int .i64 f.kind):=rfl
theorem Fct.r_s:ldC false 1 (f.enc.drop 1)=some (.sl .no 1 (sCells f.names)):=rfl
theorem Fct.r_n:ldC false 1 (f.enc.drop 2)=some (.int .i64 f.rel.n):=rfl
theorem Fct.r_r:ldC true 65 (f.enc.drop 2)=some (.agg f.rel.enc):=by
  show ldC true 65 f.rel.enc=_;exact Rl.r_ld
theorem Fct.r_rt:takeN 65 (f.enc.drop 2)=some f.rel.enc:=by
  show takeN 65 f.rel.enc=_;exact Rl.r_tk
theorem Fct.zov:over facZ f.enc=f.enc:=over_all (by rw[Fct.r_len];rfl)
theorem Fct.zhas:hasN 67 facZ=true:=rfl
theorem Fct.zlo:loL m facZ=true:=by
  have:facZ = .int .i64 0::.sl .full 1 []::Rl.zero.enc:=by rw[←Rl.r_zero];rfl
  rw[this];simp[loL,V.lo,Rl.r_lo]
def Fct.rec_:=And.intro @Fct.r_len <| And.intro @Fct.r_one <| And.intro @Fct.r_nol <| And.intro @Fct.r_er <| And.intro @Fct.r_lo <| And.intro @Fct.r_tk <| And.intro @Fct.r_ld <| And.intro @Fct.r_has <| And.intro @Fct.r_ov <| And.intro @Fct.r_k <| And.intro @Fct.r_s <| And.intro @Fct.r_n <| And.intro @Fct.r_r <| And.intro @Fct.r_rt <| And.intro @Fct.zov <| And.intro @Fct.zhas @Fct.zlo
end
structure Shp where
  tuple:Bool
  facs:List Fct
def Shp.enc (s:Shp):List V:=[.bool s.tuple,.sl .no 67 (s.facs.map Fct.enc)]
section
variable {s:Shp} {g:Bool} {n:Nat} {a b:V}
theorem Shp.r_len:s.enc.length=2:=rfl
theorem Shp.r_one:oneL s.enc=true:=rfl
theorem Shp.r_nol:nolL s.enc=true:=rfl
theorem Shp.r_er:eraseL s.enc=s.enc:=rfl
theorem Shp.r_lo:loL n s.enc=true:=rfl
theorem Shp.r_tk:takeN 2 s.enc=some s.enc:=rfl
theorem Shp.r_ld:ldC true 2 s.enc=some (.agg s.enc):=rfl
theorem Shp.r_has:hasN 2 s.enc=true:=rfl
theorem Shp.r_ov:over [a,b] s.enc=s.enc:=rfl
theorem Shp.r_t:ldC false 1 s.enc=some (.bool s.tuple):=rfl
theorem Shp.r_f:ldC false 1 (s.enc.drop 1)=some (.sl .no 67 (s.facs.map Fct.enc)):=rfl
def Shp.rec_:=And.intro @Shp.r_len <| And.intro @Shp.r_one <| And.intro @Shp.r_nol <| And.intro @Shp.r_er <| And.intro @Shp.r_lo <| And.intro @Shp.r_tk <| And.intro @Shp.r_ld <| And.intro @Shp.r_has <| And.intro @Shp.r_ov <| And.intro @Shp.r_t @Shp.r_f
end
def Shp.ok (s:Shp):Prop:=s.facs.length≤100000∧∀f∈s.facs,f.names.length≤100000
def facR (f:Fct):Bool:=namedS f.names &&
  (if f.kind=1∨f.kind=2 then decide (pts f.rel=0) else if f.kind=3 then decide (f.rel.n=f.names.length)&&gridR f.rel else if f.kind=4 then decide (f.rel.n=f.names.length)&&latH f.rel else false)
def shpR (s:Shp):Bool:=decide (1≤s.facs.length)&&decide (s.facs.length≤8)&&(s.tuple||decide (s.facs.length=1))&&s.facs.all facR
theorem plain_zero {r:Rl}:decide (plainR r=plainR Rl.zero)=decide (pts r=0):=by
  apply decide_eq_decide.2;have hz:pts Rl.zero=0:=by simp[pts,Rl.zero]
  constructor
  · intro h;have:=(plain_iff.1 h).1;rw[this,hz]
  · intro h;rw[empty_row h,empty_row hz]
structure Elm where
  w:List B64
  len:w.length=8
theorem Elm.ext' {a b:Elm} (h:a.w=b.w):a=b:=by cases a;cases b;simp only at h;subst h;rfl
instance:DecidableEq Elm:=fun a b=>if h:a.w=b.w then isTrue (Elm.ext' h) else isFalse fun e=>h (e▸rfl)
def Elm.enc (e:Elm):List V:=encW e.w
def Elm.zero:Elm:=⟨List.replicate 8 0#64,by simp⟩
def Elm.get (e:Elm) (i:Nat):B64:=e.w.getD i 0#64
def Elm.put (e:Elm) (i:Nat) (w:B64):Elm:=⟨e.w.set i w,by simp[e.len]⟩
def Elm.of (f:Nat→B64):Elm:=⟨(List.range 8).map f,by simp⟩
section
variable {e d:Elm} {i m:Nat} {w:B64} {f:Nat→B64}
theorem Elm.get_put {j:Nat}:(e.put i w).get j=if i=j∧i<8 then w else e.get j:=by
  simp only[Elm.get,Elm.put,List.getD,List.getElem?_set,e.len]
  by_cases h:i=j
  · subst h
    by_cases h2:i<8
    · simp[h2]
    · simp[h2,e.len]
  · simp[h]
theorem Elm.get_of (h:i<8):(Elm.of f).get i=f i:=by simp[Elm.get,Elm.of,List.getD,h]
theorem Elm.ext (k:∀i,i<8→e.get i=d.get i):e=d:=by
  refine Elm.ext' (List.ext_getElem (by rw[e.len,d.len]) fun i h1 h2=>?_)
  have:=k i (by rw[e.len] at h1;exact h1)
  simpa [Elm.get,List.getD,h1,h2] using this
theorem Elm.r_len:e.enc.length=8:=by simp[Elm.enc,encW_len,e.len]
theorem Elm.r_one:oneL e.enc=true:=encW_one
theorem Elm.r_nol:nolL e.enc=true:=encW_nol
theorem Elm.r_er:eraseL e.enc=e.enc:=encW_er
theorem Elm.r_lo:loL m e.enc=true:=encW_lo
theorem Elm.r_tk:takeN 8 e.enc=some e.enc:=by have:=takeN_all (c:=e.enc);rwa [Elm.r_len] at this
theorem Elm.r_ld:ldC true 8 e.enc=some (.agg e.enc):=by rw[ldC_agg,Elm.r_tk];rfl
theorem Elm.r_has:hasN 8 e.enc=true:=by have:=hasN_all (c:=e.enc);rwa [Elm.r_len] at this
theorem Elm.r_ov:over d.enc e.enc=e.enc:=over_all (by rw[Elm.r_len,Elm.r_len])
theorem Elm.r_zero:elmZ=Elm.zero.enc:=by rw[Elm.enc,encW,Elm.zero,List.map_replicate];rfl
theorem Elm.r_eq:eqC [1,1,1,1,1,1,1,1] e.enc d.enc=some (decide (e=d)):=by
  show eqC (List.replicate 8 1) (encW e.w) (encW d.w)=_;rw[encW_eqC e.len d.len];congr 1;exact decide_eq_decide.2 ⟨Elm.ext',fun h=>h▸rfl⟩
theorem Elm.u_ld (h:i<8):ldC false 1 (e.enc.drop i)=some (.int .u64 ((e.get i).toNat:Nat)):=encW_ld (by rw[e.len];exact h)
theorem Elm.u_has (h:i<8):hasN 1 (e.enc.drop i)=true:=encW_has (by rw[e.len];exact h)
theorem Elm.u_st (h:i<8):setAt e.enc i [.int .u64 (w.toNat:Nat)]=(e.put i w).enc:=encW_st (by rw[e.len];exact h)
theorem Elm.fill:(Elm.of fun j=>if j<i then f j else 0#64).put i (f i)=Elm.of fun j=>if j<i+1 then f j else 0#64:=by
  refine Elm.ext fun k hk=>?_
  rw[Elm.get_put,Elm.get_of hk,Elm.get_of hk]
  by_cases h:i=k
  · subst h;simp[hk]
  · rw[if_neg (by omega)]
    by_cases h2:k<i
    · rw[if_pos h2,if_pos (by omega)]
    · rw[if_neg h2,if_neg (by omega)]
theorem Elm.zero_of:Elm.zero=Elm.of fun _=>0#64:=by
  refine Elm.ext fun i hi=>?_
  rw[Elm.get_of hi];simp only[Elm.get,Elm.zero,List.getD,List.getElem?_replicate,hi,if_true,Option.getD_some]
theorem Elm.full {g:Nat→B64}:(Elm.of fun j=>if j<8 then f j else g j)=Elm.of f:=by
  refine Elm.ext fun i hi=>?_
  rw[Elm.get_of hi,Elm.get_of hi,if_pos hi]
def Elm.rec_:=And.intro @Elm.r_len <| And.intro @Elm.r_one <| And.intro @Elm.r_nol <| And.intro @Elm.r_er <| And.intro @Elm.r_lo <| And.intro @Elm.r_tk <| And.intro @Elm.r_ld <| And.intro @Elm.r_has <| And.intro @Elm.r_ov <| And.intro @Elm.r_zero @Elm.r_eq
end
def joinF (s:Shp) (a b:Elm) (i:Nat):B64 :=
  match s.facs[i]? with
  | some f=>if f.kind=4 then raiseH f.rel (a.get i) (b.get i) else a.get i|||b.get i
  | none=>a.get i|||b.get i
def joinE (s:Shp) (a b:Elm):Elm:=Elm.of (joinF s a b)
def meetE (a b:Elm):Elm:=Elm.of fun i=>a.get i&&&b.get i
end Go.Am

namespace Go.Am
def rightW (ws:List Word):Bool:=ws.all fun w=>nameR w.text
def Nd.leafQ (n:Nd):Bool:=nameR n.text&&decide ((n.names.length:Int)+n.kids.length=0)
def Nd.bareQ (n:Nd):Bool:=decide (n.text=[])&&decide ((n.names.length:Int)=0)
def Nd.ruleQ (n:Nd):Bool:=decide (n.kind=6)&&nameR n.text&&rightW n.names&&decide ((n.kids.length:Int)=0)
mutual
def Nd.constQ:Nd→Bool
  | .mk k p t ws ks =>
    if k=2 then (Nd.mk k p t ws ks).leafQ
    else if k=3 then decide (t=[])&&rightW ws&&decide ((ks.length:Int)=0)
    else if k=4 then (Nd.mk k p t ws ks).bareQ&&decide ((0:Int)<ks.length)&&constsQ ks
    else if k=5 then (Nd.mk k p t ws ks).bareQ&&ks.all Nd.ruleQ
    else false
def constsQ:List Nd→Bool
  | []=>true
  | n::ns=>n.constQ&&constsQ ns
end
theorem constsQ_all:∀l,constsQ l=l.all Nd.constQ
  | []=>rfl
  | n::ns=>by simp[constsQ,constsQ_all ns]
theorem Nd.constQ_eq (n:Nd):n.constQ=if n.kind=2 then n.leafQ else if n.kind=3 then decide (n.text=[])&&rightW n.names&&decide ((n.kids.length:Int)=0)
    else if n.kind=4 then n.bareQ&&decide ((0:Int)<n.kids.length)&&n.kids.all Nd.constQ else if n.kind=5 then n.bareQ&&n.kids.all Nd.ruleQ else false:=by
  cases n;rw[←constsQ_all];rw[Nd.constQ];rfl
def headQ (f:Nd→Bool):List Nd→Bool
  | []=>false
  | n::_=>f n
mutual
def Nd.labelQ:Nd→Bool
  | .mk k p t ws ks =>
    if k=1 then (Nd.mk k p t ws ks).leafQ
    else if k=7 then (Nd.mk k p t ws ks).bareQ&&decide ((ks.length:Int)=1)&&headQ Nd.constQ ks
    else if k=8∨k=9 then (Nd.mk k p t ws ks).bareQ&&decide ((0:Int)<ks.length)&&labelsQ ks
    else false
def labelsQ:List Nd→Bool
  | []=>true
  | n::ns=>n.labelQ&&labelsQ ns
end
theorem labelsQ_all:∀l,labelsQ l=l.all Nd.labelQ
  | []=>rfl
  | n::ns=>by simp[labelsQ,labelsQ_all ns]
theorem Nd.labelQ_eq (n:Nd):n.labelQ=if n.kind=1 then n.leafQ else if n.kind=7 then n.bareQ&&decide ((n.kids.length:Int)=1)&&headQ Nd.constQ n.kids
    else if n.kind=8∨n.kind=9 then n.bareQ&&decide ((0:Int)<n.kids.length)&&n.kids.all Nd.labelQ else false:=by
  cases n;rw[←labelsQ_all];rw[Nd.labelQ];rfl
def Nd.atomQ (n:Nd):Bool:=(decide (n.kind=1)||decide (n.kind=7))&&n.labelQ
def Nd.fieldQ (n:Nd):Bool:=decide (n.kind=11)&&nameR n.text&&decide ((n.names.length:Int)=0)&&decide ((n.kids.length:Int)=1)&&headQ Nd.atomQ n.kids
def Nd.rowQ (n:Nd):Bool :=
  if n.kind=10 then decide (n.text=[])&&decide ((n.names.length:Int)≤1)&&rightW n.names&&n.kids.all Nd.fieldQ else decide (n.kind=1)&&n.labelQ
def sameW:List Word→List Word→Bool
  | [],[]=>true
  | w::ws,u::us=>decide (w.text=u.text)&&sameW ws us
  | _,_=>false
mutual
def Nd.sameQ:Nd→Nd→Bool
  | .mk k _ t ws ks,n=>decide (k=n.kind)&&decide (t=n.text)&&sameW ws n.names&&samesQ ks n.kids
def samesQ:List Nd→List Nd→Bool
  | [],[]=>true
  | n::ns,m::ms=>n.sameQ m&&samesQ ns ms
  | _,_=>false
end
theorem Nd.sameQ_eq (n m:Nd):n.sameQ m=(decide (n.kind=m.kind)&&decide (n.text=m.text)&&sameW n.names m.names&&samesQ n.kids m.kids):=by cases n;rw[Nd.sameQ];rfl
theorem sameW_refl:∀l,sameW l l=true
  | []=>rfl
  | w::ws=>by simp[sameW,sameW_refl ws]
mutual
theorem Nd.sameQ_refl:∀n:Nd,n.sameQ n=true
  | .mk k p t ws ks=>by simp[Nd.sameQ,Nd.kind,Nd.text,Nd.names,Nd.kids,sameW_refl,samesQ_refl ks]
theorem samesQ_refl:∀l:List Nd,samesQ l l=true
  | []=>by simp[samesQ]
  | n::ns=>by simp[samesQ,Nd.sameQ_refl n,samesQ_refl ns]
end
theorem sameW_len:∀{a b:List Word},sameW a b=true→a.length=b.length
  | [],[],_=>rfl
  | [],_::_,h=>by simp[sameW] at h
  | _::_,[],h=>by simp[sameW] at h
  | _::ws,_::us,h=>by simp only[sameW,Bool.and_eq_true] at h;simp[sameW_len h.2]
theorem samesQ_len:∀{a b:List Nd},samesQ a b=true→a.length=b.length
  | [],[],_=>rfl
  | [],_::_,h=>by simp[samesQ] at h
  | _::_,[],h=>by simp[samesQ] at h
  | _::ws,_::us,h=>by simp only[samesQ,Bool.and_eq_true] at h;simp[samesQ_len h.2]
theorem sameW_at:∀{a b:List Word} {i:Nat} (ha:i<a.length) (hb:i<b.length),a.length=b.length→sameW (a.take i) (b.take i)=true→sameW (a.take (i+1)) (b.take (i+1))=decide (a[i].text=b[i].text)∧(decide (a[i].text=b[i].text)=false→sameW a b=false)
  | w::ws,u::us,0,_,_,_,_=>by simp[sameW];intro h1 h2;exact absurd h2 h1
  | w :: ws, u :: us, i + 1, ha, hb, hl, h => by
    simp only[List.take_succ_cons,sameW,Bool.and_eq_true] at h ⊢
    have:=sameW_at (a:=ws) (b:=us) (i:=i) (by simpa using ha) (by simpa using hb) (by simpa using hl) h.2
    simp only[h.1,Bool.true_and,List.getElem_cons_succ];exact this
  | [],_,_,ha,_,_,_=>by simp at ha
  | _::_,[],_,_,hb,_,_=>by simp at hb
theorem samesQ_at:∀{a b:List Nd} {i:Nat} (ha:i<a.length) (hb:i<b.length),a.length=b.length→samesQ (a.take i) (b.take i)=true→samesQ (a.take (i+1)) (b.take (i+1))=a[i].sameQ b[i]∧(a[i].sameQ b[i]=false→samesQ a b=false)
  | w::ws,u::us,0,_,_,_,_=>by simp[samesQ];intro h1 h2;rw[h1] at h2;simp at h2
  | w :: ws, u :: us, i + 1, ha, hb, hl, h => by
    simp only[List.take_succ_cons,samesQ,Bool.and_eq_true] at h ⊢
    have:=samesQ_at (a:=ws) (b:=us) (i:=i) (by simpa using ha) (by simpa using hb) (by simpa using hl) h.2
    simp only[h.1,Bool.true_and,List.getElem_cons_succ];exact this
  | [],_,_,ha,_,_,_=>by simp at ha
  | _::_,[],_,_,hb,_,_=>by simp at hb
end Go.Am

namespace Go.Am
def badV (o:Option Int):List V:=[.bool o.isSome,.int .i64 (o.getD 0)]
def fltV (o:Option Int):List V:=[.int .i64 (if o.isSome then 4 else 0),.int .i64 (o.getD 0)]
def plcF (l:List (List UInt8)) (s:B64):List Word→B64 × Option Int
  | []=>(s,none)
  | w::ws=>match findS l w.text with | none=>(0#64,some w.pos) | some k=>plcF l (withB s (k:Nat)) ws
def rulF (f:Fct) (s:B64):List Nd→B64 × Option Int
  | []=>(s,none)
  | k :: ks => match findS f.names k.text with
    | none=>(0#64,some k.pos)
    | some o => match (plcF f.names 0#64 k.names).2 with
      | some p=>(0#64,some p)
      | none=>rulF f (s|||ruleG f.rel o (plcF f.names 0#64 k.names).1) ks
def rulP (f:Fct) (s:B64) (bad:Option Int):List Nd→B64 × Option Int
  | []=>(s,bad)
  | k :: ks => match findS f.names k.text with
    | none=>(0#64,bad.or (some k.pos))
    | some o=>rulP f (s|||ruleG f.rel o (plcF f.names 0#64 k.names).1) (bad.or (plcF f.names 0#64 k.names).2) ks
theorem rulP_bad {f:Fct} {p:Int}:∀{ks:List Nd} {s:B64},(rulP f s (some p) ks).2=some p
  | [],_=>rfl
  | k :: ks, s => by
    simp only[rulP];split
    · rfl
    · exact rulP_bad
theorem rulP_eq {f:Fct}:∀{ks:List Nd} {s:B64},(rulP f s none ks).2=(rulF f s ks).2∧((rulF f s ks).2=none→(rulP f s none ks).1=(rulF f s ks).1)
  | [],_=>⟨rfl,fun _=>rfl⟩
  | k :: ks, s => by
    simp only[rulP,rulF];split
    · exact⟨rfl,fun h=>by simp at h⟩
    · split
      · rename_i o _ p hp;rw[hp];exact⟨rulP_bad,fun h=>by simp at h⟩
      · rename_i hp;rw[hp];exact rulP_eq
def ptF (f:Fct) (n:Nd):B64 × Option Int :=
  match findS f.names n.text with
  | none=>(0#64,some n.pos)
  | some k=>(if f.kind=4 then belowH f.rel k else (rungW (f.names.length:Nat) (k:Nat)).1,none)
def kindF (f:Fct):Int:=if f.kind=2 then 3 else if f.kind=3 then 5 else 2
def wrdF (f:Fct) (n:Nd):B64 × Option Int :=
  if n.kind=kindF f then (if f.kind=2 then plcF f.names 0#64 n.names else if f.kind=3 then rulF f 0#64 n.kids else ptF f n) else (0#64,some n.pos)
def wrdP (f:Fct) (n:Nd) (bad:Option Int):B64 × Option Int :=
  if n.kind=kindF f then (if f.kind=2 then ((plcF f.names 0#64 n.names).1,bad.or (plcF f.names 0#64 n.names).2) else if f.kind=3 then rulP f 0#64 bad n.kids else ((ptF f n).1,bad.or (ptF f n).2)) else (0#64,bad.or (some n.pos))
theorem wrdP_bad {f:Fct} {n:Nd} {p:Int}:(wrdP f n (some p)).2=some p:=by
  unfold wrdP;split
  · split
    · rfl
    · split
      · exact rulP_bad
      · rfl
  · rfl
theorem wrdP_eq {f:Fct} {n:Nd}:(wrdP f n none).2=(wrdF f n).2∧((wrdF f n).2=none→(wrdP f n none).1=(wrdF f n).1):=by
  unfold wrdP wrdF;split
  · split
    · simp
    · split
      · exact rulP_eq
      · simp
  · simp
def nd0:Nd:=.mk 0 0 [] [] []
def wrdI (s:Shp) (ks:List Nd) (i:Nat):B64 × Option Int:=wrdF (s.facs.getD i .zero) (ks.getD i nd0)
def elmGo (s:Shp) (ks:List Nd):Elm × Option Int :=
  match (List.range s.facs.length).find? fun i=>(wrdI s ks i).2.isSome with
  | some i=>(.zero,(wrdI s ks i).2)
  | none=>(Elm.of fun j=>if j<s.facs.length then (wrdI s ks j).1 else 0#64,none)
def partsF (s:Shp) (n:Nd):List Nd:=if s.tuple then n.kids else [n]
def partsQ (s:Shp) (n:Nd):Bool:=!s.tuple||(decide (n.kind=4)&&decide (n.kids.length=s.facs.length))
def elemF (s:Shp) (n:Nd):Elm × Option Int:=if partsQ s n&&shpR s&&n.constQ then elmGo s (partsF s n) else (.zero,some n.pos)
def goI (s:Shp) (ks:List Nd) (i:Nat) (x:Elm × Option Int):Prop :=
  (x.2=none∧(∀k,k<i→(wrdI s ks k).2=none)∧x.1=Elm.of fun j=>if j<i then (wrdI s ks j).1 else 0#64) ∨
  (x.2.isSome=true∧∃k,k<i∧(wrdI s ks k).2=x.2∧∀j,j<k→(wrdI s ks j).2=none)
theorem goI_zero {s:Shp} {ks:List Nd}:goI s ks 0 (.zero,none):=.inl ⟨rfl,fun k h=>by omega,Elm.zero_of⟩
theorem goI_step {s:Shp} {ks:List Nd} {i:Nat} {e:Elm} {o:Option Int} (h:goI s ks i (e,o)) :
    goI s ks (i+1) (e.put i (wrdP (s.facs.getD i .zero) (ks.getD i nd0) o).1,(wrdP (s.facs.getD i .zero) (ks.getD i nd0) o).2):=by
  rcases h with ⟨h1,h2,h3⟩ | ⟨h1,k,h2,h3,h4⟩
  · simp only at h1 h3;subst h1;subst h3;obtain⟨e1,e2⟩:=@wrdP_eq (s.facs.getD i .zero) (ks.getD i nd0);cases hb:(wrdF (s.facs.getD i .zero) (ks.getD i nd0)).2 with
    | none =>
      left;refine⟨by simp only;rw[e1,hb],fun k hk=>?_,?_⟩
      · rcases Nat.lt_succ_iff_lt_or_eq.1 hk with h | rfl
        · exact h2 k h
        · exact hb
      · simp only;rw[e2 hb];exact Elm.fill (f:=fun j=>(wrdI s ks j).1)
    | some p =>
      right;refine⟨by simp only;rw[e1,hb];rfl,i,by omega,by simp only;rw[e1];rfl,h2⟩
  · simp only at h1 h3;obtain⟨p,rfl⟩:=Option.isSome_iff_exists.1 h1;right;exact⟨by simp only;rw[wrdP_bad];rfl,k,by omega,by simp only;rw[wrdP_bad];exact h3,h4⟩
theorem goI_end {s:Shp} {ks:List Nd} {x:Elm × Option Int} (h:goI s ks s.facs.length x):elmGo s ks=if x.2.isSome then (.zero,x.2) else (x.1,none):=by
  rcases h with ⟨h1,h2,h3⟩ | ⟨h1,k,h2,h3,h4⟩
  · have e:(List.range s.facs.length).find? (fun i=>(wrdI s ks i).2.isSome)=none:=by
      rw[List.find?_eq_none];intro i hi;rw[h2 i (by simpa using hi)];simp
    rw[elmGo,e,h1,h3];rfl
  · have e:(List.range s.facs.length).find? (fun i=>(wrdI s ks i).2.isSome)=some k:=by
      rw[List.find?_eq_some_iff_append];refine⟨by rw[h3];exact h1,List.range k,List.range' (k+1) (s.facs.length - (k+1)),?_,fun a ha=>by rw[h4 a (by simpa using ha)];rfl⟩;rw[List.range_eq_range',List.range_eq_range',←List.range'_succ]
      have:=List.range'_append (s:=0) (m:=k) (n:=s.facs.length - k) (step:=1)
      simp only[Nat.one_mul,Nat.zero_add] at this;rw[show s.facs.length - (k+1)+1=s.facs.length - k by omega,this];congr 1;omega
    rw[elmGo,e,if_pos h1];simp only[h3]
end Go.Am

namespace Go.Am
mutual
def Nd.cnt:Nd→Nat
  | .mk _ _ _ ws ks=>1+ws.length+cnts ks
def cnts:List Nd→Nat
  | []=>0
  | n::ns=>n.cnt+cnts ns
end
theorem cnts_append:∀a b:List Nd,cnts (a++b)=cnts a+cnts b
  | [],b=>by simp[cnts]
  | x::xs,b=>by simp only[List.cons_append,cnts,cnts_append xs b];omega
theorem cnts_take (l:List Nd) (i:Nat):cnts (l.take i)≤cnts l:=by
  have:=cnts_append (l.take i) (l.drop i)
  rw[List.take_append_drop] at this;omega
theorem wlen (l:List Word):l.length≤wsum l:=by
  unfold wsum;induction l with
  | nil=>simp
  | cons w ws ih=>simp only[List.map_cons,List.sum_cons,List.length_cons];omega
mutual
theorem cnt_wt:∀n:Nd,n.cnt≤n.wt
  | .mk k p t ws ks => by
    have:=cnts_wt ks
    have:=wlen ws
    simp only[Nd.cnt,Nd.wt];omega
theorem cnts_wt:∀l:List Nd,cnts l≤wts l
  | []=>by simp[cnts,wts]
  | n :: ns => by
    have:=cnt_wt n
    have:=cnts_wt ns
    simp only[cnts,wts];omega
end
end Go.Am

namespace Go.Am
structure Ltc where
  name:List UInt8
  shape:Shp
def Ltc.enc (l:Ltc):List V:=.str l.name::l.shape.enc
structure Vrb where
  name:List UInt8
  kind:Int
  lat:Int
def Vrb.enc (v:Vrb):List V:=[.str v.name,.int .i64 v.kind,.int .i64 v.lat]
structure Scp where
  lats:List Ltc
  vars:List Vrb
def Scp.enc (s:Scp):List V:=[.sl .no 3 (s.lats.map Ltc.enc),.sl .no 3 (s.vars.map Vrb.enc)]
section
variable {l:Ltc} {v:Vrb} {s:Scp} {n:Nat} {a b c:V}
theorem Scp.r_len:s.enc.length=2:=rfl
theorem Scp.r_one:oneL s.enc=true:=rfl
theorem Scp.r_nol:nolL s.enc=true:=rfl
theorem Scp.r_er:eraseL s.enc=s.enc:=rfl
theorem Scp.r_lo:loL n s.enc=true:=rfl
theorem Scp.r_tk:takeN 2 s.enc=some s.enc:=rfl
theorem Scp.r_ld:ldC true 2 s.enc=some (.agg s.enc):=rfl
theorem Scp.r_has:hasN 2 s.enc=true:=rfl
theorem Scp.r_ov:over [a,b] s.enc=s.enc:=rfl
theorem Scp.r_l:ldC false 1 s.enc=some (.sl .no 3 (s.lats.map Ltc.enc)):=rfl
theorem Scp.r_v:ldC false 1 (s.enc.drop 1)=some (.sl .no 3 (s.vars.map Vrb.enc)):=rfl
theorem Vrb.r_n:ldC false 1 v.enc=some (.str v.name):=rfl
theorem Vrb.r_k:ldC false 1 (v.enc.drop 1)=some (.int .i64 v.kind):=rfl
theorem Vrb.r_l:ldC false 1 (v.enc.drop 2)=some (.int .i64 v.lat):=rfl
theorem Ltc.r_n:ldC false 1 l.enc=some (.str l.name):=rfl
theorem Ltc.r_st:takeN 2 (l.enc.drop 1)=some l.shape.enc:=rfl
def Scp.rec_:=And.intro @Scp.r_len <| And.intro @Scp.r_one <| And.intro @Scp.r_nol <| And.intro @Scp.r_er <| And.intro @Scp.r_lo <| And.intro @Scp.r_tk <| And.intro @Scp.r_ld <| And.intro @Scp.r_has <| And.intro @Scp.r_ov <| And.intro @Scp.r_l <| And.intro @Scp.r_v <| And.intro @Vrb.r_n <| And.intro @Vrb.r_k <| And.intro @Vrb.r_l <| And.intro @Ltc.r_n @Ltc.r_st
end
structure Ins where
  op:Int
  n:Int
  c:Elm
def Ins.enc (i:Ins):List V:=.int .i64 i.op::.int .i64 i.n::i.c.enc
def Ins.zero:Ins:=⟨0,0,.zero⟩
theorem Ins.ext' {a b:Ins} (h1:a.op=b.op) (h2:a.n=b.n) (h3:a.c=b.c):a=b:=by cases a;cases b;simp only at h1 h2 h3;subst h1;subst h2;subst h3;rfl
instance:DecidableEq Ins:=fun a b=>if h:a.op=b.op∧a.n=b.n∧a.c=b.c then isTrue (Ins.ext' h.1 h.2.1 h.2.2) else isFalse fun e=>h (e▸⟨rfl,rfl,rfl⟩)
section
variable {i j:Ins} {n:Nat} {x y:Int} {e:Elm}
theorem Ins.r_len:i.enc.length=10:=by simp[Ins.enc,Elm.r_len]
theorem Ins.r_one:oneL i.enc=true:=by simp[Ins.enc,oneL,V.one,Elm.r_one]
theorem Ins.r_nol:nolL i.enc=true:=by simp[Ins.enc,nolL,V.nol,Elm.r_nol]
theorem Ins.r_er:eraseL i.enc=i.enc:=by simp[Ins.enc,eraseL,V.erase,Elm.r_er]
theorem Ins.r_lo:loL n i.enc=true:=by simp[Ins.enc,loL,V.lo,Elm.r_lo]
theorem Ins.r_tk:takeN 10 i.enc=some i.enc:=by have:=takeN_all (c:=i.enc);rwa [Ins.r_len] at this
theorem Ins.r_ld:ldC true 10 i.enc=some (.agg i.enc):=by rw[ldC_agg,Ins.r_tk];rfl
theorem Ins.r_has:hasN 10 i.enc=true:=by have:=hasN_all (c:=i.enc);rwa [Ins.r_len] at this
theorem Ins.r_ov:over j.enc i.enc=i.enc:=over_all (by rw[Ins.r_len,Ins.r_len])
theorem Ins.r_o:ldC false 1 i.enc=some (.int .i64 i.op):=rfl
theorem Ins.r_n:ldC false 1 (i.enc.drop 1)=some (.int .i64 i.n):=rfl
theorem Ins.r_ct:takeN 8 (i.enc.drop 2)=some i.c.enc:=by show takeN 8 i.c.enc=_;exact Elm.r_tk
theorem Ins.r_zero:insZ=Ins.zero.enc:=by
  show V.int .i64 0::V.int .i64 0::elmZ=_;rw[Elm.r_zero];rfl
theorem Ins.b_o:over i.enc [.int .i64 x]=(Ins.mk x i.n i.c).enc:=by rw[Ins.enc,over_cons,over_nil];rfl
theorem Ins.b_h:hasN 1 i.enc=true:=rfl
theorem Ins.b_h1:hasN 1 (i.enc.drop 1)=true:=rfl
theorem Ins.b_n:setAt i.enc 1 [.int .i64 x]=(Ins.mk i.op x i.c).enc:=by rw[Ins.enc,setAt_succ,setAt_zero,over_cons,over_nil];rfl
theorem Ins.b_h2:hasN 8 (i.enc.drop 2)=true:=by show hasN 8 i.c.enc=true;exact Elm.r_has
theorem Ins.b_c:setAt i.enc 2 e.enc=(Ins.mk i.op i.n e).enc:=by rw[Ins.enc,setAt_succ,setAt_succ,setAt_zero,Elm.r_ov];rfl
theorem Ins.r_eq:eqC [1,1,1,1,1,1,1,1,1,1] i.enc j.enc=some (decide (i=j)):=by
  rw[Ins.enc,Ins.enc,eqC_int,eqC_int,Elm.r_eq,andM_some,andM_some];congr 1;rw[←Bool.decide_and,←Bool.decide_and];exact decide_eq_decide.2 ⟨fun h=>Ins.ext' h.1 h.2.1 h.2.2,fun h=>h▸⟨rfl,rfl,rfl⟩⟩
def Ins.rec_:=And.intro @Ins.r_len <| And.intro @Ins.r_one <| And.intro @Ins.r_nol <| And.intro @Ins.r_er <| And.intro @Ins.r_lo <| And.intro @Ins.r_tk <| And.intro @Ins.r_ld <| And.intro @Ins.r_has <| And.intro @Ins.r_ov <| And.intro @Ins.r_o <| And.intro @Ins.r_n <| And.intro @Ins.r_ct <| And.intro @Ins.r_zero <| And.intro @Ins.b_o <| And.intro @Ins.b_h <| And.intro @Ins.b_h1 <| And.intro @Ins.b_n <| And.intro @Ins.b_h2 <| And.intro @Ins.b_c @Ins.r_eq
end
def nameL (l:List Ltc) (t:List UInt8) (i:Nat):Bool:=match l[i]? with | some x=>decide (x.name=t) | none=>false
def nameV (l:List Vrb) (t:List UInt8) (i:Nat):Bool:=match l[i]? with | some x=>decide (x.name=t) | none=>false
def findL (l:List Ltc) (t:List UInt8):Option Nat:=(List.range l.length).find? (nameL l t)
def findV (l:List Vrb) (t:List UInt8):Option Nat:=(List.range l.length).find? (nameV l t)
def varF (s:Scp) (lat:Nat) (t:List UInt8):Option Ins :=
  match findV s.vars t with
  | none=>none
  | some k => match s.vars[k]? with
    | some v=>if v.kind=1∧v.lat=(lat:Nat) then some ⟨1,k,.zero⟩ else none
    | none=>none
def shapeF (s:Scp) (lat:Nat):Shp:=match s.lats[lat]? with | some l=>l.shape | none=>⟨false,[]⟩
def leafF (s:Scp) (lat:Nat) (n:Nd):Option Ins :=
  if n.kind=1 then varF s lat n.text
  else match (elemF (shapeF s lat) (n.kids.getD 0 nd0)).2 with | none=>some ⟨2,0,(elemF (shapeF s lat) (n.kids.getD 0 nd0)).1⟩ | some _=>none
def opF (n:Nd):Ins:=⟨if n.kind=9 then 4 else 3,n.kids.length,.zero⟩
mutual
def compF (s:Scp) (lat:Nat):Nd→Option (List Ins)
  | .mk k p t ws ks=>if k=1∨k=7 then (leafF s lat (.mk k p t ws ks)).map fun i=>[i] else (compL s lat ks).map fun l=>l++[opF (.mk k p t ws ks)]
def compL (s:Scp) (lat:Nat):List Nd→Option (List Ins)
  | []=>some []
  | n::ns=>match compF s lat n with | none=>none | some l=>(compL s lat ns).map fun m=>l++m
end
theorem compF_eq {s:Scp} {lat:Nat} (n:Nd):compF s lat n=if n.kind=1∨n.kind=7 then (leafF s lat n).map fun i=>[i] else (compL s lat n.kids).map fun l=>l++[opF n]:=by
  cases n;rw[compF];rfl
def compR (s:Scp) (lat:Int) (n:Nd):Option (List Ins):=if 0≤lat∧lat<s.lats.length∧n.labelQ=true then compF s lat.toNat n else none
def restF (s:Scp) (lat:Nat) (f:Nd × Nat):Option (List Ins) :=
  if f.1.kind=1∨f.1.kind=7 then (leafF s lat f.1).map fun i=>[i] else (compL s lat (f.1.kids.drop f.2)).map fun l=>l++[opF f.1]
theorem restF_zero {s:Scp} {lat:Nat} {n:Nd}:restF s lat (n,0)=compF s lat n:=by rw[restF,compF_eq];simp
def finF (s:Scp) (lat:Nat):List (Nd × Nat)→List Ins→Option (List Ins)
  | [],out=>some out
  | f::fs,out=>match restF s lat f with | none=>none | some l=>finF s lat fs (out++l)
theorem restF_kid {s:Scp} {lat:Nat} {n:Nd} {d:Nat} {fs:List (Nd × Nat)} {out:List Ins} (h:¬(n.kind=1∨n.kind=7)) (hd:d<n.kids.length) :
    finF s lat ((n,d)::fs) out=finF s lat ((n.kids[d],0)::(n,d+1)::fs) out:=by
  simp only[finF,restF_zero];rw[restF,if_neg h,restF,if_neg h,List.drop_eq_getElem_cons hd,compL];cases compF s lat n.kids[d] with
  | none=>rfl
  | some l =>
    cases compL s lat (n.kids.drop (d+1)) with
    | none=>rfl
    | some m=>simp only[Option.map_some,List.append_assoc]
theorem restF_end {s:Scp} {lat:Nat} {n:Nd} {d:Nat} {fs:List (Nd × Nat)} {out:List Ins} (h:¬(n.kind=1∨n.kind=7)) (hd:n.kids.length≤d) :
    finF s lat ((n,d)::fs) out=finF s lat fs (out++[opF n]):=by
  simp only[finF];rw[restF,if_neg h,List.drop_of_length_le hd,compL];rfl
theorem restF_leaf {s:Scp} {lat:Nat} {n:Nd} {d:Nat} {fs:List (Nd × Nat)} {out:List Ins} (h:n.kind=1∨n.kind=7) :
    finF s lat ((n,d)::fs) out=match leafF s lat n with | none=>none | some i=>finF s lat fs (out++[i]):=by
  simp only[finF];rw[restF,if_pos h];cases leafF s lat n<;>rfl
def mesF:List (Nd × Nat)→Nat
  | []=>0
  | f::fs=>2*cnts (f.1.kids.drop f.2)+1+mesF fs
theorem Nd.cnt_pos (n:Nd):1+cnts n.kids≤n.cnt:=by cases n;simp only[Nd.cnt,Nd.kids];omega
theorem mes_kid {n:Nd} {d:Nat} {fs:List (Nd × Nat)} (hd:d<n.kids.length):mesF ((n.kids[d],0)::(n,d+1)::fs)<mesF ((n,d)::fs):=by
  simp only[mesF,List.drop_zero]
  have:=Nd.cnt_pos n.kids[d]
  rw[List.drop_eq_getElem_cons hd,cnts];omega
theorem cnt_names (n:Nd):n.names.length≤n.cnt:=by cases n;simp only[Nd.cnt,Nd.names];omega
theorem cnts_mem {m:Nd}:∀{l:List Nd},m∈l→m.cnt≤cnts l
  | [],h=>by simp at h
  | n :: l, h => by
    simp only[cnts]
    rcases List.mem_cons.1 h with rfl | h
    · omega
    · have:=cnts_mem h;omega
theorem cnt_kid {n m:Nd} (h:m∈n.kids):m.cnt<n.cnt:=by
  have:=cnts_mem h
  have:=Nd.cnt_pos n;omega
theorem cnts_len:∀(l:List Nd),l.length≤cnts l
  | []=>by simp
  | n :: l => by
    have:=cnts_len l
    have:=Nd.cnt_pos n
    simp only[cnts,List.length_cons];omega
theorem cnt_kids (n:Nd):n.kids.length≤n.cnt:=by
  have:=cnts_len n.kids
  have:=Nd.cnt_pos n;omega
def Scp.ok (s:Scp):Prop:=s.lats.length≤100000∧s.vars.length≤100000∧∀l∈s.lats,l.shape.ok
theorem label_kids {n:Nd} (h:n.labelQ=true) (h1:¬(n.kind=1∨n.kind=7)):∀m∈n.kids,m.labelQ=true:=by
  rw[Nd.labelQ_eq,if_neg (fun e=>h1 (.inl e)),if_neg (fun e=>h1 (.inr e))] at h;split at h
  · simp only[Bool.and_eq_true,List.all_eq_true] at h;exact h.2
  · simp at h
theorem label_const {n:Nd} (h:n.labelQ=true) (h1:n.kind=7):n.kids.length=1:=by
  rw[Nd.labelQ_eq,if_neg (by rw[h1];decide),if_pos h1] at h;simp only[Bool.and_eq_true,decide_eq_true_eq] at h;omega
end Go.Am

namespace Go.Am
def stepE (s:Shp) (op:Int) (a b:Elm):Elm:=if op=3 then joinE s a b else meetE a b
def big7 (s:Shp):Bool:=decide (12<s.facs.length)||s.facs.any fun f=>decide (70<f.names.length)||f.names.any fun t=>decide (40<t.length)
def big13 (s:Scp):Bool:=decide (20<s.lats.length)||decide (80<s.vars.length)||(s.lats.any fun l=>big7 l.shape||decide (40<l.name.length))||s.vars.any fun v=>decide (40<v.name.length)
theorem big7_ok {s:Shp} (h:big7 s=false):s.ok:=by
  simp only[big7,Bool.or_eq_false_iff,List.any_eq_false,decide_eq_false_iff_not,Bool.not_eq_true] at h;refine⟨by omega,fun f hf=>?_⟩
  have:=(h.2 f hf).1;omega
theorem big13_ok {s:Scp} (h:big13 s=false):s.ok:=by
  simp only[big13,Bool.or_eq_false_iff,List.any_eq_false,decide_eq_false_iff_not,Bool.not_eq_true] at h;exact⟨by omega,by omega,fun l hl=>big7_ok (h.1.2 l hl).1⟩
end Go.Am

namespace Go.Am
structure Flt where
  cls:Int
  loc:Int
def Flt.zero:Flt:=⟨0,0⟩
theorem Flt.ext' {a b:Flt} (h:a.cls=b.cls) (k:a.loc=b.loc):a=b:=by cases a;cases b;simp only at h k;subst h;subst k;rfl
instance:DecidableEq Flt:=fun a b=>if h:a.cls=b.cls∧a.loc=b.loc then isTrue (Flt.ext' h.1 h.2) else isFalse fun e=>h ⟨e▸rfl,e▸rfl⟩
def Flt.enc (f:Flt):List V:=[.int .i64 f.cls,.int .i64 f.loc]
section
variable {f g:Flt} {n:Nat} {a b:V}
theorem Flt.r_len:f.enc.length=2:=rfl
theorem Flt.r_one:oneL f.enc=true:=rfl
theorem Flt.r_nol:nolL f.enc=true:=rfl
theorem Flt.r_er:eraseL f.enc=f.enc:=rfl
theorem Flt.r_lo:loL n f.enc=true:=rfl
theorem Flt.r_tk:takeN 2 f.enc=some f.enc:=rfl
theorem Flt.r_ld:ldC true 2 f.enc=some (.agg f.enc):=rfl
theorem Flt.r_has:hasN 2 f.enc=true:=rfl
theorem Flt.r_ov:over g.enc f.enc=f.enc:=rfl
theorem Flt.r_ov2:over [a,b] f.enc=f.enc:=rfl
theorem Flt.r_c:ldC false 1 f.enc=some (.int .i64 f.cls):=rfl
theorem Flt.r_p:ldC false 1 (f.enc.drop 1)=some (.int .i64 f.loc):=rfl
theorem Flt.r_eq:eqC [1,1] f.enc g.enc=some (decide (f=g)):=by
  rw[Flt.enc,Flt.enc,eqC_int,eqC_int,eqC_nil,andM_some,andM_some];congr 1;rw[Bool.and_true,←Bool.decide_and];exact decide_eq_decide.2 ⟨fun h=>Flt.ext' h.1 h.2,fun h=>h▸⟨rfl,rfl⟩⟩
def Flt.rec_:=And.intro @Flt.r_len <| And.intro @Flt.r_one <| And.intro @Flt.r_nol <| And.intro @Flt.r_er <| And.intro @Flt.r_lo <| And.intro @Flt.r_tk <| And.intro @Flt.r_ld <| And.intro @Flt.r_has <| And.intro @Flt.r_ov <| And.intro @Flt.r_ov2 <| And.intro @Flt.r_c <| And.intro @Flt.r_p @Flt.r_eq
end
def lessF (best f:Flt):Bool:=decide (best.cls=0)||decide (f.cls<best.cls)||(decide (f.cls=best.cls)&&decide (f.loc<best.loc))
def bestF (best f:Flt):Flt:=if f.cls=0 then best else if lessF best f then f else best
def leastF (l:List Flt):Flt:=l.foldl bestF .zero
def leF (a b:Flt):Prop:=a.cls<b.cls∨(a.cls=b.cls∧a.loc≤b.loc)
theorem leF_refl (a:Flt):leF a a:=.inr ⟨rfl,Int.le_refl _⟩
theorem leF_trans {a b c:Flt} (h:leF a b) (k:leF b c):leF a c:=by unfold leF at *;omega
theorem least_spec:∀(l:List Flt) (o:Flt),(l.foldl bestF o=o∨(l.foldl bestF o∈l∧(l.foldl bestF o).cls≠0))∧(o.cls≠0→(l.foldl bestF o).cls≠0∧leF (l.foldl bestF o) o)∧∀f∈l,f.cls≠0→(l.foldl bestF o).cls≠0∧leF (l.foldl bestF o) f
  | [],o=>⟨.inl rfl,fun h=>⟨h,leF_refl o⟩,by simp⟩
  | f :: l, o => by
    obtain⟨h1,h2,h3⟩:=least_spec l (bestF o f);rw[List.foldl_cons];have hb:bestF o f=o∨(bestF o f=f∧f.cls≠0):=by
      unfold bestF
      by_cases h:f.cls=0
      · rw[if_pos h];exact .inl rfl
      · rw[if_neg h];split
        · exact .inr ⟨rfl,h⟩
        · exact .inl rfl
    have ho:o.cls≠0→(bestF o f).cls≠0∧leF (bestF o f) o:=fun h=>by
      unfold bestF
      by_cases hf:f.cls=0
      · rw[if_pos hf];exact⟨h,leF_refl o⟩
      · rw[if_neg hf];split
        · rename_i hl;refine⟨hf,?_⟩;simp only[lessF,Bool.or_eq_true,Bool.and_eq_true,decide_eq_true_eq] at hl;unfold leF;omega
        · exact⟨h,leF_refl o⟩
    have hf:f.cls≠0→(bestF o f).cls≠0∧leF (bestF o f) f:=fun h=>by
      unfold bestF;rw[if_neg h];split
      · exact⟨h,leF_refl f⟩
      · rename_i hl;simp only[lessF,Bool.or_eq_true,Bool.and_eq_true,decide_eq_true_eq] at hl;unfold leF;exact⟨by omega,by omega⟩
    refine⟨?_,fun h=>?_,fun g hg hc=>?_⟩
    · rcases h1 with h1 | ⟨h1,h1'⟩
      · rw[h1]
        rcases hb with hb | ⟨hb,hb'⟩
        · exact .inl hb
        · rw[hb];exact .inr ⟨by simp,hb'⟩
      · exact .inr ⟨by simp[h1],h1'⟩
    · obtain⟨k1,k2⟩:=ho h;obtain⟨k3,k4⟩:=h2 k1;exact⟨k3,leF_trans k4 k2⟩
    · rcases List.mem_cons.1 hg with rfl | hg
      · obtain⟨k1,k2⟩:=hf hc;obtain⟨k3,k4⟩:=h2 k1;exact⟨k3,leF_trans k4 k2⟩
      · exact h3 g hg hc
theorem least_none {a:List Flt} (h:(leastF a).cls=0):leastF a = .zero∧∀f∈a,f.cls=0:=by
  obtain⟨a1,_,a3⟩:=least_spec a .zero;refine⟨?_,fun f hf=>Classical.byContradiction fun hc=>(a3 f hf hc).1 h⟩
  rcases a1 with e | ⟨_,e⟩
  · exact e
  · exact absurd h e
theorem least_of_none {a:List Flt} (h:∀f∈a,f.cls=0):leastF a = .zero:=by
  rcases (least_spec a .zero).1 with e | ⟨e,e'⟩
  · exact e
  · exact absurd (h _ e) e'
theorem least_take {l:List Flt} {i:Nat} (hi:i<l.length):leastF (l.take (i+1))=bestF (leastF (l.take i)) l[i]:=by
  rw[leastF,List.take_succ_eq_append_getElem hi,List.foldl_append];rfl
end Go.Am

namespace Go.Am
section
variable {k x:Int} {m m' : List (List V)}
end
end Go.Am

namespace Go.Am
end Go.Am

namespace Go.Am
theorem findV_lt {l:List Vrb} {t:List UInt8} {k:Nat} (h:findV l t=some k):k<l.length:=by
  unfold findV at h;simpa using List.mem_of_find?_eq_some h
section
variable {s:Scp} {lat:Nat}
variable {v:List Elm}
end
end Go.Am

namespace Go.Am
section
variable {s:Shp} {op:Int} {P:Elm→Prop} (hc:∀a b,P a→P b→P (stepE s op a b)) (ha:∀a b c,P a→P b→P c→stepE s op (stepE s op a b) c=stepE s op a (stepE s op b c))
include hc ha
end
end Go.Am

namespace Go.Am
section
variable {r:Rl}
end
end Go.Am

namespace Go.Am
section
variable {r:Rl} {a b c w:B64}
end
section
variable {f:Fct} {a b c:B64}
end
section
variable {s:Shp} {a b c e:Elm}
end
section
variable {s:Scp} {lat:Nat} {v:List Elm}
end
end Go.Am

namespace Go.Am
structure Wht where
  lat:Int
  v:List Elm
  w:List Elm
def Wht.enc (x:Wht):List V:=[.int .i64 x.lat,.sl .no 8 (x.v.map Elm.enc),.sl .no 8 (x.w.map Elm.enc)]
section
variable {x:Wht} {n:Nat} {a b c:V}
theorem Wht.r_len:x.enc.length=3:=rfl
theorem Wht.r_one:oneL x.enc=true:=rfl
theorem Wht.r_nol:nolL x.enc=true:=rfl
theorem Wht.r_er:eraseL x.enc=x.enc:=rfl
theorem Wht.r_lo:loL n x.enc=true:=rfl
theorem Wht.r_tk:takeN 3 x.enc=some x.enc:=rfl
theorem Wht.r_ld:ldC true 3 x.enc=some (.agg x.enc):=rfl
theorem Wht.r_has:hasN 3 x.enc=true:=rfl
theorem Wht.r_ov:over [a,b,c] x.enc=x.enc:=rfl
theorem Wht.r_l:ldC false 1 x.enc=some (.int .i64 x.lat):=rfl
theorem Wht.r_v:ldC false 1 (x.enc.drop 1)=some (.sl .no 8 (x.v.map Elm.enc)):=rfl
theorem Wht.r_w:ldC false 1 (x.enc.drop 2)=some (.sl .no 8 (x.w.map Elm.enc)):=rfl
def Wht.rec_:=And.intro @Wht.r_len <| And.intro @Wht.r_one <| And.intro @Wht.r_nol <| And.intro @Wht.r_er <| And.intro @Wht.r_lo <| And.intro @Wht.r_tk <| And.intro @Wht.r_ld <| And.intro @Wht.r_has <| And.intro @Wht.r_ov <| And.intro @Wht.r_l <| And.intro @Wht.r_v @Wht.r_w
end
end Go.Am

namespace Go.Am
def FTo (v r:V):List V→List V→Prop
  | [],[]=>True
  | x::xs,y::ys=>(y=x∨(x=v∧y=r)∨y = .any)∧FTo v r xs ys
  | _,_=>False
theorem FTo.RL {E E' : Env} {v r:V} (hle:E.le E') (h:∀u,R E v u→R E' r u):∀{t t' : List V} {vs:List Value},FTo v r t t' → RL E t vs→RL E' t' vs
  | [],[],[],_,_=>by simp only[Go.Am.RL]
  | [],[],_::_,_,k=>by simp[Go.Am.RL] at k
  | [],_::_,_,k,_=>by simp[FTo] at k
  | _::_,[],_,k,_=>by simp[FTo] at k
  | _::_,_::_,[],_,k=>by simp[Go.Am.RL] at k
  | x :: xs, y :: ys, u :: us, k, k2 => by
    simp only[FTo] at k;simp only[Go.Am.RL] at k2 ⊢;refine⟨?_,FTo.RL hle h k.2 k2.2⟩
    rcases k.1 with rfl | ⟨rfl,rfl⟩ | rfl
    · exact R.mono _ hle k2.1
    · exact h _ k2.1
    · simp only[R]
theorem entT {α:Type} {F:Nat→α→St} {J:Nat→α→Prop} {t:List V} {l:List (List V)} {σ:Store} (n:Nat) (h:∀τ,σ.tip τ=none→∃x,J 0 x∧LTo τ n t (F 0 x).t∧l=(F 0 x).loc∧(F 0 x).out=σ.setTip τ n):CEnt F J ⟨t,l,σ⟩ :=
  (Upd.tokEnter (ι:={x // J 0 x}) (I:=fun x=>F 0 x.1) n fun τ hτ=>by
    obtain⟨x,h1,h2,h3,h4⟩:=h τ hτ;exact⟨⟨x,h1⟩,h2,h3,h4⟩).mono fun _ ⟨x,e⟩=>⟨x.1,x.2,e⟩
def LLTo (τ n:Nat):List (List V)→List (List V)→Prop
  | [],[]=>True
  | c::l,c' :: l' => LTo τ n c c' ∧ LLTo τ n l l'
  | _,_=>False
theorem LLTo.spec {τ n:Nat}:∀{l l' : List (List V)},LLTo τ n l l' → l.length=l'.length∧∀(i:Nat) c',l'[i]?=some c' → ∃c,l[i]?=some c∧LTo τ n c c'
  | [],[],_=>⟨rfl,fun i c' h=>by simp at h⟩
  | [],_::_,h=>h.elim
  | _::_,[],h=>h.elim
  | c :: l, c' :: l', h => by
    obtain⟨h1,h2⟩:=LLTo.spec h.2;refine⟨by simp[h1],fun i d hd=>?_⟩;cases i with
    | zero=>simp at hd;subst hd;exact⟨c,rfl,h.1⟩
    | succ i=>exact h2 i d (by simpa using hd)
theorem llto_nil {τ n:Nat}:LLTo τ n [] []=True:=rfl
theorem llto_cons {τ n:Nat} {c c' : List V} {l l' : List (List V)}:LLTo τ n (c::l) (c' :: l')=(LTo τ n c c' ∧ LLTo τ n l l'):=rfl
def llto:=And.intro @llto_nil @llto_cons
theorem entTL {α:Type} {F:Nat→α→St} {J:Nat→α→Prop} {t:List V} {l:List (List V)} {σ:Store} (n:Nat) (h:∀τ,σ.tip τ=none→∃x,J 0 x∧LTo τ n t (F 0 x).t∧LLTo τ n l (F 0 x).loc∧(F 0 x).out=σ.setTip τ n):CEnt F J ⟨t,l,σ⟩ :=
  Upd.tok n fun τ hτ=>by
    obtain⟨x,h1,h2,h3,h4⟩:=h τ hτ;obtain⟨k1,k2⟩:=h3.spec;exact⟨_,_,σ,h2,k1,k2,OTo.rfl,x,h1,by rw[←h4]⟩
theorem RAs_frz {E:Env} {b:Nat} {cs:List V} (hc:∀(j:Nat) x,cs[j]?=some x→∃v,E.w.cell? ⟨b,j,none⟩=some v∧(E.role b).com j∧R E x v) :
    ∀(xs:List V) (p:Nat),(∀(j:Nat) x,xs[j]?=some x→cs[p+j]?=some x)→oneL xs=true→RAs E xs b p
  | [],_,_,_=>by simp[RAs]
  | x :: xs, p, hp, ho => by
    simp only[oneL,Bool.and_eq_true] at ho;simp only[RAs];obtain⟨v,v1,v2,v3⟩:=hc p x (by have:=hp 0 x rfl;simpa using this);refine⟨⟨v,v1,v2,one_ok (E:=E) (xs:=[x]) (vs:=[v]) (by simp only[RL];exact⟨v3,trivial⟩) (by simp[oneL,ho.1]) v (by simp),v3⟩,RAs_frz hc xs (p+1) (fun j y hy=>?_) ho.2⟩
    have:=hp (j+1) y (by simpa using hy)
    rwa [show p+1+j=p+(j+1) by omega]
theorem oneL_app:∀{a b:List V},oneL (a++b)=(oneL a&&oneL b)
  | [],b=>by simp[oneL]
  | x::a,b=>by simp[oneL,oneL_app,Bool.and_assoc]
theorem REs_frz {E:Env} {b k:Nat} {cs:List V} (hc:∀(j:Nat) x,cs[j]?=some x→∃v,E.w.cell? ⟨b,j,none⟩=some v∧(E.role b).com j∧R E x v) :
    ∀(rows:List (List V)) (p:Nat),(∀(j:Nat) x,rows.flatten[j]?=some x→cs[p+j]?=some x)→oneL rows.flatten=true→(∀r∈rows,r.length=k)→REs E k rows b p
  | [],_,_,_,_=>by simp[REs]
  | r :: rows, p, hp, ho, hr => by
    rw[List.flatten_cons,oneL_app,Bool.and_eq_true] at ho;have hl:=hr r (by simp);simp only[REs];refine⟨hl,RAs_frz hc r p (fun j x hx=>?_) ho.1,REs_frz hc rows (p+k) (fun j x hx=>?_) ho.2 fun q hq=>hr q (by simp[hq])⟩
    · refine hp j x ?_;rw[List.flatten_cons,List.getElem?_append_left (List.getElem?_eq_some_iff.1 hx).1];exact hx
    · have:=hp (k+j) x (by rw[List.flatten_cons,List.getElem?_append_right (by omega),hl,Nat.add_sub_cancel_left];exact hx)
      rwa [show p+k+j=p+(k+j) by omega]
theorem Upd.frz {k:Nat} {v:V} {rows:List (List V)} {t t' : List V} {l:List (List V)} {σ:Store} {K:St→Prop} (h:Own σ k v rows) (h1:oneL rows.flatten=true) (ht:FTo v (.sl .no k rows) t t')
    (hk:∀σ',(∀σ0,OwnS σ0 σ v→σ0.sub σ')→K ⟨t',l,σ'⟩):Upd ⟨t,l,σ⟩ K:=by
  intro E a hs;obtain⟨ad,cap,rfl,hc,hr,hb⟩:=h
  rcases hb with h0 | ⟨b,cs,rfl,hbx,hl,htk⟩
  · have e:rows=[]:=List.eq_nil_of_length_eq_zero (by omega);subst e;refine⟨E,⟨t',l,σ⟩,rfl,Fr.refl E,⟨hs.ok,hs.okL,hs.defers,FTo.RL (Env.le.refl E) (fun u hu=>?_) ht hs.slot⟩,hk σ fun σ0 h=>h.sub⟩;simp only[R] at hu ⊢;subst hu;exact⟨_,_,rfl,hc,.inl trivial,trivial⟩
  · obtain⟨hf,hs',hcell⟩:=frz_spec hs hbx;refine⟨E.frz b,⟨t',l,σ.del b⟩,rfl,hf,⟨hs'.ok,hs'.okL,hs'.defers,FTo.RL (E:=E.frz b) (Env.le.refl _) (fun u hu=>?_) ht hs'.slot⟩,hk _ fun σ0 h=>⟨fun b' cs' hb' => ?_,fun t n hn=>h.sub.2.1 t n hn,h.sub.2.2⟩⟩
    · simp only[R] at hu ⊢;subst hu;refine⟨_,_,rfl,hc,.inr ⟨b,0,rfl,REs_frz (cs:=cs) hcell rows 0 (fun j x hx=>?_) h1 hr⟩,trivial⟩;rw[Nat.zero_add];rw[←htk,List.getElem?_take] at hx;split at hx
      · exact hx
      · simp at hx
    · have hne:b' ≠ b:=by
        rintro rfl;rw[h.new b' rfl] at hb';simp at hb'
      simp only[Store.del];rw[if_neg hne];exact h.sub.1 b' cs' hb'
def CutOf (σ:Store) (k:Nat) (v:V) (rows:List (List V)) (m:Nat) (v' : V):Prop :=
  ∃a cap,v' = .raw (.slice a (rows.length - m) cap)∧(rows.length - m=0∨∃b cs,ownB v=some b∧a=some ⟨b,m*k,none⟩∧σ.box b=some cs∧rows.length*k≤cs.length∧cs.take (rows.length*k)=rows.flatten)
theorem Own.cpy {σ:Store} {k m1 m2:Nat} {v v1 v2:V} {rows:List (List V)} {H:V→Store→Prop} (h:Own σ k v rows) (c1:CutOf σ k v rows m1 v1) (c2:CutOf σ k v rows m2 v2) (hm:m2≤m1) (hm1:m1≤rows.length) (ho:oneL rows.flatten=true)
    (hk:∀σ',Own σ' k v (rows.take m1++(rows.drop m2).take (rows.length - m1))→OwnF σ v σ' v→H (.int .i64 (rows.length - m1:Nat)) σ'):OQ.sem σ H (.cpy k) [v1,v2]:=by
  obtain⟨a1,cap1,rfl,d1⟩:=c1;obtain⟨a2,cap2,rfl,d2⟩:=c2;show ∃xs,CutAt σ a2 (Nat.min (rows.length - m2) (rows.length - m1)*k) xs∧CpyOk σ k a1 (Nat.min (rows.length - m2) (rows.length - m1)) xs H;have emin:Nat.min (rows.length - m2) (rows.length - m1)=rows.length - m1:=Nat.min_eq_right (by omega);rw[emin]
  by_cases hz:rows.length - m1=0
  · rw[hz];refine⟨[],.inl ⟨by simp,rfl⟩,fun _=>?_,fun e=>absurd rfl e⟩
    have:=hk σ (by rw[hz,List.take_of_length_le (by omega),List.take_zero,List.append_nil];exact h) OwnF.refl
    rw[hz] at this;exact this
  · obtain⟨a,cap,rfl,h1,h2,h3⟩:=h
    rcases d1 with d1 | ⟨b,cs,e1,rfl,hb,hl,htk⟩
    · exact absurd d1 hz
    rcases d2 with d2 | ⟨b',cs',e2,rfl,hb',hl',htk'⟩
    · exact absurd d2 (by omega)
    obtain rfl:b=b' := by rw[e1] at e2;exact Option.some.inj e2
    obtain rfl:cs=cs' := by rw[hb] at hb';exact Option.some.inj hb'
    rcases h3 with h3 | ⟨b3,cs3,rfl,h4,h5,h6⟩
    · exact absurd h3 (by omega)
    obtain rfl:b3=b:=by simpa [ownB] using e1
    obtain rfl:cs=cs3:=by rw[hb] at h4;exact Option.some.inj h4
    have hmk:(rows.length - m1)*k+m1*k=rows.length*k:=by rw[←Nat.add_mul];congr 1;omega
    have hmk2:m2*k≤m1*k:=Nat.mul_le_mul_right _ hm;have hfl:=flat_length h2;have e3:cs=rows.flatten++cs.drop (rows.length*k):=by rw[←h6];simp
    have hxs:(cs.drop (m2*k)).take ((rows.length - m1)*k)=((rows.drop m2).take (rows.length - m1)).flatten:=by
      have hdl:(rows.drop m2).flatten.length=(rows.length - m2)*k:=by rw[flat_length (k:=k) (fun r hr=>h2 r (List.mem_of_mem_drop hr)),List.length_drop]
      have hle:(rows.length - m1)*k≤(rows.length - m2)*k:=Nat.mul_le_mul_right _ (by omega);rw[e3,List.drop_append_of_le_length (by rw[hfl];omega),flatten_drop h2,List.take_append_of_le_length (by rw[hdl];exact hle),flatten_take (fun r hr=>h2 r (List.mem_of_mem_drop hr))]
    have hone:oneL ((rows.drop m2).take (rows.length - m1)).flatten=true:=by
      have hd:∀{q:List (List V)} {n:Nat},oneL q.flatten=true→oneL (q.take n).flatten=true∧oneL (q.drop n).flatten=true:=fun {q n} hq=>by
        rw[←List.take_append_drop n q,List.flatten_append,oneL_app,Bool.and_eq_true] at hq;exact hq
      exact(hd (hd ho).2).1
    have hxl:((rows.drop m2).take (rows.length - m1)).flatten.length=(rows.length - m1)*k:=by
      rw[flat_length (k:=k) (fun r hr=>h2 r (List.mem_of_mem_drop (List.mem_of_mem_take hr))),List.length_take,List.length_drop,Nat.min_eq_left (by omega)]
    refine⟨_,.inr ⟨b3,m2*k,cs,rfl,hb,by omega,rfl,by rw[hxs];exact hone⟩,fun e=>absurd e hz,fun _=>⟨b3,m1*k,cs,rfl,hb,by omega,?_⟩⟩;rw[hxs];have hend:=setAt_end (k:=k) (n:=m1*k) (cs:=cs) (xs:=((rows.drop m2).take (rows.length - m1)).flatten) (ys:=(rows.take m1).flatten)
      (by rw[e3,List.take_append_of_le_length (by rw[hfl];omega),flatten_take h2]) (by rw[hxl];omega) (by rw[flat_length (k:=k) (fun r hr=>h2 r (List.mem_of_mem_take hr)),List.length_take,Nat.min_eq_left hm1])
    have hrl:(rows.take m1++(rows.drop m2).take (rows.length - m1)).length=rows.length:=by simp;omega
    refine hk _ ⟨some ⟨b3,0,Option.none⟩,cap,by rw[hrl],by rw[hrl];exact h1,fun r hr=>?_,.inr ⟨b3,_,rfl,Store.set_same _ _ _,by rw[hend.2];exact h5,?_⟩⟩ ⟨fun b' cs' hb' hne=>?_,rfl,fun b' hb' => .inl hb',rfl⟩
    · rcases List.mem_append.1 hr with hr | hr
      · exact h2 r (List.mem_of_mem_take hr)
      · exact h2 r (List.mem_of_mem_drop (List.mem_of_mem_take hr))
    · have e5:=hend.1;rw[hxl] at e5;rw[hrl,←hmk,Nat.add_comm,e5,List.flatten_append]
    · have:b' ≠ b3:=by rintro rfl;exact hne rfl
      rw[Store.set_other _ _ this];exact hb'
end Go.Am

namespace Go.Am
theorem Own.lenL {σ:Store} {k:Nat} {v:V} {rows:List (List V)} {K:V→Prop} (h:Own σ k v rows) (hk:K (.int .i64 rows.length)):lenL v K:=by
  obtain⟨a,cap,rfl,_⟩:=h;exact hk
theorem Own.idxL {σ:Store} {k:Nat} {v:V} {rows:List (List V)} {K:V→Prop} {ik:IntKind} {j:Nat} {c:List V} (h:Own σ k v rows) (hj:rows[j]?=some c)
    (hk:∀b cs rest,ownB v=some b→σ.box b=some cs→cs.drop (j*k)=c++rest→K (.ptr (.out b) (j*k))):idxL k v (.int ik (j:Nat)) K:=by
  have:=h.idx (H:=fun u _=>K u) (i:=ik) (j:=(j:Nat)) (by omega) (by simpa using hj) (fun b cs rest h1 h2 h3=>by
    have:=hk b cs rest h1 h2 (by simpa using h3)
    simpa using this)
  obtain⟨a,cap,rfl,h1,h2,h3⟩:=h;have hlt:=(List.getElem?_eq_some_iff.1 hj).1
  rcases h3 with h3 | ⟨b,cs,rfl,h4,h5,h6⟩
  · omega
  · exact⟨ik,j,rfl,this.1,this.2.1,this.2.2⟩
end Go.Am

namespace Go.Am
section
variable {r:Rl} {i j k:Nat}
end
section
variable {f:Fct} {a b a' b' : B64}
end
section
variable {s:Shp} {a b a' b' : Elm}
end
section
variable {s:Scp} {lat:Nat} {v w:List Elm}
end
end Go.Am

namespace Go.Am
def delta (l:List Tok) (i:Nat):Int:=(if closing (kindAt l i)≠0 then 1 else 0) - (if closesZ (kindAt l i)=true then 1 else 0)
theorem partnerF_succ {l:List Tok} {x n i:Nat} {d:Int}:partnerF l x (n+1) i d=if d+delta l i=0 then i else partnerF l x n (i+1) (d+delta l i):=by
  simp only[partnerF,delta];have e:d+(if closing (kindAt l i)≠0 then 1 else 0) - (if closesZ (kindAt l i)=true then 1 else 0)=d+((if closing (kindAt l i)≠0 then 1 else 0) - (if closesZ (kindAt l i)=true then 1 else 0)):=by omega
  rw[e];rfl
theorem delta_ge (l:List Tok) (i:Nat) : -1≤delta l i:=by unfold delta;split<;>split<;>omega
theorem delta_open {l:List Tok} {i:Nat} (h:closing (kindAt l i)≠0):delta l i=1:=by
  unfold delta
  have:closesZ (kindAt l i)=false:=by
    unfold closing at h;unfold closesZ;split at h
    · rename_i hk;rw[hk];decide
    · split at h
      · rename_i hk;rcases hk with hk | hk<;>rw[hk]<;>decide
      · exact absurd rfl h
  rw[this,if_pos h];simp
theorem partnerF_rng {l:List Tok} {x:Nat}:∀(n i:Nat) (d:Int),partnerF l x n i d=x∨i≤partnerF l x n i d
  | 0,_,_=>.inl rfl
  | n + 1, i, d => by
    rw[partnerF_succ];split
    · exact .inr (Nat.le_refl _)
    · rcases partnerF_rng n (i+1) (d+delta l i) with h | h
      · exact .inl h
      · exact .inr (by omega)
theorem scan {l:List Tok} {x j:Nat}:∀(n i:Nat) (d:Int),i+n=l.length→1≤d→x<i→i≤j→j<partnerF l x n i d→∃d',1≤d' ∧ partnerF l x n i d=partnerF l x (l.length - j) j d'
  | 0,i,d,_,_,hx,hj,h=>by simp only[partnerF] at h;omega
  | n + 1, i, d, hl, hd, hx, hj, h => by
    by_cases hij:i=j
    · subst hij;exact⟨d,hd,by rw[show l.length - i=n+1 by omega]⟩
    rw[partnerF_succ] at h ⊢;split at h
    · omega
    · rename_i he;rw[if_neg he]
      have:=delta_ge l i
      exact scan n (i+1) _ (by omega) (by omega) (by omega) (by omega) h
theorem less {l:List Tok} {x y:Nat}:∀(n p:Nat) (a b:Int),1≤a→a<b→y<p→x<p→p≤partnerF l x n p b→partnerF l y n p a<partnerF l x n p b
  | 0,p,a,b,_,_,_,hx,h=>by simp only[partnerF] at h;omega
  | n + 1, p, a, b, ha, hb, hy, hx, h => by
    have hd:=delta_ge l p;simp only[partnerF_succ] at h ⊢;rw[if_neg (show ¬b+delta l p=0 by omega)] at h ⊢;have h2:p+1≤partnerF l x n (p+1) (b+delta l p):=by rcases partnerF_rng (l:=l) (x:=x) n (p+1) (b+delta l p) with e | e<;>omega
    split
    · omega
    · exact less n (p+1) _ _ (by omega) (by omega) (by omega) (by omega) h2
theorem nest {l:List Tok} {i j:Nat} (hi:closing (kindAt l i)≠0) (hj:closing (kindAt l j)≠0) (h1:i<j) (h2:j<partner l i) (hl:i<l.length):partner l j<partner l i:=by
  have hp:=partner_ge hl;have e:partner l i=partnerF l i (l.length - i - 1) (i+1) 1:=by
    unfold partner;rw[show l.length - i=(l.length - i - 1)+1 by omega,partnerF_succ,delta_open hi];simp
  rw[e] at h2;obtain⟨d,hd,e2⟩:=scan (l.length - i - 1) (i+1) 1 (by omega) (by omega) (by omega) (by omega) h2;have e3:partnerF l i (l.length - j) j d=partnerF l i (l.length - j - 1) (j+1) (d+1):=by
    rw[show l.length - j=(l.length - j - 1)+1 by omega,partnerF_succ,delta_open hj,if_neg (by omega)];simp
  have e4:partner l j=partnerF l j (l.length - j - 1) (j+1) 1:=by
    unfold partner;rw[show l.length - j=(l.length - j - 1)+1 by omega,partnerF_succ,delta_open hj];simp
  rw[e,e2,e3,e4];rw[e2,e3] at h2;exact less _ _ _ _ (by omega) (by omega) (by omega) (by omega) (by rcases partnerF_rng (l:=l) (x:=i) (l.length - j - 1) (j+1) (d+1) with e | e<;>omega)
def Within (l:List Tok) (i to:Nat):Prop:=∀j,i≤j→j<to→closing (kindAt l j)≠0→partner l j<to
theorem treesF_many {l:List Tok}:∀(n i to:Nat),to≤l.length→Within l i to→manys (treesF l n i to)≤to - i
  | 0,_,_,_,_=>by simp[treesF,manys]
  | n + 1, i, to, hl, hw => by
    rw[treesF];split
    · rename_i hi;split
      · rename_i hc;have hp:=partner_ge (l:=l) (i:=i) (by omega);have hq:=hw i (Nat.le_refl _) hi hc;have h1:=treesF_many n (i+1) (partner l i) (by omega) fun j a b c=>nest hc c (by omega) b (by omega)
        have h2:=treesF_many n (partner l i+1) to hl fun j a b c=>hw j (by omega) b c
        simp only[manys,Tree.many];omega
      · have h2:=treesF_many n (i+1) to hl fun j a b c=>hw j (by omega) b c
        simp only[manys,Tree.many];omega
    · simp[manys]
def TokOk (t:Tok):Prop:=(t.kind=97∧nameR t.text=true)∨(t.kind≠97∧t.text=[UInt8.ofNat t.kind.toNat])
theorem lexF_ok:∀(n p:Nat) (r:List UInt8) (acc:List Tok),(∀t∈acc,TokOk t)→∀t∈(lexF n p r acc).1,TokOk t
  | 0,_,r,acc,h=>by cases r<;>simpa [lexF] using h
  | n+1,p,[],acc,h=>by simpa [lexF] using h
  | n + 1, p, c :: r, acc, h => by
    simp only[lexF];split
    · exact h
    · split
      · rename_i hr;refine lexF_ok n _ _ _ fun t ht=>?_
        rcases List.mem_append.1 ht with ht | ht
        · exact h t ht
        · rw[List.mem_singleton.1 ht];exact .inl ⟨rfl,hr.2⟩
      · split
        · rename_i hs;refine lexF_ok n _ _ _ fun t ht=>?_
          rcases List.mem_append.1 ht with ht | ht
          · exact h t ht
          · rw[List.mem_singleton.1 ht];refine .inr ⟨fun e=>?_,?_⟩
            · simp only at e;rw[e] at hs;revert hs;decide
            · simp
        · split
          · exact lexF_ok n _ _ _ h
          · simp
mutual
def Tree.Good:Tree→Prop
  | .mk t ks _=>TokOk t∧(closing t.kind=0→ks=[])∧Goods ks
def Goods:List Tree→Prop
  | []=>True
  | t::ts=>t.Good∧Goods ts
end
theorem goods_append:∀{a b:List Tree},Goods (a++b)↔Goods a∧Goods b
  | [],b=>by simp[Goods]
  | t::ts,b=>by simp only[List.cons_append,Goods,goods_append (a:=ts),and_assoc]
theorem good_eq (t:Tree):t.Good↔TokOk t.tok∧(closing t.tok.kind=0→t.kids=[])∧Goods t.kids:=by cases t;simp only[Tree.Good,Tree.tok,Tree.kids]
theorem treesF_good {l:List Tok} (h:∀t∈l,TokOk t):∀(n i to:Nat),to≤l.length→Goods (treesF l n i to)
  | 0,_,_,_=>by simp[treesF,Goods]
  | n + 1, i, to, hl => by
    rw[treesF];split
    · rename_i hi;have ht:TokOk (tokN l i):=by
        have e:tokN l i=l[i]:=by simp[tokN,List.getElem?_eq_getElem (show i<l.length by omega)]
        rw[e];exact h _ (List.getElem_mem _)
      have hk:(tokN l i).kind=kindAt l i:=by simp only[tokN,kindAt];split<;>rfl
      split
      · rename_i hc;have hp:=partner_ge (l:=l) (i:=i) (by omega);simp only[Goods,Tree.Good];exact⟨⟨ht,fun e=>absurd (hk▸e) hc,treesF_good h n _ _ (by omega)⟩,treesF_good h n _ _ hl⟩
      · simp only[Goods,Tree.Good];exact⟨⟨ht,fun _=>trivial,trivial⟩,treesF_good h n _ _ hl⟩
    · exact trivial
theorem line_good (s:List UInt8):Goods (treeR (lexR s).1).1:=by
  unfold treeR;split
  · exact trivial
  · exact treesF_good (lexF_ok _ _ _ _ (by simp)) _ _ _ (Nat.le_refl _)
theorem line_many (s:List UInt8):manys (treeR (lexR s).1).1≤s.length:=by
  have hl:=lexR_len s;unfold treeR;split
  · simp[manys]
  · have:=treesF_many (l:=(lexR s).1) (lexR s).1.length 0 (lexR s).1.length (Nat.le_refl _) fun j _ hj _=>(partner_ge hj).2
    simp only;omega
theorem tok_len {t:Tok} (h:TokOk t):t.text.length≤16:=by
  rcases h with ⟨_,h⟩ | ⟨_,h⟩
  · unfold nameR at h;simp only[Bool.and_eq_true,decide_eq_true_eq] at h;exact h.1
  · rw[h];simp
end Go.Am

namespace Go.Am
structure Eats (r r' : Rdr) (seg:List Tree):Prop where
  ex:∃pre post,r.l=pre++seg++post∧r.at_=(pre.length:Nat)∧r'.at_=((pre++seg).length:Nat)
  l:r'.l=r.l
  b:r.bad=none
  b' : r'.bad=none
theorem Eats.trans {r r' r'' : Rdr} {a b:List Tree} (h:Eats r r' a) (k:Eats r' r'' b):Eats r r'' (a++b):=by
  obtain⟨pre,post,e1,e2,e3⟩:=h.ex;obtain⟨pre',post',f1,f2,f3⟩:=k.ex;refine⟨⟨pre,post',?_,e2,?_⟩,k.l.trans h.l,h.b,k.b'⟩
  · have hl:(pre++a).length=pre'.length:=by omega
    have:pre++a++post=pre' ++ (b++post'):=by rw[←e1,←h.l,f1,List.append_assoc]
    obtain⟨g1,g2⟩:=List.append_inj this hl;rw[e1,g2];simp
  · rw[f3];have hl:(pre++a).length=pre'.length:=by omega
    simp only[List.length_append] at hl ⊢;omega
theorem Eats.good {r r' : Rdr} {a:List Tree} (h:Eats r r' a) (hg:Goods r.l):Goods a:=by
  obtain⟨pre,post,e1,_,_⟩:=h.ex;rw[e1,goods_append,goods_append] at hg;exact hg.1.2
theorem take_eats {r:Rdr} {k:Int} (h:(r.take k).2.bad=none):Eats r (r.take k).2 [(r.take k).1]∧(r.take k).1.tok.kind=k:=by
  rcases r.take_at k with ⟨hs,h1,h2,h3,h4⟩ | ⟨_,_,h1⟩
  · have hs' := hs;simp only[Rdr.sees,Rdr.ok,isK,Bool.and_eq_true,decide_eq_true_eq,Option.isNone_iff_eq_none] at hs';have hlt:r.at_.toNat<r.l.length:=by omega
    have e:(r.take k).1=r.l[r.at_.toNat]:=by simp[Rdr.take,hs,List.getD,List.getElem?_eq_getElem hlt]
    refine⟨⟨⟨r.l.take r.at_.toNat,r.l.drop (r.at_.toNat+1),?_,?_,?_⟩,r.take_l k,hs'.1,h2⟩,?_⟩
    · rw[e,List.append_assoc,List.singleton_append,←List.drop_eq_getElem_cons hlt,List.take_append_drop]
    · rw[List.length_take];omega
    · rw[h1,List.length_append,List.length_take,List.length_singleton];omega
    · rw[e]
      have:=hs'.2.2
      rw[List.getElem?_eq_getElem hlt] at this;simpa using this
  · exact absurd h h1
def szs (l:List Tree):Nat:=26*manys l
theorem szs_append (a b:List Tree):szs (a++b)=szs a+szs b:=by simp only[szs,manys_append];omega
theorem szs_one (t:Tree):szs [t]=26+szs t.kids:=by simp only[szs,manys,many_eq];omega
theorem textF_sign {t:Tok} (ht:t.kind≠97):∀(a:List Tok) (k:Option Int) (b:List Tok),textF k (a++t::b)=textF k a++t.text++textF none b
  | [], k, b => by
    simp only[List.nil_append,textF,ht,and_false,if_false];cases b with
    | nil=>rfl
    | cons u us=>simp only[textF,Option.some.injEq,ht,false_and,if_false,reduceCtorEq]
  | x::xs,k,b=>by simp only[List.cons_append,textF,textF_sign ht xs (some x.kind) b,List.append_assoc]
theorem textR_sign {t:Tok} (ht:t.kind≠97) (a b:List Tok):textR (a++t::b)=textR a++t.text++textR b:=textF_sign ht a none b
theorem flats_append:∀a b:List Tree,flats (a++b)=flats a++flats b
  | [],b=>rfl
  | t::ts,b=>by simp only[List.cons_append,flats,flats_append ts b,List.append_assoc]
theorem flats_one (t:Tree):flats [t]=t.tok::(if closing t.tok.kind≠0 then flats t.kids++[⟨closing t.tok.kind,[UInt8.ofNat (closing t.tok.kind).toNat],t.fin⟩] else []):=by
  cases t;simp only[flats,Tree.flat,List.append_nil,Tree.tok,Tree.kids,Tree.fin];rfl
theorem text_mid {t:Tree} (hk:t.tok.kind≠97) (hc:closing t.tok.kind=0) (a b:List Tree):textR (flats (a++[t]++b))=textR (flats a)++t.tok.text++textR (flats b):=by
  rw[flats_append,flats_append,flats_one,hc];simp only[ne_eq,not_true_eq_false,if_false,List.append_assoc,List.singleton_append];rw[←List.append_assoc (textR (flats a))];exact textR_sign hk _ _
theorem text_name {t:Tree} (hk:t.tok.kind=97):textR (flats [t])=t.tok.text:=by
  rw[flats_one,hk,show closing 97=0 from rfl];simp[textR,textF]
theorem text_in {t:Tree} (hc:closing t.tok.kind≠0):textR (flats [t])=t.tok.text++textR (flats t.kids)++[UInt8.ofNat (closing t.tok.kind).toNat]:=by
  have hk:t.tok.kind≠97:=fun e=>hc (by rw[e];rfl)
  have hk2:closing t.tok.kind≠97:=by unfold closing;split;omega;split;omega;omega
  rw[flats_one,if_pos hc];have h1:=textR_sign hk [] (flats t.kids++[⟨closing t.tok.kind,[UInt8.ofNat (closing t.tok.kind).toNat],t.fin⟩]);rw[List.nil_append] at h1;rw[h1,textR_sign hk2];simp[textR,textF]
def Sound {β:Type} (one:Rdr→β × Rdr) (T:β→List UInt8) (Q:β→Prop) (S:β→Nat):Prop :=
  ∀r,Goods r.l→(one r).2.bad=none→∃seg,Eats r (one r).2 seg∧textR (flats seg)=T (one r).1∧Q (one r).1∧S (one r).1≤szs seg
theorem goG_bad {β:Type} {step:Rdr × List β→Rdr × List β}:∀{n:Nat} {a:Rdr × List β},(goG step n a).1.bad=none→a.1.bad=none
  | 0,a,h=>h
  | n + 1, a, h => by
    rw[goG] at h;split at h
    · rename_i hs;simp only[Rdr.sees,Rdr.ok,Bool.and_eq_true,Option.isNone_iff_eq_none] at hs;exact hs.1
    · exact h
section
variable {β:Type} {one:Rdr→β × Rdr} {T:β→List UInt8} {Q:β→Prop} {S:β→Nat}
structure Has (T:β→List UInt8) (Q:β→Prop) (S:β→Nat) (seg:List Tree) (xs:List β):Prop where
  t:textR (flats seg)=joinC (xs.map T)
  q:∀x∈xs,Q x
  s:(xs.map S).sum≤szs seg
  n:0<xs.length
theorem goG_sound (hs:Sound one T Q S) {r:Rdr} (hg:Goods r.l):∀{n:Nat} {a:Rdr × List β} {seg:List Tree},Eats r a.1 seg→Has T Q S seg a.2→(goG (oStep one) n a).1.bad=none →
    ∃seg',Eats r (goG (oStep one) n a).1 seg' ∧ Has T Q S seg' (goG (oStep one) n a).2
  | 0,a,seg,h,k,_=>⟨seg,h,k⟩
  | n + 1, a, seg, h, k, hb => by
    rw[goG] at hb ⊢;split
    · rename_i hsee;rw[if_pos hsee] at hb;have hb1:=goG_bad hb;have hgl:Goods (a.1.take 44).2.l:=by rw[Rdr.take_l,h.l];exact hg
      obtain⟨sg,e1,e2,e3,e4⟩:=hs (a.1.take 44).2 hgl hb1;obtain⟨t1,t2⟩:=take_eats e1.b;refine goG_sound hs hg (seg:=seg++[(a.1.take 44).1]++sg) ?_ ?_ hb
      · exact(h.trans t1).trans e1
      · have hgood:Goods [(a.1.take 44).1]:=t1.good (by rw[h.l];exact hg);have hok:=((good_eq _).1 hgood.1).1;have htx:(a.1.take 44).1.tok.text=[44]:=by
          rcases hok with ⟨h1,_⟩ | ⟨_,h1⟩
          · omega
          · rw[h1,t2];rfl
        refine⟨?_,?_,?_,?_⟩
        · rw[text_mid (by rw[t2];decide) (by rw[t2];rfl),k.t,e2,htx];simp only[oStep,List.map_append,List.map_cons,List.map_nil];rw[joinC_snoc,if_pos (by simpa using k.n)]
        · intro x hx
          rcases List.mem_append.1 hx with hx | hx
          · exact k.q x hx
          · rw[List.mem_singleton.1 hx];exact e3
        · have:=k.s
          simp only[oStep,List.map_append,List.map_cons,List.map_nil,List.sum_append,List.sum_cons,List.sum_nil,szs_append];omega
        · simp[oStep]
    · exact⟨seg,h,k⟩
theorem some_sound (hs:Sound one T Q S) {r:Rdr} (hg:Goods r.l) (hb:(someG (oStep one) r).1.bad=none):∃seg,Eats r (someG (oStep one) r).1 seg∧Has T Q S seg (someG (oStep one) r).2:=by
  unfold someG at hb ⊢;have hb1:=goG_bad hb;obtain⟨sg,e1,e2,e3,e4⟩:=hs r hg hb1;refine goG_sound hs hg e1 ?_ hb;refine⟨?_,?_,?_,?_⟩
  · simp only[oStep,List.nil_append,List.map_cons,List.map_nil,joinC,List.flatMap_nil,List.append_nil];exact e2
  · intro x hx;simp only[oStep,List.nil_append,List.mem_singleton] at hx;rw[hx];exact e3
  · simp only[oStep,List.nil_append,List.map_cons,List.map_nil,List.sum_cons,List.sum_nil];omega
  · simp[oStep]
theorem close_ok {i:Rdr} (h:i.close.bad=none):i.bad=none∧¬i.at_<i.l.length:=by
  unfold Rdr.close at h;split at h
  · exact absurd h i.fail_ok
  · rename_i hc;refine⟨h,fun hl=>hc ⟨by simp[Rdr.ok,h],hl⟩⟩
theorem all_in {t:Tree} {i:Rdr} {seg:List Tree} (h:Eats t.inner i seg) (hc:i.close.bad=none):seg=t.kids:=by
  obtain⟨pre,post,e1,e2,e3⟩:=h.ex;obtain⟨_,h2⟩:=close_ok hc;have hp:pre=[]:=by
    have:t.inner.at_=0:=rfl
    rw[this] at e2;exact List.length_eq_zero_iff.1 (by omega)
  subst hp;have hq:post=[]:=by
    rw[h.l,e3,e1] at h2;simp only[List.nil_append,List.length_append] at h2;exact List.length_eq_zero_iff.1 (by omega)
  subst hq;simpa [Tree.inner] using e1.symm
theorem bracket_sound (hs:Sound one T Q S) {k:Int} {e:Bool} {r:Rdr} (hg:Goods r.l) (hb:(r.bracket (oStep one) k e).2.bad=none) :
    ∃t,Eats r (r.bracket (oStep one) k e).2 [t]∧t.tok.kind=k∧textR (flats t.kids)=joinC ((r.bracket (oStep one) k e).1.1.map T)∧(∀x∈(r.bracket (oStep one) k e).1.1,Q x)∧((r.bracket (oStep one) k e).1.1.map S).sum≤szs t.kids ∧
      (e=false→0<(r.bracket (oStep one) k e).1.1.length):=by
  unfold Rdr.bracket at hb ⊢;split
  · rename_i hok;rw[if_pos hok] at hb;have hb1:(r.take k).2.bad=none:=by simpa [Rdr.ok] using hok
    obtain⟨t1,t2⟩:=take_eats hb1;have hgood:(r.take k).1.Good:=(t1.good hg).1;have hgk:Goods (r.take k).1.kids:=((good_eq _).1 hgood).2.2;have hb2:(Rdr.inside (oStep one) e (r.take k).1).1.close.bad=none:=hb;refine⟨(r.take k).1,⟨t1.ex,t1.l,t1.b,hb⟩,t2,?_⟩;simp only;generalize (r.take k).1=t at *;unfold Rdr.inside at hb2 ⊢;split
    · rename_i he;have hk:t.kids=[]:=List.length_eq_zero_iff.1 he.2;rw[hk];refine⟨rfl,by simp,by simp,fun h=>?_⟩;rw[h] at he;simp at he
    · rename_i he;rw[if_neg he] at hb2;obtain⟨seg,e1,e2⟩:=some_sound hs (r:=t.inner) hgk (close_ok hb2).1;have hseg:=all_in e1 hb2;subst hseg;exact⟨e2.t,e2.q,e2.s,fun _=>e2.n⟩
  · rename_i hok;rw[if_neg hok] at hb;exact absurd hb (by simpa [Rdr.ok] using hok)
end
end Go.Am
