/-
  Part 3 of the proof of JudgeShiftsUptoCardSaid: a logic over the model, the forms of the functions that the law reaches, and what they compute.
-/
import Derived.IntWalk
import Derived.Test.YtkeidlpchmepkaaGreatDoorShifts2
set_option linter.unusedVariables false
set_option linter.unusedSimpArgs false
set_option linter.defProp false
set_option linter.unusedSectionVars false
namespace Go.Am
section
variable {P:Program} {d:Option Nat} {r:List AO} {K:St→Prop} {t:List V} {l:List (List V)} {σ:ab} {x y z:X} {Q:Exit→St→Prop} {st:St} {a b:AC}
theorem aoS:vc P .skip Q st=Q .normal st:=rfl
theorem aoO {o:List AO}:vc P (.aa o) Q st=bq P o (Q .normal) st:=rfl
theorem aoT:vc P (.lH a) Q st=aZ st (vc P a Q):=rfl
theorem aoK {o:List (AO × List Nat)}:vc P (.draw o) Q ⟨t,l,σ⟩=bE P o [(l,σ)] [] (Q .normal) ⟨t,l,σ⟩:=rfl
theorem aoR:vc P (.seq a b) Q st=vc P a (y7 (vc P b Q) Q) st:=rfl
def yV (P:Program) (v:V) (a b:AC) (Q:Exit→St→Prop) (st:St):Prop:=match v with | .bool c=>(c=true→vc P a Q st)∧(c=false→vc P b Q st) | _=>False
theorem aoJ:vc P (.cond x a b) Q st=yV P (ev st x) a b Q st:=rfl
theorem aoH:yV P (.bool true) a b Q st=vc P a Q st:=by simp[yV]
theorem aoG:yV P (.bool false) a b Q st=vc P b Q st:=by simp[yV]
theorem fk {c:Bool} (h1:c=true→vc P a Q st) (h2:c=false→vc P b Q st):yV P (.bool c) a b Q st:=⟨h1,h2⟩
theorem Ke {l:List AO} {x:X} {dI dN dM out nxt:Nat} {y:AC} (h:bq P l (fun ky=>∃s:List UInt8,ev ky x = .str s∧(∀c∈s,c.toNat<128)∧∃I:Nat→Nat→St→Prop,
      (∀b,aZ (ky.put (some dI) (.raw (.pointer (some ⟨b,0,none⟩)))) (I b 0)) ∧
      (∀b i al,I b i al → al.t.getD dI .any = .raw (.pointer (some ⟨b,0,none⟩))∧dN<al.t.length∧dM<al.t.length) ∧
      (∀b i c al,s[i]?=some c→I b i al → vc P y (oc nxt (sV out (I b (i+1)) Q)) ((al.put (some dN) (.aT [.bool true,.int .i64 (i:Nat),.int .i32 (c.toNat:Nat)])).put (some dM) (.bool true))) ∧
      (∀b al,I b s.length al → Q .normal ((al.put (some dN) (.aT [.bool false])).put (some dM) (.bool false)))) st):vc P (.yI l x dI dN dM out nxt y) Q st:=h
theorem alL {out:Nat} {J:St→Prop}:sV out J Q .normal st=aZ st J:=rfl
theorem alK {out id:Nat} {J:St→Prop}:sV out J Q (.exit id) st=if id=out then Q .normal st else Q (.exit id) st:=rfl
theorem alM {out:Nat} {J:St→Prop}:sV out J Q .ret st=Q .ret st:=rfl
theorem aoQ:vc P (.scope a) Q st=vc P a (wT Q) st:=rfl
theorem ai9:wT Q .normal st=Q .normal st:=rfl
theorem ai8 {id:Nat}:wT Q (.exit id) st=Q (.exit id) st:=rfl
theorem ai_:wT Q .ret st=Q .ret st:=rfl
theorem aoI {id:Nat}:vc P (.block id a) Q st=vc P a (oc id Q) st:=rfl
theorem aoM {id:Nat}:vc P (.exit id) Q st=Q (.exit id) st:=rfl
theorem aoP:vc P .ret Q st=Q .ret st:=rfl
theorem W6:y7 K Q .normal st=K st:=rfl
theorem W5 {id:Nat}:y7 K Q (.exit id) st=Q (.exit id) st:=rfl
theorem W7:y7 K Q .ret st=Q .ret st:=rfl
theorem XB {id:Nat}:oc id Q .normal st=Q .normal st:=rfl
theorem XC {id:Nat}:oc id Q .ret st=Q .ret st:=rfl
theorem XA {id vL : Nat}:oc id Q (.exit vL) st=if vL = id then Q .normal st else Q (.exit vL) st:=rfl
theorem ait {ι:Type} {I:ι→St} {μ:ι→Nat} {n id:Nat}:uN I μ Q n (.exit id) st=Q (.exit id) st:=rfl
theorem aiv {ι:Type} {I:ι→St} {μ:ι→Nat} {n:Nat}:uN I μ Q n .ret st=Q .ret st:=rfl
theorem aiu {ι:Type} {I:ι→St} {μ:ι→Nat} {n:Nat}:uN I μ Q n .normal st=aZ st fun al => ∃j,al = I j∧μ j<n:=rfl
theorem jj {ι:Type} (I:ι→St) (μ:ι→Nat) (h0:aZ st fun al => ∃i,al = I i) (h:∀i,vc P a (uN I μ Q (μ i)) (I i)):vc P (.loop a) Q st:=⟨ι,I,μ,h0,h⟩
theorem amu {rs:List RV} {R' : V→ab→Prop}:Cb rs R' .ret st=opt ((pU st rs).map oV) (mB R' st):=rfl
theorem amt {rs:List RV} {R' : V→ab→Prop}:Cb rs R' .normal st=opt ((pU st rs).map oV) (mB R' st):=rfl
theorem akn {v:V} {K:V→Prop}:opt (some v) K=K v:=rfl
theorem am0:pU st []=some []:=rfl
def Pk (v:Option V) (l:Option (List V)):Option (List V):=v.bind fun x=>l.map (x::·)
theorem YT {v:V} {l:List V}:Pk (some v) (some l)=some (v::l):=rfl
theorem amZ {y:RV} {rs:List RV}:pU st (y::rs)=Pk (rv st y) (pU st rs):=rfl
theorem amY {n:Nat}:rv ⟨t,l,σ⟩ (.tmp n)=some (t.getD n .any):=rfl
theorem amX {n m:Nat} {g:Bool}:rv ⟨t,l,σ⟩ (.cell n g m)=jb ⟨t,l,σ⟩ g m (t.getD n .any):=rfl
theorem aj_ {v:V}:oV [v]=v:=rfl
theorem aj9:oV [] = .aT []:=rfl
theorem aj8 {u v:V} {l:List V}:oV (u::v::l) = .aT (u::v::l):=rfl
theorem aiI {v:List V} {f:List V→V}:Option.map f (some v)=some (f v):=rfl
theorem aF {R' : V→ab→Prop} {v:V} (h1:v.bS=true) {σ' : ab} (h2:σ'.sub σ) (h3:R' v.erase σ'):mB R' ⟨t,l,σ⟩ v:=⟨h1,σ',h2,h3⟩
theorem az {w v:V} (h:v.erase=w) (h1:v.bS=true:=by rfl):mB (fun v σ' => v=w∧σ' = σ) ⟨t,l,σ⟩ v:=aF h1 (ab.aS _) ⟨h,rfl⟩
theorem aa7 {n:Nat}:ev ⟨t,l,σ⟩ (.s n)=t.getD n .any:=rfl
theorem aa5 {v:V}:ev st (.c v)=v:=rfl
theorem aa9:b9 st []=[]:=rfl
theorem aa8 {xs:List X}:b9 st (x::xs)=ev st x::b9 st xs:=rfl
theorem ae8 {v w:V}:(v::t).getD 0 w=v:=rfl
theorem ae7 {v w:V} {n:Nat}:(v::t).getD (n+1) w=t.getD n w:=rfl
theorem anr {v w:V}:(v::t).set 0 w=w::t:=rfl
theorem anp {v w:V} {n:Nat}:(v::t).set (n+1) w=v::t.set n w:=rfl
theorem als {n:Nat} {v:V}:St.put ⟨t,l,σ⟩ (some n) v=⟨t.set n v,l,σ⟩:=rfl
theorem alr {v:V}:St.put st none v=st:=rfl
theorem ajW:bq P [] K st=K st:=rfl
def kL (P:Program) (d:Option Nat) (r:List AO) (K:St→Prop) (st:St) (v:V):Prop:=bq P r K (st.put d v)
theorem ag9 {v:V}:kL P d r K ⟨t,l,σ⟩ v=bq P r K (St.put ⟨t,l,σ⟩ d v):=rfl
def me (o:Option V) (K:V→Prop):Prop:=match o with | some v=>K v | none=>False
theorem akk {v:V} {K:V→Prop}:me (some v) K=K v:=rfl
theorem ajV:bq P (⟨d,.mv x,none⟩::r) K st=bq P r K (st.put d (ev st x)):=rfl
def pO (P:Program) (v a b:V) (d:Option Nat) (r:List AO) (K:St→Prop) (st:St):Prop:=match v with | .bool true=>bq P r K (st.put d a) | .bool false=>bq P r K (st.put d b) | _=>False
theorem aj0:bq P (⟨d,.pick x y z,none⟩::r) K st=pO P (ev st x) (ev st y) (ev st z) d r K st:=by
  simp only[bq,aq.aL,pO];cases ev st x<;>first | rfl | (rename_i b;cases b<;>rfl)
theorem akX {u v:V}:pO P (.bool true) u v d r K st=bq P r K (st.put d u):=rfl
theorem akV {u v:V}:pO P (.bool false) u v d r K st=bq P r K (st.put d v):=rfl
theorem akW {b c:Bool}:pO P (.bool b) (.bool c) (.bool false) d r K st=bq P r K (st.put d (.bool (b&&c))):=by cases b<;>simp[pO]
theorem akY {b c:Bool}:pO P (.bool b) (.bool true) (.bool c) d r K st=bq P r K (st.put d (.bool (b||c))):=by cases b<;>simp[pO]
theorem aju {c:List V}:bq P (⟨d,.alloc c,none⟩::r) K ⟨t,l,σ⟩=bq P r K (St.put ⟨t,l++[c],σ⟩ d (.ptr (.loc l.length) 0)):=rfl
theorem ajB {n:Nat}:bq P (⟨d,.box n x,none⟩::r) K ⟨t,l,σ⟩=((ev ⟨t,l,σ⟩ x).wd=some n∧bq P r K (St.put ⟨t,l++[(ev ⟨t,l,σ⟩ x).cells],σ⟩ d (.ptr (.loc l.length) 0))):=rfl
def kO (P:Program) (d:Option Nat) (r:List AO) (K:St→Prop) (st:St) (cs:List V):Prop:=∀b,st.out.box b=none→bq P r K (St.put ⟨st.t,st.loc,st.out.set b cs⟩ d (.ptr (.out b) 0))
theorem ajv {c:List V}:bq P (⟨d,.lO c,none⟩::r) K st=(bd c=true∧kO P d r K st c):=rfl
theorem ajC {n:Nat}:bq P (⟨d,.eD n x,none⟩::r) K st=((ev st x).wd=some n∧bd (ev st x).cells=true∧kO P d r K st (ev st x).cells):=rfl
theorem gE {c:List V} (h:∀b,σ.box b=none→bq P r K (St.put ⟨t,l,σ.set b c⟩ d (.ptr (.out b) 0))):kO P d r K ⟨t,l,σ⟩ c:=h
theorem ajE {c:List V} {ps:List (Nat × Nat × X)}:bq P (⟨d,.build c ps,none⟩::r) K st=me ((lf st c ps).map V.agg) (kL P d r K st):=rfl
def I2 (o:Option (List (List V))) (k:Nat) (K:V→Prop):Prop:=match o with | some v=>K (.sl .full k v) | none=>False
theorem akl {v:List (List V)} {k:Nat} {K:V→Prop}:I2 (some v) k K=K (.sl .full k v):=rfl
theorem ajD {k:Nat} {xs:List X}:bq P (⟨d,.cB k xs,none⟩::r) K st=I2 (jh st k xs) k (kL P d r K st):=by
  simp only[bq,aq.aL];cases jh st k xs<;>rfl
theorem o_load {g:Bool} {n:Nat}:bq P (⟨d,.load g n x,none⟩::r) K st=me (jb st g n (ev st x)) (kL P d r K st):=rfl
def I3 (P:Program) (o:Option St) (d:Option Nat) (r:List AO) (K:St→Prop):Prop:=match o with | some st=>bq P r K (st.put d .any) | none=>False
theorem akm:I3 P (some st) d r K=bq P r K (st.put d .any):=rfl
theorem aj3 {n:Nat}:bq P (⟨d,.store n x y,none⟩::r) K st=I3 P (cr st n (ev st y) (ev st x)) d r K:=by
  simp only[bq,aq.aL,I3];cases cr st n (ev st y) (ev st x)<;>rfl
def v_ (v:V) (K:V→Prop):Prop:=match v with | .ptr p o=>K (.ptr p o) | .elt c o=>K (.elt c o) | .fn (.func f) a b=>K (.fn (.func f) a b) | _=>False
theorem ajX:bq P (⟨d,.qZ x,none⟩::r) K st=v_ (ev st x) (kL P d r K st):=by
  simp only[bq,aq.aL,v_];cases ev st x<;>first | rfl | (rename_i f _ _;cases f<;>rfl)
theorem ai5 {p:Pl} {o:Nat} {K:V→Prop}:v_ (.ptr p o) K=K (.ptr p o):=rfl
theorem ai3 {c:List V} {o:Nat} {K:V→Prop}:v_ (.elt c o) K=K (.elt c o):=rfl
theorem ai4 {f:FuncId} {c e:List V} {K:V→Prop}:v_ (.fn (.func f) c e) K=K (.fn (.func f) c e):=rfl
theorem ajz {op:BinOp}:bq P (⟨d,.de op x y,none⟩::r) K st=me (qu op (ev st x) (ev st y)) (kL P d r K st):=rfl
theorem ajA {op:BinOp}:bq P (⟨d,.gP op x y,none⟩::r) K st=me (u2 op (ev st x) (ev st y)) (kL P d r K st):=rfl
theorem ajy {n:Bool}:bq P (⟨d,.rG n x y,none⟩::r) K st=me (th n (ev st x) (ev st y)) (kL P d r K st):=rfl
def Cs (u v:V) (K:V→Prop):Prop:=∃a b,u = .str a∧v = .str b∧a.length+b.length≤aE∧K (.str (a++b))
theorem ajH:bq P (⟨d,.cat x y,none⟩::r) K st=Cs (ev st x) (ev st y) (kL P d r K st):=rfl
theorem Yf {a b:List UInt8} {K:V→Prop}:Cs (.str a) (.str b) K=(a.length+b.length≤aE∧K (.str (a++b))):=by
  simp only[Cs,V.str.injEq,eq_iff_iff];constructor
  · rintro⟨a',b',rfl,rfl,h1,h2⟩;exact⟨h1,h2⟩
  · rintro⟨h1,h2⟩;exact⟨a,b,rfl,rfl,h1,h2⟩
theorem ajK {n:Bool} {ks:List Nat}:bq P (⟨d,.jw n ks x y,none⟩::r) K st=me (tg n ks (ev st x) (ev st y)) (kL P d r K st):=rfl
def A6 (v:V) (K:V→Prop):Prop:=match v with | .bool b=>K (.bool (!b)) | _=>False
theorem ajY:bq P (⟨d,.not x,none⟩::r) K st=A6 (ev st x) (kL P d r K st):=by
  simp only[bq,aq.aL,A6];cases ev st x<;>rfl
theorem ajp {b:Bool} {K:V→Prop}:A6 (.bool b) K=K (.bool (!b)):=rfl
def vX (v:V) (K:V→Prop):Prop:=match v with | .sl _ _ l=>K (.int .i64 l.length) | .raw (.slice _ n _)=>K (.int .i64 n) | _=>False
theorem ajS:bq P (⟨d,.qU x,none⟩::r) K st=vX (ev st x) (kL P d r K st):=by
  simp only[bq,aq.aL,vX];cases ev st x<;>rfl
theorem ahL {τ:Tk} {k:Nat} {m:List (List V)} {K:V→Prop}:vX (.sl τ k m) K=K (.int .i64 m.length):=rfl
def AV (v:V) (K:V→Prop):Prop:=match v with | .str s=>K (.int .i64 s.length) | _=>False
theorem ajT:bq P (⟨d,.qV x,none⟩::r) K st=AV (ev st x) (kL P d r K st):=by
  simp only[bq,aq.aL,AV];cases ev st x<;>rfl
theorem ahM {s:List UInt8} {K:V→Prop}:AV (.str s) K=K (.int .i64 s.length):=rfl
def xM (off:Nat) (v:V) (K:V→Prop):Prop:=match v with | .ptr p o=>K (.ptr p (o+off)) | .elt c o=>K (.elt c (o+off)) | _=>False
theorem ajM {n:Nat}:bq P (⟨d,.lq n x,none⟩::r) K st=xM n (ev st x) (kL P d r K st):=by
  simp only[bq,aq.aL,xM];cases ev st x<;>rfl
theorem abI {p:Pl} {o n:Nat} {K:V→Prop}:xM n (.ptr p o) K=K (.ptr p (o+n)):=rfl
theorem abH {c:List V} {o n:Nat} {K:V→Prop}:xM n (.elt c o) K=K (.elt c (o+n)):=rfl
def zP (g:Bool) (off n:Nat) (v:V) (K:V→Prop):Prop:=match v with | .agg cs=>me (a9 g n (cs.drop off)) K | _=>False
theorem ajN {g:Bool} {n m:Nat}:bq P (⟨d,.oq g m n x,none⟩::r) K st=zP g m n (ev st x) (kL P d r K st):=by
  simp only[bq,aq.aL,zP];cases ev st x<;>rfl
theorem abJ {g:Bool} {n m:Nat} {cs:List V} {K:V→Prop}:zP g m n (.agg cs) K=me (a9 g n (cs.drop m)) K:=rfl
def vM (k:Nat) (v i:V) (K:V→Prop):Prop:=match v with
  | .sl _ k' l=>k' = k∧E7 l i fun c=>K (.elt c 0)
  | .raw (.slice (some ⟨b,o,none⟩) n _)=>∃ik j,i = .int ik j∧0≤j∧j<n∧K (.ptr (.out b) (o+j.toNat*k))
  | _=>False
theorem ajP {k:Nat}:bq P (⟨d,.jH k x y,none⟩::r) K st=vM k (ev st x) (ev st y) (kL P d r K st):=by
  simp only[bq,aq.aL,vM];cases ev st x<;>rfl
theorem bx {k:Nat} {τ:Tk} {m:List (List V)} {ik:IntKind} {n:Int} {c:List V} {K:V→Prop} (h0:0≤n) (h:m[n.toNat]?=some c) (hk:K (.elt c 0)):vM k (.sl τ k m) (.int ik n) K:=⟨rfl,ik,n,c,rfl,h0,h,hk⟩
def yq (m k:Nat) (v i:V) (K:V→Prop):Prop:=match v with
  | .ptr p o=>∃kk n,i = .int kk n∧0≤n∧n<(m:Nat)∧K (.ptr p (o+n.toNat*k))
  | .elt c o=>∃kk n,i = .int kk n∧0≤n∧n<(m:Nat)∧K (.elt c (o+n.toNat*k))
  | _=>False
theorem ajQ {m k:Nat}:bq P (⟨d,.eJ m k x y,none⟩::r) K st=yq m k (ev st x) (ev st y) (kL P d r K st):=by
  simp only[bq,aq.aL,yq];cases ev st x<;>rfl
theorem iH {m k o:Nat} {p:Pl} {ik:IntKind} {n:Int} {K:V→Prop} (h0:0≤n) (h:n<(m:Nat)) (hk:K (.ptr p (o+n.toNat*k))):yq m k (.ptr p o) (.int ik n) K:=⟨ik,n,rfl,h0,h,hk⟩
theorem Dt {m k o:Nat} {c:List V} {ik:IntKind} {n:Int} {K:V→Prop} (h0:0≤n) (h:n<(m:Nat)) (hk:K (.elt c (o+n.toNat*k))):yq m k (.elt c o) (.int ik n) K:=⟨ik,n,rfl,h0,h,hk⟩
def AH (v i:V) (K:V→Prop):Prop:=match v with | .str s=>∃k n c,i = .int k n∧0≤n∧s[n.toNat]?=some c∧K (.int .u8 c.toNat) | _=>False
theorem ajR:bq P (⟨d,.pE x y,none⟩::r) K st=AH (ev st x) (ev st y) (kL P d r K st):=by
  simp only[bq,aq.aL,AH];cases ev st x<;>rfl
theorem yr {s:List UInt8} {ik:IntKind} {n:Int} {c:UInt8} {K:V→Prop} (h0:0≤n) (h:s[n.toNat]?=some c) (hk:K (.int .u8 c.toNat)):AH (.str s) (.int ik n) K:=⟨ik,n,c,rfl,h0,h,hk⟩
def kC (P:Program) (d:Option Nat) (r:List AO) (K:St→Prop) (t:List V) (l:List (List V)) (v:V) (σ:ab):Prop:=bq P r K (St.put ⟨t,l,σ⟩ d v)
theorem ag7 {v:V}:kC P d r K t l v σ=bq P r K (St.put ⟨t,l,σ⟩ d v):=rfl
theorem ajF {f:FuncId} {xs:List X}:bq P (⟨d,.call f xs,none⟩::r) K ⟨t,l,σ⟩=(bd (b9 ⟨t,l,σ⟩ xs)=true∧ak P f (b9 ⟨t,l,σ⟩ xs) σ (kC P d r K t l)):=rfl
def FM (P:Program) (v:V) (args:List V) (σ:ab) (K:V→ab→Prop):Prop:=match v with | .fn (.func f) a b=>bd (a++args++b)=true∧ak P f (a++args++b) σ K | _=>False
theorem ajG {xs:List X}:bq P (⟨d,.fR x xs,none⟩::r) K ⟨t,l,σ⟩=FM P (ev ⟨t,l,σ⟩ x) (b9 ⟨t,l,σ⟩ xs) σ (kC P d r K t l):=by
  simp only[bq,aq.aL,FM];cases ev ⟨t,l,σ⟩ x<;>first | rfl | (rename_i f _ _;cases f<;>rfl)
theorem Yb {f:FuncId} {u args v:List V} {K:V→ab→Prop}:FM P (.fn (.func f) u v) args σ K=(bd (u++args++v)=true∧ak P f (u++args++v) σ K):=rfl
theorem ajw {k:Nat}:bq P (⟨d,.app k x y,none⟩::r) K ⟨t,l,σ⟩=mu σ k (ev ⟨t,l,σ⟩ x) (ev ⟨t,l,σ⟩ y) (kC P d r K t l):=rfl
theorem ajx:bq P (⟨d,.jr x y,none⟩::r) K ⟨t,l,σ⟩=(∃a,ev ⟨t,l,σ⟩ y = .str a∧mu σ 1 (ev ⟨t,l,σ⟩ x) (.sl .no 1 (b6 a)) (kC P d r K t l)):=rfl
theorem jt {k:Nat} {τ:Nat} {u:Tk} {m n:List (List V)} {K:V→ab→Prop} (hb:m.length+n.length≤aE) (ht:σ.aB τ=some m.length) (hk:K (.sl (.tk τ) k (m++n)) (σ.aK τ (m.length+n.length))) :
    mu σ k (.sl (.tk τ) k m) (.sl u k n) K:=⟨_,m,n,rfl,⟨u,rfl⟩,hb,ht,hk⟩
theorem FG {k:Nat} {u:Tk} {m n:List (List V)} {K:V→ab→Prop} (hb:m.length+n.length≤aE) (hk:∀τ,σ.aB τ=none→K (.sl (.tk τ) k (m++n)) (σ.aK τ (m.length+n.length))) :
    mu σ k (.sl .full k m) (.sl u k n) K:=⟨_,m,n,rfl,⟨u,rfl⟩,hb,.inl hk⟩
theorem FH {k:Nat} {u:Tk} {m n:List (List V)} {K:V→ab→Prop} (hb:m.length+n.length≤aE) (hk:K (.sl .no k (m++n)) σ) :
    mu σ k (.sl .full k m) (.sl u k n) K:=⟨_,m,n,rfl,⟨u,rfl⟩,hb,.inr (.inl hk)⟩
def ve (i:Nat) (v:V) (K:V→Prop):Prop:=match v with | .aT vs=>me vs[i]? K | _=>False
theorem ajL {i:Nat}:bq P (⟨d,.ext x i,none⟩::r) K st=ve i (ev st x) (kL P d r K st):=by
  simp only[bq,aq.aL,ve];cases ev st x<;>rfl
theorem abb {u:V} {us:List V} {K:V→Prop}:ve 0 (.aT (u::us)) K=K u:=rfl
theorem aba {i:Nat} {u:V} {us:List V} {K:V→Prop}:ve (i+1) (.aT (u::us)) K=ve i (.aT us) K:=rfl
theorem ajU {f:Fn} {as bs:List X}:bq P (⟨d,.gG f as bs,none⟩::r) K st=bq P r K (st.put d (.fn f (b9 st as) (b9 st bs))):=rfl
def zA (k:IntKind) (v:V) (K:V→Prop):Prop:=match v with | .int _ n=>K (.int k (k.wrap n)) | _=>False
theorem ajJ {k:IntKind}:bq P (⟨d,.lS k x,none⟩::r) K st=zA k (ev st x) (kL P d r K st):=by
  simp only[bq,aq.aL,zA];cases ev st x<;>rfl
theorem Zl {k j:IntKind} {n:Int} {K:V→Prop}:zA k (.int j n) K=K (.int k (k.wrap n)):=rfl
theorem ajI:bq P (⟨d,.qy x,none⟩::r) K st=(∃t s,ev st x = .sl t 1 (b6 s)∧kL P d r K st (.str s)):=rfl
def gL (P:Program) (v:V) (w:Bool) (d:Option Nat) (op:aq) (r:List AO) (K:St→Prop) (st:St):Prop :=
  match v with
  | .bool b=>if b=w then bq P (⟨d,op,none⟩::r) K st else bq P r K (st.put d (.aT []))
  | .aT []=>bq P r K (st.put d (.aT []))
  | _=>False
theorem ajO {g:Nat} {w:Bool} {op:aq}:bq P (⟨d,op,some (g,w)⟩::r) K ⟨t,l,σ⟩=gL P (t.getD g .any) w d op r K ⟨t,l,σ⟩:=by
  simp only[bq,gL,ev];generalize t.getD g .any=v;cases v<;>first | rfl | (rename_i m;cases m<;>rfl)
theorem ae0 {w:Bool} {op:aq}:gL P (.aT []) w d op r K st=bq P r K (st.put d (.aT [])):=rfl
theorem aeZ {op:aq}:gL P (.bool true) true d op r K st=bq P (⟨d,op,none⟩::r) K st:=rfl
theorem aeW {op:aq}:gL P (.bool false) false d op r K st=bq P (⟨d,op,none⟩::r) K st:=rfl
theorem aeY {op:aq}:gL P (.bool true) false d op r K st=bq P r K (st.put d (.aT [])):=rfl
theorem aeX {op:aq}:gL P (.bool false) true d op r K st=bq P r K (st.put d (.aT [])):=rfl
def vV (c:Option (List V)) (g:Bool) (n o:Nat):Option V:=c.bind fun cs=>a9 g n (cs.drop o)
theorem aht {c:List V} {g:Bool} {n o:Nat}:vV (some c) g n o=a9 g n (c.drop o):=rfl
theorem ahC {g:Bool} {n i o:Nat}:jb ⟨t,l,σ⟩ g n (.ptr (.loc i) o)=vV l[i]? g n o:=rfl
theorem ahD {g:Bool} {n i o:Nat}:jb ⟨t,l,σ⟩ g n (.ptr (.out i) o)=vV (σ.box i) g n o:=rfl
theorem ahB {g:Bool} {n i o:Nat}:jb ⟨t,l,σ⟩ g n (.ptr (.iB i) o)=vV (σ.bH i) g n o:=rfl
theorem ahA {g:Bool} {n o:Nat} {cs:List V}:jb st g n (.elt cs o)=a9 g n (cs.drop o):=rfl
theorem vW {n:Nat} {cs:List V}:a9 true n cs=(takeN n cs).map V.agg:=rfl
theorem ahu {n:Nat} {c:V} {cs:List V}:a9 false n (c::cs)=some c:=rfl
theorem an' {cs:List V}:takeN 0 cs=some []:=rfl
def Sz (c:V):Option (List V)→Option (List V) | some l=>some (c::l) | none=>none
theorem J5 {n:Nat} {c:V} {cs:List V}:takeN (n+1) (c::cs)=Sz c (takeN n cs):=by
  simp only[takeN];cases takeN n cs<;>rfl
theorem aiH {c:V} {cs:List V}:Sz c (some cs)=some (c::cs):=rfl
theorem Z4 {cs:List V}:cs.drop 0=cs:=rfl
theorem Z3 {n:Nat} {c:V} {cs:List V}:(c::cs).drop (n+1)=cs.drop n:=rfl
def U9 (t:List V) (l:List (List V)) (σ:ab) (i o n:Nat) (x:V):Option (List V)→Option St
  | some cs=>if bD n (cs.drop o)=true∧x.wd=some n∧bA x.cells=true then some ⟨t,l.set i (setAt cs o x.cells),σ⟩ else none
  | none=>none
theorem anP {n i o:Nat} {v:V}:cr ⟨t,l,σ⟩ n v (.ptr (.loc i) o)=U9 t l σ i o n v l[i]?:=by
  simp only[cr];cases l[i]?<;>rfl
theorem anN {n i o:Nat} {v:V} {cs:List V}:U9 t l σ i o n v (some cs)=if bD n (cs.drop o)=true∧v.wd=some n∧bA v.cells=true then some ⟨t,l.set i (setAt cs o v.cells),σ⟩ else none:=rfl
def U_ (t:List V) (l:List (List V)) (σ:ab) (i o n:Nat) (x:V):Option (List V)→Option St
  | some cs=>if bD n (cs.drop o)=true∧x.wd=some n∧bA x.cells=true∧bd x.cells=true then some ⟨t,l,σ.set i (setAt cs o x.cells)⟩ else none
  | none=>none
theorem anQ {n i o:Nat} {v:V}:cr ⟨t,l,σ⟩ n v (.ptr (.out i) o)=U_ t l σ i o n v (σ.box i):=by
  simp only[cr];cases σ.box i<;>rfl
theorem anO {n i o:Nat} {v:V} {cs:List V}:U_ t l σ i o n v (some cs)=if bD n (cs.drop o)=true∧v.wd=some n∧bA v.cells=true∧bd v.cells=true then some ⟨t,l,σ.set i (setAt cs o v.cells)⟩ else none:=rfl
theorem gU {b:Nat} {cs:List V}:(σ.set b cs).box b=some cs:=by simp[ab.set]
theorem pX {b c:Nat} {cs:List V} (h:c≠b):(σ.set b cs).box c=σ.box c:=by simp[ab.set,h]
theorem anj {b τ n:Nat}:(σ.aK τ n).box b=σ.box b:=rfl
theorem anm {b g:Nat} {cs:List V}:(σ.set b cs).bH g=σ.bH g:=rfl
theorem ank {g τ n:Nat}:(σ.aK τ n).bH g=σ.bH g:=rfl
theorem anq {b τ:Nat} {cs:List V}:(σ.set b cs).aB τ=σ.aB τ:=rfl
theorem JQ {τ n:Nat}:(σ.aK τ n).aB τ=some n:=by simp[ab.aK]
theorem wq {τ υ n:Nat} (h:υ≠τ):(σ.aK τ n).aB υ=σ.aB υ:=by simp[ab.aK,h]
theorem XE {c:List V}:lf st c []=some c:=rfl
def OM (st:St) (c:List V) (off n:Nat) (v:V) (ps:List (Nat × Nat × X)):Option (List V):=if bD n (c.drop off)=true∧v.wd=some n then lf st (setAt c off v.cells) ps else none
theorem XD {c:List V} {off n:Nat} {ps:List (Nat × Nat × X)}:lf st c ((off,n,x)::ps)=OM st c off n (ev st x) ps:=rfl
theorem Xz {c:List V} {off n:Nat} {v:V} {ps:List (Nat × Nat × X)}:OM st c off n v ps=if bD n (c.drop off)=true∧v.wd=some n then lf st (setAt c off v.cells) ps else none:=rfl
theorem amL {k:Nat}:jh st k []=some []:=rfl
def Ju (c:List V):Option (List (List V))→Option (List (List V)) | some l=>some (c::l) | none=>none
theorem amE {c:List V} {m:List (List V)}:Ju c (some m)=some (c::m):=rfl
def Jt (st:St) (k:Nat) (v:V) (xs:List X):Option (List (List V)):=if v.wd=some k∧bd v.cells=true∧bA v.cells=true then Ju (aX v.cells) (jh st k xs) else none
theorem amK {k:Nat} {xs:List X}:jh st k (x::xs)=Jt st k (ev st x) xs:=by
  simp only[jh,Jt];cases jh st k xs<;>rfl
theorem amA {k:Nat} {v:V} {xs:List X}:Jt st k v xs=if v.wd=some k∧bd v.cells=true∧bA v.cells=true then Ju (aX v.cells) (jh st k xs) else none:=rfl
def cz (v v' : V):Prop:=∀E u,R E v u→R E v' u
theorem cz.rfl {v:V}:cz v v:=fun _ _ h=>h
theorem cz.any {v:V}:cz v .any:=fun _ _ _=>by simp only[R]
theorem cz.erase {v:V}:cz v v.erase:=fun _ _ h=>R.erase v h
theorem cz.no {τ:Tk} {k:Nat} {m:List (List V)}:cz (.sl τ k m) (.sl .no k m):=fun _ _ h=>R.erase (.sl τ k m) h
theorem cz.full {k:Nat}:cz (.sl .full k []) (.sl .no k []):=cz.no
def bZ:List V→List V→Prop
  | [],[]=>True
  | v::l,v' :: l' => cz v v' ∧ bZ l l'
  | _,_=>False
theorem bZ.rfl:∀{l:List V},bZ l l
  | []=>trivial
  | _::_=>⟨cz.rfl,bZ.rfl⟩
theorem bZ.mono:∀{l l' : List V} {E:Env} {us:List Value},bZ l l' → RL E l us→RL E l' us
  | [],[],_,_,_,h=>h
  | [],_::_,_,_,h,_=>h.elim
  | _::_,[],_,_,h,_=>h.elim
  | v::l,v' :: l',_,[],_,h=>by simp[RL] at h
  | v :: l, v' :: l', _, u :: us, h, hr => by
    simp only[RL] at hr ⊢;exact⟨h.1 _ _ hr.1,bZ.mono h.2 hr.2⟩
theorem bZ.length:∀{l l' : List V},bZ l l' → l.length=l'.length
  | [],[],_=>Eq.refl _
  | [],_::_,h=>h.elim
  | _::_,[],h=>h.elim
  | v::l,v' :: l',h=>by simp[bZ.length h.2]
theorem bZ.get:∀{l l' : List V},bZ l l' → ∀(j:Nat) v',l'[j]?=some v' → ∃v,l[j]?=some v∧cz v v'
  | [],[],_,j,v',h=>by simp at h
  | [],_::_,h,_,_,_=>h.elim
  | _::_,[],h,_,_,_=>h.elim
  | v :: l, w :: l', h, j, v', hj => by
    cases j with
    | zero=>simp at hj;subst hj;exact⟨v,by simp,h.1⟩
    | succ j=>simp at hj;obtain⟨u,h1,h2⟩:=bZ.get h.2 j v' hj;exact⟨u,by simpa using h1,h2⟩
def bY:List (List V)→List (List V)→Prop
  | [],[]=>True
  | v::l,v' :: l' => bZ v v' ∧ bY l l'
  | _,_=>False
theorem bY.rfl:∀{l:List (List V)},bY l l
  | []=>trivial
  | _::_=>⟨bZ.rfl,bY.rfl⟩
theorem bY.length:∀{l l' : List (List V)},bY l l' → l.length=l'.length
  | [],[],_=>Eq.refl _
  | [],_::_,h=>h.elim
  | _::_,[],h=>h.elim
  | v::l,v' :: l',h=>by simp[bY.length h.2]
theorem bY.get:∀{l l' : List (List V)},bY l l' → ∀(j:Nat) v',l'[j]?=some v' → ∃v,l[j]?=some v∧bZ v v'
  | [],[],_,j,v',h=>by simp at h
  | [],_::_,h,_,_,_=>h.elim
  | _::_,[],h,_,_,_=>h.elim
  | v :: l, w :: l', h, j, v', hj => by
    cases j with
    | zero=>simp at hj;subst hj;exact⟨v,by simp,h.1⟩
    | succ j=>simp at hj;obtain⟨u,h1,h2⟩:=bY.get h.2 j v' hj;exact⟨u,by simpa using h1,h2⟩
theorem gx.dh {E:Env} {b:Nat} {cs cs' : List V} (h:bZ cs cs') (k:gx E b cs):gx E b cs' := by
  obtain⟨c,e,h1,h2,h3⟩:=k;refine⟨c,e,h1,by rw[←h.length];exact h2,fun j x hx=>?_⟩;obtain⟨v,hv,hle⟩:=h.get j x hx;obtain⟨u,k1,k2⟩:=h3 j v hv;exact⟨u,k1,hle _ _ k2⟩
structure bC (σ σ' : ab):Prop where
  box:∀b cs',σ'.box b=some cs' → ∃cs,σ.box b=some cs∧bZ cs cs'
  aB:∀τ n,σ'.aB τ=some n→σ.aB τ=some n
  bH:∀b cs,σ'.bH b=some cs→σ.bH b=some cs
theorem bC.rfl {σ:ab}:bC σ σ:=⟨fun _ cs h=>⟨cs,h,bZ.rfl⟩,fun _ _ h=>h,fun _ _ h=>h⟩
theorem aZ.dh {t t' : List V} {l l' : List (List V)} {σ σ' : ab} (h:bZ t t') (hl:bY l l') (ho:bC σ σ') (hk:K ⟨t',l',σ'⟩):aZ ⟨t,l,σ⟩ K:=by
  intro E a hs;refine⟨E,_,rfl,Fr.refl E,⟨⟨fun b cs hcs=>?_,fun τ n hn=>hs.ok.aB τ n (ho.aB τ n hn),hs.ok.fresh,hs.ok.nt,fun b cs hc=>hs.ok.bH b cs (ho.bH b cs hc)⟩,⟨fun i cs hcs=>?_,fun i hi=>hs.bW.none i (by rw[hl.length];exact hi)⟩,hs.defers,h.mono hs.slot⟩,hk⟩
  · obtain⟨u_,h1,h2⟩:=ho.box b cs hcs;obtain⟨k1,k2⟩:=hs.ok.box b u_ h1;exact⟨k1,k2.dh h2⟩
  · obtain⟨u_,h1,h2⟩:=hl.get i cs hcs;obtain⟨b,k1,k2,k3⟩:=hs.bW.box i u_ h1;exact⟨b,k1,k2,k3.dh h2⟩
theorem aZ.aI {t t' : List V} {l:List (List V)} {σ:ab} (h:bZ t t') (hk:K ⟨t',l,σ⟩):aZ ⟨t,l,σ⟩ K:=aZ.dh h bY.rfl bC.rfl hk
theorem ak.dh {f:FuncId} {as as' : List V} {σ σ' : ab} {R' : V→ab→Prop} (h:ak P f as' σ' R') (ha:bZ as as') (ho:bC σ σ'):ak P f as σ R' := by
  refine⟨h.1,fun E vs h1 h2 h3=>h.2 E vs h1 ?_ (ha.mono h3)⟩;refine⟨fun b cs hcs=>?_,fun τ n hn=>h2.aB τ n (ho.aB τ n hn),h2.fresh,h2.nt,fun b cs hc=>h2.bH b cs (ho.bH b cs hc)⟩;obtain⟨u_,k1,k2⟩:=ho.box b cs hcs;obtain⟨k3,k4⟩:=h2.box b u_ k1;exact⟨k3,k4.dh k2⟩
end
section
variable {P:Program} {d:Option Nat} {r:List (AO × List Nat)} {K:St→Prop} {t:List V} {l:List (List V)} {σ:ab} {x y z:X} {st:St} {SN:List ch} {L:List (V × Bool × Nat × V × List Nat)} {ms:List Nat}
theorem ZO:bE P [] SN L K st=(mE SN L∧K st):=rfl
def kD (P:Program) (d:Option Nat) (r:List (AO × List Nat)) (SN:List ch) (L:List (V × Bool × Nat × V × List Nat)) (K:St→Prop) (st:St) (v:V):Prop:=bE P r SN L K (st.put d v)
theorem ag8 {v:V}:kD P d r SN L K ⟨t,l,σ⟩ v=bE P r SN L K (St.put ⟨t,l,σ⟩ d v):=rfl
theorem ZN:bE P ((⟨d,.mv x,none⟩,ms)::r) SN L K st=bE P r SN L K (st.put d (ev st x)):=rfl
def uk (P:Program) (v a b:V) (d:Option Nat) (r:List (AO × List Nat)) (SN:List ch) (L:List (V × Bool × Nat × V × List Nat)) (K:St→Prop) (st:St):Prop:=match v with | .bool true=>bE P r SN L K (st.put d a) | .bool false=>bE P r SN L K (st.put d b) | _=>False
theorem ZR:bE P ((⟨d,.pick x y z,none⟩,ms)::r) SN L K st=uk P (ev st x) (ev st y) (ev st z) d r SN L K st:=by
  show (match ev st x with | .bool true=>_ | .bool false=>_ | _=>False)=_;unfold uk;cases ev st x<;>first | rfl | (rename_i b;cases b<;>rfl)
theorem akT {u v:V}:uk P (.bool true) u v d r SN L K st=bE P r SN L K (st.put d u):=rfl
theorem akR {u v:V}:uk P (.bool false) u v d r SN L K st=bE P r SN L K (st.put d v):=rfl
theorem akS {b c:Bool}:uk P (.bool b) (.bool c) (.bool false) d r SN L K st=bE P r SN L K (st.put d (.bool (b&&c))):=by cases b<;>simp[uk]
theorem akU {b c:Bool}:uk P (.bool b) (.bool true) (.bool c) d r SN L K st=bE P r SN L K (st.put d (.bool (b||c))):=by cases b<;>simp[uk]
theorem Zn {c:List V}:bE P ((⟨d,.alloc c,none⟩,ms)::r) SN L K ⟨t,l,σ⟩=bE P r (SN++[(l++[c],σ)]) L K (St.put ⟨t,l++[c],σ⟩ d (.ptr (.loc l.length) 0)):=rfl
theorem Zs {n:Nat}:bE P ((⟨d,.box n x,none⟩,ms)::r) SN L K ⟨t,l,σ⟩=((ev ⟨t,l,σ⟩ x).wd=some n∧bE P r (SN++[(l++[(ev ⟨t,l,σ⟩ x).cells],σ)]) L K (St.put ⟨t,l++[(ev ⟨t,l,σ⟩ x).cells],σ⟩ d (.ptr (.loc l.length) 0))):=rfl
theorem Zt {n:Nat}:bE P ((⟨d,.kH n x,none⟩,ms)::r) SN L K ⟨t,l,σ⟩=((ev ⟨t,l,σ⟩ x).wd=some n∧bA (ev ⟨t,l,σ⟩ x).cells=true∧bE P r (SN++[(l++[(ev ⟨t,l,σ⟩ x).cells],σ)]) L K (St.put ⟨t,l++[(ev ⟨t,l,σ⟩ x).cells],σ⟩ d (.ptr (.loc l.length) 0))):=rfl
theorem Zv {c:List V} {ps:List (Nat × Nat × X)}:bE P ((⟨d,.build c ps,none⟩,ms)::r) SN L K st=me ((lf st c ps).map V.agg) (kD P d r SN L K st):=rfl
theorem Zu {k:Nat} {xs:List X}:bE P ((⟨d,.cB k xs,none⟩,ms)::r) SN L K st=I2 (jh st k xs) k (kD P d r SN L K st):=by
  show opt ((jh st k xs).map (V.sl .full k)) _=_;cases jh st k xs<;>rfl
def R6 (P:Program) (a:V) (g:Bool) (n:Nat) (ms:List Nat) (d:Option Nat) (r:List (AO × List Nat)) (SN:List ch) (L:List (V × Bool × Nat × V × List Nat)) (K:St→Prop) (st:St):Option V→Prop
  | some v=>bE P r SN ((a,g,n,v,ms)::L) K (st.put d v)
  | none=>False
theorem ahv {a v:V} {g:Bool} {n:Nat}:R6 P a g n ms d r SN L K st (some v)=bE P r SN ((a,g,n,v,ms)::L) K (st.put d v):=rfl
theorem ZL {g:Bool} {n:Nat}:bE P ((⟨d,.load g n x,none⟩,ms)::r) SN L K st=R6 P (ev st x) g n ms d r SN L K st (jb st g n (ev st x)):=by
  show opt (jb st g n (ev st x)) _=_;cases jb st g n (ev st x)<;>rfl
def U8 (P:Program) (d:Option Nat) (r:List (AO × List Nat)) (SN:List ch) (L:List (V × Bool × Nat × V × List Nat)) (K:St→Prop):Option St→Prop
  | some st=>bE P r (SN++[(st.loc,st.out)]) L K (st.put d .any)
  | none=>False
theorem anM:U8 P d r SN L K (some ⟨t,l,σ⟩)=bE P r (SN++[(l,σ)]) L K (St.put ⟨t,l,σ⟩ d .any):=rfl
theorem ZU {n:Nat}:bE P ((⟨d,.store n x y,none⟩,ms)::r) SN L K st=U8 P d r SN L K (cr st n (ev st y) (ev st x)):=by
  show (match cr st n (ev st y) (ev st x) with | some al => _ | none=>False)=_;cases cr st n (ev st y) (ev st x)<;>rfl
theorem ZP:bE P ((⟨d,.qZ x,none⟩,ms)::r) SN L K st=v_ (ev st x) (kD P d r SN L K st):=by
  show (match ev st x with | .ptr p o=>_ | .elt c o=>_ | .fn (.func f) a b=>_ | _=>False)=_;unfold v_;cases ev st x<;>first | rfl | (rename_i f _ _;cases f<;>rfl)
theorem Zq {op:BinOp}:bE P ((⟨d,.de op x y,none⟩,ms)::r) SN L K st=me (qu op (ev st x) (ev st y)) (kD P d r SN L K st):=rfl
theorem Zr {op:BinOp}:bE P ((⟨d,.gP op x y,none⟩,ms)::r) SN L K st=me (u2 op (ev st x) (ev st y)) (kD P d r SN L K st):=rfl
theorem Zp {n:Bool}:bE P ((⟨d,.rG n x y,none⟩,ms)::r) SN L K st=me (th n (ev st x) (ev st y)) (kD P d r SN L K st):=rfl
theorem Zy:bE P ((⟨d,.cat x y,none⟩,ms)::r) SN L K st=Cs (ev st x) (ev st y) (kD P d r SN L K st):=rfl
theorem ZB {n:Bool} {ks:List Nat}:bE P ((⟨d,.jw n ks x y,none⟩,ms)::r) SN L K st=me (tg n ks (ev st x) (ev st y)) (kD P d r SN L K st):=rfl
theorem ZQ:bE P ((⟨d,.not x,none⟩,ms)::r) SN L K st=A6 (ev st x) (kD P d r SN L K st):=by
  show (match ev st x with | .bool b=>_ | _=>False)=_;unfold A6;cases ev st x<;>rfl
theorem ZJ:bE P ((⟨d,.qU x,none⟩,ms)::r) SN L K st=vX (ev st x) (kD P d r SN L K st):=by
  show (match ev st x with | .sl _ _ l=>_ | .raw (.slice _ n _)=>_ | _=>False)=_;unfold vX;cases ev st x<;>rfl
theorem ZK:bE P ((⟨d,.qV x,none⟩,ms)::r) SN L K st=AV (ev st x) (kD P d r SN L K st):=by
  show (match ev st x with | .str s=>_ | _=>False)=_;unfold AV;cases ev st x<;>rfl
theorem ZD {n:Nat}:bE P ((⟨d,.lq n x,none⟩,ms)::r) SN L K st=xM n (ev st x) (kD P d r SN L K st):=by
  show (match ev st x with | .ptr p o=>_ | .elt c o=>_ | _=>False)=_;unfold xM;cases ev st x<;>rfl
theorem ZE {g:Bool} {n m:Nat}:bE P ((⟨d,.oq g m n x,none⟩,ms)::r) SN L K st=zP g m n (ev st x) (kD P d r SN L K st):=by
  show (match ev st x with | .agg cs=>_ | _=>False)=_;unfold zP;cases ev st x<;>rfl
theorem ZG {k:Nat}:bE P ((⟨d,.jH k x y,none⟩,ms)::r) SN L K st=vM k (ev st x) (ev st y) (kD P d r SN L K st):=by
  show (match ev st x with | .sl _ k' l=>_ | .raw (.slice (some ⟨b,o,none⟩) n _)=>_ | _=>False)=_;unfold vM;cases ev st x<;>rfl
theorem ZH {m k:Nat}:bE P ((⟨d,.eJ m k x y,none⟩,ms)::r) SN L K st=yq m k (ev st x) (ev st y) (kD P d r SN L K st):=by
  show (match ev st x with | .ptr p o=>_ | .elt c o=>_ | _=>False)=_;unfold yq;cases ev st x<;>rfl
theorem ZI:bE P ((⟨d,.pE x y,none⟩,ms)::r) SN L K st=AH (ev st x) (ev st y) (kD P d r SN L K st):=by
  show (match ev st x with | .str s=>_ | _=>False)=_;unfold AH;cases ev st x<;>rfl
def DB (P:Program) (d:Option Nat) (r:List (AO × List Nat)) (SN:List ch) (L:List (V × Bool × Nat × V × List Nat)) (K:St→Prop) (t:List V) (l:List (List V)) (v:V) (σ:ab):Prop:=bE P r (SN++[(l,σ)]) L K (St.put ⟨t,l,σ⟩ d v)
theorem ag6 {v:V}:DB P d r SN L K t l v σ=bE P r (SN++[(l,σ)]) L K (St.put ⟨t,l,σ⟩ d v):=rfl
def bh (P:Program) (f:FuncId) (as:List V) (σ:ab) (K:V→ab→Prop):Prop:=∃v σ',ak P f as σ (fun v' uI => v' = v∧uI = σ')∧K v σ'
theorem bh.intro {f:FuncId} {as:List V} {K:V→ab→Prop} {v:V} {σ' : ab} (h:ak P f as σ fun v' uI => v' = v∧uI = σ') (k:K v σ'):bh P f as σ K:=⟨v,σ',h,k⟩
theorem cl {f:FuncId} {as:List V} {K:V→ab→Prop} {v:V} {σ' : ab} (h:ak P f as σ fun v' uI => v' = v∧uI = σ') (k:K v σ'):ak P f as σ K:=h.mono fun _ _ e=>e.1▸e.2▸k
theorem Zw {f:FuncId} {xs:List X}:bE P ((⟨d,.call f xs,none⟩,ms)::r) SN L K ⟨t,l,σ⟩=(bd (b9 ⟨t,l,σ⟩ xs)=true∧bh P f (b9 ⟨t,l,σ⟩ xs) σ (DB P d r SN L K t l)):=rfl
def FL (P:Program) (v:V) (args:List V) (σ:ab) (K:V→ab→Prop):Prop:=match v with | .fn (.func f) a b=>bd (a++args++b)=true∧bh P f (a++args++b) σ K | _=>False
theorem Zx {xs:List X}:bE P ((⟨d,.fR x xs,none⟩,ms)::r) SN L K ⟨t,l,σ⟩=FL P (ev ⟨t,l,σ⟩ x) (b9 ⟨t,l,σ⟩ xs) σ (DB P d r SN L K t l):=by
  show (match ev ⟨t,l,σ⟩ x with | .fn (.func f) a b=>_ | _=>False)=_;unfold FL;cases ev ⟨t,l,σ⟩ x<;>first | rfl | (rename_i f _ _;cases f<;>rfl)
theorem Ya {f:FuncId} {u args v:List V} {K:V→ab→Prop}:FL P (.fn (.func f) u v) args σ K=(bd (u++args++v)=true∧bh P f (u++args++v) σ K):=rfl
theorem Zo {k:Nat}:bE P ((⟨d,.app k x y,none⟩,ms)::r) SN L K ⟨t,l,σ⟩=BK σ k (ev ⟨t,l,σ⟩ x) (ev ⟨t,l,σ⟩ y) (DB P d r SN L K t l):=rfl
theorem zm {k:Nat} {τ:Nat} {u:Tk} {m n:List (List V)} {K:V→ab→Prop} (hb:m.length+n.length≤aE) (ht:σ.aB τ=some m.length) (hk:K (.sl (.tk τ) k (m++n)) (σ.aK τ (m.length+n.length))) :
    BK σ k (.sl (.tk τ) k m) (.sl u k n) K:=⟨_,m,n,rfl,⟨u,rfl⟩,hb,ht,hk⟩
theorem ZC {i:Nat}:bE P ((⟨d,.ext x i,none⟩,ms)::r) SN L K st=ve i (ev st x) (kD P d r SN L K st):=by
  show (match ev st x with | .aT vs=>_ | _=>False)=_;unfold ve;cases ev st x<;>rfl
theorem ZM {f:Fn} {as bs:List X}:bE P ((⟨d,.gG f as bs,none⟩,ms)::r) SN L K st=bE P r SN L K (st.put d (.fn f (b9 st as) (b9 st bs))):=rfl
theorem ZA {k:IntKind}:bE P ((⟨d,.lS k x,none⟩,ms)::r) SN L K st=zA k (ev st x) (kD P d r SN L K st):=by
  show (match ev st x with | .int _ n=>_ | _=>False)=_;unfold zA;cases ev st x<;>rfl
theorem Zz:bE P ((⟨d,.qy x,none⟩,ms)::r) SN L K st=(∃t s,ev st x = .sl t 1 (b6 s)∧kD P d r SN L K st (.str s)):=rfl
def gD (P:Program) (v:V) (w:Bool) (d:Option Nat) (op:aq) (ms:List Nat) (r:List (AO × List Nat)) (SN:List ch) (L:List (V × Bool × Nat × V × List Nat)) (K:St→Prop) (st:St):Prop :=
  match v with
  | .bool b=>if b=w then bE P ((⟨d,op,none⟩,ms)::r) SN L K st else bE P r (if op.aR then SN++[(st.loc,st.out)] else SN) L K (st.put d (.aT []))
  | .aT []=>bE P r (if op.aR then SN++[(st.loc,st.out)] else SN) L K (st.put d (.aT []))
  | _=>False
theorem ZF {g:Nat} {w:Bool} {op:aq}:bE P ((⟨d,op,some (g,w)⟩,ms)::r) SN L K ⟨t,l,σ⟩=gD P (t.getD g .any) w d op ms r SN L K ⟨t,l,σ⟩:=by
  simp only[bE,gD,ev];generalize t.getD g .any=v;cases v<;>first | rfl | (rename_i m;cases m<;>rfl)
theorem aeV {w:Bool} {op:aq}:gD P (.aT []) w d op ms r SN L K ⟨t,l,σ⟩=bE P r (if op.aR=true then SN++[(l,σ)] else SN) L K (St.put ⟨t,l,σ⟩ d (.aT [])):=rfl
theorem aeU {op:aq}:gD P (.bool true) true d op ms r SN L K st=bE P ((⟨d,op,none⟩,ms)::r) SN L K st:=rfl
theorem aeR {op:aq}:gD P (.bool false) false d op ms r SN L K st=bE P ((⟨d,op,none⟩,ms)::r) SN L K st:=rfl
theorem aeT {op:aq}:gD P (.bool true) false d op ms r SN L K ⟨t,l,σ⟩=bE P r (if op.aR=true then SN++[(l,σ)] else SN) L K (St.put ⟨t,l,σ⟩ d (.aT [])):=rfl
theorem aeS {op:aq}:gD P (.bool false) true d op ms r SN L K ⟨t,l,σ⟩=bE P r (if op.aR=true then SN++[(l,σ)] else SN) L K (St.put ⟨t,l,σ⟩ d (.aT [])):=rfl
theorem YC:mE SN []=True:=rfl
theorem YB {g:Bool} {n:Nat} {a v:V}:mE SN ((a,g,n,v,ms)::L)=(u7 SN g n a v ms∧mE SN L):=rfl
theorem YA {g:Bool} {n:Nat} {a v:V}:u7 SN g n a v []=True:=rfl
theorem Yz {g:Bool} {n m:Nat} {a v:V}:u7 SN g n a v (m::ms)=(nU (SN.getD m yN) g n a=some v∧u7 SN g n a v ms):=rfl
theorem ans {s u:ch}:(s::SN).getD 0 u=s:=rfl
theorem ant {s u:ch} {n:Nat}:(s::SN).getD (n+1) u=SN.getD n u:=rfl
theorem am9 {s:ch}:([]:List ch)++[s]=[s]:=rfl
theorem am_ {s u:ch}:(s::SN)++[u]=s::(SN++[u]):=rfl
theorem ahy {g:Bool} {n i o:Nat}:nU (l,σ) g n (.ptr (.loc i) o)=vV l[i]? g n o:=rfl
theorem ahz {g:Bool} {n i o:Nat}:nU (l,σ) g n (.ptr (.out i) o)=vV (σ.box i) g n o:=rfl
theorem ahx {g:Bool} {n i o:Nat}:nU (l,σ) g n (.ptr (.iB i) o)=vV (σ.bH i) g n o:=rfl
theorem ahw {g:Bool} {n o:Nat} {cs:List V} {s:ch}:nU s g n (.elt cs o)=a9 g n (cs.drop o):=rfl
def CA (P:Program) (l:List (List V)) (σ:ab) (o:List (AO × List Nat)) (K:St→Prop):Option (List V)→Prop
  | some t=>bE P o [(l,σ)] [] K ⟨t,l,σ⟩
  | none=>False
theorem aoL {Q:Exit→St→Prop} {o:List (AO × List Nat)} {nv:List Nat}:vc P (.s_ nv o) Q ⟨t,l,σ⟩=CA P l σ o (Q .normal) (pg nv t):=by
  simp only[vc];cases pg nv t with
  | none=>simp[CA]
  | some t' => simp[CA]
theorem Z0 {K:St→Prop} {o:List (AO × List Nat)}:CA P l σ o K (some t)=bE P o [(l,σ)] [] K ⟨t,l,σ⟩:=rfl
theorem Ws:pg [] t=some t:=rfl
def FD (b:Bool) (x:Option (List V)):Option (List V):=if b then x else none
theorem Wr {d:Nat} {ds:List Nat}:pg (d::ds) t=FD (decide (d<t.length)) (pg ds (t.set d .any)):=by
  simp only[pg,FD,cq]
theorem Wt {y:Option (List V)}:FD true y=y:=rfl
theorem aoN {Q:Exit→St→Prop} {o:List (AO × List Nat)} {h:HI}:vc P (.hole o h) Q ⟨t,l,σ⟩=bE P o [(l,σ)] [] (BO h (Q .normal)) ⟨t,l,σ⟩:=rfl
theorem af9 {h:HI}:BO h K ⟨t,l,σ⟩=E6 h K ⟨ni h t,l,σ⟩:=rfl
theorem aph {k:Nat} {a b c e f:X} {d9 d10 dF:Nat}:ni ⟨k,a,b,c,e,f,none,d9,d10,dF⟩ t=(t.set d9 .any).set d10 .any:=rfl
theorem api {k off:Nat} {a b c e f:X} {d9 d10 dF:Nat}:ni ⟨k,a,b,c,e,f,some off,d9,d10,dF⟩ t=((t.set d9 .any).set d10 .any).set dF .any:=rfl
theorem Rg {h:HI} {τ:Nat} {m:List (List V)} {c:List V} {t' : Tk} {j:IntKind} {p:V} {al : St} {cs:List V} (es:ev ⟨t,l,σ⟩ h.s = .sl (.tk τ) h.k m) (ez:ev ⟨t,l,σ⟩ h.z = .sl t' h.k [c])
    (el:ev ⟨t,l,σ⟩ h.len = .int j m.length) (hb:m.length+1≤aE) (ht:σ.aB τ=some m.length) (hx:(ev ⟨t,l,σ⟩ h.x).wd=some h.k∧bA (ev ⟨t,l,σ⟩ h.x).cells=true∧bd (ev ⟨t,l,σ⟩ h.x).cells=true)
    (hcs:aX (ev ⟨t,l,σ⟩ h.x).cells=cs) (hd:h.d9<t.length∧h.d10<t.length∧(h.fo.isSome=true→h.dF<t.length)) (hp:zO h.fo (ev ⟨t,l,σ⟩ h.addr)=some p)
    (dO:cr ⟨t,l,σ⟩ 1 (.sl (.tk τ) h.k (m++[cs])) p=some al) (hk:K ⟨al.t,al.loc,al.out.aK τ (m.length+1)⟩):E6 h K ⟨t,l,σ⟩ :=
  ⟨τ,m,c,t',j,es,ez,el,hb,ht,hx.1,hx.2.1,hx.2.2,hd.1,hd.2.1,hd.2.2,p,hp,al,by rw[hcs];exact dO,hk⟩
end
section
variable {x y z:X} {n m:Nat} {c:List V} {g:Bool} {bo:BinOp} {ks:List Nat} {xs ys:List X} {ps:List (Nat × Nat × X)} {fn:Fn} {ik:IntKind}
theorem aay:(aq.pick x y z).aR=false:=rfl
theorem Z7:(aq.alloc c).aR=true:=rfl
theorem aac:(aq.kH n x).aR=true:=rfl
theorem aab:(aq.box n x).aR=true:=rfl
theorem aae:(aq.build c ps).aR=false:=rfl
theorem aad:(aq.cB n xs).aR=false:=rfl
theorem aat:(aq.load g n x).aR=false:=rfl
theorem aaz:(aq.store n x y).aR=true:=rfl
theorem aaw:(aq.qZ x).aR=false:=rfl
theorem Z':(aq.de bo x y).aR=false:=rfl
theorem aaa:(aq.gP bo x y).aR=false:=rfl
theorem Z_:(aq.rG g x y).aR=false:=rfl
theorem aah:(aq.cat x y).aR=false:=rfl
theorem aak:(aq.jw g ks x y).aR=false:=rfl
theorem aax:(aq.not x).aR=false:=rfl
theorem aar:(aq.qU x).aR=false:=rfl
theorem aas:(aq.qV x).aR=false:=rfl
theorem aam:(aq.lq n x).aR=false:=rfl
theorem aan:(aq.oq g n m x).aR=false:=rfl
theorem aao:(aq.jH n x y).aR=false:=rfl
theorem aap {m k:Nat}:(aq.eJ m k x y).aR=false:=rfl
theorem aaq:(aq.pE x y).aR=false:=rfl
theorem aaf:(aq.call n xs).aR=true:=rfl
theorem aag:(aq.fR x xs).aR=true:=rfl
theorem Z8:(aq.app n x y).aR=true:=rfl
theorem Z9:(aq.jr x y).aR=true:=rfl
theorem aal:(aq.ext x n).aR=false:=rfl
theorem aau:(aq.gG fn xs ys).aR=false:=rfl
theorem aaj:(aq.lS ik x).aR=false:=rfl
theorem aai:(aq.qy x).aR=false:=rfl
theorem aav:(aq.mv x).aR=false:=rfl
end
section
variable {k:IntKind} {a b:Int} {c e:List V} {n m:Nat} {x y:V} {u v:List UInt8} {p q:Bool} {l:List (List V)} {τ:Tk}
theorem Dw:vO k k=true:=by cases k<;>rfl
theorem Xx {op:BinOp}:qu op (.int k a) (.int k b)=gg k a b op:=by simp[qu,Dw]
theorem agq:gg k a b .add=some (.int k (k.wrap (a+b))):=rfl
theorem agy:gg k a b .sub=some (.int k (k.wrap (a - b))):=rfl
theorem agw:gg k a b .mul=some (.int k (k.wrap (a*b))):=rfl
theorem agr:gg k a b .eql=some (.bool (decide (a=b))):=rfl
theorem agx:gg k a b .neq=some (.bool (!decide (a=b))):=rfl
theorem agv:gg k a b .lss=some (.bool (decide (a<b))):=rfl
theorem agu:gg k a b .leq=some (.bool (decide (a≤b))):=rfl
theorem agt:gg k a b .gtr=some (.bool (decide (b<a))):=rfl
theorem ags:gg k a b .geq=some (.bool (decide (b≤a))):=rfl
theorem Xy {op:BinOp}:u2 op (.str u) (.str v)=sv u v op:=rfl
theorem anW:sv u v .eql=some (.bool (decide (u=v))):=rfl
theorem an1:sv u v .neq=some (.bool (!decide (u=v))):=rfl
theorem an0:sv u v .lss=some (.bool (Op.bytesLess u v)):=rfl
theorem anZ:sv u v .leq=some (.bool (Op.bytesLess u v||decide (u=v))):=rfl
theorem anY:sv u v .gtr=some (.bool (!(Op.bytesLess u v||decide (u=v)))):=rfl
theorem anX:sv u v .geq=some (.bool (!Op.bytesLess u v)):=rfl
theorem aaI:th false (.bool p) (.bool q)=some (.bool (decide (p=q))):=rfl
theorem aaJ:th true (.bool p) (.bool q)=some (.bool (!decide (p=q))):=rfl
def Gf (neg:Bool):Option Bool→Option V | some b=>some (.bool (if neg then !b else b)) | none=>none
theorem aaL:Gf false (some p)=some (.bool p):=rfl
theorem aaM:Gf true (some p)=some (.bool (!p)):=rfl
theorem aaH {neg:Bool} {ks:List Nat}:tg neg ks (.agg c) (.agg e)=Gf neg (dU ks c e):=by
  simp only[tg];cases dU ks c e<;>rfl
def andM (b:Bool):Option Bool→Option Bool | some c=>some (b&&c) | none=>none
theorem rE:andM p (some q)=some (p&&q):=rfl
theorem PN:dU [] [] []=some true:=rfl
theorem ti {ks:List Nat}:dU (1::ks) (.int k a::c) (.int k b::e)=andM (decide (a=b)) (dU ks c e):=by
  simp only[dU,Dw,dP];cases dU ks c e<;>rfl
theorem PO {ks:List Nat}:dU (2::ks) (.str u::c) (.str v::e)=andM (decide (u=v)) (dU ks c e):=by
  simp only[dU];cases dU ks c e<;>rfl
theorem aaK {ks:List Nat}:dU (0::ks) (.bool p::c) (.bool q::e)=andM (decide (p=q)) (dU ks c e):=by
  simp only[dU];cases dU ks c e<;>rfl
theorem ao6:(V.agg c).wd=some c.length:=rfl
theorem ao_:(V.int k a).wd=some 1:=rfl
theorem ao7:(V.bool p).wd=some 1:=rfl
theorem apc:(V.str u).wd=some 1:=rfl
theorem apb:(V.sl τ n l).wd=some 1:=rfl
theorem apa {o:Pl}:(V.ptr o n).wd=some 1:=rfl
theorem ao8:(V.elt c n).wd=some 1:=rfl
theorem ao9 {f:Fn}:(V.fn f c e).wd=some 1:=rfl
theorem ao':V.kS.wd=some 1:=rfl
theorem Yn:(V.agg c).cells=c:=rfl
theorem Yr:(V.int k a).cells=[.int k a]:=rfl
theorem Yo:(V.bool p).cells=[.bool p]:=rfl
theorem Yx:(V.str u).cells=[.str u]:=rfl
theorem Yw:(V.sl τ n l).cells=[.sl τ n l]:=rfl
theorem Yv {o:Pl}:(V.ptr o n).cells=[.ptr o n]:=rfl
theorem Yp:(V.elt c n).cells=[.elt c n]:=rfl
theorem Yq {f:Fn}:(V.fn f c e).cells=[.fn f c e]:=rfl
theorem Ys:V.kS.cells=[.kS]:=rfl
theorem aka:bA []=true:=rfl
theorem aj':bA (x::c)=(x.one&&bA c):=rfl
theorem IY:(V.int k a).one=true:=rfl
theorem akb:(V.bool p).one=true:=rfl
theorem S4:(V.str u).one=true:=rfl
theorem akh:(V.sl τ n l).one=true:=rfl
theorem akg {o:Pl}:(V.ptr o n).one=true:=rfl
theorem akc:(V.elt c n).one=true:=rfl
theorem ake {f:Fn}:(V.fn f c e).one=true:=rfl
theorem akf:V.kS.one=true:=rfl
theorem aja:bd []=true:=rfl
theorem ai':bd (x::c)=(x.bS&&bd c):=rfl
theorem ajh:(V.int k a).bS=true:=rfl
theorem ajd:(V.bool p).bS=true:=rfl
theorem ajm:(V.str u).bS=true:=rfl
theorem ajl:(V.sl τ n l).bS=true:=rfl
theorem ajc:V.any.bS=true:=rfl
theorem ajj:(V.ptr (.out m) n).bS=true:=rfl
theorem ajg:(V.ptr (.iB m) n).bS=true:=rfl
theorem aje:(V.elt c n).bS=true:=rfl
theorem aji:V.kS.bS=true:=rfl
theorem ajb:(V.agg c).bS=bd c:=rfl
theorem ajn:(V.aT c).bS=bd c:=rfl
theorem ajf {f:Fn}:(V.fn f c e).bS=(bd c&&bd e):=rfl
theorem ajk {w:Value}:(V.raw w).bS=true:=rfl
theorem aaX:(V.int k a).erase = .int k a:=rfl
theorem aaU:(V.bool p).erase = .bool p:=rfl
theorem aa1:(V.str u).erase = .str u:=rfl
theorem aa0:(V.sl τ n l).erase = .sl .no n l:=rfl
theorem aaT:V.any.erase = .any:=rfl
theorem aaZ {o:Pl}:(V.ptr o n).erase = .ptr o n:=rfl
theorem aaV:(V.elt c n).erase = .elt c n:=rfl
theorem aaY:V.kS.erase = .kS:=rfl
theorem aaS:(V.agg c).erase = .agg (aX c):=rfl
theorem aa2:(V.aT c).erase = .aT (aX c):=rfl
theorem aaW {f:Fn}:(V.fn f c e).erase = .fn f c e:=rfl
theorem aaR:aX []=[]:=rfl
theorem aaQ:aX (x::c)=x.erase::aX c:=rfl
theorem afv:bD 0 c=true:=by cases c<;>rfl
theorem afu:bD (n+1) (x::c)=bD n c:=rfl
theorem kU:over c []=c:=by cases c<;>rfl
theorem mT:over (x::c) (y::e)=y::over c e:=rfl
theorem ku:setAt c 0 e=over c e:=by cases c<;>rfl
theorem iO:setAt (x::c) (n+1) e=x::setAt c n e:=rfl
theorem ahO:([]:List V).length=0:=rfl
theorem ahN:(x::c).length=c.length+1:=rfl
theorem ae6:(c::l)[0]?=some c:=rfl
theorem ae9:(c::l)[n+1]?=l[n]?:=by simp
theorem aiw:(c::l).set 0 e=e::l:=rfl
theorem aix:(c::l).set (n+1) e=c::l.set n e:=rfl
theorem Ww : ([]:List (List V))++l=l:=rfl
theorem Wv : (c::l)++[e]=c::(l++[e]):=rfl
theorem aoC:([]:List V)++c=c:=rfl
theorem aoB:(x::c)++e=x::(c++e):=rfl
theorem aih:([]:List (List V)).length=0:=rfl
theorem aif:(c::l).length=l.length+1:=rfl
theorem xH {a:Nat}:(a=a)=True:=by simp
theorem eqI {a:Int}:(a=a)=True:=by simp
theorem anJ {α:Type} {x y:α}:(some x=some y)=(x=y):=by simp
theorem akd:(1=1)=True:=by simp
theorem true_eq:(true=true)=True:=by simp
theorem abh : (false=true)=False:=by simp
theorem aou:(true&&p)=p:=rfl
theorem abq:(false&&p)=false:=rfl
theorem Wo:(p&&true)=p:=by simp
theorem Wn:(p&&false)=false:=by simp
theorem aov:(true||p)=true:=rfl
theorem abr:(false||p)=p:=rfl
theorem ako:(p||false)=p:=by simp
theorem ajr:(!true)=false:=rfl
theorem ajq:(!false)=true:=rfl
theorem agC {α:Type} {x y:α}:(if True then x else y)=x:=aw trivial
theorem agB {α:Type} {x y:α}:(if False then x else y)=y:=ah fun h=>h
theorem agE {x y:Prop}:(if True then x else y)=x:=aw trivial
theorem agD {x y:Prop}:(if False then x else y)=y:=ah fun h=>h
theorem aod {q:Prop}:(True∧q)=q:=by simp
theorem Wp {q:Prop}:(q∧True)=q:=by simp
theorem rlZ {x:V}:List.replicate 0 x=[]:=rfl
theorem rlS {x:V}:List.replicate (n+1) x=x::List.replicate n x:=rfl
theorem ah9 {v:V}:bZ (v::c) (.any::e)=bZ c e:=by simp[bZ,cz.any]
theorem aid {v:V}:bZ (v::c) (v::e)=bZ c e:=by simp[bZ,cz.rfl]
def E0:Env:=⟨default,fun _=>.const,fun _=>none,fun _=>none⟩
theorem aoV:cz (.int k a) (.int k b)=(a=b):=by
  refine propext ⟨fun h=>?_,fun h=>h▸cz.rfl⟩
  have:=h E0 (.int k a) (by simp[R])
  simpa [R] using this
theorem aoU:cz (.bool p) (.bool q)=(p=q):=by
  refine propext ⟨fun h=>?_,fun h=>h▸cz.rfl⟩
  have:=h E0 (.bool p) (by simp[R])
  simpa [R] using this
theorem aoW:cz (.str u) (.str v)=(u=v):=by
  refine propext ⟨fun h=>?_,fun h=>h▸cz.rfl⟩
  have:=h E0 (.string ⟨u.toArray⟩) (by simp[R])
  simpa [R] using this
theorem ah':bZ (.int k a::c) (.int k b::e)=(a=b∧bZ c e):=by simp[bZ,aoV]
theorem ah_:bZ (.bool p::c) (.bool q::e)=(p=q∧bZ c e):=by simp[bZ,aoU]
theorem aie:bZ (.str u::c) (.str v::e)=(u=v∧bZ c e):=by simp[bZ,aoW]
theorem aib:bZ (.sl τ n l::c) (.sl .no n l::e)=bZ c e:=by simp[bZ,cz.no]
theorem aij:bY [] []=True:=rfl
theorem aii {c e:List V} {l m:List (List V)}:bY (c::l) (e::m)=(bZ c e∧bY l m):=rfl
theorem aik {l:List (List V)}:bY l l=True:=by simp[bY.rfl]
theorem aj7 {σ:ab}:bC σ σ=True:=by simp[bC.rfl]
theorem aia:bZ [] []=True:=rfl
end
theorem aZ.enter {ι:Type} {I:ι→St} {t:List V} {l:List (List V)} {σ:ab} (j:ι) (h:bZ t (I j).t) (hl:bY l (I j).loc) (ho:bC σ (I j).out):aZ ⟨t,l,σ⟩ fun al => ∃i,al = I i :=
  aZ.dh h hl ho ⟨j,rfl⟩
theorem aZ.again {ι:Type} {I:ι→St} {μ:ι→Nat} {n:Nat} {t:List V} {l:List (List V)} {σ:ab} (j:ι) (hm:μ j<n) (h:bZ t (I j).t) (hl:bY l (I j).loc) (ho:bC σ (I j).out) :
    aZ ⟨t,l,σ⟩ fun al => ∃i,al = I i∧μ i<n:=aZ.dh h hl ho ⟨j,rfl,hm⟩
theorem wrap_i64 {x:Int} (h1 : -9223372036854775808≤x) (h2:x≤9223372036854775807):IntKind.i64.wrap x=x:=IntWalk.i64_in x ⟨h1,h2⟩
theorem ab.uv {σ:ab} {b:Nat} {cs:List V} (h:σ.box b=some cs):σ.set b cs=σ:=by
  cases σ;simp only[ab.set,ab.mk.injEq,eC];funext x;split
  · rename_i hx;rw[hx];exact h.symm
  · rfl
theorem ab.set_set {σ:ab} {b:Nat} {cs ds:List V}:(σ.set b cs).set b ds=σ.set b ds:=by
  simp only[ab.set,ab.mk.injEq,eC];funext x;split<;>rfl
theorem ab.set_comm {σ:ab} {b c:Nat} {cs ds:List V} (h:b≠c):(σ.set b cs).set c ds=(σ.set c ds).set b cs:=by
  simp only[ab.set,ab.mk.injEq,eC];funext x
  by_cases h1:x=c
  · subst h1;rw[aw rfl,ah (fun h2=>h h2.symm),aw rfl]
  · rw[ah h1,ah h1]
def gz (τ n:Nat) (v v' : V):Prop:=∀E E',E.le E' → E'.aB τ=some n→∀u,R E v u→R E' v' u
theorem gz.same {τ n:Nat} {v:V}:gz τ n v v:=fun _ _ h _ _ hr=>hr.mono _ h
theorem gz.le {τ n:Nat} {v v' : V} (h:cz v v'):gz τ n v v' := fun _ _ hl _ _ hr=>(h _ _ hr).mono _ hl
theorem gz.tok {τ n k:Nat} {m:List (List V)} (h:m.length=n):gz τ n (.sl .full k m) (.sl (.tk τ) k m):=fun E E' hl ht u hr=>by
  have bF := hr.mono _ hl;simp only[R] at bF ⊢;obtain⟨a,cap,h1,h2,h3,h4⟩:=bF;exact⟨a,cap,h1,h2,h3,n,ht,by omega,fun _=>.inl h4⟩
def dc (τ n:Nat):List V→List V→Prop
  | [],[]=>True
  | v::l,v' :: l' => gz τ n v v' ∧ dc τ n l l'
  | _,_=>False
theorem dc.rfl {τ n:Nat}:∀{l:List V},dc τ n l l
  | []=>trivial
  | _::_=>⟨gz.same,dc.rfl⟩
theorem dc.mono {τ n:Nat} {E E' : Env} (hl:E.le E') (ht:E'.aB τ=some n):∀{l l' : List V} {us:List Value},dc τ n l l' → RL E l us→RL E' l' us
  | [],[],[],_,_=>by simp[RL]
  | [],[],_::_,_,h=>by simp[RL] at h
  | [],_::_,_,h,_=>h.elim
  | _::_,[],_,h,_=>h.elim
  | v::l,v' :: l',[],_,h=>by simp[RL] at h
  | v :: l, v' :: l', u :: us, h, hr => by
    simp only[RL] at hr ⊢;exact⟨h.1 _ _ hl ht _ hr.1,dc.mono hl ht h.2 hr.2⟩
theorem dc.length {τ n:Nat}:∀{l l' : List V},dc τ n l l' → l.length=l'.length
  | [],[],_=>Eq.refl _
  | [],_::_,h=>h.elim
  | _::_,[],h=>h.elim
  | v::l,v' :: l',h=>by simp[dc.length h.2]
theorem dc.get {τ n:Nat}:∀{l l' : List V},dc τ n l l' → ∀(j:Nat) v',l'[j]?=some v' → ∃v,l[j]?=some v∧gz τ n v v'
  | [],[],_,j,v',h=>by simp at h
  | [],_::_,h,_,_,_=>h.elim
  | _::_,[],h,_,_,_=>h.elim
  | v :: l, w :: l', h, j, v', hj => by
    cases j with
    | zero=>simp at hj;subst hj;exact⟨v,by simp,h.1⟩
    | succ j=>simp at hj;obtain⟨u,h1,h2⟩:=dc.get h.2 j v' hj;exact⟨u,by simpa using h1,h2⟩
theorem gx.tok {τ n:Nat} {E E' : Env} (hl:E.le E') (ht:E'.aB τ=some n) {b:Nat} {cs cs' : List V} (hw:E'.w=E.w) (h:dc τ n cs cs') (k:gx E b cs):gx E' b cs' := by
  obtain⟨c,e,h1,h2,h3⟩:=k;refine⟨c,e,by rw[hw];exact h1,by rw[←h.length];exact h2,fun j x hx=>?_⟩;obtain⟨v,hv,hle⟩:=h.get j x hx;obtain⟨u,k1,k2⟩:=h3 j v hv;exact⟨u,k1,hle _ _ hl ht _ k2⟩
structure np (τ n:Nat) (σ σ' : ab):Prop where
  box:∀b cs',σ'.box b=some cs' → ∃cs,σ.box b=some cs∧dc τ n cs cs'
  aB:∀υ m,σ'.aB υ=some m→σ.aB υ=some m
  bH:∀b cs,σ'.bH b=some cs→σ.bH b=some cs
theorem np.rfl {τ n:Nat} {σ:ab}:np τ n σ σ:=⟨fun _ cs h=>⟨cs,h,dc.rfl⟩,fun _ _ h=>h,fun _ _ h=>h⟩
theorem np.set {τ n b:Nat} {σ:ab} {cs cs' : List V} (h:σ.box b=some cs) (k:dc τ n cs cs'):np τ n σ (σ.set b cs'):=by
  refine⟨fun c ds iX=>?_,fun _ _ h=>h,fun _ _ h=>h⟩;simp only[ab.set] at iX;split at iX
  · rename_i hc;subst hc;simp only[aG] at iX;subst iX;exact⟨cs,h,k⟩
  · exact⟨ds,iX,dc.rfl⟩
theorem aZ.tok {t:List V} {l:List (List V)} {σ:ab} {K:St→Prop} (n:Nat) (h:∀τ,σ.aB τ=none→∃t' l' σ',dc τ n t t' ∧ l.length=l'.length∧(∀(i:Nat) c',l'[i]?=some c' → ∃c,l[i]?=some c∧dc τ n c c')∧np τ n σ σ' ∧ K ⟨t',l',σ'.aK τ n⟩) :
    aZ ⟨t,l,σ⟩ K:=by
  intro E a hs;obtain⟨N,hN⟩:=hs.ok.nt;have Hk:σ.aB N=none:=by
    cases hq:σ.aB N with
    | none=>rfl
    | some m=>have:=hs.ok.aB N m hq;rw[hN N (bt _)] at this;simp at this
  obtain⟨t',l',σ',h1,h2,h3,h4,h5⟩:=h N Hk
  let E' : Env:={E with aB:=fun t=>if t=N then some n else E.aB t}
  have ht:E'.aB N=some n:=by simp[E']
  have aQ:Fr E E' := tz (E' := E') hs.ok.fresh (Ext.refl _) (fun _ _=>rfl) (fun t m hm=>by
    simp only[E'];split
    · rename_i hq;subst hq;rw[hN t (bt _)] at hm;simp at hm
    · exact hm)
  have hle:E.le E' := aQ.le fun _ _ h=>h
  refine⟨E',_,rfl,aQ,⟨⟨fun b cs hcs=>?_,fun τ m hm=>?_,hs.ok.fresh,?_,fun b cs hc=>cJ.mono _ aQ.nl (hs.ok.bH b cs (h4.bH b cs hc))⟩,⟨fun i cs hcs=>?_,fun i hi=>hs.bW.none i (by rw[h2];exact hi)⟩,hs.defers,h1.mono hle ht hs.slot⟩,h5⟩
  · obtain⟨u_,q1,q2⟩:=h4.box b cs hcs;obtain⟨k1,k2⟩:=hs.ok.box b u_ q1;exact⟨k1,k2.tok aQ.nl ht rfl q2⟩
  · simp only[ab.aK] at hm;simp only[E'];split at hm
    · rename_i hq;rw[aw hq];exact hm
    · rename_i hq;rw[ah hq];exact hs.ok.aB τ m (h4.aB τ m hm)
  · exact⟨N+1,fun t yk => by simp only[E'];rw[ah (by omega)];exact hN t (by omega)⟩
  · obtain⟨c,q1,q2⟩:=h3 i cs hcs;obtain⟨b,k1,k2,k3⟩:=hs.bW.box i c q1;exact⟨b,k1,k2,k3.tok hle ht rfl q2⟩
def am:=And.intro @ab.set_set <| And.intro @aoL <| And.intro @Z0 <| And.intro @Ws <| And.intro @Wr <| And.intro @Wt <| And.intro @Zt <| And.intro @aac <| And.intro (And.intro (And.intro (And.intro (And.intro (And.intro (And.intro @ZO @ag8) (And.intro @ZN (And.intro @ZR @akT))) (And.intro (And.intro @akR @akS) (And.intro @akU (And.intro @Zn @Zs)))) (And.intro (And.intro (And.intro @Zv @Zu) (And.intro @ahv (And.intro @ZL @anM))) (And.intro (And.intro @ZU (And.intro @ZP @Zq)) (And.intro @Zr (And.intro @Zp @Zy))))) (And.intro (And.intro (And.intro (And.intro @ZB @ZQ) (And.intro @ZJ (And.intro @ZK @ZD))) (And.intro (And.intro @ZE (And.intro @ZG @ZI)) (And.intro @ag6 (And.intro @Zw @Zx)))) (And.intro (And.intro (And.intro @Ya @Zo) (And.intro @ZC (And.intro @ZM @ZA))) (And.intro (And.intro @ZF (And.intro (And.intro @aeV @aeU) @aeR)) (And.intro @aeT (And.intro @aeS @YC)))))) (And.intro (And.intro (And.intro (And.intro (And.intro @YB @YA) (And.intro @Yz (And.intro @ans @ant))) (And.intro (And.intro @am9 @am_) (And.intro @ahy (And.intro @ahz (And.intro @ahx @ahw))))) (And.intro (And.intro (And.intro @aoN @af9) (And.intro @aph (And.intro @api @aay))) (And.intro (And.intro @Z7 (And.intro @aab @aae)) (And.intro @aad (And.intro @aat @aaz))))) (And.intro (And.intro (And.intro (And.intro @aaw @Z') (And.intro @aaa (And.intro @Z_ @aah))) (And.intro (And.intro @aak (And.intro @aax @aar)) (And.intro @aas (And.intro @aam @aan)))) (And.intro (And.intro (And.intro @aao @aaq) (And.intro @aaf (And.intro @aag @Z8))) (And.intro (And.intro @Z9 (And.intro @aal @aau)) (And.intro @aaj (And.intro @aai @aav))))))) <| And.intro @ah' <| And.intro @ah_ <| And.intro @aie <| And.intro @aib <| And.intro @aij <| And.intro @aii <| And.intro @aik <| And.intro @aj7 <| And.intro @ah9 <| And.intro @aid <| And.intro @aia <| And.intro @gh <| And.intro @qk <| And.intro @xH <| And.intro @eqI <| And.intro @agE <| And.intro @agD <| (And.intro (And.intro (And.intro (And.intro (And.intro (And.intro (And.intro @aoS (And.intro @aoO @aoT)) (And.intro (And.intro @aoK @aoR) (And.intro @aoJ @aoH))) (And.intro (And.intro (And.intro @aoG @aoI) (And.intro @aoM @aoP)) (And.intro (And.intro @W6 @W5) (And.intro @W7 @XB)))) (And.intro (And.intro (And.intro @XC (And.intro @XA @ait)) (And.intro (And.intro @aiv @aiu) (And.intro @amu @amt))) (And.intro (And.intro (And.intro @akn @am0) (And.intro @YT @amZ)) (And.intro (And.intro @amY @amX) (And.intro @aj_ @aj9))))) (And.intro (And.intro (And.intro (And.intro @aj8 (And.intro @aiI @aa7)) (And.intro (And.intro @aa5 @aa9) (And.intro @aa8 @ae8))) (And.intro (And.intro (And.intro @ae7 @anr) (And.intro @anp @als)) (And.intro (And.intro @alr @ajW) (And.intro @ag9 @akk)))) (And.intro (And.intro (And.intro (And.intro @ajV @aj0) (And.intro @akX @akV)) (And.intro (And.intro @akW @akY) (And.intro @aju @ajB))) (And.intro (And.intro (And.intro @ajv @ajC) (And.intro @ajE @akl)) (And.intro (And.intro @ajD @o_load) (And.intro @akm @aj3)))))) (And.intro (And.intro (And.intro (And.intro (And.intro @ajX (And.intro @ai5 @ai3)) (And.intro (And.intro @ai4 @ajz) (And.intro @ajA @ajy))) (And.intro (And.intro (And.intro @ajH @Yf) (And.intro @ajK @ajY)) (And.intro (And.intro @ajp @ajS) (And.intro @ahL @ajT)))) (And.intro (And.intro (And.intro @ahM (And.intro @ajM @abI)) (And.intro (And.intro @abH @ajN) (And.intro @abJ @ajP))) (And.intro (And.intro (And.intro @ajR @ajF) (And.intro @ag7 @ajG)) (And.intro (And.intro @Yb @ajw) (And.intro @ajL @abb))))) (And.intro (And.intro (And.intro (And.intro @aba (And.intro @ajU @ajJ)) (And.intro (And.intro @Zl @ajO) (And.intro (And.intro @ae0 @aeZ) @aeW))) (And.intro (And.intro (And.intro @aeY @aeX) (And.intro @ahC (And.intro @ahD @ahB))) (And.intro (And.intro @ahA @aht) (And.intro @vW @ahu)))) (And.intro (And.intro (And.intro (And.intro @an' @J5) (And.intro @aiH @Z4)) (And.intro (And.intro @Z3 @anP) (And.intro @anN @anQ))) (And.intro (And.intro (And.intro @anO @gU) (And.intro (And.intro (And.intro @anm @ank) @anj) @anq)) (And.intro (And.intro @JQ @XE) (And.intro @XD @Xz))))))) (And.intro (And.intro (And.intro (And.intro (And.intro (And.intro @amL (And.intro @amK @amE)) (And.intro (And.intro @amA @Xx) (And.intro @agq @agy))) (And.intro (And.intro (And.intro @agw @agr) (And.intro @agx @agv)) (And.intro (And.intro @agu @agt) (And.intro @ags @Xy)))) (And.intro (And.intro (And.intro @anW (And.intro @an1 @an0)) (And.intro (And.intro @anZ @anY) (And.intro @anX @aaI))) (And.intro (And.intro (And.intro @aaJ @aaL) (And.intro @aaM @aaH)) (And.intro (And.intro @rE @PN) (And.intro @ti @PO))))) (And.intro (And.intro (And.intro (And.intro @aaK (And.intro @ao6 @ao_)) (And.intro (And.intro @ao7 @apc) (And.intro @apb @apa))) (And.intro (And.intro (And.intro @ao8 @ao9) (And.intro @ao' @Yn)) (And.intro (And.intro @Yr @Yo) (And.intro @Yx @Yw)))) (And.intro (And.intro (And.intro (And.intro @Yv @Yp) (And.intro @Yq @Ys)) (And.intro (And.intro @aka @aj') (And.intro @IY @akb))) (And.intro (And.intro (And.intro @S4 @akh) (And.intro @akg @akc)) (And.intro (And.intro @ake @akf) (And.intro @aja @ai')))))) (And.intro (And.intro (And.intro (And.intro (And.intro @ajh (And.intro @ajd @ajm)) (And.intro (And.intro @ajl @ajc) (And.intro (And.intro @ajj @ajg) @aje))) (And.intro (And.intro (And.intro @aji @ajb) (And.intro @ajn @ajf)) (And.intro (And.intro @ajk @aaX) (And.intro @aaU @aa1)))) (And.intro (And.intro (And.intro (And.intro @aa0 @aaT) (And.intro @aaZ @aaV)) (And.intro (And.intro @aaY @aaS) (And.intro @aa2 @aaW))) (And.intro (And.intro (And.intro @aaR @aaQ) (And.intro @afv @afu)) (And.intro (And.intro @kU @mT) (And.intro @ku @iO))))) (And.intro (And.intro (And.intro (And.intro @ahO (And.intro @ahN @ae6)) (And.intro (And.intro @ae9 @aiw) (And.intro @aix @Ww))) (And.intro (And.intro (And.intro @Wv @aoC) (And.intro @aoB @aih)) (And.intro (And.intro @aif @anJ) (And.intro @akd @true_eq)))) (And.intro (And.intro (And.intro (And.intro @abh @aou) (And.intro @abq @Wo)) (And.intro (And.intro @Wn @aov) (And.intro @abr @ako))) (And.intro (And.intro (And.intro @ajr @ajq) (And.intro @agC @agB)) (And.intro (And.intro @aod @Wp) (And.intro @rlZ @rlS))))))))
section
variable {τ n k:Nat} {v v' : V} {c e t:List V} {l l' : List (List V)} {σ:ab}
theorem aoX:gz τ n v .any=True:=by simp[gz.le cz.any]
theorem aoY:gz τ n v v=True:=by simp[gz.same]
theorem aoZ:gz τ 0 (.sl .full k []) (.sl (.tk τ) k [])=True:=by simp[gz.tok]
theorem aiy:dc τ n (v::c) (v' :: e)=(gz τ n v v' ∧ dc τ n c e):=rfl
theorem aiz:dc τ n [] []=True:=rfl
theorem aiA:dc τ n c c=True:=by simp[dc.rfl]
def mQ:=And.intro @aoX <| And.intro @aoY <| And.intro @aoZ <| And.intro @aiy <| And.intro @aiz @aiA
theorem aZ.wC {ι:Type} {I:ι→St} (n:Nat) (h:∀τ,σ.aB τ=none→∃i,dc τ n t (I i).t∧l=(I i).loc∧(I i).out=σ.aK τ n):aZ ⟨t,l,σ⟩ fun al => ∃i,al = I i :=
  aZ.tok n fun τ ba=>by
    obtain⟨i,h1,h2,h3⟩:=h τ ba;refine⟨(I i).t,(I i).loc,σ,h1,by rw[h2],fun j c' hc=>⟨c',by rw[h2];exact hc,dc.rfl⟩,np.rfl,i,?_⟩;rw[←h3]
theorem ji {τ m n:Nat}:(σ.aK τ m).aK τ n=σ.aK τ n:=by
  simp only[ab.aK,ab.mk.injEq,o7,eC];funext x;split<;>rfl
theorem pY {τ n:Nat} (h:σ.aB τ=none):σ.sub (σ.aK τ n):=by
  refine⟨fun _ _ h=>h,fun υ m hm=>?_,fun _ _ h=>h⟩
  have:υ≠τ:=by rintro rfl;rw[h] at hm;simp at hm
  simp only[ab.aK];rw[ah this];exact hm
theorem kv {τ n:Nat}:(σ.aK τ n).aB τ=some n:=by simp[ab.aK]
end
theorem Br {α:Type} {l:List α} {i:Nat} {x:α} (h:l[i]?=some x):l.take (i+1)=l.take i++[x]:=by rw[List.take_add_one,h];simp
mutual
def V.lo (n:Nat):V→Bool
  | .ptr (.loc i) _=>decide (i<n)
  | .agg cs=>bn n cs
  | .aT cs=>bn n cs
  | .fn _ a b=>bn n a&&bn n b
  | _=>true
def bn (n:Nat):List V→Bool
  | []=>true
  | x::xs=>x.lo n&&bn n xs
end
def cK (n:Nat):List (List V)→Bool
  | []=>true
  | x::xs=>bn n x&&cK n xs
def Env.cut (E:Env) (n:Nat):Env:={E with loc:=fun i=>if i<n then E.loc i else none}
mutual
theorem R.cut {n:Nat}:∀(x:V) {E:Env} {v:Value},x.lo n=true→R E x v→R (E.cut n) x v
  | .any,_,_,_,_=>by simp only[R]
  | .bool _,_,_,_,h=>by simp only[R] at h ⊢;exact h
  | .int _ _,_,_,_,h=>by simp only[R] at h ⊢;exact h
  | .str _,_,_,_,h=>by simp only[R] at h ⊢;exact h
  | .kS,_,_,_,h=>by simp only[R] at h ⊢;exact h
  | .ptr (.loc i) off, E, _, hl, h => by
    simp only[V.lo,cq] at hl;simp only[R] at h ⊢;obtain⟨b,h1,h2⟩:=h;exact⟨b,by simp[Env.cut,hl,h1],h2⟩
  | .ptr (.out _) _,_,_,_,h=>by simp only[R] at h ⊢;exact h
  | .ptr (.iB _) _,_,_,_,h=>by simp only[R] at h ⊢;exact h
  | .elt _ _,_,_,_,h=>by simp only[R] at h ⊢;exact h
  | .sl _ _ _,_,_,_,h=>by simp only[R] at h ⊢;exact h
  | .agg cs, _, _, hl, h => by
    simp only[V.lo] at hl;simp only[R] at h ⊢;obtain⟨vs,h1,h2⟩:=h;exact⟨vs,h1,RL.cut cs hl h2⟩
  | .aT cs, _, _, hl, h => by
    simp only[V.lo] at hl;simp only[R] at h ⊢;obtain⟨vs,h1,h2⟩:=h;exact⟨vs,h1,RL.cut cs hl h2⟩
  | .fn _ a b, _, _, hl, h => by
    simp only[V.lo,bm] at hl;simp only[R] at h ⊢;obtain⟨fs,cs,h1,h2,h3⟩:=h;exact⟨fs,cs,h1,RL.cut a hl.1 h2,RL.cut b hl.2 h3⟩
  | .raw _,_,_,_,h=>by simp only[R] at h ⊢;exact h
theorem RL.cut {n:Nat}:∀(l:List V) {E:Env} {vs:List Value},bn n l=true→RL E l vs→RL (E.cut n) l vs
  | [],_,[],_,_=>by simp only[RL]
  | [],_,_::_,_,h=>by simp only[RL] at h
  | _::_,_,[],_,h=>by simp only[RL] at h
  | x :: xs, _, v :: vs, hl, h => by
    simp only[bn,bm] at hl;simp only[RL] at h ⊢;exact⟨R.cut x hl.1 h.1,RL.cut xs hl.2 h.2⟩
end
theorem Sr {n:Nat}:∀{l:List V} {j:Nat} {x:V},bn n l=true→l[j]?=some x→x.lo n=true
  | [],j,x,_,h=>by simp at h
  | y::ys,0,x,hl,h=>by simp only[bn,bm] at hl;simp at h;rw[←h];exact hl.1
  | y::ys,j+1,x,hl,h=>by simp only[bn,bm] at hl;exact Sr hl.2 (by simpa using h)
theorem Sq {n:Nat}:∀{l:List (List V)} {j:Nat} {x:List V},cK n l=true→l[j]?=some x→bn n x=true
  | [],j,x,_,h=>by simp at h
  | y::ys,0,x,hl,h=>by simp only[cK,bm] at hl;simp at h;rw[←h];exact hl.1
  | y::ys,j+1,x,hl,h=>by simp only[cK,bm] at hl;exact Sq hl.2 (by simpa using h)
theorem gx.cut {E:Env} {n b:Nat} {cs:List V} (h:bn n cs=true) (k:gx E b cs):gx (E.cut n) b cs:=by
  obtain⟨c,e,h1,h2,h3⟩:=k;exact⟨c,e,h1,h2,fun j x hx=>by
    obtain⟨u,k1,k2⟩:=h3 j x hx;exact⟨u,k1,R.cut x (Sr h hx) k2⟩⟩
theorem Fr.cut (E:Env) (n:Nat):Fr E (E.cut n) :=
  ⟨rfl,rfl,rfl,bt _,fun _=>rfl,(Env.le.refl E).cell,(Env.le.refl E).tok,fun _ _ _=>⟨rfl,rfl⟩,fun _ _ h=>.inl h,fun _ _ c _ h=>⟨c,h⟩,fun _ i _ h=>⟨i,h⟩,fun _ c _ h=>⟨c,h,rfl⟩⟩
theorem aZ.drop {t:List V} {l l2:List (List V)} {σ:ab} {K:St→Prop} (ht:bn l.length t=true) (hl:cK l.length l=true) (hk:K ⟨t,l,σ⟩):aZ ⟨t,l++l2,σ⟩ K:=by
  intro E a hs;refine⟨E.cut l.length,⟨t,l,σ⟩,rfl,Fr.cut E _,⟨⟨hs.ok.box,hs.ok.aB,hs.ok.fresh,hs.ok.nt,hs.ok.bH⟩,⟨fun i cs hcs=>?_,fun i hi=>?_⟩,hs.defers,RL.cut _ ht hs.slot⟩,hk⟩
  · have hi:i<l.length:=(dj.1 hcs).1;obtain⟨b,k1,k2,k3⟩:=hs.bW.box i cs (by rw[nk hi];exact hcs);exact⟨b,by simp[Env.cut,hi,k1],k2,k3.cut (Sq hl hcs)⟩
  · simp only[Env.cut];rw[ah (by simp only at hi;omega)]
theorem bY.app:∀{l l' m:List (List V)},bY (l.take l'.length) l' → bY l (l' ++ l.drop l'.length)
  | [],[],_,_=>trivial
  | [],_::_,_,h=>h.elim
  | v::l,[],m,_=>by simp[bY.rfl]
  | v :: l, w :: l', m, h => by
    simp only[cF,nn,bY] at h;simp only[cF,gN,zb,bY];exact⟨h.1,bY.app (m:=m) h.2⟩
theorem aZ.xD {t t' : List V} {l l' : List (List V)} {σ σ' : ab} {K:St→Prop} (h:bZ t t') (hl:bY (l.take l'.length) l') (ho:bC σ σ') (h1:bn l'.length t' = true) (h2:cK l'.length l' = true) (hk:K ⟨t',l',σ'⟩):aZ ⟨t,l,σ⟩ K :=
  (aZ.dh (K:=fun st=>st=⟨t',l' ++ l.drop l'.length,σ'⟩) h (bY.app (m:=[]) hl) ho rfl).bind fun _ e=>e▸aZ.drop h1 h2 hk
theorem aZ.qq {ι:Type} {I:ι→St} {μ:ι→Nat} {n:Nat} {t:List V} {l:List (List V)} {σ:ab} (j:ι) (hm:μ j<n) (h:bZ t (I j).t) (hl:bY (l.take (I j).loc.length) (I j).loc) (ho:bC σ (I j).out) (h1:bn (I j).loc.length (I j).t=true) (h2:cK (I j).loc.length (I j).loc=true) :
    aZ ⟨t,l,σ⟩ fun al => ∃i,al = I i∧μ i<n:=aZ.xD h hl ho h1 h2 ⟨j,rfl,hm⟩
section
variable {P:Program} {d:Option Nat} {q:OQ} {xs:List X} {r:List AO} {K:St→Prop} {t:List V} {l:List (List V)} {σ:ab}
theorem ajZ:bq P (⟨d,.own q xs,none⟩::r) K ⟨t,l,σ⟩=q.aL σ (kC P d r K t l) (b9 ⟨t,l,σ⟩ xs):=rfl
theorem akx {H:V→ab→Prop}:OQ.aL σ H .nil []=H (.raw (.slice none 0 0)) σ:=rfl
theorem aic {u:Value} {c e:List V}:bZ (.raw u::c) (.raw u::e)=bZ c e:=by simp[bZ,cz.rfl]
def lP:=And.intro @ajZ <| And.intro @akx @aic
def dd (σ:ab) (k:Nat) (v:V) (rows:List (List V)):Prop :=
  ∃a cap,v = .raw (.slice a rows.length cap)∧rows.length≤cap∧(∀r∈rows,r.length=k)∧(cap=0∨∃b cs,a=some ⟨b,0,none⟩∧σ.box b=some cs∧cs.length=cap*k∧cs.take (rows.length*k)=rows.flatten)
def mf:V→Option Nat
  | .raw (.slice (some ⟨b,_,_⟩) _ _)=>some b
  | _=>none
theorem dd.none {k:Nat}:dd σ k (.raw (.slice none 0 0)) []:=⟨_,0,rfl,by simp,by simp,.inl rfl⟩
theorem dd.len {k:Nat} {v:V} {rows:List (List V)} {H:V→ab→Prop} (h:dd σ k v rows) (hk:H (.int .i64 rows.length) σ):OQ.aL σ H .len [v]:=by
  obtain⟨a,cap,rfl,_⟩:=h;exact hk
theorem dd.frame {σ' : ab} {k:Nat} {v:V} {rows:List (List V)} (h:dd σ k v rows) (hb:∀b cs,mf v=some b→σ.box b=some cs→σ'.box b=some cs):dd σ' k v rows:=by
  obtain⟨a,cap,rfl,h1,h2,h3⟩:=h;refine⟨a,cap,rfl,h1,h2,?_⟩
  rcases h3 with h3 | ⟨b,cs,rfl,h4,h5⟩
  · exact .inl h3
  · exact .inr ⟨b,cs,rfl,hb b cs rfl h4,h5⟩
theorem CO {k:Nat}:∀{rows:List (List V)} {m:Nat},(∀r∈rows,r.length=k)→rows.flatten.take (m*k)=(rows.take m).flatten
  | [],m,_=>by simp
  | r::rows,0,_=>by simp
  | r :: rows, m + 1, h => by
    simp only[c7] at h;rw[iQ,nn,iQ,gb,sT,List.take_append,h.1,wR (by omega),show m*k+k - k=m*k by omega,CO h.2]
theorem CN {k:Nat}:∀{rows:List (List V)} {m:Nat},(∀r∈rows,r.length=k)→rows.flatten.drop (m*k)=(rows.drop m).flatten
  | [],m,_=>by simp
  | r::rows,0,_=>by simp
  | r :: rows, m + 1, h => by
    simp only[c7] at h;rw[iQ,zb,gb,sT,List.drop_append,h.1,BQ (by omega),show m*k+k - k=m*k by omega,iS,CN h.2]
theorem dd.idx {k:Nat} {v:V} {rows:List (List V)} {H:V→ab→Prop} {j:Int} {i:IntKind} {c:List V} (h:dd σ k v rows) (h0:0≤j) (hj:rows[j.toNat]?=some c)
    (hk:∀b cs rest,mf v=some b→σ.box b=some cs→cs.drop (j.toNat*k)=c++rest→H (.ptr (.out b) (j.toNat*k)) σ):OQ.aL σ H (.idx k) [v,.int i j]:=by
  obtain⟨a,cap,rfl,h1,h2,h3⟩:=h;have ag:=(dj.1 hj).1
  rcases h3 with h3 | ⟨b,cs,rfl,h4,h5,h6⟩
  · omega
  · have e1:cs=rows.flatten++cs.drop (rows.length*k):=by rw[←h6];simp
    have e2:rows.drop j.toNat=c::rows.drop (j.toNat+1):=by
      rw[jU ag,(dj.1 hj).2]
    have jA:=iA h2;have e3:cs.drop (j.toNat*k)=c++((rows.drop (j.toNat+1)).flatten++cs.drop (rows.length*k)):=by
      have hle:j.toNat*k≤rows.length*k:=mA _ (by omega);rw[e1,KN (by rw[jA];exact hle),CN h2,e2,iQ,eh];congr 2;rw[List.drop_append,jA];simp[BQ,jA]
    show 0≤j∧j<(rows.length:Nat)∧H (.ptr (.out b) (0+j.toNat*k)) σ;rw[gh];exact⟨h0,by omega,hk b cs _ rfl h4 e3⟩
theorem dd.take {k m:Nat} {v:V} {rows:List (List V)} {H:V→ab→Prop} {i:IntKind} {j:Int} (h:dd σ k v rows) (h0:0≤j) (hj:j.toNat=m) (hm:m≤rows.length) (hk:∀v',dd σ k v' (rows.take m)→mf v' = mf v→H v' σ):OQ.aL σ H (.j_ k false true false) [v,.int i j]:=by
  obtain⟨a,cap,rfl,h1,h2,h3⟩:=h;show iU false 0 [.int i j] fun m vs=>iU true rows.length vs fun h vs=>iU false cap vs fun M vs=>vs=[]∧m≤h∧h≤M∧M≤cap∧H (.raw (.slice (if M=m then a else a.map (·.add (m*k))) (h - m) (M - m))) σ
  refine⟨h0,rfl,by omega,by omega,bt _,?_⟩;have ea:(if cap=0 then a else a.map (·.add (0*k)))=a:=by
    split
    · rfl
    · rcases h3 with h3 | ⟨b,cs,rfl,_⟩
      · omega
      · simp[jq]
  rw[ea,hj];refine hk _ ⟨a,cap,?_,?_,fun r hr=>h2 r (ru hr),?_⟩ (by cases a with
    | none=>rfl
    | some ad=>cases ad;rfl)
  · rw[gO,qm hm];rfl
  · rw[gO];omega
  · rcases h3 with h3 | ⟨b,cs,rfl,h4,h5,h6⟩
    · exact .inl h3
    · refine .inr ⟨b,cs,rfl,h4,h5,?_⟩;rw[gO,qm hm,←CO h2,←h6,List.take_take,qm (mA _ hm)]
structure rA (σ:ab) (v:V) (σ' : ab) (v' : V):Prop where
  jI:∀b cs,σ.box b=some cs→mf v≠some b→σ'.box b=some cs
  aB:σ'.aB=σ.aB
  new:∀b,mf v' = some b→mf v=some b∨σ.box b=none
  bH:σ'.bH=σ.bH
theorem JN {k n:Nat}:∀{cs xs ys:List V},cs.take n=ys→n+xs.length≤cs.length→ys.length=n→(setAt cs n xs).take (n+xs.length)=ys++xs∧(setAt cs n xs).length=cs.length:=by
  intro cs xs ys h1 h2 h3;have ov:∀{cs xs:List V},xs.length≤cs.length→(over cs xs).take xs.length=xs∧(over cs xs).length=cs.length:=by
    intro cs;induction cs with
    | nil=>intro xs h;cases xs with | nil=>simp[over] | cons x xs=>simp at h
    | cons c cs ih =>
      intro xs h;cases xs with
      | nil=>simp[over]
      | cons x xs =>
        obtain⟨k1,k2⟩:=ih (xs:=xs) (by simpa using h);simp[over,k1,k2]
  induction n generalizing cs ys with
  | zero =>
    simp at h3;subst h3;obtain⟨k1,k2⟩:=ov (cs:=cs) (xs:=xs) (by omega);have e:setAt cs 0 xs=over cs xs:=by cases cs<;>rfl
    rw[e];simpa using ⟨k1,k2⟩
  | succ n ih =>
    cases cs with
    | nil=>simp at h2
    | cons c cs =>
      cases ys with
      | nil=>simp at h3
      | cons y ys =>
        simp only[nn,eP] at h1;obtain⟨k1,k2⟩:=ih (cs:=cs) (ys:=ys) h1.2 (by simp at h2;omega) (by simpa using h3);simp only[setAt];rw[show n+1+xs.length=(n+xs.length)+1 by omega];simp[k1,k2,h1.1]
theorem dd.app {k:Nat} {v:V} {rows m:List (List V)} {tk:Tk} {H:V→ab→Prop} (h:dd σ k v rows) (hm:∀r∈m,r.length=k) (hn:bd m.flatten=true) (hb:rows.length+m.length≤aE)
    (hk:∀v' σ',dd σ' k v' (rows++m)→rA σ v σ' v' → H v' σ'):OQ.aL σ H (.app k) [v,.sl tk k m]:=by
  obtain⟨a,cap,rfl,h1,h2,h3⟩:=h;have x9:=iA hm;have aQ:=iA h2;refine⟨rfl,h1,hb,hn,fun e=>?_,fun e hle=>?_,fun ag=>?_⟩
  · subst e;refine hk _ _ ⟨a,cap,by simp,by simpa using h1,by simpa using h2,by simpa using h3⟩ ⟨fun _ _ h _=>h,rfl,fun b hb=>.inl hb,rfl⟩
  · rcases h3 with h3 | ⟨b,cs,rfl,h4,h5,h6⟩
    · have:m.length=0:=by omega
      exact absurd (nj this) e
    · have ly:rows.length*k+m.length*k≤cs.length:=by rw[h5,←gb];exact mA _ hle
      refine⟨b,cs,rfl,h4,ly,hk _ _ ⟨some ⟨b,0,Option.none⟩,cap,by simp,by simpa using hle,fun r hr=>?_,.inr ⟨b,_,rfl,ab.cH _ _ _,?_,?_⟩⟩ ⟨fun b' cs' bl aH=>?_,rfl,fun b' bl => .inl bl,rfl⟩⟩
      · rcases gY.1 hr with hr | hr
        · exact h2 r hr
        · exact hm r hr
      · rw[(JN (k:=k) h6 (by rw[x9];exact ly) aQ).2];exact h5
      · have:=(JN (k:=k) h6 (by rw[x9];exact ly) aQ).1
        rw[x9] at this;rw[bz,gb,this,od]
      · have:b' ≠ b:=by rintro rfl;exact aH rfl
        rw[ab.cN _ _ this];exact bl
  · have base:∀cs:List V,cs.take (rows.length*k)=rows.flatten→∀b' lh,σ.box b' = Option.none→rows.length+m.length≤lh → H (.raw (.slice (some ⟨b',0,Option.none⟩) (rows.length+m.length) lh)) (σ.set b' (cs.take (rows.length*k)++m.flatten++List.replicate ((lh - (rows.length+m.length))*k) .any)):=by
      intro cs h6 b' lh bl hc;refine hk _ _ ⟨some ⟨b',0,Option.none⟩,lh,by simp,by simpa using hc,fun r hr=>?_,.inr ⟨b',_,rfl,ab.cH _ _ _,?_,?_⟩⟩ ⟨fun OE cs' mH aH=>?_,rfl,fun OE mH => ?_,rfl⟩
      · rcases gY.1 hr with hr | hr
        · exact h2 r hr
        · exact hm r hr
      · rw[h6];simp only[bz,aQ,x9,Fl];rw[←gb,←gb];congr 1;omega
      · rw[h6,bz,od,Fq (by simp only[bz,aQ,x9];rw[gb];omega),wR (by simp only[bz,aQ,x9];rw[gb];omega)]
      · have:OE ≠ b' := by rintro rfl;rw[bl] at mH;simp at mH
        rw[ab.cN _ _ this];exact mH
      · simp only[mf,aG] at mH;subst mH;exact .inr bl
    rcases h3 with h3 | ⟨b,cs,rfl,h4,h5,h6⟩
    · have h0:rows=[]:=nj (by omega);subst h0;exact⟨[],.inl ⟨rfl,rfl⟩,base [] (by simp)⟩
    · refine⟨cs,.inr ⟨b,rfl,h4,?_⟩,base cs h6⟩;rw[h5];exact mA _ h1
theorem rA.refl {v:V}:rA σ v σ v:=⟨fun _ _ h _=>h,rfl,fun _ h=>.inl h,rfl⟩
structure wX (ck σ:ab) (v:V):Prop where
  sub:ck.sub σ
  new:∀b,mf v=some b→ck.box b=none
theorem wX.step {ck σ' : ab} {v v' : V} (h:wX ck σ v) (f:rA σ v σ' v'):wX ck σ' v' := by
  refine⟨⟨fun b cs hb=>?_,fun t n hn=>by rw[f.aB];exact h.sub.2.1 t n hn,fun b cs hc=>by rw[f.bH];exact h.sub.2.2 b cs hc⟩,fun b hb=>?_⟩
  · exact f.jI b cs (h.sub.1 b cs hb) (fun e=>by rw[h.new b e] at hb;simp at hb)
  · rcases f.new b hb with e | e
    · exact h.new b e
    · cases hq:ck.box b with
      | none=>rfl
      | some cs=>rw[h.sub.1 b cs hq] at e;simp at e
end
section
variable {P:Program} {d:Option Nat} {K:St→Prop} {st:St} {b w:Bool}
theorem iW {op:aq} {r:List AO} (h1:b=true→gL P (.bool true) w d op r K st) (h2:b=false→gL P (.bool false) w d op r K st):gL P (.bool b) w d op r K st:=by cases b with
  | true=>exact h1 rfl
  | false=>exact h2 rfl
theorem je {x y:V} {r:List AO} (h1:b=true→pO P (.bool true) x y d r K st) (h2:b=false→pO P (.bool false) x y d r K st):pO P (.bool b) x y d r K st:=by cases b with
  | true=>exact h1 rfl
  | false=>exact h2 rfl
end
section
variable {P:Program} {d:Option Nat} {K:St→Prop} {t:List V} {l:List (List V)} {σ:ab} {r:List AO}
def om (st:St):Option X→Option V
  | none=>none
  | some x=>some (ev st x)
def yt (n:Nat) (dflt:Nat):Option V→Prop
  | none=>n=dflt
  | some v=>∃j,v = .int j n
def JU (v:V) (lo hi:Option V) (H:V→Prop):Prop:=∃s a b,v = .str s∧a≤b∧b≤s.length∧yt a 0 lo∧yt b s.length hi∧H (.str ((s.take b).drop a))
def Bi (k:Nat) (v:V) (lo hi mx:Option V) (H:V→Prop):Prop:=(∃τ l a b,v = .sl τ k l∧a≤b∧b≤l.length∧yt a 0 lo∧yt b l.length hi ∧
  match mx with
  | none=>H (.sl .no k ((l.take b).drop a))
  | some y=>(∃j,y = .int j b)∧H (.sl .full k ((l.take b).drop a))) ∨
  ∃a n cap m h,v = .raw (.slice a n cap)∧m≤h∧h≤cap∧yt m 0 lo∧yt h n hi∧mx.isNone=true∧H (.raw (.slice (if cap=m then a else a.map (·.add (m*k))) (h - m) (cap - m)))
theorem aj1 {x:X} {lo hi:Option X}:bq P (⟨d,.rj x lo hi,none⟩::r) K ⟨t,l,σ⟩=JU (ev ⟨t,l,σ⟩ x) (om ⟨t,l,σ⟩ lo) (om ⟨t,l,σ⟩ hi) (kL P d r K ⟨t,l,σ⟩):=by
  cases lo<;>cases hi<;>rfl
theorem aj2 {k:Nat} {x:X} {lo hi mx:Option X}:bq P (⟨d,.j_ k x lo hi mx,none⟩::r) K ⟨t,l,σ⟩=Bi k (ev ⟨t,l,σ⟩ x) (om ⟨t,l,σ⟩ lo) (om ⟨t,l,σ⟩ hi) (om ⟨t,l,σ⟩ mx) (kL P d r K ⟨t,l,σ⟩):=by
  cases lo<;>cases hi<;>cases mx<;>rfl
theorem ZS {x:X} {lo hi:Option X} {ms:List Nat} {r:List (AO × List Nat)} {SN:List ch} {L:List (V × Bool × Nat × V × List Nat)}:bE P ((⟨d,.rj x lo hi,none⟩,ms)::r) SN L K ⟨t,l,σ⟩=JU (ev ⟨t,l,σ⟩ x) (om ⟨t,l,σ⟩ lo) (om ⟨t,l,σ⟩ hi) (kD P d r SN L K ⟨t,l,σ⟩):=by
  cases lo<;>cases hi<;>rfl
theorem ZT {k:Nat} {x:X} {lo hi mx:Option X} {ms:List Nat} {r:List (AO × List Nat)} {SN:List ch} {L:List (V × Bool × Nat × V × List Nat)}:bE P ((⟨d,.j_ k x lo hi mx,none⟩,ms)::r) SN L K ⟨t,l,σ⟩=Bi k (ev ⟨t,l,σ⟩ x) (om ⟨t,l,σ⟩ lo) (om ⟨t,l,σ⟩ hi) (om ⟨t,l,σ⟩ mx) (kD P d r SN L K ⟨t,l,σ⟩):=by
  cases lo<;>cases hi<;>cases mx<;>rfl
theorem aa3 {st:St}:om st none=none:=rfl
theorem aa4 {st:St} {x:X}:om st (some x)=some (ev st x):=rfl
theorem JV {s:List UInt8} {j j' : IntKind} {a b:Nat} {H:V→Prop} (h1:a≤b) (h2:b≤s.length) (h:H (.str ((s.take b).drop a))):JU (.str s) (some (.int j a)) (some (.int j' b)) H:=⟨s,a,b,rfl,h1,h2,⟨j,rfl⟩,⟨j',rfl⟩,h⟩
theorem anH {k:Nat} {τ:Tk} {m:List (List V)} {j:IntKind} {a:Nat} {H:V→Prop} (h2:a≤m.length) (h:H (.sl .no k (m.drop a))):Bi k (.sl τ k m) (some (.int j a)) none none H:=.inl ⟨τ,m,a,m.length,rfl,h2,bt _,⟨j,rfl⟩,rfl,by rw[dv];exact h⟩
theorem UZ {k:Nat} {τ:Tk} {m:List (List V)} {j:IntKind} {b:Nat} {H:V→Prop} (h2:b≤m.length) (h:H (.sl .no k (m.take b))):Bi k (.sl τ k m) none (some (.int j b)) none H:=.inl ⟨τ,m,0,b,rfl,pe _,h2,rfl,⟨j,rfl⟩,h⟩
def bV:=And.intro @ajI <| And.intro @ajx <| And.intro @aj1 <| And.intro @aj2 <| And.intro @ZS <| And.intro @ZT <| And.intro @aa3 <| And.intro @aa4 <| And.intro @ajQ <| And.intro @ZH <| And.intro @Zz <| And.intro @aoQ <| And.intro @ai9 <| And.intro @ai8 <| And.intro @ai_ <| And.intro @alL <| And.intro @alK <| And.intro @alM @aap
end
theorem Gc (a b:List UInt8):b6 (a++b)=b6 a++b6 b:=by simp[b6]
theorem ln (a:List UInt8):(b6 a).length=a.length:=by simp[b6]
abbrev aU:=BitVec 64
section
variable {a b c:aU} {n:Int} {m:Nat}
theorem wrap_u64 {x:Int} (h1:0≤x) (h2:x<18446744073709551616):IntKind.u64.wrap x=x:=IntWalk.u64_in x (by omega)
theorem ao2 (a:aU):(a.toNat:Int)<18446744073709551616:=by have:=a.isLt;omega
theorem Kh:BitVec.ofInt 64 (a.toNat:Nat)=a:=by simp
theorem Km:IntKind.u64.wrap (a.toNat:Nat)=(a.toNat:Nat):=wrap_u64 (by omega) (ao2 a)
theorem Kl:IntKind.u64.wrap ((a.toNat:Nat) - (b.toNat:Nat))=((a - b).toNat:Nat):=by
  have:=a.isLt;have:=b.isLt
  rw[IntKind.wrap_u64,BitVec.toNat_sub];omega
theorem ao3:IntKind.u64.wrap ((a.toNat:Nat)*(b.toNat:Nat))=((a*b).toNat:Nat):=by
  rw[IntKind.wrap_u64,BitVec.toNat_mul,←Int.natCast_mul];generalize a.toNat*b.toNat=x;omega
theorem sI:gg .u64 (a.toNat:Nat) (b.toNat:Nat) .and=some (.int .u64 ((a&&&b).toNat:Nat)):=by
  (simp only[gg,IntKind.bits,Kh,Km];rfl)
theorem yY:gg .u64 (a.toNat:Nat) (b.toNat:Nat) .or=some (.int .u64 ((a|||b).toNat:Nat)):=by
  (simp only[gg,IntKind.bits,Kh,Km];rfl)
theorem Vx:gg .u64 (a.toNat:Nat) (b.toNat:Nat) .andNot=some (.int .u64 ((a&&&~~~b).toNat:Nat)):=by
  (simp only[gg,IntKind.bits,Kh,Km];rfl)
theorem Kj:gg .u64 (a.toNat:Nat) (m:Nat) .shl=some (.int .u64 ((a<<<m).toNat:Nat)):=by
  simp only[gg,IntKind.bits];rw[ah (by omega),IntKind.wrap_u64,V0,Nat.shiftLeft_eq];simp only[iv,aG,V.int.injEq,o7]
  by_cases h:m≤64
  · rw[show m.min 64=m from qm h,show (2:Int)^m=((2^m:Nat):Int) by simp,←Int.natCast_mul];generalize a.toNat*2^m=x;omega
  · rw[show m.min 64=64 from K5 (by omega)];obtain⟨k,rfl⟩:∃k,m=64+k:=⟨m - 64,by omega⟩;rw[Nat.pow_add,←Nat.mul_assoc,Nat.mul_comm _ (2^64),Nat.mul_assoc,Nat.mul_mod_right];omega
theorem Kk:gg .u64 (a.toNat:Nat) (m:Nat) .shr=some (.int .u64 ((a>>>m).toNat:Nat)):=by
  simp only[gg,IntKind.bits];rw[ah (by omega),BitVec.toNat_ushiftRight,Nat.shiftRight_eq_div_pow];simp only[iv,aG,V.int.injEq,o7];rw[Int.fdiv_eq_ediv_of_nonneg _ (Int.le_of_lt (Int.pow_pos (by decide)))]
  by_cases h:m≤64
  · rw[show m.min 64=m from qm h];norm_cast
  · rw[show m.min 64=64 from K5 (by omega)];have h1:a.toNat / 2^m=0:=Nat.div_eq_of_lt (ql a.isLt (Nat.pow_le_pow_right (by decide) (by omega)));rw[h1]
    have:=a.isLt
    omega
theorem yX:decide ((a.toNat:Int)=(b.toNat:Nat))=decide (a=b):=by
  apply nB.2;rw[←BitVec.toNat_inj];omega
theorem p8:V.int .u64 0 = .int .u64 ((0#64:aU).toNat:Nat):=rfl
theorem Ki:V.int .u64 1 = .int .u64 ((1#64:aU).toNat:Nat):=rfl
theorem ao5:V.int .u64 18446744073709551615 = .int .u64 ((BitVec.allOnes 64:aU).toNat:Nat):=rfl
end
def hasB (s:aU) (i:Int):Bool:=decide (0≤i)&&s.getLsbD i.toNat
def nx (i:Nat):aU:=1#64<<<i
def im (s:aU) (i:Int):aU:=if 0≤i∧i<64 then s|||nx i.toNat else s
def lF (l:List Int):aU:=l.foldl im 0#64
def wx (a b:aU):Bool:=decide (a&&&~~~b=0#64)
def lR (n:Int):aU:=if n≤0 then 0#64 else if 64≤n then BitVec.allOnes 64 else nx n.toNat - 1#64
def dY (s:aU):List Nat:=(List.range 64).filter s.getLsbD
theorem xG {a b:aU} (h:∀k,k<64→a.getLsbD k=b.getLsbD k):a=b:=BitVec.eq_of_getLsbD_eq fun k hk=>h k hk
theorem OL (i k:Nat):(nx i).getLsbD k=(decide (k<64)&&decide (k=i)):=by
  simp only[nx,BitVec.getLsbD_shiftLeft,BitVec.getLsbD_one]
  by_cases h:k<64<;>by_cases h2:k=i<;>simp[h,h2]<;>omega
theorem EM (s:aU) (i:Int) (k:Nat):(im s i).getLsbD k=(s.getLsbD k||(decide (k<64)&&decide ((k:Int)=i))):=by
  unfold im
  split
  · rename_i h;rw[BitVec.getLsbD_or,OL];congr 2;apply nB.2;omega
  · rename_i h
    have:(decide (k<64)&&decide ((k:Int)=i))=false:=by
      simp only[BL,xC];omega
    rw[this,Bool.or_false]
theorem Qg:∀(l:List Int) (s:aU) (k:Nat),(l.foldl im s).getLsbD k=(s.getLsbD k||(decide (k<64)&&decide ((k:Int)∈l)))
  | [],s,k=>by simp
  | i :: l, s, k => by
    rw[qe,Qg l,EM,Bool.or_assoc,←Bool.and_or_distrib_left,←Bool.decide_or];simp only[iR]
theorem S1 (l:List Int) (k:Nat):(lF l).getLsbD k=(decide (k<64)&&decide ((k:Int)∈l)):=by
  rw[lF,Qg];simp
theorem aki (k:Nat):(BitVec.allOnes 64).getLsbD k=decide (k<64):=BitVec.getLsbD_allOnes
theorem Xn (n:Nat) (h:n≤64) (k:Nat):(nx n - 1#64).getLsbD k=(decide (k<64)&&decide (k<n)):=by
  by_cases hk:k<64
  · rw[BitVec.getLsbD,BitVec.toNat_sub,nx,V0,Nat.shiftLeft_eq];have e1:(1#64).toNat=1:=rfl;rw[e1,sT]
    by_cases h2:n=64
    · subst h2
      have:(2^64 - 1+2^64 % 2^64) % 2^64=2^64 - 1:=by decide
      rw[this,Wa];simp[hk]
    · have hp:2^n<2^64:=Nat.pow_lt_pow_right (by decide) (by omega);have kN:0<2^n:=Nat.two_pow_pos n;rw[K6 hp,show 2^64 - 1+2^n=(2^n - 1)+2^64 by omega,Nat.add_mod_right,K6 (by omega),Wa];simp[hk]
  · rw[y9 _ _ (by omega)];simp[hk]
theorem OJ (n:Int) (k:Nat):(lR n).getLsbD k=(decide (k<64)&&decide ((k:Int)<n)):=by
  unfold lR;split
  · rw[aA (p:=(k:Int)<n) (by omega)];simp
  · split
    · rw[aki]
      by_cases h:k<64
      · rw[aC (p:=(k:Int)<n) (by omega)];simp
      · simp[h]
    · rw[Xn _ (by omega)];congr 1;apply nB.2;omega
theorem SD {s:aU} {k:Nat}:k∈dY s↔s.getLsbD k=true:=by
  simp only[dY,List.mem_filter,uV,and_iff_right_iff_imp];intro h;exact Nat.lt_of_not_le fun hc=>by rw[y9 _ _ hc] at h;simp at h
theorem ah4 {s:aU} {k:Nat} (h:k∈dY s):k<64:=by
  simp only[dY,List.mem_filter,uV] at h;exact h.1
theorem DP (s:aU):(dY s).length≤64:=by
  have:=List.length_filter_le s.getLsbD (List.range 64);simpa [dY] using this
def lE (s:aU):Nat:=((List.range 64).find? s.getLsbD).getD 64
theorem AY {s:aU} (h:s≠0#64):lE s<64∧s.getLsbD (lE s)=true∧∀k,k<lE s→s.getLsbD k=false:=by
  unfold lE;cases hf:(List.range 64).find? s.getLsbD with
  | none =>
    exfalso;apply h;apply xG;intro k hk
    have:=BS.1 hf k (by simpa using hk)
    simpa using this
  | some i =>
    obtain⟨h1,as,bs,h2,h3⟩:=BT.1 hf;have hi:i<64:=by
      have:i∈List.range 64:=by rw[h2];simp
      simpa using this
    refine⟨hi,h1,fun k hk=>?_⟩;simp only[B5] at hk;have hl:as.length=i:=by
      have:=gj (fun l:List Nat=>l[as.length]?) h2
      simp only[uQ (bt _),Fw,BU] at this;rw[Fj] at this
      · simpa using this
      · have:=gj List.length h2;simp at this;omega
    have iY : k∈as:=by
      have:=gj (fun l:List Nat=>l[k]?) h2
      rw[nk (by omega),Fj (by omega)] at this;exact wP this.symm
    have:=h3 k iY
    simpa using this
theorem ai0 {s:aU} (h:s≠0#64):s&&&-s=nx (lE s):=by
  obtain⟨h1,h2,h3⟩:=AY h;apply xG;intro i hi;rw[wK,BitVec.getLsbD_neg,OL]
  rcases zh i (lE s) with hc | hc | hc
  · rw[h3 i hc,aA (p:=i=lE s) (by omega)];simp
  · subst hc;rw[h2,aA (p:=∃j,j<lE s∧s.getLsbD j=true) (by rintro⟨j,hj,hs⟩;rw[h3 j hj] at hs;simp at hs)];simp[hi]
  · rw[aC (p:=∃j,j<i∧s.getLsbD j=true) ⟨_,hc,h2⟩,aA (p:=i=lE s) (by omega)];cases s.getLsbD i<;>simp[hi]
theorem F9 (s:aU) (i:Nat):(s&&&(s - 1#64)).getLsbD i=(s.getLsbD i&&decide (∃j,j<i∧s.getLsbD j=true)):=by
  by_cases hi:i<64
  · rw[wK,←BitVec.not_neg,BitVec.getLsbD_not,BitVec.getLsbD_neg];cases s.getLsbD i<;>simp[hi]
  · rw[y9 _ _ (by omega),y9 _ _ (by omega)];simp
theorem Sm {s:aU} (h:s≠0#64):dY s=lE s::dY (s&&&(s - 1#64)):=by
  obtain⟨h1,h2,h3⟩:=AY h;generalize lE s=k at h1 h2 h3;have hr:List.range 64=List.range k++k::List.range' (k+1) (64 - (k+1)):=by
    rw[qi,qi,←wQ,show (64:Nat) - (k+1)+1=64 - k by omega]
    have:=K0 (s:=0) (m:=k) (n:=64 - k) (step:=1)
    simp only[sT,gh] at this;rw[this];congr 1;omega
  unfold dY;rw[hr,List.filter_append,List.filter_append,KR,KR,h2,F9 s k];have e1:List.filter s.getLsbD (List.range k)=[]:=V3.2 fun x hx=>by rw[h3 x (by simpa using hx)];simp
  have e2:List.filter (s&&&(s - 1#64)).getLsbD (List.range k)=[]:=V3.2 fun x hx=>by rw[F9,h3 x (by simpa using hx)];simp
  rw[e1,e2,
    aA (by rintro⟨j,hj,hs⟩;rw[h3 j hj] at hs;simp at hs)]
  simp only[Bool.and_false,fO,ey,dP,iS,eP,o7];refine List.filter_congr fun x hx=>?_
  have hx:k<x:=by simp only[List.mem_range'_1] at hx;omega
  rw[F9,aC ⟨k,hx,h2⟩,rq]
theorem ah6:dY 0#64=[]:=by simp[dY]
theorem ah5 {s:aU} (h:dY s≠[]):s≠0#64:=by rintro rfl;exact h ah6
theorem ah7 {s:aU} (h:dY s=[]):s=0#64:=by
  apply Classical.byContradiction;intro hc;rw[Sm hc] at h;simp at h
def EH:List Int:=[0,1,56,2,57,49,28,3,61,58,42,50,38,29,17,4,62,47,59,36,45,43,51,22,53,39,33,30,24,18,12,5,63,55,48,27,60,41,37,16,46,35,44,21,52,32,23,11,54,26,40,15,34,20,31,10,25,14,19,9,13,8,7,6]
def sE:List V:=EH.map fun n=>.int .u8 n
theorem aoy (k:Nat) (h:k<64):((nx k*285870213051353865#64)>>>58).toNat<64∧EH[((nx k*285870213051353865#64)>>>58).toNat]?=some (k:Int):=by
  revert k;decide +kernel
end Go.Am
namespace Go.Am
structure Tok where
  kind:Int
  text:List UInt8
  pos:Int
inductive Tree where
  | mk (tok:Tok) (kids:List Tree) (fin:Int)
def Tree.tok:Tree→Tok | .mk t _ _=>t
def Tree.kids:Tree→List Tree | .mk _ k _=>k
def Tree.fin:Tree→Int | .mk _ _ e=>e
mutual
def Tree.enc:Tree→List V
  | .mk t ks e=>[.int .u8 t.kind,.str t.text,.int .i64 t.pos,.sl .no 5 (ct ks),.int .i64 e]
def ct:List Tree→List (List V)
  | []=>[]
  | t::ts=>t.enc::ct ts
end
theorem po:∀l,ct l=l.map Tree.enc
  | []=>rfl
  | t::ts=>by simp[ct,po ts]
theorem ix (l:List Tree):(ct l).length=l.length:=by simp[po]
theorem cm (t:Tree):t.enc=[.int .u8 t.tok.kind,.str t.tok.text,.int .i64 t.tok.pos,.sl .no 5 (ct t.kids),.int .i64 t.fin]:=by
  cases t;simp only[Tree.enc,Tree.tok,Tree.kids,Tree.fin]
mutual
def Tree.many:Tree→Nat
  | .mk _ ks _=>bp ks
def bp:List Tree→Nat
  | []=>0
  | t::ts=>1+t.many+bp ts
end
theorem Sy (t:Tree):t.many=bp t.kids:=by cases t;simp[Tree.many,Tree.kids]
theorem Iz:∀a b,bp (a++b)=bp a+bp b
  | [],b=>by simp[bp]
  | t::ts,b=>by simp[bp,Iz ts b];omega
theorem j5:∀l,l.length≤bp l
  | []=>by simp[bp]
  | t::ts=>by simp[bp];have:=j5 ts;omega
theorem aiE {l:List Tree} {i:Nat} (h:i<l.length):bp l=bp (l.take i)+(1+bp l[i].kids)+bp (l.drop (i+1)):=by
  have:l=l.take i++l[i]::l.drop (i+1):=by simp
  have e:=gj bp this;rw[e,Iz];simp only[bp,Sy];omega
theorem aiF {l:List Tree} {i:Nat} (h:i<l.length):bp l[i].kids+1≤bp l:=by
  have:=aiE h;omega
structure Word where
  text:List UInt8
  pos:Int
def Word.enc (w:Word):List V:=[.str w.text,.int .i64 w.pos]
inductive Nd where
  | mk (kind pos:Int) (text:List UInt8) (names:List Word) (kids:List Nd)
namespace Nd
def kind:Nd→Int | .mk k _ _ _ _=>k
def pos:Nd→Int | .mk _ p _ _ _=>p
def text:Nd→List UInt8 | .mk _ _ t _ _=>t
def names:Nd→List Word | .mk _ _ _ w _=>w
def kids:Nd→List Nd | .mk _ _ _ _ k=>k
end Nd
mutual
def Nd.enc:Nd→List V
  | .mk k p t ws ks=>[.int .i64 k,.int .i64 p,.str t,.sl .no 2 (ws.map Word.enc),.sl .no 5 (nZ ks)]
def nZ:List Nd→List (List V)
  | []=>[]
  | n::ns=>n.enc::nZ ns
end
theorem v9:∀l,nZ l=l.map Nd.enc
  | []=>rfl
  | t::ts=>by simp[nZ,v9 ts]
theorem Nd.cm (n:Nd):n.enc=[.int .i64 n.kind,.int .i64 n.pos,.str n.text,.sl .no 2 (n.names.map Word.enc),.sl .no 5 (n.kids.map Nd.enc)]:=by
  cases n;simp only[Nd.enc,Nd.kind,Nd.pos,Nd.text,Nd.names,Nd.kids,v9]
structure ae where
  l:List Tree
  at_:Int
  fin:Int
  bad:Option Int
def cj (b:Option Int):Int:=match b with | some _=>2 | none=>0
def dT (b:Option Int):Int:=match b with | some a=>a | none=>0
def ae.enc (r:ae):List V:=[.sl .no 5 (ct r.l),.int .i64 r.at_,.int .i64 r.fin,.int .i64 (cj r.bad),.int .i64 (dT r.bad)]
def l6 (l:List Tree) (at_:Int) (k:Int):Bool:=decide (0≤at_)&&match l[at_.toNat]? with | some t=>decide (t.tok.kind=k) | none=>false
def ae.ok (r:ae):Bool:=r.bad.isNone
def ae.spot (r:ae):Int:=if 0≤r.at_ then (match r.l[r.at_.toNat]? with | some t=>t.tok.pos | none=>r.fin) else r.fin
def ae.fail (r:ae):ae:=match r.bad with | some _=>r | none=>{r with bad:=some r.spot}
def ae.sees (r:ae) (k:Int):Bool:=r.ok&&l6 r.l r.at_ k
def Tree.zero:Tree:=.mk ⟨0,[],0⟩ [] 0
def ae.take (r:ae) (k:Int):Tree × ae:=if r.sees k then (r.l.getD r.at_.toNat .zero,{r with at_:=r.at_+1}) else (.zero,r.fail)
def ae.word (r:ae):Word × ae:=(⟨(r.take 97).1.tok.text,(r.take 97).1.tok.pos⟩,(r.take 97).2)
theorem ae.ex1 {r:ae} {n:Nat}:r.enc.drop n=[V.sl .no 5 (ct r.l),.int .i64 r.at_,.int .i64 r.fin,.int .i64 (cj r.bad),.int .i64 (dT r.bad)].drop n:=rfl
theorem ae.ex2 {r:ae} {n:Nat} {x:List V}:setAt r.enc n x=setAt [V.sl .no 5 (ct r.l),.int .i64 r.at_,.int .i64 r.fin,.int .i64 (cj r.bad),.int .i64 (dT r.bad)] n x:=rfl
theorem ae.ex3 {r:ae} {n:Nat} {g:Bool}:a9 g n r.enc=a9 g n [V.sl .no 5 (ct r.l),.int .i64 r.at_,.int .i64 r.fin,.int .i64 (cj r.bad),.int .i64 (dT r.bad)]:=rfl
theorem ae.ex4 {r:ae} {n:Nat}:bD n r.enc=bD n [V.sl .no 5 (ct r.l),.int .i64 r.at_,.int .i64 r.fin,.int .i64 (cj r.bad),.int .i64 (dT r.bad)]:=rfl
theorem ae.ex:(∀{r:ae} {n:Nat},r.enc.drop n=[V.sl .no 5 (ct r.l),.int .i64 r.at_,.int .i64 r.fin,.int .i64 (cj r.bad),.int .i64 (dT r.bad)].drop n) ∧
    (∀{r:ae} {n:Nat} {x:List V},setAt r.enc n x=setAt [V.sl .no 5 (ct r.l),.int .i64 r.at_,.int .i64 r.fin,.int .i64 (cj r.bad),.int .i64 (dT r.bad)] n x) ∧
    (∀{r:ae} {n:Nat} {g:Bool},a9 g n r.enc=a9 g n [V.sl .no 5 (ct r.l),.int .i64 r.at_,.int .i64 r.fin,.int .i64 (cj r.bad),.int .i64 (dT r.bad)]) ∧
    (∀{r:ae} {n:Nat},bD n r.enc=bD n [V.sl .no 5 (ct r.l),.int .i64 r.at_,.int .i64 r.fin,.int .i64 (cj r.bad),.int .i64 (dT r.bad)]):=⟨ae.ex1,ae.ex2,ae.ex3,ae.ex4⟩
def lu {β:Type} (step:ae × List β→ae × List β):Nat→ae × List β→ae × List β
  | 0,a=>a
  | n+1,a=>if a.1.sees 44 then lu step n (step ((a.1.take 44).2,a.2)) else a
def dQ {β:Type} (step:ae × List β→ae × List β) (r:ae):ae × List β:=lu step r.l.length (step (r,[]))
def jl (a:ae × List Word):ae × List Word:=(a.1.word.2,a.2++[a.1.word.1])
theorem ae.ec (r:ae) (k:Int):(r.take k).2.l=r.l:=by
  unfold ae.take;split
  · rfl
  · unfold ae.fail;split<;>rfl
theorem ae.abf (r:ae):r.fail.at_=r.at_:=by unfold ae.fail;split<;>rfl
theorem ae.zK (r:ae):r.fail.bad≠none:=by
  unfold ae.fail;split
  · rename_i h;rw[h];simp
  · simp
theorem ae.mq (r:ae) (k:Int):(r.sees k=true∧(r.take k).2.at_=r.at_+1∧(r.take k).2.bad=none∧0≤r.at_∧r.at_<r.l.length)∨(r.sees k=false∧(r.take k).2.at_=r.at_∧(r.take k).2.bad≠none):=by
  cases h:r.sees k
  · right;simp only[ae.take,h,fO,ey,o7];exact⟨r.abf,r.zK⟩
  · left;have h' := h;simp only[ae.sees,ae.ok,l6,bm,cq,wU] at h';obtain⟨h1,h0,hk⟩:=h';simp only[ae.take,h,dP,o7];refine⟨h1,h0,?_⟩;cases hq:r.l[r.at_.toNat]? with
    | none=>rw[hq] at hk;simp at hk
    | some t=>have:=(dj.1 hq).1;omega
theorem ae.rk (r:ae) (k:Int):bp (r.take k).1.kids≤bp r.l∧((r.take k).2.bad=none→bp (r.take k).1.kids+1≤bp r.l):=by
  rcases r.mq k with ⟨h,_,_,h1,h2⟩ | ⟨h,_,h1⟩
  · have ag:r.at_.toNat<r.l.length:=by omega
    have:=aiF ag
    simp only[ae.take,h,dP,List.getD,cc ag,B5];exact⟨by omega,fun _=>this⟩
  · refine⟨?_,fun hb=>absurd hb h1⟩;simp[ae.take,h,Tree.zero,Tree.kids,bp]
def Tree.inner (t:Tree):ae:=⟨t.kids,0,t.fin,none⟩
def ae.close (r:ae):ae:=if r.ok=true∧r.at_<r.l.length then r.fail else r
def ae.under (r i:ae):ae:={r with bad:=i.close.bad}
structure Reads {β:Type} (one:ae→β × ae):Prop where
  l:∀r,(one r).2.l=r.l
  go:∀r,0≤r.at_→r.at_≤r.l.length→r.at_≤(one r).2.at_∧(one r).2.at_≤r.l.length∧((one r).2.bad=none→r.at_+1≤(one r).2.at_)
def bU {β:Type} (one:ae→β × ae) (a:ae × List β):ae × List β:=((one a.1).2,a.2++[(one a.1).1])
def ae.inside {β:Type} (step:ae × List β→ae × List β) (empty:Bool) (t:Tree):ae × List β:=if empty=true∧t.kids.length=0 then (t.inner,[]) else dQ step t.inner
def ae.bracket {β:Type} (step:ae × List β→ae × List β) (kind:Int) (empty:Bool) (r:ae):(List β × Int) × ae :=
  if (r.take kind).2.ok=true then (((ae.inside step empty (r.take kind).1).2,(r.take kind).1.tok.pos),(r.take kind).2.under (ae.inside step empty (r.take kind).1).1) else (([],0),(r.take kind).2)
def ae.nodes (one:ae→Nd × ae) (kind:Int) (empty:Bool) (r:ae):(List Nd × Int) × ae:=r.bracket (bU one) kind empty
def ae.words (empty:Bool) (r:ae):(List Word × Int) × ae:=r.bracket jl 123 empty
end Go.Am
namespace Go.Am
def mW:List V:=.int .i64 0::List.replicate 64 (.int .u64 0)
def rK:List V:=.int .i64 0::.sl .full 1 []::mW
def Jo:List Nat:=List.replicate 65 1
def ei (l:List aU):List V:=l.map fun w=>.int .u64 (w.toNat:Nat)
section
variable {l m:List aU} {i n:Nat} {w:aU}
theorem CE:(ei l).length=l.length:=by simp[ei]
theorem PI:bA (ei l)=true:=by induction l with | nil=>rfl | cons a l ih=>simpa [ei,bA,V.one] using ih
theorem PH:bd (ei l)=true:=by induction l with | nil=>rfl | cons a l ih=>simpa [ei,bd,V.bS] using ih
theorem PD:aX (ei l)=ei l:=by induction l with | nil=>rfl | cons a l ih=>simp only[ei,bL,aX,V.erase] at ih ⊢;rw[ih]
theorem PG:bn n (ei l)=true:=by induction l with | nil=>rfl | cons a l ih=>simpa [ei,bn,V.lo] using ih
theorem PF (h:i<l.length):a9 false 1 ((ei l).drop i)=some (.int .u64 ((l.getD i 0#64).toNat:Nat)):=by
  have h' : i<(ei l).length:=by rwa [CE]
  rw[jU h'];simp only[a9];simp[ei,List.getD,h]
theorem PJ (h:i<l.length):setAt (ei l) i [.int .u64 (w.toNat:Nat)]=ei (l.set i w):=by
  induction l generalizing i with
  | nil=>simp at h
  | cons a l ih =>
    cases i with
    | zero=>simp only[ei,bL,List.set_cons_zero,ku,mT,kU]
    | succ i=>simp only[cF,Nat.add_lt_add_iff_right] at h;simp only[ei,bL,setAt,List.set_cons_succ] at ih ⊢;rw[ih h]
theorem PE (h:i<l.length):bD 1 ((ei l).drop i)=true:=by
  have h' : i<(ei l).length:=by rwa [CE]
  rw[jU h'];rfl
theorem PC (h:l.length=n) (h' : m.length=n):dU (List.replicate n 1) (ei l) (ei m)=some (decide (l=m)):=by
  induction n generalizing l m with
  | zero=>obtain rfl:=uT.1 h;obtain rfl:=uT.1 h';rfl
  | succ n ih =>
    cases l with
    | nil=>simp at h
    | cons a l =>
      cases m with
      | nil=>simp at h'
      | cons b m =>
        simp only[ei,bL,ry] at ih ⊢;rw[ti,ih (by simpa using h) (by simpa using h'),rE,yX,←sK];simp only[eP]
theorem uE:∀{c:List V},takeN c.length c=some c
  | []=>rfl
  | x::c=>by rw[cF,J5,uE];rfl
theorem J3 {c e:List V} (h:c.length=n):takeN n (c++e)=some c:=by
  subst h;induction c with
  | nil=>rfl
  | cons x c ih=>rw[cF,gN,J5,ih];rfl
theorem tB:∀{c:List V},bD c.length c=true
  | []=>rfl
  | x::c=>by rw[cF,bD,tB]
theorem pK:∀{c e:List V},c.length=e.length→over c e=e
  | [],[],_=>rfl
  | x::c,y::e,h=>by rw[over,pK (by simpa using h)]
  | [],_::_,h=>by simp at h
  | _::_,[],h=>by simp at h
end
structure Rl where
  n:Int
  up:List aU
  len:up.length=64
theorem Rl.ext' {a b:Rl} (h:a.n=b.n) (k:a.up=b.up):a=b:=by cases a;cases b;simp only at h k;subst h;subst k;rfl
instance:DecidableEq Rl:=fun a b=>if h:a.n=b.n∧a.up=b.up then isTrue (Rl.ext' h.1 h.2) else isFalse fun e=>h ⟨e▸rfl,e▸rfl⟩
def Rl.zero:Rl:=⟨0,List.replicate 64 0#64,by simp⟩
def Rl.enc (r:Rl):List V:=.int .i64 r.n::ei r.up
def Rl.get (r:Rl) (i:Nat):aU:=r.up.getD i 0#64
def Rl.put (r:Rl) (i:Nat) (w:aU):Rl:=⟨r.n,r.up.set i w,by simp[r.len]⟩
def Rl.Eo (r:Rl) (n:Int):Rl:=⟨n,r.up,r.len⟩
def Rl.of (n:Int) (f:Nat→aU):Rl:=⟨n,(List.range 64).map f,by simp⟩
section
variable {r s:Rl} {i n m:Nat} {w:aU} {z:Int}
theorem Rl.xQ {j:Nat}:(r.put i w).get j=if i=j∧i<64 then w else r.get j:=by
  simp only[Rl.get,Rl.put,List.getD,List.getElem?_set,r.len]
  by_cases h:i=j
  · subst h
    by_cases h2:i<64
    · simp[h2]
    · simp[h2,r.len]
  · simp[h]
theorem Rl.ke {f:Nat→aU} (h:i<64):(Rl.of z f).get i=f i:=by simp[Rl.get,Rl.of,List.getD,h]
theorem Rl.ext (h:r.n=s.n) (k:∀i,i<64→r.get i=s.get i):r=s:=by
  refine Rl.ext' h (Fh (by rw[r.len,s.len]) fun i h1 h2=>?_)
  have:=k i (by rw[r.len] at h1;exact h1)
  simpa [Rl.get,List.getD,h1,h2] using this
theorem Rl.bR:r.enc.length=65:=by simp[Rl.enc,CE,r.len]
theorem Rl.d_:bA r.enc=true:=by simp[Rl.enc,bA,V.one,PI]
theorem Rl.cx:bd r.enc=true:=by simp[Rl.enc,bd,V.bS,PH]
theorem Rl.cw:aX r.enc=r.enc:=by simp[Rl.enc,aX,V.erase,PD]
theorem Rl.bO:bn m r.enc=true:=by simp[Rl.enc,bn,V.lo,PG]
theorem Rl.dt:takeN 65 r.enc=some r.enc:=by have:=uE (c:=r.enc);rwa [Rl.bR] at this
theorem Rl.fh:a9 true 65 r.enc=some (.agg r.enc):=by rw[vW,Rl.dt];rfl
theorem Rl.eM:bD 65 r.enc=true:=by have:=tB (c:=r.enc);rwa [Rl.bR] at this
theorem Rl.eb:over s.enc r.enc=r.enc:=pK (by rw[Rl.bR,Rl.bR])
theorem Rl.al2:setAt s.enc 0 r.enc=r.enc:=by rw[ku,Rl.eb]
theorem Rl.pR:a9 false 1 r.enc=some (.int .i64 r.n):=rfl
theorem Rl.alS:bD 1 r.enc=true:=rfl
theorem Rl.TT:setAt r.enc 0 [.int .i64 z]=(r.Eo z).enc:=by rw[Rl.enc,ku,mT,kU];rfl
theorem Rl.alW:over r.enc [.int .i64 z]=(r.Eo z).enc:=by rw[←ku,Rl.TT]
theorem Rl.uo:mW=Rl.zero.enc:=by rw[Rl.enc,ei,Rl.zero,List.map_replicate];rfl
theorem Rl.ml:dU Jo r.enc s.enc=some (decide (r=s)):=by
  show dU (1::List.replicate 64 1) (.int .i64 r.n::ei r.up) (.int .i64 s.n::ei s.up)=_;rw[ti,PC r.len s.len,rE,←sK];congr 1;exact nB.2 ⟨fun h=>Rl.ext' h.1 h.2,fun h=>h▸⟨rfl,rfl⟩⟩
theorem Rl.DX {f:Nat→aU}:(Rl.of z f).n=z:=rfl
theorem Rl.VX:Rl.zero.Eo z=Rl.of z fun _=>0#64:=by
  refine Rl.ext rfl fun i hi=>?_
  rw[Rl.ke hi];simp only[Rl.get,Rl.Eo,Rl.zero,List.getD,V4,hi,dP,B5]
theorem Rl.fill {f:Nat→aU}:(Rl.of z fun j=>if j<i then f j else 0#64).put i (f i)=Rl.of z fun j=>if j<i+1 then f j else 0#64:=by
  refine Rl.ext rfl fun k hk=>?_
  rw[Rl.xQ,Rl.ke hk,Rl.ke hk]
  by_cases h:i=k
  · subst h;simp[hk]
  · rw[ah (by omega)]
    by_cases h2:k<i
    · rw[aw h2,aw (by omega)]
    · rw[ah h2,ah (by omega)]
theorem Rl.sF (h:i<64):a9 false 1 (r.enc.drop (1+i))=some (.int .u64 ((r.get i).toNat:Nat)):=by
  rw[wS,Rl.enc,zb,PF (by rw[r.len];exact h)];rfl
theorem Rl.yQ (h:i<64):bD 1 (r.enc.drop (1+i))=true:=by
  rw[wS,Rl.enc,zb,PE (by rw[r.len];exact h)]
theorem Rl.yR (h:i<64):setAt r.enc (1+i) [.int .u64 (w.toNat:Nat)]=(r.put i w).enc:=by
  rw[wS,Rl.enc,iO,PJ (by rw[r.len];exact h)];rfl
def Rl.af:=And.intro @Rl.bR <| And.intro @Rl.d_ <| And.intro @Rl.cx <| And.intro @Rl.cw <| And.intro @Rl.bO <| And.intro @Rl.dt <| And.intro @Rl.fh <| And.intro @Rl.eM <| And.intro @Rl.eb <| And.intro @Rl.pR <| And.intro @Rl.alS <| And.intro @Rl.al2 <| And.intro @Rl.TT <| And.intro @Rl.alW <| And.intro @Rl.uo @Rl.ml
end
def U (d a:Nat):AO:=⟨some d,.mv (.s a),none⟩
def xi (d:Nat) (n:Int):AO:=⟨some d,.mv (.c (.int .i64 n)),none⟩
def xb (p:BinOp) (d a b:Nat):AO:=⟨some d,.de p (.s a) (.s b),none⟩
def xB (p:BinOp) (d a:Nat) (n:Int):AO:=⟨some d,.de p (.s a) (.c (.int .i64 n)),none⟩
def xu (p:BinOp) (d a:Nat) (n:Int):AO:=⟨some d,.de p (.s a) (.c (.int .u8 n)),none⟩
def xl (n d a:Nat):AO:=⟨some d,.load true n (.s a),none⟩
def xo (d a:Nat):AO:=⟨some d,.load false 1 (.s a),none⟩
def xk (d a:Nat):AO:=⟨some d,.qZ (.s a),none⟩
def xf (o d a:Nat):AO:=⟨some d,.lq o (.s a),none⟩
def xv (n o d a:Nat):AO:=⟨some d,.oq true o n (.s a),none⟩
def xw (o d a:Nat):AO:=⟨some d,.oq false o 1 (.s a),none⟩
def xL (d a:Nat):AO:=⟨some d,.qU (.s a),none⟩
def xT (d a:Nat):AO:=⟨some d,.qV (.s a),none⟩
def xA (k d a b:Nat):AO:=⟨some d,.jH k (.s a) (.s b),none⟩
def xS (d a b:Nat):AO:=⟨some d,.pE (.s a) (.s b),none⟩
def xs (n a b:Nat):AO:=⟨none,.store n (.s a) (.s b),none⟩
def xe (d a i:Nat):AO:=⟨some d,.ext (.s a) i,none⟩
def xc (f:FuncId) (d:Nat) (l:List X):AO:=⟨some d,.call f l,none⟩
def xp (d a b c:Nat):AO:=⟨some d,.pick (.s a) (.s b) (.s c),none⟩
def xa (k d a b:Nat):AO:=⟨some d,.app k (.s a) (.s b),none⟩
def xg (n:Nat) (o:AO):AO:=⟨o.dst,o.op,some (n,true)⟩
def xh (n:Nat) (o:AO):AO:=⟨o.dst,o.op,some (n,false)⟩
section
variable {d a b c n k i o:Nat} {z:Int} {p:BinOp} {f:FuncId} {l:List X} {g:Option Nat} {q:aq}
theorem xm_:U d a=⟨some d,.mv (.s a),none⟩:=rfl
theorem xi_:xi d z=⟨some d,.mv (.c (.int .i64 z)),none⟩:=rfl
theorem xb_:xb p d a b=⟨some d,.de p (.s a) (.s b),none⟩:=rfl
theorem xB_:xB p d a z=⟨some d,.de p (.s a) (.c (.int .i64 z)),none⟩:=rfl
theorem xu_:xu p d a z=⟨some d,.de p (.s a) (.c (.int .u8 z)),none⟩:=rfl
theorem xl_:xl n d a=⟨some d,.load true n (.s a),none⟩:=rfl
theorem xo_:xo d a=⟨some d,.load false 1 (.s a),none⟩:=rfl
theorem xk_:xk d a=⟨some d,.qZ (.s a),none⟩:=rfl
theorem xf_:xf o d a=⟨some d,.lq o (.s a),none⟩:=rfl
theorem xv_:xv n o d a=⟨some d,.oq true o n (.s a),none⟩:=rfl
theorem xw_:xw o d a=⟨some d,.oq false o 1 (.s a),none⟩:=rfl
theorem xL_:xL d a=⟨some d,.qU (.s a),none⟩:=rfl
theorem xT_:xT d a=⟨some d,.qV (.s a),none⟩:=rfl
theorem xA_:xA k d a b=⟨some d,.jH k (.s a) (.s b),none⟩:=rfl
theorem xS_:xS d a b=⟨some d,.pE (.s a) (.s b),none⟩:=rfl
theorem xs_:xs n a b=⟨none,.store n (.s a) (.s b),none⟩:=rfl
theorem xe_:xe d a i=⟨some d,.ext (.s a) i,none⟩:=rfl
theorem xc_:xc f d l=⟨some d,.call f l,none⟩:=rfl
theorem xp_:xp d a b c=⟨some d,.pick (.s a) (.s b) (.s c),none⟩:=rfl
theorem xa_:xa k d a b=⟨some d,.app k (.s a) (.s b),none⟩:=rfl
theorem xg_:xg n ⟨g,q,none⟩=⟨g,q,some (n,true)⟩:=rfl
theorem xh_:xh n ⟨g,q,none⟩=⟨g,q,some (n,false)⟩:=rfl
end
def aP:=And.intro @xm_ <| And.intro @xi_ <| And.intro @xb_ <| And.intro @xB_ <| And.intro @xu_ <| And.intro @xl_ <| And.intro @xo_ <| And.intro @xk_ <| And.intro @xf_ <| And.intro @xv_ <| And.intro @xw_ <| And.intro @xL_ <| And.intro @xT_ <| And.intro @xA_ <| And.intro @xS_ <| And.intro @xs_ <| And.intro @xe_ <| And.intro @xc_ <| And.intro @xp_ <| And.intro @xa_ <| And.intro @xg_ @xh_
theorem ab.wy {a b c:ab} (h:a.sub b) (k:b.sub c):a.sub c:=⟨fun x cs hx=>k.1 x cs (h.1 x cs hx),fun x n hx=>k.2.1 x n (h.2.1 x n hx),fun x n hx=>k.2.2 x n (h.2.2 x n hx)⟩
theorem Env.ok.dh {E:Env} {σ σ' : ab} (h:E.ok σ) (ho:bC σ σ'):E.ok σ' := by
  refine⟨fun b cs hb=>?_,fun t n ht=>h.aB t n (ho.aB t n ht),h.fresh,h.nt,fun b cs hc=>h.bH b cs (ho.bH b cs hc)⟩;obtain⟨ds,h1,h2⟩:=ho.box b cs hb;obtain⟨k1,k2⟩:=h.box b ds h1;exact⟨k1,k2.dh h2⟩
theorem ak.le {P:Program} {f:FuncId} {as:List V} {σ:ab} {v:V} {S S' : ab} (h:ak P f as σ fun v' σ' => v' = v∧σ' = S) (ho:bC S S'):ak P f as σ fun v' σ' => v' = v∧σ' = S' :=
  ⟨h.1,fun E vs h1 h2 h3=>(h.2 E vs h1 h2 h3).mono fun _ _ ⟨v',x,E',σ',a,b,c,d,e,f,g⟩=>⟨v',x,E',S',a,b,c,(g.2▸d).dh ho,e,f,g.1,rfl⟩⟩
theorem bC.set {σ:ab} {b:Nat} {A B:List V} (h:bZ A B):bC (σ.set b A) (σ.set b B):=by
  refine⟨fun x cs' hx=>?_,fun _ _ h=>h,fun _ _ h=>h⟩;simp only[ab.set] at hx ⊢
  by_cases e:x=b
  · rw[aw e] at hx ⊢;simp only[aG] at hx;subst hx;exact⟨A,Eq.refl _,h⟩
  · rw[ah e] at hx ⊢;exact⟨cs',hx,bZ.rfl⟩
section
variable {σ:ab}
theorem dd.jr {v:V} {rows:List (List V)} {s:List UInt8} {H:V→ab→Prop} (h:dd σ 1 v rows) (hb:rows.length+s.length≤aE)
    (hk:∀v' σ',dd σ' 1 v' (rows++b6 s)→rA σ v σ' v' → H v' σ'):OQ.aL σ H .jr [v,.str s]:=by
  have h' := h;obtain⟨a,cap,rfl,_⟩:=h;have hn:bd (b6 s).flatten=true:=by
    rw[zI];clear hb hk h';induction s with
    | nil=>rfl
    | cons b s ih=>simp only[bL,bd,V.bS,lJ];exact ih
  exact(dd.app (tk:=.no) (m:=b6 s) h' (by intro r hr;simp only[b6,qh] at hr;obtain⟨_,_,rfl⟩:=hr;rfl) hn (by simpa [b6] using hb) hk).2
theorem dd.zn {v:V} {rows:List (List V)} {a' : Option Addr} {n' c' : Nat} {s:List UInt8} {H:V→ab→Prop} (h:dd σ 1 v rows) (hr:Bg σ a' n' s) (hb:rows.length+s.length≤aE)
    (hk:∀v' σ',dd σ' 1 v' (rows++b6 s)→rA σ v σ' v' → H v' σ'):OQ.aL σ H .zn [v,.raw (.slice a' n' c')]:=by
  have h' := h;obtain⟨a,cap,rfl,_⟩:=h;exact⟨s,hr,dd.jr h' hb hk⟩
theorem dd.zB {v:V} {s:List UInt8} {H:V→ab→Prop} (h:dd σ 1 v (b6 s)) (hk:H (.str s) σ):OQ.aL σ H .zB [v]:=by
  obtain⟨a,cap,rfl,h1,_,h3⟩:=h;have hl:(b6 s).length=s.length:=by simp[b6]
  rw[hl] at h1 h3;refine⟨s,⟨by rw[hl],?_⟩,hk⟩
  rcases h3 with h3 | ⟨b,cs,rfl,h4,_,h6⟩
  · left;rw[hl];omega
  · right;refine⟨b,0,cs,rfl,h4,?_⟩;rw[hl,BR];rw[og,zI] at h6;exact h6
theorem aiO {a b:Int} {k:IntKind} {H:V→ab→Prop} (hk:H (.int k (if b<a then b else a)) σ):OQ.aL σ H .min [.int k a,.int k b]:=⟨Dw,hk⟩
theorem aiL {a b:Int} {k:IntKind} {H:V→ab→Prop} (hk:H (.int k (if a<b then b else a)) σ):OQ.aL σ H .max [.int k a,.int k b]:=⟨Dw,hk⟩
theorem ano {b g:Nat} {cs ds:List V} (h:σ.box b=none) (hg:σ.box g=some ds):(σ.set b cs).box g=some ds:=by
  rw[ab.cN _ _ (by rintro rfl;rw[h] at hg;simp at hg)];exact hg
theorem fv {b:Nat} {cs:List V} (h:σ.box b=none):σ.sub (σ.set b cs) :=
  ⟨fun g ds hg=>ano h hg,fun _ _ h=>h,fun _ _ h=>h⟩
end
section
variable {P:Program} {a:AC} {Q:Exit→St→Prop} {st:St} {α:Type} {F:Nat→α→St} {J:Nat→α→Prop} {n:Nat}
def CI (n:Nat) (J:Nat→α→Prop):={p:Nat × α // p.1≤n∧J p.1 p.2}
def y_ (F:Nat→α→St) (J:Nat→α→Prop) (n:Nat) (Q:Exit→St→Prop) (i:Nat):Exit→St→Prop :=
  uN (ι:=CI n J) (fun p=>F p.1.1 p.1.2) (fun p=>n - p.1.1) Q (n - i)
def BN (F:Nat→α→St) (J:Nat→α→Prop) (st:St):Prop:=aZ st fun al => ∃x,J 0 x∧al = F 0 x
theorem db (n:Nat) (F:Nat→α→St) (J J' : Nat→α→Prop) (hJ:∀i x,J i x=J' i x) (h0:BN F J st)
    (hs:∀i x,i<n→J' i x→vc P a (y_ F J n Q i) (F i x)) (he:∀x,J' n x→vc P a (y_ F J n Q n) (F n x)):vc P (.loop a) Q st:=by
  refine jj (ι:=CI n J) (fun p=>F p.1.1 p.1.2) (fun p=>n - p.1.1) (aZ.mono h0 ?_) ?_
  · rintro al ⟨x,hx,rfl⟩;exact⟨⟨(0,x),pe _,hx⟩,rfl⟩
  · rintro⟨⟨i,x⟩,hle,hx⟩
    rcases mz i n with h | h
    · exact hs i x h ((hJ i x)▸hx)
    · have e:i=n:=Nat.le_antisymm hle h;subst e;exact he x ((hJ i x)▸hx)
theorem YW {i id:Nat}:y_ F J n Q i (.exit id) st=Q (.exit id) st:=rfl
theorem YY {i:Nat}:y_ F J n Q i .ret st=Q .ret st:=rfl
def EY (F:Nat→α→St) (J:Nat→α→Prop) (n i:Nat) (st:St):Prop:=aZ st fun al => ∃j:CI n J,al = F j.1.1 j.1.2∧n - j.1.1<n - i
theorem YX {i:Nat}:y_ F J n Q i .normal st=EY F J n i st:=rfl
def aM:=And.intro @YW <| And.intro @YY @YX
variable {t:List V} {l:List (List V)} {σ:ab}
theorem dA (x:α) (hx:J 0 x) (h:bZ t (F 0 x).t) (hl:bY l (F 0 x).loc) (ho:bC σ (F 0 x).out):BN F J ⟨t,l,σ⟩ :=
  aZ.dh h hl ho ⟨x,hx,rfl⟩
theorem nxt {i:Nat} (x:α) (hi:i<n) (hx:J (i+1) x) (h:bZ t (F (i+1) x).t) (hl:bY l (F (i+1) x).loc) (ho:bC σ (F (i+1) x).out):EY F J n i ⟨t,l,σ⟩ :=
  aZ.dh h hl ho ⟨⟨(i+1,x),hi,hx⟩,rfl,by simp only;omega⟩
theorem eK {i:Nat} (x:α) (hi:i<n) (hx:J (i+1) x) (h:bZ t (F (i+1) x).t) (hl:bY (l.take (F (i+1) x).loc.length) (F (i+1) x).loc) (ho:bC σ (F (i+1) x).out) (h1:bn (F (i+1) x).loc.length (F (i+1) x).t=true) (h2:cK (F (i+1) x).loc.length (F (i+1) x).loc=true):EY F J n i ⟨t,l,σ⟩ :=
  aZ.xD h hl ho h1 h2 ⟨⟨(i+1,x),hi,hx⟩,rfl,by simp only;omega⟩
structure Gr (ck σ:ab) (tk:Tk) (n:Nat):Prop where
  sub:ck.sub σ
  tk:tk = .full∨∃τ,tk = .tk τ∧σ.aB τ=some n∧ck.aB τ=none
theorem Gr.nil {σ:ab}:Gr σ σ .full 0:=⟨ab.aS _,.inl rfl⟩
theorem Gr.app {ck σ:ab} {tk u:Tk} {k:Nat} {m e:List (List V)} {K:V→ab→Prop} (h:Gr ck σ tk m.length) (hb:m.length+e.length≤aE)
    (hk:∀iP σ',Gr ck σ' iP (m++e).length→σ'.box=σ.box→(∀τ n,σ.aB τ=some n→tk≠.tk τ→σ'.aB τ=some n)→K (.sl iP k (m++e)) σ'):mu σ k (.sl tk k m) (.sl u k e) K:=by
  have hl:(m++e).length=m.length+e.length:=bz
  rcases h.tk with rfl | ⟨τ,rfl,ht,h0⟩
  · refine FG hb fun τ hn=>hk _ _ ⟨⟨fun b cs hc=>h.sub.1 b cs hc,fun υ n hu=>?_,h.sub.2.2⟩,.inr ⟨τ,rfl,by rw[hl];exact JQ,?_⟩⟩ rfl fun υ n hu _=>?_
    · have:=h.sub.2.1 υ n hu
      rw[wq];exact this;rintro rfl;rw[hn] at this;simp at this
    · cases hq:ck.aB τ with
      | none=>rfl
      | some n=>have:=h.sub.2.1 τ n hq;rw[hn] at this;simp at this
    · rw[wq];exact hu;rintro rfl;rw[hn] at hu;simp at hu
  · refine jt hb ht (hk _ _ ⟨⟨fun b cs hc=>h.sub.1 b cs hc,fun υ n hu=>?_,h.sub.2.2⟩,.inr ⟨τ,rfl,by rw[hl];exact JQ,h0⟩⟩ rfl fun υ n hu aH=>?_)
    · rw[wq];exact h.sub.2.1 υ n hu;rintro rfl;rw[h0] at hu;simp at hu
    · rw[wq];exact hu;rintro rfl;exact aH rfl
theorem bj {l:List V}:bZ l l=True:=eq_true bZ.rfl
theorem Bp {α:Type} {l:List α} {i:Nat} {p:α→Prop} (h:∀k∈l.take i,p k) (hi:i<l.length) (hk:p l[i]):∀k∈l.take (i+1),p k:=by
  rw[jV hi];intro k hm
  rcases gY.1 hm with hm | hm
  · exact h k hm
  · rw[lb.1 hm];exact hk
theorem Qi {α β:Type} {f:β→α→β} {a:β} {l:List α} {i:Nat} (hi:i<l.length):(l.take (i+1)).foldl f a=f ((l.take i).foldl f a) l[i]:=by
  rw[jV hi,zd];rfl
theorem w8 {p:Nat→Prop} {j:Nat} (h:∀k,k<j→p k) (hj:p j):∀k,k<j+1→p k:=fun k hk=>by
  rcases V'.1 hk with e | rfl
  · exact h k e
  · exact hj
theorem c8 {i n:Nat} (h:i<n):decide ((i:Int)<(n:Nat))=true:=aC (by omega)
theorem c9 {n:Nat}:decide ((n:Int)<(n:Nat))=false:=aA (by omega)
theorem ca {i n:Nat} (h:i<n) (hn:n≤9223372036854775807):IntKind.i64.wrap ((i:Int)+1)=((i+1:Nat):Int):=by
  rw[wrap_i64 (by omega) (by omega)];rfl
end
def gv (n b:Nat):V→V
  | .ptr (.loc i) o=>if i=n then .ptr (.out b) o else if i<n then .ptr (.loc i) o else .any
  | v=>if v.lo n=true then v else .any
def Env.lG (E:Env) (n b:Nat):Env:={w:=E.w,role:=fun x=>if x=b then .mb else E.role x,loc:=fun i=>if i<n then E.loc i else none,aB:=E.aB}
section
variable {E:Env} {n b:Nat}
theorem Jg (h2:E.role b = .fY n):Fr E (E.lG n b):=by
  have iF:∀x,x≠b→(E.lG n b).role x=E.role x:=fun x hx=>by simp[Env.lG,hx]
  refine⟨rfl,rfl,rfl,bt _,fun _=>rfl,fun b' o c hc hv=>?_,fun t m h=>⟨m,h,bt _,fun _ b' c hr=>⟨?_,fun cs e hcs=>⟨cs,hcs,rfl⟩⟩⟩,fun b' _ hr=>⟨rfl,?_⟩,fun b' _ h=>?_,fun b' t c _ h=>?_,fun b' i _ h=>?_,fun _ c _ h=>⟨c,h,rfl⟩⟩
  · have aH:b' ≠ b:=fun e=>by rw[e,h2] at hc;exact hc
    exact⟨by rw[iF _ aH];exact hc,hv⟩
  · have aH:b' ≠ b:=fun e=>by rw[e,h2] at hr;simp at hr
    rw[iF _ aH];exact hr
  · have aH:b' ≠ b:=fun e=>by rw[e,h2] at hr;simp at hr
    rw[iF _ aH]
  · by_cases e:b' = b
    · rw[e];exact .inr ⟨_,h2⟩
    · rw[iF _ e] at h;exact .inl h
  · by_cases e:b' = b
    · rw[e] at h;simp[Env.lG] at h
    · rw[iF _ e] at h;exact⟨c,h⟩
  · by_cases e:b' = b
    · rw[e] at h;simp[Env.lG] at h
    · rw[iF _ e] at h;exact⟨i,h⟩
theorem TI (h1:E.loc n=some b) (h2:E.role b = .fY n) {x:V} {v:Value} (h:R E x v):R (E.lG n b) (gv n b x) v:=by
  have Hb:∀{x:V},R E x v→R (E.lG n b) (if x.lo n=true then x else .any) v:=fun {x} h=>by
    split
    · rename_i hl;have hc:=R.cut x hl h;refine R.mono x (E:=E.cut n) ⟨(Jg h2).cell,fun i c hc=>?_,(Jg h2).tok⟩ hc;simp only[Env.cut] at hc;simp only[Env.lG];exact hc
    · simp only[R]
  unfold gv;split
  · rename_i i o;simp only[R] at h;obtain⟨c,k1,k2⟩:=h;split
    · rename_i e;subst e;rw[h1] at k1;simp only[R];rw[k2];cases k1;rfl
    · split
      · rename_i ag;simp only[R,Env.lG];exact⟨c,by rw[aw ag];exact k1,k2⟩
      · simp only[R]
  · exact Hb h
theorem TJ (h1:E.loc n=some b) (h2:E.role b = .fY n):∀{l:List V} {vs:List Value},RL E l vs→RL (E.lG n b) (l.map (gv n b)) vs
  | [],[],_=>by simp[RL]
  | [],_::_,h=>by simp[RL] at h
  | _::_,[],h=>by simp[RL] at h
  | x :: l, v :: vs, h => by
    simp only[RL,bL] at h ⊢;exact⟨TI h1 h2 h.1,TJ h1 h2 h.2⟩
end
theorem aZ.alo {t:List V} {l:List (List V)} {cs:List V} {σ:ab} {K:St→Prop} (hn:bd cs=true)
    (hk:∀b,σ.box b=none→K ⟨t.map (gv l.length b),l.map (List.map (gv l.length b)),σ.set b cs⟩):aZ ⟨t,l++[cs],σ⟩ K:=by
  intro E a hs;obtain⟨b,h1,h2,h3⟩:=hs.bW.box l.length cs (by simp);have aQ:=Jg h2;have iF:∀x,x≠b→(E.lG l.length b).role x=E.role x:=fun x hx=>by simp[Env.lG,hx]
  have G5:σ.box b=none:=by
    cases hq:σ.box b with
    | none=>rfl
    | some ds=>have:=(hs.ok.box b ds hq).1;rw[h2] at this;simp at this
  have ag:b<E.w.heap.size:=by obtain⟨c,e,k,_⟩:=h3;exact iK (w:=E.w) k
  refine⟨E.lG l.length b,⟨t.map (gv l.length b),l.map (List.map (gv l.length b)),σ.set b cs⟩,rfl,aQ,⟨⟨fun b' ds hd=>?_,hs.ok.aB,fun b' bl => ?_,hs.ok.nt,fun b cs hc=>cJ.mono _ aQ.nl (hs.ok.bH b cs hc)⟩,⟨fun i ds hd=>?_,fun i hi=>?_⟩,hs.defers,TJ h1 h2 hs.slot⟩,hk b G5⟩
  · by_cases e:b' = b
    · subst e;have hd:(σ.set b' cs).box b' = some ds:=hd;rw[gU] at hd;cases hd;refine⟨by simp[Env.lG],?_⟩;obtain⟨c,e,k1,k2,k3⟩:=h3;refine⟨c,e,k1,k2,fun j x hx=>?_⟩;obtain⟨v,q1,q2⟩:=k3 j x hx;refine⟨v,q1,R.ma (E:=E) x (by rw[Env.ai6];exact aQ.nl) ?_ q2⟩
      have:∀{l:List V} {j:Nat} {x:V},bd l=true→l[j]?=some x→x.bS=true:=by
        intro l;induction l with
        | nil=>intro j x _ h;simp at h
        | cons y ys ih =>
          intro j x hl h;simp only[bd,bm] at hl;cases j with
          | zero=>simp at h;rw[←h];exact hl.1
          | succ j=>exact ih hl.2 (by simpa using h)
      exact this hn hx
    · have hd:(σ.set b cs).box b' = some ds:=hd;rw[pX e] at hd;obtain⟨k1,k2⟩:=hs.ok.box b' ds hd;exact⟨by rw[iF _ e];exact k1,k2.mono aQ.nl rfl⟩
  · have bl : E.w.heap.size≤b' := bl;rw[iF b' (by omega)];exact hs.ok.fresh b' bl
  · have hd:(l.map (List.map (gv l.length b)))[i]?=some ds:=hd;simp only[qg,cf] at hd;obtain⟨Pw,C4,rfl⟩:=hd;have hi:i<l.length:=(dj.1 C4).1;obtain⟨bi,k1,k2,c,e,k3,k4,k5⟩:=hs.bW.box i Pw (by rw[nk hi];exact C4);have aH:bi≠b:=fun e=>by rw[e,h2] at k2;simp at k2;omega
    refine⟨bi,by simp[Env.lG,hi,k1],by rw[iF _ aH];exact k2,c,e,k3,by simpa using k4,fun j x hx=>?_⟩;simp only[qg,cf] at hx;obtain⟨x0,AF,rfl⟩:=hx;obtain⟨v,q1,q2⟩:=k5 j x0 AF;exact⟨v,q1,TI h1 h2 q2⟩
  · have hi:l.length≤i:=by simpa using hi
    simp only[Env.lG];rw[ah (by omega)]
section
variable {n b i o:Nat} {k:IntKind} {z:Int} {q:Bool} {s:List UInt8} {τ:Tk} {m:List (List V)} {c:List V}
theorem alf:gv n b .any = .any:=by simp[gv]
theorem ali:gv n b (.int k z) = .int k z:=by simp[gv,V.lo]
theorem alg:gv n b (.bool q) = .bool q:=by simp[gv,V.lo]
theorem aln:gv n b (.str s) = .str s:=by simp[gv,V.lo]
theorem alm:gv n b (.sl τ i m) = .sl τ i m:=by simp[gv,V.lo]
theorem alk:gv n b (.ptr (.out i) o) = .ptr (.out i) o:=by simp[gv,V.lo]
theorem alh:gv n b (.elt c o) = .elt c o:=by simp[gv,V.lo]
theorem alj:gv n b (.ptr (.loc i) o)=if i=n then .ptr (.out b) o else if i<n then .ptr (.loc i) o else .any:=rfl
theorem ale:gv n b (.agg c)=if bn n c=true then .agg c else .any:=rfl
theorem TK:∀{l:List V},bn n l=true→bd l=true→l.map (gv n b)=l
  | [],_,_=>rfl
  | x :: l, h1, h2 => by
    simp only[bn,bd,bm] at h1 h2;rw[bL,TK h1.2 h2.2];congr 1;unfold gv;split
    · simp[V.bS] at h2
    · rw[aw h1.1]
def Wm:=And.intro @alf <| And.intro @ali <| And.intro @alg <| And.intro @aln <| And.intro @alm <| And.intro @alk <| And.intro @alh <| And.intro @alj @ale
end
theorem dd.mk1 {σ:ab} {k:Nat} {c:List V} {H:V→ab→Prop} {v:V} (hv:tX k [v]=some [c]) (hl:c.length=k) (hn:bd c=true)
    (hk:∀v' σ',dd σ' k v' [c]→wX σ σ' v' → H v' σ'):OQ.aL σ H (.new k) [v]:=by
  refine⟨[c],hv,by simpa using hn,fun b hb=>hk _ _ ⟨_,1,rfl,bt _,by simpa using hl,.inr ⟨b,c,rfl,by simp[gU],by simpa using hl,by simp[wR,hl]⟩⟩ ⟨?_,?_⟩⟩
  · simpa using fv (cs:=c) hb
  · intro b' bl;simp only[mf,aG] at bl;subst bl;exact hb
theorem ang {xs ys:List V} {n:Nat} {c:List V} (h:n+c.length≤ys.length):setAt (xs++ys) (xs.length+n) c=xs++setAt ys n c:=by
  induction xs with
  | nil=>simp
  | cons x xs ih=>rw[gN,cF,show xs.length+1+n=(xs.length+n)+1 by omega,iO,ih];rfl
theorem S7 {xs ys c:List V} (h:c.length≤xs.length):over (xs++ys) c=over xs c++ys:=by
  induction xs generalizing c with
  | nil=>have:c=[]:=nj (by simpa using h);subst this;simp[kU]
  | cons x xs ih =>
    cases c with
    | nil=>rw[kU,kU]
    | cons d c=>rw[gN,mT,mT,ih (by simpa using h)];rfl
theorem anh {xs ys c:List V} {n:Nat} (h:n+c.length≤xs.length):setAt (xs++ys) n c=setAt xs n c++ys:=by
  induction xs generalizing n with
  | nil =>
    have h' : n+c.length≤0:=h;obtain rfl:c=[]:=nj (by omega);obtain rfl:n=0:=by omega
    rw[ku,ku,kU,kU]
  | cons x xs ih =>
    cases n with
    | zero=>rw[ku,ku,S7 (by simpa using h)]
    | succ n=>rw[gN,iO,iO,ih (by simp at h;omega)];rfl
theorem UO {xs c:List V} {n:Nat} (h:n+c.length≤xs.length):(setAt xs n c).length=xs.length:=by
  induction xs generalizing n with
  | nil=>cases n<;>rfl
  | cons x xs ih =>
    cases n with
    | zero =>
      rw[ku];clear ih
      have:∀{xs c:List V},c.length≤xs.length→(over xs c).length=xs.length:=by
        intro xs;induction xs with
        | nil=>intro c h;cases c with | nil=>rfl | cons d c=>simp at h
        | cons x xs ih=>intro c h;cases c with | nil=>rw[kU] | cons d c=>rw[mT,cF,cF,ih (by simpa using h)]
      exact this (by simpa using h)
    | succ n=>rw[iO,cF,cF,ih (by simp at h;omega)]
theorem dd.put {σ:ab} {k:Nat} {v:V} {rows:List (List V)} {j off b:Nat} {c cs:List V} {x:List V} (h:dd σ k v rows) (hj:rows[j]?=some c) (hb:mf v=some b) (hc:σ.box b=some cs) (ho:off+x.length≤k) :
    dd (σ.set b (setAt cs (j*k+off) x)) k v (rows.set j (setAt c off x))∧rA σ v (σ.set b (setAt cs (j*k+off) x)) v:=by
  obtain⟨a,cap,rfl,h1,h2,h3⟩:=h;have ag:=(dj.1 hj).1;have fU:c.length=k:=h2 c (wP hj)
  rcases h3 with h3 | ⟨b',cs',rfl,h4,h5,h6⟩
  · omega
  · simp only[mf,aG] at hb;subst hb;rw[h4] at hc;cases hc;have jA:=iA h2;have e1:cs=rows.flatten++cs.drop (rows.length*k):=by rw[←h6];simp
    have e2:rows=rows.take j++c::rows.drop (j+1):=by
      rw[←(dj.1 hj).2,←jU ag,my]
    have C9:(rows.take j).flatten.length=j*k:=by
      have:=iA (l:=rows.take j) (k:=k) fun r hr=>h2 r (ru hr)
      rw[this,gO,qm (by omega)]
    have e3:rows.flatten=(rows.take j).flatten++(c++(rows.drop (j+1)).flatten):=by
      conv=>lhs;rw[e2]
      rw[od,iQ]
    have e4:setAt cs (j*k+off) x=(rows.set j (setAt c off x)).flatten++cs.drop (rows.length*k):=by
      have hs:rows.set j (setAt c off x)=rows.take j++setAt c off x::rows.drop (j+1):=by
        rw[List.set_eq_take_append_cons_drop,aw ag]
      conv=>lhs;rw[e1,e3]
      rw[eh,←C9,ang (by simp[fU];omega),eh,anh (by omega),hs,od,iQ];simp only[eh]
    have dp:∀r∈rows.set j (setAt c off x),r.length=k:=fun r hr=>by
      rcases List.mem_or_eq_of_mem_set hr with hr | rfl
      · exact h2 r hr
      · rw[UO (by omega),fU]
    have afL:=iA dp;refine⟨⟨_,cap,by rw[List.length_set],by rw[List.length_set];exact h1,dp,.inr ⟨b',_,rfl,gU,?_,?_⟩⟩,fun c' ds hd aH=>?_,rfl,fun _ h=>.inl h,rfl⟩
    · have:(setAt cs (j*k+off) x).length=cs.length:=UO (by
        rw[h5]
        have:(j+1)*k≤cap*k:=mA _ (by omega)
        rw[gb] at this;omega)
      rw[this,h5]
    · rw[e4,←afL,List.take_left]
    · have:c' ≠ b' := fun e=>aH (by rw[e];rfl)
      rw[pX this];exact hd
def bf (r:Rl):Nat:=min r.n.toNat 64
def fM (r:Rl) (i:Nat):aU:=r.get i&&&lR (bf r:Nat)
def cT (r:Rl) (i j:Nat):Bool:=decide (i<bf r)&&(fM r i).getLsbD j
def j8 (r:Rl):Rl:=Rl.of (bf r:Nat) fun i=>if i<bf r then fM r i else 0#64
section
variable {r s:Rl} {i j k:Nat}
theorem kt:bf r≤64:=Nat.min_le_right _ _
theorem Jv:(fM r i).getLsbD j=((r.get i).getLsbD j&&decide (j<bf r)):=by
  rw[fM,wK,OJ]
  by_cases h:j<64
  · simp only[h,bQ,lJ];congr 1;apply nB.2;omega
  · rw[y9 _ _ (by omega)];simp
theorem Dk:cT r i j=(decide (i<bf r)&&(decide (j<bf r)&&(r.get i).getLsbD j)):=by rw[cT,Jv,Bool.and_comm (BitVec.getLsbD _ _)]
theorem tP (h:cT r i j=true):i<bf r∧j<bf r:=by
  rw[Dk] at h;simp only[bm,cq] at h;exact⟨h.1,h.2.1⟩
theorem aj5 {n:Nat} {f:Nat→aU} (h:n≤64):bf (Rl.of (n:Nat) f)=n:=by simp only[bf,Rl.of];omega
theorem D7:bf (j8 r)=bf r:=aj5 kt
theorem Ba (h:i<64):(j8 r).get i=if i<bf r then fM r i else 0#64:=Rl.ke h
theorem ak1 (h:i<bf r):(j8 r).get i=fM r i:=by rw[Ba (ql h kt),aw h]
theorem Tw:cT (j8 r) i j=cT r i j:=by
  by_cases h:i<bf r
  · rw[Dk,D7,ak1 h,Jv,Dk];cases decide (i<bf r)<;>cases decide (j<bf r)<;>simp
  · rw[cT,cT,D7];simp[h]
theorem Tx:j8 r=j8 s↔bf r=bf s∧∀i j,cT r i j=cT s i j:=by
  constructor
  · intro h;exact⟨by rw[←D7 (r:=r),h,D7],fun i j=>by rw[←Tw (r:=r),h,Tw]⟩
  · rintro⟨h1,h2⟩;refine Rl.ext (by simp only[j8,Rl.of,h1]) fun i hi=>?_
    rw[Ba hi,Ba hi,h1];split
    · rename_i h;apply xG;intro j _
      have:=h2 i j
      rwa [cT,cT,h1,aC h,lJ,lJ] at this
    · rfl
theorem PB (h:bf r=0):j8 r=Rl.of 0 fun _=>0#64:=by
  refine Rl.ext (by simp[j8,Rl.of,h]) fun i hi=>?_
  rw[Ba hi,h,ah (by omega),Rl.ke hi]
inductive iT (r:Rl) (i:Nat):Nat→Prop
  | refl (h:i<bf r):iT r i i
  | tail {j k:Nat} (h:iT r i j) (hs:cT r j k=true):iT r i k
theorem iT.lt (h:iT r i j):i<bf r∧j<bf r:=by
  induction h with
  | refl h=>exact⟨h,h⟩
  | tail _ hs ih=>exact⟨ih.1,(tP hs).2⟩
theorem iT.trans (h:iT r i j) (h' : iT r j k):iT r i k:=by
  induction h' with
  | refl _=>exact h
  | tail _ hs ih=>exact ih.tail hs
theorem iT.one (h:cT r i j=true):iT r i j:=(iT.refl (tP h).1).tail h
def qw (r:Rl):Rl:=Rl.of (bf r:Nat) fun i=>if i<bf r then im (fM r i) (i:Nat) else 0#64
def su (k:Nat) (o:Rl) (i:Nat):Rl:=if hasB (o.get i) (k:Nat) then o.put i (o.get i|||o.get k) else o
def ja (n k:Nat) (o:Rl):Rl:=(List.range n).foldl (su k) o
def oh (r:Rl):Rl:=(List.range (bf r)).foldl (fun o k=>ja (bf r) k o) (qw r)
theorem aft {w:aU}:hasB w (k:Nat)=w.getLsbD k:=by simp[hasB]
theorem tu {α:Type} {f:α→Nat→α} {a:α} {n:Nat}:(List.range (n+1)).foldl f a=f ((List.range n).foldl f a) n:=by rw[qj,zd];rfl
theorem alq {w:aU}:(r.put i w).n=r.n:=rfl
theorem ago {n:Nat} {o:Rl}:(ja n k o).n=o.n:=by
  unfold ja;induction n with
  | zero=>rfl
  | succ n ih=>rw[tu,su];split<;>simp[alq,ih]
theorem RK {o:Rl} {n:Nat} (h:n≤64):(ja n k o).get i=if i<n∧(o.get i).getLsbD k=true then o.get i|||o.get k else o.get i:=by
  induction n generalizing i with
  | zero=>simp[ja]
  | succ n HZ =>
    have ih:=fun i=>@HZ i (by omega)
    have hk:(ja n k o).get k=o.get k:=by rw[ih k];split<;>simp
    have e:ja (n+1) k o=su k (ja n k o) n:=tu;rw[e,su,aft]
    by_cases hi:i=n
    · subst hi;have Q6:(ja i k o).get i=o.get i:=by rw[ih i,ah (by omega)]
      rw[Q6,hk];split
      · rename_i hb;rw[Rl.xQ,aw ⟨rfl,by omega⟩,aw ⟨by omega,hb⟩]
      · rename_i hb;rw[Q6,ah (fun hc=>hb hc.2)]
    · have aH:(if ((ja n k o).get n).getLsbD k=true then (ja n k o).put n ((ja n k o).get n|||(ja n k o).get k) else ja n k o).get i=(ja n k o).get i:=by
        split
        · rw[Rl.xQ,ah (by omega)]
        · rfl
      rw[aH,ih i]
      by_cases ag:i<n
      · simp[ag,show i<n+1 by omega]
      · simp[ag,show ¬i<n+1 by omega]
def iN (r:Rl) (m:Nat):Rl:=(List.range m).foldl (fun o k=>ja (bf r) k o) (qw r)
theorem D1 {m:Nat}:iN r (m+1)=ja (bf r) m (iN r m):=tu
theorem I5 {m:Nat}:(iN r m).n=(bf r:Nat):=by
  induction m with
  | zero=>rfl
  | succ m ih=>rw[D1,ago,ih]
theorem A_ {m:Nat} (hi:i<bf r):((iN r (m+1)).get i).getLsbD j=(((iN r m).get i).getLsbD j||(((iN r m).get i).getLsbD m&&((iN r m).get m).getLsbD j)):=by
  rw[D1,RK kt];cases hq:((iN r m).get i).getLsbD m with
  | false=>simp
  | true=>simp[hi]
theorem OZ (hi:i<bf r):((qw r).get i).getLsbD j=(cT r i j||decide (j=i)):=by
  have cD : i<64:=ql hi kt;rw[qw,Rl.ke cD,aw hi,EM,cT,aC hi,lJ];congr 1
  by_cases h:j=i
  · subst h;simp[cD]
  · simp[h];omega
theorem akr {m:Nat} (h:bf r≤i) (hi:i<64):(iN r m).get i=0#64:=by
  induction m with
  | zero=>rw[iN];simp only[List.range_zero,List.foldl_nil,qw];rw[Rl.ke hi,ah (by omega)]
  | succ m ih=>rw[D1,RK kt,ah (by omega),ih]
theorem aks {m:Nat} (hm:m≤bf r) (hi:i<bf r):∀{j:Nat},((iN r m).get i).getLsbD j=true→iT r i j:=by
  induction m generalizing i with
  | zero =>
    intro j h;have h:((qw r).get i).getLsbD j=true:=h;rw[OZ hi,jS,cq] at h
    rcases h with h | rfl
    · exact iT.one h
    · exact iT.refl hi
  | succ m ih =>
    intro j h;rw[A_ hi,jS,bm] at h
    rcases h with h | ⟨h1,h2⟩
    · exact ih (by omega) hi h
    · exact(ih (by omega) hi h1).trans (ih (by omega) (by omega) h2)
theorem I4 {m:Nat} (hi:i<bf r) (h:cT r i j=true∨j=i):((iN r m).get i).getLsbD j=true:=by
  induction m with
  | zero=>show ((qw r).get i).getLsbD j=true;rw[OZ hi];simpa using h
  | succ m ih=>rw[A_ hi,ih];rfl
theorem akt {m:Nat} (hm:m≤bf r):∀{i k j:Nat},i<bf r→k<m→((iN r m).get i).getLsbD k=true→((iN r m).get k).getLsbD j=true→((iN r m).get i).getLsbD j=true:=by
  induction m with
  | zero=>intro i k j _ h;omega
  | succ m ih =>
    intro i k j hi hk h1 h2;have ih:=@ih (by omega);have Df:((iN r m).get m).getLsbD m=true:=I4 (by omega) (.inr rfl);rw[A_ hi] at h1;rw[A_ (by omega)] at h2;rw[A_ hi];simp only[jS,bm] at h1 h2 ⊢
    by_cases hkm:k=m
    · subst hkm;have a:((iN r k).get i).getLsbD k=true:=h1.elim id (·.1);have b:((iN r k).get k).getLsbD j=true:=h2.elim id (·.2);exact .inr ⟨a,b⟩
    · have iY : k<m:=by omega
      rcases h1 with h1 | ⟨h1,rQ⟩
      · rcases h2 with h2 | ⟨h2,zV⟩
        · exact .inl (ih hi iY h1 h2)
        · exact .inr ⟨ih hi iY h1 h2,zV⟩
      · rcases h2 with h2 | ⟨_,zV⟩
        · exact .inr ⟨h1,ih (by omega) iY rQ h2⟩
        · exact .inr ⟨h1,zV⟩
theorem FQ (hi:i<bf r):((oh r).get i).getLsbD j=true↔iT r i j:=by
  show ((iN r (bf r)).get i).getLsbD j=true↔_;constructor
  · exact aks (bt _) hi
  · intro h;induction h with
    | refl h=>exact I4 h (.inr rfl)
    | tail h hs ih=>exact akt (bt _) hi h.lt.2 ih (I4 h.lt.2 (.inl hs))
theorem zy:bf (oh r)=bf r:=by
  have:(oh r).n=(bf r:Nat):=I5
  rw[bf,this];have:=@kt r;omega
theorem FR:cT (oh r) i j=true↔iT r i j:=by
  rw[Dk,zy];constructor
  · intro h;simp only[bm,cq] at h;exact(FQ h.1).1 h.2.2
  · intro h
    have:=h.lt
    rw[aC this.1,aC this.2,(FQ this.1).2 h];rfl
theorem YH:j8 (oh r)=oh r:=by
  refine Rl.ext ?_ fun i hi=>?_
  · show ((bf (oh r):Nat):Int)=_;rw[zy];exact I5.symm
  · rw[Ba hi,zy];split
    · rename_i ag;apply xG;intro j _;rw[Jv,zy];cases hq:((oh r).get i).getLsbD j with
      | false=>rfl
      | true=>rw[aC ((FQ ag).1 hq).lt.2];rfl
    · exact(akr (by omega) hi).symm
def qx (r:Rl):Bool:=decide (j8 r=oh r)
theorem YJ:qx r=true↔(∀i,i<bf r→cT r i i=true)∧∀i j k,cT r i j=true→cT r j k=true→cT r i k=true:=by
  rw[qx,decide_eq_true_iff,←YH,Tx];constructor
  · rintro⟨_,h⟩;refine⟨fun i hi=>?_,fun i j k h1 h2=>?_⟩
    · rw[h,FR];exact iT.refl hi
    · rw[h,FR] at h1 h2 ⊢;exact h1.trans h2
  · rintro⟨h1,h2⟩;refine⟨zy.symm,fun i j=>?_⟩;rw[BM,FR];refine⟨iT.one,fun h=>?_⟩;induction h with
    | refl h=>exact h1 _ h
    | tail _ hs ih=>exact h2 _ _ _ ih hs
def rm (r:Rl) (w:aU):aU:=(dY (w&&&lR (bf r:Nat))).foldl (fun o i=>o|||fM r i) 0#64
theorem Qj {f:Nat→aU}:∀{l:List Nat} {o:aU},(l.foldl (fun o i=>o|||f i) o).getLsbD j=(o.getLsbD j||l.any fun i=>(f i).getLsbD j)
  | [],o=>by simp
  | a::l,o=>by rw[qe,Qj,BitVec.getLsbD_or,List.any_cons,Bool.or_assoc]
theorem Vt {w:aU}:(rm r w).getLsbD j=true↔∃i,w.getLsbD i=true∧cT r i j=true:=by
  rw[rm,Qj];simp only[BitVec.getLsbD_zero,wL,za,SD,wK,bm,OJ,cq];constructor
  · rintro⟨i,⟨h1,_,h2⟩,h3⟩;exact⟨i,h1,by rw[cT,h3,aC (by omega)];rfl⟩
  · rintro⟨i,h1,h2⟩
    have:=(tP h2).1;have:=@kt r
    rw[cT,bm] at h2;exact⟨i,⟨h1,by omega,by omega⟩,h2.2⟩
def s9 (r:Rl) (w:aU):aU:=(List.range (bf r)).foldl (fun o i=>if fM r i&&&w=0#64 then o else im o (i:Nat)) 0#64
theorem aiZ {w:aU}:w≠0#64↔∃j,w.getLsbD j=true:=by
  constructor
  · intro h;exact⟨_,(AY h).2.1⟩
  · rintro⟨j,h⟩ rfl;simp at h
theorem ZW {w:aU} {n:Nat} (h:n≤64):((List.range n).foldl (fun o i=>if fM r i&&&w=0#64 then o else im o (i:Nat)) 0#64).getLsbD i=true↔i<n∧fM r i&&&w≠0#64:=by
  induction n with
  | zero=>simp
  | succ n HZ =>
    have ih:=HZ (by omega);rw[tu]
    by_cases hi:i=n
    · subst hi;split
      · rename_i h0;rw[ih];constructor
        · intro hc;omega
        · intro hc;exact absurd h0 hc.2
      · rename_i h0;rw[EM,aC (show i<64 by omega)];simp[h0]
    · split
      · rw[ih];constructor<;>rintro⟨a,b⟩<;>exact⟨by omega,b⟩
      · rw[EM,aA (p:=(i:Int)=(n:Nat)) (by omega),Bool.and_false,Bool.or_false,ih];constructor<;>rintro⟨a,b⟩<;>exact⟨by omega,b⟩
theorem ZX {w:aU}:(s9 r w).getLsbD i=true↔∃j,w.getLsbD j=true∧cT r i j=true:=by
  rw[s9,ZW kt,aiZ];simp only[wK,bm,cT,cq];constructor
  · rintro⟨a,j,b,c⟩;exact⟨j,c,a,b⟩
  · rintro⟨j,c,a,b⟩;exact⟨a,j,b,c⟩
theorem DW {i j:Nat} (h:i<64):(lF [(i:Int)]).getLsbD j=decide (j=i):=by
  rw[S1]
  by_cases e:j=i
  · subst e;simp[h]
  · simp[e];omega
theorem IL:∀{n:Nat} {l:List Nat},l.Nodup→(∀x∈l,x<n)→l.length≤n
  | 0, l, _, h => by
    cases l with
    | nil=>simp
    | cons a l=>have:=h a (by simp);omega
  | n + 1, l, hd, h => by
    by_cases hn:n∈l
    · have:=IL (n:=n) (hd.erase n) fun x hx=>by
        have:=h x (List.mem_of_mem_erase hx)
        have aH:x≠n:=fun e=>by subst e;exact(hd.not_mem_erase) hx
        omega
      rw[List.length_erase_of_mem hn] at this;omega
    · have:=IL (n:=n) hd fun x hx=>by
        have:=h x hx
        have aH:x≠n:=fun e=>hn (e▸hx)
        omega
      omega
def uf (r:Rl) (i:Nat):aU:=rm r (lF [(i:Int)])&&&s9 r (lF [(i:Int)])
def uY (r:Rl):Bool:=(List.range (bf r)).all fun i=>(List.range i).all fun j=>!(cT r i j&&cT r j i)
def yF (r:Rl):Bool:=qx r&&uY r
theorem Wq:uY r=true↔∀i j,cT r i j=true→cT r j i=true→i=j:=by
  simp only[uY,la,uV,uK,BL];constructor
  · intro h i j h1 h2
    have:=tP h1
    rcases zh i j with hc | hc | hc
    · rcases h j this.2 i hc with e | e
      · rw[e] at h2;simp at h2
      · rw[e] at h1;simp at h1
    · exact hc
    · rcases h i this.1 j hc with e | e
      · rw[e] at h1;simp at h1
      · rw[e] at h2;simp at h2
  · intro h i hi j hj;cases h1:cT r i j with
    | false=>exact .inl rfl
    | true =>
      cases h2:cT r j i with
      | false=>exact .inr rfl
      | true=>have:=h i j h1 h2;omega
theorem SG (hi:i<64):(uf r i).getLsbD j=(cT r i j&&cT r j i):=by
  rw[uf,wK,BM,bm,bm,Vt,ZX];simp only[DW hi,cq];constructor
  · rintro⟨⟨a,rfl,h1⟩,⟨b,rfl,h2⟩⟩;exact⟨h1,h2⟩
  · rintro⟨h1,h2⟩;exact⟨⟨_,rfl,h1⟩,⟨_,rfl,h2⟩⟩
theorem SH (hc:qx r=true) (hi:i<bf r):uf r i=lF [(i:Int)]↔∀j,cT r i j=true→cT r j i=true→j=i:=by
  have cD : i<64:=ql hi kt;have hr:=(YJ.1 hc).1 i hi;constructor
  · intro h j h1 h2
    have:=gj (fun w:aU=>w.getLsbD j) h
    simp only[SG cD,h1,h2,DW cD,EW] at this;simpa using this.symm
  · intro h;apply xG;intro j _;rw[SG cD,DW cD]
    by_cases e:j=i
    · subst e;simp[hr]
    · rw[aA e];cases h1:cT r i j with
      | false=>rfl
      | true =>
        cases h2:cT r j i with
        | false=>rfl
        | true=>exact absurd (h j h1 h2) e
theorem On (hc:qx r=true):uY r=true↔∀i,i<bf r→uf r i=lF [(i:Int)]:=by
  rw[Wq];constructor
  · intro h i hi;exact(SH hc hi).2 fun j h1 h2=>(h i j h1 h2).symm
  · intro h i j h1 h2;exact((SH hc (tP h1).1).1 (h i (tP h1).1) j h1 h2).symm
end
section
variable {r:Rl} {w a b:aU} {i j k n o p x y:Nat}
theorem find_congr {α:Type} {p q:α→Bool}:∀{l:List α},(∀x∈l,p x=q x)→l.find? p=l.find? q
  | [],_=>rfl
  | a :: l, h => by
    have h1:=h a (by simp);have h2:=find_congr (l:=l) fun x hx=>h x (by simp[hx])
    simp only[List.find?_cons,h1,h2]
def rD (r:Rl) (i:Nat):aU:=rm r (lF [(i:Int)])
def rF (r:Rl) (i:Nat):aU:=if i<bf r then s9 r (lF [(i:Int)]) else 0#64
theorem Wi:(rD r i).getLsbD j=cT r i j:=by
  rw[BM,rD,Vt];constructor
  · rintro⟨k,h1,h2⟩;rw[S1] at h1;simp only[lb,bm,cq] at h1;obtain rfl:k=i:=by omega
    exact h2
  · intro h
    have:=(tP h).1;have:=@kt r
    exact⟨i,by rw[DW (by omega)];simp,h⟩
def DT (f:Nat→aU) (i j:Nat):Option Nat:=(dY (f i&&&f j)).find? fun u=>wx (f i&&&f j) (f u)
def sa (r:Rl) (i j:Nat):Option Nat:=DT (rD r) i j
def ud (r:Rl) (i j:Nat):Option Nat:=DT (rF r) i j
def nS (r:Rl):Bool:=decide (1≤r.n)&&decide (r.n≤64)&&yF r&&(List.range r.n.toNat).all fun i=>(List.range i).all fun j=>(sa r i j).isSome&&(ud r i j).isSome
def TA (r:Rl) (w:aU):Option Nat:=(List.range (bf r)).find? fun i=>decide (rF r i=w)
def al8 (r:Rl) (a b:aU):aU :=
  match TA r a,TA r b with
  | some i,some j=>(match sa r i j with | some k=>rF r k | none=>a|||b)
  | _,_=>a|||b
def nG (r:Rl):Bool:=decide (1≤r.n)&&decide (r.n≤8)&&qx r
theorem QA (h:nG r=true):∃n:Nat,r.n=n∧bf r=n∧1≤n∧n≤8:=by
  simp only[nG,bm,cq] at h;exact⟨r.n.toNat,by omega,by rw[bf];omega,by omega,by omega⟩
def D0 (r:Rl) (w:aU) (o:Nat):aU:=(w>>>(8*o))&&&lR r.n
def yK (n:Nat) (f:Nat→aU):aU:=(List.range n).foldl (fun w o=>w|||(f o<<<(8*o))) 0#64
def Ct (r:Rl) (w:aU) (o:Nat):aU:=(dY (rD r o)).foldl (fun s p=>s|||s9 r (D0 r w p)) 0#64
def Cu (r:Rl) (w:aU):aU:=if nG r then yK r.n.toNat (Ct r w) else 0#64
def sc (r:Rl) (d:aU):aU:=lR r.n&&&~~~rm r d
def yL (r:Rl) (o:Nat) (d:aU):aU:=if nG r&&decide ((o:Int)<r.n) then Cu r (yK r.n.toNat fun k=>if k=o then sc r d else 0#64) else 0#64
def wo (n k:Int):aU × Bool:=if 1≤n∧n≤64∧0≤k∧k<n then (lR k,true) else (0#64,false)
end
def ae.leaf (kind:Int) (r:ae):Nd × ae:=(.mk kind r.word.1.pos r.word.1.text [] [],r.word.2)
def ae.rule (r:ae):Nd × ae :=
  (.mk 6 r.word.1.pos r.word.1.text ((r.word.2.take 58).2.words true).1.1 [],((r.word.2.take 58).2.words true).2)
def ae.constant:Nat→ae→Nd × ae
  | 0,r=>r.leaf 2
  | n + 1, r =>
    if r.sees 123=true then (.mk 3 (r.words true).1.2 [] (r.words true).1.1 [],(r.words true).2)
    else if r.sees 40=true then (.mk 4 (r.nodes (ae.constant n) 40 false).1.2 [] [] (r.nodes (ae.constant n) 40 false).1.1,(r.nodes (ae.constant n) 40 false).2)
    else if r.sees 91=true then (.mk 5 (r.nodes ae.rule 91 true).1.2 [] [] (r.nodes ae.rule 91 true).1.1,(r.nodes ae.rule 91 true).2)
    else r.leaf 2
def ae.atom (n:Nat) (r:ae):Nd × ae :=
  if r.sees 35=true then (.mk 7 (r.take 35).1.tok.pos [] [] [(ae.constant n (r.take 35).2).1],(ae.constant n (r.take 35).2).2) else r.leaf 1
def ae.label:Nat→ae→Nd × ae
  | 0,r=>r.leaf 1
  | n + 1, r =>
    if r.sees 43=true then (.mk 8 (r.take 43).1.tok.pos [] [] ((r.take 43).2.nodes (ae.label n) 40 false).1.1,((r.take 43).2.nodes (ae.label n) 40 false).2)
    else if r.sees 38=true then (.mk 9 (r.take 38).1.tok.pos [] [] ((r.take 38).2.nodes (ae.label n) 40 false).1.1,((r.take 38).2.nodes (ae.label n) 40 false).2)
    else r.atom (n+1)
def ae.field (n:Nat) (r:ae):Nd × ae :=
  (.mk 11 r.word.1.pos r.word.1.text [] [((r.word.2.take 61).2.atom n).1],((r.word.2.take 61).2.atom n).2)
def jm (r r' : ae):Prop:=r'.l=r.l∧(0≤r.at_→r.at_≤r.l.length→r.at_≤r'.at_∧r'.at_≤r.l.length∧(r'.bad=none→r.at_+1≤r'.at_))
theorem jm.trans {a b c:ae} (h:jm a b) (k:jm b c):jm a c:=by
  refine⟨k.1.trans h.1,fun h1 h2=>?_⟩;obtain⟨p1,p2,p3⟩:=h.2 h1 h2;obtain⟨q1,q2,q3⟩:=k.2 (by omega) (by rw[h.1];exact p2);rw[h.1] at q2;exact⟨by omega,q2,fun hq=>by have:=q3 hq;omega⟩
theorem pq (r:ae) (k:Int):jm r (r.take k).2:=by
  refine⟨r.ec k,fun h1 h2=>?_⟩
  rcases r.mq k with ⟨_,e,_,h3,h4⟩ | ⟨_,e,hb⟩
  · rw[e];exact⟨by omega,by omega,fun _=>by omega⟩
  · rw[e];exact⟨by omega,h2,fun hq=>absurd hq hb⟩
theorem tA (r:ae):jm r r.word.2:=pq r 97
theorem zS (r:ae) (k:Int):jm r (r.leaf k).2:=tA r
theorem Qx {β:Type} (step:ae × List β→ae × List β) (k:Int) (e:Bool) (r:ae):jm r (r.bracket step k e).2:=by
  have h:=pq r k;unfold ae.bracket;split
  · rename_i bw;have hb:(r.take k).2.bad=none:=by simpa [ae.ok] using bw
    exact⟨h.1,fun h1 h2=>by
      obtain⟨p1,p2,p3⟩:=h.2 h1 h2;exact⟨p1,p2,fun _=>p3 hb⟩⟩
  · exact h
theorem Gz (r:ae) (e:Bool):jm r (r.words e).2:=Qx _ _ _ _
theorem CW (r:ae) (one:ae→Nd × ae) (k:Int) (e:Bool):jm r (r.nodes one k e).2:=Qx _ _ _ _
theorem yJ {one:ae→Nd × ae} (h:∀r,jm r (one r).2):Reads one:=⟨fun r=>(h r).1,fun r=>(h r).2⟩
theorem aff (r:ae):jm r r.rule.2:=((tA r).trans (pq _ _)).trans (Gz _ _)
theorem Qy:∀(n:Nat) (r:ae),jm r (ae.constant n r).2
  | 0,r=>zS r 2
  | n + 1, r => by
    simp only[ae.constant];split
    · exact Gz r true
    · split
      · exact CW r _ 40 false
      · split
        · exact CW r _ 91 true
        · exact zS r 2
theorem Qw (n:Nat) (r:ae):jm r (r.atom n).2:=by
  simp only[ae.atom];split
  · exact(pq r 35).trans (Qy n _)
  · exact zS r 1
theorem Gy:∀(n:Nat) (r:ae),jm r (ae.label n r).2
  | 0,r=>zS r 1
  | n + 1, r => by
    simp only[ae.label];split
    · exact(pq r 43).trans (CW _ _ 40 false)
    · split
      · exact(pq r 38).trans (CW _ _ 40 false)
      · exact Qw (n+1) r
theorem Qz (n:Nat) (r:ae):jm r (r.field n).2:=((tA r).trans (pq _ _)).trans (Qw n _)
def ae.mX (n:Nat) (i:ae):(ae × List Nd) × List Word :=
  let a:=if i.sees 124=true then (i,[]) else dQ (bU (ae.field n)) i
  if a.1.sees 124=true then (((a.1.take 124).2.word.2,a.2),[(a.1.take 124).2.word.1]) else (a,[])
def ae.rowOf (n:Nat) (t:Tree):(ae × List Nd) × List Word:=if t.kids.length=0 then ((t.inner,[]),[]) else t.inner.mX n
def ae.row (n:Nat) (r:ae):Nd × ae :=
  if r.sees 91=true then (.mk 10 (r.take 91).1.tok.pos [] (ae.rowOf n (r.take 91).1).2 (ae.rowOf n (r.take 91).1).1.2,(r.take 91).2.under (ae.rowOf n (r.take 91).1).1.1) else r.leaf 1
def Nd.zero:Nd:=.mk 0 0 [] [] []
def fi (one:ae→Nd × ae) (l:List Tree) (at_ fin:Int):Nd × Int × Option Int :=
  match (one ⟨l,at_,fin,none⟩).2.bad with
  | some b=>(.zero,0,some b)
  | none=>((one ⟨l,at_,fin,none⟩).1,(one ⟨l,at_,fin,none⟩).2.at_,none)
def lI (l:List Tree) (at_ fin:Int):List Word × Option Int :=
  match ((⟨l,at_,fin,none⟩:ae).words false).2.bad with
  | some b=>([],some b)
  | none=>(((⟨l,at_,fin,none⟩:ae).words false).1.1,none)
structure cZ where
  node:Nd
  next:Int
  bad:Bool
  pos:Int
def cZ.enc (g:cZ):List V:=[.int .i64 g.node.kind,.int .i64 g.node.pos,.str g.node.text,.sl .no 2 (g.node.names.map Word.enc),.sl .no 5 (g.node.kids.map Nd.enc),.int .i64 g.next,.bool g.bad,.int .i64 g.pos]
theorem l_ {l:List Nd} {j:Nat} {t:Nd} (h:l[j]?=some t):(l.map Nd.enc)[((j:Nat):Int).toNat]?=some t.enc:=by simp[h]
theorem yZ {l:List Word} {j:Nat} {t:Word} (h:l[j]?=some t):(l.map Word.enc)[((j:Nat):Int).toNat]?=some t.enc:=by simp[h]
theorem Tree.bR {x:Tree}:x.enc.length=5:=by rw[cm];rfl
theorem Tree.d_ {x:Tree}:bA x.enc=true:=by rw[cm];rfl
theorem Tree.cx {x:Tree}:bd x.enc=true:=by rw[cm];rfl
theorem Tree.cw {x:Tree}:aX x.enc=x.enc:=by rw[cm];rfl
theorem Tree.dt {x:Tree}:takeN 5 x.enc=some x.enc:=by rw[cm];rfl
theorem Tree.fh {x:Tree}:a9 true 5 x.enc=some (.agg x.enc):=by rw[cm];rfl
theorem Tree.eM {x:Tree}:bD 5 x.enc=true:=by rw[cm];rfl
theorem Tree.eb {x:Tree} {z0 z1 z2 z3 z4:V}:over [z0,z1,z2,z3,z4] x.enc=x.enc:=by rw[cm];rfl
theorem Tree.bO {x:Tree} {n:Nat}:bn n x.enc=true:=by rw[cm];rfl
def Tree.af:=And.intro @Tree.bR <| And.intro @Tree.d_ <| And.intro @Tree.cx <| And.intro @Tree.cw <| And.intro @Tree.dt <| And.intro @Tree.fh <| And.intro @Tree.eM <| And.intro @Tree.eb @Tree.bO
theorem Nd.bR {x:Nd}:x.enc.length=5:=by rw[Nd.cm];rfl
theorem Nd.d_ {x:Nd}:bA x.enc=true:=by rw[Nd.cm];rfl
theorem Nd.cx {x:Nd}:bd x.enc=true:=by rw[Nd.cm];rfl
theorem Nd.cw {x:Nd}:aX x.enc=x.enc:=by rw[Nd.cm];rfl
theorem Nd.dt {x:Nd}:takeN 5 x.enc=some x.enc:=by rw[Nd.cm];rfl
theorem Nd.fh {x:Nd}:a9 true 5 x.enc=some (.agg x.enc):=by rw[Nd.cm];rfl
theorem Nd.eM {x:Nd}:bD 5 x.enc=true:=by rw[Nd.cm];rfl
theorem Nd.eb {x:Nd} {z0 z1 z2 z3 z4:V}:over [z0,z1,z2,z3,z4] x.enc=x.enc:=by rw[Nd.cm];rfl
theorem Nd.bO {x:Nd} {n:Nat}:bn n x.enc=true:=by rw[Nd.cm];rfl
def Nd.af:=And.intro @Nd.bR <| And.intro @Nd.d_ <| And.intro @Nd.cx <| And.intro @Nd.cw <| And.intro @Nd.dt <| And.intro @Nd.fh <| And.intro @Nd.eM <| And.intro @Nd.eb @Nd.bO
theorem Word.bR {x:Word}:x.enc.length=2:=by rw[Word.enc];rfl
theorem Word.d_ {x:Word}:bA x.enc=true:=by rw[Word.enc];rfl
theorem Word.cx {x:Word}:bd x.enc=true:=by rw[Word.enc];rfl
theorem Word.cw {x:Word}:aX x.enc=x.enc:=by rw[Word.enc];rfl
theorem Word.dt {x:Word}:takeN 2 x.enc=some x.enc:=by rw[Word.enc];rfl
theorem Word.fh {x:Word}:a9 true 2 x.enc=some (.agg x.enc):=by rw[Word.enc];rfl
theorem Word.eM {x:Word}:bD 2 x.enc=true:=by rw[Word.enc];rfl
theorem Word.eb {x:Word} {z0 z1:V}:over [z0,z1] x.enc=x.enc:=by rw[Word.enc];rfl
theorem Word.bO {x:Word} {n:Nat}:bn n x.enc=true:=by rw[Word.enc];rfl
def Word.af:=And.intro @Word.bR <| And.intro @Word.d_ <| And.intro @Word.cx <| And.intro @Word.cw <| And.intro @Word.dt <| And.intro @Word.fh <| And.intro @Word.eM <| And.intro @Word.eb @Word.bO
theorem cZ.bR {x:cZ}:x.enc.length=8:=by rw[cZ.enc];rfl
theorem cZ.d_ {x:cZ}:bA x.enc=true:=by rw[cZ.enc];rfl
theorem cZ.cx {x:cZ}:bd x.enc=true:=by rw[cZ.enc];rfl
theorem cZ.cw {x:cZ}:aX x.enc=x.enc:=by rw[cZ.enc];rfl
theorem cZ.dt {x:cZ}:takeN 8 x.enc=some x.enc:=by rw[cZ.enc];rfl
theorem cZ.fh {x:cZ}:a9 true 8 x.enc=some (.agg x.enc):=by rw[cZ.enc];rfl
theorem cZ.eM {x:cZ}:bD 8 x.enc=true:=by rw[cZ.enc];rfl
theorem cZ.eb {x:cZ} {z0 z1 z2 z3 z4 z5 z6 z7:V}:over [z0,z1,z2,z3,z4,z5,z6,z7] x.enc=x.enc:=by rw[cZ.enc];rfl
theorem cZ.bO {x:cZ} {n:Nat}:bn n x.enc=true:=by rw[cZ.enc];rfl
def cZ.af:=And.intro @cZ.bR <| And.intro @cZ.d_ <| And.intro @cZ.cx <| And.intro @cZ.cw <| And.intro @cZ.dt <| And.intro @cZ.fh <| And.intro @cZ.eM <| And.intro @cZ.eb @cZ.bO
theorem Nd.x1 {r:Nd}:r.enc.drop 1=[V.int .i64 r.pos,.str r.text,.sl .no 2 (r.names.map Word.enc),.sl .no 5 (r.kids.map Nd.enc)]:=by rw[Nd.cm];rfl
theorem Nd.x2 {r:Nd}:r.enc.drop 2=[V.str r.text,.sl .no 2 (r.names.map Word.enc),.sl .no 5 (r.kids.map Nd.enc)]:=by rw[Nd.cm];rfl
theorem Nd.x3 {r:Nd}:r.enc.drop 3=[V.sl .no 2 (r.names.map Word.enc),.sl .no 5 (r.kids.map Nd.enc)]:=by rw[Nd.cm];rfl
theorem Nd.x4 {r:Nd}:r.enc.drop 4=[V.sl .no 5 (r.kids.map Nd.enc)]:=by rw[Nd.cm];rfl
theorem Nd.x0 {r:Nd}:a9 false 1 r.enc=some (.int .i64 r.kind):=by rw[Nd.cm];rfl
def Nd.fl:=And.intro @Nd.x0 <| And.intro @Nd.x1 <| And.intro @Nd.x2 <| And.intro @Nd.x3 @Nd.x4
theorem Tree.x1 {r:Tree}:r.enc.drop 1=[V.str r.tok.text,.int .i64 r.tok.pos,.sl .no 5 (ct r.kids),.int .i64 r.fin]:=by rw[cm];rfl
theorem Tree.x2 {r:Tree}:r.enc.drop 2=[V.int .i64 r.tok.pos,.sl .no 5 (ct r.kids),.int .i64 r.fin]:=by rw[cm];rfl
theorem Tree.x3 {r:Tree}:r.enc.drop 3=[V.sl .no 5 (ct r.kids),.int .i64 r.fin]:=by rw[cm];rfl
theorem Tree.x4 {r:Tree}:r.enc.drop 4=[V.int .i64 r.fin]:=by rw[cm];rfl
theorem Tree.x0 {r:Tree}:a9 false 1 r.enc=some (.int .u8 r.tok.kind):=by rw[cm];rfl
theorem Tree.xt {r:Tree}:a9 true 3 r.enc=some (.agg [.int .u8 r.tok.kind,.str r.tok.text,.int .i64 r.tok.pos]):=by rw[cm];rfl
def Tree.fl:=And.intro @Tree.x0 <| And.intro @Tree.xt <| And.intro @Tree.x1 <| And.intro @Tree.x2 <| And.intro @Tree.x3 @Tree.x4
def yy (c:Int):Bool:=decide (97≤c)&&decide (c≤122)
def rP (c:Int):Bool:=yy c||(decide (48≤c)&&decide (c≤57))||decide (c=95)
def JT:List Int:=[35,43,38,40,41,123,125,91,93,44,58,61,124,60]
def o5 (c:Int):Bool:=JT.any fun s=>decide (s=c)
def closing (c:Int):Int:=if c=40 then 41 else if c=123∨c=91 then c+2 else 0
def kI (c:Int):Bool:=decide (c=41)||decide (c=125)||decide (c=93)
def iC (c:UInt8):Bool:=rP c.toNat
def vY (c:UInt8):Bool:=yy c.toNat
def dZ (s:List UInt8):Bool:=decide (s.length≤16)&&(match s with | []=>false | c::r=>vY c&&r.all iC)
def Tok.enc (t:Tok):List V:=[.int .u8 t.kind,.str t.text,.int .i64 t.pos]
def dC (r:List UInt8):List UInt8:=r.takeWhile iC
def dB:Nat→Nat→List UInt8→List Tok→List Tok × Option Int
  | 0,_,_,acc=>(acc,none)
  | _,_,[],acc=>(acc,none)
  | n + 1, p, c :: r, acc =>
    if c.toNat=45∧(r.head?.map UInt8.toNat)=some 45 then (acc,none)
    else if 0<(dC (c::r)).length∧dZ (dC (c::r))=true then dB n (p+(dC (c::r)).length) ((c::r).drop (dC (c::r)).length) (acc++[⟨97,dC (c::r),p⟩])
    else if o5 (c.toNat:Nat)=true then dB n (p+1) r (acc++[⟨(c.toNat:Nat),[c],p⟩])
    else if c.toNat=32∨c.toNat=9 then dB n (p+1) r acc
    else ([],some p)
def dJ (s:List UInt8):List Tok × Option Int:=dB s.length 0 s []
def zt (b:Option Int):V:=.agg [.int .i64 (match b with | some _=>1 | none=>0),.int .i64 (dT b)]
def dX (l:List Tok) (i:Nat):Int:=match l[i]? with | some t=>t.kind | none=>0
def rL (l:List Tok):Nat→Nat→List Nat→Int
  | 0,_,open_=>match open_.getLast? with | some j=>(j:Nat) | none=>-1
  | n + 1, i, open_ =>
    if closing (dX l i)≠0∧24≤open_.length then (i:Nat)
    else
      let o:=if closing (dX l i)≠0 then open_++[i] else open_
      if kI (dX l i)=true then
        match o.getLast? with
        | none=>(i:Nat)
        | some j=>if closing (dX l j)=dX l i then rL l n (i+1) o.dropLast else (i:Nat)
      else rL l n (i+1) o
def gI (l:List Tok) (at_:Nat):Nat→Nat→Int→Nat
  | 0,_,_=>at_
  | n + 1, i, deep =>
    let d:=(deep+(if closing (dX l i)≠0 then 1 else 0)) - (if kI (dX l i)=true then 1 else 0)
    if d=0 then i else gI l at_ n (i+1) d
def partner (l:List Tok) (at_:Nat):Nat:=gI l at_ (l.length - at_) at_ 0
def pP (l:List Tok) (i:Nat):Int:=match l[i]? with | some t=>t.pos | none=>0
def gV (l:List Tok) (i:Nat):Tok:=match l[i]? with | some t=>t | none=>⟨0,[],0⟩
def ng (l:List Tok):Nat→Nat→Nat→List Tree
  | 0,_,_=>[]
  | n + 1, i, to =>
    if i<to then
      if closing (dX l i)≠0 then .mk (gV l i) (ng l n (i+1) (partner l i)) (pP l (partner l i))::ng l n (partner l i+1) to
      else .mk (gV l i) [] (pP l i)::ng l n (i+1) to
    else []
def nf (l:List Tok):List Tree × Option Int :=
  if 0≤rL l l.length 0 [] then ([],some (pP l (rL l l.length 0 []).toNat)) else (ng l l.length 0 l.length,none)
def p7:Option Int→List Tok→List UInt8
  | _,[]=>[]
  | k,t::ts=>(if k=some 97∧t.kind=97 then [32] else [])++t.text++p7 (some t.kind) ts
def jQ (l:List Tok):List UInt8:=p7 none l
mutual
def Tree.flat:Tree→List Tok
  | .mk t ks e=>t::(if closing t.kind≠0 then bu ks++[⟨closing t.kind,[UInt8.ofNat (closing t.kind).toNat],e⟩] else [])
def bu:List Tree→List Tok
  | []=>[]
  | t::ts=>t.flat++bu ts
end
theorem Ug (r:List UInt8):(dC r).length≤r.length:=by
  unfold dC;exact List.Sublist.length_le (V_ _)
theorem amR {s:List UInt8} {a:Nat}:(dC (s.drop a)).length≤s.length - a:=by
  have:=Ug (s.drop a)
  rwa [BX] at this
theorem Vg {α:Type} {f:α→Bool}:∀(r:List α),r.take (r.takeWhile f).length=r.takeWhile f
  | []=>rfl
  | c :: r => by
    simp only[List.takeWhile_cons];split
    · simp[Vg r]
    · simp
theorem Pq {s:List UInt8} {a:Nat}:(s.take (a+(dC (s.drop a)).length)).drop a=dC (s.drop a):=by
  rw[Fg,K4];exact Vg _
theorem Zk {s:List UInt8} {a:Nat} (h:a<s.length):(s.take (a+1)).drop a=[s[a]]:=by
  rw[Fg,K4,jU h];rfl
theorem Tn {l:List Tok} {at_:Nat}:∀(n i:Nat) (d:Int),at_≤i→i+n≤l.length→at_<l.length→at_≤gI l at_ n i d∧gI l at_ n i d<l.length
  | 0,i,d,_,_,h=>⟨bt _,h⟩
  | n + 1, i, d, h1, h2, h3 => by
    simp only[gI];generalize (d+(if closing (dX l i)≠0 then 1 else 0)) - (if kI (dX l i)=true then 1 else 0)=e;split
    · exact⟨h1,by omega⟩
    · exact Tn n (i+1) _ (by omega) (by omega) h3
theorem D5 {l:List Tok} {i:Nat} (h:i<l.length):i≤partner l i∧partner l i<l.length:=Tn _ _ _ (bt _) (by omega) h
theorem DL:∀(n p:Nat) (r:List UInt8) (acc:List Tok),r.length≤n→(dB n p r acc).1.length≤acc.length+r.length
  | 0,_,r,acc,_=>by cases r<;>simp[dB]
  | n+1,p,[],acc,_=>by simp[dB]
  | n + 1, p, c :: r, acc, h => by
    simp only[dB];have hr:=Ug (c::r);simp only[cF] at h hr ⊢;split
    · simp only;omega
    · split
      · rename_i h1
        have:=DL n (p+(dC (c::r)).length) ((c::r).drop (dC (c::r)).length) (acc++[⟨97,dC (c::r),p⟩]) (by simp;omega)
        simp at this;omega
      · split
        · have:=DL n (p+1) r (acc++[⟨(c.toNat:Nat),[c],p⟩]) (by omega)
          simp at this;omega
        · split
          · have:=DL n (p+1) r acc (by omega);omega
          · simp
theorem Si (s:List UInt8):(dJ s).1.length≤s.length:=by
  have:=DL s.length 0 s [] (bt _)
  simpa [dJ] using this
def cn:List (List UInt8)→List UInt8
  | []=>[]
  | x::xs=>x++xs.flatMap fun y=>44::y
theorem RU (l:List (List UInt8)) (y:List UInt8):cn (l++[y])=cn l++(if 0<l.length then [44] else [])++y:=by
  cases l with
  | nil=>simp[cn]
  | cons x xs=>simp[cn]
theorem RT:∀l:List (List UInt8),(cn l).length≤(l.map fun x=>x.length+1).sum
  | []=>by simp[cn]
  | x :: xs => by
    simp only[cn,bz,List.length_flatMap,bL,oe]
    have:(xs.map fun y=>(44::y).length)=xs.map fun x=>x.length+1:=by simp
    rw[this];omega
def jR (ws:List Word):List UInt8:=cn (ws.map Word.text)
def mI:List (List UInt8)→List UInt8
  | []=>[]
  | x::_=>x
mutual
def Nd.cM:Nd→List UInt8
  | .mk k _ t ws ks =>
    if k=1∨k=2 then t
    else if k=3 then [123]++jR ws++[125]
    else if k=4 then [40]++cn (da ks)++[41]
    else if k=5 then [91]++cn (da ks)++[93]
    else if k=6 then t++[58,123]++jR ws++[125]
    else if k=7 then [35]++mI (da ks)
    else if k=8 then [43,40]++cn (da ks)++[41]
    else if k=9 then [38,40]++cn (da ks)++[41]
    else if k=10 then ([91]++cn (da ks))++(if 0<ws.length then [124]++jR ws else [])++[93]
    else if k=11 then t++[61]++mI (da ks)
    else []
def da:List Nd→List (List UInt8)
  | []=>[]
  | n::ns=>n.cM::da ns
end
theorem Bt:∀l,da l=l.map Nd.cM
  | []=>rfl
  | n::ns=>by simp[da,Bt ns]
def di (ws:List Word):Nat:=(ws.map fun w=>w.text.length+1).sum
mutual
def Nd.wt:Nd→Nat
  | .mk _ _ t ws ks=>t.length+di ws+eg ks+4
def eg:List Nd→Nat
  | []=>0
  | n::ns=>n.wt+1+eg ns
end
theorem BI:∀l,eg l=(l.map fun n=>n.wt+1).sum
  | []=>rfl
  | n::ns=>by simp[eg,BI ns]
theorem BH (ws:List Word):(jR ws).length≤di ws:=by
  have:=RT (ws.map Word.text)
  simpa [jR,di,uU,rr] using this
theorem Ku {l:List Nd} {n:Nd} (h:n∈l):n.wt+1≤eg l:=by
  induction l with
  | nil=>simp at h
  | cons m ms ih =>
    rcases iR.1 h with rfl | h
    · simp only[eg];omega
    · have:=ih h;simp only[eg];omega
theorem DE:∀(l:List Nd),(∀n∈l,n.cM.length≤n.wt)→(cn (da l)).length≤eg l:=fun l h=>by
  refine sS (RT _) ?_;rw[Bt,BI,uU];induction l with
  | nil=>simp
  | cons n ns ih =>
    simp only[bL,oe,Function.comp];have h1:=h n (by simp);have h2:=ih fun m hm=>h m (by simp[hm])
    omega
theorem Q1 (l:List Nd) (h:∀n∈l,n.cM.length≤n.wt):(mI (da l)).length≤eg l:=by
  cases l with
  | nil=>simp[da,mI]
  | cons n ns=>have:=h n (by simp);simp only[da,mI,eg];omega
mutual
theorem Vr:∀(n:Nd),n.cM.length≤n.wt
  | .mk k p t ws ks => by
    have h1:=BH ws;have h2:=DE ks (wD ks);have h3:=Q1 ks (wD ks);simp only[Nd.cM,Nd.wt]
    repeat' split
    all_goals (try simp only[bz,cF,dk])
    all_goals omega
theorem wD:∀(l:List Nd),∀n∈l,n.cM.length≤n.wt
  | [],n,h=>by simp at h
  | m :: ms, n, h => by
    rcases iR.1 h with h | h
    · rw[h];exact Vr m
    · exact wD ms n h
end
def xF:List V:=List.replicate 8 (.int .u64 0)
def tS:List V:=.int .i64 0::.int .i64 0::xF
def cU (l:List (List UInt8)):List (List V):=l.map fun s=>[.str s]
theorem nF {α:Type} {l:List α} {i:Nat} {d:α} (h:i<l.length):l.getD i d=l[i]:=by simp[h]
theorem jO (l:List (List UInt8)):(cU l).length=l.length:=by simp[cU]
theorem El {l:List (List UInt8)} {j:Nat} (h:j<l.length):(cU l)[((j:Nat):Int).toNat]?=some [.str (l.getD j [])]:=by simp[cU,h]
theorem Us {l:List (List UInt8)} {j:Nat}:(cU l).take j=cU (l.take j):=by simp[cU,List.map_take]
def cp:Option Nat→Int
  | some k=>k
  | none=>-1
def fJ (l:List (List UInt8)) (s:List UInt8):Option Nat:=(List.range l.length).find? fun i=>decide (l.getD i []=s)
def J9 (l:List (List UInt8)):Option Nat:=(List.range l.length).find? fun i=>(fJ (l.take i) (l.getD i [])).isSome
section
variable {l:List (List UInt8)} {s:List UInt8} {i:Nat}
theorem I0 {o:Option Nat}:decide (0≤cp o)=o.isSome:=by
  cases o with
  | none=>rfl
  | some k=>exact aC (by simp only[cp];omega)
theorem yE {o:Option Nat}:decide (cp o<0)=o.isNone:=by
  cases o with
  | none=>rfl
  | some k=>exact aA (by simp only[cp];omega)
theorem CM {p:Nat→Bool} {n k:Nat} (h:(List.range n).find? p=some k):k<n∧p k=true∧∀j,j<k→p j=false:=by
  refine⟨by simpa using KY h,by simpa using List.find?_some h,fun j hj=>?_⟩;obtain⟨_,as,bs,h2,h3⟩:=BT.1 h;have hl:as.length=k:=by
    have:=gj (fun l:List Nat=>l[as.length]?) h2
    simp only[uQ (bt _),Fw,BU] at this;rw[Fj] at this
    · simpa using this
    · have:=gj List.length h2;simp at this;omega
  have gl : j∈as:=by
    have:=gj (fun l:List Nat=>l[j]?) h2
    rw[nk (by omega),Fj (by have:=gj List.length h2;simp at this;omega)] at this;exact wP this.symm
  have:=h3 j gl
  simpa using this
end
def pH (l:List (List UInt8)):Bool:=decide (1≤l.length)&&decide (l.length≤64)&&(J9 l).isNone&&l.all dZ
structure aV where
  kind:Int
  names:List (List UInt8)
  rel:Rl
def aV.enc (f:aV):List V:=.int .i64 f.kind::.sl .no 1 (cU f.names)::f.rel.enc
def aV.zero:aV:=⟨0,[],.zero⟩
section
variable {f g:aV} {m:Nat}
theorem aV.bR:f.enc.length=67:=by simp[aV.enc,Rl.bR]
theorem aV.d_:bA f.enc=true:=by simp[aV.enc,bA,V.one,Rl.d_]
theorem aV.cx:bd f.enc=true:=by simp[aV.enc,bd,V.bS,Rl.cx]
theorem aV.cw:aX f.enc=f.enc:=by simp[aV.enc,aX,V.erase,Rl.cw]
theorem aV.bO:bn m f.enc=true:=by simp[aV.enc,bn,V.lo,Rl.bO]
theorem aV.dt:takeN 67 f.enc=some f.enc:=by have:=uE (c:=f.enc);rwa [aV.bR] at this
theorem aV.fh:a9 true 67 f.enc=some (.agg f.enc):=by rw[vW,aV.dt];rfl
theorem aV.eM:bD 67 f.enc=true:=by have:=tB (c:=f.enc);rwa [aV.bR] at this
theorem aV.eb:over g.enc f.enc=f.enc:=pK (by rw[aV.bR,aV.bR])
theorem aV.Jm:a9 false 1 f.enc=some (.int .i64 f.kind):=rfl
theorem aV.r_s:a9 false 1 (f.enc.drop 1)=some (.sl .no 1 (cU f.names)):=rfl
theorem aV.pR:a9 false 1 (f.enc.drop 2)=some (.int .i64 f.rel.n):=rfl
theorem aV.r_r:a9 true 65 (f.enc.drop 2)=some (.agg f.rel.enc):=by
  show a9 true 65 f.rel.enc=_;exact Rl.fh
theorem aV.al0:takeN 65 (f.enc.drop 2)=some f.rel.enc:=by
  show takeN 65 f.rel.enc=_;exact Rl.dt
theorem aV.zov:over rK f.enc=f.enc:=pK (by rw[aV.bR];rfl)
theorem aV.aqd:bD 67 rK=true:=rfl
theorem aV.zlo:bn m rK=true:=by
  have:rK = .int .i64 0::.sl .full 1 []::Rl.zero.enc:=by rw[←Rl.uo];rfl
  rw[this];simp[bn,V.lo,Rl.bO]
def aV.af:=And.intro @aV.bR <| And.intro @aV.d_ <| And.intro @aV.cx <| And.intro @aV.cw <| And.intro @aV.bO <| And.intro @aV.dt <| And.intro @aV.fh <| And.intro @aV.eM <| And.intro @aV.eb <| And.intro @aV.Jm <| And.intro @aV.r_s <| And.intro @aV.pR <| And.intro @aV.r_r <| And.intro @aV.al0 <| And.intro @aV.zov <| And.intro @aV.aqd @aV.zlo
end
structure a_ where
  tuple:Bool
  a8:List aV
def a_.enc (s:a_):List V:=[.bool s.tuple,.sl .no 67 (s.a8.map aV.enc)]
section
variable {s:a_} {g:Bool} {n:Nat} {a b:V}
theorem a_.bR:s.enc.length=2:=rfl
theorem a_.d_:bA s.enc=true:=rfl
theorem a_.cx:bd s.enc=true:=rfl
theorem a_.cw:aX s.enc=s.enc:=rfl
theorem a_.bO:bn n s.enc=true:=rfl
theorem a_.dt:takeN 2 s.enc=some s.enc:=rfl
theorem a_.fh:a9 true 2 s.enc=some (.agg s.enc):=rfl
theorem a_.eM:bD 2 s.enc=true:=rfl
theorem a_.eb:over [a,b] s.enc=s.enc:=rfl
theorem a_.Jn:a9 false 1 s.enc=some (.bool s.tuple):=rfl
theorem a_.Bd:a9 false 1 (s.enc.drop 1)=some (.sl .no 67 (s.a8.map aV.enc)):=rfl
def a_.af:=And.intro @a_.bR <| And.intro @a_.d_ <| And.intro @a_.cx <| And.intro @a_.cw <| And.intro @a_.bO <| And.intro @a_.dt <| And.intro @a_.fh <| And.intro @a_.eM <| And.intro @a_.eb <| And.intro @a_.Jn @a_.Bd
end
def a_.ok (s:a_):Prop:=s.a8.length≤100000∧∀f∈s.a8,f.names.length≤100000
def mG (f:aV):Bool:=pH f.names &&
  (if f.kind=1∨f.kind=2 then decide (bf f.rel=0) else if f.kind=3 then decide (f.rel.n=f.names.length)&&nG f.rel else if f.kind=4 then decide (f.rel.n=f.names.length)&&nS f.rel else false)
def kx (s:a_):Bool:=decide (1≤s.a8.length)&&decide (s.a8.length≤8)&&(s.tuple||decide (s.a8.length=1))&&s.a8.all mG
theorem Ty {r:Rl}:decide (j8 r=j8 Rl.zero)=decide (bf r=0):=by
  apply nB.2;have hz:bf Rl.zero=0:=by simp[bf,Rl.zero]
  constructor
  · intro h;have:=(Tx.1 h).1;rw[this,hz]
  · intro h;rw[PB h,PB hz]
structure aN where
  w:List aU
  len:w.length=8
theorem aN.ext' {a b:aN} (h:a.w=b.w):a=b:=by cases a;cases b;simp only at h;subst h;rfl
instance:DecidableEq aN:=fun a b=>if h:a.w=b.w then isTrue (aN.ext' h) else isFalse fun e=>h (e▸rfl)
def aN.enc (e:aN):List V:=ei e.w
def aN.zero:aN:=⟨List.replicate 8 0#64,by simp⟩
def aN.get (e:aN) (i:Nat):aU:=e.w.getD i 0#64
def aN.put (e:aN) (i:Nat) (w:aU):aN:=⟨e.w.set i w,by simp[e.len]⟩
def aN.of (f:Nat→aU):aN:=⟨(List.range 8).map f,by simp⟩
section
variable {e d:aN} {i m:Nat} {w:aU} {f:Nat→aU}
theorem aN.xQ {j:Nat}:(e.put i w).get j=if i=j∧i<8 then w else e.get j:=by
  simp only[aN.get,aN.put,List.getD,List.getElem?_set,e.len]
  by_cases h:i=j
  · subst h
    by_cases h2:i<8
    · simp[h2]
    · simp[h2,e.len]
  · simp[h]
theorem aN.ke (h:i<8):(aN.of f).get i=f i:=by simp[aN.get,aN.of,List.getD,h]
theorem aN.ext (k:∀i,i<8→e.get i=d.get i):e=d:=by
  refine aN.ext' (Fh (by rw[e.len,d.len]) fun i h1 h2=>?_)
  have:=k i (by rw[e.len] at h1;exact h1)
  simpa [aN.get,List.getD,h1,h2] using this
theorem aN.bR:e.enc.length=8:=by simp[aN.enc,CE,e.len]
theorem aN.d_:bA e.enc=true:=PI
theorem aN.cx:bd e.enc=true:=PH
theorem aN.cw:aX e.enc=e.enc:=PD
theorem aN.bO:bn m e.enc=true:=PG
theorem aN.dt:takeN 8 e.enc=some e.enc:=by have:=uE (c:=e.enc);rwa [aN.bR] at this
theorem aN.fh:a9 true 8 e.enc=some (.agg e.enc):=by rw[vW,aN.dt];rfl
theorem aN.eM:bD 8 e.enc=true:=by have:=tB (c:=e.enc);rwa [aN.bR] at this
theorem aN.eb:over d.enc e.enc=e.enc:=pK (by rw[aN.bR,aN.bR])
theorem aN.uo:xF=aN.zero.enc:=by rw[aN.enc,ei,aN.zero,List.map_replicate];rfl
theorem aN.ml:dU [1,1,1,1,1,1,1,1] e.enc d.enc=some (decide (e=d)):=by
  show dU (List.replicate 8 1) (ei e.w) (ei d.w)=_;rw[PC e.len d.len];congr 1;exact nB.2 ⟨aN.ext',fun h=>h▸rfl⟩
theorem aN.sF (h:i<8):a9 false 1 (e.enc.drop i)=some (.int .u64 ((e.get i).toNat:Nat)):=PF (by rw[e.len];exact h)
theorem aN.yQ (h:i<8):bD 1 (e.enc.drop i)=true:=PE (by rw[e.len];exact h)
theorem aN.yR (h:i<8):setAt e.enc i [.int .u64 (w.toNat:Nat)]=(e.put i w).enc:=PJ (by rw[e.len];exact h)
theorem aN.fill:(aN.of fun j=>if j<i then f j else 0#64).put i (f i)=aN.of fun j=>if j<i+1 then f j else 0#64:=by
  refine aN.ext fun k hk=>?_
  rw[aN.xQ,aN.ke hk,aN.ke hk]
  by_cases h:i=k
  · subst h;simp[hk]
  · rw[ah (by omega)]
    by_cases h2:k<i
    · rw[aw h2,aw (by omega)]
    · rw[ah h2,ah (by omega)]
theorem aN.aqc:aN.zero=aN.of fun _=>0#64:=by
  refine aN.ext fun i hi=>?_
  rw[aN.ke hi];simp only[aN.get,aN.zero,List.getD,V4,hi,dP,B5]
theorem aN.full {g:Nat→aU}:(aN.of fun j=>if j<8 then f j else g j)=aN.of f:=by
  refine aN.ext fun i hi=>?_
  rw[aN.ke hi,aN.ke hi,aw hi]
def aN.af:=And.intro @aN.bR <| And.intro @aN.d_ <| And.intro @aN.cx <| And.intro @aN.cw <| And.intro @aN.bO <| And.intro @aN.dt <| And.intro @aN.fh <| And.intro @aN.eM <| And.intro @aN.eb <| And.intro @aN.uo @aN.ml
end
def agM (s:a_) (a b:aN) (i:Nat):aU :=
  match s.a8[i]? with
  | some f=>if f.kind=4 then al8 f.rel (a.get i) (b.get i) else a.get i|||b.get i
  | none=>a.get i|||b.get i
def agL (s:a_) (a b:aN):aN:=aN.of (agM s a b)
def aiM (a b:aN):aN:=aN.of fun i=>a.get i&&&b.get i
def kW (ws:List Word):Bool:=ws.all fun w=>dZ w.text
def Nd.l8 (n:Nd):Bool:=dZ n.text&&decide ((n.names.length:Int)+n.kids.length=0)
def Nd.kG (n:Nd):Bool:=decide (n.text=[])&&decide ((n.names.length:Int)=0)
def Nd.pT (n:Nd):Bool:=decide (n.kind=6)&&dZ n.text&&kW n.names&&decide ((n.kids.length:Int)=0)
mutual
def Nd.g_:Nd→Bool
  | .mk k p t ws ks =>
    if k=2 then (Nd.mk k p t ws ks).l8
    else if k=3 then decide (t=[])&&kW ws&&decide ((ks.length:Int)=0)
    else if k=4 then (Nd.mk k p t ws ks).kG&&decide ((0:Int)<ks.length)&&Cy ks
    else if k=5 then (Nd.mk k p t ws ks).kG&&ks.all Nd.pT
    else false
def Cy:List Nd→Bool
  | []=>true
  | n::ns=>n.g_&&Cy ns
end
theorem Pp:∀l,Cy l=l.all Nd.g_
  | []=>rfl
  | n::ns=>by simp[Cy,Pp ns]
theorem Nd.xz (n:Nd):n.g_=if n.kind=2 then n.l8 else if n.kind=3 then decide (n.text=[])&&kW n.names&&decide ((n.kids.length:Int)=0)
    else if n.kind=4 then n.kG&&decide ((0:Int)<n.kids.length)&&n.kids.all Nd.g_ else if n.kind=5 then n.kG&&n.kids.all Nd.pT else false:=by
  cases n;rw[←Pp];rw[Nd.g_];rfl
def qH (f:Nd→Bool):List Nd→Bool
  | []=>false
  | n::_=>f n
mutual
def Nd.fg:Nd→Bool
  | .mk k p t ws ks =>
    if k=1 then (Nd.mk k p t ws ks).l8
    else if k=7 then (Nd.mk k p t ws ks).kG&&decide ((ks.length:Int)=1)&&qH Nd.g_ ks
    else if k=8∨k=9 then (Nd.mk k p t ws ks).kG&&decide ((0:Int)<ks.length)&&DH ks
    else false
def DH:List Nd→Bool
  | []=>true
  | n::ns=>n.fg&&DH ns
end
theorem R2:∀l,DH l=l.all Nd.fg
  | []=>rfl
  | n::ns=>by simp[DH,R2 ns]
theorem Nd.qT (n:Nd):n.fg=if n.kind=1 then n.l8 else if n.kind=7 then n.kG&&decide ((n.kids.length:Int)=1)&&qH Nd.g_ n.kids
    else if n.kind=8∨n.kind=9 then n.kG&&decide ((0:Int)<n.kids.length)&&n.kids.all Nd.fg else false:=by
  cases n;rw[←R2];rw[Nd.fg];rfl
def Nd.mD (n:Nd):Bool:=(decide (n.kind=1)||decide (n.kind=7))&&n.fg
def Nd.lp (n:Nd):Bool:=decide (n.kind=11)&&dZ n.text&&decide ((n.names.length:Int)=0)&&decide ((n.kids.length:Int)=1)&&qH Nd.mD n.kids
def Nd.jN (n:Nd):Bool :=
  if n.kind=10 then decide (n.text=[])&&decide ((n.names.length:Int)≤1)&&kW n.names&&n.kids.all Nd.lp else decide (n.kind=1)&&n.fg
def fj:List Word→List Word→Bool
  | [],[]=>true
  | w::ws,u::us=>decide (w.text=u.text)&&fj ws us
  | _,_=>false
mutual
def Nd.eN:Nd→Nd→Bool
  | .mk k _ t ws ks,n=>decide (k=n.kind)&&decide (t=n.text)&&fj ws n.names&&fN ks n.kids
def fN:List Nd→List Nd→Bool
  | [],[]=>true
  | n::ns,m::ms=>n.eN m&&fN ns ms
  | _,_=>false
end
theorem Nd.Em (n m:Nd):n.eN m=(decide (n.kind=m.kind)&&decide (n.text=m.text)&&fj n.names m.names&&fN n.kids m.kids):=by cases n;rw[Nd.eN];rfl
theorem UC:∀{a b:List Word},fj a b=true→a.length=b.length
  | [],[],_=>rfl
  | [],_::_,h=>by simp[fj] at h
  | _::_,[],h=>by simp[fj] at h
  | _::ws,_::us,h=>by simp only[fj,bm] at h;simp[UC h.2]
theorem UI:∀{a b:List Nd},fN a b=true→a.length=b.length
  | [],[],_=>rfl
  | [],_::_,h=>by simp[fN] at h
  | _::_,[],h=>by simp[fN] at h
  | _::ws,_::us,h=>by simp only[fN,bm] at h;simp[UI h.2]
theorem UB:∀{a b:List Word} {i:Nat} (ha:i<a.length) (hb:i<b.length),a.length=b.length→fj (a.take i) (b.take i)=true→fj (a.take (i+1)) (b.take (i+1))=decide (a[i].text=b[i].text)∧(decide (a[i].text=b[i].text)=false→fj a b=false)
  | w::ws,u::us,0,_,_,_,_=>by simp[fj];intro h1 h2;exact absurd h2 h1
  | w :: ws, u :: us, i + 1, ha, hb, hl, h => by
    simp only[nn,fj,bm] at h ⊢
    have:=UB (a:=ws) (b:=us) (i:=i) (by simpa using ha) (by simpa using hb) (by simpa using hl) h.2
    simp only[h.1,lJ,zg];exact this
  | [],_,_,ha,_,_,_=>by simp at ha
  | _::_,[],_,_,hb,_,_=>by simp at hb
theorem UH:∀{a b:List Nd} {i:Nat} (ha:i<a.length) (hb:i<b.length),a.length=b.length→fN (a.take i) (b.take i)=true→fN (a.take (i+1)) (b.take (i+1))=a[i].eN b[i]∧(a[i].eN b[i]=false→fN a b=false)
  | w::ws,u::us,0,_,_,_,_=>by simp[fN];intro h1 h2;rw[h1] at h2;simp at h2
  | w :: ws, u :: us, i + 1, ha, hb, hl, h => by
    simp only[nn,fN,bm] at h ⊢
    have:=UH (a:=ws) (b:=us) (i:=i) (by simpa using ha) (by simpa using hb) (by simpa using hl) h.2
    simp only[h.1,lJ,zg];exact this
  | [],_,_,ha,_,_,_=>by simp at ha
  | _::_,[],_,_,hb,_,_=>by simp at hb
def lQ (o:Option Int):List V:=[.bool o.isSome,.int .i64 (o.getD 0)]
def qD (o:Option Int):List V:=[.int .i64 (if o.isSome then 4 else 0),.int .i64 (o.getD 0)]
def fB (l:List (List UInt8)) (s:aU):List Word→aU × Option Int
  | []=>(s,none)
  | w::ws=>match fJ l w.text with | none=>(0#64,some w.pos) | some k=>fB l (im s (k:Nat)) ws
def rf (f:aV) (s:aU):List Nd→aU × Option Int
  | []=>(s,none)
  | k :: ks => match fJ f.names k.text with
    | none=>(0#64,some k.pos)
    | some o => match (fB f.names 0#64 k.names).2 with
      | some p=>(0#64,some p)
      | none=>rf f (s|||yL f.rel o (fB f.names 0#64 k.names).1) ks
def mo (f:aV) (s:aU) (bad:Option Int):List Nd→aU × Option Int
  | []=>(s,bad)
  | k :: ks => match fJ f.names k.text with
    | none=>(0#64,bad.or (some k.pos))
    | some o=>mo f (s|||yL f.rel o (fB f.names 0#64 k.names).1) (bad.or (fB f.names 0#64 k.names).2) ks
theorem Jx {f:aV} {p:Int}:∀{ks:List Nd} {s:aU},(mo f s (some p) ks).2=some p
  | [],_=>rfl
  | k :: ks, s => by
    simp only[mo];split
    · rfl
    · exact Jx
theorem Ue {f:aV}:∀{ks:List Nd} {s:aU},(mo f s none ks).2=(rf f s ks).2∧((rf f s ks).2=none→(mo f s none ks).1=(rf f s ks).1)
  | [],_=>⟨rfl,fun _=>rfl⟩
  | k :: ks, s => by
    simp only[mo,rf];split
    · exact⟨rfl,fun h=>by simp at h⟩
    · split
      · rename_i o _ p hp;rw[hp];exact⟨Jx,fun h=>by simp at h⟩
      · rename_i hp;rw[hp];exact Ue
def mj (f:aV) (n:Nd):aU × Option Int :=
  match fJ f.names n.text with
  | none=>(0#64,some n.pos)
  | some k=>(if f.kind=4 then rF f.rel k else (wo (f.names.length:Nat) (k:Nat)).1,none)
def vU (f:aV):Int:=if f.kind=2 then 3 else if f.kind=3 then 5 else 2
def rn (f:aV) (n:Nd):aU × Option Int :=
  if n.kind=vU f then (if f.kind=2 then fB f.names 0#64 n.names else if f.kind=3 then rf f 0#64 n.kids else mj f n) else (0#64,some n.pos)
def ka (f:aV) (n:Nd) (bad:Option Int):aU × Option Int :=
  if n.kind=vU f then (if f.kind=2 then ((fB f.names 0#64 n.names).1,bad.or (fB f.names 0#64 n.names).2) else if f.kind=3 then mo f 0#64 bad n.kids else ((mj f n).1,bad.or (mj f n).2)) else (0#64,bad.or (some n.pos))
theorem VQ {f:aV} {n:Nd} {p:Int}:(ka f n (some p)).2=some p:=by
  unfold ka;split
  · split
    · rfl
    · split
      · exact Jx
      · rfl
  · rfl
theorem apY {f:aV} {n:Nd}:(ka f n none).2=(rn f n).2∧((rn f n).2=none→(ka f n none).1=(rn f n).1):=by
  unfold ka rn;split
  · split
    · simp
    · split
      · exact Ue
      · simp
  · simp
def ib:Nd:=.mk 0 0 [] [] []
def iq (s:a_) (ks:List Nd) (i:Nat):aU × Option Int:=rn (s.a8.getD i .zero) (ks.getD i ib)
def rI (s:a_) (ks:List Nd):aN × Option Int :=
  match (List.range s.a8.length).find? fun i=>(iq s ks i).2.isSome with
  | some i=>(.zero,(iq s ks i).2)
  | none=>(aN.of fun j=>if j<s.a8.length then (iq s ks j).1 else 0#64,none)
def ic (s:a_) (n:Nd):List Nd:=if s.tuple then n.kids else [n]
def mh (s:a_) (n:Nd):Bool:=!s.tuple||(decide (n.kind=4)&&decide (n.kids.length=s.a8.length))
def fS (s:a_) (n:Nd):aN × Option Int:=if mh s n&&kx s&&n.g_ then rI s (ic s n) else (.zero,some n.pos)
def zR (s:a_) (ks:List Nd) (i:Nat) (x:aN × Option Int):Prop :=
  (x.2=none∧(∀k,k<i→(iq s ks k).2=none)∧x.1=aN.of fun j=>if j<i then (iq s ks j).1 else 0#64) ∨
  (x.2.isSome=true∧∃k,k<i∧(iq s ks k).2=x.2∧∀j,j<k→(iq s ks j).2=none)
theorem afb {s:a_} {ks:List Nd}:zR s ks 0 (.zero,none):=.inl ⟨rfl,fun k h=>by omega,aN.aqc⟩
theorem afa {s:a_} {ks:List Nd} {i:Nat} {e:aN} {o:Option Int} (h:zR s ks i (e,o)) :
    zR s ks (i+1) (e.put i (ka (s.a8.getD i .zero) (ks.getD i ib) o).1,(ka (s.a8.getD i .zero) (ks.getD i ib) o).2):=by
  rcases h with ⟨h1,h2,h3⟩ | ⟨h1,k,h2,h3,h4⟩
  · simp only at h1 h3;subst h1;subst h3;obtain⟨e1,e2⟩:=@apY (s.a8.getD i .zero) (ks.getD i ib);cases hb:(rn (s.a8.getD i .zero) (ks.getD i ib)).2 with
    | none =>
      left;refine⟨by simp only;rw[e1,hb],fun k hk=>?_,?_⟩
      · rcases V'.1 hk with h | rfl
        · exact h2 k h
        · exact hb
      · simp only;rw[e2 hb];exact aN.fill (f:=fun j=>(iq s ks j).1)
    | some p =>
      right;refine⟨by simp only;rw[e1,hb];rfl,i,by omega,by simp only;rw[e1];rfl,h2⟩
  · simp only at h1 h3;obtain⟨p,rfl⟩:=K8.1 h1;right;exact⟨by simp only;rw[VQ];rfl,k,by omega,by simp only;rw[VQ];exact h3,h4⟩
theorem ae' {s:a_} {ks:List Nd} {x:aN × Option Int} (h:zR s ks s.a8.length x):rI s ks=if x.2.isSome then (.zero,x.2) else (x.1,none):=by
  rcases h with ⟨h1,h2,h3⟩ | ⟨h1,k,h2,h3,h4⟩
  · have e:(List.range s.a8.length).find? (fun i=>(iq s ks i).2.isSome)=none:=by
      rw[BS];intro i hi;rw[h2 i (by simpa using hi)];simp
    rw[rI,e,h1,h3];rfl
  · have e:(List.range s.a8.length).find? (fun i=>(iq s ks i).2.isSome)=some k:=by
      rw[BT];refine⟨by rw[h3];exact h1,List.range k,List.range' (k+1) (s.a8.length - (k+1)),?_,fun a ha=>by rw[h4 a (by simpa using ha)];rfl⟩;rw[qi,qi,←wQ]
      have:=K0 (s:=0) (m:=k) (n:=s.a8.length - k) (step:=1)
      simp only[sT,gh] at this;rw[show s.a8.length - (k+1)+1=s.a8.length - k by omega,this];congr 1;omega
    rw[rI,e,aw h1];simp only[h3]
mutual
def Nd.bI:Nd→Nat
  | .mk _ _ _ ws ks=>1+ws.length+eR ks
def eR:List Nd→Nat
  | []=>0
  | n::ns=>n.bI+eR ns
end
theorem O_:∀a b:List Nd,eR (a++b)=eR a+eR b
  | [],b=>by simp[eR]
  | x::xs,b=>by simp only[gN,eR,O_ xs b];omega
theorem Pb (l:List Nd) (i:Nat):eR (l.take i)≤eR l:=by
  have:=O_ (l.take i) (l.drop i)
  rw[my] at this;omega
theorem apk (l:List Word):l.length≤di l:=by
  unfold di;induction l with
  | nil=>simp
  | cons w ws ih=>simp only[bL,oe,cF];omega
mutual
theorem Cx:∀n:Nd,n.bI≤n.wt
  | .mk k p t ws ks => by
    have:=Pd ks
    have:=apk ws
    simp only[Nd.bI,Nd.wt];omega
theorem Pd:∀l:List Nd,eR l≤eg l
  | []=>by simp[eR,eg]
  | n :: ns => by
    have:=Cx n
    have:=Pd ns
    simp only[eR,eg];omega
end
structure dw where
  name:List UInt8
  shape:a_
def dw.enc (l:dw):List V:=.str l.name::l.shape.enc
structure cQ where
  name:List UInt8
  kind:Int
  lat:Int
def cQ.enc (v:cQ):List V:=[.str v.name,.int .i64 v.kind,.int .i64 v.lat]
structure ar where
  bc:List dw
  vars:List cQ
def ar.enc (s:ar):List V:=[.sl .no 3 (s.bc.map dw.enc),.sl .no 3 (s.vars.map cQ.enc)]
section
variable {l:dw} {v:cQ} {s:ar} {n:Nat} {a b c:V}
theorem ar.bR:s.enc.length=2:=rfl
theorem ar.d_:bA s.enc=true:=rfl
theorem ar.cx:bd s.enc=true:=rfl
theorem ar.cw:aX s.enc=s.enc:=rfl
theorem ar.bO:bn n s.enc=true:=rfl
theorem ar.dt:takeN 2 s.enc=some s.enc:=rfl
theorem ar.fh:a9 true 2 s.enc=some (.agg s.enc):=rfl
theorem ar.eM:bD 2 s.enc=true:=rfl
theorem ar.eb:over [a,b] s.enc=s.enc:=rfl
theorem ar.Be:a9 false 1 s.enc=some (.sl .no 3 (s.bc.map dw.enc)):=rfl
theorem ar.Bf:a9 false 1 (s.enc.drop 1)=some (.sl .no 3 (s.vars.map cQ.enc)):=rfl
theorem cQ.pR:a9 false 1 v.enc=some (.str v.name):=rfl
theorem cQ.Jm:a9 false 1 (v.enc.drop 1)=some (.int .i64 v.kind):=rfl
theorem cQ.Be:a9 false 1 (v.enc.drop 2)=some (.int .i64 v.lat):=rfl
theorem dw.pR:a9 false 1 l.enc=some (.str l.name):=rfl
theorem dw.al4:takeN 2 (l.enc.drop 1)=some l.shape.enc:=rfl
def ar.af:=And.intro @ar.bR <| And.intro @ar.d_ <| And.intro @ar.cx <| And.intro @ar.cw <| And.intro @ar.bO <| And.intro @ar.dt <| And.intro @ar.fh <| And.intro @ar.eM <| And.intro @ar.eb <| And.intro @ar.Be <| And.intro @ar.Bf <| And.intro @cQ.pR <| And.intro @cQ.Jm <| And.intro @cQ.Be <| And.intro @dw.pR @dw.al4
end
structure aW where
  op:Int
  n:Int
  c:aN
def aW.enc (i:aW):List V:=.int .i64 i.op::.int .i64 i.n::i.c.enc
def aW.zero:aW:=⟨0,0,.zero⟩
theorem aW.ext' {a b:aW} (h1:a.op=b.op) (h2:a.n=b.n) (h3:a.c=b.c):a=b:=by cases a;cases b;simp only at h1 h2 h3;subst h1;subst h2;subst h3;rfl
instance:DecidableEq aW:=fun a b=>if h:a.op=b.op∧a.n=b.n∧a.c=b.c then isTrue (aW.ext' h.1 h.2.1 h.2.2) else isFalse fun e=>h (e▸⟨rfl,rfl,rfl⟩)
section
variable {i j:aW} {n:Nat} {x y:Int} {e:aN}
theorem aW.bR:i.enc.length=10:=by simp[aW.enc,aN.bR]
theorem aW.d_:bA i.enc=true:=by simp[aW.enc,bA,V.one,aN.d_]
theorem aW.cx:bd i.enc=true:=by simp[aW.enc,bd,V.bS,aN.cx]
theorem aW.cw:aX i.enc=i.enc:=by simp[aW.enc,aX,V.erase,aN.cw]
theorem aW.bO:bn n i.enc=true:=by simp[aW.enc,bn,V.lo,aN.bO]
theorem aW.dt:takeN 10 i.enc=some i.enc:=by have:=uE (c:=i.enc);rwa [aW.bR] at this
theorem aW.fh:a9 true 10 i.enc=some (.agg i.enc):=by rw[vW,aW.dt];rfl
theorem aW.eM:bD 10 i.enc=true:=by have:=tB (c:=i.enc);rwa [aW.bR] at this
theorem aW.eb:over j.enc i.enc=i.enc:=pK (by rw[aW.bR,aW.bR])
theorem aW.r_o:a9 false 1 i.enc=some (.int .i64 i.op):=rfl
theorem aW.pR:a9 false 1 (i.enc.drop 1)=some (.int .i64 i.n):=rfl
theorem aW.alP:takeN 8 (i.enc.drop 2)=some i.c.enc:=by show takeN 8 i.c.enc=_;exact aN.dt
theorem aW.uo:tS=aW.zero.enc:=by
  show V.int .i64 0::V.int .i64 0::xF=_;rw[aN.uo];rfl
theorem aW.Xe:over i.enc [.int .i64 x]=(aW.mk x i.n i.c).enc:=by rw[aW.enc,mT,kU];rfl
theorem aW.zp:bD 1 i.enc=true:=rfl
theorem aW.Xa:bD 1 (i.enc.drop 1)=true:=rfl
theorem aW.FK:setAt i.enc 1 [.int .i64 x]=(aW.mk i.op x i.c).enc:=by rw[aW.enc,iO,ku,mT,kU];rfl
theorem aW.Xb:bD 8 (i.enc.drop 2)=true:=by show bD 8 i.c.enc=true;exact aN.eM
theorem aW.FJ:setAt i.enc 2 e.enc=(aW.mk i.op i.n e).enc:=by rw[aW.enc,iO,iO,ku,aN.eb];rfl
theorem aW.ml:dU [1,1,1,1,1,1,1,1,1,1] i.enc j.enc=some (decide (i=j)):=by
  rw[aW.enc,aW.enc,ti,ti,aN.ml,rE,rE];congr 1;rw[←sK,←sK];exact nB.2 ⟨fun h=>aW.ext' h.1 h.2.1 h.2.2,fun h=>h▸⟨rfl,rfl,rfl⟩⟩
def aW.af:=And.intro @aW.bR <| And.intro @aW.d_ <| And.intro @aW.cx <| And.intro @aW.cw <| And.intro @aW.bO <| And.intro @aW.dt <| And.intro @aW.fh <| And.intro @aW.eM <| And.intro @aW.eb <| And.intro @aW.r_o <| And.intro @aW.pR <| And.intro @aW.alP <| And.intro @aW.uo <| And.intro @aW.Xe <| And.intro @aW.zp <| And.intro @aW.Xa <| And.intro @aW.FK <| And.intro @aW.Xb <| And.intro @aW.FJ @aW.ml
end
def IF (l:List dw) (t:List UInt8) (i:Nat):Bool:=match l[i]? with | some x=>decide (x.name=t) | none=>false
def IG (l:List cQ) (t:List UInt8) (i:Nat):Bool:=match l[i]? with | some x=>decide (x.name=t) | none=>false
def gR (l:List dw) (t:List UInt8):Option Nat:=(List.range l.length).find? (IF l t)
def iy (l:List cQ) (t:List UInt8):Option Nat:=(List.range l.length).find? (IG l t)
def sG (s:ar) (lat:Nat) (t:List UInt8):Option aW :=
  match iy s.vars t with
  | none=>none
  | some k => match s.vars[k]? with
    | some v=>if v.kind=1∧v.lat=(lat:Nat) then some ⟨1,k,.zero⟩ else none
    | none=>none
def ri (s:ar) (lat:Nat):a_:=match s.bc[lat]? with | some l=>l.shape | none=>⟨false,[]⟩
def kR (s:ar) (lat:Nat) (n:Nd):Option aW :=
  if n.kind=1 then sG s lat n.text
  else match (fS (ri s lat) (n.kids.getD 0 ib)).2 with | none=>some ⟨2,0,(fS (ri s lat) (n.kids.getD 0 ib)).1⟩ | some _=>none
def oW (n:Nd):aW:=⟨if n.kind=9 then 4 else 3,n.kids.length,.zero⟩
mutual
def kJ (s:ar) (lat:Nat):Nd→Option (List aW)
  | .mk k p t ws ks=>if k=1∨k=7 then (kR s lat (.mk k p t ws ks)).map fun i=>[i] else (mF s lat ks).map fun l=>l++[oW (.mk k p t ws ks)]
def mF (s:ar) (lat:Nat):List Nd→Option (List aW)
  | []=>some []
  | n::ns=>match kJ s lat n with | none=>none | some l=>(mF s lat ns).map fun m=>l++m
end
theorem F1 {s:ar} {lat:Nat} (n:Nd):kJ s lat n=if n.kind=1∨n.kind=7 then (kR s lat n).map fun i=>[i] else (mF s lat n.kids).map fun l=>l++[oW n]:=by
  cases n;rw[kJ];rfl
def kd (s:ar) (lat:Int) (n:Nd):Option (List aW):=if 0≤lat∧lat<s.bc.length∧n.fg=true then kJ s lat.toNat n else none
def wj (s:ar) (lat:Nat) (f:Nd × Nat):Option (List aW) :=
  if f.1.kind=1∨f.1.kind=7 then (kR s lat f.1).map fun i=>[i] else (mF s lat (f.1.kids.drop f.2)).map fun l=>l++[oW f.1]
theorem T3 {s:ar} {lat:Nat} {n:Nd}:wj s lat (n,0)=kJ s lat n:=by rw[wj,F1];simp
def oo (s:ar) (lat:Nat):List (Nd × Nat)→List aW→Option (List aW)
  | [],out=>some out
  | f::fs,out=>match wj s lat f with | none=>none | some l=>oo s lat fs (out++l)
theorem amq {s:ar} {lat:Nat} {n:Nd} {d:Nat} {fs:List (Nd × Nat)} {out:List aW} (h:¬(n.kind=1∨n.kind=7)) (hd:d<n.kids.length) :
    oo s lat ((n,d)::fs) out=oo s lat ((n.kids[d],0)::(n,d+1)::fs) out:=by
  simp only[oo,T3];rw[wj,ah h,wj,ah h,jU hd,mF];cases kJ s lat n.kids[d] with
  | none=>rfl
  | some l =>
    cases mF s lat (n.kids.drop (d+1)) with
    | none=>rfl
    | some m=>simp only[pf,eh]
theorem amn {s:ar} {lat:Nat} {n:Nd} {d:Nat} {fs:List (Nd × Nat)} {out:List aW} (h:¬(n.kind=1∨n.kind=7)) (hd:n.kids.length≤d) :
    oo s lat ((n,d)::fs) out=oo s lat fs (out++[oW n]):=by
  simp only[oo];rw[wj,ah h,BQ hd,mF];rfl
theorem amr {s:ar} {lat:Nat} {n:Nd} {d:Nat} {fs:List (Nd × Nat)} {out:List aW} (h:n.kind=1∨n.kind=7) :
    oo s lat ((n,d)::fs) out=match kR s lat n with | none=>none | some i=>oo s lat fs (out++[i]):=by
  simp only[oo];rw[wj,aw h];cases kR s lat n<;>rfl
def l9:List (Nd × Nat)→Nat
  | []=>0
  | f::fs=>2*eR (f.1.kids.drop f.2)+1+l9 fs
theorem Nd.pj (n:Nd):1+eR n.kids≤n.bI:=by cases n;simp only[Nd.bI,Nd.kids];omega
theorem SE {n:Nd} {d:Nat} {fs:List (Nd × Nat)} (hd:d<n.kids.length):l9 ((n.kids[d],0)::(n,d+1)::fs)<l9 ((n,d)::fs):=by
  simp only[l9,BR]
  have:=Nd.pj n.kids[d]
  rw[jU hd,eR];omega
mutual
theorem Pg {s:ar} {lat:Nat}:∀(n:Nd) {l:List aW},kJ s lat n=some l→l.length≤n.bI
  | .mk k p t ws ks, l, h => by
    rw[kJ] at h;split at h
    · simp only[cf] at h;obtain⟨i,_,rfl⟩:=h;simp only[Nd.bI,cF,dk];omega
    · simp only[cf] at h;obtain⟨m,hm,rfl⟩:=h
      have:=Ph ks hm
      simp only[Nd.bI,bz,cF,dk];omega
theorem Ph {s:ar} {lat:Nat}:∀(ks:List Nd) {l:List aW},mF s lat ks=some l→l.length≤eR ks
  | [],l,h=>by rw[mF] at h;cases h;simp
  | n :: ns, l, h => by
    rw[mF] at h;cases hn:kJ s lat n with
    | none=>rw[hn] at h;simp at h
    | some a =>
      rw[hn] at h;simp only[cf] at h;obtain⟨b,hb,rfl⟩:=h
      have:=Pg n hn
      have:=Ph ns hb
      simp only[eR,bz];omega
end
theorem zz (n:Nd):n.names.length≤n.bI:=by cases n;simp only[Nd.bI,Nd.names];omega
theorem O' {m:Nd}:∀{l:List Nd},m∈l→m.bI≤eR l
  | [],h=>by simp at h
  | n :: l, h => by
    simp only[eR]
    rcases iR.1 h with rfl | h
    · omega
    · have:=O' h;omega
theorem ny {n m:Nd} (h:m∈n.kids):m.bI<n.bI:=by
  have:=O' h
  have:=Nd.pj n;omega
theorem FY:∀(l:List Nd),l.length≤eR l
  | []=>by simp
  | n :: l => by
    have:=FY l
    have:=Nd.pj n
    simp only[eR,cF];omega
theorem u9 (n:Nd):n.kids.length≤n.bI:=by
  have:=FY n.kids
  have:=Nd.pj n;omega
def ar.ok (s:ar):Prop:=s.bc.length≤100000∧s.vars.length≤100000∧∀l∈s.bc,l.shape.ok
theorem R0 {n:Nd} (h:n.fg=true) (h1:¬(n.kind=1∨n.kind=7)):∀m∈n.kids,m.fg=true:=by
  rw[Nd.qT,ah (fun e=>h1 (.inl e)),ah (fun e=>h1 (.inr e))] at h;split at h
  · simp only[bm,la] at h;exact h.2
  · simp at h
theorem AQ {n:Nd} (h:n.fg=true) (h1:n.kind=7):n.kids.length=1:=by
  rw[Nd.qT,ah (by rw[h1];decide),aw h1] at h;simp only[bm,cq] at h;omega
theorem YS (s:ar) (lat:Int) (n:Nd):((kd s lat n).getD []).length≤n.bI:=by
  cases h:kd s lat n with
  | none=>simp
  | some l =>
    rw[kd] at h;split at h
    · exact Pg n h
    · simp at h
def Bl (s:a_) (op:Int) (a b:aN):aN:=if op=3 then agL s a b else aiM a b
def s5 (s:a_):Bool:=decide (12<s.a8.length)||s.a8.any fun f=>decide (70<f.names.length)||f.names.any fun t=>decide (40<t.length)
def u1 (s:ar):Bool:=decide (20<s.bc.length)||decide (80<s.vars.length)||(s.bc.any fun l=>s5 l.shape||decide (40<l.name.length))||s.vars.any fun v=>decide (40<v.name.length)
theorem Xw {s:a_} (h:s5 s=false):s.ok:=by
  simp only[s5,wM,Fe,xC,KG] at h;refine⟨by omega,fun f hf=>?_⟩
  have:=(h.2 f hf).1;omega
theorem Xs {s:ar} (h:u1 s=false):s.ok:=by
  simp only[u1,wM,Fe,xC,KG] at h;exact⟨by omega,by omega,fun l hl=>Xw (h.1.2 l hl).1⟩
structure au where
  cls:Int
  loc:Int
def au.zero:au:=⟨0,0⟩
theorem au.ext' {a b:au} (h:a.cls=b.cls) (k:a.loc=b.loc):a=b:=by cases a;cases b;simp only at h k;subst h;subst k;rfl
instance:DecidableEq au:=fun a b=>if h:a.cls=b.cls∧a.loc=b.loc then isTrue (au.ext' h.1 h.2) else isFalse fun e=>h ⟨e▸rfl,e▸rfl⟩
def au.enc (f:au):List V:=[.int .i64 f.cls,.int .i64 f.loc]
section
variable {f g:au} {n:Nat} {a b:V}
theorem au.bR:f.enc.length=2:=rfl
theorem au.d_:bA f.enc=true:=rfl
theorem au.cx:bd f.enc=true:=rfl
theorem au.cw:aX f.enc=f.enc:=rfl
theorem au.bO:bn n f.enc=true:=rfl
theorem au.dt:takeN 2 f.enc=some f.enc:=rfl
theorem au.fh:a9 true 2 f.enc=some (.agg f.enc):=rfl
theorem au.eM:bD 2 f.enc=true:=rfl
theorem au.eb:over g.enc f.enc=f.enc:=rfl
theorem au.alX:over [a,b] f.enc=f.enc:=rfl
theorem au.Jl:a9 false 1 f.enc=some (.int .i64 f.cls):=rfl
theorem au.r_p:a9 false 1 (f.enc.drop 1)=some (.int .i64 f.loc):=rfl
theorem au.ml:dU [1,1] f.enc g.enc=some (decide (f=g)):=by
  rw[au.enc,au.enc,ti,ti,PN,rE,rE];congr 1;rw[rq,←sK];exact nB.2 ⟨fun h=>au.ext' h.1 h.2,fun h=>h▸⟨rfl,rfl⟩⟩
def au.af:=And.intro @au.bR <| And.intro @au.d_ <| And.intro @au.cx <| And.intro @au.cw <| And.intro @au.bO <| And.intro @au.dt <| And.intro @au.fh <| And.intro @au.eM <| And.intro @au.eb <| And.intro @au.alX <| And.intro @au.Jl <| And.intro @au.r_p @au.ml
end
def nV (s4 f:au):Bool:=decide (s4.cls=0)||decide (f.cls<s4.cls)||(decide (f.cls=s4.cls)&&decide (f.loc<s4.loc))
def e9 (s4 f:au):au:=if f.cls=0 then s4 else if nV s4 f then f else s4
def dg (l:List au):au:=l.foldl e9 .zero
def pG (a b:au):Prop:=a.cls<b.cls∨(a.cls=b.cls∧a.loc≤b.loc)
theorem DJ (a:au):pG a a:=.inr ⟨rfl,Int.le_refl _⟩
theorem R9 {a b c:au} (h:pG a b) (k:pG b c):pG a c:=by unfold pG at *;omega
theorem Il:∀(l:List au) (o:au),(l.foldl e9 o=o∨(l.foldl e9 o∈l∧(l.foldl e9 o).cls≠0))∧(o.cls≠0→(l.foldl e9 o).cls≠0∧pG (l.foldl e9 o) o)∧∀f∈l,f.cls≠0→(l.foldl e9 o).cls≠0∧pG (l.foldl e9 o) f
  | [],o=>⟨.inl rfl,fun h=>⟨h,DJ o⟩,by simp⟩
  | f :: l, o => by
    obtain⟨h1,h2,h3⟩:=Il l (e9 o f);rw[qe];have hb:e9 o f=o∨(e9 o f=f∧f.cls≠0):=by
      unfold e9
      by_cases h:f.cls=0
      · rw[aw h];exact .inl rfl
      · rw[ah h];split
        · exact .inr ⟨rfl,h⟩
        · exact .inl rfl
    have ho:o.cls≠0→(e9 o f).cls≠0∧pG (e9 o f) o:=fun h=>by
      unfold e9
      by_cases hf:f.cls=0
      · rw[aw hf];exact⟨h,DJ o⟩
      · rw[ah hf];split
        · rename_i hl;refine⟨hf,?_⟩;simp only[nV,jS,bm,cq] at hl;unfold pG;omega
        · exact⟨h,DJ o⟩
    have hf:f.cls≠0→(e9 o f).cls≠0∧pG (e9 o f) f:=fun h=>by
      unfold e9;rw[ah h];split
      · exact⟨h,DJ f⟩
      · rename_i hl;simp only[nV,jS,bm,cq] at hl;unfold pG;exact⟨by omega,by omega⟩
    refine⟨?_,fun h=>?_,fun g hg hc=>?_⟩
    · rcases h1 with h1 | ⟨h1,rQ⟩
      · rw[h1]
        rcases hb with hb | ⟨hb,bl⟩
        · exact .inl hb
        · rw[hb];exact .inr ⟨by simp,bl⟩
      · exact .inr ⟨by simp[h1],rQ⟩
    · obtain⟨k1,k2⟩:=ho h;obtain⟨k3,k4⟩:=h2 k1;exact⟨k3,R9 k4 k2⟩
    · rcases iR.1 hg with rfl | hg
      · obtain⟨k1,k2⟩:=hf hc;obtain⟨k3,k4⟩:=h2 k1;exact⟨k3,R9 k4 k2⟩
      · exact h3 g hg hc
theorem Sd {a:List au} (h:(dg a).cls=0):dg a = .zero∧∀f∈a,f.cls=0:=by
  obtain⟨a1,_,a3⟩:=Il a .zero;refine⟨?_,fun f hf=>Classical.byContradiction fun hc=>(a3 f hf hc).1 h⟩
  rcases a1 with e | ⟨_,e⟩
  · exact e
  · exact absurd h e
theorem Se {a:List au} (h:∀f∈a,f.cls=0):dg a = .zero:=by
  rcases (Il a .zero).1 with e | ⟨e,e'⟩
  · exact e
  · exact absurd (h _ e) e'
theorem ahK {l:List au} {i:Nat} (hi:i<l.length):dg (l.take (i+1))=e9 (dg (l.take i)) l[i]:=by
  rw[dg,jV hi,zd];rfl
section
variable {k x:Int} {m m' : List (List V)}
end
theorem P4 {l:List cQ} {t:List UInt8} {k:Nat} (h:iy l t=some k):k<l.length:=by
  unfold iy at h;simpa using KY h
section
variable {s:ar} {lat:Nat}
variable {v:List aN}
end
section
variable {s:a_} {op:Int} {P:aN→Prop} (hc:∀a b,P a→P b→P (Bl s op a b)) (ha:∀a b c,P a→P b→P c→Bl s op (Bl s op a b) c=Bl s op a (Bl s op b c))
include hc ha
end
section
variable {r:Rl}
end
section
variable {r:Rl} {a b c w:aU}
end
section
variable {f:aV} {a b c:aU}
end
section
variable {s:a_} {a b c e:aN}
end
section
variable {s:ar} {lat:Nat} {v:List aN}
end
structure fQ where
  lat:Int
  v:List aN
  w:List aN
def fQ.enc (x:fQ):List V:=[.int .i64 x.lat,.sl .no 8 (x.v.map aN.enc),.sl .no 8 (x.w.map aN.enc)]
section
variable {x:fQ} {n:Nat} {a b c:V}
theorem fQ.bR:x.enc.length=3:=rfl
theorem fQ.d_:bA x.enc=true:=rfl
theorem fQ.cx:bd x.enc=true:=rfl
theorem fQ.cw:aX x.enc=x.enc:=rfl
theorem fQ.bO:bn n x.enc=true:=rfl
theorem fQ.dt:takeN 3 x.enc=some x.enc:=rfl
theorem fQ.fh:a9 true 3 x.enc=some (.agg x.enc):=rfl
theorem fQ.eM:bD 3 x.enc=true:=rfl
theorem fQ.eb:over [a,b,c] x.enc=x.enc:=rfl
theorem fQ.Be:a9 false 1 x.enc=some (.int .i64 x.lat):=rfl
theorem fQ.Bf:a9 false 1 (x.enc.drop 1)=some (.sl .no 8 (x.v.map aN.enc)):=rfl
theorem fQ.r_w:a9 false 1 (x.enc.drop 2)=some (.sl .no 8 (x.w.map aN.enc)):=rfl
def fQ.af:=And.intro @fQ.bR <| And.intro @fQ.d_ <| And.intro @fQ.cx <| And.intro @fQ.cw <| And.intro @fQ.bO <| And.intro @fQ.dt <| And.intro @fQ.fh <| And.intro @fQ.eM <| And.intro @fQ.eb <| And.intro @fQ.Be <| And.intro @fQ.Bf @fQ.r_w
end
def qb (v r:V):List V→List V→Prop
  | [],[]=>True
  | x::xs,y::ys=>(y=x∨(x=v∧y=r)∨y = .any)∧qb v r xs ys
  | _,_=>False
theorem qb.RL {E E' : Env} {v r:V} (hle:E.le E') (h:∀u,R E v u→R E' r u):∀{t t' : List V} {vs:List Value},qb v r t t' → RL E t vs→RL E' t' vs
  | [],[],[],_,_=>by simp only[Go.Am.RL]
  | [],[],_::_,_,k=>by simp[Go.Am.RL] at k
  | [],_::_,_,k,_=>by simp[qb] at k
  | _::_,[],_,k,_=>by simp[qb] at k
  | _::_,_::_,[],_,k=>by simp[Go.Am.RL] at k
  | x :: xs, y :: ys, u :: us, k, k2 => by
    simp only[qb] at k;simp only[Go.Am.RL] at k2 ⊢;refine⟨?_,qb.RL hle h k.2 k2.2⟩
    rcases k.1 with rfl | ⟨rfl,rfl⟩ | rfl
    · exact R.mono _ hle k2.1
    · exact h _ k2.1
    · simp only[R]
theorem Gd {α:Type} {F:Nat→α→St} {J:Nat→α→Prop} {t:List V} {l:List (List V)} {σ:ab} (n:Nat) (h:∀τ,σ.aB τ=none→∃x,J 0 x∧dc τ n t (F 0 x).t∧l=(F 0 x).loc∧(F 0 x).out=σ.aK τ n):BN F J ⟨t,l,σ⟩ :=
  (aZ.wC (ι:={x // J 0 x}) (I:=fun x=>F 0 x.1) n fun τ ba=>by
    obtain⟨x,h1,h2,h3,h4⟩:=h τ ba;exact⟨⟨x,h1⟩,h2,h3,h4⟩).mono fun _ ⟨x,e⟩=>⟨x.1,x.2,e⟩
def sP (τ n:Nat):List (List V)→List (List V)→Prop
  | [],[]=>True
  | c::l,c' :: l' => dc τ n c c' ∧ sP τ n l l'
  | _,_=>False
theorem sP.spec {τ n:Nat}:∀{l l' : List (List V)},sP τ n l l' → l.length=l'.length∧∀(i:Nat) c',l'[i]?=some c' → ∃c,l[i]?=some c∧dc τ n c c'
  | [],[],_=>⟨rfl,fun i c' h=>by simp at h⟩
  | [],_::_,h=>h.elim
  | _::_,[],h=>h.elim
  | c :: l, c' :: l', h => by
    obtain⟨h1,h2⟩:=sP.spec h.2;refine⟨by simp[h1],fun i d hd=>?_⟩;cases i with
    | zero=>simp at hd;subst hd;exact⟨c,rfl,h.1⟩
    | succ i=>exact h2 i d (by simpa using hd)
theorem aim {τ n:Nat}:sP τ n [] []=True:=rfl
theorem ail {τ n:Nat} {c c' : List V} {l l' : List (List V)}:sP τ n (c::l) (c' :: l')=(dc τ n c c' ∧ sP τ n l l'):=rfl
def Sp:=And.intro @aim @ail
theorem PL {α:Type} {F:Nat→α→St} {J:Nat→α→Prop} {t:List V} {l:List (List V)} {σ:ab} (n:Nat) (h:∀τ,σ.aB τ=none→∃x,J 0 x∧dc τ n t (F 0 x).t∧sP τ n l (F 0 x).loc∧(F 0 x).out=σ.aK τ n):BN F J ⟨t,l,σ⟩ :=
  aZ.tok n fun τ ba=>by
    obtain⟨x,h1,h2,h3,h4⟩:=h τ ba;obtain⟨k1,k2⟩:=h3.spec;exact⟨_,_,σ,h2,k1,k2,np.rfl,x,h1,by rw[←h4]⟩
theorem K_ {E:Env} {b:Nat} {cs:List V} (hc:∀(j:Nat) x,cs[j]?=some x→∃v,E.w.cell? ⟨b,j,none⟩=some v∧(E.role b).fp j∧R E x v) :
    ∀(xs:List V) (p:Nat),(∀(j:Nat) x,xs[j]?=some x→cs[p+j]?=some x)→bA xs=true→cJ E xs b p
  | [],_,_,_=>by simp[cJ]
  | x :: xs, p, hp, ho => by
    simp only[bA,bm] at ho;simp only[cJ];obtain⟨v,v1,v2,v3⟩:=hc p x (by have:=hp 0 x rfl;simpa using this);refine⟨⟨v,v1,v2,sf (E:=E) (xs:=[x]) (vs:=[v]) (by simp only[RL];exact⟨v3,trivial⟩) (by simp[bA,ho.1]) v (by simp),v3⟩,K_ hc xs (p+1) (fun j y hy=>?_) ho.2⟩
    have:=hp (j+1) y (by simpa using hy)
    rwa [show p+1+j=p+(j+1) by omega]
theorem DY:∀{a b:List V},bA (a++b)=(bA a&&bA b)
  | [],b=>by simp[bA]
  | x::a,b=>by simp[bA,DY,Bool.and_assoc]
theorem La {E:Env} {b k:Nat} {cs:List V} (hc:∀(j:Nat) x,cs[j]?=some x→∃v,E.w.cell? ⟨b,j,none⟩=some v∧(E.role b).fp j∧R E x v) :
    ∀(rows:List (List V)) (p:Nat),(∀(j:Nat) x,rows.flatten[j]?=some x→cs[p+j]?=some x)→bA rows.flatten=true→(∀r∈rows,r.length=k)→dE E k rows b p
  | [],_,_,_,_=>by simp[dE]
  | r :: rows, p, hp, ho, hr => by
    rw[iQ,DY,bm] at ho;have hl:=hr r (by simp);simp only[dE];refine⟨hl,K_ hc r p (fun j x hx=>?_) ho.1,La hc rows (p+k) (fun j x hx=>?_) ho.2 fun q hq=>hr q (by simp[hq])⟩
    · refine hp j x ?_;rw[iQ,nk (dj.1 hx).1];exact hx
    · have:=hp (k+j) x (by rw[iQ,uQ (by omega),hl,K4];exact hx)
      rwa [show p+k+j=p+(k+j) by omega]
theorem aZ.ew {k:Nat} {v:V} {rows:List (List V)} {t t' : List V} {l:List (List V)} {σ:ab} {K:St→Prop} (h:dd σ k v rows) (h1:bA rows.flatten=true) (ht:qb v (.sl .no k rows) t t')
    (hk:∀σ',(∀ck,wX ck σ v→ck.sub σ')→K ⟨t',l,σ'⟩):aZ ⟨t,l,σ⟩ K:=by
  intro E a hs;obtain⟨ad,cap,rfl,hc,hr,hb⟩:=h
  rcases hb with h0 | ⟨b,cs,rfl,rT,hl,r6⟩
  · have e:rows=[]:=nj (by omega);subst e;refine⟨E,⟨t',l,σ⟩,rfl,Fr.refl E,⟨hs.ok,hs.bW,hs.defers,qb.RL (Env.le.refl E) (fun u hu=>?_) ht hs.slot⟩,hk σ fun ck h=>h.sub⟩;simp only[R] at hu ⊢;subst hu;exact⟨_,_,rfl,hc,.inl trivial,trivial⟩
  · obtain⟨hf,b_,oy⟩:=Qo hs rT;refine⟨E.ew b,⟨t',l,σ.del b⟩,rfl,hf,⟨b_.ok,b_.bW,b_.defers,qb.RL (E:=E.ew b) (Env.le.refl _) (fun u hu=>?_) ht b_.slot⟩,hk _ fun ck h=>⟨fun b' cs' bl => ?_,fun t n hn=>h.sub.2.1 t n hn,h.sub.2.2⟩⟩
    · simp only[R] at hu ⊢;subst hu;refine⟨_,_,rfl,hc,.inr ⟨b,0,rfl,La (cs:=cs) oy rows 0 (fun j x hx=>?_) h1 hr⟩,trivial⟩;rw[gh];rw[←r6,BV] at hx;split at hx
      · exact hx
      · simp at hx
    · have aH:b' ≠ b:=by
        rintro rfl;rw[h.new b' rfl] at bl;simp at bl
      simp only[ab.del];rw[ah aH];exact h.sub.1 b' cs' bl
def KH (σ:ab) (k:Nat) (v:V) (rows:List (List V)) (m:Nat) (v' : V):Prop :=
  ∃a cap,v' = .raw (.slice a (rows.length - m) cap)∧(rows.length - m=0∨∃b cs,mf v=some b∧a=some ⟨b,m*k,none⟩∧σ.box b=some cs∧rows.length*k≤cs.length∧cs.take (rows.length*k)=rows.flatten)
theorem dd.s7 {σ:ab} {k m1 m2:Nat} {v v1 v2:V} {rows:List (List V)} {H:V→ab→Prop} (h:dd σ k v rows) (c1:KH σ k v rows m1 v1) (c2:KH σ k v rows m2 v2) (hm:m2≤m1) (hm1:m1≤rows.length) (ho:bA rows.flatten=true)
    (hk:∀σ',dd σ' k v (rows.take m1++(rows.drop m2).take (rows.length - m1))→rA σ v σ' v→H (.int .i64 (rows.length - m1:Nat)) σ'):OQ.aL σ H (.s7 k) [v1,v2]:=by
  obtain⟨a1,aqf,rfl,d1⟩:=c1;obtain⟨a2,aqg,rfl,d2⟩:=c2;show ∃xs,EZ σ a2 (Nat.min (rows.length - m2) (rows.length - m1)*k) xs∧uL σ k a1 (Nat.min (rows.length - m2) (rows.length - m1)) xs H;have aaD:Nat.min (rows.length - m2) (rows.length - m1)=rows.length - m1:=K5 (by omega);rw[aaD]
  by_cases hz:rows.length - m1=0
  · rw[hz];refine⟨[],.inl ⟨by simp,rfl⟩,fun _=>?_,fun e=>absurd rfl e⟩
    have:=hk σ (by rw[hz,wR (by omega),K3,dD];exact h) rA.refl
    rw[hz] at this;exact this
  · obtain⟨a,cap,rfl,h1,h2,h3⟩:=h
    rcases d1 with d1 | ⟨b,cs,e1,rfl,hb,hl,r6⟩
    · exact absurd d1 hz
    rcases d2 with d2 | ⟨b',cs',e2,rfl,bl,fc,aqu⟩
    · exact absurd d2 (by omega)
    obtain rfl:b=b' := by rw[e1] at e2;exact lM e2
    obtain rfl:cs=cs' := by rw[hb] at bl;exact lM bl
    rcases h3 with h3 | ⟨b3,Zg,rfl,h4,h5,h6⟩
    · exact absurd h3 (by omega)
    obtain rfl:b3=b:=by simpa [mf] using e1
    obtain rfl:cs=Zg:=by rw[hb] at h4;exact lM h4
    have hmk:(rows.length - m1)*k+m1*k=rows.length*k:=by rw[←gb];congr 1;omega
    have aqs:m2*k≤m1*k:=mA _ hm;have jA:=iA h2;have e3:cs=rows.flatten++cs.drop (rows.length*k):=by rw[←h6];simp
    have kp:(cs.drop (m2*k)).take ((rows.length - m1)*k)=((rows.drop m2).take (rows.length - m1)).flatten:=by
      have C6:(rows.drop m2).flatten.length=(rows.length - m2)*k:=by rw[iA (k:=k) (fun r hr=>h2 r (B0 hr)),BX]
      have hle:(rows.length - m1)*k≤(rows.length - m2)*k:=mA _ (by omega);rw[e3,KN (by rw[jA];omega),CN h2,Fq (by rw[C6];exact hle),CO (fun r hr=>h2 r (B0 hr))]
    have dH:bA ((rows.drop m2).take (rows.length - m1)).flatten=true:=by
      have hd:∀{q:List (List V)} {n:Nat},bA q.flatten=true→bA (q.take n).flatten=true∧bA (q.drop n).flatten=true:=fun {q n} hq=>by
        rw[←my n q,od,DY,bm] at hq;exact hq
      exact(hd (hd ho).2).1
    have oP:((rows.drop m2).take (rows.length - m1)).flatten.length=(rows.length - m1)*k:=by
      rw[iA (k:=k) (fun r hr=>h2 r (B0 (ru hr))),gO,BX,qm (by omega)]
    refine⟨_,.inr ⟨b3,m2*k,cs,rfl,hb,by omega,rfl,by rw[kp];exact dH⟩,fun e=>absurd e hz,fun _=>⟨b3,m1*k,cs,rfl,hb,by omega,?_⟩⟩;rw[kp];have kg:=JN (k:=k) (n:=m1*k) (cs:=cs) (xs:=((rows.drop m2).take (rows.length - m1)).flatten) (ys:=(rows.take m1).flatten)
      (by rw[e3,Fq (by rw[jA];omega),CO h2]) (by rw[oP];omega) (by rw[iA (k:=k) (fun r hr=>h2 r (ru hr)),gO,qm hm1])
    have dp:(rows.take m1++(rows.drop m2).take (rows.length - m1)).length=rows.length:=by simp;omega
    refine hk _ ⟨some ⟨b3,0,Option.none⟩,cap,by rw[dp],by rw[dp];exact h1,fun r hr=>?_,.inr ⟨b3,_,rfl,ab.cH _ _ _,by rw[kg.2];exact h5,?_⟩⟩ ⟨fun b' cs' bl aH=>?_,rfl,fun b' bl => .inl bl,rfl⟩
    · rcases gY.1 hr with hr | hr
      · exact h2 r (ru hr)
      · exact h2 r (B0 (ru hr))
    · have e5:=kg.1;rw[oP] at e5;rw[dp,←hmk,wS,e5,od]
    · have:b' ≠ b3:=by rintro rfl;exact aH rfl
      rw[ab.cN _ _ this];exact bl
theorem dd.vX {σ:ab} {k:Nat} {v:V} {rows:List (List V)} {K:V→Prop} (h:dd σ k v rows) (hk:K (.int .i64 rows.length)):vX v K:=by
  obtain⟨a,cap,rfl,_⟩:=h;exact hk
theorem dd.vM {σ:ab} {k:Nat} {v:V} {rows:List (List V)} {K:V→Prop} {ik:IntKind} {j:Nat} {c:List V} (h:dd σ k v rows) (hj:rows[j]?=some c)
    (hk:∀b cs rest,mf v=some b→σ.box b=some cs→cs.drop (j*k)=c++rest→K (.ptr (.out b) (j*k))):vM k v (.int ik (j:Nat)) K:=by
  have:=h.idx (H:=fun u _=>K u) (i:=ik) (j:=(j:Nat)) (by omega) (by simpa using hj) (fun b cs rest h1 h2 h3=>by
    have:=hk b cs rest h1 h2 (by simpa using h3)
    simpa using this)
  obtain⟨a,cap,rfl,h1,h2,h3⟩:=h;have ag:=(dj.1 hj).1
  rcases h3 with h3 | ⟨b,cs,rfl,h4,h5,h6⟩
  · omega
  · exact⟨ik,j,rfl,this.1,this.2.1,this.2.2⟩
section
variable {r:Rl} {i j k:Nat}
end
section
variable {f:aV} {a b a' b' : aU}
end
section
variable {s:a_} {a b a' b' : aN}
end
section
variable {s:ar} {lat:Nat} {v w:List aN}
end
def delta (l:List Tok) (i:Nat):Int:=(if closing (dX l i)≠0 then 1 else 0) - (if kI (dX l i)=true then 1 else 0)
theorem pN {l:List Tok} {x n i:Nat} {d:Int}:gI l x (n+1) i d=if d+delta l i=0 then i else gI l x n (i+1) (d+delta l i):=by
  simp only[gI,delta];have e:d+(if closing (dX l i)≠0 then 1 else 0) - (if kI (dX l i)=true then 1 else 0)=d+((if closing (dX l i)≠0 then 1 else 0) - (if kI (dX l i)=true then 1 else 0)):=by omega
  rw[e];rfl
theorem Pt (l:List Tok) (i:Nat) : -1≤delta l i:=by unfold delta;split<;>split<;>omega
theorem zD {l:List Tok} {i:Nat} (h:closing (dX l i)≠0):delta l i=1:=by
  unfold delta
  have:kI (dX l i)=false:=by
    unfold closing at h;unfold kI;split at h
    · rename_i hk;rw[hk];decide
    · split at h
      · rename_i hk;rcases hk with hk | hk<;>rw[hk]<;>decide
      · exact absurd rfl h
  rw[this,aw h];simp
theorem I8 {l:List Tok} {x:Nat}:∀(n i:Nat) (d:Int),gI l x n i d=x∨i≤gI l x n i d
  | 0,_,_=>.inl rfl
  | n + 1, i, d => by
    rw[pN];split
    · exact .inr (bt _)
    · rcases I8 n (i+1) (d+delta l i) with h | h
      · exact .inl h
      · exact .inr (by omega)
theorem scan {l:List Tok} {x j:Nat}:∀(n i:Nat) (d:Int),i+n=l.length→1≤d→x<i→i≤j→j<gI l x n i d→∃d',1≤d' ∧ gI l x n i d=gI l x (l.length - j) j d'
  | 0,i,d,_,_,hx,hj,h=>by simp only[gI] at h;omega
  | n + 1, i, d, hl, hd, hx, hj, h => by
    by_cases nM:i=j
    · subst nM;exact⟨d,hd,by rw[show l.length - i=n+1 by omega]⟩
    rw[pN] at h ⊢;split at h
    · omega
    · rename_i he;rw[ah he]
      have:=Pt l i
      exact scan n (i+1) _ (by omega) (by omega) (by omega) (by omega) h
theorem less {l:List Tok} {x y:Nat}:∀(n p:Nat) (a b:Int),1≤a→a<b→y<p→x<p→p≤gI l x n p b→gI l y n p a<gI l x n p b
  | 0,p,a,b,_,_,_,hx,h=>by simp only[gI] at h;omega
  | n + 1, p, a, b, ha, hb, hy, hx, h => by
    have hd:=Pt l p;simp only[pN] at h ⊢;rw[ah (show ¬b+delta l p=0 by omega)] at h ⊢;have h2:p+1≤gI l x n (p+1) (b+delta l p):=by rcases I8 (l:=l) (x:=x) n (p+1) (b+delta l p) with e | e<;>omega
    split
    · omega
    · exact less n (p+1) _ _ (by omega) (by omega) (by omega) (by omega) h2
theorem nest {l:List Tok} {i j:Nat} (hi:closing (dX l i)≠0) (hj:closing (dX l j)≠0) (h1:i<j) (h2:j<partner l i) (hl:i<l.length):partner l j<partner l i:=by
  have hp:=D5 hl;have e:partner l i=gI l i (l.length - i - 1) (i+1) 1:=by
    unfold partner;rw[show l.length - i=(l.length - i - 1)+1 by omega,pN,zD hi];simp
  rw[e] at h2;obtain⟨d,hd,e2⟩:=scan (l.length - i - 1) (i+1) 1 (by omega) (by omega) (by omega) (by omega) h2;have e3:gI l i (l.length - j) j d=gI l i (l.length - j - 1) (j+1) (d+1):=by
    rw[show l.length - j=(l.length - j - 1)+1 by omega,pN,zD hj,ah (by omega)];simp
  have e4:partner l j=gI l j (l.length - j - 1) (j+1) 1:=by
    unfold partner;rw[show l.length - j=(l.length - j - 1)+1 by omega,pN,zD hj];simp
  rw[e,e2,e3,e4];rw[e2,e3] at h2;exact less _ _ _ _ (by omega) (by omega) (by omega) (by omega) (by rcases I8 (l:=l) (x:=i) (l.length - j - 1) (j+1) (d+1) with e | e<;>omega)
def Wg (l:List Tok) (i to:Nat):Prop:=∀j,i≤j→j<to→closing (dX l j)≠0→partner l j<to
theorem EG {l:List Tok}:∀(n i to:Nat),to≤l.length→Wg l i to→bp (ng l n i to)≤to - i
  | 0,_,_,_,_=>by simp[ng,bp]
  | n + 1, i, to, hl, hw => by
    rw[ng];split
    · rename_i hi;split
      · rename_i hc;have hp:=D5 (l:=l) (i:=i) (by omega);have hq:=hw i (bt _) hi hc;have h1:=EG n (i+1) (partner l i) (by omega) fun j a b c=>nest hc c (by omega) b (by omega)
        have h2:=EG n (partner l i+1) to hl fun j a b c=>hw j (by omega) b c
        simp only[bp,Tree.many];omega
      · have h2:=EG n (i+1) to hl fun j a b c=>hw j (by omega) b c
        simp only[bp,Tree.many];omega
    · simp[bp]
def qp (t:Tok):Prop:=(t.kind=97∧dZ t.text=true)∨(t.kind≠97∧t.text=[UInt8.ofNat t.kind.toNat])
theorem AW:∀(n p:Nat) (r:List UInt8) (acc:List Tok),(∀t∈acc,qp t)→∀t∈(dB n p r acc).1,qp t
  | 0,_,r,acc,h=>by cases r<;>simpa [dB] using h
  | n+1,p,[],acc,h=>by simpa [dB] using h
  | n + 1, p, c :: r, acc, h => by
    simp only[dB];split
    · exact h
    · split
      · rename_i hr;refine AW n _ _ _ fun t ht=>?_
        rcases gY.1 ht with ht | ht
        · exact h t ht
        · rw[lb.1 ht];exact .inl ⟨rfl,hr.2⟩
      · split
        · rename_i hs;refine AW n _ _ _ fun t ht=>?_
          rcases gY.1 ht with ht | ht
          · exact h t ht
          · rw[lb.1 ht];refine .inr ⟨fun e=>?_,?_⟩
            · simp only at e;rw[e] at hs;revert hs;decide
            · simp
        · split
          · exact AW n _ _ _ h
          · simp
mutual
def Tree.Good:Tree→Prop
  | .mk t ks _=>qp t∧(closing t.kind=0→ks=[])∧dR ks
def dR:List Tree→Prop
  | []=>True
  | t::ts=>t.Good∧dR ts
end
theorem GA:∀{a b:List Tree},dR (a++b)↔dR a∧dR b
  | [],b=>by simp[dR]
  | t::ts,b=>by simp only[gN,dR,GA (a:=ts),FC]
theorem vl (t:Tree):t.Good↔qp t.tok∧(closing t.tok.kind=0→t.kids=[])∧dR t.kids:=by cases t;simp only[Tree.Good,Tree.tok,Tree.kids]
theorem EF {l:List Tok} (h:∀t∈l,qp t):∀(n i to:Nat),to≤l.length→dR (ng l n i to)
  | 0,_,_,_=>by simp[ng,dR]
  | n + 1, i, to, hl => by
    rw[ng];split
    · rename_i hi;have ht:qp (gV l i):=by
        have e:gV l i=l[i]:=by simp[gV,cc (show i<l.length by omega)]
        rw[e];exact h _ (eZ _)
      have hk:(gV l i).kind=dX l i:=by simp only[gV,dX];split<;>rfl
      split
      · rename_i hc;have hp:=D5 (l:=l) (i:=i) (by omega);simp only[dR,Tree.Good];exact⟨⟨ht,fun e=>absurd (hk▸e) hc,EF h n _ _ (by omega)⟩,EF h n _ _ hl⟩
      · simp only[dR,Tree.Good];exact⟨⟨ht,fun _=>trivial,trivial⟩,EF h n _ _ hl⟩
    · exact trivial
theorem ah2 (s:List UInt8):dR (nf (dJ s).1).1:=by
  unfold nf;split
  · exact trivial
  · exact EF (AW _ _ _ _ (by simp)) _ _ _ (bt _)
theorem Sj (s:List UInt8):bp (nf (dJ s).1).1≤s.length:=by
  have hl:=Si s;unfold nf;split
  · simp[bp]
  · have:=EG (l:=(dJ s).1) (dJ s).1.length 0 (dJ s).1.length (bt _) fun j _ hj _=>(D5 hj).2
    simp only;omega
theorem aoq {t:Tok} (h:qp t):t.text.length≤16:=by
  rcases h with ⟨_,h⟩ | ⟨_,h⟩
  · unfold dZ at h;simp only[bm,cq] at h;exact h.1
  · rw[h];simp
structure jT (r r' : ae) (seg:List Tree):Prop where
  ex:∃pre post,r.l=pre++seg++post∧r.at_=(pre.length:Nat)∧r'.at_=((pre++seg).length:Nat)
  l:r'.l=r.l
  b:r.bad=none
  b' : r'.bad=none
theorem jT.trans {r r' TS : ae} {a b:List Tree} (h:jT r r' a) (k:jT r' TS b):jT r TS (a++b):=by
  obtain⟨pre,post,e1,e2,e3⟩:=h.ex;obtain⟨Je,TC,f1,f2,f3⟩:=k.ex;refine⟨⟨pre,TC,?_,e2,?_⟩,k.l.trans h.l,h.b,k.b'⟩
  · have hl:(pre++a).length=Je.length:=by omega
    have:pre++a++post=Je ++ (b++TC):=by rw[←e1,←h.l,f1,eh]
    obtain⟨g1,g2⟩:=List.append_inj this hl;rw[e1,g2];simp
  · rw[f3];have hl:(pre++a).length=Je.length:=by omega
    simp only[bz] at hl ⊢;omega
theorem jT.good {r r' : ae} {a:List Tree} (h:jT r r' a) (hg:dR r.l):dR a:=by
  obtain⟨pre,post,e1,_,_⟩:=h.ex;rw[e1,GA,GA] at hg;exact hg.1.2
theorem n9 {r:ae} {k:Int} (h:(r.take k).2.bad=none):jT r (r.take k).2 [(r.take k).1]∧(r.take k).1.tok.kind=k:=by
  rcases r.mq k with ⟨hs,h1,h2,h3,h4⟩ | ⟨_,_,h1⟩
  · have b_ := hs;simp only[ae.sees,ae.ok,l6,bm,cq,wU] at b_;have ag:r.at_.toNat<r.l.length:=by omega
    have e:(r.take k).1=r.l[r.at_.toNat]:=by simp[ae.take,hs,List.getD,cc ag]
    refine⟨⟨⟨r.l.take r.at_.toNat,r.l.drop (r.at_.toNat+1),?_,?_,?_⟩,r.ec k,b_.1,h2⟩,?_⟩
    · rw[e,eh,Fp,←jU ag,my]
    · rw[gO];omega
    · rw[h1,bz,gO,jn];omega
    · rw[e]
      have:=b_.2.2
      rw[cc ag] at this;simpa using this
  · exact absurd h h1
def gK (l:List Tree):Nat:=26*bp l
theorem sy (a b:List Tree):gK (a++b)=gK a+gK b:=by simp only[gK,Iz];omega
theorem pZ (t:Tree):gK [t]=26+gK t.kids:=by simp only[gK,bp,Sy];omega
theorem Vj {t:Tok} (ht:t.kind≠97):∀(a:List Tok) (k:Option Int) (b:List Tok),p7 k (a++t::b)=p7 k a++t.text++p7 none b
  | [], k, b => by
    simp only[iS,p7,ht,and_false,ey];cases b with
    | nil=>rfl
    | cons u us=>simp only[p7,aG,ht,false_and,ey,reduceCtorEq]
  | x::xs,k,b=>by simp only[gN,p7,Vj ht xs (some x.kind) b,eh]
theorem J6 {t:Tok} (ht:t.kind≠97) (a b:List Tok):jQ (a++t::b)=jQ a++t.text++jQ b:=Vj ht a none b
theorem zN:∀a b:List Tree,bu (a++b)=bu a++bu b
  | [],b=>rfl
  | t::ts,b=>by simp only[gN,bu,zN ts b,eh]
theorem Gm (t:Tree):bu [t]=t.tok::(if closing t.tok.kind≠0 then bu t.kids++[⟨closing t.tok.kind,[UInt8.ofNat (closing t.tok.kind).toNat],t.fin⟩] else []):=by
  cases t;simp only[bu,Tree.flat,dD,Tree.tok,Tree.kids,Tree.fin];rfl
theorem wB {t:Tree} (hk:t.tok.kind≠97) (hc:closing t.tok.kind=0) (a b:List Tree):jQ (bu (a++[t]++b))=jQ (bu a)++t.tok.text++jQ (bu b):=by
  rw[zN,zN,Gm,hc];simp only[ne_eq,IM,ey,eh,Fp];rw[←eh (jQ (bu a))];exact J6 hk _ _
theorem aoh {t:Tree} (hk:t.tok.kind=97):jQ (bu [t])=t.tok.text:=by
  rw[Gm,hk,show closing 97=0 from rfl];simp[jQ,p7]
theorem J7 {t:Tree} (hc:closing t.tok.kind≠0):jQ (bu [t])=t.tok.text++jQ (bu t.kids)++[UInt8.ofNat (closing t.tok.kind).toNat]:=by
  have hk:t.tok.kind≠97:=fun e=>hc (by rw[e];rfl)
  have oB:closing t.tok.kind≠97:=by unfold closing;split;omega;split;omega;omega
  rw[Gm,aw hc];have h1:=J6 hk [] (bu t.kids++[⟨closing t.tok.kind,[UInt8.ofNat (closing t.tok.kind).toNat],t.fin⟩]);rw[iS] at h1;rw[h1,J6 oB];simp[jQ,p7]
def Sound {β:Type} (one:ae→β × ae) (T:β→List UInt8) (Q:β→Prop) (S:β→Nat):Prop :=
  ∀r,dR r.l→(one r).2.bad=none→∃seg,jT r (one r).2 seg∧jQ (bu seg)=T (one r).1∧Q (one r).1∧S (one r).1≤gK seg
theorem Qt {β:Type} {step:ae × List β→ae × List β}:∀{n:Nat} {a:ae × List β},(lu step n a).1.bad=none→a.1.bad=none
  | 0,a,h=>h
  | n + 1, a, h => by
    rw[lu] at h;split at h
    · rename_i hs;simp only[ae.sees,ae.ok,bm,wU] at hs;exact hs.1
    · exact h
section
variable {β:Type} {one:ae→β × ae} {T:β→List UInt8} {Q:β→Prop} {S:β→Nat}
structure Has (T:β→List UInt8) (Q:β→Prop) (S:β→Nat) (seg:List Tree) (xs:List β):Prop where
  t:jQ (bu seg)=cn (xs.map T)
  q:∀x∈xs,Q x
  s:(xs.map S).sum≤gK seg
  n:0<xs.length
theorem Qv (hs:Sound one T Q S) {r:ae} (hg:dR r.l):∀{n:Nat} {a:ae × List β} {seg:List Tree},jT r a.1 seg→Has T Q S seg a.2→(lu (bU one) n a).1.bad=none →
    ∃UL,jT r (lu (bU one) n a).1 UL ∧ Has T Q S UL (lu (bU one) n a).2
  | 0,a,seg,h,k,_=>⟨seg,h,k⟩
  | n + 1, a, seg, h, k, hb => by
    rw[lu] at hb ⊢;split
    · rename_i agc;rw[aw agc] at hb;have fK:=Qt hb;have hgl:dR (a.1.take 44).2.l:=by rw[ae.ec,h.l];exact hg
      obtain⟨sg,e1,e2,e3,e4⟩:=hs (a.1.take 44).2 hgl fK;obtain⟨t1,t2⟩:=n9 e1.b;refine Qv hs hg (seg:=seg++[(a.1.take 44).1]++sg) ?_ ?_ hb
      · exact(h.trans t1).trans e1
      · have oA:dR [(a.1.take 44).1]:=t1.good (by rw[h.l];exact hg);have bw:=((vl _).1 oA.1).1;have vF:(a.1.take 44).1.tok.text=[44]:=by
          rcases bw with ⟨h1,_⟩ | ⟨_,h1⟩
          · omega
          · rw[h1,t2];rfl
        refine⟨?_,?_,?_,?_⟩
        · rw[wB (by rw[t2];decide) (by rw[t2];rfl),k.t,e2,vF];simp only[bU,fw,bL,cX];rw[RU,aw (by simpa using k.n)]
        · intro x hx
          rcases gY.1 hx with hx | hx
          · exact k.q x hx
          · rw[lb.1 hx];exact e3
        · have:=k.s
          simp only[bU,fw,bL,cX,List.sum_append,oe,pd,sy];omega
        · simp[bU]
    · exact⟨seg,h,k⟩
theorem U3 (hs:Sound one T Q S) {r:ae} (hg:dR r.l) (hb:(dQ (bU one) r).1.bad=none):∃seg,jT r (dQ (bU one) r).1 seg∧Has T Q S seg (dQ (bU one) r).2:=by
  unfold dQ at hb ⊢;have fK:=Qt hb;obtain⟨sg,e1,e2,e3,e4⟩:=hs r hg fK;refine Qv hs hg e1 ?_ hb;refine⟨?_,?_,?_,?_⟩
  · simp only[bU,iS,bL,cX,cn,List.flatMap_nil,dD];exact e2
  · intro x hx;simp only[bU,iS,lb] at hx;rw[hx];exact e3
  · simp only[bU,iS,bL,cX,oe,pd];omega
  · simp[bU]
theorem FT {i:ae} (h:i.close.bad=none):i.bad=none∧¬i.at_<i.l.length:=by
  unfold ae.close at h;split at h
  · exact absurd h i.zK
  · rename_i hc;refine⟨h,fun hl=>hc ⟨by simp[ae.ok,h],hl⟩⟩
theorem Ok {t:Tree} {i:ae} {seg:List Tree} (h:jT t.inner i seg) (hc:i.close.bad=none):seg=t.kids:=by
  obtain⟨pre,post,e1,e2,e3⟩:=h.ex;obtain⟨_,h2⟩:=FT hc;have hp:pre=[]:=by
    have:t.inner.at_=0:=rfl
    rw[this] at e2;exact uT.1 (by omega)
  subst hp;have hq:post=[]:=by
    rw[h.l,e3,e1] at h2;simp only[iS,bz] at h2;exact uT.1 (by omega)
  subst hq;simpa [Tree.inner] using e1.symm
theorem OS (hs:Sound one T Q S) {k:Int} {e:Bool} {r:ae} (hg:dR r.l) (hb:(r.bracket (bU one) k e).2.bad=none) :
    ∃t,jT r (r.bracket (bU one) k e).2 [t]∧t.tok.kind=k∧jQ (bu t.kids)=cn ((r.bracket (bU one) k e).1.1.map T)∧(∀x∈(r.bracket (bU one) k e).1.1,Q x)∧((r.bracket (bU one) k e).1.1.map S).sum≤gK t.kids ∧
      (e=false→0<(r.bracket (bU one) k e).1.1.length):=by
  unfold ae.bracket at hb ⊢;split
  · rename_i bw;rw[aw bw] at hb;have fK:(r.take k).2.bad=none:=by simpa [ae.ok] using bw
    obtain⟨t1,t2⟩:=n9 fK;have oA:(r.take k).1.Good:=(t1.good hg).1;have x_:dR (r.take k).1.kids:=((vl _).1 oA).2.2;have cR:(ae.inside (bU one) e (r.take k).1).1.close.bad=none:=hb;refine⟨(r.take k).1,⟨t1.ex,t1.l,t1.b,hb⟩,t2,?_⟩;simp only;generalize (r.take k).1=t at *;unfold ae.inside at cR ⊢;split
    · rename_i he;have hk:t.kids=[]:=uT.1 he.2;rw[hk];refine⟨rfl,by simp,by simp,fun h=>?_⟩;rw[h] at he;simp at he
    · rename_i he;rw[ah he] at cR;obtain⟨seg,e1,e2⟩:=U3 hs (r:=t.inner) x_ (FT cR).1;have HM:=Ok e1 cR;subst HM;exact⟨e2.t,e2.q,e2.s,fun _=>e2.n⟩
  · rename_i bw;rw[ah bw] at hb;exact absurd hb (by simpa [ae.ok] using bw)
end
end Go.Am
